/- signatoryref01.encode by its contract: lists. -/
import Derived.Test.YtjhecmmbpmpmgaaCRefC
namespace Go.Proofs.Ytjhecmmbpmpmgaa
open Go.RowKit Go.Lib

def RefEncUpTo (N : Nat) : Prop := ∀ (x : V) (v : Value) (S : Nat → Prop) (w : World), x.sz ≤ N → x.fm ≠ none → Rd w S x v → (∀ b, S b → b < w.heap.size) → x.enc.length < 700000000000 →
    Calls Try.prog 27 #[v] w (NewBytes x.enc w)

set_option maxRecDepth 100000 in
set_option maxHeartbeats 1600000 in
theorem ref_enc_list (N : Nat) (ih : RefEncUpTo N) (hN : N < 1000000) (s : ByteArray) (l : List V) (A : Option Addr) (cap : Nat) (S : Nat → Prop) (w : World) (hsz : (V.mk 3 0 s l).sz ≤ N + 1) (hf : fmFrom 0 l ≠ none)
    (hR : Rd w S (.mk 3 0 s l) (.agg #[.int .i64 3, .int .i64 0, .string s, .slice A l.length cap])) (hS : ∀ b, S b → b < w.heap.size) (hx : (encL l).length < 700000000000) :
    Calls Try.prog 27 #[.agg #[.int .i64 3, .int .i64 0, .string s, .slice A l.length cap]] w (NewBytes (3 :: (num l.length ++ encL l)) w) := by
  obtain ⟨i0, hi, hz0, hz1, hz2⟩ := info_parts Try.infoU8
  have hnl := num_len l.length
  have hlen : l.length < 1000001 := by have := V.sz_len (k := 3) (n := 0) (s := s) (l := l); omega
  have hIH := Lib.hid ih; clear ih
  have hwl := wrap_u64_len l.length (by omega)
  go_enter Try.func27, Try.ntmps27
  go_wp2_with fail
  refine (ref_numeral_int _ _ (by omega) (by omega)).mono ?_
  rintro e w1 ⟨v1, rfl, hown1, hb1, hnew1⟩
  rw [Int.toNat_natCast] at hown1
  obtain ⟨g1, c1, rfl⟩ := own_form hown1 (num_pos _)
  have hcs := hown1.cells (g := g1) rfl
  have hb0 := below2 (w := w) (Obj.cells #[.int .i64 3, .int .i64 0, .string s, .slice A l.length cap] 24) (Obj.cells #[.int .u8 3] 5)
  have ho := own_keep (own_lit2 (w := w.alloc (Obj.cells #[.int .i64 3, .int .i64 0, .string s, .slice A l.length cap] 24)) (c := 3) (z := 3) (g := w.heap.size + 1) rfl (by simp)) hb1
  have hbox : w1.heap[w.heap.size]? = some (.cells #[.int .i64 3, .int .i64 0, .string s, .slice A l.length cap] 24 (0, 0)) := by
    rw [hb1.block _ (by simp; omega), Below.heap_alloc _ _ _ (by simp)]; exact heap_alloc_new _ _
  have hb01 := hb0.trans (hb1.mono (by simp; omega))
  have hsz1 : w.heap.size + 2 ≤ w1.heap.size := by have := hb1.size; simpa using this
  clear hb0 hb1 hown1 hnew1
  go_wp2_with (at_builtin; refine wpList_app _ rfl _ _ 27 rfl 5 i0 (.int .u8 0) 1 1 Try.underlying27 hi hz0 hz1 hz2 rfl (by decide) _ _ _ rfl ho ⟨g1, 0, none⟩ _ c1 (bc (num l.length)) rfl (by rw [bc_len, Nat.mul_one]) hcs bc_one (by unfold maxLen; omega) (by omega) ?_; intro v2 w2 hown2 hwr2 _)
  have hbox2 : w2.heap[w.heap.size]? = some (.cells #[.int .i64 3, .int .i64 0, .string s, .slice A l.length cap] 24 (0, 0)) := by
    rw [hwr2.grown.block _ (by omega) (by intro e; have e' : some w.heap.size = some (w.heap.size + 1) := e; injection e' with e'; omega)]; exact hbox
  have hvn : ∀ k, (Value.slice (some ⟨w.heap.size + 1, 0, none⟩) 1 1).ownBlock = some k → w.heap.size + 1 ≤ k := fun k hk => by have hk' : some (w.heap.size + 1) = some k := hk; injection hk' with hk'; omega
  have hn2 : ∀ k, v2.ownBlock = some k → w.heap.size + 1 ≤ k := fun k hk => by
    rcases hwr2.fresh with h | h
    · exact hvn k (h ▸ hk)
    · have := h k hk; omega
  have hb02 := hb01.trans (hwr2.toBelow (by omega) (fun k hk => by have := hvn k hk; omega))
  have ho2 : w2.ownsRow 0 5 1 v2 (3 :: (num l.length ++ encL (l.take 0))).length (bc (3 :: (num l.length ++ encL (l.take 0)))) := by
    rw [show bc (3 :: (num l.length ++ encL (l.take 0))) = bc [3] ++ bc (num l.length) from by simp [bc, encL]]
    simpa [encL, Nat.add_comm] using hown2
  clear hbox hb01 hwr2 hown2 ho hcs hvn
  go_loopw [3, 4] (fun b i wr => ∃ (k : Nat) (ys : List UInt8), k ≤ l.length ∧ i = .int .i64 k ∧ wr.ownsRow 0 5 1 b ys.length (bc ys) ∧ ys = 3 :: (num l.length ++ encL (l.take k)) ∧ Below w.heap.size w wr ∧ (∀ k, b.ownBlock = some k → w.heap.size + 1 ≤ k) ∧
      wr.heap[w.heap.size]? = some (.cells #[.int .i64 3, .int .i64 0, .string s, .slice A l.length cap] 24 (0, 0))) (fun _ i _ => l.length - (intOf i).toNat)
  case atStart => exact ⟨0, _, by omega, rfl, ho2, rfl, hb02, hn2, hbox2⟩
  case round =>
    obtain ⟨k, ys, hk, rfl, ho, hys, hb, hnb, hbx⟩ := hrel
    have v3 : wr.cell? ⟨w.heap.size, 3, none⟩ = some (Value.slice A l.length cap) := by rw [cell_of_row wr _ 3 _ _ _ hbx]; rfl
    have hws : w.heap.size < wr.heap.size := (Array.getElem?_eq_some_iff.1 hbx).1
    by_cases hlt : k < l.length
    · have t1 : decide (k < l.length) = true := by simpa using hlt
      obtain ⟨b, off, k', n', s', l', A', cap', hxk, rfl, hbS, h4, hR'⟩ := hR.at k hlt
      have hbB : b < w.heap.size := hS b hbS
      have hml := enc_mem_le l k hlt
      have HC : Hid (Calls Try.prog 27 #[.agg #[.int .i64 k', .int .i64 n', .string s', .slice A' l'.length cap']] wr (NewBytes l[k].enc wr)) :=
        Lib.hid (hIH.out l[k] _ S wr (by have := V.sz_mem (k := 3) (n := 0) (s := s) (List.getElem_mem hlt); omega) (fmFrom_mem l 0 k hlt hf) (by rw [hxk]; exact hR'.frame (fun b hb' => hb.block b (hS b hb')) (fun _ h => h)) (fun b hb' => by have := hS b hb'; omega) (by omega))
      have hep := enc_pos l[k]
      have hys' : ys ++ l[k].enc = 3 :: (num l.length ++ encL (l.take (k + 1))) := by rw [hys, encL_take_succ l k hlt]; simp
      have hyl : ys.length + l[k].enc.length < 800000000000 := by
        have := congrArg List.length hys'; simp at this ⊢
        have := encL_take_le l (k + 1); omega
      have Hys' := Lib.hid hys'
      obtain ⟨c0, c1, c2, c3⟩ := h4
      rw [← hb.cell (p := ⟨b, off + k * 4, none⟩) hbB] at c0
      rw [← hb.cell (p := ⟨b, off + k * 4 + 1, none⟩) hbB] at c1
      rw [← hb.cell (p := ⟨b, off + k * 4 + 2, none⟩) hbB] at c2
      rw [← hb.cell (p := ⟨b, off + k * 4 + 3, none⟩) hbB] at c3
      have Hb := Lib.hid hb; have Hnb := Lib.hid hnb; have Hbx := Lib.hid hbx; have Ho := Lib.hid ho
      generalize l[k].enc = xe at *
      clear hxk hR' hys hys' hb hnb hbx ho ho2 hb02 hn2 hbox2
      go_wp2_with fail
      refine HC.out.mono ?_
      rintro e w4 ⟨v4, rfl, hown4, hb4, hnew4⟩
      obtain ⟨g4, c4, rfl⟩ := own_form hown4 hep
      have hcs := hown4.cells (g := g4) rfl
      have ho4 := own_keep Ho.out hb4
      have Hb4 := Lib.hid hb4
      clear hb4 hown4
      go_wp2_with (at_builtin; refine wpList_app _ rfl _ _ 27 rfl 5 i0 (.int .u8 0) 1 1 Try.underlying27 hi hz0 hz1 hz2 rfl (by decide) _ _ _ rfl ho4 ⟨g4, 0, none⟩ _ c4 (bc xe) rfl (by rw [bc_len, Nat.mul_one]) hcs bc_one (by unfold maxLen; omega) (by omega) ?_; intro v5 w5 hown5 hwr5 _)
      have Hown5 := Lib.hid hown5; have Hwr5 := Lib.hid hwr5
      clear hown5 hwr5 hcs ho4
      go_wp2_with fail
      go_roundw
      case rel =>
        have h4s := Hb4.out.size
        have hg5 : w5.heap[w.heap.size]? = w4.heap[w.heap.size]? := Hwr5.out.grown.block _ (by omega) (by intro e; have := Hnb.out _ e.symm; omega)
        refine ⟨k + 1, _, by omega, by go_num, by rw [← Hys'.out, bc_append, List.length_append]; exact Hown5.out, rfl, Hb.out.trans ((Hb4.out.mono (by omega)).trans (Hwr5.out.toBelow (by omega) (fun k hk => by have := Hnb.out k hk; omega))), fun k hk => ?_, ?_⟩
        · rcases Hwr5.out.fresh with h | h
          · exact Hnb.out k (h ▸ hk)
          · have := h k hk; omega
        · rw [hg5, Hb4.out.block _ hws]; exact Hbx.out
      case measure => simp [intOf]; omega
    · have hkl : k = l.length := by omega
      have t1 : decide (k < l.length) = false := by simpa using hlt
      subst hkl
      rw [List.take_length] at hys
      subst hys
      have Hb := Lib.hid hb
      clear hb
      go_wp2_with fail
      go_ret
      exact ⟨_, rfl, ho, Hb.out, fun k hk => by have := hnb k hk; omega⟩

end Go.Proofs.Ytjhecmmbpmpmgaa
