/- signatoryref01.Same by its contract. -/
import Derived.Test.YtjhecmmbpmpmgaaCRefA
import Derived.Test.YtjhecmmbpmpmgaaCSame
import Derived.StillTailTactics
namespace Go.Proofs.Ytjhecmmbpmpmgaa
open Go.RowKit Go.Lib

theorem four_c3 {w : World} {X : Nat} {x0 x1 x2 x3 : Value} (h : w.heap[X]? = some (.cells #[x0, x1, x2, x3] 24 (0, 0))) : w.cell? ⟨X, 3, none⟩ = some x3 := by rw [cell_of_row w X 3 _ _ _ h]; rfl

def RefSameUpTo (N : Nat) : Prop := ∀ (x y : V) (v u : Value) (S : Nat → Prop) (w : World), x.sz ≤ N → Rd w S x v → Rd w S y u → (∀ b, S b → b < w.heap.size) →
    Calls Try.prog 20 #[v, u] w fun e w' => e = .returned (.bool (x.same y)) ∧ Below w.heap.size w w'

set_option maxRecDepth 100000 in
set_option maxHeartbeats 800000 in
theorem rsame_no (k n k' n' : Int) (s s' : ByteArray) (A A' : Option Addr) (len cap len' cap' : Nat) (w : World) (h : ¬ (k = k' ∧ n = n' ∧ s = s' ∧ len = len')) :
    Calls Try.prog 20 #[.agg #[.int .i64 k, .int .i64 n, .string s, .slice A len cap], .agg #[.int .i64 k', .int .i64 n', .string s', .slice A' len' cap']] w fun e w' => e = .returned (.bool false) ∧ Below w.heap.size w w' := by
  by_cases h1 : k = k'
  · subst h1
    by_cases h2 : n = n'
    · subst h2
      by_cases h3 : s = s'
      · subst h3
        have h4 : ¬ len = len' := fun e => h ⟨rfl, rfl, rfl, e⟩
        have q : ((len : Int) != (len' : Int)) = true := by simp; omega
        clear h
        go_enter Try.func20, Try.ntmps20
        go_wp2_with fail
        all_goals go_ret
        all_goals exact ⟨rfl, below2 _ _⟩
      · have q : ¬ s.toList = s'.toList := fun e => h3 (ba_ext (by simpa [ByteArray.toList_eq] using e))
        clear h
        go_enter Try.func20, Try.ntmps20
        go_wp2_with fail
        all_goals go_ret
        all_goals exact ⟨rfl, below2 _ _⟩
    · have q : (n != n') = true := by simpa using h2
      clear h
      go_enter Try.func20, Try.ntmps20
      go_wp2_with fail
      all_goals go_ret
      all_goals exact ⟨rfl, below2 _ _⟩
  · have q : (k != k') = true := by simpa using h1
    clear h
    go_enter Try.func20, Try.ntmps20
    go_wp2_with fail
    all_goals go_ret
    all_goals exact ⟨rfl, below2 _ _⟩

set_option maxRecDepth 100000 in
set_option maxHeartbeats 1600000 in
theorem rsame_yes (N : Nat) (ih : RefSameUpTo N) (k n : Int) (s : ByteArray) (l l' : List V) (A A' : Option Addr) (cap cap' : Nat) (S : Nat → Prop) (w : World) (hsz : (V.mk k n s l).sz ≤ N + 1) (hN : N < 1000000) (hll : l.length = l'.length)
    (hR : Rd w S (.mk k n s l) (.agg #[.int .i64 k, .int .i64 n, .string s, .slice A l.length cap])) (hR' : Rd w S (.mk k n s l') (.agg #[.int .i64 k, .int .i64 n, .string s, .slice A' l'.length cap'])) (hS : ∀ b, S b → b < w.heap.size) :
    Calls Try.prog 20 #[.agg #[.int .i64 k, .int .i64 n, .string s, .slice A l.length cap], .agg #[.int .i64 k, .int .i64 n, .string s, .slice A' l'.length cap']] w fun e w' => e = .returned (.bool (sameL l l')) ∧ Below w.heap.size w w' := by
  have hlen : l.length < 1000001 := by have := V.sz_len (k := k) (n := n) (s := s) (l := l); omega
  have hIH := Lib.hid ih; clear ih
  have ht : ((l.length : Int) != (l'.length : Int)) = false := by simp [hll]
  have hle : l'.length ≤ l.length := by omega
  have hge : l.length ≤ l'.length := by omega
  clear hll
  go_enter Try.func20, Try.ntmps20
  go_wp2_with fail
  have hb0 := below2 (w := w) (Obj.cells #[.int .i64 k, .int .i64 n, .string s, .slice A l.length cap] 24) (Obj.cells #[.int .i64 k, .int .i64 n, .string s, .slice A' l'.length cap'] 24)
  have g1 : ((w.alloc (Obj.cells #[.int .i64 k, .int .i64 n, .string s, .slice A l.length cap] 24)).alloc (Obj.cells #[.int .i64 k, .int .i64 n, .string s, .slice A' l'.length cap'] 24)).heap[w.heap.size]? = some (.cells #[.int .i64 k, .int .i64 n, .string s, .slice A l.length cap] 24 (0, 0)) := by
    rw [Below.heap_alloc _ _ _ (by simp)]; exact heap_alloc_new _ _
  have g2 : ((w.alloc (Obj.cells #[.int .i64 k, .int .i64 n, .string s, .slice A l.length cap] 24)).alloc (Obj.cells #[.int .i64 k, .int .i64 n, .string s, .slice A' l'.length cap'] 24)).heap[w.heap.size + 1]? = some (.cells #[.int .i64 k, .int .i64 n, .string s, .slice A' l'.length cap'] 24 (0, 0)) := heap_alloc2_new _ _ _
  generalize ((w.alloc (Obj.cells #[.int .i64 k, .int .i64 n, .string s, .slice A l.length cap] 24)).alloc (Obj.cells #[.int .i64 k, .int .i64 n, .string s, .slice A' l'.length cap'] 24)) = w1 at *
  go_loopw [5] (fun i wr => ∃ k' : Nat, k' ≤ l.length ∧ i = .int .i64 k' ∧ sameL l l' = sameL (l.drop k') (l'.drop k') ∧ Below w.heap.size w wr ∧ wr.heap[w.heap.size]? = some (.cells #[.int .i64 k, .int .i64 n, .string s, .slice A l.length cap] 24 (0, 0)) ∧
    wr.heap[w.heap.size + 1]? = some (.cells #[.int .i64 k, .int .i64 n, .string s, .slice A' l'.length cap'] 24 (0, 0))) (fun i _ => l.length - (intOf i).toNat)
  case atStart => exact ⟨0, by omega, rfl, rfl, hb0, g1, g2⟩
  case round =>
    obtain ⟨i, hi, rfl, he, hb, hx1, hx2⟩ := hrel
    have v3 : wr.cell? ⟨w.heap.size, 3, none⟩ = some (.slice A l.length cap) := (four_c3 hx1)
    have u3 : wr.cell? ⟨w.heap.size + 1, 3, none⟩ = some (.slice A' l'.length cap') := (four_c3 hx2)
    have hws : w.heap.size + 1 < wr.heap.size := (Array.getElem?_eq_some_iff.1 hx2).1
    have He := Lib.hid he; have HX1 := Lib.hid hx1; have HX2 := Lib.hid hx2; clear he hx1 hx2 g1 g2 hb0
    by_cases hlt : i < l.length
    · obtain ⟨b1, off1, k1, n1, s1, l1, A1, cap1, hx1, rfl, hS1, h41, hR1⟩ := hR.at i hlt
      obtain ⟨b2, off2, k2, n2, s2, l2, A2, cap2, hx2, rfl, hS2, h42, hR2⟩ := hR'.at i (by omega)
      have hst := sameL_step l l' i hlt (by omega)
      have hxs : l[i].sz ≤ N := by have := V.sz_mem (k := k) (n := n) (s := s) (List.getElem_mem hlt); omega
      rw [hx1, hx2] at hst
      rw [hx1] at hxs
      have Hst := Lib.hid (He.out.trans hst)
      have fr : ∀ w0, Below w.heap.size w w0 → ∀ b, S b → w0.heap[b]? = w.heap[b]? := fun w0 h0 b hb' => h0.block b (hS b hb')
      have hw0 : ∀ w0, Below wr.heap.size wr w0 → Below w.heap.size w w0 := fun w0 h0 => hb.trans (h0.mono hb.size)
      have HC : Hid (∀ w0, Below wr.heap.size wr w0 → Calls Try.prog 20 #[.agg #[.int .i64 k1, .int .i64 n1, .string s1, .slice A1 l1.length cap1], .agg #[.int .i64 k2, .int .i64 n2, .string s2, .slice A2 l2.length cap2]] w0 fun e w' => e = .returned (.bool ((V.mk k1 n1 s1 l1).same (.mk k2 n2 s2 l2))) ∧ Below w0.heap.size w0 w') :=
        Lib.hid fun w0 h0 => hIH.out _ _ _ _ S w0 hxs (hR1.frame (fr w0 (hw0 w0 h0)) (fun _ h => h)) (hR2.frame (fr w0 (hw0 w0 h0)) (fun _ h => h)) (fun b hb' => by have := hS b hb'; have := h0.size; have := hb.size; omega)
      obtain ⟨a0, a1, a2, a3⟩ := h41
      obtain ⟨d0, d1, d2, d3⟩ := h42
      have z1 := hS b1 hS1
      have z2 := hS b2 hS2
      rw [← hb.cell (p := ⟨b1, off1 + i * 4, none⟩) z1] at a0
      rw [← hb.cell (p := ⟨b1, off1 + i * 4 + 1, none⟩) z1] at a1
      rw [← hb.cell (p := ⟨b1, off1 + i * 4 + 2, none⟩) z1] at a2
      rw [← hb.cell (p := ⟨b1, off1 + i * 4 + 3, none⟩) z1] at a3
      rw [← hb.cell (p := ⟨b2, off2 + i * 4, none⟩) z2] at d0
      rw [← hb.cell (p := ⟨b2, off2 + i * 4 + 1, none⟩) z2] at d1
      rw [← hb.cell (p := ⟨b2, off2 + i * 4 + 2, none⟩) z2] at d2
      rw [← hb.cell (p := ⟨b2, off2 + i * 4 + 3, none⟩) z2] at d3
      have tj : (i : Int) < (l.length : Int) := by omega
      have tj2 : (i : Int) < (l'.length : Int) := by omega
      have Hb := Lib.hid hb
      clear hx1 hx2 hst hR1 hR2 hb fr hw0
      generalize (V.mk k1 n1 s1 l1).same (.mk k2 n2 s2 l2) = sm at *
      cases sm
      all_goals
        go_wp2_with fail
        go_still_tail 10, (by kernel_rfl)
        change wpList _ _ _ _ _ wr.drew
        go_wp2_with fail
        refine (HC.out _ ((Below.refl _ _).drew)).mono ?_
        rintro e w4 ⟨rfl, hb4⟩
        go_wp2_with fail
      · go_ret
        exact ⟨ret_v (by rw [Hst.out]; rfl), Hb.out.trans (((Below.refl _ _).drew).trans (hb4.mono Hb.out.size))⟩
      · go_roundw
        case rel => exact ⟨i + 1, by omega, by go_num, by rw [Hst.out]; rfl, Hb.out.trans (((Below.refl _ _).drew).trans (hb4.mono Hb.out.size)), by rw [hb4.block _ (by simp; omega)]; exact HX1.out, by rw [hb4.block _ (by simp; omega)]; exact HX2.out⟩
        case measure => simp [intOf]; omega
    · have hil : i = l.length := by omega
      have hf : sameL l l' = true := by rw [He.out, hil, List.drop_of_length_le (Nat.le_refl _), List.drop_of_length_le (by omega), sameL]
      have Hf := Lib.hid hf; clear hf hil
      go_wp2_with fail
      go_ret
      exact ⟨ret_v (by rw [Hf.out]; first | done | rfl), hb⟩

theorem rsame_upTo (N : Nat) (hN : N ≤ 1000000) : RefSameUpTo N := by
  induction N with
  | zero => intro x y v u S w hx; cases x; rw [V.sz_mk] at hx; omega
  | succ N ih =>
    intro x y v u S w hsz hR hR' hS
    obtain ⟨k, n, s, l⟩ := x
    obtain ⟨k', n', s', l'⟩ := y
    obtain ⟨A, cap, rfl, _⟩ := hR.head
    obtain ⟨A', cap', rfl, _⟩ := hR'.head
    by_cases h : k = k' ∧ n = n' ∧ s = s' ∧ l.length = l'.length
    · obtain ⟨rfl, rfl, rfl, hll⟩ := h
      have hsm : (V.mk k n s l).same (.mk k n s l') = sameL l l' := by rw [V.same]; simp
      rw [hsm]
      exact rsame_yes N (ih (by omega)) k n s l l' A A' cap cap' S w hsz (by omega) hll hR hR' hS
    · have hsm : (V.mk k n s l).same (.mk k' n' s' l') = false := by
        cases hb : (V.mk k n s l).same (.mk k' n' s' l') with
        | false => rfl
        | true => rw [V.same_iff, V.mk.injEq] at hb; exact absurd ⟨hb.1, hb.2.1, hb.2.2.1, by rw [hb.2.2.2]⟩ h
      rw [hsm]
      exact rsame_no k n k' n' s s' A A' l.length cap l'.length cap' w h

theorem rsame_any {x y : V} {v u : Value} {S : Nat → Prop} {w : World} (hx : x.sz ≤ 1000000) (hR : Rd w S x v) (hR' : Rd w S y u) (hS : ∀ b, S b → b < w.heap.size) :
    Calls Try.prog 20 #[v, u] w fun e w' => e = .returned (.bool (x.same y)) ∧ Below w.heap.size w w' := rsame_upTo 1000000 (by omega) x y v u S w hx hR hR' hS

end Go.Proofs.Ytjhecmmbpmpmgaa
