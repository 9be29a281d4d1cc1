/- signatoryref01's Check, Encode, Size and codec.Size by their contracts. -/
import Derived.Test.YtjhecmmbpmpmgaaCRefD
import Derived.Test.YtjhecmmbpmpmgaaCRefE
import Derived.Test.YtjhecmmbpmpmgaaCEncode
namespace Go.Proofs.Ytjhecmmbpmpmgaa
open Go.RowKit Go.Lib

theorem ck_dep {x : V} {d : Nat} (h : x.fm = some d) : ckOf x.fm = if x.dep > 16 then 2 else 0 := by rw [dep_fm x d h, h]; rfl

set_option maxRecDepth 100000 in
set_option maxHeartbeats 800000 in
theorem ref_check {x : V} {v : Value} {S : Nat → Prop} {w : World} (hx : x.sz ≤ 1000000) (hR : Rd w S x v) (hS : ∀ b, S b → b < w.heap.size) :
    Calls Try.prog 17 #[v] w fun e w' => e = .returned (.int .i64 (ckOf x.fm)) ∧ Below w.heap.size w w' := by
  obtain ⟨k, n, s, l⟩ := x
  obtain ⟨A, cap, rfl, hk, hn, hs, hl, hc, ha⟩ := hR.head
  have fr : ∀ w0, Below w.heap.size w w0 → Rd w0 S (.mk k n s l) (.agg #[.int .i64 k, .int .i64 n, .string s, .slice A l.length cap]) ∧ ∀ b, S b → b < w0.heap.size := fun w0 h0 => ⟨hR.frame (fun b hb' => h0.block b (hS b hb')) (fun _ h => h), fun b hb' => by have := hS b hb'; have := h0.size; omega⟩
  have HF : Hid (∀ w0, Below w.heap.size w w0 → Calls Try.prog 29 #[.agg #[.int .i64 k, .int .i64 n, .string s, .slice A l.length cap]] w0 fun e w' => e = .returned (.bool (V.mk k n s l).fm.isSome) ∧ Below w0.heap.size w0 w') :=
    Lib.hid fun w0 h0 => rformed_upTo 1000000 (by omega) _ _ S w0 hx (fr w0 h0).1 (fr w0 h0).2
  have HD : Hid (∀ w0, Below w.heap.size w w0 → Calls Try.prog 30 #[.agg #[.int .i64 k, .int .i64 n, .string s, .slice A l.length cap]] w0 fun e w' => e = .returned (.int .i64 (V.mk k n s l).dep) ∧ Below w0.heap.size w0 w') :=
    Lib.hid fun w0 h0 => rdepth_upTo 1000000 (by omega) _ _ S w0 hx (fr w0 h0).1 (fr w0 h0).2
  have hbox : (w.alloc (Obj.cells #[Value.int IntKind.i64 k, Value.int IntKind.i64 n, Value.string s, Value.slice A l.length cap] 24)).heap[w.heap.size]? = some (.cells #[Value.int IntKind.i64 k, Value.int IntKind.i64 n, Value.string s, Value.slice A l.length cap] 24 (0, 0)) := heap_alloc_new _ _
  have hb0 := below1 (w := w) (Obj.cells #[Value.int IntKind.i64 k, Value.int IntKind.i64 n, Value.string s, Value.slice A l.length cap] 24)
  have hcd : ∀ d, (V.mk k n s l).fm = some d → ckOf (V.mk k n s l).fm = if (V.mk k n s l).dep > 16 then 2 else 0 := fun d h => ck_dep h
  clear hR fr hx hs hl hc ha
  generalize (V.mk k n s l).fm = r at *
  generalize (V.mk k n s l).dep = dd at *
  cases r with
  | none =>
    clear hcd
    go_enter Try.func17, Try.ntmps17
    go_wp2_with fail
    refine (HF.out _ hb0).mono ?_
    rintro e w1 ⟨rfl, hb1⟩
    simp only [Option.isSome]
    go_wp2_with fail
    go_ret
    exact ⟨rfl, hb0.trans (hb1.mono (by simp))⟩
  | some d =>
    have hcc := hcd d rfl
    have HCC := Lib.hid hcc
    clear hcd hcc
    rw [HCC.out]
    have Hbox := Lib.hid hbox; have Hb0 := Lib.hid hb0; clear hbox hb0
    by_cases h16 : dd > 16
    · have t16 : decide ((dd : Int) > 16) = true := by simp; omega
      go_enter Try.func17, Try.ntmps17
      go_wp2_with fail
      refine (HF.out _ Hb0.out).mono ?_
      rintro e w1 ⟨rfl, hb1⟩
      simp only [Option.isSome]
      have hbx1 : w1.heap[w.heap.size]? = some (.cells #[Value.int IntKind.i64 k, Value.int IntKind.i64 n, Value.string s, Value.slice A l.length cap] 24 (0, 0)) := by rw [hb1.block _ (by simp)]; exact Hbox.out
      have v0 : w1.cell? ⟨w.heap.size, 0, none⟩ = some (.int .i64 k) := by rw [cell_of_row w1 _ 0 _ _ _ hbx1]; rfl
      have v1 : w1.cell? ⟨w.heap.size, 1, none⟩ = some (.int .i64 n) := by rw [cell_of_row w1 _ 1 _ _ _ hbx1]; rfl
      have v2 : w1.cell? ⟨w.heap.size, 2, none⟩ = some (.string s) := by rw [cell_of_row w1 _ 2 _ _ _ hbx1]; rfl
      have v3 : w1.cell? ⟨w.heap.size, 3, none⟩ = some (.slice A l.length cap) := by rw [cell_of_row w1 _ 3 _ _ _ hbx1]; rfl
      have Hb1 := Lib.hid (Hb0.out.trans (hb1.mono (by simp)))
      clear hbx1 hb1
      go_wp2_with fail
      refine (HD.out _ Hb1.out).mono ?_
      rintro e w2 ⟨rfl, hb2⟩
      go_wp2_with fail
      go_ret
      exact ⟨rfl, Hb1.out.trans (hb2.mono Hb1.out.size)⟩
    · have t16 : decide ((dd : Int) > 16) = false := by simp; omega
      go_enter Try.func17, Try.ntmps17
      go_wp2_with fail
      refine (HF.out _ Hb0.out).mono ?_
      rintro e w1 ⟨rfl, hb1⟩
      simp only [Option.isSome]
      have hbx1 : w1.heap[w.heap.size]? = some (.cells #[Value.int IntKind.i64 k, Value.int IntKind.i64 n, Value.string s, Value.slice A l.length cap] 24 (0, 0)) := by rw [hb1.block _ (by simp)]; exact Hbox.out
      have v0 : w1.cell? ⟨w.heap.size, 0, none⟩ = some (.int .i64 k) := by rw [cell_of_row w1 _ 0 _ _ _ hbx1]; rfl
      have v1 : w1.cell? ⟨w.heap.size, 1, none⟩ = some (.int .i64 n) := by rw [cell_of_row w1 _ 1 _ _ _ hbx1]; rfl
      have v2 : w1.cell? ⟨w.heap.size, 2, none⟩ = some (.string s) := by rw [cell_of_row w1 _ 2 _ _ _ hbx1]; rfl
      have v3 : w1.cell? ⟨w.heap.size, 3, none⟩ = some (.slice A l.length cap) := by rw [cell_of_row w1 _ 3 _ _ _ hbx1]; rfl
      have Hb1 := Lib.hid (Hb0.out.trans (hb1.mono (by simp)))
      clear hbx1 hb1
      go_wp2_with fail
      refine (HD.out _ Hb1.out).mono ?_
      rintro e w2 ⟨rfl, hb2⟩
      go_wp2_with fail
      go_ret
      exact ⟨rfl, Hb1.out.trans (hb2.mono Hb1.out.size)⟩

theorem ref_enc_upTo (N : Nat) (hN : N ≤ 1000000) : RefEncUpTo N := by
  induction N with
  | zero => intro x v S w hx; cases x; rw [V.sz_mk] at hx; omega
  | succ N ih =>
    intro x v S w hx hf hR hS hl
    obtain ⟨k, n, s, l⟩ := x
    obtain ⟨A, cap, rfl, hk, hn, hs, _, hc, ha⟩ := hR.head
    rcases fm_kind hf with hkind | hkind | hkind
    · obtain ⟨rfl, -, -⟩ := hkind
      have he : (V.mk 1 n s l).enc = 1 :: num (unsg n).toNat := by rw [V.enc, if_pos rfl]
      rw [he]; exact ref_enc_int n s A _ cap w hn
    · obtain ⟨rfl, -, -⟩ := hkind
      have he : (V.mk 2 n s l).enc = 2 :: (num s.size ++ s.data.toList) := by rw [V.enc, if_neg (by decide), if_pos rfl]
      have hsl : s.data.toList.length = s.size := rfl
      rw [he]; exact ref_enc_text n s A _ cap w (by rw [he] at hl; simp only [List.length_cons, List.length_append, hsl] at hl; omega)
    · obtain ⟨rfl, rfl, hs0, hfl⟩ := hkind
      have he : (V.mk 3 0 s l).enc = 3 :: (num l.length ++ encL l) := by rw [V.enc, if_neg (by decide), if_neg (by decide)]
      rw [he]; exact ref_enc_list N (ih (by omega)) (by omega) s l A cap S w hx hfl hR hS (by rw [he] at hl; simp only [List.length_cons, List.length_append] at hl; omega)

theorem encode_any {x : V} {v : Value} {S : Nat → Prop} {w : World} (hx : x.sz ≤ 1000000) (hR : Rd w S x v) (hS : ∀ b, S b → b < w.heap.size) (hlen : x.enc.length < 700000000000) :
    Calls Try.prog 12 #[v] w (EncPost x w) := by
  by_cases h : ckOf x.fm = 0
  · exact encode_yes x v S w hx hR hS h hlen
  · exact encode_no x v S w hx hR hS h

end Go.Proofs.Ytjhecmmbpmpmgaa
