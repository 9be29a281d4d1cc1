/- codec.Check, unsigned, signed, numeral by their contracts. -/
import Derived.Test.YtjhecmmbpmpmgaaDoorCFormed2
import Derived.Test.YtjhecmmbpmpmgaaDoorPNum
import Derived.Test.YtjhecmmbpmpmgaaDoorPRound
import Derived.Test.YtjhecmmbpmpmgaaDoorPApp
namespace Go.Proofs.YtjhecmmbpmpmgaaDoor
open Go.RowKit

set_option maxHeartbeats 400000 in
theorem check_any {x : V} {v : Value} {S : Nat → Prop} {w : World} (hx : x.sz ≤ 1000000) (hR : Rd w S x v) (hS : ∀ b, S b → b < w.heap.size) :
    Calls Tryd.prog 58 #[v] w fun e w' => e = .returned (.int .i64 (ckOf x.fm)) ∧ Below w.heap.size w w' := by
  obtain ⟨k, n, s, l⟩ := x
  obtain ⟨A, cap, rfl, hk, hn, hs, hl, hc, ha⟩ := hR.head
  have HC : Hid (∀ w0, Below w.heap.size w w0 → Calls Tryd.prog 78 #[.agg #[.int .i64 k, .int .i64 n, .string s, .slice A l.length cap]] w0 fun e w' => e = .returned (fmRes (V.mk k n s l).fm) ∧ Below w0.heap.size w0 w') :=
    Lib.hid fun w0 h0 => formed_any hx (hR.frame (fun b hb' => h0.block b (hS b hb')) (fun _ h => h)) (fun b hb' => by have := hS b hb'; have := h0.size; omega)
  have hle : ∀ d, (V.mk k n s l).fm = some d → d ≤ 1000000 := fun d h => by have := fm_le _ d h; omega
  clear hR hx
  generalize (V.mk k n s l).fm = r at *
  clear hs hl hc ha hS
  cases r with
  | none =>
    go_enter Tryd.func58, Tryd.ntmps58
    go_wp2_with fail
    refine (HC.out _ (below1 _)).mono ?_
    rintro e w1 ⟨rfl, hb1⟩
    simp only [fmRes]
    go_wp2_with fail
    go_ret
    exact ⟨rfl, (below1 _).trans (hb1.mono (by simp))⟩
  | some d =>
    have hd := hle d rfl
    clear hle
    by_cases h16 : d > 16
    all_goals
      go_enter Tryd.func58, Tryd.ntmps58
      go_wp2_with fail
      refine (HC.out _ (below1 _)).mono ?_
      rintro e w1 ⟨rfl, hb1⟩
      simp only [fmRes]
      go_wp2_with fail
      go_ret
      exact ⟨by simp [ckOf, h16], (below1 _).trans (hb1.mono (by simp))⟩

set_option maxHeartbeats 400000 in
theorem unsigned_any (n : Int) (w : World) (hn : Ok n) :
    Calls Tryd.prog 81 #[.int .i64 n] w fun e w' => e = .returned (.int .u64 (unsg n)) ∧ w' = w := by
  have hu := Lib.hid (unsg_bits n hn)
  obtain ⟨h0, h1⟩ := hn
  go_enter Tryd.func81, Tryd.ntmps81
  go_wp2
  go_ret
  exact ⟨ret_v (by rw [← hu.out]; rfl), rfl⟩

theorem Tryd.infoU8 : (Tryd.prog.info? 5).map (fun i => (i.zero, i.size, i.bytes)) = some (some (.int .u8 0), 1, 1) := by kernel_rfl

/-- The contract's end of whatever writes on at a row of bytes. -/
def RowPost (xs : List UInt8) (v : Value) (w : World) (e : Ending) (w' : World) : Prop :=
  ∃ v', e = .returned v' ∧ w'.ownsRow 0 5 1 v' xs.length (bc xs) ∧ Wr w v w' v'

theorem RowPost.of {xs ys : List UInt8} {v v1 : Value} {w w1 : World} {e : Ending} {w' : World} (hw : Wr w v w1 v1) (he : xs = ys) (h : RowPost xs v1 w1 e w') : RowPost ys v w e w' := by
  subst he; obtain ⟨v', h1, h2, h3⟩ := h; exact ⟨v', h1, h2, hw.trans h3⟩

theorem own_snoc {w : World} {v : Value} {xs : List UInt8} {c : UInt8} {z : Int} (h : w.ownsRow 0 5 1 v (xs.length + 1) (bc xs ++ [.int .u8 z])) (hz : z = (c.toNat : Int)) : w.ownsRow 0 5 1 v (xs ++ [c]).length (bc (xs ++ [c])) := by
  subst hz; rw [bc_append, List.length_append]; exact h

theorem oneInt {z : Int} : ∀ u ∈ [Value.int IntKind.u8 z], u.oneCell' = true := by intro u hu; simp at hu; subst hu; rfl

set_option maxRecDepth 100000 in
set_option maxHeartbeats 400000 in
theorem numeral_any (xs : List UInt8) (v : Value) (u : Nat) (w : World) (hown : w.ownsRow 0 5 1 v xs.length (bc xs)) (hu : u < 18446744073709551616) (hx : xs.length < 1000000000000) :
    Calls Tryd.prog 80 #[v, .int .u64 u] w (RowPost (xs ++ num u) v w) := by
  obtain ⟨i0, hi, hz0, hz1, hz2⟩ := info_parts Tryd.infoU8
  have Hu := Lib.hid hu; clear hu
  have hnl := num_len u
  go_enter Tryd.func80, Tryd.ntmps80
  go_wp2
  go_loopw [0, 1] (fun b n wr => ∃ (ys : List UInt8) (m : Nat), n = .int .u64 m ∧ wr.ownsRow 0 5 1 b ys.length (bc ys) ∧ m ≤ u ∧ xs ++ num u = ys ++ num m ∧ Wr w v wr b) (fun _ i _ => (intOf i).toNat)
  case atStart => exact ⟨xs, u, rfl, hown, by omega, rfl, Wr.refl _ _⟩
  case round =>
    obtain ⟨ys, m, rfl, ho, hm, hxy, hw⟩ := hrel
    have hyl : ys.length < 2000000000000 := by have := congrArg List.length hxy; simp at this; omega
    have Hxy := Lib.hid hxy; clear hxy
    by_cases h128 : 128 ≤ m
    · go_wp2_with (at_builtin; refine wpList_app _ rfl _ _ 22 rfl 5 i0 (.int .u8 0) 1 1 Tryd.underlying22 hi hz0 hz1 hz2 rfl (by decide) _ _ _ rfl (ho.alloc _) ⟨wr.heap.size, 0, none⟩ 1 1 [.int .u8 (bits .or .u8 ((m : Int) % 256) 128)] rfl rfl (cell_one_new _ _ _) oneInt (by unfold maxLen; omega) (by omega) ?_; intro v' w' hown' hwr' _)
      go_roundw
      case rel =>
        have hh : m < 18446744073709551616 := by have := Hu.out; omega
        exact ⟨ys ++ [UInt8.ofNat (m % 128 + 128)], m / 128, rfl, own_snoc hown' (by rw [or128 m (by omega)]; rfl), by omega, by rw [Hxy.out, num_ge h128 hh]; simp, (hw.alloc _).trans hwr'⟩
      case measure => simp [intOf]; omega
    · go_wp2_with (at_builtin; refine wpList_app _ rfl _ _ 22 rfl 5 i0 (.int .u8 0) 1 1 Tryd.underlying22 hi hz0 hz1 hz2 rfl (by decide) _ _ _ rfl (ho.alloc _) ⟨wr.heap.size, 0, none⟩ 1 1 [.int .u8 (m : Int)] rfl rfl (cell_one_new _ _ _) oneInt (by unfold maxLen; omega) (by omega) ?_; intro v' w' hown' hwr' _)
      go_ret
      exact ⟨_, rfl, by rw [Hxy.out, num_lt (by omega)]; exact own_snoc hown' (by simp; omega), (hw.alloc _).trans hwr'⟩

theorem numeral_int (xs : List UInt8) (v : Value) (z : Int) (w : World) (hown : w.ownsRow 0 5 1 v xs.length (bc xs)) (h0 : 0 ≤ z) (hz : z < 18446744073709551616) (hx : xs.length < 1000000000000) :
    Calls Tryd.prog 80 #[v, .int .u64 z] w (RowPost (xs ++ num z.toNat) v w) := by
  obtain ⟨u, rfl⟩ := Int.eq_ofNat_of_zero_le h0
  exact numeral_any xs v u w hown (by omega) hx

end Go.Proofs.YtjhecmmbpmpmgaaDoor
