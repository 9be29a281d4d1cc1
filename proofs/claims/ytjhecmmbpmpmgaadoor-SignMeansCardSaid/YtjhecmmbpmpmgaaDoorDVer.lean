/- sign's Verify by its contract: refusals. -/
import Derived.Test.YtjhecmmbpmpmgaaDoorDSign3
import Derived.BigQuiet
import Derived.Deep.QuietTactic
import Derived.Deep.RegionHeld3
namespace Go.Proofs.YtjhecmmbpmpmgaaDoor
open Go.RowKit Go.Lib

/-- the point of a signature, as the program reckons it -/
def pointOf (key E S : Int) : Int := if valid (spow 4 S) && valid (spow key (-E)) then gmul (spow 4 S) (spow key (-E)) else 0

set_option maxRecDepth 100000 in
set_option maxHeartbeats 800000 in
theorem verify_neg (key E S : Int) (v : Value) (w : World) (h : min E S < 0) :
    Calls Tryd.prog 16 #[.int .i64 key, v, .agg #[.int .i64 E, .int .i64 S]] w fun e w' => e = .returned (.bool false) ∧ Below w.heap.size w w' := by
  have hb : Below w.heap.size w (w.alloc (.cells #[.int .i64 E, .int .i64 S] 24)) := (Below.refl _ _).alloc (Nat.le_refl _) _
  have HB := Lib.hid hb
  clear hb
  have d1 : decide (min E S < 0) = true := by simpa using h
  go_enter Tryd.func16, Tryd.ntmps16
  go_wp2_with fail
  all_goals
    go_ret
    exact ⟨rfl, HB.out⟩

set_option maxRecDepth 100000 in
set_option maxHeartbeats 800000 in
theorem verify_big (key E S : Int) (v : Value) (w : World) (h0 : 0 ≤ E ∧ 0 ≤ S) (h : E ≥ 1073741789 ∨ S ≥ 1073741789) :
    Calls Tryd.prog 16 #[.int .i64 key, v, .agg #[.int .i64 E, .int .i64 S]] w fun e w' => e = .returned (.bool false) ∧ Below w.heap.size w w' := by
  have hb : Below w.heap.size w (w.alloc (.cells #[.int .i64 E, .int .i64 S] 24)) := (Below.refl _ _).alloc (Nat.le_refl _) _
  have HB := Lib.hid hb
  clear hb
  have e1 : decide (E < 0) = false := by simp; omega
  have e2 : decide (S < 0) = false := by simp; omega
  have e3 : ¬ (E < 0) := by omega
  have e4 : ¬ (S < 0) := by omega
  go_enter Tryd.func16, Tryd.ntmps16
  rcases h with h | h
  · have d1 : decide (E ≥ 1073741789) = true := by simpa using h
    by_cases h2 : E ≤ S
    · have d2 : decide (S ≥ 1073741789) = true := by simp; omega
      go_wp2_with fail
      all_goals
        go_ret
        exact ⟨rfl, HB.out⟩
    · go_wp2_with fail
      all_goals
        go_ret
        exact ⟨rfl, HB.out⟩
  · have d1 : decide (S ≥ 1073741789) = true := by simpa using h
    by_cases h2 : S ≤ E
    · have d2 : decide (E ≥ 1073741789) = true := by simp; omega
      go_wp2_with fail
      all_goals
        go_ret
        exact ⟨rfl, HB.out⟩
    · go_wp2_with fail
      all_goals
        go_ret
        exact ⟨rfl, HB.out⟩

end Go.Proofs.YtjhecmmbpmpmgaaDoor
