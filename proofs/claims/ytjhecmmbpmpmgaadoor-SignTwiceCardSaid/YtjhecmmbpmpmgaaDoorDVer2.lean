/- sign's Verify by its contract: a key that is none. -/
import Derived.Test.YtjhecmmbpmpmgaaDoorDVer
namespace Go.Proofs.YtjhecmmbpmpmgaaDoor
open Go.RowKit Go.Lib

set_option maxRecDepth 100000 in
set_option maxHeartbeats 200000 in
theorem verify_key (key E S : Int) (v : Value) (w : World) (hE : 0 ≤ E ∧ E < 1073741789) (hS : 0 ≤ S ∧ S < 1073741789) (hk : valid key = false) :
    Calls Tryd.prog 16 #[.int .i64 key, v, .agg #[.int .i64 E, .int .i64 S]] w fun e w' => e = .returned (.bool false) ∧ Below w.heap.size w w' := by
  have hb : Below w.heap.size w (w.alloc (.cells #[.int .i64 E, .int .i64 S] 24)) := (Below.refl _ _).alloc (Nat.le_refl _) _
  have HB := Lib.hid hb
  have hc := Lib.hid (valid_any key (w.alloc (.cells #[.int .i64 E, .int .i64 S] 24)))
  rw [hk] at hc
  clear hb hk
  have e1 : decide (E < 0) = false := by simp; omega
  have e2 : decide (S < 0) = false := by simp; omega
  have e3 : decide (E ≥ 1073741789) = false := by simp; omega
  have e4 : decide (S ≥ 1073741789) = false := by simp; omega
  clear hE hS
  by_cases h : E ≤ S
  · by_cases h' : S ≤ E
    · obtain rfl : E = S := by omega
      clear h h'
      go_enter Tryd.func16, Tryd.ntmps16
      go_wp2_with (go_at_call 19; refine hc.out.mono ?_; clear hc; rintro e w' ⟨rfl, rfl⟩)
      all_goals
        go_ret
        exact ⟨rfl, HB.out⟩
    · have hlt : E < S := by omega
      clear h h'
      go_enter Tryd.func16, Tryd.ntmps16
      go_wp2_with (go_at_call 19; refine hc.out.mono ?_; clear hc; rintro e w' ⟨rfl, rfl⟩)
      all_goals
        go_ret
        exact ⟨rfl, HB.out⟩
  · have hlt : S < E := by omega
    clear h
    go_enter Tryd.func16, Tryd.ntmps16
    go_wp2_with (go_at_call 19; refine hc.out.mono ?_; clear hc; rintro e w' ⟨rfl, rfl⟩)
    all_goals
      go_ret
      exact ⟨rfl, HB.out⟩

end Go.Proofs.YtjhecmmbpmpmgaaDoor
