/- sign's power, plus, times by their contracts. -/
import Derived.Test.YtjhecmmbpmpmgaaDoorDList
namespace Go.Proofs.YtjhecmmbpmpmgaaDoor
open Go.RowKit Go.Lib

/-- what power returns -/
def spow (a n : Int) : Int := if valid a then gpow a n else 0

set_option maxRecDepth 100000 in
set_option maxHeartbeats 800000 in
theorem power_any (a n : Int) (hn : -9223372036854775808 ≤ n ∧ n ≤ 9223372036854775807) (w : World) : Calls Tryd.prog 42 #[.int .i64 a, .int .i64 n] w fun e w' => e = .returned (.int .i64 (spow a n)) ∧ Below w.heap.size w w' := by
  have hc := Lib.hid (pow_any a n hn w)
  cases hv : valid a
  · have hs : Hid (spow a n = 0) := Lib.hid (by unfold spow; rw [hv]; rfl)
    rw [hv] at hc
    clear hv hn
    go_enter Tryd.func42, Tryd.ntmps42
    go_wp2_with fail
    refine hc.out.mono ?_
    rintro e w' ⟨rfl, hb⟩
    have HB := Lib.hid hb
    clear hb
    go_wp2_with fail
    go_ret
    exact ⟨by rw [hs.out]; rfl, HB.out⟩
  · have hs : Hid (spow a n = gpow a n) := Lib.hid (by unfold spow; rw [hv]; rfl)
    rw [hv] at hc
    clear hv hn
    go_enter Tryd.func42, Tryd.ntmps42
    go_wp2_with fail
    refine hc.out.mono ?_
    rintro e w' ⟨rfl, hb⟩
    have HB := Lib.hid hb
    clear hb
    go_wp2_with fail
    go_ret
    exact ⟨by rw [hs.out]; rfl, HB.out⟩

set_option maxRecDepth 100000 in
set_option maxHeartbeats 800000 in
theorem plus_any (x y : Int) (hx : 0 ≤ x ∧ x < 1073741789) (hy : 0 ≤ y ∧ y < 1073741789) (w : World) : Calls Tryd.prog 43 #[.int .i64 x, .int .i64 y] w fun e w' => e = .returned (.int .i64 ((x + y) % 1073741789)) ∧ w' = w := by
  go_enter Tryd.func43, Tryd.ntmps43
  go_wp2_with fail
  go_ret
  exact ⟨rfl, rfl⟩

set_option maxRecDepth 100000 in
set_option maxHeartbeats 800000 in
theorem times_any (x y : Int) (hx : 0 ≤ x ∧ x < 1073741789) (hy : 0 ≤ y ∧ y < 1073741789) (w : World) : Calls Tryd.prog 44 #[.int .i64 x, .int .i64 y] w fun e w' => e = .returned (.int .i64 (x * y % 1073741789)) ∧ w' = w := by
  have hbd := mul_bound (show 0 ≤ x ∧ x < 2147483579 from by omega) (show 0 ≤ y ∧ y < 2147483579 from by omega)
  obtain ⟨z, hz⟩ : ∃ z, z = x * y := ⟨_, rfl⟩
  rw [← hz] at hbd ⊢
  have hw : IntKind.i64.wrap (x * y) = z := by rw [← hz]; exact IntWalk.i64_in _ (by omega)
  clear hz
  go_enter Tryd.func44, Tryd.ntmps44
  go_wp2_with fail
  go_ret
  exact ⟨rfl, rfl⟩

end Go.Proofs.YtjhecmmbpmpmgaaDoor
