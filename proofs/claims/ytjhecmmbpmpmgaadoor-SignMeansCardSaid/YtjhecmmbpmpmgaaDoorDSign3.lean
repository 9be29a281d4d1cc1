/- sign's Sign refusing a secret. -/
import Derived.Test.YtjhecmmbpmpmgaaDoorDSign2
namespace Go.Proofs.YtjhecmmbpmpmgaaDoor
open Go.RowKit Go.Lib

set_option maxRecDepth 100000 in
set_option maxHeartbeats 800000 in
theorem sign_low (secret : Int) (v : Value) (w : World) (h1 : secret < 1) :
    Calls Tryd.prog 14 #[.int .i64 secret, v] w fun e w' => e = .returned (.tuple #[.agg #[.int .i64 0, .int .i64 0], .int .i64 110]) ∧ Below w.heap.size w w' := by
  have d1 : decide (secret < 1) = true := by simpa using h1
  have S0 : SG w #[.int .i64 0, .int .i64 0] 24 (w.alloc (.cells #[.int .i64 0, .int .i64 0] 24)) := ⟨(Below.refl _ _).alloc (Nat.le_refl _) _, heap_alloc_new _ _⟩
  have HS := Lib.hid S0
  clear S0 h1
  go_enter Tryd.func14, Tryd.ntmps14
  go_wp2_with fail
  obtain ⟨t0, t1, _, _⟩ := HS.out.cells2
  refine bodyPost_ret (v := .tuple #[.agg #[.int .i64 0, .int .i64 0], .int .i64 110]) ?_ rfl ⟨rfl, HS.out.below⟩
  simp [results, Tryd.f14, go_sem, t0, t1]

set_option maxRecDepth 100000 in
set_option maxHeartbeats 800000 in
theorem sign_high (secret : Int) (v : Value) (w : World) (h1 : secret ≥ 1073741789) :
    Calls Tryd.prog 14 #[.int .i64 secret, v] w fun e w' => e = .returned (.tuple #[.agg #[.int .i64 0, .int .i64 0], .int .i64 110]) ∧ Below w.heap.size w w' := by
  have d1 : decide (secret < 1) = false := by simp; omega
  have d2 : decide (secret ≥ 1073741789) = true := by simpa using h1
  have S0 : SG w #[.int .i64 0, .int .i64 0] 24 (w.alloc (.cells #[.int .i64 0, .int .i64 0] 24)) := ⟨(Below.refl _ _).alloc (Nat.le_refl _) _, heap_alloc_new _ _⟩
  have HS := Lib.hid S0
  clear S0 h1
  go_enter Tryd.func14, Tryd.ntmps14
  go_wp2_with fail
  obtain ⟨t0, t1, _, _⟩ := HS.out.cells2
  refine bodyPost_ret (v := .tuple #[.agg #[.int .i64 0, .int .i64 0], .int .i64 110]) ?_ rfl ⟨rfl, HS.out.below⟩
  simp [results, Tryd.f14, go_sem, t0, t1]

end Go.Proofs.YtjhecmmbpmpmgaaDoor
