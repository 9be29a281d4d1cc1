/- digest's small functions by their contracts: rotations, words. -/
import Derived.Test.YtjhecmmbpmpmgaaDoorProg
import Derived.Test.YtjhecmmbpmpmgaaDoorPSha
import Derived.WalkKit
import Derived.WalkSpells
import Derived.WalkLawsBesides
import Derived.Lib.Hide
import Derived.BigQuiet
import Derived.Deep.QuietTactic
namespace Go.Proofs.YtjhecmmbpmpmgaaDoor
open Go.RowKit

theorem ret_eq {a b : Value} (h : a = b) : Ending.returned a = .returned b := by rw [h]

/-- the two shifts of a rotation, in the walk's words -/
theorem rr_bits (x n : Nat) (hx : x < 4294967296) (P Q : Int) (hP : P = ((2 ^ (32 - n) : Nat) : Int)) (hQ : Q = ((2 ^ n : Nat) : Int)) :
    bits .or .u32 (IntKind.u32.wrap ((x : Int) * P)) ((x : Int) / Q) = ((rr x n : Nat) : Int) := by
  subst hP hQ
  have e1 : IntKind.u32.wrap ((x : Int) * ((2 ^ (32 - n) : Nat) : Int)) = ((x * 2 ^ (32 - n) % 4294967296 : Nat) : Int) := by
    rw [IntKind.wrap_u32]; simp
  have e2 : (x : Int) / ((2 ^ n : Nat) : Int) = ((x / 2 ^ n : Nat) : Int) := by simp
  rw [e1, e2, u32_or_nat _ _ (Nat.mod_lt _ (by decide)) (Nat.lt_of_le_of_lt (Nat.div_le_self _ _) hx), Nat.or_comm]
  rfl

theorem rr_bits' (x n : Nat) (hx : x < 4294967296) (P Q : Int) (hP : P = ((2 ^ (32 - n) : Nat) : Int)) (hQ : Q = ((2 ^ n : Nat) : Int)) :
    bits .or .u32 ((x : Int) / Q) (IntKind.u32.wrap ((x : Int) * P)) = ((rr x n : Nat) : Int) := by
  subst hP hQ
  have e1 : IntKind.u32.wrap ((x : Int) * ((2 ^ (32 - n) : Nat) : Int)) = ((x * 2 ^ (32 - n) % 4294967296 : Nat) : Int) := by
    rw [IntKind.wrap_u32]; simp
  have e2 : (x : Int) / ((2 ^ n : Nat) : Int) = ((x / 2 ^ n : Nat) : Int) := by simp
  rw [e1, e2, u32_or_nat _ _ (Nat.lt_of_le_of_lt (Nat.div_le_self _ _) hx) (Nat.mod_lt _ (by decide))]
  rfl

theorem rotl_2 (x : Nat) (hx : x < 4294967296) (w : World) : Calls Tryd.prog 102 #[.int .u32 x, .int .i64 (-2)] w fun e w' => e = .returned (.int .u32 (rr x 2)) ∧ w = w' := by
  have hb : bits .and .u64 (IntKind.u64.wrap (-2)) 31 = 30 := by kernel_rfl
  have HR := Lib.hid (rr_bits x 2 hx 1073741824 4 (by decide) (by decide))
  go_enter Tryd.func102, Tryd.ntmps102
  go_wp2
  go_ret
  exact ⟨ret_eq (by rw [← HR.out]; rfl), rfl⟩

theorem ror_2 (x : Nat) (hx : x < 4294967296) (w : World) : Calls Tryd.prog 105 #[.int .u32 x, .int .i64 2] w fun e w' => e = .returned (.int .u32 (rr x 2)) ∧ ∃ j, w' = w.drewN j := by
  have HR := Lib.hid (rr_bits' x 2 hx 1073741824 4 (by decide) (by decide))
  go_enter Tryd.func105, Tryd.ntmps105
  go_wp2_with fail
  go_quiet (fail)
  all_goals
    go_wp2_with fail
    go_ret
    exact ⟨ret_eq (by rw [← HR.out]; rfl), nq, rfl⟩

theorem rotl_6 (x : Nat) (hx : x < 4294967296) (w : World) : Calls Tryd.prog 102 #[.int .u32 x, .int .i64 (-6)] w fun e w' => e = .returned (.int .u32 (rr x 6)) ∧ w = w' := by
  have hb : bits .and .u64 (IntKind.u64.wrap (-6)) 31 = 26 := by kernel_rfl
  have HR := Lib.hid (rr_bits x 6 hx 67108864 64 (by decide) (by decide))
  go_enter Tryd.func102, Tryd.ntmps102
  go_wp2
  go_ret
  exact ⟨ret_eq (by rw [← HR.out]; rfl), rfl⟩

theorem ror_6 (x : Nat) (hx : x < 4294967296) (w : World) : Calls Tryd.prog 105 #[.int .u32 x, .int .i64 6] w fun e w' => e = .returned (.int .u32 (rr x 6)) ∧ ∃ j, w' = w.drewN j := by
  have HR := Lib.hid (rr_bits' x 6 hx 67108864 64 (by decide) (by decide))
  go_enter Tryd.func105, Tryd.ntmps105
  go_wp2_with fail
  go_quiet (fail)
  all_goals
    go_wp2_with fail
    go_ret
    exact ⟨ret_eq (by rw [← HR.out]; rfl), nq, rfl⟩

theorem rotl_7 (x : Nat) (hx : x < 4294967296) (w : World) : Calls Tryd.prog 102 #[.int .u32 x, .int .i64 (-7)] w fun e w' => e = .returned (.int .u32 (rr x 7)) ∧ w = w' := by
  have hb : bits .and .u64 (IntKind.u64.wrap (-7)) 31 = 25 := by kernel_rfl
  have HR := Lib.hid (rr_bits x 7 hx 33554432 128 (by decide) (by decide))
  go_enter Tryd.func102, Tryd.ntmps102
  go_wp2
  go_ret
  exact ⟨ret_eq (by rw [← HR.out]; rfl), rfl⟩

theorem ror_7 (x : Nat) (hx : x < 4294967296) (w : World) : Calls Tryd.prog 105 #[.int .u32 x, .int .i64 7] w fun e w' => e = .returned (.int .u32 (rr x 7)) ∧ ∃ j, w' = w.drewN j := by
  have HR := Lib.hid (rr_bits' x 7 hx 33554432 128 (by decide) (by decide))
  go_enter Tryd.func105, Tryd.ntmps105
  go_wp2_with fail
  go_quiet (fail)
  all_goals
    go_wp2_with fail
    go_ret
    exact ⟨ret_eq (by rw [← HR.out]; rfl), nq, rfl⟩

theorem rotl_11 (x : Nat) (hx : x < 4294967296) (w : World) : Calls Tryd.prog 102 #[.int .u32 x, .int .i64 (-11)] w fun e w' => e = .returned (.int .u32 (rr x 11)) ∧ w = w' := by
  have hb : bits .and .u64 (IntKind.u64.wrap (-11)) 31 = 21 := by kernel_rfl
  have HR := Lib.hid (rr_bits x 11 hx 2097152 2048 (by decide) (by decide))
  go_enter Tryd.func102, Tryd.ntmps102
  go_wp2
  go_ret
  exact ⟨ret_eq (by rw [← HR.out]; rfl), rfl⟩

theorem ror_11 (x : Nat) (hx : x < 4294967296) (w : World) : Calls Tryd.prog 105 #[.int .u32 x, .int .i64 11] w fun e w' => e = .returned (.int .u32 (rr x 11)) ∧ ∃ j, w' = w.drewN j := by
  have HR := Lib.hid (rr_bits' x 11 hx 2097152 2048 (by decide) (by decide))
  go_enter Tryd.func105, Tryd.ntmps105
  go_wp2_with fail
  go_quiet (fail)
  all_goals
    go_wp2_with fail
    go_ret
    exact ⟨ret_eq (by rw [← HR.out]; rfl), nq, rfl⟩

theorem rotl_13 (x : Nat) (hx : x < 4294967296) (w : World) : Calls Tryd.prog 102 #[.int .u32 x, .int .i64 (-13)] w fun e w' => e = .returned (.int .u32 (rr x 13)) ∧ w = w' := by
  have hb : bits .and .u64 (IntKind.u64.wrap (-13)) 31 = 19 := by kernel_rfl
  have HR := Lib.hid (rr_bits x 13 hx 524288 8192 (by decide) (by decide))
  go_enter Tryd.func102, Tryd.ntmps102
  go_wp2
  go_ret
  exact ⟨ret_eq (by rw [← HR.out]; rfl), rfl⟩

theorem ror_13 (x : Nat) (hx : x < 4294967296) (w : World) : Calls Tryd.prog 105 #[.int .u32 x, .int .i64 13] w fun e w' => e = .returned (.int .u32 (rr x 13)) ∧ ∃ j, w' = w.drewN j := by
  have HR := Lib.hid (rr_bits' x 13 hx 524288 8192 (by decide) (by decide))
  go_enter Tryd.func105, Tryd.ntmps105
  go_wp2_with fail
  go_quiet (fail)
  all_goals
    go_wp2_with fail
    go_ret
    exact ⟨ret_eq (by rw [← HR.out]; rfl), nq, rfl⟩

theorem rotl_17 (x : Nat) (hx : x < 4294967296) (w : World) : Calls Tryd.prog 102 #[.int .u32 x, .int .i64 (-17)] w fun e w' => e = .returned (.int .u32 (rr x 17)) ∧ w = w' := by
  have hb : bits .and .u64 (IntKind.u64.wrap (-17)) 31 = 15 := by kernel_rfl
  have HR := Lib.hid (rr_bits x 17 hx 32768 131072 (by decide) (by decide))
  go_enter Tryd.func102, Tryd.ntmps102
  go_wp2
  go_ret
  exact ⟨ret_eq (by rw [← HR.out]; rfl), rfl⟩

theorem ror_17 (x : Nat) (hx : x < 4294967296) (w : World) : Calls Tryd.prog 105 #[.int .u32 x, .int .i64 17] w fun e w' => e = .returned (.int .u32 (rr x 17)) ∧ ∃ j, w' = w.drewN j := by
  have HR := Lib.hid (rr_bits' x 17 hx 32768 131072 (by decide) (by decide))
  go_enter Tryd.func105, Tryd.ntmps105
  go_wp2_with fail
  go_quiet (fail)
  all_goals
    go_wp2_with fail
    go_ret
    exact ⟨ret_eq (by rw [← HR.out]; rfl), nq, rfl⟩

theorem rotl_18 (x : Nat) (hx : x < 4294967296) (w : World) : Calls Tryd.prog 102 #[.int .u32 x, .int .i64 (-18)] w fun e w' => e = .returned (.int .u32 (rr x 18)) ∧ w = w' := by
  have hb : bits .and .u64 (IntKind.u64.wrap (-18)) 31 = 14 := by kernel_rfl
  have HR := Lib.hid (rr_bits x 18 hx 16384 262144 (by decide) (by decide))
  go_enter Tryd.func102, Tryd.ntmps102
  go_wp2
  go_ret
  exact ⟨ret_eq (by rw [← HR.out]; rfl), rfl⟩

theorem ror_18 (x : Nat) (hx : x < 4294967296) (w : World) : Calls Tryd.prog 105 #[.int .u32 x, .int .i64 18] w fun e w' => e = .returned (.int .u32 (rr x 18)) ∧ ∃ j, w' = w.drewN j := by
  have HR := Lib.hid (rr_bits' x 18 hx 16384 262144 (by decide) (by decide))
  go_enter Tryd.func105, Tryd.ntmps105
  go_wp2_with fail
  go_quiet (fail)
  all_goals
    go_wp2_with fail
    go_ret
    exact ⟨ret_eq (by rw [← HR.out]; rfl), nq, rfl⟩

theorem rotl_19 (x : Nat) (hx : x < 4294967296) (w : World) : Calls Tryd.prog 102 #[.int .u32 x, .int .i64 (-19)] w fun e w' => e = .returned (.int .u32 (rr x 19)) ∧ w = w' := by
  have hb : bits .and .u64 (IntKind.u64.wrap (-19)) 31 = 13 := by kernel_rfl
  have HR := Lib.hid (rr_bits x 19 hx 8192 524288 (by decide) (by decide))
  go_enter Tryd.func102, Tryd.ntmps102
  go_wp2
  go_ret
  exact ⟨ret_eq (by rw [← HR.out]; rfl), rfl⟩

theorem ror_19 (x : Nat) (hx : x < 4294967296) (w : World) : Calls Tryd.prog 105 #[.int .u32 x, .int .i64 19] w fun e w' => e = .returned (.int .u32 (rr x 19)) ∧ ∃ j, w' = w.drewN j := by
  have HR := Lib.hid (rr_bits' x 19 hx 8192 524288 (by decide) (by decide))
  go_enter Tryd.func105, Tryd.ntmps105
  go_wp2_with fail
  go_quiet (fail)
  all_goals
    go_wp2_with fail
    go_ret
    exact ⟨ret_eq (by rw [← HR.out]; rfl), nq, rfl⟩

theorem rotl_22 (x : Nat) (hx : x < 4294967296) (w : World) : Calls Tryd.prog 102 #[.int .u32 x, .int .i64 (-22)] w fun e w' => e = .returned (.int .u32 (rr x 22)) ∧ w = w' := by
  have hb : bits .and .u64 (IntKind.u64.wrap (-22)) 31 = 10 := by kernel_rfl
  have HR := Lib.hid (rr_bits x 22 hx 1024 4194304 (by decide) (by decide))
  go_enter Tryd.func102, Tryd.ntmps102
  go_wp2
  go_ret
  exact ⟨ret_eq (by rw [← HR.out]; rfl), rfl⟩

theorem ror_22 (x : Nat) (hx : x < 4294967296) (w : World) : Calls Tryd.prog 105 #[.int .u32 x, .int .i64 22] w fun e w' => e = .returned (.int .u32 (rr x 22)) ∧ ∃ j, w' = w.drewN j := by
  have HR := Lib.hid (rr_bits' x 22 hx 1024 4194304 (by decide) (by decide))
  go_enter Tryd.func105, Tryd.ntmps105
  go_wp2_with fail
  go_quiet (fail)
  all_goals
    go_wp2_with fail
    go_ret
    exact ⟨ret_eq (by rw [← HR.out]; rfl), nq, rfl⟩

theorem rotl_25 (x : Nat) (hx : x < 4294967296) (w : World) : Calls Tryd.prog 102 #[.int .u32 x, .int .i64 (-25)] w fun e w' => e = .returned (.int .u32 (rr x 25)) ∧ w = w' := by
  have hb : bits .and .u64 (IntKind.u64.wrap (-25)) 31 = 7 := by kernel_rfl
  have HR := Lib.hid (rr_bits x 25 hx 128 33554432 (by decide) (by decide))
  go_enter Tryd.func102, Tryd.ntmps102
  go_wp2
  go_ret
  exact ⟨ret_eq (by rw [← HR.out]; rfl), rfl⟩

theorem ror_25 (x : Nat) (hx : x < 4294967296) (w : World) : Calls Tryd.prog 105 #[.int .u32 x, .int .i64 25] w fun e w' => e = .returned (.int .u32 (rr x 25)) ∧ ∃ j, w' = w.drewN j := by
  have HR := Lib.hid (rr_bits' x 25 hx 128 33554432 (by decide) (by decide))
  go_enter Tryd.func105, Tryd.ntmps105
  go_wp2_with fail
  go_quiet (fail)
  all_goals
    go_wp2_with fail
    go_ret
    exact ⟨ret_eq (by rw [← HR.out]; rfl), nq, rfl⟩

end Go.Proofs.YtjhecmmbpmpmgaaDoor
