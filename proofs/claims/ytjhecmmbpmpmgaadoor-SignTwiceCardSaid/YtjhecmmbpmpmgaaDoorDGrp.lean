/- group's Valid by its contract. -/
import Derived.Test.YtjhecmmbpmpmgaaDoorProg
import Derived.Test.YtjhecmmbpmpmgaaDoorPEuler
import Derived.WalkKit
import Derived.WalkSpells
import Derived.WalkLawsBesides
import Derived.Lib.Hide
import Derived.IntWalk
import Derived.WalkMore
import Derived.Deep.LoopGhost
namespace Go.Proofs.YtjhecmmbpmpmgaaDoor
open Go.RowKit Go.Lib

/-- where the calculation of a Jacobi sign stands -/
structure Jac (r : Bool) (X N : Nat) (b : Bool) : Prop where
  pos : 1 ≤ X
  lt : X < 2147483579
  nlt : N ≤ 2147483579
  odd : N % 2 = 1
  cop : Nat.Coprime X N
  eq : (b ^^ jac X N) = r

theorem Jac.half {r : Bool} {X N : Nat} {b : Bool} (h : Jac r X N b) (he : X % 2 = 0) : Jac r (X / 2) N (b ^^ decide (N % 8 = 3 ∨ N % 8 = 5)) := by
  obtain ⟨h1, h2⟩ := jac_even X N h.odd he h.cop
  have := h.pos; have := h.lt
  refine ⟨by omega, by omega, h.nlt, h.odd, h2, ?_⟩
  rw [← h.eq, h1]
  cases b <;> cases jac (X / 2) N <;> cases decide (N % 8 = 3 ∨ N % 8 = 5) <;> rfl

theorem Jac.turn {r : Bool} {X N : Nat} {b : Bool} (h : Jac r X N b) (ho : X % 2 = 1) (h1 : 1 < X) : Jac r (N % X) X (b ^^ decide (X % 4 = 3 ∧ N % 4 = 3)) := by
  obtain ⟨g1, g2⟩ := jac_turn X N h.odd ho h.cop
  have hlt := h.lt
  have hp : N % X < X := Nat.mod_lt _ (by omega)
  have h0 : N % X ≠ 0 := fun e => by
    rw [e] at g2
    have : Nat.gcd 0 X = 1 := g2
    rw [Nat.gcd_zero_left] at this
    omega
  refine ⟨by omega, by omega, by omega, ho, g2, ?_⟩
  rw [← h.eq, g1]
  cases b <;> cases jac (N % X) X <;> cases decide (X % 4 = 3 ∧ N % 4 = 3) <;> rfl

theorem Jac.end {r : Bool} {N : Nat} {b : Bool} (h : Jac r 1 N b) : b = r := by
  rw [← h.eq, jac_one N h.odd]; cases b <;> rfl

set_option maxRecDepth 100000 in
set_option maxHeartbeats 1600000 in
theorem valid_any (x : Int) (w : World) : Calls Tryd.prog 19 #[.int .i64 x] w fun e w' => e = .returned (.bool (valid x)) ∧ w' = w := by
  by_cases h1 : x < 1
  · have hv := Lib.hid (show valid x = false by unfold valid; simp; intro h; omega)
    have d1 : decide (x < 1) = true := by simpa using h1
    go_enter Tryd.func19, Tryd.ntmps19
    go_wp2_with fail
    go_step3
    go_wp2_with fail
    rw [Exit.noGoto_ret]
    go_ret
    exact ⟨by rw [hv.out]; rfl, rfl⟩
  · by_cases h2 : x ≥ 2147483579
    · have hv := Lib.hid (show valid x = false by unfold valid; simp; intro h h'; omega)
      have d1 : decide (x < 1) = false := by simpa using h1
      have d2 : decide (x ≥ 2147483579) = true := by simpa using h2
      go_enter Tryd.func19, Tryd.ntmps19
      go_wp2_with fail
      go_step3
      go_wp2_with fail
      rw [Exit.noGoto_ret]
      go_ret
      exact ⟨by rw [hv.out]; rfl, rfl⟩
    · obtain ⟨X0, rfl⟩ : ∃ X0 : Nat, x = (X0 : Int) := ⟨x.toNat, by omega⟩
      have hv : Hid (Jac (valid (X0 : Int)) X0 2147483579 true) := Lib.hid ⟨by omega, by omega, by omega, by decide, prP.cop (by omega) (by unfold thP; omega), by
        unfold valid
        rw [show decide (1 ≤ (X0 : Int) ∧ (X0 : Int) < 2147483579) = true from by simp; omega]
        simp [thP]⟩
      obtain ⟨r, hr⟩ : ∃ r, Hid (r = valid (X0 : Int)) := ⟨_, Lib.hid rfl⟩
      rw [← hr.out] at hv ⊢
      have d1 : decide ((X0 : Int) < 1) = false := by simpa using h1
      have d2 : decide ((X0 : Int) ≥ 2147483579) = false := by simpa using h2
      go_enter Tryd.func19, Tryd.ntmps19
      go_wp2_with fail
      go_step3
      go_wp2_with fail
      go_step3
      go_wp2_with fail
      clear d1 d2 h1 h2
      go_loop [0, 3, 4] (fun x n s => ∃ (X N : Nat) (b : Bool), x = .int .i64 X ∧ n = .int .i64 N ∧ s = .bool b ∧ Jac r X N b) (fun x _ _ => (intOf x).toNat)
      case atStart => exact ⟨X0, 2147483579, true, rfl, rfl, rfl, hv.out⟩
      case round =>
        obtain ⟨X, N, b, rfl, rfl, rfl, hJ⟩ := hrel
        by_cases hx : 1 < X
        · have HJ := Lib.hid hJ
          clear hJ
          go_wp2_with fail
          go_loop [0, 4] (fun x s => ∃ (X' : Nat) (b' : Bool), X' ≤ X ∧ x = .int .i64 X' ∧ s = .bool b' ∧ Jac r X' N b') (fun x _ => (intOf x).toNat)
          case atStart => exact ⟨X, b, Nat.le_refl _, rfl, rfl, HJ.out⟩
          case round =>
            clear HJ hx
            obtain ⟨X', b', hle, rfl, rfl, hJ⟩ := hrel
            have hpos := hJ.pos
            have hlt := hJ.lt
            have HJ := Lib.hid hJ
            clear hJ
            rcases Nat.mod_two_eq_zero_or_one X' with he | he
            · have t0 : ((X' : Int) % 2 == 0) = true := by simp; omega
              have HE := Lib.hid he
              clear he
              by_cases h3 : N % 8 = 3
              · have t3 : ((N : Int) % 8 == 3) = true := by simp; omega
                have hJ' := HJ.out.half HE.out
                rw [show decide (N % 8 = 3 ∨ N % 8 = 5) = true from by simp [h3], Bool.xor_true] at hJ'
                have HJ' := Lib.hid hJ'
                clear hJ' h3
                go_wp2_with fail
                go_round
                case rel => exact ⟨X' / 2, !b', by omega, by go_num, rfl, HJ'.out⟩
                case measure => simp [intOf]; omega
              · by_cases h5 : N % 8 = 5
                · have t3 : ((N : Int) % 8 == 3) = false := by simp; omega
                  have t5 : ((N : Int) % 8 == 5) = true := by simp; omega
                  have hJ' := HJ.out.half HE.out
                  rw [show decide (N % 8 = 3 ∨ N % 8 = 5) = true from by simp [h5], Bool.xor_true] at hJ'
                  have HJ' := Lib.hid hJ'
                  clear hJ' h3 h5
                  go_wp2_with fail
                  go_round
                  case rel => exact ⟨X' / 2, !b', by omega, by go_num, rfl, HJ'.out⟩
                  case measure => simp [intOf]; omega
                · have t3 : ((N : Int) % 8 == 3) = false := by simp; omega
                  have t5 : ((N : Int) % 8 == 5) = false := by simp; omega
                  have hJ' := HJ.out.half HE.out
                  rw [show decide (N % 8 = 3 ∨ N % 8 = 5) = false from by simp [h3, h5], Bool.xor_false] at hJ'
                  have HJ' := Lib.hid hJ'
                  clear hJ' h3 h5
                  go_wp2_with fail
                  go_round
                  case rel => exact ⟨X' / 2, b', by omega, by go_num, rfl, HJ'.out⟩
                  case measure => simp [intOf]; omega
            · have t0 : ((X' : Int) % 2 == 0) = false := by simp; omega
              have HE := Lib.hid he
              clear he
              by_cases h1 : X' = 1
              · subst h1
                have HJ' := Lib.hid HJ.out.end
                go_wp2_with fail
                go_ret
                exact ⟨by rw [← HJ'.out]; rfl, rfl⟩
              · have t1 : ((X' : Int) == 1) = false := by simp; omega
                have hgt : 1 < X' := by omega
                have hJ' := HJ.out.turn HE.out hgt
                have hm := Nat.mod_lt N (show X' > 0 by omega)
                by_cases h3 : X' % 4 = 3
                · have t3 : ((X' : Int) % 4 == 3) = true := by simp; omega
                  by_cases h4 : N % 4 = 3
                  · have t4 : ((N : Int) % 4 == 3) = true := by simp; omega
                    rw [show decide (X' % 4 = 3 ∧ N % 4 = 3) = true from by simp [h3, h4], Bool.xor_true] at hJ'
                    have HJ' := Lib.hid hJ'
                    have HM := Lib.hid hm
                    clear hJ' h3 h4 hm
                    go_wp2_with fail
                    exact ⟨⟨N % X', X', !b', by go_num, rfl, rfl, HJ'.out⟩, by have := HM.out; simp [intOf]; omega⟩
                  · have t4 : ((N : Int) % 4 == 3) = false := by simp; omega
                    rw [show decide (X' % 4 = 3 ∧ N % 4 = 3) = false from by simp [h4], Bool.xor_false] at hJ'
                    have HJ' := Lib.hid hJ'
                    have HM := Lib.hid hm
                    clear hJ' h3 h4 hm
                    go_wp2_with fail
                    exact ⟨⟨N % X', X', b', by go_num, rfl, rfl, HJ'.out⟩, by have := HM.out; simp [intOf]; omega⟩
                · have t3 : ((X' : Int) % 4 == 3) = false := by simp; omega
                  rw [show decide (X' % 4 = 3 ∧ N % 4 = 3) = false from by simp [h3], Bool.xor_false] at hJ'
                  have HJ' := Lib.hid hJ'
                  have HM := Lib.hid hm
                  clear hJ' h3 hm
                  go_wp2_with fail
                  exact ⟨⟨N % X', X', b', by go_num, rfl, rfl, HJ'.out⟩, by have := HM.out; simp [intOf]; omega⟩
        · have hx1 : X = 1 := by have := hJ.pos; omega
          subst hx1
          have HJ := Lib.hid hJ.end
          clear hJ
          go_wp2_with fail
          go_ret
          exact ⟨by rw [HJ.out]; rfl, rfl⟩

end Go.Proofs.YtjhecmmbpmpmgaaDoor
