/- The law's words for layer 11: Verify whatever it is asked, Sign where it refuses, the law's point. -/
import Derived.Test.YtjhecmmbpmpmgaaDoorPSign
import Derived.Test.YtjhecmmbpmpmgaaDoorDRef11
namespace Go.Proofs.YtjhecmmbpmpmgaaDoor
open Go.RowKit Go.Lib

theorem verify_b {key E S : Int} {b : List UInt8} {v : Value} {w : World} {r : Bool} (hr : ver key E S b = r) (hB : Bb w b v) (hb : b.length ≤ 1000000) (hT : Tabs w) :
    Calls Tryd.prog 16 #[.int .i64 key, v, .agg #[.int .i64 E, .int .i64 S]] w fun e w' => e = .returned (.bool r) ∧ Below w.heap.size w w' := by
  subst hr
  unfold ver
  by_cases h0 : 0 ≤ E ∧ 0 ≤ S
  · by_cases h1 : E < 1073741789 ∧ S < 1073741789
    · rw [show decide (0 ≤ E ∧ E < 1073741789 ∧ 0 ≤ S ∧ S < 1073741789) = true from by simp; omega, Bool.true_and]
      cases hk : valid key with
      | false => rw [Bool.false_and]; exact verify_key key E S v w ⟨h0.1, h1.1⟩ ⟨h0.2, h1.2⟩ hk
      | true => rw [Bool.true_and]; exact verify_any key E S b v w hB hb hT ⟨h0.1, h1.1⟩ ⟨h0.2, h1.2⟩ hk
    · rw [show decide (0 ≤ E ∧ E < 1073741789 ∧ 0 ≤ S ∧ S < 1073741789) = false from by simp; omega, Bool.false_and]
      exact verify_big key E S v w h0 (by omega)
  · rw [show decide (0 ≤ E ∧ E < 1073741789 ∧ 0 ≤ S ∧ S < 1073741789) = false from by simp; omega, Bool.false_and]
    exact verify_neg key E S v w (by omega)

theorem sign_no (secret : Int) (v : Value) (w : World) (h : secret < 1 ∨ secret ≥ 1073741789) :
    Calls Tryd.prog 14 #[.int .i64 secret, v] w fun e w' => e = .returned (.tuple #[.agg #[.int .i64 0, .int .i64 0], .int .i64 110]) ∧ Below w.heap.size w w' := by
  rcases h with h | h
  · exact sign_low secret v w h
  · exact sign_high secret v w h

theorem pow_ok {a n r : Int} (ha : valid a = true) (hr : gpow a n = r) (hn : -9223372036854775808 ≤ n ∧ n ≤ 9223372036854775807) (w : World) : Calls Tryd.prog 18 #[.int .i64 a, .int .i64 n] w fun e w' => e = .returned (.tuple #[.int .i64 r, .int .i64 0]) ∧ Below w.heap.size w w' := by
  subst hr
  have := pow_any a n hn w
  rw [ha] at this
  exact this

theorem mul_ok {a b r : Int} (ha : valid a = true) (hb : valid b = true) (hr : gmul a b = r) (w : World) : Calls Tryd.prog 53 #[.int .i64 a, .int .i64 b] w fun e w' => e = .returned (.tuple #[.int .i64 r, .int .i64 0]) ∧ w' = w := by
  subst hr
  have := mul_any a b w
  rw [ha, hb] at this
  exact this

set_option maxRecDepth 100000 in
set_option maxHeartbeats 800000 in
theorem point_any (key E S : Int) (hk : valid key = true) (hE : 0 ≤ E ∧ E < 1073741789) (hS : 0 ≤ S ∧ S < 1073741789) (w : World) :
    Calls Tryd.prog 20 #[.int .i64 key, .agg #[.int .i64 E, .int .i64 S]] w fun e w' => e = .returned (.tuple #[.int .i64 (pointOf key E S), .bool true]) ∧ Below w.heap.size w w' := by
  have S0 := Lib.hid (show SG w #[.int .i64 E, .int .i64 S] 24 (w.alloc (.cells #[.int .i64 E, .int .i64 S] 24)) from ⟨(Below.refl _ _).alloc (Nat.le_refl _) _, heap_alloc_new _ _⟩)
  obtain ⟨r, hr⟩ : ∃ r, Hid (pointOf key E S = r) := ⟨_, Lib.hid rfl⟩
  rw [hr.out]
  obtain ⟨pa, hpa⟩ : ∃ pa, Hid (gpow 4 S = pa) := ⟨_, Lib.hid rfl⟩
  obtain ⟨pb, hpb⟩ : ∃ pb, Hid (gpow key (-E) = pb) := ⟨_, Lib.hid rfl⟩
  have hva := Lib.hid (valid_pow valid_four S)
  have hvb := Lib.hid (valid_pow hk (-E))
  rw [hpa.out] at hva
  rw [hpb.out] at hvb
  have hm : Hid (gmul pa pb = r) := Lib.hid (by rw [← hr.out, pointOf_eq hk, hpa.out, hpb.out])
  have hneg : IntKind.i64.wrap (-E) = -E := IntWalk.i64_in _ (by omega)
  have HK := Lib.hid hk
  have HE := Lib.hid (And.intro hE hS)
  clear hk hE hS
  obtain ⟨c0, c1, _, _⟩ := S0.out.cells2
  go_enter Tryd.func20, Tryd.ntmps20
  go_wp2_with fail
  refine (pow_ok valid_four hpa.out (by have := HE.out; omega) _).mono ?_
  rintro e w1 ⟨rfl, hb1⟩
  have S1 := Lib.hid (S0.out.step hb1)
  clear hb1 c0 c1
  obtain ⟨c0, c1, _, _⟩ := S1.out.cells2
  go_wp2_with fail
  refine (pow_ok HK.out hpb.out (by have := HE.out; omega) _).mono ?_
  rintro e w2 ⟨rfl, hb2⟩
  have S2 := Lib.hid (S1.out.step hb2)
  clear hb2 c0 c1
  go_wp2_with fail
  refine (mul_ok hva.out hvb.out hm.out _).mono ?_
  rintro e w' ⟨rfl, rfl⟩
  go_wp2_with fail
  go_ret2
  exact ⟨rfl, S2.out.below⟩

end Go.Proofs.YtjhecmmbpmpmgaaDoor
