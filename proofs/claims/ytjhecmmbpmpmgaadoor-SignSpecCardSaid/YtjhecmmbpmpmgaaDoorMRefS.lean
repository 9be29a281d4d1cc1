/- signatoryref11's Mod and Times by their contracts.
   signatoryref10's exponent, power, Valid, Mul, Pow by their contracts. -/
import Derived.Test.YtjhecmmbpmpmgaaDoorMSign
namespace Go.Proofs.YtjhecmmbpmpmgaaDoor
open Go.RowKit Go.Lib

set_option maxRecDepth 100000 in
set_option maxHeartbeats 400000 in
theorem mod_any (n : Int) (_hn : -9223372036854775808 ≤ n ∧ n ≤ 9223372036854775807) (w : World) : Calls Tryd.prog 23 #[.int .i64 n] w fun e w' => e = .returned (.int .i64 (ex n)) ∧ w' = w := by
  have hr1 := Int.tmod_lt_of_pos n (show (0 : Int) < 1073741789 by omega)
  have hr2 : -1073741789 < n.tmod 1073741789 := by
    have := Int.lt_tmod_of_pos n (show (0 : Int) < 1073741789 by omega)
    omega
  have hd := Int.mul_tdiv_add_tmod n 1073741789
  obtain ⟨r, hr⟩ : ∃ r, n.tmod 1073741789 = r := ⟨_, rfl⟩
  rw [hr] at hr1 hr2 hd
  by_cases h : r < 0
  · have he : Hid (ex n = r + 1073741789) := Lib.hid (by unfold ex; omega)
    clear hd _hn
    go_enter Tryd.func23, Tryd.ntmps23
    go_wp2_with fail
    go_ret
    exact ⟨by rw [he.out]; rfl, rfl⟩
  · have he : Hid (ex n = r) := Lib.hid (by unfold ex; omega)
    clear hd _hn
    go_enter Tryd.func23, Tryd.ntmps23
    go_wp2_with fail
    go_ret
    exact ⟨by rw [he.out]; rfl, rfl⟩

set_option maxRecDepth 100000 in
set_option maxHeartbeats 400000 in
theorem rtimes_any (a b : Int) (ha : -9223372036854775808 ≤ a ∧ a ≤ 9223372036854775807) (hb : -9223372036854775808 ≤ b ∧ b ≤ 9223372036854775807) (w : World) : Calls Tryd.prog 52 #[.int .i64 a, .int .i64 b] w fun e w' => e = .returned (.int .i64 (ex a * ex b % 1073741789)) ∧ w' = w := by
  have hc := Lib.hid (mod_any a ha w)
  have hd := Lib.hid (mod_any b hb w)
  have h1 := ex_range a
  have h2 := ex_range b
  obtain ⟨x, hx⟩ : ∃ x, x = ex a := ⟨_, rfl⟩
  obtain ⟨y, hy⟩ : ∃ y, y = ex b := ⟨_, rfl⟩
  rw [← hx] at hc h1 ⊢
  rw [← hy] at hd h2 ⊢
  have hbd := mul_bound (show 0 ≤ x ∧ x < 2147483579 from by omega) (show 0 ≤ y ∧ y < 2147483579 from by omega)
  obtain ⟨z, hz⟩ : ∃ z, z = x * y := ⟨_, rfl⟩
  rw [← hz] at hbd ⊢
  have hw : IntKind.i64.wrap (x * y) = z := by rw [← hz]; exact IntWalk.i64_in _ (by omega)
  clear hz hx hy ha hb h1 h2
  go_enter Tryd.func52, Tryd.ntmps52
  go_wp2_with (go_at_call 23; first | (with_reducible refine hc.out.mono ?_; clear hc; rintro e w' ⟨rfl, rfl⟩) | (with_reducible refine hd.out.mono ?_; rintro e w' ⟨rfl, rfl⟩))
  go_ret
  exact ⟨rfl, rfl⟩

theorem pow_half (a n q : Nat) : (a * a % q) ^ (n / 2) % q = a ^ (2 * (n / 2)) % q := by
  rw [← Nat.pow_mod, Nat.pow_mul, Nat.pow_two]

set_option maxRecDepth 100000 in
set_option maxHeartbeats 800000 in
theorem rpower_any (a : Int) (n : Nat) (ha : -9223372036854775808 ≤ a ∧ a ≤ 9223372036854775807) (hn : n < 9223372036854775808) (w : World) : Calls Tryd.prog 60 #[.int .i64 a, .int .i64 n] w fun e w' => e = .returned (.int .i64 (((ex a).toNat ^ n % 1073741789 : Nat) : Int)) ∧ w' = w := by
  have hc := Lib.hid (mod_any a ha w)
  have h1 := ex_range a
  obtain ⟨x, hx⟩ : ∃ x : Nat, ex a = (x : Int) := ⟨(ex a).toNat, by omega⟩
  rw [hx] at hc h1 ⊢
  obtain ⟨r, hr⟩ : ∃ r, Hid (r = x ^ n % 1073741789) := ⟨_, Lib.hid rfl⟩
  rw [Int.toNat_natCast, ← hr.out]
  have hx2 : x < 1073741789 := by omega
  clear hx h1 ha
  go_enter Tryd.func60, Tryd.ntmps60
  go_wp2_with (go_at_call 23; refine hc.out.mono ?_; clear hc; rintro e w' ⟨rfl, rfl⟩)
  go_loop [0, 1, 5] (fun A N C => ∃ (a n c : Nat), A = .int .i64 a ∧ N = .int .i64 n ∧ C = .int .i64 c ∧ a < 1073741789 ∧ n < 9223372036854775808 ∧ c < 1073741789 ∧ Hid (r = c * a ^ n % 1073741789)) (fun _ N _ => (intOf N).toNat)
  case atStart => exact ⟨x, n, 1, rfl, rfl, rfl, hx2, hn, by decide, Lib.hid (by rw [hr.out, Nat.one_mul])⟩
  case round =>
    obtain ⟨a, n, c, rfl, rfl, rfl, ha, hn, hc, hR⟩ := hrel
    by_cases h0 : n = 0
    · subst h0
      have hr2 : Hid (r = c) := Lib.hid (by rw [hR.out, Nat.pow_zero, Nat.mul_one, Nat.mod_eq_of_lt hc])
      clear ha hn hc
      go_wp2_with fail
      go_ret
      exact ⟨by rw [hr2.out]; rfl, rfl⟩
    · have hpos : (n : Int) > 0 := by omega
      have hs := mul_bound (show 0 ≤ (a : Int) ∧ (a : Int) < 2147483579 from by omega) (show 0 ≤ (a : Int) ∧ (a : Int) < 2147483579 from by omega)
      have hs2 := mul_bound (show 0 ≤ (c : Int) ∧ (c : Int) < 2147483579 from by omega) (show 0 ≤ (a : Int) ∧ (a : Int) < 2147483579 from by omega)
      obtain ⟨m, hm⟩ : ∃ m, m = a * a := ⟨_, rfl⟩
      obtain ⟨q, hq⟩ : ∃ q, q = c * a := ⟨_, rfl⟩
      have hw : IntKind.i64.wrap ((a : Int) * (a : Int)) = (m : Int) := by rw [IntWalk.i64_in _ (by omega), hm]; simp
      have hw2 : IntKind.i64.wrap ((c : Int) * (a : Int)) = (q : Int) := by rw [IntWalk.i64_in _ (by omega), hq]; simp
      have H := Lib.hid (And.intro hm hq)
      clear hm hq hs hs2
      by_cases h1 : n % 2 = 1
      · have t1 : ((n : Int) % 2 == 1) = true := by simp; omega
        have hR2 : Hid (r = (q % 1073741789) * (m % 1073741789) ^ (n / 2) % 1073741789) := Lib.hid (by
          obtain ⟨hm, hq⟩ := H.out
          rw [hR.out, hm, hq, Nat.mul_mod (c * a % 1073741789), pow_half, Nat.mod_mod, ← Nat.mul_mod]
          conv => lhs; rw [show n = 2 * (n / 2) + 1 from by omega, Nat.pow_succ]
          rw [Nat.mul_assoc, Nat.mul_comm a])
        clear h1 ha hc
        go_wp2_with fail
        exact ⟨⟨m % 1073741789, n / 2, q % 1073741789, by go_num, by go_num, by go_num, Nat.mod_lt _ (by decide), by omega, Nat.mod_lt _ (by decide), hR2⟩, by simp [intOf]; omega⟩
      · have t1 : ((n : Int) % 2 == 1) = false := by simp; omega
        have hR2 : Hid (r = c * (m % 1073741789) ^ (n / 2) % 1073741789) := Lib.hid (by
          obtain ⟨hm, hq⟩ := H.out
          rw [hR.out, hm, Nat.mul_mod c ((a * a % 1073741789) ^ (n / 2)), pow_half, ← Nat.mul_mod]
          conv => lhs; rw [show n = 2 * (n / 2) from by omega])
        have hcc := Lib.hid hc
        clear h1 ha hc
        go_wp2_with fail
        exact ⟨⟨m % 1073741789, n / 2, c, by go_num, by go_num, rfl, Nat.mod_lt _ (by decide), by omega, hcc.out, hR2⟩, by simp [intOf]; omega⟩

end Go.Proofs.YtjhecmmbpmpmgaaDoor

namespace Go.Proofs.YtjhecmmbpmpmgaaDoor
open Go.RowKit Go.Lib

set_option maxRecDepth 100000 in
set_option maxHeartbeats 400000 in
theorem rexp_any (n : Int) (_hn : -9223372036854775808 ≤ n ∧ n ≤ 9223372036854775807) (w : World) : Calls Tryd.prog 75 #[.int .i64 n] w fun e w' => e = .returned (.int .i64 (ex n)) ∧ w' = w := by
  have hr1 := Int.tmod_lt_of_pos n (show (0 : Int) < 1073741789 by omega)
  have hr2 : -1073741789 < n.tmod 1073741789 := by
    have := Int.lt_tmod_of_pos n (show (0 : Int) < 1073741789 by omega)
    omega
  have hd := Int.mul_tdiv_add_tmod n 1073741789
  obtain ⟨r, hr⟩ : ∃ r, n.tmod 1073741789 = r := ⟨_, rfl⟩
  rw [hr] at hr1 hr2 hd
  by_cases h : r < 0
  · have he : Hid (ex n = r + 1073741789) := Lib.hid (by unfold ex; omega)
    clear hd _hn
    go_enter Tryd.func75, Tryd.ntmps75
    go_wp2_with fail
    go_ret
    exact ⟨by rw [he.out]; rfl, rfl⟩
  · have he : Hid (ex n = r) := Lib.hid (by unfold ex; omega)
    clear hd _hn
    go_enter Tryd.func75, Tryd.ntmps75
    go_wp2_with fail
    go_ret
    exact ⟨by rw [he.out]; rfl, rfl⟩

set_option maxRecDepth 100000 in
set_option maxHeartbeats 800000 in
theorem rgpower_any (x n : Nat) (hx2 : x < 2147483579) (hn : n < 9223372036854775808) (w : World) : Calls Tryd.prog 74 #[.int .i64 x, .int .i64 n] w fun e w' => e = .returned (.int .i64 ((x ^ n % 2147483579 : Nat) : Int)) ∧ w' = w := by
  obtain ⟨r, hr⟩ : ∃ r, Hid (r = x ^ n % 2147483579) := ⟨_, Lib.hid rfl⟩
  rw [← hr.out]
  go_enter Tryd.func74, Tryd.ntmps74
  go_wp2_with fail
  go_loop [0, 1, 5] (fun A N C => ∃ (a n c : Nat), A = .int .i64 a ∧ N = .int .i64 n ∧ C = .int .i64 c ∧ a < 2147483579 ∧ n < 9223372036854775808 ∧ c < 2147483579 ∧ Hid (r = c * a ^ n % 2147483579)) (fun _ N _ => (intOf N).toNat)
  case atStart => exact ⟨x, n, 1, rfl, rfl, rfl, hx2, hn, by decide, Lib.hid (by rw [hr.out, Nat.one_mul])⟩
  case round =>
    obtain ⟨a, n, c, rfl, rfl, rfl, ha, hn, hc, hR⟩ := hrel
    by_cases h0 : n = 0
    · subst h0
      have hr2 : Hid (r = c) := Lib.hid (by rw [hR.out, Nat.pow_zero, Nat.mul_one, Nat.mod_eq_of_lt hc])
      clear ha hn hc
      go_wp2_with fail
      go_ret
      exact ⟨by rw [hr2.out]; rfl, rfl⟩
    · have hpos : (n : Int) > 0 := by omega
      have hs := mul_bound (show 0 ≤ (a : Int) ∧ (a : Int) < 2147483579 from by omega) (show 0 ≤ (a : Int) ∧ (a : Int) < 2147483579 from by omega)
      have hs2 := mul_bound (show 0 ≤ (c : Int) ∧ (c : Int) < 2147483579 from by omega) (show 0 ≤ (a : Int) ∧ (a : Int) < 2147483579 from by omega)
      obtain ⟨m, hm⟩ : ∃ m, m = a * a := ⟨_, rfl⟩
      obtain ⟨q, hq⟩ : ∃ q, q = c * a := ⟨_, rfl⟩
      have hw : IntKind.i64.wrap ((a : Int) * (a : Int)) = (m : Int) := by rw [IntWalk.i64_in _ (by omega), hm]; simp
      have hw2 : IntKind.i64.wrap ((c : Int) * (a : Int)) = (q : Int) := by rw [IntWalk.i64_in _ (by omega), hq]; simp
      have H := Lib.hid (And.intro hm hq)
      clear hm hq hs hs2
      by_cases h1 : n % 2 = 1
      · have t1 : ((n : Int) % 2 == 1) = true := by simp; omega
        have hR2 : Hid (r = (q % 2147483579) * (m % 2147483579) ^ (n / 2) % 2147483579) := Lib.hid (by
          obtain ⟨hm, hq⟩ := H.out
          rw [hR.out, hm, hq, Nat.mul_mod (c * a % 2147483579), pow_half, Nat.mod_mod, ← Nat.mul_mod]
          conv => lhs; rw [show n = 2 * (n / 2) + 1 from by omega, Nat.pow_succ]
          rw [Nat.mul_assoc, Nat.mul_comm a])
        clear h1 ha hc
        go_wp2_with fail
        exact ⟨⟨m % 2147483579, n / 2, q % 2147483579, by go_num, by go_num, by go_num, Nat.mod_lt _ (by decide), by omega, Nat.mod_lt _ (by decide), hR2⟩, by simp [intOf]; omega⟩
      · have t1 : ((n : Int) % 2 == 1) = false := by simp; omega
        have hR2 : Hid (r = c * (m % 2147483579) ^ (n / 2) % 2147483579) := Lib.hid (by
          obtain ⟨hm, hq⟩ := H.out
          rw [hR.out, hm, Nat.mul_mod c ((a * a % 2147483579) ^ (n / 2)), pow_half, ← Nat.mul_mod]
          conv => lhs; rw [show n = 2 * (n / 2) from by omega])
        have hcc := Lib.hid hc
        clear h1 ha hc
        go_wp2_with fail
        exact ⟨⟨m % 2147483579, n / 2, c, by go_num, by go_num, rfl, Nat.mod_lt _ (by decide), by omega, hcc.out, hR2⟩, by simp [intOf]; omega⟩

set_option maxRecDepth 100000 in
set_option maxHeartbeats 800000 in
theorem rvalid_any (x : Int) (w : World) : Calls Tryd.prog 54 #[.int .i64 x] w fun e w' => e = .returned (.bool (valid x)) ∧ w' = w := by
  by_cases h1 : x ≥ 1
  · by_cases h2 : x < 2147483579
    · obtain ⟨X, rfl⟩ : ∃ X : Nat, x = (X : Int) := ⟨x.toNat, by omega⟩
      have hc := rgpower_any X thQ (by omega) (by decide) w
      rw [show ((thQ : Nat) : Int) = 1073741789 from rfl, show (2147483579 : Nat) = thP from rfl] at hc
      obtain ⟨r, hr⟩ : ∃ r, Hid (X ^ thQ % thP = r) := ⟨_, Lib.hid rfl⟩
      rw [hr.out] at hc
      have hc := Lib.hid hc
      have hv : Hid (valid (X : Int) = ((r : Int) == 1)) := Lib.hid (by
        have hi := valid_iff (X : Int)
        rw [Int.toNat_natCast, hr.out] at hi
        rw [Bool.eq_iff_iff, hi, beq_iff_eq]
        omega)
      obtain ⟨b, hb⟩ : ∃ b, Hid (b = valid (X : Int)) := ⟨_, Lib.hid rfl⟩
      rw [← hb.out] at hv ⊢
      have HV : Hid (b = ((r : Int) == 1)) := hv
      clear hv
      have d1 : decide ((X : Int) ≥ 1) = true := by simpa using h1
      have d2 : decide ((X : Int) < 2147483579) = true := by simpa using h2
      clear h1 h2
      go_enter Tryd.func54, Tryd.ntmps54
      go_wp2_with (go_at_call 74; refine hc.out.mono ?_; clear hc; rintro e w' ⟨rfl, rfl⟩)
      go_ret
      exact ⟨by rw [HV.out]; rfl, rfl⟩
    · have hv := Lib.hid (show valid x = false by unfold valid; simp; intro h h'; omega)
      have d1 : decide (x ≥ 1) = true := by simpa using h1
      have d2 : decide (x < 2147483579) = false := by simpa using h2
      clear h1 h2
      go_enter Tryd.func54, Tryd.ntmps54
      go_wp2_with fail
      go_ret
      exact ⟨by rw [hv.out]; rfl, rfl⟩
  · have hv := Lib.hid (show valid x = false by unfold valid; simp; intro h; omega)
    have d1 : decide (x ≥ 1) = false := by simpa using h1
    clear h1
    go_enter Tryd.func54, Tryd.ntmps54
    go_wp2_with fail
    go_ret
    exact ⟨by rw [hv.out]; rfl, rfl⟩

set_option maxRecDepth 100000 in
set_option maxHeartbeats 800000 in
theorem rmul_any (a b : Int) (w : World) : Calls Tryd.prog 76 #[.int .i64 a, .int .i64 b] w fun e w' => e = .returned (if valid a && valid b then .tuple #[.int .i64 (gmul a b), .int .i64 0] else .tuple #[.int .i64 0, .int .i64 100]) ∧ w' = w := by
  cases ha : valid a
  · have HA := Lib.hid ha
    have hc := Lib.hid (rvalid_any a w)
    rw [ha] at hc
    clear ha
    go_enter Tryd.func76, Tryd.ntmps76
    go_wp2_with (go_at_call 54; refine hc.out.mono ?_; rintro e w' ⟨rfl, rfl⟩)
    go_ret2
    exact ⟨rfl, rfl⟩
  · cases hb : valid b
    · have hc := Lib.hid (rvalid_any a w)
      have hd := Lib.hid (rvalid_any b w)
      rw [ha] at hc
      rw [hb] at hd
      clear ha hb
      go_enter Tryd.func76, Tryd.ntmps76
      go_wp2_with (go_at_call 54; first | (refine hc.out.mono ?_; clear hc; rintro e w' ⟨rfl, rfl⟩) | (refine hd.out.mono ?_; rintro e w' ⟨rfl, rfl⟩))
      go_ret2
      exact ⟨rfl, rfl⟩
    · have hbd := mul_bound (show 0 ≤ a ∧ a < 2147483579 from by have := valid_range ha; omega) (show 0 ≤ b ∧ b < 2147483579 from by have := valid_range hb; omega)
      have hc := Lib.hid (rvalid_any a w)
      have hd := Lib.hid (rvalid_any b w)
      rw [ha] at hc
      rw [hb] at hd
      obtain ⟨z, hz⟩ : ∃ z, z = a * b := ⟨_, rfl⟩
      rw [← hz] at hbd
      have hw : IntKind.i64.wrap (a * b) = z := by rw [← hz]; exact IntWalk.i64_in _ (by omega)
      have HZ := Lib.hid hz
      clear ha hb hz
      go_enter Tryd.func76, Tryd.ntmps76
      go_wp2_with (go_at_call 54; first | (refine hc.out.mono ?_; clear hc; rintro e w' ⟨rfl, rfl⟩) | (refine hd.out.mono ?_; rintro e w' ⟨rfl, rfl⟩))
      go_ret2
      exact ⟨by rw [gmul, ← HZ.out]; rfl, rfl⟩

set_option maxRecDepth 100000 in
set_option maxHeartbeats 800000 in
theorem rpow_any (a n : Int) (hn : -9223372036854775808 ≤ n ∧ n ≤ 9223372036854775807) (w : World) : Calls Tryd.prog 50 #[.int .i64 a, .int .i64 n] w fun e w' => e = .returned (if valid a then .tuple #[.int .i64 (gpow a n), .int .i64 0] else .tuple #[.int .i64 0, .int .i64 100]) ∧ w' = w := by
  cases hv : valid a
  · have hc := Lib.hid (rvalid_any a w)
    rw [hv] at hc
    clear hv
    go_enter Tryd.func50, Tryd.ntmps50
    go_wp2_with (go_at_call 54; refine hc.out.mono ?_; rintro e w' ⟨rfl, rfl⟩)
    go_ret2
    exact ⟨rfl, rfl⟩
  · have hr := valid_range hv
    have hc := Lib.hid (rvalid_any a w)
    rw [hv] at hc
    obtain ⟨X, rfl⟩ : ∃ X : Nat, a = (X : Int) := ⟨a.toNat, by omega⟩
    have hd := Lib.hid (rexp_any n hn w)
    obtain ⟨k, hk, hk2⟩ := ex_nat n
    have he : Hid (gpow (X : Int) n = ((X ^ k % 2147483579 : Nat) : Int)) := Lib.hid (by rw [gpow_def, hk]; rfl)
    have hp := Lib.hid (rgpower_any X k (by omega) (by unfold thQ at hk2; omega) w)
    rw [hk] at hd
    clear hv hr hk hk2 hn
    go_enter Tryd.func50, Tryd.ntmps50
    go_wp2_with (first | (go_at_call 54; refine hc.out.mono ?_; clear hc; rintro e w' ⟨rfl, rfl⟩) | (go_at_call 75; refine hd.out.mono ?_; clear hd; rintro e w' ⟨rfl, rfl⟩) | (go_at_call 74; refine hp.out.mono ?_; clear hp; rintro e w' ⟨rfl, rfl⟩))
    go_ret2
    exact ⟨by rw [he.out]; rfl, rfl⟩

end Go.Proofs.YtjhecmmbpmpmgaaDoor
