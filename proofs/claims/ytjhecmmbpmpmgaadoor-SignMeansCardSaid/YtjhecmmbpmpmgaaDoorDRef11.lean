/- signatoryref11's Mod and Times by their contracts. -/
import Derived.Test.YtjhecmmbpmpmgaaDoorDVer3
namespace Go.Proofs.YtjhecmmbpmpmgaaDoor
open Go.RowKit Go.Lib

set_option maxRecDepth 100000 in
set_option maxHeartbeats 400000 in
theorem mod_any (n : Int) (_hn : -9223372036854775808 ≤ n ∧ n ≤ 9223372036854775807) (w : World) : Calls Tryd.prog 23 #[.int .i64 n] w fun e w' => e = .returned (.int .i64 (ex n)) ∧ w' = w := by
  have hr1 := Int.tmod_lt_of_pos n (show (0 : Int) < 1073741789 by omega)
  have hr2 : -1073741789 < n.tmod 1073741789 := by
    have := Int.lt_tmod_of_pos n (show (0 : Int) < 1073741789 by omega)
    omega
  have hd := Int.mul_tdiv_add_tmod n 1073741789
  obtain ⟨r, hr⟩ : ∃ r, n.tmod 1073741789 = r := ⟨_, rfl⟩
  rw [hr] at hr1 hr2 hd
  by_cases h : r < 0
  · have he : Hid (ex n = r + 1073741789) := Lib.hid (by unfold ex; omega)
    clear hd _hn
    go_enter Tryd.func23, Tryd.ntmps23
    go_wp2_with fail
    go_ret
    exact ⟨by rw [he.out]; rfl, rfl⟩
  · have he : Hid (ex n = r) := Lib.hid (by unfold ex; omega)
    clear hd _hn
    go_enter Tryd.func23, Tryd.ntmps23
    go_wp2_with fail
    go_ret
    exact ⟨by rw [he.out]; rfl, rfl⟩

set_option maxRecDepth 100000 in
set_option maxHeartbeats 400000 in
theorem rtimes_any (a b : Int) (ha : -9223372036854775808 ≤ a ∧ a ≤ 9223372036854775807) (hb : -9223372036854775808 ≤ b ∧ b ≤ 9223372036854775807) (w : World) : Calls Tryd.prog 52 #[.int .i64 a, .int .i64 b] w fun e w' => e = .returned (.int .i64 (ex a * ex b % 1073741789)) ∧ w' = w := by
  have hc := Lib.hid (mod_any a ha w)
  have hd := Lib.hid (mod_any b hb w)
  have h1 := ex_range a
  have h2 := ex_range b
  obtain ⟨x, hx⟩ : ∃ x, x = ex a := ⟨_, rfl⟩
  obtain ⟨y, hy⟩ : ∃ y, y = ex b := ⟨_, rfl⟩
  rw [← hx] at hc h1 ⊢
  rw [← hy] at hd h2 ⊢
  have hbd := mul_bound (show 0 ≤ x ∧ x < 2147483579 from by omega) (show 0 ≤ y ∧ y < 2147483579 from by omega)
  obtain ⟨z, hz⟩ : ∃ z, z = x * y := ⟨_, rfl⟩
  rw [← hz] at hbd ⊢
  have hw : IntKind.i64.wrap (x * y) = z := by rw [← hz]; exact IntWalk.i64_in _ (by omega)
  clear hz hx hy ha hb h1 h2
  go_enter Tryd.func52, Tryd.ntmps52
  go_wp2_with (go_at_call 23; first | (with_reducible refine hc.out.mono ?_; clear hc; rintro e w' ⟨rfl, rfl⟩) | (with_reducible refine hd.out.mono ?_; rintro e w' ⟨rfl, rfl⟩))
  go_ret
  exact ⟨rfl, rfl⟩

theorem pow_half (a n q : Nat) : (a * a % q) ^ (n / 2) % q = a ^ (2 * (n / 2)) % q := by
  rw [← Nat.pow_mod, Nat.pow_mul, Nat.pow_two]

set_option maxRecDepth 100000 in
set_option maxHeartbeats 800000 in
theorem rpower_any (a : Int) (n : Nat) (ha : -9223372036854775808 ≤ a ∧ a ≤ 9223372036854775807) (hn : n < 9223372036854775808) (w : World) : Calls Tryd.prog 60 #[.int .i64 a, .int .i64 n] w fun e w' => e = .returned (.int .i64 (((ex a).toNat ^ n % 1073741789 : Nat) : Int)) ∧ w' = w := by
  have hc := Lib.hid (mod_any a ha w)
  have h1 := ex_range a
  obtain ⟨x, hx⟩ : ∃ x : Nat, ex a = (x : Int) := ⟨(ex a).toNat, by omega⟩
  rw [hx] at hc h1 ⊢
  obtain ⟨r, hr⟩ : ∃ r, Hid (r = x ^ n % 1073741789) := ⟨_, Lib.hid rfl⟩
  rw [Int.toNat_natCast, ← hr.out]
  have hx2 : x < 1073741789 := by omega
  clear hx h1 ha
  go_enter Tryd.func60, Tryd.ntmps60
  go_wp2_with (go_at_call 23; refine hc.out.mono ?_; clear hc; rintro e w' ⟨rfl, rfl⟩)
  go_loop [0, 1, 5] (fun A N C => ∃ (a n c : Nat), A = .int .i64 a ∧ N = .int .i64 n ∧ C = .int .i64 c ∧ a < 1073741789 ∧ n < 9223372036854775808 ∧ c < 1073741789 ∧ Hid (r = c * a ^ n % 1073741789)) (fun _ N _ => (intOf N).toNat)
  case atStart => exact ⟨x, n, 1, rfl, rfl, rfl, hx2, hn, by decide, Lib.hid (by rw [hr.out, Nat.one_mul])⟩
  case round =>
    obtain ⟨a, n, c, rfl, rfl, rfl, ha, hn, hc, hR⟩ := hrel
    by_cases h0 : n = 0
    · subst h0
      have hr2 : Hid (r = c) := Lib.hid (by rw [hR.out, Nat.pow_zero, Nat.mul_one, Nat.mod_eq_of_lt hc])
      clear ha hn hc
      go_wp2_with fail
      go_ret
      exact ⟨by rw [hr2.out]; rfl, rfl⟩
    · have hpos : (n : Int) > 0 := by omega
      have hs := mul_bound (show 0 ≤ (a : Int) ∧ (a : Int) < 2147483579 from by omega) (show 0 ≤ (a : Int) ∧ (a : Int) < 2147483579 from by omega)
      have hs2 := mul_bound (show 0 ≤ (c : Int) ∧ (c : Int) < 2147483579 from by omega) (show 0 ≤ (a : Int) ∧ (a : Int) < 2147483579 from by omega)
      obtain ⟨m, hm⟩ : ∃ m, m = a * a := ⟨_, rfl⟩
      obtain ⟨q, hq⟩ : ∃ q, q = c * a := ⟨_, rfl⟩
      have hw : IntKind.i64.wrap ((a : Int) * (a : Int)) = (m : Int) := by rw [IntWalk.i64_in _ (by omega), hm]; simp
      have hw2 : IntKind.i64.wrap ((c : Int) * (a : Int)) = (q : Int) := by rw [IntWalk.i64_in _ (by omega), hq]; simp
      have H := Lib.hid (And.intro hm hq)
      clear hm hq hs hs2
      by_cases h1 : n % 2 = 1
      · have t1 : ((n : Int) % 2 == 1) = true := by simp; omega
        have hR2 : Hid (r = (q % 1073741789) * (m % 1073741789) ^ (n / 2) % 1073741789) := Lib.hid (by
          obtain ⟨hm, hq⟩ := H.out
          rw [hR.out, hm, hq, Nat.mul_mod (c * a % 1073741789), pow_half, Nat.mod_mod, ← Nat.mul_mod]
          conv => lhs; rw [show n = 2 * (n / 2) + 1 from by omega, Nat.pow_succ]
          rw [Nat.mul_assoc, Nat.mul_comm a])
        clear h1 ha hc
        go_wp2_with fail
        exact ⟨⟨m % 1073741789, n / 2, q % 1073741789, by go_num, by go_num, by go_num, Nat.mod_lt _ (by decide), by omega, Nat.mod_lt _ (by decide), hR2⟩, by simp [intOf]; omega⟩
      · have t1 : ((n : Int) % 2 == 1) = false := by simp; omega
        have hR2 : Hid (r = c * (m % 1073741789) ^ (n / 2) % 1073741789) := Lib.hid (by
          obtain ⟨hm, hq⟩ := H.out
          rw [hR.out, hm, Nat.mul_mod c ((a * a % 1073741789) ^ (n / 2)), pow_half, ← Nat.mul_mod]
          conv => lhs; rw [show n = 2 * (n / 2) from by omega])
        have hcc := Lib.hid hc
        clear h1 ha hc
        go_wp2_with fail
        exact ⟨⟨m % 1073741789, n / 2, c, by go_num, by go_num, rfl, Nat.mod_lt _ (by decide), by omega, hcc.out, hR2⟩, by simp [intOf]; omega⟩

end Go.Proofs.YtjhecmmbpmpmgaaDoor
