/- Plain: calculating with powers modulo P; what Sign makes, Verify accepts; two signatures with one point. -/
import Derived.Test.YtjhecmmbpmpmgaaDoorDVer3
namespace Go.Proofs.YtjhecmmbpmpmgaaDoor

theorem pow_red {a : Nat} (h : a ^ thQ % thP = 1) (n : Nat) : a ^ (n % thQ) % thP = a ^ n % thP := by
  have e : a ^ n = (a ^ thQ) ^ (n / thQ) * a ^ (n % thQ) := by
    rw [← Nat.pow_mul, ← Nat.pow_add, Nat.div_add_mod]
  have e1 : (a ^ thQ) ^ (n / thQ) % thP = 1 := by
    rw [Nat.pow_mod, h, Nat.one_pow]; rfl
  rw [e, Nat.mul_mod, e1, Nat.one_mul, Nat.mod_mod]

theorem gpow_def (a n : Int) : gpow a n = ((a.toNat ^ (ex n).toNat % thP : Nat) : Int) := rfl
theorem ex_def (n : Int) : ex n = n % (thQ : Int) := rfl

theorem ex_nat (n : Int) : ∃ k : Nat, ex n = (k : Int) ∧ k < thQ := by
  have := ex_range n
  exact ⟨(ex n).toNat, by omega, by unfold thQ; omega⟩

theorem ex_ex (n : Int) : ex (ex n) = ex n := by unfold ex; omega
theorem gpow_ex (a n : Int) : gpow a (ex n) = gpow a n := by rw [gpow_def, gpow_def, ex_ex]
theorem gpow_congr {a m n : Int} (h : ex m = ex n) : gpow a m = gpow a n := by rw [gpow_def, gpow_def, h]

theorem valid_root {a : Int} (h : valid a = true) : a.toNat ^ thQ % thP = 1 := ((valid_iff a).1 h).2.2

/-- a power at an exponent that is a natural number -/
theorem gpow_nat {a : Int} (h : valid a = true) (n : Nat) : gpow a (n : Int) = ((a.toNat ^ n % thP : Nat) : Int) := by
  rw [gpow_def, ← pow_red (valid_root h) n]
  congr 3

theorem valid_pow {a : Int} (h : valid a = true) (n : Int) : valid (gpow a n) = true := by
  have hr := valid_root h
  rw [gpow_def]
  generalize (ex n).toNat = k
  have e : (a.toNat ^ k % thP) ^ thQ % thP = 1 := by
    rw [← Nat.pow_mod, ← Nat.pow_mul, Nat.mul_comm, Nat.pow_mul, Nat.pow_mod, hr, Nat.one_pow]; rfl
  generalize hm : a.toNat ^ k % thP = m at e
  have hlt : m < thP := by rw [← hm]; exact Nat.mod_lt _ (by decide)
  have hpos : m ≠ 0 := by
    intro h0
    rw [h0, Nat.zero_pow (by decide)] at e
    exact absurd e (by decide)
  unfold thP at hlt
  exact (valid_iff _).2 ⟨by omega, by omega, by rw [Int.toNat_natCast]; exact e⟩

theorem gpow_toNat (a n : Int) : (gpow a n).toNat = a.toNat ^ (ex n).toNat % thP := by rw [gpow_def, Int.toNat_natCast]

theorem gmul_nat (x y : Nat) : gmul (x : Int) (y : Int) = ((x * y % thP : Nat) : Int) := by
  unfold gmul
  rw [← Int.natCast_mul, Int.natCast_emod]; rfl

theorem gpow_add {a : Int} (h : valid a = true) (m n : Int) : gmul (gpow a m) (gpow a n) = gpow a (m + n) := by
  obtain ⟨i, hi, _⟩ := ex_nat m
  obtain ⟨j, hj, _⟩ := ex_nat n
  have e : ex (m + n) = ex ((i + j : Nat) : Int) := by
    rw [Int.natCast_add, ← hi, ← hj]
    unfold ex; omega
  rw [gpow_congr e, gpow_nat h, gpow_def, gpow_def, gmul_nat, hi, hj, Int.toNat_natCast, Int.toNat_natCast, Nat.pow_add, ← Nat.mul_mod]

theorem gpow_gpow {a : Int} (h : valid a = true) (m n : Int) : gpow (gpow a m) n = gpow a (m * n) := by
  obtain ⟨i, hi, _⟩ := ex_nat m
  obtain ⟨j, hj, _⟩ := ex_nat n
  have e : ex (m * n) = ex ((i * j : Nat) : Int) := by
    rw [Int.natCast_mul, ← hi, ← hj]
    rw [ex_def, ex_def, ex_def, ex_def, ← Int.mul_emod]
  rw [gpow_congr e, gpow_nat h, gpow_def (gpow a m), gpow_toNat, hi, hj, Int.toNat_natCast, Int.toNat_natCast, Nat.pow_mul, ← Nat.pow_mod]

theorem gpow_one {a : Int} (h : valid a = true) : gpow a 1 = a := by
  have h1 := gpow_nat h 1
  have hr := valid_range h
  rw [Nat.pow_one, Nat.mod_eq_of_lt (by unfold thP; omega)] at h1
  rw [show ((1 : Nat) : Int) = 1 from rfl] at h1
  omega

theorem valid_sq (x : Nat) (h1 : 1 ≤ x) (h2 : x * x < thP) : valid ((x * x : Nat) : Int) = true := by
  have hx : x < thP := by
    have : x * 1 ≤ x * x := Nat.mul_le_mul_left x h1
    omega
  refine (valid_iff _).2 ⟨?_, ?_, ?_⟩
  · have : 1 * 1 ≤ x * x := Nat.mul_le_mul h1 h1
    omega
  · unfold thP at h2; omega
  · rw [Int.toNat_natCast]
    have hf := fermat prP (by decide) (prP.cop h1 hx)
    have e : (x * x) ^ thQ = x ^ (thP - 1) := by
      rw [← Nat.pow_two, ← Nat.pow_mul]
      congr 1
    rw [e]; exact hf

theorem valid_four : valid 4 = true := valid_sq 2 (by decide) (by decide)

theorem valid_two : valid 2 = false := by
  have h : jac 2 thP = true := by rw [jac_two thP (by decide)]; decide
  unfold valid
  rw [show (2 : Int).toNat = 2 from rfl, h]
  simp

theorem valid_zero : valid 0 = false := by
  unfold valid; simp

theorem spow_four (n : Int) : spow 4 n = gpow 4 n := by unfold spow; rw [if_pos valid_four]
theorem spow_valid {a : Int} (h : valid a = true) (n : Int) : spow a n = gpow a n := by unfold spow; rw [if_pos h]

/-- the point of a signature for a key that is an element -/
theorem pointOf_eq {key : Int} (h : valid key = true) (E S : Int) : pointOf key E S = gmul (gpow 4 S) (gpow key (-E)) := by
  unfold pointOf
  rw [spow_four, spow_valid h, valid_pow valid_four, valid_pow h]; rfl

/-- the point of what Sign makes -/
theorem point_made (x k E : Int) : pointOf (gpow 4 x) E ((k + E * x % 1073741789) % 1073741789) = gpow 4 k := by
  rw [pointOf_eq (valid_pow valid_four x), gpow_gpow valid_four, gpow_add valid_four]
  refine gpow_congr ?_
  have e : x * -E = -(E * x) := by rw [Int.mul_neg, Int.mul_comm]
  rw [e]
  generalize E * x = z
  unfold ex; omega

/-- what Verify answers, whatever it is asked -/
def ver (key E S : Int) (b : List UInt8) : Bool := decide (0 ≤ E ∧ E < 1073741789 ∧ 0 ≤ S ∧ S < 1073741789) && (valid key && (E == (eOf (pointOf key E S) key b : Int)))

theorem sigE_range (x : Int) (b : List UInt8) : 0 ≤ (sigE x b : Int) ∧ (sigE x b : Int) < 1073741789 := by
  have : sigE x b < 1073741789 := hashn_lt _ _
  omega
theorem sigS_range (x : Int) (b : List UInt8) : 0 ≤ sigS x b ∧ sigS x b < 1073741789 := by unfold sigS; omega

/-- what Sign makes, Verify accepts -/
theorem ver_made (x : Int) (b : List UInt8) : ver (gpow 4 x) (sigE x b) (sigS x b) b = true := by
  have h1 := sigE_range x b
  have h2 := sigS_range x b
  have hp : pointOf (gpow 4 x) (sigE x b) (sigS x b) = spow 4 (kOf x b) := by
    rw [spow_four]; exact point_made x (kOf x b) (sigE x b)
  have he : (sigE x b : Int) = (eOf (pointOf (gpow 4 x) (sigE x b) (sigS x b)) (gpow 4 x) b : Int) := by
    rw [hp, ← spow_four x]; rfl
  unfold ver
  rw [← he, valid_pow valid_four]
  simp; omega

theorem gpow_five : gpow 4 5 = 1024 := by decide

theorem gpow_zero {a : Int} (h : valid a = true) : gpow a 0 = 1 := by
  have h1 := gpow_nat h 0
  rw [Nat.pow_zero] at h1
  exact h1

theorem gpow_last {a : Int} (h : valid a = true) (n : Int) (hn : n + 1 = 1073741789) : gmul (gpow a n) a = 1 := by
  have e := gpow_add h n 1
  rw [gpow_one h, gpow_congr (show ex (n + 1) = ex 0 by rw [hn]; decide), gpow_zero h] at e
  exact e

theorem inv_four (y : Nat) (h2 : y < thP) (h : y * 4 % thP = 1) : y = 536870895 := by
  have e := mq_cancel (p := thP) (x := y) (y := 536870895) (c := 4) (by decide +kernel) (h.trans (by decide +kernel))
  rw [Nat.mod_eq_of_lt h2] at e
  exact e.trans (by decide +kernel)

theorem gpow_inv (n : Int) (hn : n + 1 = 1073741789) : gpow 4 n = 536870895 := by
  have hr := valid_range (valid_pow valid_four n)
  have h := gpow_last valid_four n hn
  generalize gpow 4 n = z at hr h
  obtain ⟨y, rfl⟩ : ∃ y : Nat, z = (y : Int) := ⟨z.toNat, by omega⟩
  have h' : gmul (y : Int) ((4 : Nat) : Int) = 1 := h
  rw [gmul_nat] at h'
  have := inv_four y (by unfold thP; omega) (by omega)
  omega

/-- the quotient that two signatures with one point give away -/
def quo (a b : Int) : Int := ex (ex a * (((ex b).toNat ^ (thQ - 2) % thQ : Nat) : Int))

theorem quo_range (a b : Int) : 0 ≤ quo a b ∧ quo a b < 1073741789 := ex_range _

theorem inv_mod {y : Nat} (h0 : y % thQ ≠ 0) : y * (y ^ (thQ - 2) % thQ) % thQ = 1 := by
  have hf := fermat prQ (by decide) (prQ.copm h0)
  rw [Nat.mul_mod, Nat.mod_mod, ← Nat.mul_mod, Nat.mul_comm, ← Nat.pow_succ]
  exact hf

theorem gmul_cancel {a b c : Int} (ha : valid a = true) (hb : valid b = true) (hc : valid c = true) (h : gmul a c = gmul b c) : a = b := by
  have ra := valid_range ha; have rb := valid_range hb; have rc := valid_range hc
  obtain ⟨x, rfl⟩ : ∃ x : Nat, a = (x : Int) := ⟨a.toNat, by omega⟩
  obtain ⟨y, rfl⟩ : ∃ x : Nat, b = (x : Int) := ⟨b.toNat, by omega⟩
  obtain ⟨z, rfl⟩ : ∃ x : Nat, c = (x : Int) := ⟨c.toNat, by omega⟩
  rw [gmul_nat, gmul_nat] at h
  have hz : Nat.Coprime z thP := prP.cop (by omega) (by unfold thP; omega)
  have := mq_cancel hz (by omega : x * z % thP = y * z % thP)
  rw [Nat.mod_eq_of_lt (by unfold thP; omega), Nat.mod_eq_of_lt (by unfold thP; omega)] at this
  omega

theorem valid_mul {a b : Int} (ha : valid a = true) (hb : valid b = true) : valid (gmul a b) = true := by
  have ra := valid_range ha; have rb := valid_range hb
  have ha' := valid_root ha; have hb' := valid_root hb
  obtain ⟨x, rfl⟩ : ∃ x : Nat, a = (x : Int) := ⟨a.toNat, by omega⟩
  obtain ⟨y, rfl⟩ : ∃ x : Nat, b = (x : Int) := ⟨b.toNat, by omega⟩
  rw [Int.toNat_natCast] at ha' hb'
  rw [gmul_nat]
  have e : (x * y % thP) ^ thQ % thP = 1 := by
    rw [← Nat.pow_mod, Nat.mul_pow, Nat.mul_mod, ha', hb']; rfl
  generalize hm : x * y % thP = m at e
  have hlt : m < thP := by rw [← hm]; exact Nat.mod_lt _ (by decide)
  have hpos : m ≠ 0 := by
    intro h0
    rw [h0, Nat.zero_pow (by decide)] at e
    exact absurd e (by decide)
  unfold thP at hlt
  exact (valid_iff _).2 ⟨by omega, by omega, by rw [Int.toNat_natCast]; exact e⟩

theorem gmul_comm (a b : Int) : gmul a b = gmul b a := by unfold gmul; rw [Int.mul_comm]
theorem gmul_assoc (a b c : Int) : gmul (gmul a b) c = gmul a (gmul b c) := by
  unfold gmul
  rw [Int.mul_emod (a * b % 2147483579), Int.emod_emod, ← Int.mul_emod, Int.mul_emod a (b * c % 2147483579), Int.emod_emod, ← Int.mul_emod, Int.mul_assoc]

theorem gmul_one {a : Int} (h : valid a = true) : gmul a 1 = a := by
  have := valid_range h
  unfold gmul; omega

theorem gpow_neg {a : Int} (h : valid a = true) (n : Int) : gmul (gpow a n) (gpow a (-n)) = 1 := by
  rw [gpow_add h, show n + -n = 0 from by omega, gpow_zero h]

theorem twice_aux {g key E S F T : Int} (v4 : valid g = true) (hk : valid key = true) (hp : gmul (gpow g S) (gpow key (-E)) = gmul (gpow g T) (gpow key (-F))) : gpow g (S - T) = gpow key (E - F) := by
  have e1 : gmul (gmul (gpow g S) (gpow key (-E))) (gmul (gpow g (-T)) (gpow key E)) = gpow g (S - T) := by
    rw [gmul_assoc, ← gmul_assoc (gpow key (-E)), gmul_comm (gpow key (-E)) (gpow g (-T)), gmul_assoc (gpow g (-T)), gmul_comm (gpow key (-E)) (gpow key E), gpow_neg hk E, ← gmul_assoc, gpow_add v4 S (-T), gmul_one (valid_pow v4 _)]
    congr 1
  have e2 : gmul (gmul (gpow g T) (gpow key (-F))) (gmul (gpow g (-T)) (gpow key E)) = gpow key (E - F) := by
    rw [gmul_assoc, ← gmul_assoc (gpow key (-F)), gmul_comm (gpow key (-F)) (gpow g (-T)), gmul_assoc (gpow g (-T)), ← gmul_assoc (gpow g T), gpow_neg v4 T, gpow_add hk (-F) E, gmul_comm 1, gmul_one (valid_pow hk _)]
    congr 1; omega
  rw [← e1, hp, e2]

/-- two signatures with one point -/
theorem twice {key E S F T : Int} (hk : valid key = true) (hp : pointOf key E S = pointOf key F T) (hd : ex (E - F) ≠ 0) : gpow 4 (quo (S - T) (E - F)) = key := by
  rw [pointOf_eq hk, pointOf_eq hk] at hp
  have v4 := valid_four
  -- 4 ^ (S - T) = key ^ (E - F)
  have h1 := twice_aux v4 hk hp
  obtain ⟨y, hy, _⟩ := ex_nat (E - F)
  have hy0 : y % thQ ≠ 0 := by
    rw [Nat.mod_eq_of_lt (by assumption)]
    intro h0; apply hd; rw [hy, h0]; rfl
  have hi := inv_mod hy0
  obtain ⟨v, hv⟩ : ∃ v : Nat, v = y ^ (thQ - 2) % thQ := ⟨_, rfl⟩
  rw [← hv] at hi
  have hq : quo (S - T) (E - F) = ex (ex (S - T) * (v : Int)) := by
    unfold quo
    rw [hy, Int.toNat_natCast, hv]
  rw [hq, gpow_ex, ← gpow_gpow v4, gpow_ex, h1, gpow_gpow hk]
  have e3 : ex ((E - F) * (v : Int)) = ex 1 := by
    have e4 : ex ((E - F) * (v : Int)) = ex (ex (E - F) * (v : Int)) := by
      simp only [ex_def]
      rw [Int.mul_emod, Int.mul_emod ((E - F) % (thQ : Int)) (v : Int), Int.emod_emod]
    rw [e4, hy, ex_def, ← Int.natCast_mul, ← Int.natCast_emod, hi]; rfl
  rw [gpow_congr e3, gpow_one hk]

end Go.Proofs.YtjhecmmbpmpmgaaDoor
