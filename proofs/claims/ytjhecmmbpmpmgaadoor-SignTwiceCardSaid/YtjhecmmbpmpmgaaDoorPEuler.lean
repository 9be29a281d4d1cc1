/- Plain: Euler's criterion, Fermat's little theorem, and the two primes. No program in sight. -/
import Derived.Test.YtjhecmmbpmpmgaaDoorPQuad
import Derived.KernelRfl
namespace Go.Proofs.YtjhecmmbpmpmgaaDoor

def Pr (p : Nat) : Prop := 1 < p ∧ ∀ d, d ∣ p → d = 1 ∨ d = p

theorem Pr.cop {p k : Nat} (h : Pr p) (h1 : 1 ≤ k) (h2 : k < p) : Nat.Coprime k p := by
  rcases h.2 (Nat.gcd k p) (Nat.gcd_dvd_right k p) with e | e
  · exact e
  · have := Nat.le_of_dvd (by omega) (Nat.gcd_dvd_left k p); omega

theorem Pr.copm {p a : Nat} (h : Pr p) (h1 : a % p ≠ 0) : Nat.Coprime a p := by
  have := h.cop (k := a % p) (by omega) (Nat.mod_lt _ (by have := h.1; omega))
  unfold Nat.Coprime at this ⊢
  rw [Nat.gcd_comm a p, Nat.gcd_rec]
  exact this

theorem mul_mq {p x y u v : Nat} (h : x % p = y % p) (g : u % p = v % p) : x * u % p = y * v % p := by
  rw [Nat.mul_mod, h, g, ← Nat.mul_mod]

theorem mq_cancel {p x y c : Nat} (hc : Nat.Coprime c p) (h : x * c % p = y * c % p) : x % p = y % p := by
  have main : ∀ x y : Nat, y ≤ x → x * c % p = y * c % p → x % p = y % p := by
    intro x y hle e
    have h0 := Nat.sub_mod_eq_zero_of_mod_eq e
    rw [← Nat.sub_mul] at h0
    have hd : p ∣ x - y := Nat.Coprime.dvd_of_dvd_mul_right hc.symm (Nat.dvd_of_mod_eq_zero h0)
    obtain ⟨d, hd⟩ := hd
    rw [show x = y + p * d from by omega, Nat.add_mul_mod_self_left]
  rcases Nat.le_total y x with h' | h'
  · exact main x y h' h
  · exact (main y x h' h.symm).symm

def eps (p : Nat) (b : Bool) : Nat := if b then p - 1 else 1

theorem neg_mul {p y : Nat} (h1 : 1 ≤ y) (h2 : y < p) : (p - 1) * y % p = p - y := by
  have := mod_neg (n := p) (a := y) (r := p - 1) (by omega) (by rw [show p - (p - 1) = 1 from by omega, Nat.mul_one, Nat.mod_eq_of_lt h2]; omega)
  rw [show p - (p - 1) = 1 from by omega, Nat.mul_one, Nat.mod_eq_of_lt h2] at this
  rw [Nat.mul_comm]; exact this

theorem eps_mul {p : Nat} (hp : 2 < p) (s t : Bool) : eps p (s ^^ t) % p = eps p s * eps p t % p := by
  have e1 : (p - 1) * (p - 1) % p = 1 := by rw [neg_mul (by omega) (by omega)]; omega
  cases s <;> cases t <;> simp only [eps, Bool.xor_true, Bool.xor_false, Bool.not_true, Bool.not_false, if_true, Nat.one_mul, Nat.mul_one, Bool.false_eq_true, if_false]
  rw [e1, Nat.mod_eq_of_lt (by omega)]

theorem mul_lc (a b c : Nat) : a * (b * c) = b * (a * c) := by rw [← Nat.mul_assoc, Nat.mul_comm a b, Nat.mul_assoc]
theorem mul_4 (a b c d : Nat) : (a * b) * (c * d) = (a * c) * (b * d) := by rw [Nat.mul_assoc, mul_lc b c d, ← Nat.mul_assoc]

def pr (f : Nat → Nat) (l : List Nat) : Nat := fo (· * ·) 1 f l

theorem gauss {a p : Nat} (hp : Pr p) (hodd : p % 2 = 1) (hc : Nat.Coprime a p) : a ^ (p / 2) % p = eps p (jac a p) % p := by
  have hp1 := hp.1
  have hh : p = 2 * (p / 2) + 1 := by omega
  have key : ∀ l : List Nat, (∀ k ∈ l, 1 ≤ k ∧ k ≤ p / 2) → a ^ l.length * pr (fun k => k) l % p = eps p (fo (· ^^ ·) false (sg a p (p / 2)) l) * pr (rho a p (p / 2)) l % p := by
    intro l
    induction l with
    | nil => intro _; rfl
    | cons k l ih =>
      intro h
      have hk := h k (by simp)
      have ih := ih (fun j hj => h j (by simp [hj]))
      have hpos := rem_pos (a := a) (n := p) (k := k) hc hk.1 (by omega)
      have hlt : a * k % p < p := Nat.mod_lt _ (by omega)
      have e1 : a ^ (k :: l).length * pr (fun k => k) (k :: l) = (a * k) * (a ^ l.length * pr (fun k => k) l) := by
        rw [List.length_cons, Nat.pow_succ, Nat.mul_comm (a ^ l.length) a]
        exact mul_4 _ _ _ _
      have e2 : a * k % p = eps p (sg a p (p / 2) k) * rho a p (p / 2) k % p := by
        unfold sg rho eps
        by_cases hr : a * k % p ≤ p / 2
        · rw [if_pos hr, if_neg (by simp; omega), Nat.one_mul, Nat.mod_mod]
        · rw [if_neg hr, if_pos (by simp; omega), neg_mul (by omega) (by omega)]; omega
      have e3 : eps p (fo (· ^^ ·) false (sg a p (p / 2)) (k :: l)) * pr (rho a p (p / 2)) (k :: l) % p =
          (eps p (sg a p (p / 2) k) * rho a p (p / 2) k) * (eps p (fo (· ^^ ·) false (sg a p (p / 2)) l) * pr (rho a p (p / 2)) l) % p := by
        rw [← mul_4]
        exact mul_mq (eps_mul (by omega) _ _) rfl
      rw [e1, e3]
      exact mul_mq e2 ih
  have hk := key (upto (p / 2)) (fun k hk => mem_upto.1 hk)
  have hper : pr (rho a p (p / 2)) (upto (p / 2)) = pr (fun k => k) (upto (p / 2)) := by
    have := fo_perm (op := (· * ·)) (e := 1) (f := fun k => k) mul_lc (rho_perm hh hc)
    rw [fo_map] at this
    exact this
  have hcp : ∀ l : List Nat, (∀ k ∈ l, 1 ≤ k ∧ k ≤ p / 2) → Nat.Coprime (pr (fun k => k) l) p := by
    intro l
    induction l with
    | nil => intro _; exact Nat.coprime_one_left p
    | cons k l ih =>
      intro h
      have hk := h k (by simp)
      exact Nat.Coprime.mul_left (hp.cop hk.1 (show k < p by omega)) (ih (fun j hj => h j (by simp [hj])))
  rw [hper, upto_len] at hk
  exact mq_cancel (hcp _ (fun k hk => mem_upto.1 hk)) hk

/-- Euler's criterion -/
theorem euler {a p : Nat} (hp : Pr p) (hodd : p % 2 = 1) (hc : Nat.Coprime a p) : a ^ (p / 2) % p = 1 ↔ jac a p = false := by
  have hp1 := hp.1
  rw [gauss hp hodd hc]
  cases jac a p with
  | false => simp only [eps, Bool.false_eq_true, if_false, iff_true]; exact Nat.mod_eq_of_lt hp1
  | true => simp only [eps, if_true, Bool.true_eq_false, iff_false]; rw [Nat.mod_eq_of_lt (by omega)]; omega

theorem fermat {a p : Nat} (hp : Pr p) (hodd : p % 2 = 1) (hc : Nat.Coprime a p) : a ^ (p - 1) % p = 1 := by
  have hp1 := hp.1
  have h := gauss hp hodd hc
  rw [show p - 1 = p / 2 + p / 2 from by omega, Nat.pow_add, mul_mq h h, ← eps_mul (by omega), Bool.xor_self]
  simp only [eps, Bool.false_eq_true, if_false]; exact Nat.mod_eq_of_lt hp1

/-- none of the odd numbers 2 i + 3, for 2 ^ f numbers i from lo on, divides p -/
def noDiv (p : Nat) : Nat → Nat → Bool
  | 0, lo => p % (2 * lo + 3) != 0
  | f + 1, lo => noDiv p f lo && noDiv p f (lo + 2 ^ f)

theorem noDiv_at (p : Nat) : ∀ (f lo i : Nat), noDiv p f lo = true → lo ≤ i → i < lo + 2 ^ f → p % (2 * i + 3) ≠ 0
  | 0, lo, i, h, h1, h2 => by
    have : i = lo := by simp at h2; omega
    subst this
    simpa [noDiv] using h
  | f + 1, lo, i, h, h1, h2 => by
    rw [noDiv, Bool.and_eq_true] at h
    by_cases hi : i < lo + 2 ^ f
    · exact noDiv_at p f lo i h.1 h1 hi
    · exact noDiv_at p f (lo + 2 ^ f) i h.2 (by omega) (by rw [Nat.pow_succ] at h2; omega)

theorem pr_of {p : Nat} (h1 : p % 2 = 1) (h2 : 1 < p) (h3 : p < 4294967296) (h : noDiv p 15 0 = true) : Pr p := by
  have small : ∀ e c, p = e * c → 1 < e → e ≤ c → e = p := by
    intro e c hec he hle
    exfalso
    have hodd : e % 2 = 1 := by
      rcases Nat.mod_two_eq_zero_or_one e with h | h
      · have : p % 2 = 0 := by rw [hec, Nat.mul_mod, h]; simp
        omega
      · exact h
    have hlt : e < 65536 := by
      rcases Nat.lt_or_ge e 65536 with h | h
      · exact h
      · have := Nat.mul_le_mul h (Nat.le_trans h hle); omega
    refine noDiv_at p 15 0 ((e - 3) / 2) h (by omega) (by rw [show (2 : Nat) ^ 15 = 32768 from by decide]; omega) ?_
    rw [show 2 * ((e - 3) / 2) + 3 = e from by omega, hec]
    exact Nat.mul_mod_right e c
  refine ⟨h2, fun d hd => ?_⟩
  obtain ⟨c, hc⟩ := hd
  have hd0 : d ≠ 0 := by intro e; subst e; simp at hc; omega
  have hc0 : c ≠ 0 := by intro e; subst e; simp at hc; omega
  by_cases hd1 : d = 1
  · exact .inl hd1
  · by_cases hc1 : c = 1
    · right; rw [hc, hc1, Nat.mul_one]
    · rcases Nat.le_total d c with hle | hle
      · exact .inr (small d c hc (by omega) hle)
      · have e := small c d (by rw [hc, Nat.mul_comm]) (by omega) hle
        exfalso
        rw [hc] at e
        have : c * 1 < c * d := Nat.mul_lt_mul_of_pos_left (by omega) (by omega)
        rw [Nat.mul_comm c d] at this
        omega

def thP : Nat := 2147483579
def thQ : Nat := 1073741789
theorem thPQ : thP / 2 = thQ := by decide

theorem prP : Pr thP := pr_of (by decide) (by decide) (by decide) (by kernel_rfl)
theorem prQ : Pr thQ := pr_of (by decide) (by decide) (by decide) (by kernel_rfl)

/-- is x an element: a square modulo P -/
def valid (x : Int) : Bool := decide (1 ≤ x ∧ x < 2147483579) && !jac x.toNat thP

theorem valid_cop {x : Int} (h1 : 1 ≤ x) (h2 : x < 2147483579) : Nat.Coprime x.toNat thP := prP.cop (by omega) (by unfold thP; omega)

theorem valid_iff (x : Int) : valid x = true ↔ 1 ≤ x ∧ x < 2147483579 ∧ x.toNat ^ thQ % thP = 1 := by
  unfold valid
  rw [Bool.and_eq_true, decide_eq_true_iff, Bool.not_eq_true', ← thPQ]
  constructor
  · rintro ⟨⟨h1, h2⟩, h3⟩
    exact ⟨h1, h2, (euler prP (by decide) (valid_cop h1 h2)).2 h3⟩
  · rintro ⟨h1, h2, h3⟩
    exact ⟨⟨h1, h2⟩, (euler prP (by decide) (valid_cop h1 h2)).1 h3⟩

end Go.Proofs.YtjhecmmbpmpmgaaDoor
