/- Plain: the law of quadratic reciprocity, by counting (Gauss, Eisenstein). No program in sight. -/
import Derived.WalkKit
namespace Go.Proofs.YtjhecmmbpmpmgaaDoor

/-- the numbers 1 to n -/
def upto : Nat → List Nat
  | 0 => []
  | n + 1 => (n + 1) :: upto n

theorem mem_upto : ∀ {n k : Nat}, k ∈ upto n ↔ 1 ≤ k ∧ k ≤ n
  | 0, k => by simp [upto]; omega
  | n + 1, k => by rw [upto, List.mem_cons, mem_upto]; omega

theorem upto_len : ∀ (n : Nat), (upto n).length = n
  | 0 => rfl
  | n + 1 => by simp [upto, upto_len n]

theorem upto_nodup : ∀ (n : Nat), (upto n).Nodup
  | 0 => by simp [upto]
  | n + 1 => by
    rw [upto, List.nodup_cons]
    exact ⟨fun h => by have := mem_upto.1 h; omega, upto_nodup n⟩

/-- a fold -/
def fo {α : Type} (op : α → α → α) (e : α) (f : Nat → α) : List Nat → α
  | [] => e
  | k :: l => op (f k) (fo op e f l)

theorem fo_perm {α : Type} {op : α → α → α} {e : α} {f : Nat → α} (hc : ∀ a b c, op a (op b c) = op b (op a c)) {l m : List Nat} (h : l.Perm m) : fo op e f l = fo op e f m := by
  induction h with
  | nil => rfl
  | cons x _ ih => rw [fo, fo, ih]
  | swap x y l => rw [fo, fo, fo, fo, hc]
  | trans _ _ h1 h2 => rw [h1, h2]

theorem fo_congr {α : Type} {op : α → α → α} {e : α} {f g : Nat → α} : ∀ {l : List Nat}, (∀ k ∈ l, f k = g k) → fo op e f l = fo op e g l
  | [], _ => rfl
  | k :: l, h => by rw [fo, fo, h k (by simp), fo_congr (l := l) (fun j hj => h j (by simp [hj]))]

theorem fo_map {α : Type} {op : α → α → α} {e : α} {f : Nat → α} {p : Nat → Nat} : ∀ {l : List Nat}, fo op e f (l.map p) = fo op e (fun k => f (p k)) l
  | [] => rfl
  | k :: l => by rw [List.map_cons, fo, fo, fo_map]

theorem fo_op {α : Type} {op : α → α → α} {e : α} {f g : Nat → α} (he : op e e = e) (hc : ∀ a b c d, op (op a b) (op c d) = op (op a c) (op b d)) : ∀ {l : List Nat}, fo op e (fun k => op (f k) (g k)) l = op (fo op e f l) (fo op e g l)
  | [] => by rw [fo, fo, fo, he]
  | k :: l => by rw [fo, fo, fo, fo_op he hc, hc]

theorem perm_of : ∀ (l m : List Nat), l.Nodup → (∀ x ∈ l, x ∈ m) → m.length ≤ l.length → l.Perm m
  | [], m, _, _, h => by have : m = [] := List.eq_nil_of_length_eq_zero (by simpa using h); subst this; exact .nil
  | a :: l, m, hn, hs, h => by
    rw [List.nodup_cons] at hn
    have ha := hs a (by simp)
    refine List.Perm.trans (List.Perm.cons a (perm_of l (m.erase a) hn.2 (fun x hx => ?_) ?_)) (List.perm_cons_erase ha).symm
    · exact (List.mem_erase_of_ne (a := x) (b := a) (fun e => hn.1 (by rw [← e]; exact hx))).2 (hs x (by simp [hx]))
    · rw [List.length_erase_of_mem ha]; simp at h; omega

theorem nodup_map_on {f : Nat → Nat} : ∀ (l : List Nat), (∀ x ∈ l, ∀ y ∈ l, f x = f y → x = y) → l.Nodup → (l.map f).Nodup
  | [], _, _ => by simp
  | a :: l, h, hn => by
    rw [List.nodup_cons] at hn
    rw [List.map_cons, List.nodup_cons]
    refine ⟨fun hm => ?_, nodup_map_on l (fun x hx y hy => h x (by simp [hx]) y (by simp [hy])) hn.2⟩
    obtain ⟨b, hb, e⟩ := List.mem_map.1 hm
    exact hn.1 ((h b (by simp [hb]) a (by simp) e) ▸ hb)

/-- the absolutely least remainder of a k by n = 2 h + 1, without its sign -/
def rho (a n h k : Nat) : Nat := if a * k % n ≤ h then a * k % n else n - a * k % n
/-- its sign -/
def sg (a n h k : Nat) : Bool := decide (h < a * k % n)

section
variable {a n h : Nat}

theorem rem_pos {k : Nat} (hc : Nat.Coprime a n) (h1 : 1 ≤ k) (h2 : k < n) : 0 < a * k % n := by
  rcases Nat.eq_zero_or_pos (a * k % n) with h | h
  · have hd : n ∣ a * k := Nat.dvd_of_mod_eq_zero h
    have hd2 : n ∣ k := Nat.Coprime.dvd_of_dvd_mul_left hc.symm hd
    have := Nat.le_of_dvd (by omega) hd2
    omega
  · exact h

theorem rho_mem {k : Nat} (hn : n = 2 * h + 1) (hc : Nat.Coprime a n) (h1 : 1 ≤ k) (h2 : k ≤ h) : 1 ≤ rho a n h k ∧ rho a n h k ≤ h := by
  have hp := rem_pos (a := a) (n := n) (k := k) hc h1 (by omega)
  have hl : a * k % n < n := Nat.mod_lt _ (by omega)
  unfold rho
  split <;> omega

theorem sub_dvd {x y : Nat} (hxy : a * x % n = a * y % n) (hc : Nat.Coprime a n) (hx : x < n) (hy : y < n) : x = y := by
  have main : ∀ x y : Nat, x < n → y ≤ x → a * x % n = a * y % n → x = y := by
    intro x y hx hle e
    have h0 := Nat.sub_mod_eq_zero_of_mod_eq e
    rw [← Nat.mul_sub] at h0
    have hd : n ∣ x - y := Nat.Coprime.dvd_of_dvd_mul_left hc.symm (Nat.dvd_of_mod_eq_zero h0)
    rcases Nat.eq_zero_or_pos (x - y) with h | h
    · omega
    · have := Nat.le_of_dvd h hd; omega
  rcases Nat.le_total y x with h | h
  · exact main x y hx h hxy
  · exact (main y x hy h hxy.symm).symm

theorem add_dvd {x y : Nat} (hxy : a * x % n + a * y % n = n) (hc : Nat.Coprime a n) (h1 : 0 < x + y) (h2 : x + y < n) : False := by
  have h0 : (a * (x + y)) % n = 0 := by rw [Nat.mul_add, Nat.add_mod, hxy]; exact Nat.mod_self n
  have hd : n ∣ x + y := Nat.Coprime.dvd_of_dvd_mul_left hc.symm (Nat.dvd_of_mod_eq_zero h0)
  have := Nat.le_of_dvd h1 hd; omega

theorem rho_inj {x y : Nat} (hn : n = 2 * h + 1) (hc : Nat.Coprime a n) (hx1 : 1 ≤ x) (hx2 : x ≤ h) (hy1 : 1 ≤ y) (hy2 : y ≤ h) (e : rho a n h x = rho a n h y) : x = y := by
  have hpx := rem_pos (a := a) (n := n) (k := x) hc hx1 (by omega)
  have hpy := rem_pos (a := a) (n := n) (k := y) hc hy1 (by omega)
  have hlx : a * x % n < n := Nat.mod_lt _ (by omega)
  have hly : a * y % n < n := Nat.mod_lt _ (by omega)
  by_cases hs : a * x % n = a * y % n
  · exact sub_dvd hs hc (by omega) (by omega)
  · exfalso
    refine add_dvd (a := a) (n := n) (x := x) (y := y) ?_ hc (by omega) (by omega)
    unfold rho at e
    split at e <;> split at e <;> omega

theorem rho_perm (hn : n = 2 * h + 1) (hc : Nat.Coprime a n) : ((upto h).map (rho a n h)).Perm (upto h) := by
  refine perm_of _ _ (nodup_map_on _ (fun x hx y hy e => ?_) (upto_nodup h)) (fun x hx => ?_) (by simp)
  · have h1 := mem_upto.1 hx; have h2 := mem_upto.1 hy
    exact rho_inj hn hc h1.1 h1.2 h2.1 h2.2 e
  · obtain ⟨k, hk, rfl⟩ := List.mem_map.1 hx
    have := mem_upto.1 hk
    exact mem_upto.2 (rho_mem hn hc this.1 this.2)
end

theorem xor_lc (a b c : Bool) : (a ^^ (b ^^ c)) = (b ^^ (a ^^ c)) := by cases a <;> cases b <;> cases c <;> rfl
theorem xor_4 (a b c d : Bool) : ((a ^^ b) ^^ (c ^^ d)) = ((a ^^ c) ^^ (b ^^ d)) := by cases a <;> cases b <;> cases c <;> cases d <;> rfl

/-- Jacobi's symbol of a over n = 2 h + 1: true stands for -1 -/
def jac (a n : Nat) : Bool := fo (· ^^ ·) false (sg a n (n / 2)) (upto (n / 2))

theorem jac_mod (a n : Nat) : jac (a % n) n = jac a n := by
  unfold jac
  refine fo_congr fun k _ => ?_
  unfold sg
  rw [Nat.mod_mul_mod]

theorem mod_neg {n a r : Nat} (hr : r ≤ n) (hp : 0 < a * (n - r) % n) : a * r % n = n - a * (n - r) % n := by
  have e : a * r + a * (n - r) = n * a := by rw [← Nat.mul_add, Nat.add_sub_cancel' hr, Nat.mul_comm]
  have h0 : (a * r + a * (n - r)) % n = 0 := by rw [e, Nat.mul_mod_right]
  have hn : 0 < n := by
    rcases Nat.eq_zero_or_pos n with h | h
    · subst h; simp at hr; subst hr; simp at hp
    · exact h
  have h1 := Nat.mod_lt (a * r) hn
  have h2 := Nat.mod_lt (a * (n - r)) hn
  rw [Nat.add_mod] at h0
  have hd := Nat.dvd_of_mod_eq_zero h0
  obtain ⟨c, hc⟩ := hd
  have : c = 1 := by
    rcases Nat.lt_or_ge c 2 with h | h
    · rcases Nat.eq_zero_or_pos c with h' | h'
      · subst h'; simp at hc; omega
      · omega
    · have := Nat.mul_le_mul_left n h; omega
  subst this
  omega

theorem jac_mul (a b n : Nat) (hn : n % 2 = 1) (ha : Nat.Coprime a n) (hb : Nat.Coprime b n) : jac (a * b) n = (jac a n ^^ jac b n) := by
  have hh : n = 2 * (n / 2) + 1 := by omega
  unfold jac
  rw [← fo_perm (f := sg a n (n / 2)) xor_lc (rho_perm hh hb), fo_map, ← fo_op (by rfl) xor_4]
  refine fo_congr fun k hk => ?_
  have hk := mem_upto.1 hk
  obtain ⟨r1, r2⟩ := rho_mem hh hb hk.1 hk.2
  have hpr := rem_pos (a := a) (n := n) (k := rho b n (n / 2) k) ha r1 (by omega)
  have hpb := rem_pos (a := b) (n := n) (k := k) hb hk.1 (by omega)
  have e0 : a * b * k % n = a * (b * k % n) % n := by rw [Nat.mul_assoc, Nat.mul_mod_mod]
  unfold sg
  rw [e0]
  unfold rho at hpr ⊢
  have hlb : b * k % n < n := Nat.mod_lt _ (by omega)
  split
  · rename_i hle
    rw [decide_eq_false (show ¬ n / 2 < b * k % n by omega), Bool.xor_false]
  · rename_i hgt
    rw [if_neg hgt] at hpr
    have hl2 : a * (n - b * k % n) % n < n := Nat.mod_lt _ (by omega)
    rw [mod_neg (by omega) hpr, decide_eq_true (show n / 2 < b * k % n by omega), Bool.xor_true]
    by_cases hs : n / 2 < a * (n - b * k % n) % n
    · rw [decide_eq_true hs, decide_eq_false (by omega)]; rfl
    · rw [decide_eq_false hs, decide_eq_true (by omega)]; rfl

theorem jac_one (n : Nat) (hn : n % 2 = 1) : jac 1 n = false := by
  unfold jac
  have : ∀ l : List Nat, (∀ k ∈ l, 1 ≤ k ∧ k ≤ n / 2) → fo (· ^^ ·) false (sg 1 n (n / 2)) l = false := by
    intro l
    induction l with
    | nil => intro _; rfl
    | cons k l ih =>
      intro h
      have hk := h k (by simp)
      rw [fo, ih (fun j hj => h j (by simp [hj]))]
      unfold sg
      rw [Nat.one_mul, Nat.mod_eq_of_lt (by omega), decide_eq_false (by omega)]; rfl
  exact this _ (fun k hk => mem_upto.1 hk)

theorem par_add (x y : Nat) : decide ((x + y) % 2 = 1) = (decide (x % 2 = 1) ^^ decide (y % 2 = 1)) := by
  rcases Nat.mod_two_eq_zero_or_one x with h1 | h1 <;> rcases Nat.mod_two_eq_zero_or_one y with h2 | h2 <;>
    · rw [h1, h2]; first | rw [decide_eq_false (by omega)]; rfl | rw [decide_eq_true (by omega)]; rfl

theorem jac_two (n : Nat) (hn : n % 2 = 1) : jac 2 n = decide (n % 8 = 3 ∨ n % 8 = 5) := by
  have key : ∀ t, t ≤ n / 2 → fo (· ^^ ·) false (sg 2 n (n / 2)) (upto t) = decide ((t - n / 2 / 2) % 2 = 1) := by
    intro t
    induction t with
    | zero => intro _; simp [upto, fo]
    | succ t ih =>
      intro ht
      rw [upto, fo, ih (by omega)]
      unfold sg
      rw [Nat.mod_eq_of_lt (by omega)]
      by_cases h1 : n / 2 < 2 * (t + 1)
      · rw [decide_eq_true h1]
        by_cases h2 : (t - n / 2 / 2) % 2 = 1
        · rw [decide_eq_true h2, decide_eq_false (by omega)]; rfl
        · rw [decide_eq_false h2, decide_eq_true (by omega)]; rfl
      · rw [decide_eq_false h1, Bool.false_xor]
        congr 1
        rw [show t + 1 - n / 2 / 2 = t - n / 2 / 2 from by omega]
  unfold jac
  rw [key _ (Nat.le_refl _)]
  by_cases h : n % 8 = 3 ∨ n % 8 = 5
  · rw [decide_eq_true h, decide_eq_true (by omega)]
  · rw [decide_eq_false h, decide_eq_false (by omega)]

theorem add_lc (a b c : Nat) : a + (b + c) = b + (a + c) := by omega
theorem add_4 (a b c d : Nat) : (a + b) + (c + d) = (a + c) + (b + d) := by omega

def sm (f : Nat → Nat) (l : List Nat) : Nat := fo (· + ·) 0 f l
theorem sm_nil (f : Nat → Nat) : sm f [] = 0 := rfl
theorem sm_cons (f : Nat → Nat) (k : Nat) (l : List Nat) : sm f (k :: l) = f k + sm f l := rfl
theorem sm_add (f g : Nat → Nat) (l : List Nat) : sm (fun k => f k + g k) l = sm f l + sm g l := fo_op rfl add_4
theorem sm_congr {f g : Nat → Nat} {l : List Nat} (h : ∀ k ∈ l, f k = g k) : sm f l = sm g l := fo_congr h
theorem sm_const (c : Nat) : ∀ l : List Nat, sm (fun _ => c) l = l.length * c
  | [] => by simp [sm_nil]
  | k :: l => by rw [sm_cons, sm_const c l, List.length_cons, Nat.add_mul]; omega
theorem sm_swap (f : Nat → Nat → Nat) (l m : List Nat) : sm (fun k => sm (f k) m) l = sm (fun j => sm (fun k => f k j) l) m := by
  induction l with
  | nil => rw [sm_nil]; exact ((sm_const 0 m).trans (by omega)).symm
  | cons k l ih => rw [sm_cons, ih, ← sm_add]; exact sm_congr fun j _ => rfl

/-- Eisenstein: the sign counts the quotients -/
theorem jac_sum (m n : Nat) (hm : m % 2 = 1) (hn : n % 2 = 1) (hc : Nat.Coprime m n) : jac m n = decide (sm (fun k => m * k / n) (upto (n / 2)) % 2 = 1) := by
  have hh : n = 2 * (n / 2) + 1 := by omega
  have hper : sm (rho m n (n / 2)) (upto (n / 2)) = sm (fun k => k) (upto (n / 2)) := by
    have := fo_perm (op := (· + ·)) (e := 0) (f := fun k => k) add_lc (rho_perm hh hc)
    rw [fo_map] at this
    exact this
  have hj : ∀ l, fo (· ^^ ·) false (sg m n (n / 2)) l = decide (sm (fun k => if sg m n (n / 2) k then 1 else 0) l % 2 = 1) := by
    intro l
    induction l with
    | nil => rfl
    | cons k l ih => rw [fo, ih, sm_cons, par_add]; cases sg m n (n / 2) k <;> rfl
  have hev : ∀ l, (∀ k ∈ l, 1 ≤ k ∧ k ≤ n / 2) → (sm (fun k => k) l + sm (fun k => m * k / n) l + sm (rho m n (n / 2)) l + sm (fun k => if sg m n (n / 2) k then 1 else 0) l) % 2 = 0 := by
    intro l
    induction l with
    | nil => intro _; rfl
    | cons k l ih =>
      intro h
      have hk := h k (by simp)
      have ih := ih (fun j hj => h j (by simp [hj]))
      rw [sm_cons, sm_cons, sm_cons, sm_cons]
      have e1 : m * k % 2 = k % 2 := by rw [Nat.mul_mod, hm, Nat.one_mul, Nat.mod_mod]
      have e2 : n * (m * k / n) % 2 = (m * k / n) % 2 := by rw [Nat.mul_mod, hn, Nat.one_mul, Nat.mod_mod]
      have e3 := Nat.div_add_mod (m * k) n
      have hl : m * k % n < n := Nat.mod_lt _ (by omega)
      have e4 : (k + m * k / n + rho m n (n / 2) k + (if sg m n (n / 2) k then 1 else 0)) % 2 = 0 := by
        unfold rho sg
        generalize m * k / n = q at *
        generalize n * q = nq at *
        generalize m * k % n = r at *
        generalize m * k = mk at *
        by_cases hr : r ≤ n / 2
        · rw [if_pos hr, if_neg (by simp; omega)]; omega
        · rw [if_neg hr, if_pos (by simp; omega)]; omega
      omega
  have hfin := hev (upto (n / 2)) (fun k hk => mem_upto.1 hk)
  unfold jac
  rw [hj, hper] at *
  have : sm (fun k => if sg m n (n / 2) k then 1 else 0) (upto (n / 2)) % 2 = sm (fun k => m * k / n) (upto (n / 2)) % 2 := by omega
  rw [this]

theorem count_le (q : Nat) : ∀ t, sm (fun j => if j ≤ q then 1 else 0) (upto t) = min q t
  | 0 => by simp [upto, sm_nil]
  | t + 1 => by rw [upto, sm_cons, count_le q t]; split <;> omega

theorem count_lt (m n k : Nat) (hc : Nat.Coprime m n) (h1 : 1 ≤ k) (h2 : k ≤ n / 2) (hn : n % 2 = 1) (hm : m % 2 = 1) : m * k / n = sm (fun j => if n * j < m * k then 1 else 0) (upto (m / 2)) := by
  have hp := rem_pos (a := m) (n := n) (k := k) hc h1 (by omega)
  have hq : m * k / n ≤ m / 2 := by
    rw [Nat.div_le_iff_le_mul_add_pred (by omega)]
    have e1 : m * k ≤ m * (n / 2) := Nat.mul_le_mul_left _ h2
    have e2 : m * n = 2 * (m * (n / 2)) + m := by
      conv => lhs; rw [show n = 2 * (n / 2) + 1 from by omega]
      rw [Nat.mul_add, Nat.mul_one, ← Nat.mul_assoc, Nat.mul_comm m 2, Nat.mul_assoc]
    have e3 : m * n = 2 * (n * (m / 2)) + n := by
      conv => lhs; rw [show m = 2 * (m / 2) + 1 from by omega]
      rw [Nat.add_mul, Nat.one_mul, Nat.mul_assoc, Nat.mul_comm (m / 2) n]
    omega
  have e : sm (fun j => if n * j < m * k then 1 else 0) (upto (m / 2)) = sm (fun j => if j ≤ m * k / n then 1 else 0) (upto (m / 2)) := by
    refine sm_congr fun j _ => ?_
    have e1 : j ≤ m * k / n ↔ n * j < m * k := by
      rw [Nat.le_div_iff_mul_le (by omega), Nat.mul_comm j n]
      constructor
      · intro h
        rcases Nat.lt_or_ge (n * j) (m * k) with h' | h'
        · exact h'
        · have : m * k = n * j := by omega
          rw [this, Nat.mul_mod_right] at hp; omega
      · intro h; omega
    by_cases hj : n * j < m * k
    · rw [if_pos hj, if_pos (e1.2 hj)]
    · rw [if_neg hj, if_neg (fun h => hj (e1.1 h))]
  rw [e, count_le]; omega

theorem lattice (m n : Nat) (hm : m % 2 = 1) (hn : n % 2 = 1) (hc : Nat.Coprime m n) :
    sm (fun k => m * k / n) (upto (n / 2)) + sm (fun j => n * j / m) (upto (m / 2)) = (n / 2) * (m / 2) := by
  rw [sm_congr (fun k hk => by have := mem_upto.1 hk; exact count_lt m n k hc this.1 this.2 hn hm),
    sm_congr (l := upto (m / 2)) (fun j hj => by have := mem_upto.1 hj; exact count_lt n m j hc.symm this.1 this.2 hm hn),
    sm_swap (fun j k => if m * k < n * j then 1 else 0), ← sm_add]
  have : ∀ k ∈ upto (n / 2), (sm (fun j => if n * j < m * k then 1 else 0) (upto (m / 2)) + sm (fun j => if m * k < n * j then 1 else 0) (upto (m / 2))) = m / 2 := by
    intro k hk
    have hk := mem_upto.1 hk
    rw [← sm_add]
    have hp := rem_pos (a := m) (n := n) (k := k) hc hk.1 (by omega)
    rw [sm_congr (g := fun _ => 1) (fun j _ => ?_), sm_const, upto_len, Nat.mul_one]
    rcases Nat.lt_trichotomy (n * j) (m * k) with h | h | h
    · rw [if_pos h, if_neg (by omega)]
    · rw [← h, Nat.mul_mod_right] at hp; omega
    · rw [if_neg (by omega), if_pos h]
  rw [sm_congr this, sm_const, upto_len]

/-- the law of quadratic reciprocity -/
theorem jac_flip (m n : Nat) (hm : m % 2 = 1) (hn : n % 2 = 1) (hc : Nat.Coprime m n) : jac m n = (jac n m ^^ decide (m % 4 = 3 ∧ n % 4 = 3)) := by
  rw [jac_sum m n hm hn hc, jac_sum n m hn hm hc.symm]
  have hl := lattice m n hm hn hc
  generalize sm (fun k => m * k / n) (upto (n / 2)) = A at *
  generalize sm (fun j => n * j / m) (upto (m / 2)) = B at *
  have hmod : (A + B) % 2 = (n / 2 % 2) * (m / 2 % 2) % 2 := by rw [hl, Nat.mul_mod]
  have e1 : m % 4 = 3 ↔ m / 2 % 2 = 1 := by omega
  have e2 : n % 4 = 3 ↔ n / 2 % 2 = 1 := by omega
  have e3 : decide (m % 4 = 3 ∧ n % 4 = 3) = decide (m / 2 % 2 = 1 ∧ n / 2 % 2 = 1) := by rw [Bool.eq_iff_iff, decide_eq_true_iff, decide_eq_true_iff, e1, e2]
  rw [e3]
  rcases Nat.mod_two_eq_zero_or_one (m / 2) with h1 | h1 <;> rcases Nat.mod_two_eq_zero_or_one (n / 2) with h2 | h2 <;> rw [h1, h2] at hmod <;> rw [h1, h2]
  all_goals
    rcases Nat.mod_two_eq_zero_or_one A with h3 | h3 <;> rcases Nat.mod_two_eq_zero_or_one B with h4 | h4 <;> first
      | (exfalso; omega)
      | (rw [h3, h4]; rfl)

/-- one step of the program's loop: a factor 2 -/
theorem jac_even (x n : Nat) (hn : n % 2 = 1) (hx : x % 2 = 0) (hc : Nat.Coprime x n) : jac x n = (jac (x / 2) n ^^ decide (n % 8 = 3 ∨ n % 8 = 5)) ∧ Nat.Coprime (x / 2) n := by
  have e : x = 2 * (x / 2) := by omega
  rw [e] at hc
  have h2 : Nat.Coprime 2 n := Nat.Coprime.coprime_mul_right hc
  have hx2 : Nat.Coprime (x / 2) n := Nat.Coprime.coprime_mul_left hc
  refine ⟨?_, hx2⟩
  conv => lhs; rw [e]
  rw [jac_mul 2 (x / 2) n hn h2 hx2, jac_two n hn, Bool.xor_comm]

/-- one step of the program's loop: the flip -/
theorem jac_turn (x n : Nat) (hn : n % 2 = 1) (hx : x % 2 = 1) (hc : Nat.Coprime x n) : jac x n = (jac (n % x) x ^^ decide (x % 4 = 3 ∧ n % 4 = 3)) ∧ Nat.Coprime (n % x) x := by
  refine ⟨?_, ?_⟩
  · rw [jac_mod, jac_flip x n hx hn hc]
  · unfold Nat.Coprime at hc ⊢; rw [← Nat.gcd_rec]; exact hc

end Go.Proofs.YtjhecmmbpmpmgaaDoor
