/- Plain: the law of quadratic reciprocity, by counting (Gauss, Eisenstein). No program in sight.
   Plain: Euler's criterion, Fermat's little theorem, and the two primes. No program in sight.
   group's Valid by its contract.
   group's Mul, least, Hash by their contracts.
   A range over a function whose iterator keeps state in two boxes of its own: from the kit's base law.
   group's squares and Pow by their contracts.
   group's Pow by its contract. -/
import Derived.WalkKit
import Derived.KernelRfl
import Derived.Test.YtjhecmmbpmpmgaaDoorProg
import Derived.WalkSpells
import Derived.WalkLawsBesides
import Derived.Lib.Hide
import Derived.IntWalk
import Derived.WalkMore
import Derived.Deep.LoopGhost
import Derived.Test.YtjhecmmbpmpmgaaDoorMSha
import Derived.RangeFuncNested
import Derived.RangeFuncBound
import Derived.RangeFuncCalls
import Derived.RangeFuncLeaves
import Derived.Shelf.Abstract
import Derived.Shelf.RegionOpen
import Derived.OwnWalkIn
import Derived.TacticsInMore
import Derived.LoopNIn
import Derived.LoopIn
namespace Go.Proofs.YtjhecmmbpmpmgaaDoor

/-- the numbers 1 to n -/
def upto : Nat → List Nat
  | 0 => []
  | n + 1 => (n + 1) :: upto n

theorem mem_upto : ∀ {n k : Nat}, k ∈ upto n ↔ 1 ≤ k ∧ k ≤ n
  | 0, k => by simp [upto]; omega
  | n + 1, k => by rw [upto, List.mem_cons, mem_upto]; omega

theorem upto_len : ∀ (n : Nat), (upto n).length = n
  | 0 => rfl
  | n + 1 => by simp [upto, upto_len n]

theorem upto_nodup : ∀ (n : Nat), (upto n).Nodup
  | 0 => by simp [upto]
  | n + 1 => by
    rw [upto, List.nodup_cons]
    exact ⟨fun h => by have := mem_upto.1 h; omega, upto_nodup n⟩

/-- a fold -/
def fo {α : Type} (op : α → α → α) (e : α) (f : Nat → α) : List Nat → α
  | [] => e
  | k :: l => op (f k) (fo op e f l)

theorem fo_perm {α : Type} {op : α → α → α} {e : α} {f : Nat → α} (hc : ∀ a b c, op a (op b c) = op b (op a c)) {l m : List Nat} (h : l.Perm m) : fo op e f l = fo op e f m := by
  induction h with
  | nil => rfl
  | cons x _ ih => rw [fo, fo, ih]
  | swap x y l => rw [fo, fo, fo, fo, hc]
  | trans _ _ h1 h2 => rw [h1, h2]

theorem fo_congr {α : Type} {op : α → α → α} {e : α} {f g : Nat → α} : ∀ {l : List Nat}, (∀ k ∈ l, f k = g k) → fo op e f l = fo op e g l
  | [], _ => rfl
  | k :: l, h => by rw [fo, fo, h k (by simp), fo_congr (l := l) (fun j hj => h j (by simp [hj]))]

theorem fo_map {α : Type} {op : α → α → α} {e : α} {f : Nat → α} {p : Nat → Nat} : ∀ {l : List Nat}, fo op e f (l.map p) = fo op e (fun k => f (p k)) l
  | [] => rfl
  | k :: l => by rw [List.map_cons, fo, fo, fo_map]

theorem fo_op {α : Type} {op : α → α → α} {e : α} {f g : Nat → α} (he : op e e = e) (hc : ∀ a b c d, op (op a b) (op c d) = op (op a c) (op b d)) : ∀ {l : List Nat}, fo op e (fun k => op (f k) (g k)) l = op (fo op e f l) (fo op e g l)
  | [] => by rw [fo, fo, fo, he]
  | k :: l => by rw [fo, fo, fo, fo_op he hc, hc]

theorem perm_of : ∀ (l m : List Nat), l.Nodup → (∀ x ∈ l, x ∈ m) → m.length ≤ l.length → l.Perm m
  | [], m, _, _, h => by have : m = [] := List.eq_nil_of_length_eq_zero (by simpa using h); subst this; exact .nil
  | a :: l, m, hn, hs, h => by
    rw [List.nodup_cons] at hn
    have ha := hs a (by simp)
    refine List.Perm.trans (List.Perm.cons a (perm_of l (m.erase a) hn.2 (fun x hx => ?_) ?_)) (List.perm_cons_erase ha).symm
    · exact (List.mem_erase_of_ne (a := x) (b := a) (fun e => hn.1 (by rw [← e]; exact hx))).2 (hs x (by simp [hx]))
    · rw [List.length_erase_of_mem ha]; simp at h; omega

theorem nodup_map_on {f : Nat → Nat} : ∀ (l : List Nat), (∀ x ∈ l, ∀ y ∈ l, f x = f y → x = y) → l.Nodup → (l.map f).Nodup
  | [], _, _ => by simp
  | a :: l, h, hn => by
    rw [List.nodup_cons] at hn
    rw [List.map_cons, List.nodup_cons]
    refine ⟨fun hm => ?_, nodup_map_on l (fun x hx y hy => h x (by simp [hx]) y (by simp [hy])) hn.2⟩
    obtain ⟨b, hb, e⟩ := List.mem_map.1 hm
    exact hn.1 ((h b (by simp [hb]) a (by simp) e) ▸ hb)

/-- the absolutely least remainder of a k by n = 2 h + 1, without its sign -/
def rho (a n h k : Nat) : Nat := if a * k % n ≤ h then a * k % n else n - a * k % n
/-- its sign -/
def sg (a n h k : Nat) : Bool := decide (h < a * k % n)

section
variable {a n h : Nat}

theorem rem_pos {k : Nat} (hc : Nat.Coprime a n) (h1 : 1 ≤ k) (h2 : k < n) : 0 < a * k % n := by
  rcases Nat.eq_zero_or_pos (a * k % n) with h | h
  · have hd : n ∣ a * k := Nat.dvd_of_mod_eq_zero h
    have hd2 : n ∣ k := Nat.Coprime.dvd_of_dvd_mul_left hc.symm hd
    have := Nat.le_of_dvd (by omega) hd2
    omega
  · exact h

theorem rho_mem {k : Nat} (hn : n = 2 * h + 1) (hc : Nat.Coprime a n) (h1 : 1 ≤ k) (h2 : k ≤ h) : 1 ≤ rho a n h k ∧ rho a n h k ≤ h := by
  have hp := rem_pos (a := a) (n := n) (k := k) hc h1 (by omega)
  have hl : a * k % n < n := Nat.mod_lt _ (by omega)
  unfold rho
  split <;> omega

theorem sub_dvd {x y : Nat} (hxy : a * x % n = a * y % n) (hc : Nat.Coprime a n) (hx : x < n) (hy : y < n) : x = y := by
  have main : ∀ x y : Nat, x < n → y ≤ x → a * x % n = a * y % n → x = y := by
    intro x y hx hle e
    have h0 := Nat.sub_mod_eq_zero_of_mod_eq e
    rw [← Nat.mul_sub] at h0
    have hd : n ∣ x - y := Nat.Coprime.dvd_of_dvd_mul_left hc.symm (Nat.dvd_of_mod_eq_zero h0)
    rcases Nat.eq_zero_or_pos (x - y) with h | h
    · omega
    · have := Nat.le_of_dvd h hd; omega
  rcases Nat.le_total y x with h | h
  · exact main x y hx h hxy
  · exact (main y x hy h hxy.symm).symm

theorem add_dvd {x y : Nat} (hxy : a * x % n + a * y % n = n) (hc : Nat.Coprime a n) (h1 : 0 < x + y) (h2 : x + y < n) : False := by
  have h0 : (a * (x + y)) % n = 0 := by rw [Nat.mul_add, Nat.add_mod, hxy]; exact Nat.mod_self n
  have hd : n ∣ x + y := Nat.Coprime.dvd_of_dvd_mul_left hc.symm (Nat.dvd_of_mod_eq_zero h0)
  have := Nat.le_of_dvd h1 hd; omega

theorem rho_inj {x y : Nat} (hn : n = 2 * h + 1) (hc : Nat.Coprime a n) (hx1 : 1 ≤ x) (hx2 : x ≤ h) (hy1 : 1 ≤ y) (hy2 : y ≤ h) (e : rho a n h x = rho a n h y) : x = y := by
  have hpx := rem_pos (a := a) (n := n) (k := x) hc hx1 (by omega)
  have hpy := rem_pos (a := a) (n := n) (k := y) hc hy1 (by omega)
  have hlx : a * x % n < n := Nat.mod_lt _ (by omega)
  have hly : a * y % n < n := Nat.mod_lt _ (by omega)
  by_cases hs : a * x % n = a * y % n
  · exact sub_dvd hs hc (by omega) (by omega)
  · exfalso
    refine add_dvd (a := a) (n := n) (x := x) (y := y) ?_ hc (by omega) (by omega)
    unfold rho at e
    split at e <;> split at e <;> omega

theorem rho_perm (hn : n = 2 * h + 1) (hc : Nat.Coprime a n) : ((upto h).map (rho a n h)).Perm (upto h) := by
  refine perm_of _ _ (nodup_map_on _ (fun x hx y hy e => ?_) (upto_nodup h)) (fun x hx => ?_) (by simp)
  · have h1 := mem_upto.1 hx; have h2 := mem_upto.1 hy
    exact rho_inj hn hc h1.1 h1.2 h2.1 h2.2 e
  · obtain ⟨k, hk, rfl⟩ := List.mem_map.1 hx
    have := mem_upto.1 hk
    exact mem_upto.2 (rho_mem hn hc this.1 this.2)
end

theorem xor_lc (a b c : Bool) : (a ^^ (b ^^ c)) = (b ^^ (a ^^ c)) := by cases a <;> cases b <;> cases c <;> rfl
theorem xor_4 (a b c d : Bool) : ((a ^^ b) ^^ (c ^^ d)) = ((a ^^ c) ^^ (b ^^ d)) := by cases a <;> cases b <;> cases c <;> cases d <;> rfl

/-- Jacobi's symbol of a over n = 2 h + 1: true stands for -1 -/
def jac (a n : Nat) : Bool := fo (· ^^ ·) false (sg a n (n / 2)) (upto (n / 2))

theorem jac_mod (a n : Nat) : jac (a % n) n = jac a n := by
  unfold jac
  refine fo_congr fun k _ => ?_
  unfold sg
  rw [Nat.mod_mul_mod]

theorem mod_neg {n a r : Nat} (hr : r ≤ n) (hp : 0 < a * (n - r) % n) : a * r % n = n - a * (n - r) % n := by
  have e : a * r + a * (n - r) = n * a := by rw [← Nat.mul_add, Nat.add_sub_cancel' hr, Nat.mul_comm]
  have h0 : (a * r + a * (n - r)) % n = 0 := by rw [e, Nat.mul_mod_right]
  have hn : 0 < n := by
    rcases Nat.eq_zero_or_pos n with h | h
    · subst h; simp at hr; subst hr; simp at hp
    · exact h
  have h1 := Nat.mod_lt (a * r) hn
  have h2 := Nat.mod_lt (a * (n - r)) hn
  rw [Nat.add_mod] at h0
  have hd := Nat.dvd_of_mod_eq_zero h0
  obtain ⟨c, hc⟩ := hd
  have : c = 1 := by
    rcases Nat.lt_or_ge c 2 with h | h
    · rcases Nat.eq_zero_or_pos c with h' | h'
      · subst h'; simp at hc; omega
      · omega
    · have := Nat.mul_le_mul_left n h; omega
  subst this
  omega

theorem jac_mul (a b n : Nat) (hn : n % 2 = 1) (ha : Nat.Coprime a n) (hb : Nat.Coprime b n) : jac (a * b) n = (jac a n ^^ jac b n) := by
  have hh : n = 2 * (n / 2) + 1 := by omega
  unfold jac
  rw [← fo_perm (f := sg a n (n / 2)) xor_lc (rho_perm hh hb), fo_map, ← fo_op (by rfl) xor_4]
  refine fo_congr fun k hk => ?_
  have hk := mem_upto.1 hk
  obtain ⟨r1, r2⟩ := rho_mem hh hb hk.1 hk.2
  have hpr := rem_pos (a := a) (n := n) (k := rho b n (n / 2) k) ha r1 (by omega)
  have hpb := rem_pos (a := b) (n := n) (k := k) hb hk.1 (by omega)
  have e0 : a * b * k % n = a * (b * k % n) % n := by rw [Nat.mul_assoc, Nat.mul_mod_mod]
  unfold sg
  rw [e0]
  unfold rho at hpr ⊢
  have hlb : b * k % n < n := Nat.mod_lt _ (by omega)
  split
  · rename_i hle
    rw [decide_eq_false (show ¬ n / 2 < b * k % n by omega), Bool.xor_false]
  · rename_i hgt
    rw [if_neg hgt] at hpr
    have hl2 : a * (n - b * k % n) % n < n := Nat.mod_lt _ (by omega)
    rw [mod_neg (by omega) hpr, decide_eq_true (show n / 2 < b * k % n by omega), Bool.xor_true]
    by_cases hs : n / 2 < a * (n - b * k % n) % n
    · rw [decide_eq_true hs, decide_eq_false (by omega)]; rfl
    · rw [decide_eq_false hs, decide_eq_true (by omega)]; rfl

theorem jac_one (n : Nat) (hn : n % 2 = 1) : jac 1 n = false := by
  unfold jac
  have : ∀ l : List Nat, (∀ k ∈ l, 1 ≤ k ∧ k ≤ n / 2) → fo (· ^^ ·) false (sg 1 n (n / 2)) l = false := by
    intro l
    induction l with
    | nil => intro _; rfl
    | cons k l ih =>
      intro h
      have hk := h k (by simp)
      rw [fo, ih (fun j hj => h j (by simp [hj]))]
      unfold sg
      rw [Nat.one_mul, Nat.mod_eq_of_lt (by omega), decide_eq_false (by omega)]; rfl
  exact this _ (fun k hk => mem_upto.1 hk)

theorem par_add (x y : Nat) : decide ((x + y) % 2 = 1) = (decide (x % 2 = 1) ^^ decide (y % 2 = 1)) := by
  rcases Nat.mod_two_eq_zero_or_one x with h1 | h1 <;> rcases Nat.mod_two_eq_zero_or_one y with h2 | h2 <;>
    · rw [h1, h2]; first | rw [decide_eq_false (by omega)]; rfl | rw [decide_eq_true (by omega)]; rfl

theorem jac_two (n : Nat) (hn : n % 2 = 1) : jac 2 n = decide (n % 8 = 3 ∨ n % 8 = 5) := by
  have key : ∀ t, t ≤ n / 2 → fo (· ^^ ·) false (sg 2 n (n / 2)) (upto t) = decide ((t - n / 2 / 2) % 2 = 1) := by
    intro t
    induction t with
    | zero => intro _; simp [upto, fo]
    | succ t ih =>
      intro ht
      rw [upto, fo, ih (by omega)]
      unfold sg
      rw [Nat.mod_eq_of_lt (by omega)]
      by_cases h1 : n / 2 < 2 * (t + 1)
      · rw [decide_eq_true h1]
        by_cases h2 : (t - n / 2 / 2) % 2 = 1
        · rw [decide_eq_true h2, decide_eq_false (by omega)]; rfl
        · rw [decide_eq_false h2, decide_eq_true (by omega)]; rfl
      · rw [decide_eq_false h1, Bool.false_xor]
        congr 1
        rw [show t + 1 - n / 2 / 2 = t - n / 2 / 2 from by omega]
  unfold jac
  rw [key _ (Nat.le_refl _)]
  by_cases h : n % 8 = 3 ∨ n % 8 = 5
  · rw [decide_eq_true h, decide_eq_true (by omega)]
  · rw [decide_eq_false h, decide_eq_false (by omega)]

theorem add_lc (a b c : Nat) : a + (b + c) = b + (a + c) := by omega
theorem add_4 (a b c d : Nat) : (a + b) + (c + d) = (a + c) + (b + d) := by omega

def sm (f : Nat → Nat) (l : List Nat) : Nat := fo (· + ·) 0 f l
theorem sm_nil (f : Nat → Nat) : sm f [] = 0 := rfl
theorem sm_cons (f : Nat → Nat) (k : Nat) (l : List Nat) : sm f (k :: l) = f k + sm f l := rfl
theorem sm_add (f g : Nat → Nat) (l : List Nat) : sm (fun k => f k + g k) l = sm f l + sm g l := fo_op rfl add_4
theorem sm_congr {f g : Nat → Nat} {l : List Nat} (h : ∀ k ∈ l, f k = g k) : sm f l = sm g l := fo_congr h
theorem sm_const (c : Nat) : ∀ l : List Nat, sm (fun _ => c) l = l.length * c
  | [] => by simp [sm_nil]
  | k :: l => by rw [sm_cons, sm_const c l, List.length_cons, Nat.add_mul]; omega
theorem sm_swap (f : Nat → Nat → Nat) (l m : List Nat) : sm (fun k => sm (f k) m) l = sm (fun j => sm (fun k => f k j) l) m := by
  induction l with
  | nil => rw [sm_nil]; exact ((sm_const 0 m).trans (by omega)).symm
  | cons k l ih => rw [sm_cons, ih, ← sm_add]; exact sm_congr fun j _ => rfl

/-- Eisenstein: the sign counts the quotients -/
theorem jac_sum (m n : Nat) (hm : m % 2 = 1) (hn : n % 2 = 1) (hc : Nat.Coprime m n) : jac m n = decide (sm (fun k => m * k / n) (upto (n / 2)) % 2 = 1) := by
  have hh : n = 2 * (n / 2) + 1 := by omega
  have hper : sm (rho m n (n / 2)) (upto (n / 2)) = sm (fun k => k) (upto (n / 2)) := by
    have := fo_perm (op := (· + ·)) (e := 0) (f := fun k => k) add_lc (rho_perm hh hc)
    rw [fo_map] at this
    exact this
  have hj : ∀ l, fo (· ^^ ·) false (sg m n (n / 2)) l = decide (sm (fun k => if sg m n (n / 2) k then 1 else 0) l % 2 = 1) := by
    intro l
    induction l with
    | nil => rfl
    | cons k l ih => rw [fo, ih, sm_cons, par_add]; cases sg m n (n / 2) k <;> rfl
  have hev : ∀ l, (∀ k ∈ l, 1 ≤ k ∧ k ≤ n / 2) → (sm (fun k => k) l + sm (fun k => m * k / n) l + sm (rho m n (n / 2)) l + sm (fun k => if sg m n (n / 2) k then 1 else 0) l) % 2 = 0 := by
    intro l
    induction l with
    | nil => intro _; rfl
    | cons k l ih =>
      intro h
      have hk := h k (by simp)
      have ih := ih (fun j hj => h j (by simp [hj]))
      rw [sm_cons, sm_cons, sm_cons, sm_cons]
      have e1 : m * k % 2 = k % 2 := by rw [Nat.mul_mod, hm, Nat.one_mul, Nat.mod_mod]
      have e2 : n * (m * k / n) % 2 = (m * k / n) % 2 := by rw [Nat.mul_mod, hn, Nat.one_mul, Nat.mod_mod]
      have e3 := Nat.div_add_mod (m * k) n
      have hl : m * k % n < n := Nat.mod_lt _ (by omega)
      have e4 : (k + m * k / n + rho m n (n / 2) k + (if sg m n (n / 2) k then 1 else 0)) % 2 = 0 := by
        unfold rho sg
        generalize m * k / n = q at *
        generalize n * q = nq at *
        generalize m * k % n = r at *
        generalize m * k = mk at *
        by_cases hr : r ≤ n / 2
        · rw [if_pos hr, if_neg (by simp; omega)]; omega
        · rw [if_neg hr, if_pos (by simp; omega)]; omega
      omega
  have hfin := hev (upto (n / 2)) (fun k hk => mem_upto.1 hk)
  unfold jac
  rw [hj, hper] at *
  have : sm (fun k => if sg m n (n / 2) k then 1 else 0) (upto (n / 2)) % 2 = sm (fun k => m * k / n) (upto (n / 2)) % 2 := by omega
  rw [this]

theorem count_le (q : Nat) : ∀ t, sm (fun j => if j ≤ q then 1 else 0) (upto t) = min q t
  | 0 => by simp [upto, sm_nil]
  | t + 1 => by rw [upto, sm_cons, count_le q t]; split <;> omega

theorem count_lt (m n k : Nat) (hc : Nat.Coprime m n) (h1 : 1 ≤ k) (h2 : k ≤ n / 2) (hn : n % 2 = 1) (hm : m % 2 = 1) : m * k / n = sm (fun j => if n * j < m * k then 1 else 0) (upto (m / 2)) := by
  have hp := rem_pos (a := m) (n := n) (k := k) hc h1 (by omega)
  have hq : m * k / n ≤ m / 2 := by
    rw [Nat.div_le_iff_le_mul_add_pred (by omega)]
    have e1 : m * k ≤ m * (n / 2) := Nat.mul_le_mul_left _ h2
    have e2 : m * n = 2 * (m * (n / 2)) + m := by
      conv => lhs; rw [show n = 2 * (n / 2) + 1 from by omega]
      rw [Nat.mul_add, Nat.mul_one, ← Nat.mul_assoc, Nat.mul_comm m 2, Nat.mul_assoc]
    have e3 : m * n = 2 * (n * (m / 2)) + n := by
      conv => lhs; rw [show m = 2 * (m / 2) + 1 from by omega]
      rw [Nat.add_mul, Nat.one_mul, Nat.mul_assoc, Nat.mul_comm (m / 2) n]
    omega
  have e : sm (fun j => if n * j < m * k then 1 else 0) (upto (m / 2)) = sm (fun j => if j ≤ m * k / n then 1 else 0) (upto (m / 2)) := by
    refine sm_congr fun j _ => ?_
    have e1 : j ≤ m * k / n ↔ n * j < m * k := by
      rw [Nat.le_div_iff_mul_le (by omega), Nat.mul_comm j n]
      constructor
      · intro h
        rcases Nat.lt_or_ge (n * j) (m * k) with h' | h'
        · exact h'
        · have : m * k = n * j := by omega
          rw [this, Nat.mul_mod_right] at hp; omega
      · intro h; omega
    by_cases hj : n * j < m * k
    · rw [if_pos hj, if_pos (e1.2 hj)]
    · rw [if_neg hj, if_neg (fun h => hj (e1.1 h))]
  rw [e, count_le]; omega

theorem lattice (m n : Nat) (hm : m % 2 = 1) (hn : n % 2 = 1) (hc : Nat.Coprime m n) :
    sm (fun k => m * k / n) (upto (n / 2)) + sm (fun j => n * j / m) (upto (m / 2)) = (n / 2) * (m / 2) := by
  rw [sm_congr (fun k hk => by have := mem_upto.1 hk; exact count_lt m n k hc this.1 this.2 hn hm),
    sm_congr (l := upto (m / 2)) (fun j hj => by have := mem_upto.1 hj; exact count_lt n m j hc.symm this.1 this.2 hm hn),
    sm_swap (fun j k => if m * k < n * j then 1 else 0), ← sm_add]
  have : ∀ k ∈ upto (n / 2), (sm (fun j => if n * j < m * k then 1 else 0) (upto (m / 2)) + sm (fun j => if m * k < n * j then 1 else 0) (upto (m / 2))) = m / 2 := by
    intro k hk
    have hk := mem_upto.1 hk
    rw [← sm_add]
    have hp := rem_pos (a := m) (n := n) (k := k) hc hk.1 (by omega)
    rw [sm_congr (g := fun _ => 1) (fun j _ => ?_), sm_const, upto_len, Nat.mul_one]
    rcases Nat.lt_trichotomy (n * j) (m * k) with h | h | h
    · rw [if_pos h, if_neg (by omega)]
    · rw [← h, Nat.mul_mod_right] at hp; omega
    · rw [if_neg (by omega), if_pos h]
  rw [sm_congr this, sm_const, upto_len]

/-- the law of quadratic reciprocity -/
theorem jac_flip (m n : Nat) (hm : m % 2 = 1) (hn : n % 2 = 1) (hc : Nat.Coprime m n) : jac m n = (jac n m ^^ decide (m % 4 = 3 ∧ n % 4 = 3)) := by
  rw [jac_sum m n hm hn hc, jac_sum n m hn hm hc.symm]
  have hl := lattice m n hm hn hc
  generalize sm (fun k => m * k / n) (upto (n / 2)) = A at *
  generalize sm (fun j => n * j / m) (upto (m / 2)) = B at *
  have hmod : (A + B) % 2 = (n / 2 % 2) * (m / 2 % 2) % 2 := by rw [hl, Nat.mul_mod]
  have e1 : m % 4 = 3 ↔ m / 2 % 2 = 1 := by omega
  have e2 : n % 4 = 3 ↔ n / 2 % 2 = 1 := by omega
  have e3 : decide (m % 4 = 3 ∧ n % 4 = 3) = decide (m / 2 % 2 = 1 ∧ n / 2 % 2 = 1) := by rw [Bool.eq_iff_iff, decide_eq_true_iff, decide_eq_true_iff, e1, e2]
  rw [e3]
  rcases Nat.mod_two_eq_zero_or_one (m / 2) with h1 | h1 <;> rcases Nat.mod_two_eq_zero_or_one (n / 2) with h2 | h2 <;> rw [h1, h2] at hmod <;> rw [h1, h2]
  all_goals
    rcases Nat.mod_two_eq_zero_or_one A with h3 | h3 <;> rcases Nat.mod_two_eq_zero_or_one B with h4 | h4 <;> first
      | (exfalso; omega)
      | (rw [h3, h4]; rfl)

/-- one step of the program's loop: a factor 2 -/
theorem jac_even (x n : Nat) (hn : n % 2 = 1) (hx : x % 2 = 0) (hc : Nat.Coprime x n) : jac x n = (jac (x / 2) n ^^ decide (n % 8 = 3 ∨ n % 8 = 5)) ∧ Nat.Coprime (x / 2) n := by
  have e : x = 2 * (x / 2) := by omega
  rw [e] at hc
  have h2 : Nat.Coprime 2 n := Nat.Coprime.coprime_mul_right hc
  have hx2 : Nat.Coprime (x / 2) n := Nat.Coprime.coprime_mul_left hc
  refine ⟨?_, hx2⟩
  conv => lhs; rw [e]
  rw [jac_mul 2 (x / 2) n hn h2 hx2, jac_two n hn, Bool.xor_comm]

/-- one step of the program's loop: the flip -/
theorem jac_turn (x n : Nat) (hn : n % 2 = 1) (hx : x % 2 = 1) (hc : Nat.Coprime x n) : jac x n = (jac (n % x) x ^^ decide (x % 4 = 3 ∧ n % 4 = 3)) ∧ Nat.Coprime (n % x) x := by
  refine ⟨?_, ?_⟩
  · rw [jac_mod, jac_flip x n hx hn hc]
  · unfold Nat.Coprime at hc ⊢; rw [← Nat.gcd_rec]; exact hc

end Go.Proofs.YtjhecmmbpmpmgaaDoor

namespace Go.Proofs.YtjhecmmbpmpmgaaDoor

def Pr (p : Nat) : Prop := 1 < p ∧ ∀ d, d ∣ p → d = 1 ∨ d = p

theorem Pr.cop {p k : Nat} (h : Pr p) (h1 : 1 ≤ k) (h2 : k < p) : Nat.Coprime k p := by
  rcases h.2 (Nat.gcd k p) (Nat.gcd_dvd_right k p) with e | e
  · exact e
  · have := Nat.le_of_dvd (by omega) (Nat.gcd_dvd_left k p); omega

theorem Pr.copm {p a : Nat} (h : Pr p) (h1 : a % p ≠ 0) : Nat.Coprime a p := by
  have := h.cop (k := a % p) (by omega) (Nat.mod_lt _ (by have := h.1; omega))
  unfold Nat.Coprime at this ⊢
  rw [Nat.gcd_comm a p, Nat.gcd_rec]
  exact this

theorem mul_mq {p x y u v : Nat} (h : x % p = y % p) (g : u % p = v % p) : x * u % p = y * v % p := by
  rw [Nat.mul_mod, h, g, ← Nat.mul_mod]

theorem mq_cancel {p x y c : Nat} (hc : Nat.Coprime c p) (h : x * c % p = y * c % p) : x % p = y % p := by
  have main : ∀ x y : Nat, y ≤ x → x * c % p = y * c % p → x % p = y % p := by
    intro x y hle e
    have h0 := Nat.sub_mod_eq_zero_of_mod_eq e
    rw [← Nat.sub_mul] at h0
    have hd : p ∣ x - y := Nat.Coprime.dvd_of_dvd_mul_right hc.symm (Nat.dvd_of_mod_eq_zero h0)
    obtain ⟨d, hd⟩ := hd
    rw [show x = y + p * d from by omega, Nat.add_mul_mod_self_left]
  rcases Nat.le_total y x with h' | h'
  · exact main x y h' h
  · exact (main y x h' h.symm).symm

def eps (p : Nat) (b : Bool) : Nat := if b then p - 1 else 1

theorem neg_mul {p y : Nat} (h1 : 1 ≤ y) (h2 : y < p) : (p - 1) * y % p = p - y := by
  have := mod_neg (n := p) (a := y) (r := p - 1) (by omega) (by rw [show p - (p - 1) = 1 from by omega, Nat.mul_one, Nat.mod_eq_of_lt h2]; omega)
  rw [show p - (p - 1) = 1 from by omega, Nat.mul_one, Nat.mod_eq_of_lt h2] at this
  rw [Nat.mul_comm]; exact this

theorem eps_mul {p : Nat} (hp : 2 < p) (s t : Bool) : eps p (s ^^ t) % p = eps p s * eps p t % p := by
  have e1 : (p - 1) * (p - 1) % p = 1 := by rw [neg_mul (by omega) (by omega)]; omega
  cases s <;> cases t <;> simp only [eps, Bool.xor_true, Bool.xor_false, Bool.not_true, Bool.not_false, if_true, Nat.one_mul, Nat.mul_one, Bool.false_eq_true, if_false]
  rw [e1, Nat.mod_eq_of_lt (by omega)]

theorem mul_lc (a b c : Nat) : a * (b * c) = b * (a * c) := by rw [← Nat.mul_assoc, Nat.mul_comm a b, Nat.mul_assoc]
theorem mul_4 (a b c d : Nat) : (a * b) * (c * d) = (a * c) * (b * d) := by rw [Nat.mul_assoc, mul_lc b c d, ← Nat.mul_assoc]

def pr (f : Nat → Nat) (l : List Nat) : Nat := fo (· * ·) 1 f l

theorem gauss {a p : Nat} (hp : Pr p) (hodd : p % 2 = 1) (hc : Nat.Coprime a p) : a ^ (p / 2) % p = eps p (jac a p) % p := by
  have hp1 := hp.1
  have hh : p = 2 * (p / 2) + 1 := by omega
  have key : ∀ l : List Nat, (∀ k ∈ l, 1 ≤ k ∧ k ≤ p / 2) → a ^ l.length * pr (fun k => k) l % p = eps p (fo (· ^^ ·) false (sg a p (p / 2)) l) * pr (rho a p (p / 2)) l % p := by
    intro l
    induction l with
    | nil => intro _; rfl
    | cons k l ih =>
      intro h
      have hk := h k (by simp)
      have ih := ih (fun j hj => h j (by simp [hj]))
      have hpos := rem_pos (a := a) (n := p) (k := k) hc hk.1 (by omega)
      have hlt : a * k % p < p := Nat.mod_lt _ (by omega)
      have e1 : a ^ (k :: l).length * pr (fun k => k) (k :: l) = (a * k) * (a ^ l.length * pr (fun k => k) l) := by
        rw [List.length_cons, Nat.pow_succ, Nat.mul_comm (a ^ l.length) a]
        exact mul_4 _ _ _ _
      have e2 : a * k % p = eps p (sg a p (p / 2) k) * rho a p (p / 2) k % p := by
        unfold sg rho eps
        by_cases hr : a * k % p ≤ p / 2
        · rw [if_pos hr, if_neg (by simp; omega), Nat.one_mul, Nat.mod_mod]
        · rw [if_neg hr, if_pos (by simp; omega), neg_mul (by omega) (by omega)]; omega
      have e3 : eps p (fo (· ^^ ·) false (sg a p (p / 2)) (k :: l)) * pr (rho a p (p / 2)) (k :: l) % p =
          (eps p (sg a p (p / 2) k) * rho a p (p / 2) k) * (eps p (fo (· ^^ ·) false (sg a p (p / 2)) l) * pr (rho a p (p / 2)) l) % p := by
        rw [← mul_4]
        exact mul_mq (eps_mul (by omega) _ _) rfl
      rw [e1, e3]
      exact mul_mq e2 ih
  have hk := key (upto (p / 2)) (fun k hk => mem_upto.1 hk)
  have hper : pr (rho a p (p / 2)) (upto (p / 2)) = pr (fun k => k) (upto (p / 2)) := by
    have := fo_perm (op := (· * ·)) (e := 1) (f := fun k => k) mul_lc (rho_perm hh hc)
    rw [fo_map] at this
    exact this
  have hcp : ∀ l : List Nat, (∀ k ∈ l, 1 ≤ k ∧ k ≤ p / 2) → Nat.Coprime (pr (fun k => k) l) p := by
    intro l
    induction l with
    | nil => intro _; exact Nat.coprime_one_left p
    | cons k l ih =>
      intro h
      have hk := h k (by simp)
      exact Nat.Coprime.mul_left (hp.cop hk.1 (show k < p by omega)) (ih (fun j hj => h j (by simp [hj])))
  rw [hper, upto_len] at hk
  exact mq_cancel (hcp _ (fun k hk => mem_upto.1 hk)) hk

/-- Euler's criterion -/
theorem euler {a p : Nat} (hp : Pr p) (hodd : p % 2 = 1) (hc : Nat.Coprime a p) : a ^ (p / 2) % p = 1 ↔ jac a p = false := by
  have hp1 := hp.1
  rw [gauss hp hodd hc]
  cases jac a p with
  | false => simp only [eps, Bool.false_eq_true, if_false, iff_true]; exact Nat.mod_eq_of_lt hp1
  | true => simp only [eps, if_true, Bool.true_eq_false, iff_false]; rw [Nat.mod_eq_of_lt (by omega)]; omega

theorem fermat {a p : Nat} (hp : Pr p) (hodd : p % 2 = 1) (hc : Nat.Coprime a p) : a ^ (p - 1) % p = 1 := by
  have hp1 := hp.1
  have h := gauss hp hodd hc
  rw [show p - 1 = p / 2 + p / 2 from by omega, Nat.pow_add, mul_mq h h, ← eps_mul (by omega), Bool.xor_self]
  simp only [eps, Bool.false_eq_true, if_false]; exact Nat.mod_eq_of_lt hp1

/-- none of the odd numbers 2 i + 3, for 2 ^ f numbers i from lo on, divides p -/
def noDiv (p : Nat) : Nat → Nat → Bool
  | 0, lo => p % (2 * lo + 3) != 0
  | f + 1, lo => noDiv p f lo && noDiv p f (lo + 2 ^ f)

theorem noDiv_at (p : Nat) : ∀ (f lo i : Nat), noDiv p f lo = true → lo ≤ i → i < lo + 2 ^ f → p % (2 * i + 3) ≠ 0
  | 0, lo, i, h, h1, h2 => by
    have : i = lo := by simp at h2; omega
    subst this
    simpa [noDiv] using h
  | f + 1, lo, i, h, h1, h2 => by
    rw [noDiv, Bool.and_eq_true] at h
    by_cases hi : i < lo + 2 ^ f
    · exact noDiv_at p f lo i h.1 h1 hi
    · exact noDiv_at p f (lo + 2 ^ f) i h.2 (by omega) (by rw [Nat.pow_succ] at h2; omega)

theorem pr_of {p : Nat} (h1 : p % 2 = 1) (h2 : 1 < p) (h3 : p < 4294967296) (h : noDiv p 15 0 = true) : Pr p := by
  have small : ∀ e c, p = e * c → 1 < e → e ≤ c → e = p := by
    intro e c hec he hle
    exfalso
    have hodd : e % 2 = 1 := by
      rcases Nat.mod_two_eq_zero_or_one e with h | h
      · have : p % 2 = 0 := by rw [hec, Nat.mul_mod, h]; simp
        omega
      · exact h
    have hlt : e < 65536 := by
      rcases Nat.lt_or_ge e 65536 with h | h
      · exact h
      · have := Nat.mul_le_mul h (Nat.le_trans h hle); omega
    refine noDiv_at p 15 0 ((e - 3) / 2) h (by omega) (by rw [show (2 : Nat) ^ 15 = 32768 from by decide]; omega) ?_
    rw [show 2 * ((e - 3) / 2) + 3 = e from by omega, hec]
    exact Nat.mul_mod_right e c
  refine ⟨h2, fun d hd => ?_⟩
  obtain ⟨c, hc⟩ := hd
  have hd0 : d ≠ 0 := by intro e; subst e; simp at hc; omega
  have hc0 : c ≠ 0 := by intro e; subst e; simp at hc; omega
  by_cases hd1 : d = 1
  · exact .inl hd1
  · by_cases hc1 : c = 1
    · right; rw [hc, hc1, Nat.mul_one]
    · rcases Nat.le_total d c with hle | hle
      · exact .inr (small d c hc (by omega) hle)
      · have e := small c d (by rw [hc, Nat.mul_comm]) (by omega) hle
        exfalso
        rw [hc] at e
        have : c * 1 < c * d := Nat.mul_lt_mul_of_pos_left (by omega) (by omega)
        rw [Nat.mul_comm c d] at this
        omega

def thP : Nat := 2147483579
def thQ : Nat := 1073741789
theorem thPQ : thP / 2 = thQ := by decide

theorem prP : Pr thP := pr_of (by decide) (by decide) (by decide) (by kernel_rfl)
theorem prQ : Pr thQ := pr_of (by decide) (by decide) (by decide) (by kernel_rfl)

/-- is x an element: a square modulo P -/
def valid (x : Int) : Bool := decide (1 ≤ x ∧ x < 2147483579) && !jac x.toNat thP

theorem valid_cop {x : Int} (h1 : 1 ≤ x) (h2 : x < 2147483579) : Nat.Coprime x.toNat thP := prP.cop (by omega) (by unfold thP; omega)

theorem valid_iff (x : Int) : valid x = true ↔ 1 ≤ x ∧ x < 2147483579 ∧ x.toNat ^ thQ % thP = 1 := by
  unfold valid
  rw [Bool.and_eq_true, decide_eq_true_iff, Bool.not_eq_true', ← thPQ]
  constructor
  · rintro ⟨⟨h1, h2⟩, h3⟩
    exact ⟨h1, h2, (euler prP (by decide) (valid_cop h1 h2)).2 h3⟩
  · rintro ⟨h1, h2, h3⟩
    exact ⟨⟨h1, h2⟩, (euler prP (by decide) (valid_cop h1 h2)).1 h3⟩

end Go.Proofs.YtjhecmmbpmpmgaaDoor

namespace Go.Proofs.YtjhecmmbpmpmgaaDoor
open Go.RowKit Go.Lib

/-- where the calculation of a Jacobi sign stands -/
structure Jac (r : Bool) (X N : Nat) (b : Bool) : Prop where
  pos : 1 ≤ X
  lt : X < 2147483579
  nlt : N ≤ 2147483579
  odd : N % 2 = 1
  cop : Nat.Coprime X N
  eq : (b ^^ jac X N) = r

theorem Jac.half {r : Bool} {X N : Nat} {b : Bool} (h : Jac r X N b) (he : X % 2 = 0) : Jac r (X / 2) N (b ^^ decide (N % 8 = 3 ∨ N % 8 = 5)) := by
  obtain ⟨h1, h2⟩ := jac_even X N h.odd he h.cop
  have := h.pos; have := h.lt
  refine ⟨by omega, by omega, h.nlt, h.odd, h2, ?_⟩
  rw [← h.eq, h1]
  cases b <;> cases jac (X / 2) N <;> cases decide (N % 8 = 3 ∨ N % 8 = 5) <;> rfl

theorem Jac.turn {r : Bool} {X N : Nat} {b : Bool} (h : Jac r X N b) (ho : X % 2 = 1) (h1 : 1 < X) : Jac r (N % X) X (b ^^ decide (X % 4 = 3 ∧ N % 4 = 3)) := by
  obtain ⟨g1, g2⟩ := jac_turn X N h.odd ho h.cop
  have hlt := h.lt
  have hp : N % X < X := Nat.mod_lt _ (by omega)
  have h0 : N % X ≠ 0 := fun e => by
    rw [e] at g2
    have : Nat.gcd 0 X = 1 := g2
    rw [Nat.gcd_zero_left] at this
    omega
  refine ⟨by omega, by omega, by omega, ho, g2, ?_⟩
  rw [← h.eq, g1]
  cases b <;> cases jac (N % X) X <;> cases decide (X % 4 = 3 ∧ N % 4 = 3) <;> rfl

theorem Jac.end {r : Bool} {N : Nat} {b : Bool} (h : Jac r 1 N b) : b = r := by
  rw [← h.eq, jac_one N h.odd]; cases b <;> rfl

set_option maxRecDepth 100000 in
set_option maxHeartbeats 1600000 in
theorem valid_any (x : Int) (w : World) : Calls Tryd.prog 19 #[.int .i64 x] w fun e w' => e = .returned (.bool (valid x)) ∧ w' = w := by
  by_cases h1 : x < 1
  · have hv := Lib.hid (show valid x = false by unfold valid; simp; intro h; omega)
    have d1 : decide (x < 1) = true := by simpa using h1
    go_enter Tryd.func19, Tryd.ntmps19
    go_wp2_with fail
    go_step3
    go_wp2_with fail
    rw [Exit.noGoto_ret]
    go_ret
    exact ⟨by rw [hv.out]; rfl, rfl⟩
  · by_cases h2 : x ≥ 2147483579
    · have hv := Lib.hid (show valid x = false by unfold valid; simp; intro h h'; omega)
      have d1 : decide (x < 1) = false := by simpa using h1
      have d2 : decide (x ≥ 2147483579) = true := by simpa using h2
      go_enter Tryd.func19, Tryd.ntmps19
      go_wp2_with fail
      go_step3
      go_wp2_with fail
      rw [Exit.noGoto_ret]
      go_ret
      exact ⟨by rw [hv.out]; rfl, rfl⟩
    · obtain ⟨X0, rfl⟩ : ∃ X0 : Nat, x = (X0 : Int) := ⟨x.toNat, by omega⟩
      have hv : Hid (Jac (valid (X0 : Int)) X0 2147483579 true) := Lib.hid ⟨by omega, by omega, by omega, by decide, prP.cop (by omega) (by unfold thP; omega), by
        unfold valid
        rw [show decide (1 ≤ (X0 : Int) ∧ (X0 : Int) < 2147483579) = true from by simp; omega]
        simp [thP]⟩
      obtain ⟨r, hr⟩ : ∃ r, Hid (r = valid (X0 : Int)) := ⟨_, Lib.hid rfl⟩
      rw [← hr.out] at hv ⊢
      have d1 : decide ((X0 : Int) < 1) = false := by simpa using h1
      have d2 : decide ((X0 : Int) ≥ 2147483579) = false := by simpa using h2
      go_enter Tryd.func19, Tryd.ntmps19
      go_wp2_with fail
      go_step3
      go_wp2_with fail
      go_step3
      go_wp2_with fail
      clear d1 d2 h1 h2
      go_loop [0, 3, 4] (fun x n s => ∃ (X N : Nat) (b : Bool), x = .int .i64 X ∧ n = .int .i64 N ∧ s = .bool b ∧ Jac r X N b) (fun x _ _ => (intOf x).toNat)
      case atStart => exact ⟨X0, 2147483579, true, rfl, rfl, rfl, hv.out⟩
      case round =>
        obtain ⟨X, N, b, rfl, rfl, rfl, hJ⟩ := hrel
        by_cases hx : 1 < X
        · have HJ := Lib.hid hJ
          clear hJ
          go_wp2_with fail
          go_loop [0, 4] (fun x s => ∃ (X' : Nat) (b' : Bool), X' ≤ X ∧ x = .int .i64 X' ∧ s = .bool b' ∧ Jac r X' N b') (fun x _ => (intOf x).toNat)
          case atStart => exact ⟨X, b, Nat.le_refl _, rfl, rfl, HJ.out⟩
          case round =>
            clear HJ hx
            obtain ⟨X', b', hle, rfl, rfl, hJ⟩ := hrel
            have hpos := hJ.pos
            have hlt := hJ.lt
            have HJ := Lib.hid hJ
            clear hJ
            rcases Nat.mod_two_eq_zero_or_one X' with he | he
            · have t0 : ((X' : Int) % 2 == 0) = true := by simp; omega
              have HE := Lib.hid he
              clear he
              by_cases h3 : N % 8 = 3
              · have t3 : ((N : Int) % 8 == 3) = true := by simp; omega
                have hJ' := HJ.out.half HE.out
                rw [show decide (N % 8 = 3 ∨ N % 8 = 5) = true from by simp [h3], Bool.xor_true] at hJ'
                have HJ' := Lib.hid hJ'
                clear hJ' h3
                go_wp2_with fail
                go_round
                case rel => exact ⟨X' / 2, !b', by omega, by go_num, rfl, HJ'.out⟩
                case measure => simp [intOf]; omega
              · by_cases h5 : N % 8 = 5
                · have t3 : ((N : Int) % 8 == 3) = false := by simp; omega
                  have t5 : ((N : Int) % 8 == 5) = true := by simp; omega
                  have hJ' := HJ.out.half HE.out
                  rw [show decide (N % 8 = 3 ∨ N % 8 = 5) = true from by simp [h5], Bool.xor_true] at hJ'
                  have HJ' := Lib.hid hJ'
                  clear hJ' h3 h5
                  go_wp2_with fail
                  go_round
                  case rel => exact ⟨X' / 2, !b', by omega, by go_num, rfl, HJ'.out⟩
                  case measure => simp [intOf]; omega
                · have t3 : ((N : Int) % 8 == 3) = false := by simp; omega
                  have t5 : ((N : Int) % 8 == 5) = false := by simp; omega
                  have hJ' := HJ.out.half HE.out
                  rw [show decide (N % 8 = 3 ∨ N % 8 = 5) = false from by simp [h3, h5], Bool.xor_false] at hJ'
                  have HJ' := Lib.hid hJ'
                  clear hJ' h3 h5
                  go_wp2_with fail
                  go_round
                  case rel => exact ⟨X' / 2, b', by omega, by go_num, rfl, HJ'.out⟩
                  case measure => simp [intOf]; omega
            · have t0 : ((X' : Int) % 2 == 0) = false := by simp; omega
              have HE := Lib.hid he
              clear he
              by_cases h1 : X' = 1
              · subst h1
                have HJ' := Lib.hid HJ.out.end
                go_wp2_with fail
                go_ret
                exact ⟨by rw [← HJ'.out]; rfl, rfl⟩
              · have t1 : ((X' : Int) == 1) = false := by simp; omega
                have hgt : 1 < X' := by omega
                have hJ' := HJ.out.turn HE.out hgt
                have hm := Nat.mod_lt N (show X' > 0 by omega)
                by_cases h3 : X' % 4 = 3
                · have t3 : ((X' : Int) % 4 == 3) = true := by simp; omega
                  by_cases h4 : N % 4 = 3
                  · have t4 : ((N : Int) % 4 == 3) = true := by simp; omega
                    rw [show decide (X' % 4 = 3 ∧ N % 4 = 3) = true from by simp [h3, h4], Bool.xor_true] at hJ'
                    have HJ' := Lib.hid hJ'
                    have HM := Lib.hid hm
                    clear hJ' h3 h4 hm
                    go_wp2_with fail
                    exact ⟨⟨N % X', X', !b', by go_num, rfl, rfl, HJ'.out⟩, by have := HM.out; simp [intOf]; omega⟩
                  · have t4 : ((N : Int) % 4 == 3) = false := by simp; omega
                    rw [show decide (X' % 4 = 3 ∧ N % 4 = 3) = false from by simp [h4], Bool.xor_false] at hJ'
                    have HJ' := Lib.hid hJ'
                    have HM := Lib.hid hm
                    clear hJ' h3 h4 hm
                    go_wp2_with fail
                    exact ⟨⟨N % X', X', b', by go_num, rfl, rfl, HJ'.out⟩, by have := HM.out; simp [intOf]; omega⟩
                · have t3 : ((X' : Int) % 4 == 3) = false := by simp; omega
                  rw [show decide (X' % 4 = 3 ∧ N % 4 = 3) = false from by simp [h3], Bool.xor_false] at hJ'
                  have HJ' := Lib.hid hJ'
                  have HM := Lib.hid hm
                  clear hJ' h3 hm
                  go_wp2_with fail
                  exact ⟨⟨N % X', X', b', by go_num, rfl, rfl, HJ'.out⟩, by have := HM.out; simp [intOf]; omega⟩
        · have hx1 : X = 1 := by have := hJ.pos; omega
          subst hx1
          have HJ := Lib.hid hJ.end
          clear hJ
          go_wp2_with fail
          go_ret
          exact ⟨by rw [HJ.out]; rfl, rfl⟩

end Go.Proofs.YtjhecmmbpmpmgaaDoor

namespace Go.Proofs.YtjhecmmbpmpmgaaDoor
open Go.RowKit Go.Lib

/-- a product in the group -/
def gmul (a b : Int) : Int := a * b % 2147483579

theorem valid_range {x : Int} (h : valid x = true) : 1 ≤ x ∧ x < 2147483579 := ⟨((valid_iff x).1 h).1, ((valid_iff x).1 h).2.1⟩

theorem mul_bound {a b : Int} (ha : 0 ≤ a ∧ a < 2147483579) (hb : 0 ≤ b ∧ b < 2147483579) : 0 ≤ a * b ∧ a * b ≤ 4611685756639249241 := by
  refine ⟨Int.mul_nonneg ha.1 hb.1, ?_⟩
  have h1 : a * b ≤ 2147483578 * b := Int.mul_le_mul_of_nonneg_right (by omega) hb.1
  omega

set_option maxRecDepth 100000 in
set_option maxHeartbeats 800000 in
theorem mul_any (a b : Int) (w : World) : Calls Tryd.prog 53 #[.int .i64 a, .int .i64 b] w fun e w' => e = .returned (if valid a && valid b then .tuple #[.int .i64 (gmul a b), .int .i64 0] else .tuple #[.int .i64 0, .int .i64 100]) ∧ w' = w := by
  cases ha : valid a
  · have HA := Lib.hid ha
    have hc := Lib.hid (valid_any a w)
    rw [ha] at hc
    clear ha
    go_enter Tryd.func53, Tryd.ntmps53
    go_wp2_with (go_at_call 19; refine hc.out.mono ?_; rintro e w' ⟨rfl, rfl⟩)
    go_ret2
    exact ⟨rfl, rfl⟩
  · cases hb : valid b
    · have hc := Lib.hid (valid_any a w)
      have hd := Lib.hid (valid_any b w)
      rw [ha] at hc
      rw [hb] at hd
      clear ha hb
      go_enter Tryd.func53, Tryd.ntmps53
      go_wp2_with (go_at_call 19; first | (refine hc.out.mono ?_; clear hc; rintro e w' ⟨rfl, rfl⟩) | (refine hd.out.mono ?_; rintro e w' ⟨rfl, rfl⟩))
      go_ret2
      exact ⟨rfl, rfl⟩
    · have hbd := mul_bound (show 0 ≤ a ∧ a < 2147483579 from by have := valid_range ha; omega) (show 0 ≤ b ∧ b < 2147483579 from by have := valid_range hb; omega)
      have hc := Lib.hid (valid_any a w)
      have hd := Lib.hid (valid_any b w)
      rw [ha] at hc
      rw [hb] at hd
      obtain ⟨z, hz⟩ : ∃ z, z = a * b := ⟨_, rfl⟩
      rw [← hz] at hbd
      have hw : IntKind.i64.wrap (a * b) = z := by rw [← hz]; exact IntWalk.i64_in _ (by omega)
      have HZ := Lib.hid hz
      clear ha hb hz
      go_enter Tryd.func53, Tryd.ntmps53
      go_wp2_with (go_at_call 19; first | (refine hc.out.mono ?_; clear hc; rintro e w' ⟨rfl, rfl⟩) | (refine hd.out.mono ?_; rintro e w' ⟨rfl, rfl⟩))
      go_ret2
      exact ⟨by rw [gmul, ← HZ.out]; rfl, rfl⟩

/-- an exponent, made small -/
def ex (x : Int) : Int := x % 1073741789

set_option maxRecDepth 100000 in
set_option maxHeartbeats 800000 in
theorem least_any (w : World) (B : Nat) (x : Int) (_hx : -9223372036854775808 ≤ x ∧ x ≤ 9223372036854775807) (hc : w.cell? ⟨B, 0, none⟩ = some (.int .i64 x)) :
    Calls Tryd.prog 57 #[.slice (some ⟨B, 0, none⟩) 1 1] w fun e w' => e = .returned (.int .i64 (ex x)) ∧ w' = w := by
  have hr1 := Int.tmod_lt_of_pos x (show (0 : Int) < 1073741789 by omega)
  have hr2 : -1073741789 < x.tmod 1073741789 := by
    have := Int.lt_tmod_of_pos x (show (0 : Int) < 1073741789 by omega)
    omega
  have hex : (x.tmod 1073741789 + 1073741789) % 1073741789 = ex x := by
    unfold ex
    have := Int.mul_tdiv_add_tmod x 1073741789
    omega
  obtain ⟨r, hr⟩ : ∃ r, x.tmod 1073741789 = r := ⟨_, rfl⟩
  rw [hr] at hr1 hr2 hex
  have HEX := Lib.hid hex
  clear hex
  go_enter Tryd.func57, Tryd.ntmps57
  go_wp2_with fail
  go_loop [3, 8] (fun n i => (i = .int .i64 0 ∧ n = .int .i64 1) ∨ (i = .int .i64 1 ∧ n = .int .i64 (ex x))) (fun _ i => 1 - (intOf i).toNat)
  case atStart => exact .inl ⟨rfl, rfl⟩
  case round =>
    rcases hrel with ⟨rfl, rfl⟩ | ⟨rfl, rfl⟩
    · go_wp2_with fail
      exact ⟨.inr ⟨rfl, by rw [HEX.out]⟩, by simp [intOf]⟩
    · go_wp2_with fail
      go_ret
      exact ⟨rfl, rfl⟩

theorem i64_or_byte (n c : Nat) (hn : n < 36028797018963968) (hc : c < 256) : bits .or .i64 ((n : Int) * 256) (c : Int) = ((n * 256 + c : Nat) : Int) := by
  have e1 : (n : Int) * 256 = ((n * 256 : Nat) : Int) := by simp
  have hor := or_shift n c 8 (by simpa using hc) 256 (by simp)
  rw [e1]
  show IntKind.i64.wrap ((BitVec.ofInt 64 ((n * 256 : Nat) : Int) ||| BitVec.ofInt 64 (c : Int)).toNat : Int) = _
  rw [BitVec.toNat_or, ofInt_u64 _ (by omega), ofInt_u64 _ (by omega), hor, IntKind.wrap_i64]
  omega

theorem i64_and_one (n : Nat) (hn : n < 9223372036854775808) : bits .and .i64 (n : Int) 1 = ((n % 2 : Nat) : Int) := by
  show IntKind.i64.wrap ((BitVec.ofInt 64 (n : Int) &&& BitVec.ofInt 64 ((1 : Nat) : Int)).toNat : Int) = _
  rw [BitVec.toNat_and, ofInt_u64 _ (by omega), ofInt_u64 _ (by omega), Nat.and_one_is_mod, IntKind.wrap_i64]
  omega

/-- a digest's first bytes, its first bit struck -/
def struck (d : List UInt8) : List UInt8 := d.set 0 (d.headD 0 &&& 127)
/-- a number from a hash -/
def hashn (t : ByteArray) (l : List UInt8) : Nat := wpart (struck (tagged t l)) 8 % 1073741789

theorem struck_length (d : List UInt8) : (struck d).length = d.length := by simp [struck]

theorem wpart_small {l : List UInt8} (h0 : 0 < l.length) (h : l[0].toNat < 128) : ∀ k, wpart l (k + 1) < 128 * 256 ^ k := by
  intro k
  induction k with
  | zero =>
    rw [wpart_succ l 0 h0]
    simp [wpart]; exact h
  | succ k ih =>
    by_cases hk : k + 1 < l.length
    · rw [wpart_succ l (k + 1) hk, Nat.pow_succ]
      have := l[k + 1].toNat_lt
      omega
    · have : wpart l (k + 1 + 1) = wpart l (k + 1) := by unfold wpart; rw [List.take_of_length_le (by omega), List.take_of_length_le (by omega)]
      rw [this, Nat.pow_succ]; omega

theorem dig_head {w : World} {V : Nat} {T : List UInt8} {t : TypeId} {fr : Nat × Nat} (h : w.heap[V]? = some (.cells (brow T) t fr)) (hT : T.length = 32) : w.cell? ⟨V, 0, none⟩ = some (.int .u8 ((T.headD 0).toNat : Int)) := by
  match T, hT with
  | a :: l, _ => simp [World.cell?, h, brow, bv]

theorem struck_row (T : List UInt8) : (brow T).setIfInBounds 0 (.int .u8 (bits .and .u8 ((T.headD 0).toNat : Int) 127)) = brow (struck T) := by
  have e : Value.int .u8 (bits .and .u8 ((T.headD 0).toNat : Int) 127) = bv (T.headD 0 &&& 127) := by
    rw [bv]
    congr 1
    have := u8_and_nat (T.headD 0).toNat 127 (T.headD 0).toNat_lt (by omega)
    rw [UInt8.toNat_and]
    exact this
  rw [e, brow, struck, brow, List.setIfInBounds_toArray, List.map_set]

set_option maxRecDepth 100000 in
set_option maxHeartbeats 1600000 in
theorem hash_any (w : World) (t : ByteArray) (ht : t.size ≤ 1000000) (l : List UInt8) (b off cap : Nat) (hl0 : 0 < l.length) (hl : l.length ≤ 100000000) (hA : At w l b off) (hT : Tabs w) :
    Calls Tryd.prog 22 #[.string t, .slice (some ⟨b, off, none⟩) l.length cap] w fun e w' => e = .returned (.int .i64 (hashn t l)) ∧ Below w.heap.size w w' := by
  have hcall := Lib.hid (tagged_any w t ht l b off cap hl0 hl hA hT)
  obtain ⟨n, hn⟩ : ∃ n, Hid (n = l.length) := ⟨_, Lib.hid rfl⟩
  rw [← hn.out] at hcall ⊢
  clear hA hT
  go_enter Tryd.func22, Tryd.ntmps22
  go_wp2_with fail
  refine hcall.out.mono ?_
  rintro e w1 ⟨rfl, hb1⟩
  obtain ⟨T, hTd⟩ : ∃ T, Hid (T = tagged t l) := ⟨_, Lib.hid rfl⟩
  rw [← hTd.out]
  have hTl : T.length = 32 := by rw [hTd.out]; rfl
  have hA5 : (w1.alloc (.cells zrow 47)).heap[w1.heap.size]? = some (.cells zrow 47 (0, 0)) := heap_alloc_new _ _
  have hs1 := hb1.size
  obtain ⟨H, hH⟩ : ∃ H : UInt8, Hid (H = T.headD 0) := ⟨_, Lib.hid rfl⟩
  have HB1 := Lib.hid hb1
  clear hb1
  go_wp2_with (refine wpList_store_row rfl 47 (.tmp 5) (.tmp 9) rfl w1.heap.size (brow T) rfl rfl 47 zrow hA5 (brow_size hTl) (by simp [brow, hTl, zrow]) (brow_one T) ?_; rw [World.setRow_alloc_new]; have hrow2 : (w1.alloc (.cells (brow T) 47)).heap[w1.heap.size]? = some (.cells (brow T) 47 (0, 0)) := heap_alloc_new _ _; have hb2 : Below w.heap.size w (w1.alloc (.cells (brow T) 47)) := HB1.out.alloc hs1 _; generalize w1.alloc (.cells (brow T) 47) = w2 at *; have c0 : w2.cell? ⟨w1.heap.size, 0, none⟩ = some (.int .u8 (H.toNat : Int)) := (by rw [hH.out]; exact dig_head hrow2 hTl); have f0 : w2.frozen? ⟨w1.heap.size, 0, none⟩ = false := frozen_at hrow2; have HR2 := Lib.hid hrow2; have HB2 := Lib.hid hb2; clear hrow2 hb2)
  have hrow3 : (w2.setCell ⟨w1.heap.size, 0, none⟩ (.int .u8 (bits .and .u8 (H.toNat : Int) 127))).heap[w1.heap.size]? = some (.cells (brow (struck T)) 47 (0, 0)) := by
    rw [d_setCell_heap HR2.out]
    rw [hH.out, struck_row T]
  have hb3 : Below w.heap.size w (w2.setCell ⟨w1.heap.size, 0, none⟩ (.int .u8 (bits .and .u8 (H.toNat : Int) 127))) := HB2.out.setCell hs1 _
  generalize w2.setCell ⟨w1.heap.size, 0, none⟩ (.int .u8 (bits .and .u8 (H.toNat : Int) 127)) = w3 at *
  obtain ⟨U, hU⟩ : ∃ U, Hid (U = struck T) := ⟨_, Lib.hid rfl⟩
  rw [← hU.out] at hrow3
  have hUl : U.length = 32 := by rw [hU.out, struck_length, hTl]
  have hU0 : (U[0]'(by omega)).toNat < 128 := by
    have hh := hU.out
    subst hh
    simp only [struck, List.getElem_set_self]
    rw [UInt8.toNat_and]
    exact Nat.lt_of_le_of_lt Nat.and_le_right (by decide)
  have HR3 := Lib.hid hrow3
  have HB3 := Lib.hid hb3
  have HRES : Hid (((wpart U 8 % 1073741789 : Nat) : Int) = (hashn t l : Nat)) := Lib.hid (by rw [hU.out, hTd.out]; rfl)
  clear hrow3 hb3 hA5
  go_loop [4, 14] (fun n i => ∃ k : Nat, k ≤ 8 ∧ i = .int .i64 k ∧ n = .int .i64 (wpart U k)) (fun _ i => 8 - (intOf i).toNat)
  case atStart => exact ⟨0, by omega, rfl, rfl⟩
  case round =>
    obtain ⟨k, hk, rfl, rfl⟩ := hrel
    by_cases hlt : k < 8
    · have hcell : w3.cell? ⟨w1.heap.size, k, none⟩ = some (.int .u8 (((U[k]'(by omega)).toNat : Nat) : Int)) := by
        have := HR3.out
        simp [World.cell?, this, brow, bv, show k < U.length by omega]
      have HS := Lib.hid (wpart_succ U k (by omega))
      have hb : (U[k]'(by omega)).toNat < 256 := UInt8.toNat_lt _
      have hw : wpart U k < 36028797018963968 := by
        rcases Nat.eq_zero_or_pos k with h0 | h0
        · subst h0; simp [wpart]
        · obtain ⟨j, rfl⟩ : ∃ j, k = j + 1 := ⟨k - 1, by omega⟩
          have h1 := wpart_small (by omega) hU0 j
          have h2 : 256 ^ j ≤ 256 ^ 6 := Nat.pow_le_pow_right (by omega) (by omega)
          have h3 : 128 * 256 ^ 6 = 36028797018963968 := by decide
          omega
      have HO := Lib.hid (i64_or_byte (wpart U k) (U[k]'(by omega)).toNat hw hb)
      obtain ⟨c, hc⟩ : ∃ c, Hid (c = (U[k]'(by omega)).toNat) := ⟨_, Lib.hid rfl⟩
      obtain ⟨m, hm⟩ : ∃ m, Hid (m = wpart U k) := ⟨_, Lib.hid rfl⟩
      rw [← hc.out] at hcell hb HS HO
      rw [← hm.out] at hw HS HO ⊢
      go_wp2_with fail
      exact ⟨⟨k + 1, by omega, by go_num, by rw [HS.out, ← HO.out]⟩, by simp [intOf]; omega⟩
    · have : k = 8 := by omega
      subst this
      go_wp2_with fail
      go_ret
      exact ⟨by rw [← HRES.out]; rfl, HB3.out⟩

end Go.Proofs.YtjhecmmbpmpmgaaDoor

namespace Go.Proofs.YtjhecmmbpmpmgaaDoor
open Go.RowKit Go.Shelf

/-- what the iterator asks of a round, and what it owes: J abides its stores into the boxes B and B + 1 -/
def GivesB {α : Type} (F : Fence) (n : Nat) (P : Program) (g : Nat) (lb : Array Value) (encs : α → Array Value) (B : Nat) (S : List α → Prop) (N : Nat) (w : World) : Prop :=
  ∀ (l : Nat) (J : List α → World → Prop) (W : World), Below w.heap.size w W →
    (∀ s W o v, (o = B ∨ o = B + 1) → J s W → J s (W.setCell ⟨o, 0, none⟩ v)) →
    (∀ pre x W1, J pre W1 → pre.length < N → YieldAt F (n - 1) P l (encs x) W1 fun e W' =>
      e = .returned (.bool true) ∧ J (pre ++ [x]) W' ∧ W'.heap[B]? = W1.heap[B]? ∧ W'.heap[B + 1]? = W1.heap[B + 1]?) →
    J [] W →
    CallsIn F n P g (#[.func (.yield l) #[] #[]] ++ lb) W fun e W' => (∃ v, e = .returned v) ∧ ∃ xs, S xs ∧ J xs W'

/-- how a round's body ends: it goes on -/
def roundOn {α : Type} (B : Nat) (I : List α → World → Prop) (xs : List α) (W : World) : Exit → Act → World → Prop
  | .normal, _, W' => KeepsOthers W W' ∧ (W'.heap[B]? = W.heap[B]? ∧ W'.heap[B + 1]? = W.heap[B + 1]?) ∧ I xs W'
  | _, _, _ => False

theorem range_boxes {P : Program} {F : Fence} {n : Nat} {α : Type} {g : Operand} {ps : Array Tmp} {assign body : Code} {Q : Exit → Act → World → Prop} {a : Act} {w : World}
    (hro : F.round = none) (h1 : 1 ≤ n) {gf : Nat} {lb : Array Value} (hg : a.eval g = .func (.func gf) #[] lb) (hFg : F.fn gf) (eg : ∀ args w, (callFunc gf args).run P w = .ok (.enter gf args) w)
    {encs : α → Array Value} {B : Nat} {S : List α → Prop} {N : Nat} (hB : B + 1 < w.heap.size) (hseq : GivesB F (n - 1) P gf lb encs B S N w) (hps : ∀ x, (encs x).size = ps.size)
    (I : List α → World → Prop) (hI : OwnFrom w.heap.size I) (hIs : ∀ s W o v, (o = B ∨ o = B + 1) → I s W → I s (W.setCell ⟨o, 0, none⟩ v)) (h0 : I [] w) (a₁ : α → Act)
    (hassign : ∀ (l : Nat) (x : α) (W : World) (K : Act → World → Prop), K (a₁ x) W →
      assign.wpIn (F.inRound l) (n - 1 - 1) P (Exit.then K (fun _ _ _ => False)) { tmps := (ps.zip (encs x)).foldl (fun t (p, v) => t.setIfInBounds p v) a.tmps, defers := [] } W)
    (hbody : ∀ (l : Nat) (pre : List α) (x : α) (W : World), I pre W → pre.length < N → body.wpIn (F.inRound l) (n - 1 - 1) P (roundOn B I (pre ++ [x]) W) (a₁ x) W)
    (hdone : ∀ (D : Nat) (xs : List α) (W : World), w.heap.size ≤ D → S xs → I xs W → W.heap[D]? = some (.deferred (some [])) → Q .normal { a with defers := { target := .collected D, args := #[] } :: a.defers } W) :
    (Code.rangeFunc g ps assign body).wpIn F n P Q a w := by
  refine wpIn_rangeFunc ?_
  intro fn hfn
  rw [hro]
  obtain ⟨rec, hrec⟩ : ∃ rec : LoopState → Loop, rec = fun st => { state := st, pending := none, fn, tmps := a.tmps, params := ps, assign, body, defers := w.heap.size } := ⟨_, rfl⟩
  obtain ⟨W1, hW1⟩ : ∃ W1, (w.alloc (.deferred (some []))).alloc (.loop (rec .ready)) = W1 := ⟨_, rfl⟩
  have hL1 : W1.heap[w.heap.size + 1]? = some (.loop (rec .ready)) := by
    rw [← hW1]; have := World.alloc_heap_new (w.alloc (.deferred (some []))) (.loop (rec .ready)); rwa [World.size_alloc] at this
  have hK1 : W1.heap[w.heap.size]? = some (.deferred (some [])) := by
    rw [← hW1]; exact (Below.heap_alloc _ _ _ (by simp)).trans (World.alloc_heap_new w _)
  have hI1 : I [] W1 := by rw [← hW1]; exact hI.alloc _ (hI.alloc _ h0)
  have hb1 : Below w.heap.size w W1 := by
    rw [← hW1]; exact ((Below.refl _ w).alloc (Nat.le_refl _) _).alloc (by simp) _
  refine ⟨w.heap.size + 1, [{ target := .collected w.heap.size, args := #[] }], W1, { target := .fn (.func gf) lb, args := #[.func (.yield (w.heap.size + 1)) #[] #[]] }, W1, gf,
    #[.func (.yield (w.heap.size + 1)) #[] #[]] ++ lb, W1, ?_, ?_, ?_, ?_, fun _ => h1, ?_⟩
  · rw [← hW1, hrec]; exact run_enterLoop_outer _ _ _ _ _
  · simp only [resolve, hg]
    simp [go_sem]
  · intro f' hf'; simp [Target.leads] at hf'; subst hf'; exact hFg
  · simp [invoke, go_sem, eg]
  · have other : ∀ (W : World) (o k : Nat) (v : Value), k ≠ o → (W.setCell ⟨o, 0, none⟩ v).heap[k]? = W.heap[k]? := fun W o k v h => Below.heap_setCell _ _ _ _ h
    refine (hseq (w.heap.size + 1) (fun pre W => I pre W ∧ W.heap[w.heap.size + 1]? = some (.loop (rec .ready)) ∧ W.heap[w.heap.size]? = some (.deferred (some []))) W1 hb1
      (fun s W o v ho h => ⟨hIs s W o v ho h.1, (other W o _ v (by omega)).trans h.2.1, (other W o _ v (by omega)).trans h.2.2⟩) ?_ ⟨hI1, hL1, hK1⟩).mono ?_
    · rintro pre x W ⟨hi, hl, hk⟩ hlen
      have hlt : w.heap.size + 1 < W.heap.size := (Array.getElem?_eq_some_iff.1 hl).1
      have hy := run_yield (P := P) (args := encs x) hl (by rw [hrec]; exact hps x)
      rw [hrec] at hy
      refine ⟨fn, _, assign, body, hy, roundIn_of_wpIn hfn (hassign _ x W _ ⟨_, run_beginRound hl (by rw [hrec]), ?_⟩)⟩
      obtain ⟨W2, hW2⟩ : ∃ W2, W2 = W.putObj (w.heap.size + 1) (.loop { rec .ready with state := .busy }) := ⟨_, rfl⟩
      have hl2 : W2.heap[w.heap.size + 1]? = some (.loop { rec .ready with state := .busy }) := by rw [hW2]; exact World.putObj_heap_same hlt
      have hk2 : W2.heap[w.heap.size]? = some (.deferred (some [])) := by rw [hW2]; exact (World.putObj_heap_other (by omega)).trans hk
      have hi2 : I pre W2 := by rw [hW2]; exact hI.putObj _ hi (by omega) hl rfl
      have hA2 : W2.heap[B]? = W.heap[B]? := by rw [hW2]; exact World.putObj_heap_other (by omega)
      have hB2 : W2.heap[B + 1]? = W.heap[B + 1]? := by rw [hW2]; exact World.putObj_heap_other (by omega)
      rw [← hW2]
      refine wpIn_mono (hbody _ pre x W2 hi2 hlen) ?_
      rintro e a3 W3 hp
      cases e with
      | normal =>
        obtain ⟨hk3, ⟨hA3, hB3⟩, hi3⟩ := hp
        have hl3 := hk3.same _ _ hl2 rfl
        have hr := run_endRound (P := P) none hl3
        have hl4 := World.putObj_heap_same (o := Obj.loop { { rec .ready with state := .busy } with state := .ready, pending := none }) (Array.getElem?_eq_some_iff.1 hl3).1
        refine ⟨_, _, hr, rfl, ⟨hI.putObj _ hi3 (by omega) hl3 rfl, ?_, (World.putObj_heap_other (by omega)).trans (hk3.same _ _ hk2 rfl)⟩, ?_, ?_⟩
        · rw [hrec] at hl4 ⊢; exact hl4
        · exact (World.putObj_heap_other (by omega)).trans (hA3.trans hA2)
        · exact (World.putObj_heap_other (by omega)).trans (hB3.trans hB2)
      | ret => exact hp.elim
      | exit id => exact hp.elim
      | goto t => exact hp.elim
      | panic ch => exact hp.elim
      | outgrown => exact hp.elim
    · rintro e W2 ⟨⟨v, rfl⟩, xs, hS, hi, hl, hk⟩
      exact ⟨none, _, by have := run_endLoop (P := P) hl (by rw [hrec]; simp); rw [hrec] at this; exact this, hdone _ xs _ (Nat.le_refl _) hS (hI.putObj _ hi (by omega) hl rfl) ((World.putObj_heap_other (by omega)).trans hk)⟩

end Go.Proofs.YtjhecmmbpmpmgaaDoor

namespace Go.Proofs.YtjhecmmbpmpmgaaDoor
open Go.RowKit Go.Lib Go.Shelf

/-- one square of the row, with its bit -/
structure Sq where
  v : Nat
  b : Bool
  lt : v < 2147483579

def sqF : Nat → Nat → Nat → List Sq
  | 0, _, _ => []
  | f + 1, a, n => if n = 0 then [] else ⟨a % 2147483579, (n : Int) % 2 == 1, Nat.mod_lt _ (by decide)⟩ :: sqF f (a * a % 2147483579) (n / 2)

def powStep (c : Nat) (x : Sq) : Nat := if x.b then c * x.v % 2147483579 else c
def powF (xs : List Sq) : Nat := xs.foldl powStep 1

theorem powF_snoc (xs : List Sq) (x : Sq) : powF (xs ++ [x]) = powStep (powF xs) x := by simp [powF]

theorem powF_lt (xs : List Sq) : powF xs < 2147483579 := by
  have : ∀ (xs : List Sq) (c : Nat), c < 2147483579 → xs.foldl powStep c < 2147483579 := by
    intro xs
    induction xs with
    | nil => intro c h; exact h
    | cons x xs ih =>
      intro c h
      refine ih _ ?_
      unfold powStep
      split
      · exact Nat.mod_lt _ (by decide)
      · exact h
  exact this xs 1 (by decide)

theorem foldl_sq : ∀ (f a : Nat) (_ : a < 2147483579) (n c : Nat), n < 2 ^ f → c < 2147483579 → (sqF f a n).foldl powStep c = c * a ^ n % 2147483579
  | 0, a, ha, n, c, hn, hc => by
    have : n = 0 := by simpa using hn
    subst this
    simp [sqF, Nat.mod_eq_of_lt hc]
  | f + 1, a, ha, n, c, hn, hc => by
    rw [sqF]
    by_cases h0 : n = 0
    · subst h0; simp [Nat.mod_eq_of_lt hc]
    · rw [if_neg h0, List.foldl_cons, foldl_sq f _ (Nat.mod_lt _ (by decide)) (n / 2) _ (by rw [Nat.pow_succ] at hn; omega) (by unfold powStep; split; exact Nat.mod_lt _ (by decide); exact hc)]
      have e1 : (a * a % 2147483579) ^ (n / 2) % 2147483579 = a ^ (2 * (n / 2)) % 2147483579 := by
        rw [← Nat.pow_mod, Nat.pow_mul, Nat.pow_two]
      unfold powStep
      simp only [Nat.mod_eq_of_lt ha]
      have hb : ((n : Int) % 2 == 1) = decide (n % 2 = 1) := by
        by_cases h : n % 2 = 1
        · simp [h]; omega
        · simp [h]; omega
      rw [hb]
      by_cases h : n % 2 = 1
      · simp only [h, decide_true, if_true]
        have e2 : n = 2 * (n / 2) + 1 := by omega
        rw [Nat.mul_mod, e1, Nat.mod_mod, ← Nat.mul_mod]
        conv => rhs; rw [e2, Nat.pow_succ]
        rw [Nat.mul_assoc, Nat.mul_comm a]
      · simp only [h, decide_false]
        have e2 : n = 2 * (n / 2) := by omega
        rw [Nat.mul_mod, e1, ← Nat.mul_mod]
        conv => rhs; rw [e2]
        simp

theorem powF_sq (f a : Nat) (ha : a < 2147483579) (n : Nat) (hn : n < 2 ^ f) : powF (sqF f a n) = a ^ n % 2147483579 := by
  rw [powF, foldl_sq f a ha n 1 hn (by decide), Nat.one_mul]

theorem box_cell {w : World} {B : Nat} {v : Value} {t : TypeId} {fr : Nat × Nat} (h : w.heap[B]? = some (.cells #[v] t fr)) : w.cell? ⟨B, 0, none⟩ = some v := by simp [World.cell?, h]

set_option maxRecDepth 100000 in
set_option maxHeartbeats 1600000 in
theorem squares1_in (F : Fence) (m : Nat) (h77 : F.fn 77) (hro : F.round = none) (hm : 1 ≤ m) (l B f a : Nat) (ha : a < 2147483579) (n : Nat) (hn : n < 2 ^ f) (hn2 : n < 1073741789) (J : List Sq → World → Prop)
    (hst : ∀ s W o v, (o = B ∨ o = B + 1) → J s W → J s (W.setCell ⟨o, 0, none⟩ v))
    (hY : ∀ pre x W1, J pre W1 → pre.length < (sqF f a n).length → YieldAt F (m - 1) Tryd.prog l #[.int .i64 (x.v : Int), .bool x.b] W1 fun e W' => e = .returned (.bool true) ∧ J (pre ++ [x]) W' ∧ W'.heap[B]? = W1.heap[B]? ∧ W'.heap[B + 1]? = W1.heap[B + 1]?)
    (W : World) (hA : W.heap[B]? = some (.cells #[.int .i64 (a : Int)] 3 (0, 0))) (hN : W.heap[B + 1]? = some (.cells #[.int .i64 (n : Int)] 3 (0, 0))) (h0 : J [] W) :
    CallsIn F m Tryd.prog 77 #[.func (.yield l) #[] #[], .pointer (some ⟨B + 1, 0, none⟩), .pointer (some ⟨B, 0, none⟩)] W fun e W' => (∃ v, e = .returned v) ∧ ∃ xs, xs = sqF f a n ∧ J xs W' := by
  obtain ⟨xs, hxs⟩ : ∃ xs, Hid (xs = sqF f a n) := ⟨_, Lib.hid rfl⟩
  rw [← hxs.out] at hY ⊢
  refine callsIn_of_wp Tryd.func77 rfl h77 ?_ hro
  simp only [Tryd.ntmps77, List.size_toArray, List.length_cons, List.length_nil, Nat.reduceAdd, Nat.reduceSub, Array.replicate_succ, Array.replicate_zero, List.push_toArray, List.append_toArray, List.nil_append, List.cons_append]
  gi_wp2
  gi_loopw [4] (fun _ wr => ∃ (pre : List Sq) (f a : Nat) (ha : a < 2147483579) (n : Nat), Hid (xs = pre ++ sqF f a n) ∧ n < 2 ^ f ∧ n < 1073741789 ∧ wr.heap[B]? = some (.cells #[.int .i64 (a : Int)] 3 (0, 0)) ∧ wr.heap[B + 1]? = some (.cells #[.int .i64 (n : Int)] 3 (0, 0)) ∧ J pre wr)
    (fun _ wr => match wr.cell? ⟨B + 1, 0, none⟩ with | some (.int _ z) => z.toNat | _ => 0)
  case atStart => exact ⟨[], f, a, ha, n, Lib.hid (by rw [hxs.out]; rfl), hn, hn2, hA, hN, h0⟩
  case round =>
    clear hA hN h0 hxs hn hn2 ha
    clear a n
    obtain ⟨pre, f, a, ha, n, hx, hn, hn2, hA, hN, hJ⟩ := hrel
    have cA := box_cell hA
    have cN := box_cell hN
    have fA : wr.frozen? ⟨B, 0, none⟩ = false := frozen_at hA
    have fN : wr.frozen? ⟨B + 1, 0, none⟩ = false := frozen_at hN
    by_cases hz : n = 0
    · subst hz
      have hx2 : Hid (pre = xs) := Lib.hid (by rw [hx.out]; cases f <;> simp [sqF])
      clear hn hn2 ha hA hN
      gi_wp2
      go_end0
      exact ⟨⟨_, rfl⟩, pre, hx2.out, hJ⟩
    · obtain ⟨f', rfl⟩ : ∃ f', f = f' + 1 := ⟨f - 1, by
        have : f ≠ 0 := fun e => by subst e; simp at hn; omega
        omega⟩
      obtain ⟨x, hxv, hxb, hx2⟩ : ∃ x : Sq, x.v = a ∧ x.b = ((n : Int) % 2 == 1) ∧ Hid (xs = pre ++ (x :: sqF f' (a * a % 2147483579) (n / 2))) := ⟨⟨a % 2147483579, (n : Int) % 2 == 1, Nat.mod_lt _ (by decide)⟩, Nat.mod_eq_of_lt ha, rfl, Lib.hid (by rw [hx.out, sqF, if_neg hz])⟩
      have hn3 : Hid (n / 2 < 2 ^ f') := Lib.hid (by rw [Nat.pow_succ] at hn; omega)
      obtain ⟨fn, tmps, assign, body, hy, hR⟩ := hY pre x wr hJ (by rw [hx2.out]; simp)
      rw [hxv, hxb] at hy
      have hpos : (n : Int) > 0 := by omega
      have hand : bits .and .i64 (n : Int) 1 = (n : Int) % 2 := by rw [i64_and_one n (by omega)]; simp
      have hb := mul_bound (show 0 ≤ (a : Int) ∧ (a : Int) < 2147483579 from by omega) (show 0 ≤ (a : Int) ∧ (a : Int) < 2147483579 from by omega)
      have HAA := Lib.hid hA; have HNN := Lib.hid hN; have HHA := Lib.hid ha; have Hn2 := Lib.hid hn2
      clear hA hN hn hn2 hx ha hJ hxv hxb
      have hsq : IntKind.i64.wrap ((a : Int) * (a : Int)) = (a : Int) * (a : Int) := by exact IntWalk.i64_in _ (by omega)
      have HB := Lib.hid hb
      clear hb
      gi_wp2
      refine hR.mono ?_
      rintro e W3 ⟨rfl, hJ3, hA3, hB3⟩
      have hA4 := hA3.trans HAA.out
      have hN4 := hB3.trans HNN.out
      have cA3 := box_cell hA4
      have cN3 := box_cell hN4
      have fA3 : W3.frozen? ⟨B, 0, none⟩ = false := frozen_at hA4
      have fN3 : W3.frozen? ⟨B + 1, 0, none⟩ = false := frozen_at hN4
      have HA4 := Lib.hid hA4; have HN4 := Lib.hid hN4
      clear hA4 hN4 hA3 hB3 cA cN fA fN
      have HJ3 := Lib.hid hJ3
      clear hJ3 hY
      gi_wp2
      have hmod : ((a : Int) * (a : Int)).tmod 2147483579 = ((a * a % 2147483579 : Nat) : Int) := by
        rw [Int.tmod_eq_emod_of_nonneg HB.out.1]; simp
      have hdiv : (n : Int) / 2 = ((n / 2 : Nat) : Int) := by simp
      rw [hmod, hdiv]
      have g1 : ((W3.setCell ⟨B, 0, none⟩ (.int .i64 ((a * a % 2147483579 : Nat) : Int))).setCell ⟨B + 1, 0, none⟩ (.int .i64 ((n / 2 : Nat) : Int))).heap[B]? = some (.cells #[.int .i64 ((a * a % 2147483579 : Nat) : Int)] 3 (0, 0)) :=
        (Below.heap_setCell _ _ _ _ (show B ≠ B + 1 by omega)).trans (d_setCell_heap HA4.out)
      have g2 : ((W3.setCell ⟨B, 0, none⟩ (.int .i64 ((a * a % 2147483579 : Nat) : Int))).setCell ⟨B + 1, 0, none⟩ (.int .i64 ((n / 2 : Nat) : Int))).heap[B + 1]? = some (.cells #[.int .i64 ((n / 2 : Nat) : Int)] 3 (0, 0)) :=
        d_setCell_heap ((Below.heap_setCell _ _ _ _ (show B + 1 ≠ B by omega)).trans HN4.out)
      refine ⟨⟨pre ++ [x], f', a * a % 2147483579, Nat.mod_lt _ (by decide), n / 2, Lib.hid (by rw [hx2.out]; simp), hn3.out, by have := Hn2.out; omega, g1, g2, hst _ _ _ _ (.inr rfl) (hst _ _ _ _ (.inl rfl) HJ3.out)⟩, ?_⟩
      rw [box_cell g2, box_cell HNN.out]
      simp
      omega

/-- what a caller asks of squares -/
theorem squares_gives (F : Fence) (m : Nat) (h77 : F.fn 77) (hro : F.round = none) (hm : 1 ≤ m) (B f a : Nat) (ha : a < 2147483579) (n : Nat) (hn : n < 2 ^ f) (hn2 : n < 1073741789) (w : World)
    (hA : w.heap[B]? = some (.cells #[.int .i64 (a : Int)] 3 (0, 0))) (hN : w.heap[B + 1]? = some (.cells #[.int .i64 (n : Int)] 3 (0, 0))) :
    GivesB F m Tryd.prog 77 #[.pointer (some ⟨B + 1, 0, none⟩), .pointer (some ⟨B, 0, none⟩)] (fun x : Sq => #[.int .i64 (x.v : Int), .bool x.b]) B (fun xs => xs = sqF f a n) (sqF f a n).length w := fun l J W hW hst hY h0 =>
  squares1_in F m h77 hro hm l B f a ha n hn hn2 J hst hY W ((hW.block _ (Array.getElem?_eq_some_iff.1 hA).1).trans hA) ((hW.block _ (Array.getElem?_eq_some_iff.1 hN).1).trans hN) h0

set_option maxRecDepth 100000 in
theorem squares_in (F : Fence) (m : Nat) (h56 : F.fn 56) (hro : F.round = none) (a n : Int) (w : World) :
    CallsIn F m Tryd.prog 56 #[.int .i64 a, .int .i64 n] w fun e w' => e = .returned (.func (.func 77) #[] #[.pointer (some ⟨w.heap.size + 1, 0, none⟩), .pointer (some ⟨w.heap.size, 0, none⟩)]) ∧ w' = (w.alloc (.cells #[.int .i64 a] 3)).alloc (.cells #[.int .i64 n] 3) := by
  refine callsIn_of_wp Tryd.func56 rfl h56 ?_ hro
  simp only [Tryd.ntmps56, List.size_toArray, List.length_cons, List.length_nil, Nat.reduceAdd, Nat.reduceSub, Array.replicate_succ, Array.replicate_zero, List.push_toArray, List.append_toArray, List.nil_append, List.cons_append]
  gi_wp2
  go_ret
  exact ⟨rfl, rfl⟩

end Go.Proofs.YtjhecmmbpmpmgaaDoor

namespace Go.Proofs.YtjhecmmbpmpmgaaDoor
open Go.RowKit Go.Lib Go.Shelf
attribute [local go_sem] Oper.semAt_some

/-- a power in the group -/
def gpow (a n : Int) : Int := ((a.toNat ^ (ex n).toNat % 2147483579 : Nat) : Int)

theorem ex_range (n : Int) : 0 ≤ ex n ∧ ex n < 1073741789 := by unfold ex; omega

set_option maxRecDepth 100000 in
set_option maxHeartbeats 1600000 in
theorem pow_any (a n : Int) (hn : -9223372036854775808 ≤ n ∧ n ≤ 9223372036854775807) (w : World) : Calls Tryd.prog 18 #[.int .i64 a, .int .i64 n] w fun e w' => e = .returned (if valid a then .tuple #[.int .i64 (gpow a n), .int .i64 0] else .tuple #[.int .i64 0, .int .i64 100]) ∧ Below w.heap.size w w' := by
  cases hv : valid a
  · have hc := fun w => Lib.hid (valid_any a w)
    rw [hv] at hc
    have HC := Lib.hid hc
    clear hc hv
    go_enter Tryd.func18, Tryd.ntmps18
    go_wp2_with (go_at_call 19; refine (HC.out _).out.mono ?_; rintro e w' ⟨rfl, rfl⟩)
    have hcell := box_cell (heap_alloc_new w (.cells #[.int .i64 0] 3))
    refine bodyPost_ret (v := .tuple #[.int .i64 0, .int .i64 100]) (by simp [results, Tryd.f18, go_sem]) rfl ⟨rfl, (Below.refl _ _).alloc (Nat.le_refl _) _⟩
  · have hc := fun w => Lib.hid (valid_any a w)
    rw [hv] at hc
    have HC := Lib.hid hc
    have hr := Lib.hid (valid_range hv)
    have hL := Lib.hid (fun w B => least_any w B n hn)
    clear hc hv
    refine (callsIn_wide (n := 5)).1 ?_
    refine callsIn_of_wp_marks Tryd.func18 rfl trivial ?_ rfl
    simp only [Tryd.ntmps18, List.size_toArray, List.length_cons, List.length_nil, Nat.reduceAdd, Nat.reduceSub, Array.replicate_succ, Array.replicate_zero, List.push_toArray, List.append_toArray, List.nil_append, List.cons_append]
    gi_wp2_with (first
      | (refine ⟨trivial, ?_⟩; gi_at_call 19; refine (callsIn_wide.2 (HC.out _).out).mono ?_; rintro e w' ⟨rfl, rfl⟩)
      | (refine ⟨trivial, ?_⟩; gi_at_call 57; refine (callsIn_wide.2 (hL.out _ _ (by simp [go_sem]))).mono ?_; rintro e w' ⟨rfl, rfl⟩)
      | (refine ⟨trivial, ?_⟩; gi_at_call 56; refine (squares_in Fence.wide _ trivial rfl a (ex n) _).mono ?_; rintro e w' ⟨rfl, rfl⟩))
    obtain ⟨A, hA⟩ : ∃ A : Nat, a = (A : Int) := ⟨a.toNat, by have := hr.out; omega⟩
    obtain ⟨E, hE⟩ : ∃ E : Nat, ex n = (E : Int) := ⟨(ex n).toNat, by have := ex_range n; omega⟩
    have hgp : Hid (gpow a n = ((powF (sqF 31 A E) : Nat) : Int)) := Lib.hid (by
      have hr := hr.out
      have he := ex_range n
      rw [powF_sq 31 A (by omega) E (by rw [show (2 : Nat) ^ 31 = 2147483648 from by decide]; omega), gpow, hA, hE]
      rfl)
    have hA2 : A < 2147483579 := by have := hr.out; omega
    have hE2 : E < 1073741789 := by have := ex_range n; omega
    have hE3 : E < 2 ^ 31 := by rw [show (2 : Nat) ^ 31 = 2147483648 from by decide]; omega
    obtain ⟨w0, hw0⟩ : ∃ w0, w0 = (((w.alloc (.cells #[.int .i64 1] 3)).alloc (.cells #[.int .i64 n] 3)).alloc (.cells #[.int .i64 a] 3)).alloc (.cells #[.int .i64 (ex n)] 3) := ⟨_, rfl⟩
    rw [← hw0]
    have hs0 : w0.heap.size = w.heap.size + 4 := by rw [hw0]; simp
    have hb0 : Below w.heap.size w w0 := by
      rw [hw0]; exact ((((Below.refl _ w).alloc (Nat.le_refl _) _).alloc (by simp) _).alloc (by simp; omega) _).alloc (by simp; omega) _
    have hC0 : w0.heap[w.heap.size]? = some (.cells #[.int .i64 1] 3 (0, 0)) := by
      rw [hw0, Below.heap_alloc _ _ _ (by simp; omega), Below.heap_alloc _ _ _ (by simp; omega), Below.heap_alloc _ _ _ (by simp), heap_alloc_new]
    have hA0 : w0.heap[w.heap.size + 2]? = some (.cells #[.int .i64 (A : Int)] 3 (0, 0)) := by
      rw [hw0, Below.heap_alloc _ _ _ (by simp), show w.heap.size + 2 = ((w.alloc (.cells #[.int .i64 1] 3)).alloc (.cells #[.int .i64 n] 3)).heap.size from by simp, heap_alloc_new, hA]
    have hN0 : w0.heap[w.heap.size + 2 + 1]? = some (.cells #[.int .i64 (E : Int)] 3 (0, 0)) := by
      rw [hw0, show w.heap.size + 2 + 1 = (((w.alloc (.cells #[.int .i64 1] 3)).alloc (.cells #[.int .i64 n] 3)).alloc (.cells #[.int .i64 a] 3)).heap.size from by simp, heap_alloc_new, hE]
    have HAe := Lib.hid hA
    have HEe := Lib.hid hE
    clear hw0 hA hE
    refine range_boxes rfl (by omega) (gf := 77) (lb := #[.pointer (some ⟨w.heap.size + 2 + 1, 0, none⟩), .pointer (some ⟨w.heap.size + 2, 0, none⟩)]) rfl trivial (enters_of Tryd.func77 (by kernel_rfl) rfl)
      (B := w.heap.size + 2) (by omega) (squares_gives Fence.wide _ trivial rfl (by omega) (w.heap.size + 2) 31 A hA2 E hE3 hE2 w0 hA0 hN0) (fun _ => rfl)
      (fun pre W => W.heap[w.heap.size]? = some (.cells #[.int .i64 (powF pre : Nat)] 3 (0, 0)) ∧ Below w.heap.size w W)
      (fun s W W' row h hg hr => ⟨(hg.block _ (Array.getElem?_eq_some_iff.1 h.1).1 (fun e => by obtain ⟨h1, _⟩ := hr _ e.symm; omega)).trans h.1, h.2.grown hg h.2.size (fun k e => by obtain ⟨h1, _⟩ := hr _ e; omega)⟩)
      (fun s W o v ho h => ⟨(Below.heap_setCell _ _ _ _ (show w.heap.size ≠ o by omega)).trans h.1, h.2.setCell (p := ⟨o, 0, none⟩) (show w.heap.size ≤ o by omega) _⟩)
      ⟨hC0, hb0⟩
      (fun x => { tmps := #[.int .i64 a, .int .i64 n, undef, undef, .pointer (some ⟨w.heap.size, 0, none⟩), .int .i64 0, .int .i64 (x.v : Int), .bool x.b, .int .i64 a, .bool true, .bool false, .int .i64 a, .int .i64 n, .slice (some ⟨w.heap.size + 1, 0, none⟩) 1 1, .int .i64 (ex n), .func (.func 77) #[] #[.pointer (some ⟨w.heap.size + 2 + 1, 0, none⟩), .pointer (some ⟨w.heap.size + 2, 0, none⟩)], .int .i64 (x.v : Int), .bool x.b, undef, undef, undef, undef, undef, undef], defers := [] }) ?assign ?body ?done
    case assign =>
      intro l x W K hK
      gi_wp2
      exact hK
    case body =>
      rintro l pre x W ⟨hc, hB⟩ _
      have cC := box_cell hc
      have fC : W.frozen? ⟨w.heap.size, 0, none⟩ = false := frozen_at hc
      have hlt := powF_lt pre
      have hx := x.lt
      obtain ⟨c, hcd⟩ : ∃ c, Hid (c = powF pre) := ⟨_, Lib.hid rfl⟩
      rw [← hcd.out] at hc cC hlt
      obtain ⟨sv, hsv⟩ : ∃ v, v = x.v := ⟨_, rfl⟩
      rw [← hsv] at hx ⊢
      cases hb : x.b
      · have hp : Hid (powF (pre ++ [x]) = c) := Lib.hid (by rw [powF_snoc, powStep, hb, hcd.out]; rfl)
        clear hsv
        gi_wp2
        exact ⟨KeepsOthers.refl _, ⟨rfl, rfl⟩, by rw [hp.out]; exact hc, hB⟩
      · obtain ⟨m, hm⟩ : ∃ m, m = c * sv := ⟨_, rfl⟩
        have hbd := mul_bound (show 0 ≤ (c : Int) ∧ (c : Int) < 2147483579 from by omega) (show 0 ≤ (sv : Int) ∧ (sv : Int) < 2147483579 from by omega)
        have hp : Hid (powF (pre ++ [x]) = m % 2147483579) := Lib.hid (by rw [powF_snoc, powStep, hb, hm, hcd.out, hsv]; rfl)
        have hw : IntKind.i64.wrap ((c : Int) * (sv : Int)) = (m : Int) := by rw [IntWalk.i64_in _ (by omega), hm]; simp
        clear hsv hm hbd
        gi_wp2
        refine ⟨KeepsOthers.setCell _ _ _, ⟨Below.heap_setCell _ _ _ _ (show w.heap.size + 2 ≠ w.heap.size by omega), Below.heap_setCell _ _ _ _ (show w.heap.size + 2 + 1 ≠ w.heap.size by omega)⟩, ?_, hB.setCell (p := ⟨w.heap.size, 0, none⟩) (Nat.le_refl _) _⟩
        rw [d_setCell_heap hc, hp.out]
        simp
    case done =>
      rintro D xs W hD rfl ⟨hc, hB⟩ hK
      have cC := box_cell hc
      have fC : W.frozen? ⟨w.heap.size, 0, none⟩ = false := frozen_at hc
      obtain ⟨r, hrd⟩ : ∃ r, Hid (r = powF (sqF 31 A E)) := ⟨_, Lib.hid rfl⟩
      rw [← hrd.out] at cC
      rw [← hrd.out] at hgp
      gi_wp2
      have hK' := (KeepsOthers.setCell W ⟨w.heap.size, 0, none⟩ (.int .i64 (r : Int))).same D _ hK rfl
      refine ⟨by simp, .inl ⟨_, _, rfl, run_takeDeferred hK', ?_⟩⟩
      have hc5 := cell_kept (World.cell?_setCell_same' W ⟨w.heap.size, 0, none⟩ (.int .i64 (r : Int)) (by rw [cC]; rfl)) (grownBy_putObj' _ D (.deferred none)) (fun r e => by cases e; exact ⟨_, hK', rfl⟩)
      refine ⟨.tuple #[.int .i64 (r : Int), .int .i64 0], ?_, by rw [hgp.out], (hB.setCell (p := ⟨w.heap.size, 0, none⟩) (Nat.le_refl _) _).trans (belowK_b (w := w) (Nat.le_refl _) _ D _ _ (by omega) hK' rfl rfl)⟩
      simp [results, Tryd.f18, go_sem, hc5]

end Go.Proofs.YtjhecmmbpmpmgaaDoor
