/- Plain: laws of the schedule and of the rounds. -/
import Derived.Test.YtjhecmmbpmpmgaaDoorPSha
namespace Go.Proofs.YtjhecmmbpmpmgaaDoor

def nextF (x16 x15 x7 x2 : Nat) : Nat := (((x16 + sg0 x15) % 4294967296 + x7) % 4294967296 + sg1 x2) % 4294967296

theorem sched_length (n : Nat) : ∀ l, (sched n l).length = l.length + n := by
  induction n with
  | zero => intro l; rfl
  | succ n ih => intro l; rw [sched, ih]; simp; omega

theorem sched_succ (n : Nat) : ∀ l, sched (n + 1) l = sched n l ++ [nextW (sched n l)] := by
  induction n with
  | zero => intro l; rfl
  | succ n ih => intro l; rw [sched, ih (l ++ [nextW l]), sched]

theorem nextW_lt (l : List Nat) : nextW l < 4294967296 := Nat.mod_lt _ (by decide)

theorem sched_lt (n : Nat) : ∀ l : List Nat, (∀ x ∈ l, x < 4294967296) → ∀ x ∈ sched n l, x < 4294967296 := by
  induction n with
  | zero => intro l h; exact h
  | succ n ih =>
    intro l h
    refine ih _ fun x hx => ?_
    rcases List.mem_append.1 hx with hx | hx
    · exact h x hx
    · rw [List.mem_singleton] at hx; rw [hx]; exact nextW_lt l

theorem nextW_eq {l : List Nat} (h : 16 ≤ l.length) : nextW l = nextF (l[l.length - 16]'(by omega)) (l[l.length - 15]'(by omega)) (l[l.length - 7]'(by omega)) (l[l.length - 2]'(by omega)) := by
  have g : ∀ (j : Nat) (hj : j < l.length), l.getD j 0 = l[j] := fun j hj => by simp [List.getD, hj]
  unfold nextW nextF
  rw [g (l.length - 16) (by omega), g (l.length - 15) (by omega), g (l.length - 7) (by omega), g (l.length - 2) (by omega)]

theorem be32_lt (a b c d : UInt8) : be32 a b c d < 4294967296 := by
  have := a.toNat_lt; have := b.toNat_lt; have := c.toNat_lt; have := d.toNat_lt
  unfold be32; omega

theorem wordsOf_length : ∀ (n : Nat) (l : List UInt8), l.length = 4 * n → (wordsOf l).length = n
  | 0, l, h => by
    have : l = [] := List.eq_nil_of_length_eq_zero (by omega)
    rw [this]; rfl
  | n + 1, a :: b :: c :: d :: l, h => by rw [wordsOf, List.length_cons, wordsOf_length n l (by simp at h; omega)]
  | n + 1, [], h => by simp at h
  | n + 1, [a], h => by simp at h; omega
  | n + 1, [a, b], h => by simp at h; omega
  | n + 1, [a, b, c], h => by simp at h; omega

theorem wordsOf_lt : ∀ (l : List UInt8), ∀ x ∈ wordsOf l, x < 4294967296
  | [], x, h => by simp [wordsOf] at h
  | [a], x, h => by simp [wordsOf] at h
  | [a, b], x, h => by simp [wordsOf] at h
  | [a, b, c], x, h => by simp [wordsOf] at h
  | a :: b :: c :: d :: l, x, h => by
    rw [wordsOf] at h
    rcases List.mem_cons.1 h with h | h
    · rw [h]; exact be32_lt a b c d
    · exact wordsOf_lt l x h

theorem wordsOf_get : ∀ (n : Nat) (l : List UInt8) (k : Nat) (hl : l.length = 4 * n) (hk : k < n),
    (wordsOf l)[k]'(by rw [wordsOf_length n l hl]; exact hk) = be32 (l[4 * k]'(by omega)) (l[4 * k + 1]'(by omega)) (l[4 * k + 2]'(by omega)) (l[4 * k + 3]'(by omega))
  | n + 1, a :: b :: c :: d :: l, 0, h, hk => by simp [wordsOf]
  | n + 1, a :: b :: c :: d :: l, k + 1, h, hk => by
    have := wordsOf_get n l k (by simp at h; omega) (by omega)
    simp only [wordsOf, List.getElem_cons_succ]
    rw [this]
    have e0 : 4 * (k + 1) = 4 * k + 1 + 1 + 1 + 1 := by omega
    simp only [e0, List.getElem_cons_succ]
  | n + 1, [], _, h, _ => by simp at h
  | n + 1, [a], _, h, _ => by simp at h; omega
  | n + 1, [a, b], _, h, _ => by simp at h; omega
  | n + 1, [a, b, c], _, h, _ => by simp at h; omega

theorem rounds_succ : ∀ (t : Nat) (s : St) (ks ws : List Nat) (h1 : t < ks.length) (h2 : t < ws.length),
    rounds s (ks.take (t + 1)) (ws.take (t + 1)) = rnd (rounds s (ks.take t) (ws.take t)) ks[t] ws[t]
  | 0, s, k :: ks, w :: ws, _, _ => by simp [rounds]
  | t + 1, s, k :: ks, w :: ws, h1, h2 => by
    rw [List.take_succ_cons, List.take_succ_cons, rounds, rounds_succ t _ ks ws (by simpa using h1) (by simpa using h2), List.take_succ_cons, List.take_succ_cons, rounds]
    simp
  | t, s, [], ws, h1, _ => by simp at h1
  | t, s, k :: ks, [], _, h2 => by simp at h2

/-- all eight below 2^32 -/
structure St.ok (s : St) : Prop where
  a : s.a < 4294967296
  b : s.b < 4294967296
  c : s.c < 4294967296
  d : s.d < 4294967296
  e : s.e < 4294967296
  f : s.f < 4294967296
  g : s.g < 4294967296
  h : s.h < 4294967296

theorem rnd_ok {s : St} (h : s.ok) (k w : Nat) : (rnd s k w).ok :=
  ⟨Nat.mod_lt _ (by decide), h.a, h.b, h.c, Nat.mod_lt _ (by decide), h.e, h.f, h.g⟩
theorem rounds_ok : ∀ (ks ws : List Nat) {s : St}, s.ok → (rounds s ks ws).ok
  | [], _, s, h => by rw [rounds.eq_def]; exact h
  | k :: ks, [], s, h => by rw [rounds.eq_def]; exact h
  | k :: ks, w :: ws, s, h => rounds_ok ks ws (rnd_ok h k w)
theorem add_ok (s t : St) : (s.add t).ok :=
  ⟨Nat.mod_lt _ (by decide), Nat.mod_lt _ (by decide), Nat.mod_lt _ (by decide), Nat.mod_lt _ (by decide), Nat.mod_lt _ (by decide), Nat.mod_lt _ (by decide), Nat.mod_lt _ (by decide), Nat.mod_lt _ (by decide)⟩
theorem compress_ok (s : St) (b : List UInt8) : (compress s b).ok := add_ok _ _
theorem st0_ok : st0.ok := ⟨by decide, by decide, by decide, by decide, by decide, by decide, by decide, by decide⟩
theorem absorbs_ok : ∀ (n : Nat) (s : St) (l : List UInt8), s.ok → (absorbs n s l).ok
  | 0, _, _, h => h
  | n + 1, s, _, _ => absorbs_ok n _ _ (compress_ok s _)
theorem toL_lt {s : St} (h : s.ok) : ∀ x ∈ s.toL, x < 4294967296 := by
  intro x hx
  simp only [St.toL, List.mem_cons, List.not_mem_nil, or_false] at hx
  have := h.a; have := h.b; have := h.c; have := h.d; have := h.e; have := h.f; have := h.g; have := h.h
  rcases hx with h1 | h1 | h1 | h1 | h1 | h1 | h1 | h1 <;> rw [h1] <;> assumption

theorem add_get (s t : St) (k : Nat) (h : k < 8) : (s.add t).toL[k]'(by simpa [St.toL] using h) = (s.toL[k]'(by simpa [St.toL] using h) + t.toL[k]'(by simpa [St.toL] using h)) % 4294967296 := by
  match k, h with
  | 0, _ => rfl | 1, _ => rfl | 2, _ => rfl | 3, _ => rfl | 4, _ => rfl | 5, _ => rfl | 6, _ => rfl | 7, _ => rfl

theorem kTab_lt : ∀ x ∈ kTab, x < 4294967296 := by decide
theorem kTab_length : kTab.length = 64 := by kernel_rfl

end Go.Proofs.YtjhecmmbpmpmgaaDoor
