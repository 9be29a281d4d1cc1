/- Plain: the size of what the statements speak of. -/
import Derived.Test.YtjhecmmbpmpmgaaPEnc
namespace Go.Proofs.Ytjhecmmbpmpmgaa
open Go.RowKit

def cntL (f : V → Nat) : Nat → List V → Nat
  | n, [] => n
  | n, x :: l => if n ≤ 1000 then cntL f (n + f x) l else n

/-- count at depth d - 1 -/
def cnt : Nat → V → Nat
  | 0, _ => 1000
  | d + 1, .mk _ _ s l => if 150 < l.length then 1000 else cntL (cnt d) (1 + s.size / 200) l

theorem cntL_le (f : V → Nat) : ∀ (l : List V) (n : Nat), n ≤ cntL f n l
  | [], n => by simp [cntL]
  | x :: l, n => by
    rw [cntL]
    split
    · have := cntL_le f l (n + f x); omega
    · omega

theorem cntL_bound (f : V → Nat) (B : Nat) (h1 : 1000 ≤ B) : ∀ (l : List V) (n : Nat), n ≤ B → (∀ x ∈ l, f x + 1000 ≤ B) → cntL f n l ≤ B
  | [], n, hn, _ => by simpa [cntL] using hn
  | x :: l, n, hn, hf => by
    rw [cntL]
    split
    · exact cntL_bound f B h1 l _ (by have := hf x (by simp); omega) (fun y hy => hf y (by simp [hy]))
    · exact hn

theorem cntL_small (f : V → Nat) : ∀ (l : List V) (n : Nat), cntL f n l ≤ 1000 → cntL f n l = n + (l.map f).sum
  | [], n, _ => by simp [cntL]
  | x :: l, n, h => by
    rw [cntL] at h ⊢
    split at h
    · rename_i hn
      rw [if_pos hn, cntL_small f l _ h]
      simp; omega
    · omega

theorem cntL_step (f : V → Nat) (m i : Nat) (l : List V) (h : i < l.length) : cntL f m (l.drop i) = if m ≤ 1000 then cntL f (m + f l[i]) (l.drop (i + 1)) else m := by
  rw [List.drop_eq_getElem_cons h, cntL]

mutual
theorem cnt_sz : ∀ (x : V) (d : Nat), cnt d x ≤ 999 → x.sz ≤ cnt d x ∧ x.enc.length ≤ 210 * cnt d x
  | .mk k n s l, 0, h => by simp [cnt] at h
  | .mk k n s l, d + 1, h => by
    rw [cnt] at h ⊢
    split at h
    · omega
    · rename_i hl
      rw [if_neg hl, cntL_small _ _ _ (by omega)]
      rw [cntL_small _ _ _ (by omega)] at h
      obtain ⟨h1, h2⟩ := cnt_szL l d (by omega)
      rw [V.sz, V.enc]
      refine ⟨by omega, ?_⟩
      have hn1 := num_len (unsg n).toNat
      have hn2 := num_len s.size
      have hn3 := num_len l.length
      have hs : s.data.toList.length = s.size := rfl
      split
      · simp; omega
      · split
        · simp only [List.length_cons, List.length_append, hs]; omega
        · simp only [List.length_cons, List.length_append]; omega
theorem cnt_szL : ∀ (l : List V) (d : Nat), (l.map (cnt d)).sum ≤ 999 → szL l ≤ (l.map (cnt d)).sum ∧ (encL l).length ≤ 210 * (l.map (cnt d)).sum
  | [], d, _ => by simp [szL, encL]
  | x :: l, d, h => by
    simp only [List.map_cons, List.sum_cons] at h ⊢
    obtain ⟨h1, h2⟩ := cnt_sz x d (by omega)
    obtain ⟨h3, h4⟩ := cnt_szL l d (by omega)
    rw [szL, encL, List.length_append]
    omega
end

end Go.Proofs.Ytjhecmmbpmpmgaa
