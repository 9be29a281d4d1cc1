/- Plain: lists of values that can be encoded, and lists of zeros. -/
import Derived.Test.YtjhecmmbpmpmgaaPRound
import Derived.Test.YtjhecmmbpmpmgaaPCount
namespace Go.Proofs.Ytjhecmmbpmpmgaa
open Go.RowKit

theorem fm_list (l : List V) : (V.mk 3 0 ByteArray.empty l).fm = (fmFrom 0 l).map (· + 1) := by
  rw [V.fm, if_neg (by decide), if_neg (by decide), if_pos rfl, if_pos ⟨rfl, rfl⟩]

theorem fmFrom_at : ∀ (l : List V) (a e i : Nat) (hi : i < l.length), fmFrom a l = some e → ∃ d, l[i].fm = some d ∧ d ≤ e
  | x :: l, a, e, i, hi, h => by
    rw [fmFrom] at h
    cases hx : x.fm with
    | none => simp [hx] at h
    | some d =>
      simp only [hx] at h
      cases i with
      | zero => exact ⟨d, hx, by have := fmFrom_ge l _ _ h; omega⟩
      | succ i => exact fmFrom_at l _ e i (by simpa using hi) h

theorem list_ck_bad {l : List V} {i : Nat} (hi : i < l.length) (h : ckOf l[i].fm ≠ 0) : ckOf (V.mk 3 0 ByteArray.empty l).fm ≠ 0 := by
  intro e
  obtain ⟨d, h1, h2⟩ := ckOf_zero.1 e
  rw [fm_list] at h1
  cases hf : fmFrom 0 l with
  | none => simp [hf] at h1
  | some m =>
    simp [hf] at h1
    obtain ⟨d', h3, h4⟩ := fmFrom_at l 0 m i hi hf
    exact h (ckOf_zero.2 ⟨d', h3, by omega⟩)

theorem list_ck_ok {l : List V} (h : ∀ i (hi : i < l.length), ckOf l[i].fm = 0) : ckOf (V.mk 3 0 ByteArray.empty l).fm = 0 ∨ ckOf (V.mk 3 0 ByteArray.empty l).fm = 2 := by
  obtain ⟨e, h1, h2⟩ := fmFrom_all 16 l 0 (fun x hx => by
    obtain ⟨i, hi, rfl⟩ := List.mem_iff_getElem.1 hx
    exact ckOf_zero.1 (h i hi)) (by omega)
  rw [fm_list, h1]
  simp only [Option.map_some, ckOf]
  split
  · exact .inr rfl
  · exact .inl rfl

theorem list_enc (l : List V) : (V.mk 3 0 ByteArray.empty l).enc = 3 :: (num l.length ++ encL l) := by rw [V.enc, if_neg (by decide), if_neg (by decide)]

def x0 : V := .mk 1 0 ByteArray.empty []

theorem zeros_fm : ∀ k : Nat, fmFrom 0 (List.replicate k x0) = some 0
  | 0 => rfl
  | k + 1 => by
    rw [List.replicate_succ, fmFrom]
    have : x0.fm = some 0 := rfl
    rw [this]
    exact zeros_fm k

theorem zeros_ck (k : Nat) : ckOf (V.mk 3 0 ByteArray.empty (List.replicate k x0)).fm = 0 := by rw [fm_list, zeros_fm]; rfl

theorem zeros_encL : ∀ k : Nat, (encL (List.replicate k x0)).length = 2 * k
  | 0 => rfl
  | k + 1 => by
    rw [List.replicate_succ, encL, List.length_append, zeros_encL k]
    have : x0.enc.length = 2 := rfl
    omega

theorem zeros_sz : ∀ k : Nat, szL (List.replicate k x0) = k
  | 0 => rfl
  | k + 1 => by
    rw [List.replicate_succ, szL, zeros_sz k]
    have : x0.sz = 1 := rfl
    omega

theorem encL_le (c : Nat) : ∀ (l : List V), (∀ x ∈ l, x.enc.length ≤ c) → (encL l).length ≤ c * l.length
  | [], _ => by simp [encL]
  | x :: l, h => by
    have h1 := h x (by simp)
    have h2 := encL_le c l (fun y hy => h y (by simp [hy]))
    rw [encL, List.length_append, List.length_cons, Nat.mul_add]; omega

theorem szL_le (c : Nat) : ∀ (l : List V), (∀ x ∈ l, x.sz ≤ c) → szL l ≤ c * l.length
  | [], _ => by simp [szL]
  | x :: l, h => by
    have h1 := h x (by simp)
    have h2 := szL_le c l (fun y hy => h y (by simp [hy]))
    rw [szL, List.length_cons, Nat.mul_add]; omega

theorem V.sz_eq (k n : Int) (s : ByteArray) (l : List V) : (V.mk k n s l).sz = 1 + szL l := by rw [V.sz]

end Go.Proofs.Ytjhecmmbpmpmgaa
