/- Plain: the encoding of a value. -/
import Derived.Test.YtjhecmmbpmpmgaaDoorBase
import Derived.Test.YtjhecmmbpmpmgaaDoorPNum
namespace Go.Proofs.YtjhecmmbpmpmgaaDoor
open Go.RowKit

mutual
def V.enc : V → List UInt8
  | .mk k n s l => if k = 1 then 1 :: num (unsg n).toNat else if k = 2 then 2 :: (num s.size ++ s.data.toList) else 3 :: (num l.length ++ encL l)
def encL : List V → List UInt8
  | [] => []
  | x :: l => x.enc ++ encL l
end

theorem encL_append (a b : List V) : encL (a ++ b) = encL a ++ encL b := by
  induction a with
  | nil => rfl
  | cons x a ih => simp only [List.cons_append, encL, ih, List.append_assoc]

theorem encL_take_succ (l : List V) (k : Nat) (hk : k < l.length) : encL (l.take (k + 1)) = encL (l.take k) ++ l[k].enc := by
  rw [List.take_succ_eq_append_getElem hk, encL_append]
  simp [encL]

theorem encL_take_le (l : List V) (k : Nat) : (encL (l.take k)).length ≤ (encL l).length := by
  conv => rhs; rw [← List.take_append_drop k l, encL_append]
  simp

theorem enc_mem_le (l : List V) (k : Nat) (hk : k < l.length) : (encL (l.take k)).length + l[k].enc.length ≤ (encL l).length := by
  have := encL_take_le l (k + 1)
  rw [encL_take_succ l k hk] at this
  simpa using this

theorem fmFrom_mem : ∀ (l : List V) (a k : Nat) (hk : k < l.length), fmFrom a l ≠ none → l[k].fm ≠ none
  | x :: l, a, 0, _, h => by
    intro e
    rw [fmFrom] at h
    simp only [List.getElem_cons_zero] at e
    simp [e] at h
  | x :: l, a, k + 1, hk, h => by
    rw [fmFrom] at h
    cases hx : x.fm with
    | none => simp [hx] at h
    | some e => simp only [hx] at h; exact fmFrom_mem l _ k (by simpa using hk) h

theorem fm_kind {k n : Int} {s : ByteArray} {l : List V} (h : (V.mk k n s l).fm ≠ none) :
    (k = 1 ∧ s.size = 0 ∧ l = []) ∨ (k = 2 ∧ n = 0 ∧ l = []) ∨ (k = 3 ∧ n = 0 ∧ s.size = 0 ∧ fmFrom 0 l ≠ none) := by
  rw [V.fm] at h
  by_cases h1 : k = 1
  · rw [if_pos h1] at h
    split at h
    · rename_i h2; exact .inl ⟨h1, h2.1, List.length_eq_zero_iff.1 h2.2⟩
    · exact absurd rfl h
  · rw [if_neg h1] at h
    by_cases h2 : k = 2
    · rw [if_pos h2] at h
      split at h
      · rename_i h3; exact .inr (.inl ⟨h2, h3.1, List.length_eq_zero_iff.1 h3.2⟩)
      · exact absurd rfl h
    · rw [if_neg h2] at h
      by_cases h3 : k = 3
      · rw [if_pos h3] at h
        split at h
        · rename_i h4; exact .inr (.inr ⟨h3, h4.1, h4.2, fun e => by simp [e] at h⟩)
        · exact absurd rfl h
      · rw [if_neg h3] at h; exact absurd rfl h

end Go.Proofs.YtjhecmmbpmpmgaaDoor
