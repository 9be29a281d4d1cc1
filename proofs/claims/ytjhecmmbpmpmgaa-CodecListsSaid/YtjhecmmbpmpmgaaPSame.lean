/- Plain: equality of values. -/
import Derived.Test.YtjhecmmbpmpmgaaBase
namespace Go.Proofs.Ytjhecmmbpmpmgaa
open Go.RowKit

mutual
def V.same : V → V → Bool
  | .mk k n s l, .mk k' n' s' l' => k == k' && (n == n' && (s.data.toList == s'.data.toList && sameL l l'))
def sameL : List V → List V → Bool
  | [], [] => true
  | x :: l, y :: l' => x.same y && sameL l l'
  | [], _ :: _ => false
  | _ :: _, [] => false
end

theorem ba_ext {s s' : ByteArray} (h : s.data.toList = s'.data.toList) : s = s' := by
  cases s; cases s'; congr; exact Array.ext' h

mutual
theorem V.same_iff : ∀ (x y : V), x.same y = true ↔ x = y
  | .mk k n s l, .mk k' n' s' l' => by
    rw [V.same]
    simp only [Bool.and_eq_true, beq_iff_eq, sameL_iff l l', V.mk.injEq]
    constructor
    · rintro ⟨a, b, c, d⟩; exact ⟨a, b, ba_ext c, d⟩
    · rintro ⟨a, b, c, d⟩; exact ⟨a, b, by rw [c], d⟩
theorem sameL_iff : ∀ (l l' : List V), sameL l l' = true ↔ l = l'
  | [], [] => by simp [sameL]
  | x :: l, y :: l' => by rw [sameL, Bool.and_eq_true, V.same_iff x y, sameL_iff l l', List.cons.injEq]
  | [], _ :: _ => by simp [sameL]
  | _ :: _, [] => by simp [sameL]
end

theorem sameL_len : ∀ (l l' : List V), l.length ≠ l'.length → sameL l l' = false := by
  intro l l' h
  cases hb : sameL l l' with
  | false => rfl
  | true => rw [sameL_iff] at hb; rw [hb] at h; exact absurd rfl h

theorem sameL_step (l l' : List V) (k : Nat) (h : k < l.length) (h' : k < l'.length) : sameL (l.drop k) (l'.drop k) = (l[k].same l'[k] && sameL (l.drop (k + 1)) (l'.drop (k + 1))) := by
  rw [List.drop_eq_getElem_cons h, List.drop_eq_getElem_cons h', sameL]

end Go.Proofs.Ytjhecmmbpmpmgaa
