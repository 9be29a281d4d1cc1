/- Plain: Formed and Depth of the reference. -/
import Derived.Test.YtjhecmmbpmpmgaaPEnc
namespace Go.Proofs.Ytjhecmmbpmpmgaa
open Go.RowKit

def okL (l : List V) : Bool := l.all fun x => x.fm.isSome

theorem fmFrom_isSome : ∀ (l : List V) (a : Nat), (fmFrom a l).isSome = okL l
  | [], a => by simp [fmFrom, okL]
  | x :: l, a => by
    rw [fmFrom]
    cases hx : x.fm with
    | none => simp [okL, hx]
    | some e => simp only; rw [fmFrom_isSome l]; simp [okL, hx]

theorem okL_step (l : List V) (k : Nat) (hk : k < l.length) : okL (l.drop k) = (l[k].fm.isSome && okL (l.drop (k + 1))) := by
  unfold okL; rw [List.drop_eq_getElem_cons hk, List.all_cons]

theorem fm3 (n : Int) (s : ByteArray) (l : List V) : (V.mk 3 n s l).fm.isSome = (okL l && (decide (n = 0) && decide (s.size = 0))) := by
  rw [V.fm, if_neg (by decide), if_neg (by decide), if_pos rfl]
  split
  · rename_i h; simp [h.1, h.2, fmFrom_isSome]
  · rename_i h
    cases h1 : decide (n = 0) <;> cases h2 : decide (s.size = 0) <;> simp_all

mutual
def V.dep : V → Nat
  | .mk k _ _ l => if k = 3 then depFrom 0 l + 1 else 0
def depFrom (a : Nat) : List V → Nat
  | [] => a
  | x :: l => depFrom (max a x.dep) l
end

mutual
theorem dep_fm : ∀ (x : V) (d : Nat), x.fm = some d → x.dep = d
  | .mk k n s l, d, h => by
    rw [V.fm] at h
    rw [V.dep]
    split at h
    · rename_i hk; rw [if_neg (by omega)]; split at h <;> simp at h; exact h
    · split at h
      · rename_i hk; rw [if_neg (by omega)]; split at h <;> simp at h; exact h
      · split at h
        · rename_i hk; rw [if_pos hk]
          split at h
          · cases hf : fmFrom 0 l with
            | none => simp [hf] at h
            | some e => rw [hf] at h; simp at h; rw [depFrom_fm l 0 e hf]; exact h
          · simp at h
        · simp at h
theorem depFrom_fm : ∀ (l : List V) (a d : Nat), fmFrom a l = some d → depFrom a l = d
  | [], a, d, h => by simpa [fmFrom, depFrom] using h
  | x :: l, a, d, h => by
    rw [fmFrom] at h
    rw [depFrom]
    cases hx : x.fm with
    | none => simp [hx] at h
    | some e => simp only [hx] at h; rw [dep_fm x e hx]; exact depFrom_fm l _ d h
end

mutual
theorem dep_le : ∀ (x : V), x.dep ≤ x.sz
  | .mk k n s l => by
    rw [V.dep, V.sz]
    split
    · have := depFrom_le l 0; omega
    · omega
theorem depFrom_le : ∀ (l : List V) (a : Nat), depFrom a l ≤ a + szL l
  | [], a => by simp [depFrom]
  | x :: l, a => by
    rw [depFrom, szL]
    have h1 := dep_le x
    have h2 := depFrom_le l (max a x.dep)
    omega
end

theorem depFrom_step (a k : Nat) (l : List V) (hk : k < l.length) : depFrom a (l.drop k) = depFrom (max a l[k].dep) (l.drop (k + 1)) := by
  rw [List.drop_eq_getElem_cons hk, depFrom]

end Go.Proofs.Ytjhecmmbpmpmgaa
