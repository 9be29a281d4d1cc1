/- Plain: the hash in the order in which a program takes it: whole blocks first, then one or two more. -/
import Derived.Test.YtjhecmmbpmpmgaaDoorPSha2
namespace Go.Proofs.YtjhecmmbpmpmgaaDoor

theorem absorbs_succ' : ∀ (k : Nat) (s : St) (l : List UInt8), absorbs (k + 1) s l = compress (absorbs k s l) ((l.drop (64 * k)).take 64)
  | 0, s, l => by simp [absorbs]
  | k + 1, s, l => by
    rw [absorbs, absorbs_succ' k, absorbs, List.drop_drop]
    rw [show 64 + 64 * k = 64 * (k + 1) from by omega]

theorem absorbs_add (m : Nat) : ∀ (n : Nat) (s : St) (l : List UInt8), absorbs (n + m) s l = absorbs m (absorbs n s l) (l.drop (64 * n))
  | 0, s, l => by simp [absorbs]
  | n + 1, s, l => by
    rw [show n + 1 + m = (n + m) + 1 from by omega, absorbs, absorbs_add m n, absorbs, List.drop_drop]
    rw [show 64 + 64 * n = 64 * (n + 1) from by omega]

theorem absorbs_append : ∀ (n : Nat) (s : St) (l l' : List UInt8), 64 * n ≤ l.length → absorbs n s (l ++ l') = absorbs n s l
  | 0, _, _, _, _ => rfl
  | n + 1, s, l, l', h => by
    rw [absorbs, absorbs, List.take_append_of_le_length (by omega), List.drop_append_of_le_length (by omega), absorbs_append n _ _ _ (by rw [List.length_drop]; omega)]

/-- the blocks that stand behind the whole ones: their number -/
def lastN (n : Nat) : Nat := if n % 64 ≤ 55 then 1 else 2
/-- .. and their bytes -/
def lastB (l : List UInt8) : List UInt8 := l.drop (64 * (l.length / 64)) ++ 128 :: (List.replicate (64 * lastN l.length - 9 - l.length % 64) 0 ++ lenBytes (l.length * 8))

theorem lenBytes_length (n : Nat) : (lenBytes n).length = 8 := rfl

theorem lastB_length (l : List UInt8) : (lastB l).length = 64 * lastN l.length := by
  have h1 : (l.drop (64 * (l.length / 64))).length = l.length % 64 := by rw [List.length_drop]; omega
  rw [lastB, List.length_append, h1, List.length_cons, List.length_append, List.length_replicate, lenBytes_length]
  unfold lastN
  split <;> omega

theorem padZ_eq (n : Nat) : padZ n = 64 * lastN n - 9 - n % 64 := by
  unfold padZ lastN
  split <;> omega

theorem padded_split (l : List UInt8) : padded l = l.take (64 * (l.length / 64)) ++ lastB l := by
  unfold padded lastB
  rw [← List.append_assoc, List.take_append_drop, padZ_eq]

theorem sha_split (l : List UInt8) : sha l = (absorbs (lastN l.length) (absorbs (l.length / 64) st0 l) (lastB l)).out := by
  have h0 : (l.take (64 * (l.length / 64))).length = 64 * (l.length / 64) := by rw [List.length_take]; omega
  have h1 : (padded l).length = 64 * (l.length / 64 + lastN l.length) := by
    rw [padded_split, List.length_append, h0, lastB_length]; omega
  have e1 : absorbs (l.length / 64) st0 (l.take (64 * (l.length / 64))) = absorbs (l.length / 64) st0 l := by
    have := absorbs_append (l.length / 64) st0 (l.take (64 * (l.length / 64))) (l.drop (64 * (l.length / 64))) (by omega)
    rw [List.take_append_drop] at this
    exact this.symm
  unfold sha
  rw [h1, Nat.mul_div_cancel_left _ (by decide : 0 < 64), absorbs_add, padded_split, absorbs_append _ _ _ _ (by omega), e1, List.drop_left' h0]

theorem out_length (s : St) : s.out.length = 32 := rfl
theorem sha_length (l : List UInt8) : (sha l).length = 32 := rfl

/-- the last row, as a program lays it: zeros, the rest, the mark, the length -/
theorem last_row (l : List UInt8) (rest : List UInt8) (hr : rest = l.drop (64 * (l.length / 64))) (r m : Nat) (hrl : r = l.length % 64) (hm : m = lastN l.length) :
    (((rest ++ List.replicate (128 - r) 0).set r 128).take (64 * m - 8)) ++ (lenBytes (l.length * 8) ++ ((rest ++ List.replicate (128 - r) 0).set r 128).drop (64 * m)) = lastB l ++ List.replicate (128 - 64 * m) 0 := by
  have hlen : rest.length = r := by rw [hr, List.length_drop]; omega
  have hm1 : r + 9 ≤ 64 * m ∧ m ≤ 2 := by rw [hm]; unfold lastN; split <;> omega
  have e1 : 128 - r = (127 - r) + 1 := by omega
  have e2 : (rest ++ List.replicate (128 - r) 0).set r 128 = rest ++ 128 :: List.replicate (127 - r) 0 := by
    rw [List.set_append_right _ _ (by omega), hlen, Nat.sub_self, e1, List.replicate_succ, List.set_cons_zero]
  have e3 : 64 * m - 8 - r = (64 * m - 9 - r) + 1 := by omega
  have e4 : 64 * m - r = (64 * m - 1 - r) + 1 := by omega
  rw [e2, List.take_append, hlen, List.take_of_length_le (by omega : rest.length ≤ 64 * m - 8), e3, List.take_succ_cons, List.take_replicate,
    List.drop_append, hlen, List.drop_of_length_le (by omega : rest.length ≤ 64 * m), e4, List.drop_succ_cons, List.drop_replicate, List.nil_append]
  unfold lastB
  rw [← hr, ← hm, ← hrl, show min (64 * m - 9 - r) (127 - r) = 64 * m - 9 - r from by omega, show 127 - r - (64 * m - 1 - r) = 128 - 64 * m from by omega]
  simp

end Go.Proofs.YtjhecmmbpmpmgaaDoor
