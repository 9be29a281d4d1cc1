/- Plain: what the reader computes. -/
import Derived.Test.YtjhecmmbpmpmgaaDoorPEnc
namespace Go.Proofs.YtjhecmmbpmpmgaaDoor
open Go.RowKit

/-- a numeral, from digit i on -/
def rn (i u : Nat) : List UInt8 → Option (Nat × List UInt8)
  | [] => none
  | c :: r => if (i = 0 ∨ c.toNat ≠ 0) ∧ (i < 9 ∨ c.toNat ≤ 1) then (if c.toNat < 128 then some (u + c.toNat % 128 * 128 ^ i, r) else rn (i + 1) (u + c.toNat % 128 * 128 ^ i) r) else none

/-- a length: no more than what follows -/
def rlen (l : List UInt8) : Option (Nat × List UInt8) := match rn 0 0 l with | none => none | some (n, r) => if n ≤ r.length then some (n, r) else none

/-- n values, one after the other -/
def decS (f : List UInt8 → Option (V × List UInt8)) : Nat → List UInt8 → Option (List V × List UInt8)
  | 0, l => some ([], l)
  | n + 1, l => match f l with | none => none | some (x, r) => match decS f n r with | none => none | some (xs, r') => some (x :: xs, r')

def strOf (l : List UInt8) : ByteArray := ⟨l.toArray⟩

/-- the value that is next; lists may still be nested so deep -/
def dec : Nat → List UInt8 → Option (V × List UInt8)
  | _, [] => none
  | 0, c :: r =>
    if c.toNat = 1 then (rn 0 0 r).map fun x => (.mk 1 (sgn x.1) ByteArray.empty [], x.2)
    else if c.toNat = 2 then (rlen r).map fun x => (.mk 2 0 (strOf (x.2.take x.1)) [], x.2.drop x.1)
    else none
  | d + 1, c :: r =>
    if c.toNat = 1 then (rn 0 0 r).map fun x => (.mk 1 (sgn x.1) ByteArray.empty [], x.2)
    else if c.toNat = 2 then (rlen r).map fun x => (.mk 2 0 (strOf (x.2.take x.1)) [], x.2.drop x.1)
    else if c.toNat = 3 then (rlen r).bind fun x => (decS (dec d) x.1 x.2).map fun y => (.mk 3 0 ByteArray.empty y.1, y.2)
    else none

theorem dec_1 (d : Nat) (c : UInt8) (r : List UInt8) (h : c.toNat = 1) : dec d (c :: r) = (rn 0 0 r).map fun x => (.mk 1 (sgn x.1) ByteArray.empty [], x.2) := by
  cases d <;> simp only [dec] <;> rw [if_pos h]
theorem dec_2 (d : Nat) (c : UInt8) (r : List UInt8) (h : c.toNat = 2) : dec d (c :: r) = (rlen r).map fun x => (.mk 2 0 (strOf (x.2.take x.1)) [], x.2.drop x.1) := by
  cases d <;> simp only [dec] <;> rw [if_neg (by omega), if_pos h]
theorem dec_30 (c : UInt8) (r : List UInt8) (h : c.toNat = 3) : dec 0 (c :: r) = none := by
  simp only [dec]; rw [if_neg (by omega), if_neg (by omega)]
theorem dec_3 (d : Nat) (c : UInt8) (r : List UInt8) (h : c.toNat = 3) : dec (d + 1) (c :: r) = (rlen r).bind fun x => (decS (dec d) x.1 x.2).map fun y => (.mk 3 0 ByteArray.empty y.1, y.2) := by
  simp only [dec]; rw [if_neg (by omega), if_neg (by omega), if_pos h]
theorem dec_x (d : Nat) (c : UInt8) (r : List UInt8) (h : ¬ (1 ≤ c.toNat ∧ c.toNat ≤ 3)) : dec d (c :: r) = none := by
  cases d <;> simp only [dec]
  · rw [if_neg (by omega), if_neg (by omega)]
  · rw [if_neg (by omega), if_neg (by omega), if_neg (by omega)]

theorem pow128 (k : Nat) : (128 : Nat) ^ k = 2 ^ (7 * k) := by rw [Nat.pow_mul]

set_option maxRecDepth 10000 in
theorem and127 (c : Nat) (h : c < 256) : bits .and .u8 (c : Int) 127 = ((c % 128 : Nat) : Int) := by
  rw [u8_and (c : Int) 127 (by omega) (by omega) (by omega) (by omega), show ((127 : Int).toNat) = 127 from rfl, Int.toNat_natCast]
  have h1 : ∀ c : Fin 256, c.val &&& 127 = c.val % 128 := by decide
  have h2 := h1 ⟨c, h⟩
  simp only at h2
  rw [h2]

theorem digit_small (k c : Nat) (hk : k ≤ 9) (hc : k < 9 ∨ c ≤ 1) : c % 128 * 128 ^ k < 18446744073709551616 := by
  have h1 : c % 128 ≤ 127 := by omega
  rcases hc with h | h
  · have : (128 : Nat) ^ k ≤ 128 ^ 8 := Nat.pow_le_pow_right (by omega) (by omega)
    rw [show (128 : Nat) ^ 8 = 72057594037927936 from by decide] at this
    calc c % 128 * 128 ^ k ≤ 127 * 72057594037927936 := Nat.mul_le_mul h1 this
      _ < _ := by decide
  · have : (128 : Nat) ^ k ≤ 128 ^ 9 := Nat.pow_le_pow_right (by omega) (by omega)
    rw [show (128 : Nat) ^ 9 = 9223372036854775808 from by decide] at this
    calc c % 128 * 128 ^ k ≤ 1 * 9223372036854775808 := Nat.mul_le_mul (by omega) this
      _ < _ := by decide

theorem digit_next (k c m : Nat) (hm : m < 128 ^ k) : m + c % 128 * 128 ^ k < 128 ^ (k + 1) := by
  rw [Nat.pow_succ]
  have h1 : c % 128 ≤ 127 := by omega
  have : c % 128 * 128 ^ k ≤ 127 * 128 ^ k := Nat.mul_le_mul_right _ h1
  omega

theorem digit_all (k c m : Nat) (hk : k ≤ 9) (hc : k < 9 ∨ c ≤ 1) (hm : m < 128 ^ k) : m + c % 128 * 128 ^ k < 18446744073709551616 := by
  rcases hc with h | h
  · have := digit_next k c m hm
    have h2 : (128 : Nat) ^ (k + 1) ≤ 128 ^ 9 := Nat.pow_le_pow_right (by omega) (by omega)
    rw [show (128 : Nat) ^ 9 = 9223372036854775808 from by decide] at h2
    omega
  · have h2 : (128 : Nat) ^ k ≤ 128 ^ 9 := Nat.pow_le_pow_right (by omega) (by omega)
    rw [show (128 : Nat) ^ 9 = 9223372036854775808 from by decide] at h2
    have : c % 128 * 128 ^ k ≤ 1 * 128 ^ k := Nat.mul_le_mul_right _ (by omega)
    omega

theorem digit_bits (k c m : Nat) (hk : k ≤ 9) (h256 : c < 256) (hc : k < 9 ∨ c ≤ 1) (hm : m < 128 ^ k) :
    bits .or .u64 (m : Int) (IntKind.u64.wrap (IntKind.u64.wrap (bits .and .u8 (c : Int) 127) * 2 ^ (7 * k))) = ((m + c % 128 * 128 ^ k : Nat) : Int) := by
  have hs := digit_small k c hk hc
  have ha := digit_all k c m hk hc hm
  rw [and127 c h256]
  have e1 : IntKind.u64.wrap ((c % 128 : Nat) : Int) = ((c % 128 : Nat) : Int) := by rw [IntKind.wrap_u64]; omega
  have e2 : ((c % 128 : Nat) : Int) * 2 ^ (7 * k) = ((c % 128 * 128 ^ k : Nat) : Int) := by rw [pow128]; simp
  rw [e1, e2, IntKind.wrap_u64]
  have e3 : ((c % 128 * 128 ^ k : Nat) : Int) % 18446744073709551616 = ((c % 128 * 128 ^ k : Nat) : Int) := by omega
  rw [e3, u64_or (m : Int) _ (by omega) (by omega) (by omega) (by omega), Int.toNat_natCast, Int.toNat_natCast]
  congr 1
  rw [pow128] at hm ⊢
  rw [Nat.or_comm, ← Nat.shiftLeft_eq, ← Nat.shiftLeft_add_eq_or_of_lt hm, Nat.add_comm]

theorem rn_len : ∀ (l : List UInt8) (k m u : Nat) (r : List UInt8), rn k m l = some (u, r) → r.length < l.length
  | [], k, m, u, r, h => by simp [rn] at h
  | c :: l, k, m, u, r, h => by
    rw [rn] at h
    split at h
    · split at h
      · simp at h
        rw [← h.2]; simp
      · have := rn_len l (k + 1) _ u r h; simp; omega
    · simp at h

theorem rlen_len {l r : List UInt8} {n : Nat} (h : rlen l = some (n, r)) : r.length < l.length ∧ n ≤ r.length := by
  unfold rlen at h
  cases hx : rn 0 0 l with
  | none => simp [hx] at h
  | some x =>
    obtain ⟨u, r'⟩ := x
    simp only [hx] at h
    split at h
    · simp at h
      obtain ⟨rfl, rfl⟩ := h
      exact ⟨rn_len l 0 0 _ _ hx, by assumption⟩
    · simp at h

theorem decS_len {f : List UInt8 → Option (V × List UInt8)} (hf : ∀ l x r, f l = some (x, r) → r.length < l.length) : ∀ (n : Nat) (l : List UInt8) (xs : List V) (r : List UInt8), decS f n l = some (xs, r) → r.length ≤ l.length
  | 0, l, xs, r, h => by simp [decS] at h; rw [h.2]; omega
  | n + 1, l, xs, r, h => by
    rw [decS] at h
    cases hx : f l with
    | none => simp [hx] at h
    | some y =>
      obtain ⟨x, r1⟩ := y
      simp only [hx] at h
      cases hy : decS f n r1 with
      | none => simp [hy] at h
      | some z =>
        obtain ⟨ys, r2⟩ := z
        simp only [hy] at h
        simp at h
        have h1 := hf l x r1 hx
        have h2 := decS_len hf n r1 ys r2 hy
        rw [← h.2]; omega

theorem dec_len : ∀ (d : Nat) (l : List UInt8) (x : V) (r : List UInt8), dec d l = some (x, r) → r.length < l.length := by
  intro d
  induction d with
  | zero =>
    intro l x r h
    cases l with
    | nil => simp [dec] at h
    | cons c l =>
      simp only [dec] at h
      split at h
      · cases hx : rn 0 0 l with
        | none => simp [hx] at h
        | some y => obtain ⟨u, r'⟩ := y; simp [hx] at h; have := rn_len l 0 0 u r' hx; simp; rw [← h.2]; omega
      · split at h
        · cases hx : rlen l with
          | none => simp [hx] at h
          | some y => obtain ⟨u, r'⟩ := y; simp [hx] at h; have := rlen_len hx; simp; rw [← h.2]; simp; omega
        · simp at h
  | succ d ih =>
    intro l x r h
    cases l with
    | nil => simp [dec] at h
    | cons c l =>
      simp only [dec] at h
      split at h
      · cases hx : rn 0 0 l with
        | none => simp [hx] at h
        | some y => obtain ⟨u, r'⟩ := y; simp [hx] at h; have := rn_len l 0 0 u r' hx; simp; rw [← h.2]; omega
      · split at h
        · cases hx : rlen l with
          | none => simp [hx] at h
          | some y => obtain ⟨u, r'⟩ := y; simp [hx] at h; have := rlen_len hx; simp; rw [← h.2]; simp; omega
        · split at h
          · cases hx : rlen l with
            | none => simp [hx] at h
            | some y =>
              obtain ⟨u, r'⟩ := y
              simp only [hx, Option.bind_some] at h
              cases hy : decS (dec d) u r' with
              | none => simp [hy] at h
              | some z =>
                obtain ⟨ys, r2⟩ := z
                simp [hy] at h
                have h1 := rlen_len hx
                have h2 := decS_len ih u r' ys r2 hy
                simp; rw [← h.2]; omega
          · simp at h

theorem decS_step {f : List UInt8 → Option (V × List UInt8)} (n : Nat) (l : List UInt8) : decS f (n + 1) l = (f l).bind fun y => (decS f n y.2).map fun z => (y.1 :: z.1, z.2) := by
  rw [decS]
  cases f l with
  | none => rfl
  | some y => obtain ⟨x, r⟩ := y; simp only [Option.bind_some]; cases decS f n r with
              | none => rfl
              | some z => rfl

theorem sgn_ok (u : Nat) (h : u < 18446744073709551616) : Ok (sgn u) := by unfold Ok sgn; split <;> omega

theorem rn_lt : ∀ (l : List UInt8) (k m u : Nat) (r : List UInt8), k ≤ 9 → m < 128 ^ k → rn k m l = some (u, r) → u < 18446744073709551616
  | [], k, m, u, r, _, _, h => by simp [rn] at h
  | c :: l, k, m, u, r, hk, hm, h => by
    rw [rn] at h
    split at h
    · rename_i hc
      split at h
      · simp at h
        rw [← h.1]
        exact digit_all k c.toNat m hk hc.2 hm
      · exact rn_lt l (k + 1) _ u r (by rcases hc.2 with h | h <;> omega) (digit_next k c.toNat m hm) h
    · simp at h

end Go.Proofs.YtjhecmmbpmpmgaaDoor
