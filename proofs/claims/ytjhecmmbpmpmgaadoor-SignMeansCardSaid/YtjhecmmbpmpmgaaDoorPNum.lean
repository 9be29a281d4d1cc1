/- Plain lemmas: numerals, bits, bytes. No program in sight. -/
import Derived.WalkKit
import Derived.Laws.BitsAllLaws
namespace Go.Proofs.YtjhecmmbpmpmgaaDoor
open Go.RowKit

def numF : Nat → Nat → List UInt8
  | 0, u => [UInt8.ofNat u]
  | f + 1, u => if u < 128 then [UInt8.ofNat u] else UInt8.ofNat (u % 128 + 128) :: numF f (u / 128)
/-- the numeral of a number -/
def num (u : Nat) : List UInt8 := numF 9 u

theorem numF_lt (f u : Nat) (h : u < 128) : numF f u = [UInt8.ofNat u] := by
  cases f with
  | zero => rfl
  | succ f => rw [numF, if_pos h]

theorem numF_more (f : Nat) : ∀ u, u < 128 ^ (f + 1) → numF (f + 1) u = numF f u := by
  induction f with
  | zero => intro u h; show (if u < 128 then _ else _) = _; rw [if_pos (by simpa using h)]; rfl
  | succ f ih =>
    intro u h
    rw [numF]
    conv => rhs; rw [numF]
    split
    · rfl
    · rw [ih (u / 128) (by rw [Nat.div_lt_iff_lt_mul (by omega)]; rw [Nat.pow_succ] at h; exact h)]

theorem num_lt {u : Nat} (h : u < 128) : num u = [UInt8.ofNat u] := numF_lt 9 u h
theorem num_ge {u : Nat} (h : 128 ≤ u) (h64 : u < 18446744073709551616) : num u = UInt8.ofNat (u % 128 + 128) :: num (u / 128) := by
  unfold num
  rw [numF, if_neg (by omega), numF_more 8 (u / 128) (by rw [show (128 : Nat) ^ 9 = 9223372036854775808 from by decide]; omega)]

theorem num_len (u : Nat) : (num u).length ≤ 10 := by
  have : ∀ f u, (numF f u).length ≤ f + 1 := by
    intro f
    induction f with
    | zero => intro u; simp [numF]
    | succ f ih => intro u; rw [numF]; split
                   · simp
                   · have := ih (u / 128); simp; omega
  exact this 9 u

/-- the unsigned form -/
def unsg (n : Int) : Int := if 0 ≤ n then 2 * n else -2 * n - 1
def sgn (u : Int) : Int := if u % 2 = 0 then u / 2 else -(u / 2) - 1
theorem sgn_unsg (n : Int) : sgn (unsg n) = n := by unfold sgn unsg; split <;> split <;> omega
theorem unsg_sgn (u : Int) (h : 0 ≤ u) : unsg (sgn u) = u := by unfold sgn unsg; split <;> split <;> omega

theorem xor_i64_0 (a : Int) (h : -9223372036854775808 ≤ a ∧ a ≤ 9223372036854775807) : bits .xor .i64 a 0 = a := by
  rw [show bits .xor .i64 a 0 = IntKind.i64.wrap ((BitVec.ofInt 64 a ^^^ BitVec.ofInt 64 0).toNat) from rfl, IntKind.wrap_i64, show BitVec.ofInt 64 0 = 0#64 from by decide, BitVec.xor_zero, BitVec.toNat_ofInt]
  have : ((2 : Nat) ^ 64 : Int) = 18446744073709551616 := by decide
  omega
theorem xor_i64_m1 (a : Int) (h : -9223372036854775808 ≤ a ∧ a ≤ 9223372036854775807) : bits .xor .i64 a (-1) = -a - 1 := by
  rw [show bits .xor .i64 a (-1) = IntKind.i64.wrap ((BitVec.ofInt 64 a ^^^ BitVec.ofInt 64 (-1)).toNat) from rfl, IntKind.wrap_i64, show BitVec.ofInt 64 (-1) = BitVec.allOnes 64 from by decide, BitVec.xor_allOnes, BitVec.toNat_not, BitVec.toNat_ofInt]
  have : ((2 : Nat) ^ 64 : Int) = 18446744073709551616 := by decide
  omega

theorem xor_u64_0 (a : Int) (h : 0 ≤ a ∧ a < 18446744073709551616) : bits .xor .u64 a 0 = a := by
  rw [u64_xor a 0 h.1 h.2 (by omega) (by omega)]; simp; omega
theorem xor_u64_max (a : Int) (h : 0 ≤ a ∧ a < 18446744073709551616) : bits .xor .u64 a 18446744073709551615 = 18446744073709551615 - a := by
  rw [show bits .xor .u64 a 18446744073709551615 = IntKind.u64.wrap ((BitVec.ofInt 64 a ^^^ BitVec.ofInt 64 18446744073709551615).toNat) from rfl, IntKind.wrap_u64, show BitVec.ofInt 64 18446744073709551615 = BitVec.allOnes 64 from by decide, BitVec.xor_allOnes, BitVec.toNat_not, BitVec.toNat_ofInt]
  have : ((2 : Nat) ^ 64 : Int) = 18446744073709551616 := by decide
  omega

theorem unsg_bits (n : Int) (h : -9223372036854775808 ≤ n ∧ n ≤ 9223372036854775807) :
    bits .xor .u64 (IntKind.u64.wrap (IntKind.u64.wrap n * 2)) (IntKind.u64.wrap (n / 9223372036854775808)) = unsg n := by
  rw [IntKind.wrap_u64, IntKind.wrap_u64, IntKind.wrap_u64]
  unfold unsg
  split
  · rw [show n / 9223372036854775808 = 0 from by omega, show (0 : Int) % 18446744073709551616 = 0 from by decide, xor_u64_0 _ (by omega)]; omega
  · rw [show n / 9223372036854775808 = -1 from by omega, show (-1 : Int) % 18446744073709551616 = 18446744073709551615 from by decide, xor_u64_max _ (by omega)]; omega

theorem and1_u64 (u : Int) (h : 0 ≤ u ∧ u < 18446744073709551616) : bits .and .u64 u 1 = u % 2 := by
  rw [u64_and u 1 h.1 h.2 (by omega) (by omega), show ((1 : Int).toNat) = 1 from rfl, Nat.and_one_is_mod]; omega

theorem sgn_bits (u : Int) (h : 0 ≤ u ∧ u < 18446744073709551616) :
    bits .xor .i64 (u / 2) (wrap64 (-wrap64 (bits .and .u64 u 1))) = sgn u := by
  rw [and1_u64 u h]
  unfold sgn
  split
  · rename_i h2
    rw [h2, show wrap64 (-wrap64 0) = 0 from by unfold wrap64; decide, xor_i64_0 _ (by omega)]
  · rw [show u % 2 = 1 from by omega, show wrap64 (-wrap64 1) = -1 from by unfold wrap64; decide, xor_i64_m1 _ (by omega)]

set_option maxRecDepth 10000 in
theorem or128 (u : Int) (h : 0 ≤ u) : bits .or .u8 (u % 256) 128 = ((UInt8.ofNat (u.toNat % 128 + 128)).toNat : Int) := by
  rw [u8_or (u % 256) 128 (by omega) (by omega) (by omega) (by omega), show ((128 : Int).toNat) = 128 from rfl]
  have h1 : ∀ c : Fin 256, c.val ||| 128 = c.val % 128 + 128 := by decide
  have h2 := h1 ⟨(u % 256).toNat, by omega⟩
  simp only at h2
  rw [h2]
  simp only [UInt8.toNat_ofNat']
  omega

theorem wrap_u64_len (m : Nat) (h : m ≤ 9223372036854775807) : IntKind.u64.wrap (m : Int) = (m : Int) := by rw [IntKind.wrap_u64]; omega

/-- bytes as cells -/
def bc (l : List UInt8) : List Value := l.map fun c => .int .u8 (c.toNat : Int)
theorem bc_append (a b : List UInt8) : bc (a ++ b) = bc a ++ bc b := by simp [bc]
theorem bc_len (a : List UInt8) : (bc a).length = a.length := by simp [bc]

end Go.Proofs.YtjhecmmbpmpmgaaDoor
