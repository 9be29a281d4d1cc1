/- Plain words of this seat's proofs: the codec's values as a Lean type, and how they lie in memory.
   Plain lemmas: numerals, bits, bytes. No program in sight.
   Plain: the encoding of a value.
   Plain: what the reader computes.
   Plain: decoding undoes encoding, and what is decoded is an encoding.
   Plain: the size of what the statements speak of.
   Plain: Formed and Depth of the reference.
   append on a row of the call's own: the elder law, and whose block the answer has. -/
import Derived.WalkKit
import Derived.Laws.BitsAllLaws
import Derived.Lib.AppendStr
import Derived.Maps.AppendAt
namespace Go.Proofs.YtjhecmmbpmpmgaaDoor
open Go.RowKit

/-- A value of the codec as data. -/
inductive V where
  | mk (k n : Int) (s : ByteArray) (l : List V)

mutual
/-- how many values there are in a value -/
def V.sz : V → Nat
  | .mk _ _ _ l => 1 + szL l
def szL : List V → Nat
  | [] => 0
  | x :: l => x.sz + szL l
end

theorem V.sz_mk (k n : Int) (s : ByteArray) (l : List V) : (V.mk k n s l).sz = 1 + (l.map V.sz).sum := by
  rw [V.sz]; congr 1
  induction l with
  | nil => rfl
  | cons x l ih => rw [szL, ih]; rfl

theorem V.sz_mem {k n : Int} {s : ByteArray} {l : List V} {x : V} (h : x ∈ l) : x.sz < (V.mk k n s l).sz := by
  rw [V.sz_mk]
  have : x.sz ≤ (l.map V.sz).sum := by
    induction l with
    | nil => cases h
    | cons y l ih =>
      rcases List.mem_cons.1 h with rfl | h
      · simp
      · have := ih h; simp; omega
  omega

theorem V.sz_len {k n : Int} {s : ByteArray} {l : List V} : l.length < (V.mk k n s l).sz := by
  rw [V.sz_mk]
  have : l.length ≤ (l.map V.sz).sum := by
    induction l with
    | nil => simp
    | cons y l ih =>
      have : 1 ≤ y.sz := by cases y; rw [V.sz_mk]; omega
      simp; omega
  omega

/-- an int of 64 bits -/
def Ok (n : Int) : Prop := -9223372036854775808 ≤ n ∧ n ≤ 9223372036854775807

/-- a struct of four cells at a place -/
def Four (w : World) (b o : Nat) (c0 c1 c2 c3 : Value) : Prop :=
  w.cell? ⟨b, o, none⟩ = some c0 ∧ w.cell? ⟨b, o + 1, none⟩ = some c1 ∧ w.cell? ⟨b, o + 2, none⟩ = some c2 ∧ w.cell? ⟨b, o + 3, none⟩ = some c3

def FourV (w : World) (b o : Nat) : Value → Prop
  | .agg ⟨[c0, c1, c2, c3]⟩ => Four w b o c0 c1 c2 c3
  | _ => False

/-- The value v reads as x; all that is met lies in blocks of S. -/
inductive Rd (w : World) (S : Nat → Prop) : V → Value → Prop where
  | mk {k n : Int} {s : ByteArray} {l : List V} {A : Option Addr} {cap : Nat} (vs : Nat → Value)
      (hk : Ok k) (hn : Ok n) (hs : s.size ≤ 9223372036854775807) (hl : l.length ≤ cap) (hc : cap ≤ 9223372036854775807)
      (ha : 0 < l.length → ∃ b off, A = some ⟨b, off, none⟩ ∧ S b)
      (hcells : ∀ i b off, i < l.length → A = some ⟨b, off, none⟩ → FourV w b (off + i * 4) (vs i))
      (hrec : ∀ i (h : i < l.length), Rd w S l[i] (vs i)) :
      Rd w S (.mk k n s l) (.agg #[.int .i64 k, .int .i64 n, .string s, .slice A l.length cap])

theorem Rd.frame {w w' : World} {S S' : Nat → Prop} {x : V} {v : Value} (h : Rd w S x v) (hw : ∀ b, S b → w'.heap[b]? = w.heap[b]?) (hS : ∀ b, S b → S' b) : Rd w' S' x v := by
  induction h with
  | mk vs hk hn hs hl hc ha hcells hrec ih =>
    refine .mk vs hk hn hs hl hc (fun h => ?_) (fun i b off hi hA => ?_) ih
    · obtain ⟨b, off, e, hb⟩ := ha h
      exact ⟨b, off, e, hS b hb⟩
    · have h4 := hcells i b off hi hA
      obtain ⟨b', off', e', hb'⟩ := ha (by omega)
      have : b' = b := by rw [hA] at e'; injection e' with e'; injection e' with e1; exact e1.symm
      subst this
      have hc : ∀ o, w'.cell? ⟨b', o, none⟩ = w.cell? ⟨b', o, none⟩ := fun o => World.cell?_of_block (w := w) (a := ⟨b', o, none⟩) (hw b' hb')
      revert h4
      unfold FourV
      split
      · unfold Four
        simp only [hc]
        exact id
      · exact id

theorem FourV.lt {w : World} {b o : Nat} {v : Value} (h : FourV w b o v) : b < w.heap.size := by
  unfold FourV at h
  split at h
  · exact World.block_lt_of_cell? w _ h.1
  · exact h.elim

theorem Rd.bound {w : World} {S : Nat → Prop} {x : V} {v : Value} (h : Rd w S x v) : Rd w (fun b => S b ∧ b < w.heap.size) x v := by
  induction h with
  | mk vs hk hn hs hl hc ha hcells hrec ih =>
    refine .mk vs hk hn hs hl hc (fun h => ?_) hcells ih
    obtain ⟨b, off, e, hb⟩ := ha h
    exact ⟨b, off, e, hb, (hcells 0 b off h e).lt⟩

/-- An element of a list, laid open. -/
theorem Rd.elem {w : World} {S : Nat → Prop} {k n : Int} {s : ByteArray} {l : List V} {A : Option Addr} {len cap : Nat}
    (h : Rd w S (.mk k n s l) (.agg #[.int .i64 k, .int .i64 n, .string s, .slice A len cap])) (i : Nat) (hi : i < l.length) :
    ∃ b off k' n' s' A' len' cap', A = some ⟨b, off, none⟩ ∧ S b ∧ Four w b (off + i * 4) (.int .i64 k') (.int .i64 n') (.string s') (.slice A' len' cap') ∧
      Rd w S l[i] (.agg #[.int .i64 k', .int .i64 n', .string s', .slice A' len' cap']) := by
  cases h with
  | mk vs hk hn hs hl hc ha hcells hrec =>
    obtain ⟨b, off, e, hb⟩ := ha (by omega)
    have h4 := hcells i b off hi e
    have hr := hrec i hi
    generalize hv : vs i = v at h4 hr
    generalize l[i] = x at hr
    cases hr with
    | @mk k' n' s' l' A' cap' vs' hk' hn' hs' hl' hc' ha' hcells' hrec' =>
      refine ⟨b, off, k', n', s', A', l'.length, cap', e, hb, h4, .mk vs' hk' hn' hs' hl' hc' ha' hcells' hrec'⟩

theorem Rd.at {w : World} {S : Nat → Prop} {k n : Int} {s : ByteArray} {l : List V} {A : Option Addr} {len cap : Nat}
    (h : Rd w S (.mk k n s l) (.agg #[.int .i64 k, .int .i64 n, .string s, .slice A len cap])) (i : Nat) (hi : i < l.length) :
    ∃ b off k' n' s' l' A' cap', l[i] = .mk k' n' s' l' ∧ A = some ⟨b, off, none⟩ ∧ S b ∧ Four w b (off + i * 4) (.int .i64 k') (.int .i64 n') (.string s') (.slice A' l'.length cap') ∧
      Rd w S (.mk k' n' s' l') (.agg #[.int .i64 k', .int .i64 n', .string s', .slice A' l'.length cap']) := by
  cases h with
  | mk vs hk hn hs hl hc ha hcells hrec =>
    obtain ⟨b, off, e, hb⟩ := ha (by omega)
    have h4 := hcells i b off hi e
    have hr := hrec i hi
    generalize hv : vs i = v at h4 hr
    generalize l[i] = x at hr
    cases hr with
    | @mk k' n' s' l' A' cap' vs' hk' hn' hs' hl' hc' ha' hcells' hrec' =>
      exact ⟨b, off, k', n', s', l', A', cap', rfl, e, hb, h4, .mk vs' hk' hn' hs' hl' hc' ha' hcells' hrec'⟩

theorem Rd.head {w : World} {S : Nat → Prop} {k n : Int} {s : ByteArray} {l : List V} {v : Value} (h : Rd w S (.mk k n s l) v) :
    ∃ A cap, v = .agg #[.int .i64 k, .int .i64 n, .string s, .slice A l.length cap] ∧ Ok k ∧ Ok n ∧ s.size ≤ 9223372036854775807 ∧ l.length ≤ cap ∧ cap ≤ 9223372036854775807 ∧
      (0 < l.length → ∃ b off, A = some ⟨b, off, none⟩ ∧ S b) := by
  cases h with
  | mk vs hk hn hs hl hc ha hcells hrec => exact ⟨_, _, rfl, hk, hn, hs, hl, hc, ha⟩

mutual
/-- is a value well-formed, and how deep is it -/
def V.fm : V → Option Nat
  | .mk k n s l =>
    if k = 1 then (if s.size = 0 ∧ l.length = 0 then some 0 else none)
    else if k = 2 then (if n = 0 ∧ l.length = 0 then some 0 else none)
    else if k = 3 then (if n = 0 ∧ s.size = 0 then (fmFrom 0 l).map (· + 1) else none)
    else none
def fmFrom (d : Nat) : List V → Option Nat
  | [] => some d
  | x :: l => match x.fm with | none => none | some e => fmFrom (max d e) l
end

end Go.Proofs.YtjhecmmbpmpmgaaDoor

namespace Go.Proofs.YtjhecmmbpmpmgaaDoor
open Go.RowKit

def numF : Nat → Nat → List UInt8
  | 0, u => [UInt8.ofNat u]
  | f + 1, u => if u < 128 then [UInt8.ofNat u] else UInt8.ofNat (u % 128 + 128) :: numF f (u / 128)
/-- the numeral of a number -/
def num (u : Nat) : List UInt8 := numF 9 u

theorem numF_lt (f u : Nat) (h : u < 128) : numF f u = [UInt8.ofNat u] := by
  cases f with
  | zero => rfl
  | succ f => rw [numF, if_pos h]

theorem numF_more (f : Nat) : ∀ u, u < 128 ^ (f + 1) → numF (f + 1) u = numF f u := by
  induction f with
  | zero => intro u h; show (if u < 128 then _ else _) = _; rw [if_pos (by simpa using h)]; rfl
  | succ f ih =>
    intro u h
    rw [numF]
    conv => rhs; rw [numF]
    split
    · rfl
    · rw [ih (u / 128) (by rw [Nat.div_lt_iff_lt_mul (by omega)]; rw [Nat.pow_succ] at h; exact h)]

theorem num_lt {u : Nat} (h : u < 128) : num u = [UInt8.ofNat u] := numF_lt 9 u h
theorem num_ge {u : Nat} (h : 128 ≤ u) (h64 : u < 18446744073709551616) : num u = UInt8.ofNat (u % 128 + 128) :: num (u / 128) := by
  unfold num
  rw [numF, if_neg (by omega), numF_more 8 (u / 128) (by rw [show (128 : Nat) ^ 9 = 9223372036854775808 from by decide]; omega)]

theorem num_len (u : Nat) : (num u).length ≤ 10 := by
  have : ∀ f u, (numF f u).length ≤ f + 1 := by
    intro f
    induction f with
    | zero => intro u; simp [numF]
    | succ f ih => intro u; rw [numF]; split
                   · simp
                   · have := ih (u / 128); simp; omega
  exact this 9 u

/-- the unsigned form -/
def unsg (n : Int) : Int := if 0 ≤ n then 2 * n else -2 * n - 1
def sgn (u : Int) : Int := if u % 2 = 0 then u / 2 else -(u / 2) - 1
theorem sgn_unsg (n : Int) : sgn (unsg n) = n := by unfold sgn unsg; split <;> split <;> omega
theorem unsg_sgn (u : Int) (h : 0 ≤ u) : unsg (sgn u) = u := by unfold sgn unsg; split <;> split <;> omega

theorem xor_i64_0 (a : Int) (h : -9223372036854775808 ≤ a ∧ a ≤ 9223372036854775807) : bits .xor .i64 a 0 = a := by
  rw [show bits .xor .i64 a 0 = IntKind.i64.wrap ((BitVec.ofInt 64 a ^^^ BitVec.ofInt 64 0).toNat) from rfl, IntKind.wrap_i64, show BitVec.ofInt 64 0 = 0#64 from by decide, BitVec.xor_zero, BitVec.toNat_ofInt]
  have : ((2 : Nat) ^ 64 : Int) = 18446744073709551616 := by decide
  omega
theorem xor_i64_m1 (a : Int) (h : -9223372036854775808 ≤ a ∧ a ≤ 9223372036854775807) : bits .xor .i64 a (-1) = -a - 1 := by
  rw [show bits .xor .i64 a (-1) = IntKind.i64.wrap ((BitVec.ofInt 64 a ^^^ BitVec.ofInt 64 (-1)).toNat) from rfl, IntKind.wrap_i64, show BitVec.ofInt 64 (-1) = BitVec.allOnes 64 from by decide, BitVec.xor_allOnes, BitVec.toNat_not, BitVec.toNat_ofInt]
  have : ((2 : Nat) ^ 64 : Int) = 18446744073709551616 := by decide
  omega

theorem xor_u64_0 (a : Int) (h : 0 ≤ a ∧ a < 18446744073709551616) : bits .xor .u64 a 0 = a := by
  rw [u64_xor a 0 h.1 h.2 (by omega) (by omega)]; simp; omega
theorem xor_u64_max (a : Int) (h : 0 ≤ a ∧ a < 18446744073709551616) : bits .xor .u64 a 18446744073709551615 = 18446744073709551615 - a := by
  rw [show bits .xor .u64 a 18446744073709551615 = IntKind.u64.wrap ((BitVec.ofInt 64 a ^^^ BitVec.ofInt 64 18446744073709551615).toNat) from rfl, IntKind.wrap_u64, show BitVec.ofInt 64 18446744073709551615 = BitVec.allOnes 64 from by decide, BitVec.xor_allOnes, BitVec.toNat_not, BitVec.toNat_ofInt]
  have : ((2 : Nat) ^ 64 : Int) = 18446744073709551616 := by decide
  omega

theorem unsg_bits (n : Int) (h : -9223372036854775808 ≤ n ∧ n ≤ 9223372036854775807) :
    bits .xor .u64 (IntKind.u64.wrap (IntKind.u64.wrap n * 2)) (IntKind.u64.wrap (n / 9223372036854775808)) = unsg n := by
  rw [IntKind.wrap_u64, IntKind.wrap_u64, IntKind.wrap_u64]
  unfold unsg
  split
  · rw [show n / 9223372036854775808 = 0 from by omega, show (0 : Int) % 18446744073709551616 = 0 from by decide, xor_u64_0 _ (by omega)]; omega
  · rw [show n / 9223372036854775808 = -1 from by omega, show (-1 : Int) % 18446744073709551616 = 18446744073709551615 from by decide, xor_u64_max _ (by omega)]; omega

theorem and1_u64 (u : Int) (h : 0 ≤ u ∧ u < 18446744073709551616) : bits .and .u64 u 1 = u % 2 := by
  rw [u64_and u 1 h.1 h.2 (by omega) (by omega), show ((1 : Int).toNat) = 1 from rfl, Nat.and_one_is_mod]; omega

theorem sgn_bits (u : Int) (h : 0 ≤ u ∧ u < 18446744073709551616) :
    bits .xor .i64 (u / 2) (wrap64 (-wrap64 (bits .and .u64 u 1))) = sgn u := by
  rw [and1_u64 u h]
  unfold sgn
  split
  · rename_i h2
    rw [h2, show wrap64 (-wrap64 0) = 0 from by unfold wrap64; decide, xor_i64_0 _ (by omega)]
  · rw [show u % 2 = 1 from by omega, show wrap64 (-wrap64 1) = -1 from by unfold wrap64; decide, xor_i64_m1 _ (by omega)]

set_option maxRecDepth 10000 in
theorem or128 (u : Int) (h : 0 ≤ u) : bits .or .u8 (u % 256) 128 = ((UInt8.ofNat (u.toNat % 128 + 128)).toNat : Int) := by
  rw [u8_or (u % 256) 128 (by omega) (by omega) (by omega) (by omega), show ((128 : Int).toNat) = 128 from rfl]
  have h1 : ∀ c : Fin 256, c.val ||| 128 = c.val % 128 + 128 := by decide
  have h2 := h1 ⟨(u % 256).toNat, by omega⟩
  simp only at h2
  rw [h2]
  simp only [UInt8.toNat_ofNat']
  omega

theorem wrap_u64_len (m : Nat) (h : m ≤ 9223372036854775807) : IntKind.u64.wrap (m : Int) = (m : Int) := by rw [IntKind.wrap_u64]; omega

/-- bytes as cells -/
def bc (l : List UInt8) : List Value := l.map fun c => .int .u8 (c.toNat : Int)
theorem bc_append (a b : List UInt8) : bc (a ++ b) = bc a ++ bc b := by simp [bc]
theorem bc_len (a : List UInt8) : (bc a).length = a.length := by simp [bc]

end Go.Proofs.YtjhecmmbpmpmgaaDoor

namespace Go.Proofs.YtjhecmmbpmpmgaaDoor
open Go.RowKit

mutual
def V.enc : V → List UInt8
  | .mk k n s l => if k = 1 then 1 :: num (unsg n).toNat else if k = 2 then 2 :: (num s.size ++ s.data.toList) else 3 :: (num l.length ++ encL l)
def encL : List V → List UInt8
  | [] => []
  | x :: l => x.enc ++ encL l
end

theorem encL_append (a b : List V) : encL (a ++ b) = encL a ++ encL b := by
  induction a with
  | nil => rfl
  | cons x a ih => simp only [List.cons_append, encL, ih, List.append_assoc]

theorem encL_take_succ (l : List V) (k : Nat) (hk : k < l.length) : encL (l.take (k + 1)) = encL (l.take k) ++ l[k].enc := by
  rw [List.take_succ_eq_append_getElem hk, encL_append]
  simp [encL]

theorem encL_take_le (l : List V) (k : Nat) : (encL (l.take k)).length ≤ (encL l).length := by
  conv => rhs; rw [← List.take_append_drop k l, encL_append]
  simp

theorem enc_mem_le (l : List V) (k : Nat) (hk : k < l.length) : (encL (l.take k)).length + l[k].enc.length ≤ (encL l).length := by
  have := encL_take_le l (k + 1)
  rw [encL_take_succ l k hk] at this
  simpa using this

theorem fmFrom_mem : ∀ (l : List V) (a k : Nat) (hk : k < l.length), fmFrom a l ≠ none → l[k].fm ≠ none
  | x :: l, a, 0, _, h => by
    intro e
    rw [fmFrom] at h
    simp only [List.getElem_cons_zero] at e
    simp [e] at h
  | x :: l, a, k + 1, hk, h => by
    rw [fmFrom] at h
    cases hx : x.fm with
    | none => simp [hx] at h
    | some e => simp only [hx] at h; exact fmFrom_mem l _ k (by simpa using hk) h

theorem fm_kind {k n : Int} {s : ByteArray} {l : List V} (h : (V.mk k n s l).fm ≠ none) :
    (k = 1 ∧ s.size = 0 ∧ l = []) ∨ (k = 2 ∧ n = 0 ∧ l = []) ∨ (k = 3 ∧ n = 0 ∧ s.size = 0 ∧ fmFrom 0 l ≠ none) := by
  rw [V.fm] at h
  by_cases h1 : k = 1
  · rw [if_pos h1] at h
    split at h
    · rename_i h2; exact .inl ⟨h1, h2.1, List.length_eq_zero_iff.1 h2.2⟩
    · exact absurd rfl h
  · rw [if_neg h1] at h
    by_cases h2 : k = 2
    · rw [if_pos h2] at h
      split at h
      · rename_i h3; exact .inr (.inl ⟨h2, h3.1, List.length_eq_zero_iff.1 h3.2⟩)
      · exact absurd rfl h
    · rw [if_neg h2] at h
      by_cases h3 : k = 3
      · rw [if_pos h3] at h
        split at h
        · rename_i h4; exact .inr (.inr ⟨h3, h4.1, h4.2, fun e => by simp [e] at h⟩)
        · exact absurd rfl h
      · rw [if_neg h3] at h; exact absurd rfl h

end Go.Proofs.YtjhecmmbpmpmgaaDoor

namespace Go.Proofs.YtjhecmmbpmpmgaaDoor
open Go.RowKit

/-- a numeral, from digit i on -/
def rn (i u : Nat) : List UInt8 → Option (Nat × List UInt8)
  | [] => none
  | c :: r => if (i = 0 ∨ c.toNat ≠ 0) ∧ (i < 9 ∨ c.toNat ≤ 1) then (if c.toNat < 128 then some (u + c.toNat % 128 * 128 ^ i, r) else rn (i + 1) (u + c.toNat % 128 * 128 ^ i) r) else none

/-- a length: no more than what follows -/
def rlen (l : List UInt8) : Option (Nat × List UInt8) := match rn 0 0 l with | none => none | some (n, r) => if n ≤ r.length then some (n, r) else none

/-- n values, one after the other -/
def decS (f : List UInt8 → Option (V × List UInt8)) : Nat → List UInt8 → Option (List V × List UInt8)
  | 0, l => some ([], l)
  | n + 1, l => match f l with | none => none | some (x, r) => match decS f n r with | none => none | some (xs, r') => some (x :: xs, r')

def strOf (l : List UInt8) : ByteArray := ⟨l.toArray⟩

/-- the value that is next; lists may still be nested so deep -/
def dec : Nat → List UInt8 → Option (V × List UInt8)
  | _, [] => none
  | 0, c :: r =>
    if c.toNat = 1 then (rn 0 0 r).map fun x => (.mk 1 (sgn x.1) ByteArray.empty [], x.2)
    else if c.toNat = 2 then (rlen r).map fun x => (.mk 2 0 (strOf (x.2.take x.1)) [], x.2.drop x.1)
    else none
  | d + 1, c :: r =>
    if c.toNat = 1 then (rn 0 0 r).map fun x => (.mk 1 (sgn x.1) ByteArray.empty [], x.2)
    else if c.toNat = 2 then (rlen r).map fun x => (.mk 2 0 (strOf (x.2.take x.1)) [], x.2.drop x.1)
    else if c.toNat = 3 then (rlen r).bind fun x => (decS (dec d) x.1 x.2).map fun y => (.mk 3 0 ByteArray.empty y.1, y.2)
    else none

theorem dec_1 (d : Nat) (c : UInt8) (r : List UInt8) (h : c.toNat = 1) : dec d (c :: r) = (rn 0 0 r).map fun x => (.mk 1 (sgn x.1) ByteArray.empty [], x.2) := by
  cases d <;> simp only [dec] <;> rw [if_pos h]
theorem dec_2 (d : Nat) (c : UInt8) (r : List UInt8) (h : c.toNat = 2) : dec d (c :: r) = (rlen r).map fun x => (.mk 2 0 (strOf (x.2.take x.1)) [], x.2.drop x.1) := by
  cases d <;> simp only [dec] <;> rw [if_neg (by omega), if_pos h]
theorem dec_30 (c : UInt8) (r : List UInt8) (h : c.toNat = 3) : dec 0 (c :: r) = none := by
  simp only [dec]; rw [if_neg (by omega), if_neg (by omega)]
theorem dec_3 (d : Nat) (c : UInt8) (r : List UInt8) (h : c.toNat = 3) : dec (d + 1) (c :: r) = (rlen r).bind fun x => (decS (dec d) x.1 x.2).map fun y => (.mk 3 0 ByteArray.empty y.1, y.2) := by
  simp only [dec]; rw [if_neg (by omega), if_neg (by omega), if_pos h]
theorem dec_x (d : Nat) (c : UInt8) (r : List UInt8) (h : ¬ (1 ≤ c.toNat ∧ c.toNat ≤ 3)) : dec d (c :: r) = none := by
  cases d <;> simp only [dec]
  · rw [if_neg (by omega), if_neg (by omega)]
  · rw [if_neg (by omega), if_neg (by omega), if_neg (by omega)]

theorem pow128 (k : Nat) : (128 : Nat) ^ k = 2 ^ (7 * k) := by rw [Nat.pow_mul]

set_option maxRecDepth 10000 in
theorem and127 (c : Nat) (h : c < 256) : bits .and .u8 (c : Int) 127 = ((c % 128 : Nat) : Int) := by
  rw [u8_and (c : Int) 127 (by omega) (by omega) (by omega) (by omega), show ((127 : Int).toNat) = 127 from rfl, Int.toNat_natCast]
  have h1 : ∀ c : Fin 256, c.val &&& 127 = c.val % 128 := by decide
  have h2 := h1 ⟨c, h⟩
  simp only at h2
  rw [h2]

theorem digit_small (k c : Nat) (hk : k ≤ 9) (hc : k < 9 ∨ c ≤ 1) : c % 128 * 128 ^ k < 18446744073709551616 := by
  have h1 : c % 128 ≤ 127 := by omega
  rcases hc with h | h
  · have : (128 : Nat) ^ k ≤ 128 ^ 8 := Nat.pow_le_pow_right (by omega) (by omega)
    rw [show (128 : Nat) ^ 8 = 72057594037927936 from by decide] at this
    calc c % 128 * 128 ^ k ≤ 127 * 72057594037927936 := Nat.mul_le_mul h1 this
      _ < _ := by decide
  · have : (128 : Nat) ^ k ≤ 128 ^ 9 := Nat.pow_le_pow_right (by omega) (by omega)
    rw [show (128 : Nat) ^ 9 = 9223372036854775808 from by decide] at this
    calc c % 128 * 128 ^ k ≤ 1 * 9223372036854775808 := Nat.mul_le_mul (by omega) this
      _ < _ := by decide

theorem digit_next (k c m : Nat) (hm : m < 128 ^ k) : m + c % 128 * 128 ^ k < 128 ^ (k + 1) := by
  rw [Nat.pow_succ]
  have h1 : c % 128 ≤ 127 := by omega
  have : c % 128 * 128 ^ k ≤ 127 * 128 ^ k := Nat.mul_le_mul_right _ h1
  omega

theorem digit_all (k c m : Nat) (hk : k ≤ 9) (hc : k < 9 ∨ c ≤ 1) (hm : m < 128 ^ k) : m + c % 128 * 128 ^ k < 18446744073709551616 := by
  rcases hc with h | h
  · have := digit_next k c m hm
    have h2 : (128 : Nat) ^ (k + 1) ≤ 128 ^ 9 := Nat.pow_le_pow_right (by omega) (by omega)
    rw [show (128 : Nat) ^ 9 = 9223372036854775808 from by decide] at h2
    omega
  · have h2 : (128 : Nat) ^ k ≤ 128 ^ 9 := Nat.pow_le_pow_right (by omega) (by omega)
    rw [show (128 : Nat) ^ 9 = 9223372036854775808 from by decide] at h2
    have : c % 128 * 128 ^ k ≤ 1 * 128 ^ k := Nat.mul_le_mul_right _ (by omega)
    omega

theorem digit_bits (k c m : Nat) (hk : k ≤ 9) (h256 : c < 256) (hc : k < 9 ∨ c ≤ 1) (hm : m < 128 ^ k) :
    bits .or .u64 (m : Int) (IntKind.u64.wrap (IntKind.u64.wrap (bits .and .u8 (c : Int) 127) * 2 ^ (7 * k))) = ((m + c % 128 * 128 ^ k : Nat) : Int) := by
  have hs := digit_small k c hk hc
  have ha := digit_all k c m hk hc hm
  rw [and127 c h256]
  have e1 : IntKind.u64.wrap ((c % 128 : Nat) : Int) = ((c % 128 : Nat) : Int) := by rw [IntKind.wrap_u64]; omega
  have e2 : ((c % 128 : Nat) : Int) * 2 ^ (7 * k) = ((c % 128 * 128 ^ k : Nat) : Int) := by rw [pow128]; simp
  rw [e1, e2, IntKind.wrap_u64]
  have e3 : ((c % 128 * 128 ^ k : Nat) : Int) % 18446744073709551616 = ((c % 128 * 128 ^ k : Nat) : Int) := by omega
  rw [e3, u64_or (m : Int) _ (by omega) (by omega) (by omega) (by omega), Int.toNat_natCast, Int.toNat_natCast]
  congr 1
  rw [pow128] at hm ⊢
  rw [Nat.or_comm, ← Nat.shiftLeft_eq, ← Nat.shiftLeft_add_eq_or_of_lt hm, Nat.add_comm]

theorem rn_len : ∀ (l : List UInt8) (k m u : Nat) (r : List UInt8), rn k m l = some (u, r) → r.length < l.length
  | [], k, m, u, r, h => by simp [rn] at h
  | c :: l, k, m, u, r, h => by
    rw [rn] at h
    split at h
    · split at h
      · simp at h
        rw [← h.2]; simp
      · have := rn_len l (k + 1) _ u r h; simp; omega
    · simp at h

theorem rlen_len {l r : List UInt8} {n : Nat} (h : rlen l = some (n, r)) : r.length < l.length ∧ n ≤ r.length := by
  unfold rlen at h
  cases hx : rn 0 0 l with
  | none => simp [hx] at h
  | some x =>
    obtain ⟨u, r'⟩ := x
    simp only [hx] at h
    split at h
    · simp at h
      obtain ⟨rfl, rfl⟩ := h
      exact ⟨rn_len l 0 0 _ _ hx, by assumption⟩
    · simp at h

theorem decS_len {f : List UInt8 → Option (V × List UInt8)} (hf : ∀ l x r, f l = some (x, r) → r.length < l.length) : ∀ (n : Nat) (l : List UInt8) (xs : List V) (r : List UInt8), decS f n l = some (xs, r) → r.length ≤ l.length
  | 0, l, xs, r, h => by simp [decS] at h; rw [h.2]; omega
  | n + 1, l, xs, r, h => by
    rw [decS] at h
    cases hx : f l with
    | none => simp [hx] at h
    | some y =>
      obtain ⟨x, r1⟩ := y
      simp only [hx] at h
      cases hy : decS f n r1 with
      | none => simp [hy] at h
      | some z =>
        obtain ⟨ys, r2⟩ := z
        simp only [hy] at h
        simp at h
        have h1 := hf l x r1 hx
        have h2 := decS_len hf n r1 ys r2 hy
        rw [← h.2]; omega

theorem dec_len : ∀ (d : Nat) (l : List UInt8) (x : V) (r : List UInt8), dec d l = some (x, r) → r.length < l.length := by
  intro d
  induction d with
  | zero =>
    intro l x r h
    cases l with
    | nil => simp [dec] at h
    | cons c l =>
      simp only [dec] at h
      split at h
      · cases hx : rn 0 0 l with
        | none => simp [hx] at h
        | some y => obtain ⟨u, r'⟩ := y; simp [hx] at h; have := rn_len l 0 0 u r' hx; simp; rw [← h.2]; omega
      · split at h
        · cases hx : rlen l with
          | none => simp [hx] at h
          | some y => obtain ⟨u, r'⟩ := y; simp [hx] at h; have := rlen_len hx; simp; rw [← h.2]; simp; omega
        · simp at h
  | succ d ih =>
    intro l x r h
    cases l with
    | nil => simp [dec] at h
    | cons c l =>
      simp only [dec] at h
      split at h
      · cases hx : rn 0 0 l with
        | none => simp [hx] at h
        | some y => obtain ⟨u, r'⟩ := y; simp [hx] at h; have := rn_len l 0 0 u r' hx; simp; rw [← h.2]; omega
      · split at h
        · cases hx : rlen l with
          | none => simp [hx] at h
          | some y => obtain ⟨u, r'⟩ := y; simp [hx] at h; have := rlen_len hx; simp; rw [← h.2]; simp; omega
        · split at h
          · cases hx : rlen l with
            | none => simp [hx] at h
            | some y =>
              obtain ⟨u, r'⟩ := y
              simp only [hx, Option.bind_some] at h
              cases hy : decS (dec d) u r' with
              | none => simp [hy] at h
              | some z =>
                obtain ⟨ys, r2⟩ := z
                simp [hy] at h
                have h1 := rlen_len hx
                have h2 := decS_len ih u r' ys r2 hy
                simp; rw [← h.2]; omega
          · simp at h

theorem decS_step {f : List UInt8 → Option (V × List UInt8)} (n : Nat) (l : List UInt8) : decS f (n + 1) l = (f l).bind fun y => (decS f n y.2).map fun z => (y.1 :: z.1, z.2) := by
  rw [decS]
  cases f l with
  | none => rfl
  | some y => obtain ⟨x, r⟩ := y; simp only [Option.bind_some]; cases decS f n r with
              | none => rfl
              | some z => rfl

theorem sgn_ok (u : Nat) (h : u < 18446744073709551616) : Ok (sgn u) := by unfold Ok sgn; split <;> omega

theorem rn_lt : ∀ (l : List UInt8) (k m u : Nat) (r : List UInt8), k ≤ 9 → m < 128 ^ k → rn k m l = some (u, r) → u < 18446744073709551616
  | [], k, m, u, r, _, _, h => by simp [rn] at h
  | c :: l, k, m, u, r, hk, hm, h => by
    rw [rn] at h
    split at h
    · rename_i hc
      split at h
      · simp at h
        rw [← h.1]
        exact digit_all k c.toNat m hk hc.2 hm
      · exact rn_lt l (k + 1) _ u r (by rcases hc.2 with h | h <;> omega) (digit_next k c.toNat m hm) h
    · simp at h

end Go.Proofs.YtjhecmmbpmpmgaaDoor

namespace Go.Proofs.YtjhecmmbpmpmgaaDoor
open Go.RowKit

theorem rn_num : ∀ (f u k m : Nat) (r : List UInt8), (k = 0 ∨ u ≠ 0) → k ≤ 9 → u < 128 ^ (f + 1) → u * 128 ^ k < 18446744073709551616 → rn k m (numF f u ++ r) = some (m + u * 128 ^ k, r) := by
  have base : ∀ (u k m : Nat) (r : List UInt8), (k = 0 ∨ u ≠ 0) → k ≤ 9 → u < 128 → u * 128 ^ k < 18446744073709551616 → rn k m ([UInt8.ofNat u] ++ r) = some (m + u * 128 ^ k, r) := by
    intro u k m r h0 hk hu h64
    have ht : (UInt8.ofNat u).toNat = u := by rw [UInt8.toNat_ofNat']; omega
    rw [List.singleton_append, rn, ht, if_pos, if_pos hu, Nat.mod_eq_of_lt hu]
    refine ⟨h0, ?_⟩
    by_cases h9 : k < 9
    · exact .inl h9
    · have : k = 9 := by omega
      subst this
      rw [show (128 : Nat) ^ 9 = 9223372036854775808 from by decide] at h64
      exact .inr (by omega)
  intro f
  induction f with
  | zero => intro u k m r h0 hk hu h64; exact base u k m r h0 hk (by simpa using hu) h64
  | succ f ih =>
    intro u k m r h0 hk hu h64
    rw [numF]
    split
    · rename_i hlt; exact base u k m r h0 hk hlt h64
    · rename_i hge
      have ht : (UInt8.ofNat (u % 128 + 128)).toNat = u % 128 + 128 := by rw [UInt8.toNat_ofNat']; omega
      have hk9 : k < 9 := by
        by_cases h9 : k < 9
        · exact h9
        · have : k = 9 := by omega
          subst this
          rw [show (128 : Nat) ^ 9 = 9223372036854775808 from by decide] at h64
          omega
      have e1 : u / 128 * 128 ^ (k + 1) ≤ u * 128 ^ k := by
        rw [Nat.pow_succ, Nat.mul_comm (128 ^ k) 128, ← Nat.mul_assoc]
        exact Nat.mul_le_mul_right _ (by omega)
      have e2 : m + u % 128 * 128 ^ k + u / 128 * 128 ^ (k + 1) = m + u * 128 ^ k := by
        rw [Nat.pow_succ, Nat.mul_comm (128 ^ k) 128, ← Nat.mul_assoc, Nat.add_assoc, ← Nat.add_mul]
        congr 2; omega
      rw [List.cons_append, rn, ht, if_pos ⟨.inr (by omega), .inl hk9⟩, if_neg (by omega), show (u % 128 + 128) % 128 = u % 128 from by omega,
        ih (u / 128) (k + 1) _ r (.inr (by omega)) (by omega) (by rw [Nat.div_lt_iff_lt_mul (by omega)]; rw [Nat.pow_succ] at hu; exact hu) (by omega), e2]

theorem rn0_num (u : Nat) (r : List UInt8) (h : u < 18446744073709551616) : rn 0 0 (num u ++ r) = some (u, r) := by
  have := rn_num 9 u 0 0 r (.inl rfl) (by omega) (by rw [show (128 : Nat) ^ (9 + 1) = 1180591620717411303424 from by decide]; omega) (by simpa using h)
  simpa [num] using this

theorem rlen_num (n : Nat) (r : List UInt8) (h : n < 18446744073709551616) (hn : n ≤ r.length) : rlen (num n ++ r) = some (n, r) := by
  unfold rlen; rw [rn0_num n r h]; simp only; rw [if_pos hn]

theorem rn_inv : ∀ (l : List UInt8) (k m v : Nat) (r : List UInt8), k ≤ 9 → rn k m l = some (v, r) → ∃ u, v = m + u * 128 ^ k ∧ (k = 0 ∨ u ≠ 0) ∧ l = numF (9 - k) u ++ r
  | [], k, m, v, r, _, h => by simp [rn] at h
  | c :: l, k, m, v, r, hk, h => by
    rw [rn] at h
    have hc256 : c.toNat < 256 := c.toNat_lt
    split at h
    · rename_i hc
      split at h
      · rename_i hlt
        simp at h
        refine ⟨c.toNat, by rw [← h.1, Nat.mod_eq_of_lt hlt], hc.1, ?_⟩
        rw [numF_lt _ _ hlt, h.2]; simp
      · rename_i hge
        have hk9 : k < 9 := by rcases hc.2 with h | h <;> omega
        obtain ⟨u, hv, hu, hl⟩ := rn_inv l (k + 1) _ v r (by omega) h
        have hu' : u ≠ 0 := by rcases hu with h | h <;> omega
        refine ⟨c.toNat % 128 + 128 * u, ?_, .inr (by omega), ?_⟩
        · rw [hv, Nat.pow_succ, Nat.add_mul, Nat.mul_comm (128 ^ k) 128, ← Nat.mul_assoc, Nat.mul_comm u 128, Nat.add_assoc]
        · rw [show 9 - k = (9 - (k + 1)) + 1 from by omega, numF, if_neg (by omega), show (c.toNat % 128 + 128 * u) / 128 = u from by omega, show (c.toNat % 128 + 128 * u) % 128 + 128 = c.toNat from by omega, UInt8.ofNat_toNat, List.cons_append, ← hl]
    · simp at h

theorem rn0_inv {l r : List UInt8} {v : Nat} (h : rn 0 0 l = some (v, r)) : l = num v ++ r := by
  obtain ⟨u, hv, _, hl⟩ := rn_inv l 0 0 v r (by omega) h
  have : v = u := by simpa using hv
  subst this; exact hl

theorem rlen_inv {l r : List UInt8} {n : Nat} (h : rlen l = some (n, r)) : l = num n ++ r ∧ n ≤ r.length := by
  refine ⟨?_, (rlen_len h).2⟩
  unfold rlen at h
  cases hx : rn 0 0 l with
  | none => simp [hx] at h
  | some y =>
    obtain ⟨u, r'⟩ := y
    simp only [hx] at h
    split at h
    · simp at h; obtain ⟨rfl, rfl⟩ := h; exact rn0_inv hx
    · simp at h

mutual
/-- numbers and sizes that Go can hold -/
def V.good : V → Prop
  | .mk _ n s l => Ok n ∧ s.size ≤ 9223372036854775807 ∧ l.length ≤ 9223372036854775807 ∧ goodL l
def goodL : List V → Prop
  | [] => True
  | x :: l => x.good ∧ goodL l
end

theorem goodL_iff : ∀ (l : List V), goodL l ↔ ∀ i (h : i < l.length), l[i].good
  | [] => by simp [goodL]
  | x :: l => by
    rw [goodL, goodL_iff l]
    constructor
    · rintro ⟨h1, h2⟩ i hi
      cases i with
      | zero => exact h1
      | succ i => exact h2 i (by simpa using hi)
    · intro h
      exact ⟨h 0 (by simp), fun i hi => h (i + 1) (by simpa using hi)⟩

theorem Rd.good {w : World} {S : Nat → Prop} {x : V} {v : Value} (h : Rd w S x v) : x.good := by
  induction h with
  | mk vs hk hn hs hl hc ha hcells hrec ih => rw [V.good]; exact ⟨hn, hs, by omega, (goodL_iff _).2 ih⟩

theorem unsg_lt (n : Int) (h : Ok n) : 0 ≤ unsg n ∧ unsg n < 18446744073709551616 := by
  unfold Ok at h; unfold unsg; split <;> omega

theorem enc_pos' (x : V) : 1 ≤ x.enc.length := by
  obtain ⟨k, n, s, l⟩ := x
  rw [V.enc]; split
  · simp
  · split <;> simp

theorem encL_len : ∀ (l : List V), l.length ≤ (encL l).length
  | [] => by simp
  | x :: l => by have := encL_len l; have := enc_pos' x; simp [encL]; omega

theorem ba_empty : ∀ {s : ByteArray}, s.size = 0 → s = ByteArray.empty := by
  intro s h
  cases s with
  | mk a => have : a = #[] := Array.eq_empty_of_size_eq_zero h
            subst this; rfl
theorem ba_len : ∀ (s : ByteArray), s.data.toList.length = s.size := fun _ => rfl
theorem fmFrom_ge : ∀ (l : List V) (a e : Nat), fmFrom a l = some e → a ≤ e
  | [], a, e, h => by simp [fmFrom] at h; omega
  | x :: l, a, e, h => by
    rw [fmFrom] at h
    cases hx : x.fm with
    | none => simp [hx] at h
    | some e1 => simp only [hx] at h; have := fmFrom_ge l _ _ h; omega

mutual
theorem dec_enc : ∀ (x : V) (d e : Nat) (r : List UInt8), x.fm = some e → e ≤ d → x.good → dec d (x.enc ++ r) = some (x, r)
  | .mk k n s l, d, e, r, hf, he, hg => by
    rw [V.good] at hg
    obtain ⟨hn, hs, hl, hgl⟩ := hg
    rcases fm_kind (by rw [hf]; simp) with ⟨rfl, h2, rfl⟩ | ⟨rfl, rfl, rfl⟩ | ⟨rfl, rfl, h0, h4⟩
    · have hu := unsg_lt n hn
      rw [V.enc, if_pos rfl, List.cons_append, dec_1 _ _ _ (by rfl), rn0_num _ _ (by omega)]
      simp only [Option.map_some]
      rw [Int.toNat_of_nonneg hu.1, sgn_unsg, ba_empty h2]
    · rw [V.enc, if_neg (by decide), if_pos rfl, List.cons_append, dec_2 _ _ _ (by rfl), List.append_assoc, rlen_num _ _ (by omega) (by simp)]
      simp only [Option.map_some]
      rw [List.take_left' (by rfl), List.drop_left' (by rfl)]
      rfl
    · rw [V.fm, if_neg (by decide), if_neg (by decide), if_pos rfl, if_pos ⟨rfl, h0⟩] at hf
      cases hf' : fmFrom 0 l with
      | none => exact absurd hf' h4
      | some e' =>
        rw [hf'] at hf
        simp at hf
        obtain ⟨d, rfl⟩ : ∃ d', d = d' + 1 := ⟨d - 1, by omega⟩
        have hll := encL_len l
        rw [V.enc, if_neg (by decide), if_neg (by decide), List.cons_append, dec_3 _ _ _ (by rfl), List.append_assoc, rlen_num _ _ (by omega) (by simp; omega)]
        simp only [Option.bind_some]
        rw [decS_enc l d 0 e' r hf' (by omega) hgl, ba_empty h0]
        rfl
theorem decS_enc : ∀ (l : List V) (d a e : Nat) (r : List UInt8), fmFrom a l = some e → e ≤ d → goodL l → decS (dec d) l.length (encL l ++ r) = some (l, r)
  | [], d, a, e, r, _, _, _ => by simp [decS, encL]
  | x :: l, d, a, e, r, hf, he, hg => by
    rw [goodL] at hg
    rw [fmFrom] at hf
    cases hx : x.fm with
    | none => simp [hx] at hf
    | some e1 =>
      simp only [hx] at hf
      have hle := fmFrom_ge l _ _ hf
      rw [List.length_cons, decS_step, encL, List.append_assoc, dec_enc x d e1 (encL l ++ r) hx (by omega) hg.1]
      simp only [Option.bind_some]
      rw [decS_enc l d _ e r hf he hg.2]
      rfl
end

theorem fmFrom_all (d : Nat) : ∀ (l : List V) (a : Nat), (∀ x ∈ l, ∃ e, x.fm = some e ∧ e ≤ d) → a ≤ d → ∃ e, fmFrom a l = some e ∧ e ≤ d
  | [], a, _, ha => ⟨a, rfl, ha⟩
  | x :: l, a, h, ha => by
    obtain ⟨e, he, hd⟩ := h x (by simp)
    rw [fmFrom, he]
    exact fmFrom_all d l _ (fun y hy => h y (by simp [hy])) (by omega)

theorem decS_inv {f : List UInt8 → Option (V × List UInt8)} {P : V → Prop} (hf : ∀ l x r, f l = some (x, r) → l = x.enc ++ r ∧ P x) : ∀ (n : Nat) (l : List UInt8) (xs : List V) (r : List UInt8), decS f n l = some (xs, r) → l = encL xs ++ r ∧ xs.length = n ∧ ∀ x ∈ xs, P x
  | 0, l, xs, r, h => by simp [decS] at h; obtain ⟨rfl, rfl⟩ := h; simp [encL]
  | n + 1, l, xs, r, h => by
    rw [decS] at h
    cases hx : f l with
    | none => simp [hx] at h
    | some y =>
      obtain ⟨x, r1⟩ := y
      simp only [hx] at h
      cases hy : decS f n r1 with
      | none => simp [hy] at h
      | some z =>
        obtain ⟨ys, r2⟩ := z
        simp only [hy] at h
        simp at h
        obtain ⟨rfl, rfl⟩ := h
        obtain ⟨h1, h2⟩ := hf l x r1 hx
        obtain ⟨h3, h4, h5⟩ := decS_inv hf n r1 ys r2 hy
        refine ⟨by rw [encL, List.append_assoc, ← h3, ← h1], by simp [h4], fun z hz => ?_⟩
        rcases List.mem_cons.1 hz with rfl | hz
        · exact h2
        · exact h5 z hz

theorem strOf_size (l : List UInt8) : (strOf l).size = l.length := by show l.toArray.size = _; simp
theorem strOf_list (l : List UInt8) : (strOf l).data.toList = l := rfl

theorem enc_dec_num {u : Nat} {r r' : List UInt8} (h : rn 0 0 r = some (u, r')) : 1 :: r = (V.mk 1 (sgn u) ByteArray.empty []).enc ++ r' := by
  rw [V.enc, if_pos rfl, unsg_sgn _ (by omega), Int.toNat_natCast, rn0_inv h]; rfl
theorem enc_dec_txt {n : Nat} {r r' : List UInt8} (h : rlen r = some (n, r')) : 2 :: r = (V.mk 2 0 (strOf (r'.take n)) []).enc ++ r'.drop n := by
  obtain ⟨h1, h2⟩ := rlen_inv h
  rw [V.enc, if_neg (by decide), if_pos rfl, strOf_size, strOf_list, List.length_take, Nat.min_eq_left h2, List.cons_append, List.append_assoc, List.take_append_drop, h1]

def Canon (d : Nat) (x : V) : Prop := ∃ e, x.fm = some e ∧ e ≤ d

theorem byte_eq {c : UInt8} {n : Nat} (h : c.toNat = n) : c = UInt8.ofNat n := by rw [← h]; simp

theorem canon_1 (n : Int) (d : Nat) : Canon d (.mk 1 n ByteArray.empty []) := ⟨0, by rw [V.fm, if_pos rfl, if_pos ⟨rfl, rfl⟩], by omega⟩
theorem canon_2 (s : ByteArray) (d : Nat) : Canon d (.mk 2 0 s []) := ⟨0, by rw [V.fm, if_neg (by decide), if_pos rfl, if_pos ⟨rfl, rfl⟩], by omega⟩

theorem enc_dec : ∀ (d : Nat) (l : List UInt8) (x : V) (r : List UInt8), dec d l = some (x, r) → l = x.enc ++ r ∧ Canon d x := by
  intro d
  induction d with
  | zero =>
    intro l x r h
    cases l with
    | nil => simp [dec] at h
    | cons c l =>
      simp only [dec] at h
      split at h
      · rename_i hc
        cases hx : rn 0 0 l with
        | none => simp [hx] at h
        | some y => obtain ⟨u, r'⟩ := y; simp [hx] at h; obtain ⟨rfl, rfl⟩ := h; rw [byte_eq hc]; exact ⟨enc_dec_num hx, canon_1 _ _⟩
      · split at h
        · rename_i hc
          cases hx : rlen l with
          | none => simp [hx] at h
          | some y => obtain ⟨u, r'⟩ := y; simp [hx] at h; obtain ⟨rfl, rfl⟩ := h; rw [byte_eq hc]; exact ⟨enc_dec_txt hx, canon_2 _ _⟩
        · simp at h
  | succ d ih =>
    intro l x r h
    cases l with
    | nil => simp [dec] at h
    | cons c l =>
      simp only [dec] at h
      split at h
      · rename_i hc
        cases hx : rn 0 0 l with
        | none => simp [hx] at h
        | some y => obtain ⟨u, r'⟩ := y; simp [hx] at h; obtain ⟨rfl, rfl⟩ := h; rw [byte_eq hc]; exact ⟨enc_dec_num hx, canon_1 _ _⟩
      · split at h
        · rename_i hc
          cases hx : rlen l with
          | none => simp [hx] at h
          | some y => obtain ⟨u, r'⟩ := y; simp [hx] at h; obtain ⟨rfl, rfl⟩ := h; rw [byte_eq hc]; exact ⟨enc_dec_txt hx, canon_2 _ _⟩
        · split at h
          · rename_i hc
            cases hx : rlen l with
            | none => simp [hx] at h
            | some y =>
              obtain ⟨u, r'⟩ := y
              simp only [hx, Option.bind_some] at h
              cases hy : decS (dec d) u r' with
              | none => simp [hy] at h
              | some z =>
                obtain ⟨ys, r2⟩ := z
                simp [hy] at h
                obtain ⟨rfl, rfl⟩ := h
                obtain ⟨h1, h2⟩ := rlen_inv hx
                obtain ⟨h3, h4, h5⟩ := decS_inv ih u r' ys r2 hy
                obtain ⟨e, he, hd⟩ := fmFrom_all d ys 0 h5 (by omega)
                refine ⟨?_, e + 1, ?_, by omega⟩
                · rw [byte_eq hc, V.enc, if_neg (by decide), if_neg (by decide), h4, List.cons_append, List.append_assoc, ← h3, ← h1]; rfl
                · rw [V.fm, if_neg (by decide), if_neg (by decide), if_pos rfl, if_pos ⟨rfl, rfl⟩, he]; rfl
          · simp at h

/-- what Decode comes to -/
def decode (l : List UInt8) : Option V := match dec 16 l with | some (x, []) => some x | _ => none

/-- what Check returns -/
def ckOf (x : Option Nat) : Int := match x with | none => 1 | some d => if d > 16 then 2 else 0
theorem ckOf_none : ckOf none = 1 := rfl
theorem ckOf_zero {x : V} : ckOf x.fm = 0 ↔ Canon 16 x := by
  unfold ckOf Canon
  cases x.fm with
  | none => simp
  | some d => simp

theorem decode_enc {x : V} (hk : ckOf x.fm = 0) (hg : x.good) : decode x.enc = some x := by
  obtain ⟨e, he, hd⟩ := ckOf_zero.1 hk
  unfold decode
  have := dec_enc x 16 e [] he hd hg
  rw [List.append_nil] at this
  rw [this]

theorem decode_some {l : List UInt8} {x : V} (h : decode l = some x) : x.enc = l ∧ ckOf x.fm = 0 := by
  unfold decode at h
  split at h
  · rename_i y hy
    injection h with h; subst h
    obtain ⟨h1, h2⟩ := enc_dec _ _ _ _ hy
    exact ⟨by rw [h1, List.append_nil], ckOf_zero.2 h2⟩
  · cases h

theorem enc_inj {x y : V} {r r' : List UInt8} (hx : ckOf x.fm = 0) (hy : ckOf y.fm = 0) (gx : x.good) (gy : y.good) (h : x.enc ++ r = y.enc ++ r') : x = y := by
  obtain ⟨e, he, hd⟩ := ckOf_zero.1 hx
  obtain ⟨e', he', hd'⟩ := ckOf_zero.1 hy
  have h1 := dec_enc x 16 e r he hd gx
  have h2 := dec_enc y 16 e' r' he' hd' gy
  rw [h, h2] at h1
  injection h1 with h1; injection h1 with h1; exact h1.symm

/-- no encoding is the beginning of another one -/
theorem enc_prefix {x y : V} (hx : ckOf x.fm = 0) (hy : ckOf y.fm = 0) (gx : x.good) (gy : y.good) (n : Nat) (hn : n = min x.enc.length y.enc.length) (h : x.enc.take n = y.enc.take n) : x = y := by
  by_cases hle : x.enc.length ≤ y.enc.length
  · rw [hn, Nat.min_eq_left hle, List.take_length] at h
    refine enc_inj (r := y.enc.drop x.enc.length) (r' := []) hx hy gx gy ?_
    rw [List.append_nil]
    conv => lhs; lhs; rw [h]
    exact List.take_append_drop _ _
  · rw [hn, Nat.min_eq_right (by omega), List.take_length] at h
    refine enc_inj (r := []) (r' := x.enc.drop y.enc.length) hx hy gx gy ?_
    rw [List.append_nil]
    conv => rhs; lhs; rw [← h]
    exact (List.take_append_drop _ _).symm

theorem numF_mono : ∀ (f u v : Nat), u ≤ v → (numF f u).length ≤ (numF f v).length
  | 0, u, v, _ => by simp [numF]
  | f + 1, u, v, h => by
    rw [numF, numF]
    by_cases hv : v < 128
    · rw [if_pos (by omega), if_pos hv]; simp
    · rw [if_neg hv]
      split
      · simp
      · have := numF_mono f (u / 128) (v / 128) (Nat.div_le_div_right h)
        simpa using this

theorem num_mono {u v : Nat} (h : u ≤ v) : (num u).length ≤ (num v).length := numF_mono 9 u v h

theorem num_pos' (u : Nat) : 0 < (num u).length := by
  unfold num; rw [numF]; split <;> simp

theorem enc_int (n : Int) : (V.mk 1 n ByteArray.empty []).enc = 1 :: num (unsg n).toNat := by rw [V.enc, if_pos rfl]
theorem ck_int (n : Int) : ckOf (V.mk 1 n ByteArray.empty []).fm = 0 := ckOf_zero.2 (canon_1 n 16)

theorem size_int_mono {a b : Int} (h : 0 ≤ a ∧ a ≤ b ∨ a < 0 ∧ b ≤ a) : (num (unsg a).toNat).length ≤ (num (unsg b).toNat).length := by
  refine num_mono ?_
  unfold unsg
  rcases h with h | h
  · rw [if_pos h.1, if_pos (by omega)]; omega
  · rw [if_neg (by omega), if_neg (by omega)]; omega

end Go.Proofs.YtjhecmmbpmpmgaaDoor

namespace Go.Proofs.YtjhecmmbpmpmgaaDoor
open Go.RowKit

def cntL (f : V → Nat) : Nat → List V → Nat
  | n, [] => n
  | n, x :: l => if n ≤ 1000 then cntL f (n + f x) l else n

/-- count at depth d - 1 -/
def cnt : Nat → V → Nat
  | 0, _ => 1000
  | d + 1, .mk _ _ s l => if 150 < l.length then 1000 else cntL (cnt d) (1 + s.size / 200) l

theorem cntL_le (f : V → Nat) : ∀ (l : List V) (n : Nat), n ≤ cntL f n l
  | [], n => by simp [cntL]
  | x :: l, n => by
    rw [cntL]
    split
    · have := cntL_le f l (n + f x); omega
    · omega

theorem cntL_bound (f : V → Nat) (B : Nat) (h1 : 1000 ≤ B) : ∀ (l : List V) (n : Nat), n ≤ B → (∀ x ∈ l, f x + 1000 ≤ B) → cntL f n l ≤ B
  | [], n, hn, _ => by simpa [cntL] using hn
  | x :: l, n, hn, hf => by
    rw [cntL]
    split
    · exact cntL_bound f B h1 l _ (by have := hf x (by simp); omega) (fun y hy => hf y (by simp [hy]))
    · exact hn

theorem cntL_small (f : V → Nat) : ∀ (l : List V) (n : Nat), cntL f n l ≤ 1000 → cntL f n l = n + (l.map f).sum
  | [], n, _ => by simp [cntL]
  | x :: l, n, h => by
    rw [cntL] at h ⊢
    split at h
    · rename_i hn
      rw [if_pos hn, cntL_small f l _ h]
      simp; omega
    · omega

theorem cntL_step (f : V → Nat) (m i : Nat) (l : List V) (h : i < l.length) : cntL f m (l.drop i) = if m ≤ 1000 then cntL f (m + f l[i]) (l.drop (i + 1)) else m := by
  rw [List.drop_eq_getElem_cons h, cntL]

mutual
theorem cnt_sz : ∀ (x : V) (d : Nat), cnt d x ≤ 999 → x.sz ≤ cnt d x ∧ x.enc.length ≤ 210 * cnt d x
  | .mk k n s l, 0, h => by simp [cnt] at h
  | .mk k n s l, d + 1, h => by
    rw [cnt] at h ⊢
    split at h
    · omega
    · rename_i hl
      rw [if_neg hl, cntL_small _ _ _ (by omega)]
      rw [cntL_small _ _ _ (by omega)] at h
      obtain ⟨h1, h2⟩ := cnt_szL l d (by omega)
      rw [V.sz, V.enc]
      refine ⟨by omega, ?_⟩
      have hn1 := num_len (unsg n).toNat
      have hn2 := num_len s.size
      have hn3 := num_len l.length
      have hs : s.data.toList.length = s.size := rfl
      split
      · simp; omega
      · split
        · simp only [List.length_cons, List.length_append, hs]; omega
        · simp only [List.length_cons, List.length_append]; omega
theorem cnt_szL : ∀ (l : List V) (d : Nat), (l.map (cnt d)).sum ≤ 999 → szL l ≤ (l.map (cnt d)).sum ∧ (encL l).length ≤ 210 * (l.map (cnt d)).sum
  | [], d, _ => by simp [szL, encL]
  | x :: l, d, h => by
    simp only [List.map_cons, List.sum_cons] at h ⊢
    obtain ⟨h1, h2⟩ := cnt_sz x d (by omega)
    obtain ⟨h3, h4⟩ := cnt_szL l d (by omega)
    rw [szL, encL, List.length_append]
    omega
end

end Go.Proofs.YtjhecmmbpmpmgaaDoor

namespace Go.Proofs.YtjhecmmbpmpmgaaDoor
open Go.RowKit

def okL (l : List V) : Bool := l.all fun x => x.fm.isSome

theorem fmFrom_isSome : ∀ (l : List V) (a : Nat), (fmFrom a l).isSome = okL l
  | [], a => by simp [fmFrom, okL]
  | x :: l, a => by
    rw [fmFrom]
    cases hx : x.fm with
    | none => simp [okL, hx]
    | some e => simp only; rw [fmFrom_isSome l]; simp [okL, hx]

theorem okL_step (l : List V) (k : Nat) (hk : k < l.length) : okL (l.drop k) = (l[k].fm.isSome && okL (l.drop (k + 1))) := by
  unfold okL; rw [List.drop_eq_getElem_cons hk, List.all_cons]

theorem fm3 (n : Int) (s : ByteArray) (l : List V) : (V.mk 3 n s l).fm.isSome = (okL l && (decide (n = 0) && decide (s.size = 0))) := by
  rw [V.fm, if_neg (by decide), if_neg (by decide), if_pos rfl]
  split
  · rename_i h; simp [h.1, h.2, fmFrom_isSome]
  · rename_i h
    cases h1 : decide (n = 0) <;> cases h2 : decide (s.size = 0) <;> simp_all

mutual
def V.dep : V → Nat
  | .mk k _ _ l => if k = 3 then depFrom 0 l + 1 else 0
def depFrom (a : Nat) : List V → Nat
  | [] => a
  | x :: l => depFrom (max a x.dep) l
end

mutual
theorem dep_fm : ∀ (x : V) (d : Nat), x.fm = some d → x.dep = d
  | .mk k n s l, d, h => by
    rw [V.fm] at h
    rw [V.dep]
    split at h
    · rename_i hk; rw [if_neg (by omega)]; split at h <;> simp at h; exact h
    · split at h
      · rename_i hk; rw [if_neg (by omega)]; split at h <;> simp at h; exact h
      · split at h
        · rename_i hk; rw [if_pos hk]
          split at h
          · cases hf : fmFrom 0 l with
            | none => simp [hf] at h
            | some e => rw [hf] at h; simp at h; rw [depFrom_fm l 0 e hf]; exact h
          · simp at h
        · simp at h
theorem depFrom_fm : ∀ (l : List V) (a d : Nat), fmFrom a l = some d → depFrom a l = d
  | [], a, d, h => by simpa [fmFrom, depFrom] using h
  | x :: l, a, d, h => by
    rw [fmFrom] at h
    rw [depFrom]
    cases hx : x.fm with
    | none => simp [hx] at h
    | some e => simp only [hx] at h; rw [dep_fm x e hx]; exact depFrom_fm l _ d h
end

mutual
theorem dep_le : ∀ (x : V), x.dep ≤ x.sz
  | .mk k n s l => by
    rw [V.dep, V.sz]
    split
    · have := depFrom_le l 0; omega
    · omega
theorem depFrom_le : ∀ (l : List V) (a : Nat), depFrom a l ≤ a + szL l
  | [], a => by simp [depFrom]
  | x :: l, a => by
    rw [depFrom, szL]
    have h1 := dep_le x
    have h2 := depFrom_le l (max a x.dep)
    omega
end

theorem depFrom_step (a k : Nat) (l : List V) (hk : k < l.length) : depFrom a (l.drop k) = depFrom (max a l[k].dep) (l.drop (k + 1)) := by
  rw [List.drop_eq_getElem_cons hk, depFrom]

end Go.Proofs.YtjhecmmbpmpmgaaDoor

namespace Go.Proofs.YtjhecmmbpmpmgaaDoor
open Go.RowKit Go.Lib

/-- The world has turned in new blocks and in v's own block alone, and v' lies in v's block or in a new one. -/
structure Wr (w : World) (v : Value) (w' : World) (v' : Value) : Prop where
  grown : w.grownBy w' v.ownBlock
  fresh : v'.ownBlock = v.ownBlock ∨ ∀ k, v'.ownBlock = some k → w.heap.size ≤ k

theorem grownBy_refl (w : World) (r : Option Nat) : w.grownBy w r := ⟨rfl, rfl, rfl, Nat.le_refl _, fun _ _ _ => rfl⟩
theorem Wr.refl (w : World) (v : Value) : Wr w v w v := ⟨grownBy_refl w _, .inl rfl⟩
theorem Wr.trans {w w1 w2 : World} {v v1 v2 : Value} (h : Wr w v w1 v1) (g : Wr w1 v1 w2 v2) : Wr w v w2 v2 := by
  refine ⟨⟨g.grown.os.trans h.grown.os, g.grown.tape.trans h.grown.tape, g.grown.output.trans h.grown.output, Nat.le_trans h.grown.size g.grown.size, fun k hk hne => ?_⟩, ?_⟩
  · rw [g.grown.block k (Nat.lt_of_lt_of_le hk h.grown.size) ?_, h.grown.block k hk hne]
    intro e
    rcases h.fresh with h1 | h1
    · exact hne (e.trans h1)
    · have := h1 k e.symm; omega
  · rcases g.fresh with g1 | g1
    · rw [g1]; exact h.fresh
    · exact .inr fun k hk => Nat.le_trans h.grown.size (g1 k hk)
theorem Wr.below {w w' : World} {v : Value} (h : Below w.heap.size w w') : Wr w v w' v :=
  ⟨⟨h.os, h.tape, h.output, h.size, fun k hk _ => h.block k hk⟩, .inl rfl⟩
theorem Wr.alloc {w w1 : World} {v v1 : Value} (h : Wr w v w1 v1) (o : Obj) : Wr w v (w1.alloc o) v1 := h.trans (Wr.below ((Below.refl _ _).alloc (Nat.le_refl _) o))
theorem Wr.then {w w1 w2 : World} {v v1 : Value} (h : Wr w v w1 v1) (hb : Below w1.heap.size w1 w2) : Wr w v w2 v1 := h.trans (Wr.below hb)
/-- nothing old has turned where the row is new or none -/
theorem Wr.toBelow {w w' : World} {v v' : Value} {B : Nat} (h : Wr w v w' v') (hB : B ≤ w.heap.size) (hv : ∀ k, v.ownBlock = some k → B ≤ k) : Below B w w' :=
  ⟨h.grown.os, h.grown.tape, h.grown.output, h.grown.size, fun k hk => h.grown.block k (by omega) (fun e => by have := hv k e.symm; omega)⟩

section
variable {P : Program} (w : World)
theorem run_app (t ty e : TypeId) (i : TypeInfo) (z : Value) (size bytes : Nat) (ht : P.underlying t = some (.slice e)) (hi : P.info? e = some i) (hz : i.zero = some z)
    (hsize : i.size = size) (hby : i.bytes = bytes) (hzs : z.cells.size = size) (hsz : 0 < size)
    (v : Value) (n : Nat) (xs : List Value) (hown : w.ownsRow 0 e size v n xs)
    (a : Addr) (m c : Nat) (news : List Value) (hl : news.length = m * size) (hnews : ∀ j u, news[j]? = some u → w.cell? (a.add j) = some u) (h1 : ∀ u ∈ news, u.oneCell' = true)
    (h63 : n + m ≤ maxLen) (hbytes : (n + m) * bytes ≤ 140737488355328) :
    ∃ v' w', (Builtin.append_ #[t, t] ty #[v, .slice (some a) m c]).run P w = .ok v' w' ∧ w'.ownsRow 0 e size v' (n + m) (xs ++ news) ∧ Wr w v w' v' ∧ (v' = .slice none 0 0 ↔ v = .slice none 0 0 ∧ m = 0) := by
  obtain ⟨v', w', hr, h2, h3, h4⟩ := run_append_own (P := P) w 0 t ty e i z size bytes ht hi hz hsize hby hzs hsz v n xs hown a m c news hl hnews h1 h63 hbytes (Nat.zero_le _)
  refine ⟨v', w', hr, h2, ⟨h3, ?_⟩, h4⟩
  have hsmall : n + m ≤ 9223372036854775807 := by simp only [maxLen] at h63; omega
  subst hsize; subst hby
  rcases hown.2 with ⟨rfl, rfl⟩ | ⟨g, cap, cur, rfl, _, hg, hnc, hcm, hcs, htake⟩
  · have hx : xs = [] := List.eq_nil_of_length_eq_zero (by simpa using hown.1)
    subst hx
    obtain ⟨v2, w2, hr2, g2, _, _⟩ := run_append_own (P := P) w w.heap.size t ty e i z i.size i.bytes ht hi hz rfl rfl hzs hsz (.slice none 0 0) 0 [] (World.ownsRow_nil w _ e i.size) a m c news hl hnews h1 h63 hbytes (Nat.le_refl _)
    rw [hr] at hr2
    injection hr2 with e1 e2
    subst e1
    exact .inr fun k hk => (g2.lt k hk).1
  · by_cases hroom : n + m ≤ cap
    · have hfit : n * i.size + news.length ≤ cur.size := by rw [hl, hcs, ← Nat.add_mul]; exact Nat.mul_le_mul_right _ hroom
      have hr' := run_append_room (P := P) w t ty e i ht hi g n cap cur hg a m c news hl hnews h1 hroom hfit
      rw [hr] at hr'
      injection hr' with e1 e2
      subst e1
      exact .inl rfl
    · have holds : ∀ j u, xs[j]? = some u → w.cell? ((⟨g, 0, none⟩ : Addr).add j) = some u := hown.cells (g := g) rfl
      have hr' := run_append_grow (P := P) w t ty e i z ht hi hz ⟨g, 0, none⟩ n cap xs hown.1 holds a m c news hl hnews (by omega) (by omega) (growslice_fits (by omega) hbytes)
      rw [hr] at hr'
      injection hr' with e1 e2
      subst e1
      refine .inr fun k hk => ?_
      simp [Value.ownBlock] at hk
      omega

theorem run_app_string (t u ty e : TypeId) (i : TypeInfo) (ht : P.underlying t = some (.slice e)) (hu : P.underlying u = some .string) (hi : P.info? e = some i) (hz : i.zero = some (.int .u8 0))
    (hsize : i.size = 1) (hby : i.bytes = 1)
    (v : Value) (n : Nat) (xs : List Value) (hown : w.ownsRow 0 e 1 v n xs) (s : ByteArray)
    (h63 : n + s.size ≤ maxLen) (hbytes : n + s.size ≤ 140737488355328) :
    ∃ v' w', (Builtin.append_ #[t, u] ty #[v, .string s]).run P w = .ok v' w' ∧ w'.ownsRow 0 e 1 v' (n + s.size) (xs ++ strCells s) ∧ Wr w v w' v' ∧ (v' = .slice none 0 0 ↔ v = .slice none 0 0 ∧ s.size = 0) := by
  obtain ⟨v', w', hr, h2, h3, h4⟩ := run_append_own_string (P := P) w 0 t u ty e i ht hu hi hz hsize hby v n xs hown s h63 hbytes (Nat.zero_le _)
  refine ⟨v', w', hr, h2, ⟨h3, ?_⟩, h4⟩
  have hsmall : n + s.size ≤ 9223372036854775807 := by simp only [maxLen] at h63; omega
  have hxl : xs.length = n := by simpa using hown.1
  rcases hown.2 with ⟨rfl, rfl⟩ | ⟨g, cap, cur, rfl, _, hg, hnc, hcm, hcs, htake⟩
  · have hx : xs = [] := List.eq_nil_of_length_eq_zero hxl
    subst hx
    obtain ⟨v2, w2, hr2, g2, _, _⟩ := run_append_own_string (P := P) w w.heap.size t u ty e i ht hu hi hz hsize hby (.slice none 0 0) 0 [] (World.ownsRow_nil w _ e 1) s h63 hbytes (Nat.le_refl _)
    rw [hr] at hr2
    injection hr2 with e1 e2
    subst e1
    exact .inr fun k hk => (g2.lt k hk).1
  · by_cases hroom : n + s.size ≤ cap
    · have hcs' : cur.size = cap := by simpa using hcs
      have hr' := run_append_room_string (P := P) w t u ty e i ht hu hi hsize g n cap cur hg s hroom (by omega)
      rw [hr] at hr'
      injection hr' with e1 e2
      subst e1
      exact .inl rfl
    · have holds : ∀ j u, xs[j]? = some u → w.cell? ((⟨g, 0, none⟩ : Addr).add j) = some u := hown.cells (g := g) rfl
      have hr' := run_append_grow_string (P := P) w t u ty e i (.int .u8 0) ht hu hi hz ⟨g, 0, none⟩ n cap xs (by rw [hsize]; simpa using hxl) holds s (by omega) (by omega) (by rw [hby]; exact growslice_fits (by omega) (by omega))
      rw [hr] at hr'
      injection hr' with e1 e2
      subst e1
      refine .inr fun k hk => ?_
      simp [Value.ownBlock] at hk
      omega

/-- append(row, source...) for the walk. -/
theorem wpList_app {ops : Array Oper} {rest : List Oper} {o : Oper} {a : Act} {Q : Exit → Act → World → Prop} (hgd : o.guard = none) (s x : Operand) (t : TypeId)
    (ho : o.op = .call { callee := .builtin .append, args := #[s, x], argTypes := #[t, t] })
    (e : TypeId) (i : TypeInfo) (z : Value) (size bytes : Nat) (ht : P.underlying t = some (.slice e)) (hi : P.info? e = some i) (hz : i.zero = some z)
    (hsize : i.size = size) (hby : i.bytes = bytes) (hzs : z.cells.size = size) (hsz : 0 < size)
    (v : Value) (n : Nat) (xs : List Value) (hs : a.eval s = v) (hown : w.ownsRow 0 e size v n xs)
    (ad : Addr) (m c : Nat) (news : List Value) (hx : a.eval x = .slice (some ad) m c) (hl : news.length = m * size) (hnews : ∀ j u, news[j]? = some u → w.cell? (ad.add j) = some u) (h1 : ∀ u ∈ news, u.oneCell' = true)
    (h63 : n + m ≤ maxLen) (hbytes : (n + m) * bytes ≤ 140737488355328)
    (h : ∀ v' w', w'.ownsRow 0 e size v' (n + m) (xs ++ news) → Wr w v w' v' → (v' = .slice none 0 0 ↔ v = .slice none 0 0 ∧ m = 0) → wpList P ops Q rest (a.put o.dst v') w') : wpList P ops Q (o :: rest) a w := by
  refine wpList_plain hgd fun K hK => ?_
  obtain ⟨v', w', hr, h2, h3, h4⟩ := run_app (P := P) w t o.type e i z size bytes ht hi hz hsize hby hzs hsz v n xs hown ad m c news hl hnews h1 h63 hbytes
  unfold Oper.wp execOp
  simp only [ho, resolve, invoke, builtin, Sem.run_bind, Sem.run_pure, Result.andThen_ok, List.map_toArray, List.map_cons, List.map_nil, hs, hx, hr]
  exact hK _ _ (h v' w' h2 h3 h4)

/-- append(row, string...) for the walk. -/
theorem wpList_app_string {ops : Array Oper} {rest : List Oper} {o : Oper} {a : Act} {Q : Exit → Act → World → Prop} (hgd : o.guard = none) (sl x : Operand) (t u : TypeId)
    (ho : o.op = .call { callee := .builtin .append, args := #[sl, x], argTypes := #[t, u] })
    (e : TypeId) (i : TypeInfo) (ht : P.underlying t = some (.slice e)) (hu : P.underlying u = some .string) (hi : P.info? e = some i) (hz : i.zero = some (.int .u8 0))
    (hsize : i.size = 1) (hby : i.bytes = 1)
    (v : Value) (n : Nat) (xs : List Value) (hs : a.eval sl = v) (hown : w.ownsRow 0 e 1 v n xs) (s : ByteArray) (hx : a.eval x = .string s)
    (h63 : n + s.size ≤ maxLen) (hbytes : n + s.size ≤ 140737488355328)
    (h : ∀ v' w', w'.ownsRow 0 e 1 v' (n + s.size) (xs ++ strCells s) → Wr w v w' v' → wpList P ops Q rest (a.put o.dst v') w') : wpList P ops Q (o :: rest) a w := by
  refine wpList_plain hgd fun K hK => ?_
  obtain ⟨v', w', hr, h2, h3, _⟩ := run_app_string (P := P) w t u o.type e i ht hu hi hz hsize hby v n xs hown s h63 hbytes
  unfold Oper.wp execOp
  simp only [ho, resolve, invoke, builtin, Sem.run_bind, Sem.run_pure, Result.andThen_ok, List.map_toArray, List.map_cons, List.map_nil, hs, hx, hr]
  exact hK _ _ (h v' w' h2 h3)
/-- append(row, source...) as one step of a region that draws. -/
theorem step_app {ops : Array Oper} {o : Oper} {a : Act} {K : Act → World → Prop} {Q : Exit → Act → World → Prop} {E : Prop} (hgd : o.guard = none) (s x : Operand) (t : TypeId)
    (ho : o.op = .call { callee := .builtin .append, args := #[s, x], argTypes := #[t, t] })
    (e : TypeId) (i : TypeInfo) (z : Value) (size bytes : Nat) (ht : P.underlying t = some (.slice e)) (hi : P.info? e = some i) (hz : i.zero = some z)
    (hsize : i.size = size) (hby : i.bytes = bytes) (hzs : z.cells.size = size) (hsz : 0 < size)
    (v : Value) (n : Nat) (xs : List Value) (hs : a.eval s = v) (hown : w.ownsRow 0 e size v n xs)
    (ad : Addr) (m c : Nat) (news : List Value) (hx : a.eval x = .slice (some ad) m c) (hl : news.length = m * size) (hnews : ∀ j u, news[j]? = some u → w.cell? (ad.add j) = some u) (h1 : ∀ u ∈ news, u.oneCell' = true)
    (h63 : n + m ≤ maxLen) (hbytes : (n + m) * bytes ≤ 140737488355328)
    (h : ∀ v' w', w'.ownsRow 0 e size v' (n + m) (xs ++ news) → Wr w v w' v' → (v' = .slice none 0 0 ↔ v = .slice none 0 0 ∧ m = 0) → K (a.put o.dst v') w') :
    if Region.wanted o (yielded ops a.tmps) = true then Oper.wp P o a w K Q else E := by
  have hw : Region.wanted o (yielded ops a.tmps) = true := by simp [Region.wanted, hgd]
  rw [if_pos hw]
  obtain ⟨v', w', hr, h2, h3, h4⟩ := run_app (P := P) w t o.type e i z size bytes ht hi hz hsize hby hzs hsz v n xs hown ad m c news hl hnews h1 h63 hbytes
  unfold Oper.wp execOp
  simp only [ho, resolve, invoke, builtin, Sem.run_bind, Sem.run_pure, Result.andThen_ok, List.map_toArray, List.map_cons, List.map_nil, hs, hx, hr]
  exact h v' w' h2 h3 h4

/-- append(row, string...) as one step of a region that draws. -/
theorem step_app_string {ops : Array Oper} {o : Oper} {a : Act} {K : Act → World → Prop} {Q : Exit → Act → World → Prop} {E : Prop} (hgd : o.guard = none) (sl x : Operand) (t u : TypeId)
    (ho : o.op = .call { callee := .builtin .append, args := #[sl, x], argTypes := #[t, u] })
    (e : TypeId) (i : TypeInfo) (ht : P.underlying t = some (.slice e)) (hu : P.underlying u = some .string) (hi : P.info? e = some i) (hz : i.zero = some (.int .u8 0))
    (hsize : i.size = 1) (hby : i.bytes = 1)
    (v : Value) (n : Nat) (xs : List Value) (hs : a.eval sl = v) (hown : w.ownsRow 0 e 1 v n xs) (s : ByteArray) (hx : a.eval x = .string s)
    (h63 : n + s.size ≤ maxLen) (hbytes : n + s.size ≤ 140737488355328)
    (h : ∀ v' w', w'.ownsRow 0 e 1 v' (n + s.size) (xs ++ strCells s) → Wr w v w' v' → K (a.put o.dst v') w') :
    if Region.wanted o (yielded ops a.tmps) = true then Oper.wp P o a w K Q else E := by
  have hw : Region.wanted o (yielded ops a.tmps) = true := by simp [Region.wanted, hgd]
  rw [if_pos hw]
  obtain ⟨v', w', hr, h2, h3, _⟩ := run_app_string (P := P) w t u o.type e i ht hu hi hz hsize hby v n xs hown s h63 hbytes
  unfold Oper.wp execOp
  simp only [ho, resolve, invoke, builtin, Sem.run_bind, Sem.run_pure, Result.andThen_ok, List.map_toArray, List.map_cons, List.map_nil, hs, hx, hr]
  exact h v' w' h2 h3
end

theorem own_form {w : World} {base : Nat} {e : TypeId} {size : Nat} {v : Value} {n : Nat} {xs : List Value} (h : w.ownsRow base e size v n xs) (hn : 0 < n) : ∃ g cap, v = .slice (some ⟨g, 0, none⟩) n cap := by
  rcases h.2 with ⟨_, h0⟩ | ⟨g, cap, cur, rfl, _⟩
  · omega
  · exact ⟨g, cap, rfl⟩

theorem Wr.cell {w w' : World} {v v' : Value} (h : Wr w v w' v') {a : Addr} {x : Value} (hx : w.cell? a = some x) (hne : some a.block ≠ v.ownBlock) : w'.cell? a = some x := h.grown.cell hx hne
theorem Wr.ne {w w' : World} {v v' : Value} (h : Wr w v w' v') {k : Nat} (hk : k < w.heap.size) (hne : some k ≠ v.ownBlock) : some k ≠ v'.ownBlock := by
  intro e
  rcases h.fresh with h1 | h1
  · exact hne (e.trans h1)
  · have := h1 k e.symm; omega

end Go.Proofs.YtjhecmmbpmpmgaaDoor
