/- digest's rotated, word and put, and the reference's word, by their contracts. -/
import Derived.Test.YtjhecmmbpmpmgaaDoorDShaA
import Derived.Test.YtjhecmmbpmpmgaaDoorPApp
import Derived.IntWalk
namespace Go.Proofs.YtjhecmmbpmpmgaaDoor
open Go.RowKit Go.Lib

theorem xor3_bits {a b c : Nat} (ha : a < 4294967296) (hb : b < 4294967296) (hc : c < 4294967296) : bits .xor .u32 (bits .xor .u32 (a : Int) (b : Int)) (c : Int) = (((a ^^^ b) ^^^ c : Nat) : Int) := by
  rw [u32_xor_nat _ _ ha hb, u32_xor_nat _ _ (xor_lt ha hb) hc]

theorem rotated_e (x : Nat) (hx : x < 4294967296) (w : World) : Calls Tryd.prog 103 #[.int .u32 x, .int .i64 6, .int .i64 11, .int .i64 25] w fun e w' => e = .returned (.int .u32 (Sg1 x)) ∧ w = w' := by
  have HR := Lib.hid (xor3_bits (rr_lt 6 hx) (rr_lt 11 hx) (rr_lt 25 hx))
  go_enter Tryd.func103, Tryd.ntmps103
  go_wp2_with fail
  refine (rotl_6 x hx _).mono ?_
  rintro e w' ⟨rfl, rfl⟩
  go_wp2_with fail
  refine (rotl_11 x hx _).mono ?_
  rintro e w' ⟨rfl, rfl⟩
  go_wp2_with fail
  refine (rotl_25 x hx _).mono ?_
  rintro e w' ⟨rfl, rfl⟩
  go_wp2_with fail
  go_ret
  exact ⟨ret_eq (by unfold Sg1; rw [← HR.out]; rfl), rfl⟩

theorem rotated_a (x : Nat) (hx : x < 4294967296) (w : World) : Calls Tryd.prog 103 #[.int .u32 x, .int .i64 2, .int .i64 13, .int .i64 22] w fun e w' => e = .returned (.int .u32 (Sg0 x)) ∧ w = w' := by
  have HR := Lib.hid (xor3_bits (rr_lt 2 hx) (rr_lt 13 hx) (rr_lt 22 hx))
  go_enter Tryd.func103, Tryd.ntmps103
  go_wp2_with fail
  refine (rotl_2 x hx _).mono ?_
  rintro e w' ⟨rfl, rfl⟩
  go_wp2_with fail
  refine (rotl_13 x hx _).mono ?_
  rintro e w' ⟨rfl, rfl⟩
  go_wp2_with fail
  refine (rotl_22 x hx _).mono ?_
  rintro e w' ⟨rfl, rfl⟩
  go_wp2_with fail
  go_ret
  exact ⟨ret_eq (by unfold Sg0; rw [← HR.out]; rfl), rfl⟩

/-- the first k bytes of a word -/
def wpart (l : List UInt8) (k : Nat) : Nat := (l.take k).foldl (fun n c => n * 256 + c.toNat) 0

theorem wpart_succ (l : List UInt8) (k : Nat) (h : k < l.length) : wpart l (k + 1) = wpart l k * 256 + l[k].toNat := by
  unfold wpart
  rw [List.take_succ_eq_append_getElem h, List.foldl_append]; rfl

theorem wpart_lt (l : List UInt8) : ∀ k, wpart l k < 256 ^ k := by
  intro k
  induction k with
  | zero => simp [wpart]
  | succ k ih =>
    by_cases h : k < l.length
    · rw [wpart_succ l k h, Nat.pow_succ]
      have := l[k].toNat_lt
      omega
    · have : wpart l (k + 1) = wpart l k := by unfold wpart; rw [List.take_of_length_le (by omega), List.take_of_length_le (by omega)]
      rw [this, Nat.pow_succ]; omega

theorem or_byte (n c : Nat) (hn : n < 16777216) (hc : c < 256) : bits .or .u32 (IntKind.u32.wrap ((n : Int) * 256)) (c : Int) = ((n * 256 + c : Nat) : Int) := by
  have e1 : IntKind.u32.wrap ((n : Int) * 256) = ((n * 256 : Nat) : Int) := by rw [IntKind.wrap_u32]; omega
  rw [e1, u32_or_nat _ _ (by omega) (by omega)]
  congr 1
  have := Nat.shiftLeft_add_eq_or_of_lt (i := 8) (b := c) (by omega : c < 2 ^ 8) n
  rw [Nat.shiftLeft_eq] at this
  exact this.symm

set_option maxHeartbeats 400000 in
theorem word_any (w : World) (D off len cap : Nat) (l : List UInt8) (hl : l.length = 4) (hc4 : 4 ≤ cap) (hcap : cap ≤ 9223372036854775807) (hcs : ∀ i (h : i < 4), w.cell? ⟨D, off + i, none⟩ = some (.int .u8 ((l[i]'(by omega)).toNat : Int))) :
    Calls Tryd.prog 101 #[.slice (some ⟨D, off, none⟩) len cap] w fun e w' => e = .returned (.int .u32 (wpart l 4)) ∧ w = w' := by
  have hc0 : (cap == 0) = false := by simp; omega
  go_enter Tryd.func101, Tryd.ntmps101
  go_wp2_with fail
  go_loop [2, 8] (fun n i => ∃ k : Nat, k ≤ 4 ∧ i = .int .i64 k ∧ n = .int .u32 (wpart l k)) (fun _ i => 4 - (intOf i).toNat)
  case atStart => exact ⟨0, by omega, rfl, rfl⟩
  case round =>
    obtain ⟨k, hk, rfl, rfl⟩ := hrel
    by_cases hlt : k < 4
    · have hcell := hcs k hlt
      have HS := Lib.hid (wpart_succ l k (by omega))
      have hb : l[k].toNat < 256 := l[k].toNat_lt
      have hw := wpart_lt l k
      have hp : (256 : Nat) ^ k ≤ 256 ^ 3 := Nat.pow_le_pow_right (by omega) (by omega)
      have hw2 : wpart l k < 16777216 := by rw [show (256 : Nat) ^ 3 = 16777216 from by decide] at hp; omega
      have HO := Lib.hid (or_byte (wpart l k) l[k].toNat hw2 hb)
      clear hw hp hw2 hcs
      go_wp2_with fail
      go_round
      case rel => exact ⟨k + 1, by omega, by go_num, by rw [HS.out, ← HO.out, IntKind.wrap_u32]⟩
      case measure => simp [intOf]; omega
    · have : k = 4 := by omega
      subst this
      clear hcs
      go_wp2_with fail
      go_ret
      exact ⟨rfl, rfl⟩

theorem wpart_be (a b c d : UInt8) : wpart [a, b, c, d] 4 = be32 a b c d := by
  unfold wpart be32
  simp

theorem or_shift (x y k : Nat) (hy : y < 2 ^ k) (P : Nat) (hP : P = 2 ^ k) : x * P ||| y = x * P + y := by
  subst hP
  have := Nat.shiftLeft_add_eq_or_of_lt (i := k) hy x
  rw [Nat.shiftLeft_eq] at this
  exact this.symm

theorem or_lt {a b : Nat} (ha : a < 4294967296) (hb : b < 4294967296) : a ||| b < 4294967296 := Nat.or_lt_two_pow (n := 32) ha hb

theorem word_or (a b c d : Nat) (hb : b < 256) (hc : c < 256) (hd : d < 256) :
    ((a * 16777216 ||| b * 65536) ||| c * 256) ||| d = ((a * 256 + b) * 256 + c) * 256 + d := by
  have f1 : a * 16777216 + b * 65536 = (a * 256 + b) * 65536 := by rw [Nat.add_mul, Nat.mul_assoc]
  have f2 : (a * 256 + b) * 65536 + c * 256 = ((a * 256 + b) * 256 + c) * 256 := by rw [Nat.add_mul _ c 256, Nat.mul_assoc _ 256 256]
  have o1 := or_shift a (b * 65536) 24 (by simp; omega) 16777216 (by simp)
  have o2 := or_shift (a * 256 + b) (c * 256) 16 (by simp; omega) 65536 (by simp)
  have o3 := or_shift ((a * 256 + b) * 256 + c) d 8 (by simp; omega) 256 (by simp)
  rw [o1, f1, o2, f2, o3]

theorem bits_or3 (A B C D : Nat) (hA : A < 4294967296) (hB : B < 4294967296) (hC : C < 4294967296) (hD : D < 4294967296) :
    bits .or .u32 (bits .or .u32 (bits .or .u32 (A : Int) (B : Int)) (C : Int)) (D : Int) = ((((A ||| B) ||| C) ||| D : Nat) : Int) := by
  rw [u32_or_nat A B hA hB, u32_or_nat (A ||| B) C (or_lt hA hB) hC, u32_or_nat ((A ||| B) ||| C) D (or_lt (or_lt hA hB) hC) hD]

theorem word_bits (a b c d : Nat) (ha : a < 256) (hb : b < 256) (hc : c < 256) (hd : d < 256) :
    bits .or .u32 (bits .or .u32 (bits .or .u32 ((a : Int) * 16777216) ((b : Int) * 65536)) ((c : Int) * 256)) (d : Int) = ((((a * 256 + b) * 256 + c) * 256 + d : Nat) : Int) := by
  have e1 : ((a : Int) * 16777216) = ((a * 16777216 : Nat) : Int) := by simp
  have e2 : ((b : Int) * 65536) = ((b * 65536 : Nat) : Int) := by simp
  have e3 : ((c : Int) * 256) = ((c * 256 : Nat) : Int) := by simp
  rw [e1, e2, e3, bits_or3 _ _ _ _ (by omega) (by omega) (by omega) (by omega), word_or a b c d hb hc hd]

set_option maxHeartbeats 800000 in
theorem rword_any (w : World) (D off cap : Nat) (a b c d : UInt8)
    (c0 : w.cell? ⟨D, off, none⟩ = some (.int .u8 (a.toNat : Int))) (c1 : w.cell? ⟨D, off + 1, none⟩ = some (.int .u8 (b.toNat : Int))) (c2 : w.cell? ⟨D, off + 2, none⟩ = some (.int .u8 (c.toNat : Int))) (c3 : w.cell? ⟨D, off + 3, none⟩ = some (.int .u8 (d.toNat : Int))) :
    Calls Tryd.prog 104 #[.slice (some ⟨D, off, none⟩) 4 cap] w fun e w' => e = .returned (.int .u32 (be32 a b c d)) ∧ ∃ j, w' = w.drewN j := by
  have h1 := a.toNat_lt; have h2 := b.toNat_lt; have h3 := c.toNat_lt; have h5 := d.toNat_lt
  have HB := Lib.hid (word_bits a.toNat b.toNat c.toNat d.toNat (by omega) (by omega) (by omega) (by omega))
  go_enter Tryd.func104, Tryd.ntmps104
  go_wp2_with fail
  go_quiet (fail)
  all_goals
    go_wp2_with fail
    go_ret
    exact ⟨ret_eq (by unfold be32; rw [← HB.out]; rfl), nq, rfl⟩

end Go.Proofs.YtjhecmmbpmpmgaaDoor
