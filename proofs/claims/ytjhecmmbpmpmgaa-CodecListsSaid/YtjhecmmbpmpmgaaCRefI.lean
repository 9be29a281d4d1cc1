/- signatoryref01's Reader by its contracts: number. -/
import Derived.Test.YtjhecmmbpmpmgaaCRefH
namespace Go.Proofs.Ytjhecmmbpmpmgaa
open Go.RowKit Go.Lib

section
variable {w : World} {R : Nat} {S : Nat → Prop} {B : List UInt8} {A : Option Addr} {cap i : Nat} {bad : Bool}
theorem RB.c0 (h : RB w R S B A cap i bad) : w.cell? ⟨R, 0, none⟩ = some (.slice A B.length cap) := by rw [cell_of_row w R 0 _ _ _ h.c]; rfl
theorem RB.c1 (h : RB w R S B A cap i bad) : w.cell? ⟨R, 1, none⟩ = some (.int .i64 i) := by rw [cell_of_row w R 1 _ _ _ h.c]; rfl
theorem RB.c2 (h : RB w R S B A cap i bad) : w.cell? ⟨R, 2, none⟩ = some (.bool bad) := by rw [cell_of_row w R 2 _ _ _ h.c]; rfl
theorem RB.fz (h : RB w R S B A cap i bad) : ∀ o, w.frozen? ⟨R, o, none⟩ = false := fun o => by simp [World.frozen?, h.c]
end

def RNumPost (R : Nat) (S : Nat → Prop) (B : List UInt8) (A : Option Addr) (cap i : Nat) (w : World) (e : Ending) (w' : World) : Prop :=
  w.grownBy w' (some R) ∧ match rn 0 0 (B.drop i) with
    | none => e = .returned (.int .u64 0) ∧ ∃ j, RB w' R S B A cap j true
    | some (u, r) => e = .returned (.int .u64 u) ∧ u < 18446744073709551616 ∧ ∃ j, r = B.drop j ∧ RB w' R S B A cap j false

theorem drop_cons {B : List UInt8} {i : Nat} (h : i < B.length) : B.drop i = B[i] :: B.drop (i + 1) := List.drop_eq_getElem_cons h

theorem ref_digit0 (k c m : Nat) (hk : k = 0) (h1 : m + c % 128 * 128 ^ k < 18446744073709551616) : IntKind.u64.wrap ((m : Int) + (c : Int) % 128) = ((m + c % 128 * 128 ^ k : Nat) : Int) := by
  subst hk
  rw [IntKind.wrap_u64]; simp at *; omega

theorem ref_digit (k c m : Nat) (h1 : m + c % 128 * 128 ^ k < 18446744073709551616) (h2 : c % 128 * 128 ^ k < 18446744073709551616) :
    IntKind.u64.wrap ((m : Int) + IntKind.u64.wrap ((c : Int) % 128 * 2 ^ (7 * k))) = ((m + c % 128 * 128 ^ k : Nat) : Int) := by
  have e2 : (c : Int) % 128 * 2 ^ (7 * k) = ((c % 128 * 128 ^ k : Nat) : Int) := by rw [pow128]; simp
  rw [e2]
  generalize c % 128 * 128 ^ k = x at *
  rw [IntKind.wrap_u64, IntKind.wrap_u64]; omega

set_option maxRecDepth 100000 in
set_option maxHeartbeats 3200000 in
theorem ref_number {w : World} {R : Nat} {S : Nat → Prop} {B : List UInt8} {A : Option Addr} {cap i : Nat} (h : RB w R S B A cap i false) :
    Calls Try.prog 49 #[.pointer (some ⟨R, 0, none⟩)] w (RNumPost R S B A cap i w) := by
  have HR := Lib.hid h; clear h
  go_enter Try.func49, Try.ntmps49
  go_wp2_with fail
  go_loopw [3, 4] (fun u q wr => ∃ (k m j : Nat), k ≤ 9 ∧ m < 128 ^ k ∧ q = .int .i64 k ∧ u = .int .u64 m ∧ RB wr R S B A cap j false ∧ rn 0 0 (B.drop i) = rn k m (B.drop j) ∧ w.grownBy wr (some R)) (fun _ q _ => 10 - (intOf q).toNat)
  case atStart => exact ⟨0, 0, i, by omega, by decide, rfl, rfl, HR.out, rfl, ⟨rfl, rfl, rfl, Nat.le_refl _, fun _ _ _ => rfl⟩⟩
  case round =>
    obtain ⟨k, m, j, hk, hm, rfl, rfl, hr, he, hg⟩ := hrel
    have d2 := hr.c2
    have Hm := Lib.hid hm; have He := Lib.hid he; have Hr := Lib.hid hr; clear hm he hr
    by_cases hj : j = B.length
    · have He2 : Hid (rn 0 0 (B.drop i) = none) := Lib.hid (by rw [He.out, hj, List.drop_length]; rfl)
      by_cases h0 : k = 0
      · subst h0
        have hm0 : m = 0 := by have := Hm.out; simp at this; omega
        subst hm0
        go_wp2_with (go_at_call 48; refine (next_end Hr.out hj).mono ?_; rintro e w1 ⟨rfl, hb1, hg1⟩; have x2 := hb1.c2; have xf := hb1.fz; have Hb1 := Lib.hid hb1; clear hb1)
        go_ret
        exact ⟨grown_trans hg hg1, by rw [He2.out]; exact ⟨rfl, j, Hb1.out⟩⟩
      · have t9 : ((k : Int) == 9) = false ∨ True := .inr trivial
        clear t9
        have t0 : decide ((k : Int) > 0) = true := by simp; omega
        by_cases h9 : k = 9
        · subst h9
          go_wp2_with (go_at_call 48; refine (next_end Hr.out hj).mono ?_; rintro e w1 ⟨rfl, hb1, hg1⟩; have x2 := hb1.c2; have xf := hb1.fz; have Hb1 := Lib.hid hb1; clear hb1)
          go_ret
          exact ⟨grown_trans (grown_trans hg hg1) (grown_setCell' _ _ _ _), by rw [He2.out]; exact ⟨rfl, j, Hb1.out.bad_⟩⟩
        · have t9 : ((k : Int) == 9) = false := by simp; omega
          go_wp2_with (go_at_call 48; refine (next_end Hr.out hj).mono ?_; rintro e w1 ⟨rfl, hb1, hg1⟩; have x2 := hb1.c2; have xf := hb1.fz; have Hb1 := Lib.hid hb1; clear hb1)
          go_ret
          exact ⟨grown_trans (grown_trans hg hg1) (grown_setCell' _ _ _ _), by rw [He2.out]; exact ⟨rfl, j, Hb1.out.bad_⟩⟩
    · have hj' : j < B.length := by have := Hr.out.le; omega
      have HC : Hid (Calls Try.prog 48 #[.pointer (some ⟨R, 0, none⟩)] wr fun e w' => e = .returned (.int .u8 (B[j].toNat : Int)) ∧ RB w' R S B A cap (j + 1) false ∧ wr.grownBy w' (some R)) := Lib.hid (next_some Hr.out hj')
      rw [drop_cons hj'] at He
      have hc : B[j].toNat < 256 := B[j].toNat_lt
      generalize B[j] = c at *
      by_cases hgood : (k = 0 ∨ c.toNat ≠ 0) ∧ (k < 9 ∨ c.toNat ≤ 1)
      · have HG := Lib.hid hgood
        have hsum : Hid (m + c.toNat % 128 * 128 ^ k < 18446744073709551616 ∧ (c.toNat % 128) * 128 ^ k < 18446744073709551616) := Lib.hid ⟨digit_all k c.toNat m hk hgood.2 Hm.out, digit_small k c.toNat hk hgood.2⟩
        by_cases h0 : k = 0
        · have t0 : decide ((k : Int) > 0) = false := by simp; omega
          have t0n : decide (0 < k) = false := by simp; omega
          have t9 : ((k : Int) == 9) = false := by simp; omega
          have HD : Hid (IntKind.u64.wrap ((m : Int) + (c.toNat : Int) % 128) = ((m + c.toNat % 128 * 128 ^ k : Nat) : Int)) := Lib.hid (ref_digit0 k c.toNat m h0 hsum.out.1)
          by_cases hlt : c.toNat < 128
          · have tl : decide ((c.toNat : Int) < 128) = true := by simp; omega
            have He2 : Hid (rn 0 0 (B.drop i) = some (m + c.toNat % 128 * 128 ^ k, B.drop (j + 1))) := Lib.hid (He.out.trans (by rw [rn, if_pos HG.out, if_pos hlt]))
            clear hgood hlt
            go_wp2_with (go_at_call 48; refine HC.out.mono ?_; rintro e w1 ⟨rfl, hb1, hg1⟩; have x2 := hb1.c2; have xf := hb1.fz; have Hb1 := Lib.hid hb1; clear hb1)
            go_ret
            exact ⟨grown_trans hg hg1, by rw [He2.out]; exact ⟨ret_v (by rw [← HD.out]; rfl), hsum.out.1, _, rfl, Hb1.out⟩⟩
          · have tl : decide ((c.toNat : Int) < 128) = false := by simp; omega
            have He2 : Hid (rn 0 0 (B.drop i) = rn (k + 1) (m + c.toNat % 128 * 128 ^ k) (B.drop (j + 1))) := Lib.hid (He.out.trans (by rw [rn, if_pos HG.out, if_neg hlt]))
            clear hgood hlt
            go_wp2_with (go_at_call 48; refine HC.out.mono ?_; rintro e w1 ⟨rfl, hb1, hg1⟩; have x2 := hb1.c2; have xf := hb1.fz; have Hb1 := Lib.hid hb1; clear hb1)
            go_roundw
            case rel => exact ⟨k + 1, _, j + 1, by omega, digit_next k c.toNat m Hm.out, by subst h0; rfl, by rw [HD.out], Hb1.out, He2.out, grown_trans hg hg1⟩
            case measure => simp [intOf]; omega
        · have t0 : decide ((k : Int) > 0) = true := by simp; omega
          have t0n : decide (0 < k) = true := by simp; omega
          have tz : ((c.toNat : Int) == 0) = false := by simp; omega
          have HD : Hid (IntKind.u64.wrap ((m : Int) + IntKind.u64.wrap ((c.toNat : Int) % 128 * 2 ^ (7 * k))) = ((m + c.toNat % 128 * 128 ^ k : Nat) : Int)) := Lib.hid (ref_digit k c.toNat m hsum.out.1 hsum.out.2)
          by_cases h9 : k = 9
          · have t9 : ((k : Int) == 9) = true := by simp; omega
            have tc : decide ((c.toNat : Int) > 1) = false := by simp; omega
            have tl : decide ((c.toNat : Int) < 128) = true := by simp; omega
            have He2 : Hid (rn 0 0 (B.drop i) = some (m + c.toNat % 128 * 128 ^ k, B.drop (j + 1))) := Lib.hid (He.out.trans (by rw [rn, if_pos HG.out, if_pos (by omega)]))
            have H9 := Lib.hid h9
            clear hgood h9 h0
            go_wp2_with (go_at_call 48; refine HC.out.mono ?_; rintro e w1 ⟨rfl, hb1, hg1⟩; have x2 := hb1.c2; have xf := hb1.fz; have Hb1 := Lib.hid hb1; clear hb1)
            go_ret
            exact ⟨grown_trans hg hg1, by rw [He2.out]; exact ⟨ret_v (by rw [← HD.out]; rfl), hsum.out.1, _, rfl, Hb1.out⟩⟩
          · have t9 : ((k : Int) == 9) = false := by simp; omega
            by_cases hlt : c.toNat < 128
            · have tl : decide ((c.toNat : Int) < 128) = true := by simp; omega
              have He2 : Hid (rn 0 0 (B.drop i) = some (m + c.toNat % 128 * 128 ^ k, B.drop (j + 1))) := Lib.hid (He.out.trans (by rw [rn, if_pos HG.out, if_pos hlt]))
              clear hgood hlt
              go_wp2_with (go_at_call 48; refine HC.out.mono ?_; rintro e w1 ⟨rfl, hb1, hg1⟩; have x2 := hb1.c2; have xf := hb1.fz; have Hb1 := Lib.hid hb1; clear hb1)
              go_ret
              exact ⟨grown_trans hg hg1, by rw [He2.out]; exact ⟨ret_v (by rw [← HD.out]; rfl), hsum.out.1, _, rfl, Hb1.out⟩⟩
            · have tl : decide ((c.toNat : Int) < 128) = false := by simp; omega
              have He2 : Hid (rn 0 0 (B.drop i) = rn (k + 1) (m + c.toNat % 128 * 128 ^ k) (B.drop (j + 1))) := Lib.hid (He.out.trans (by rw [rn, if_pos HG.out, if_neg hlt]))
              clear hgood hlt
              go_wp2_with (go_at_call 48; refine HC.out.mono ?_; rintro e w1 ⟨rfl, hb1, hg1⟩; have x2 := hb1.c2; have xf := hb1.fz; have Hb1 := Lib.hid hb1; clear hb1)
              go_roundw
              case rel => exact ⟨k + 1, _, j + 1, by omega, digit_next k c.toNat m Hm.out, by go_num, by rw [HD.out], Hb1.out, He2.out, grown_trans hg hg1⟩
              case measure => simp [intOf]; omega
      · have He2 : Hid (rn 0 0 (B.drop i) = none) := Lib.hid (He.out.trans (by rw [rn, if_neg hgood]))
        have hk0 : k ≠ 0 := fun e => hgood ⟨.inl e, .inl (by omega)⟩
        have t0 : decide ((k : Int) > 0) = true := by simp; omega
        have t0n : decide (0 < k) = true := by simp; omega
        by_cases h9 : k = 9
        · have t9 : ((k : Int) == 9) = true := by simp; omega
          by_cases h1 : c.toNat > 1
          · have tc : decide ((c.toNat : Int) > 1) = true := by simp; omega
            clear hgood h1 h9 hk0
            go_wp2_with (go_at_call 48; refine HC.out.mono ?_; rintro e w1 ⟨rfl, hb1, hg1⟩; have x2 := hb1.c2; have xf := hb1.fz; have Hb1 := Lib.hid hb1; clear hb1)
            go_ret
            exact ⟨grown_trans (grown_trans hg hg1) (grown_setCell' _ _ _ _), by rw [He2.out]; exact ⟨rfl, _, Hb1.out.bad_⟩⟩
          · have tc : decide ((c.toNat : Int) > 1) = false := by simp; omega
            have hz : c.toNat = 0 := by omega
            have tz : ((c.toNat : Int) == 0) = true := by simp; omega
            clear hgood h1 h9 hk0 hz
            go_wp2_with (go_at_call 48; refine HC.out.mono ?_; rintro e w1 ⟨rfl, hb1, hg1⟩; have x2 := hb1.c2; have xf := hb1.fz; have Hb1 := Lib.hid hb1; clear hb1)
            go_ret
            exact ⟨grown_trans (grown_trans hg hg1) (grown_setCell' _ _ _ _), by rw [He2.out]; exact ⟨rfl, _, Hb1.out.bad_⟩⟩
        · have t9 : ((k : Int) == 9) = false := by simp; omega
          have hz : c.toNat = 0 := by omega
          have tz : ((c.toNat : Int) == 0) = true := by simp; omega
          clear hgood h9 hk0 hz
          go_wp2_with (go_at_call 48; refine HC.out.mono ?_; rintro e w1 ⟨rfl, hb1, hg1⟩; have x2 := hb1.c2; have xf := hb1.fz; have Hb1 := Lib.hid hb1; clear hb1)
          go_ret
          exact ⟨grown_trans (grown_trans hg hg1) (grown_setCell' _ _ _ _), by rw [He2.out]; exact ⟨rfl, _, Hb1.out.bad_⟩⟩

end Go.Proofs.Ytjhecmmbpmpmgaa
