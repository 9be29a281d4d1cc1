/- codec's reader by its contracts: number. -/
import Derived.Test.YtjhecmmbpmpmgaaCRead
import Derived.Test.YtjhecmmbpmpmgaaPRead
namespace Go.Proofs.Ytjhecmmbpmpmgaa
open Go.RowKit Go.Lib

def NumberPost (R D : Nat) (w : World) (x : Option (Nat × List UInt8)) (e : Ending) (w' : World) : Prop :=
  w.grownBy w' (some R) ∧ match x with | none => e = .panicked errChain | some (u, l) => e = .returned (.int .u64 u) ∧ Rst w' R D l ∧ u < 18446744073709551616

set_option maxRecDepth 100000 in
set_option maxHeartbeats 800000 in
theorem number_any (R D : Nat) (l : List UInt8) (w : World) (h : Rst w R D l) :
    Calls Try.prog 46 #[.pointer (some ⟨R, 0, none⟩)] w (NumberPost R D w (rn 0 0 l)) := by
  have HR := Lib.hid h; clear h
  go_enter Try.func46, Try.ntmps46
  go_wp2_with fail
  go_loopw [2, 3] (fun u i wr => ∃ (k m : Nat) (r : List UInt8), k ≤ 9 ∧ m < 128 ^ k ∧ i = .int .i64 k ∧ u = .int .u64 m ∧ Rst wr R D r ∧ rn 0 0 l = rn k m r ∧ w.grownBy wr (some R)) (fun _ i _ => 10 - (intOf i).toNat)
  case atStart => exact ⟨0, 0, l, by omega, by decide, rfl, rfl, HR.out, rfl, ⟨rfl, rfl, rfl, Nat.le_refl _, fun _ _ _ => rfl⟩⟩
  case round =>
    obtain ⟨k, m, r, hk, hm, rfl, rfl, hr, he, hg⟩ := hrel
    have Hm := Lib.hid hm; have He := Lib.hid he; have Hr := Lib.hid hr; clear hm he hr
    match r, Hr, He with
    | [], Hr, He =>
      have He2 : Hid (rn 0 0 l = none) := Lib.hid (He.out.trans (by rw [rn]))
      go_wp2_with (go_at_call 44; refine (take_empty R D _ Hr.out).mono ?_; rintro e w1 ⟨rfl, rfl⟩)
      exact ⟨rfl, hg, by rw [He2.out]⟩
    | c :: r, Hr, He =>
      have hc : c.toNat < 256 := c.toNat_lt
      by_cases h9 : k < 9
      · by_cases h0 : k = 0
        · have t0 : ((k : Int) == 0) = true := by simpa using h0
          have H0 := Lib.hid h0; clear h0
          by_cases hlt : c.toNat < 128
          · have He2 : Hid (rn 0 0 l = some (m + c.toNat % 128 * 128 ^ k, r)) := Lib.hid (He.out.trans (by rw [rn, if_pos ⟨.inl H0.out, .inl h9⟩, if_pos hlt]))
            have Hlt := Lib.hid (digit_all k c.toNat m hk (.inl h9) Hm.out)
            have Hd := Lib.hid (digit_bits k c.toNat m hk hc (.inl h9) Hm.out)
            go_wp2_with (first
                  | (go_at_call 44; refine (take_one R D c r _ Hr.out).mono ?_; rintro e w1 ⟨off, rfl, hb, hR1, hg1⟩; have HR1 := Lib.hid hR1; clear hR1)
                  | (go_at_call 33; refine (want_ok _ _).mono ?_; rintro e w' ⟨rfl, rfl⟩))
            go_ret
            exact ⟨grown_trans hg hg1, by rw [He2.out]; exact ⟨ret_v (by rw [← Hd.out]; rfl), HR1.out, Hlt.out⟩⟩
          · have He2 : Hid (rn 0 0 l = rn (k + 1) (m + c.toNat % 128 * 128 ^ k) r) := Lib.hid (He.out.trans (by rw [rn, if_pos ⟨.inl H0.out, .inl h9⟩, if_neg hlt]))
            have Hd := Lib.hid (digit_bits k c.toNat m hk hc (.inl h9) Hm.out)
            go_wp2_with (first
                  | (go_at_call 44; refine (take_one R D c r _ Hr.out).mono ?_; rintro e w1 ⟨off, rfl, hb, hR1, hg1⟩; have HR1 := Lib.hid hR1; clear hR1)
                  | (go_at_call 33; refine (want_ok _ _).mono ?_; rintro e w' ⟨rfl, rfl⟩))
            go_roundw
            case rel => exact ⟨k + 1, _, r, by omega, digit_next k c.toNat m Hm.out, by go_num, by rw [Hd.out], HR1.out, He2.out, grown_trans hg hg1⟩
            case measure => simp [intOf]; omega
        · by_cases hz : c.toNat = 0
          · have t0 : ((k : Int) == 0) = false := by simpa using h0
            have t1 : ((c.toNat : Int) != 0) = false := by simpa using hz
            have He2 : Hid (rn 0 0 l = none) := Lib.hid (He.out.trans (by rw [rn, if_neg (by omega)]))
            have Hz := Lib.hid hz; clear hz
            go_wp2_with (first
                | (go_at_call 44; refine (take_one R D c r _ Hr.out).mono ?_; rintro e w1 ⟨off, rfl, hb, hR1, hg1⟩; have HR1 := Lib.hid hR1; clear hR1)
                | (go_at_call 33; refine (want_no _ _).mono ?_; rintro e w' ⟨rfl, rfl⟩))
            exact ⟨rfl, grown_trans hg hg1, by rw [He2.out]⟩
          · have t0 : ((k : Int) == 0) = false := by simpa using h0
            have t1 : ((c.toNat : Int) != 0) = true := by simpa using hz
            by_cases hlt : c.toNat < 128
            · have He2 : Hid (rn 0 0 l = some (m + c.toNat % 128 * 128 ^ k, r)) := Lib.hid (He.out.trans (by rw [rn, if_pos ⟨.inr hz, .inl h9⟩, if_pos hlt]))
              have Hlt := Lib.hid (digit_all k c.toNat m hk (.inl h9) Hm.out)
              have Hd := Lib.hid (digit_bits k c.toNat m hk hc (.inl h9) Hm.out)
              go_wp2_with (first
                    | (go_at_call 44; refine (take_one R D c r _ Hr.out).mono ?_; rintro e w1 ⟨off, rfl, hb, hR1, hg1⟩; have HR1 := Lib.hid hR1; clear hR1)
                    | (go_at_call 33; refine (want_ok _ _).mono ?_; rintro e w' ⟨rfl, rfl⟩))
              go_ret
              exact ⟨grown_trans hg hg1, by rw [He2.out]; exact ⟨ret_v (by rw [← Hd.out]; rfl), HR1.out, Hlt.out⟩⟩
            · have He2 : Hid (rn 0 0 l = rn (k + 1) (m + c.toNat % 128 * 128 ^ k) r) := Lib.hid (He.out.trans (by rw [rn, if_pos ⟨.inr hz, .inl h9⟩, if_neg hlt]))
              have Hd := Lib.hid (digit_bits k c.toNat m hk hc (.inl h9) Hm.out)
              go_wp2_with (first
                    | (go_at_call 44; refine (take_one R D c r _ Hr.out).mono ?_; rintro e w1 ⟨off, rfl, hb, hR1, hg1⟩; have HR1 := Lib.hid hR1; clear hR1)
                    | (go_at_call 33; refine (want_ok _ _).mono ?_; rintro e w' ⟨rfl, rfl⟩))
              go_roundw
              case rel => exact ⟨k + 1, _, r, by omega, digit_next k c.toNat m Hm.out, by go_num, by rw [Hd.out], HR1.out, He2.out, grown_trans hg hg1⟩
              case measure => simp [intOf]; omega
      · have t0 : ((k : Int) == 0) = false := by simp; omega
        by_cases hz : c.toNat = 0
        · have t1 : ((c.toNat : Int) != 0) = false := by simpa using hz
          have He2 : Hid (rn 0 0 l = none) := Lib.hid (He.out.trans (by rw [rn, if_neg (by omega)]))
          have Hz := Lib.hid hz; clear hz
          go_wp2_with (first
            | (go_at_call 44; refine (take_one R D c r _ Hr.out).mono ?_; rintro e w1 ⟨off, rfl, hb, hR1, hg1⟩; have HR1 := Lib.hid hR1; clear hR1)
            | (go_at_call 33; refine (want_no _ _).mono ?_; rintro e w' ⟨rfl, rfl⟩))
          exact ⟨rfl, grown_trans hg hg1, by rw [He2.out]⟩
        · have t1 : ((c.toNat : Int) != 0) = true := by simpa using hz
          have t9 : decide ((k : Int) < 9) = false := by simp; omega
          by_cases h1 : c.toNat ≤ 1
          · have tc : decide ((c.toNat : Int) ≤ 1) = true := by simp; omega
            have He2 : Hid (rn 0 0 l = some (m + c.toNat % 128 * 128 ^ k, r)) := Lib.hid (He.out.trans (by rw [rn, if_pos ⟨.inr hz, .inr h1⟩, if_pos (by omega)]))
            have Hlt := Lib.hid (digit_all k c.toNat m hk (.inr h1) Hm.out)
            have Hd := Lib.hid (digit_bits k c.toNat m hk hc (.inr h1) Hm.out)
            go_wp2_with (first
            | (go_at_call 44; refine (take_one R D c r _ Hr.out).mono ?_; rintro e w1 ⟨off, rfl, hb, hR1, hg1⟩; have HR1 := Lib.hid hR1; clear hR1)
            | (go_at_call 33; refine (want_ok _ _).mono ?_; rintro e w' ⟨rfl, rfl⟩))
            go_ret
            exact ⟨grown_trans hg hg1, by rw [He2.out]; exact ⟨ret_v (by rw [← Hd.out]; rfl), HR1.out, Hlt.out⟩⟩
          · have tc : decide ((c.toNat : Int) ≤ 1) = false := by simp; omega
            have He2 : Hid (rn 0 0 l = none) := Lib.hid (He.out.trans (by rw [rn, if_neg (by omega)]))
            go_wp2_with (first
            | (go_at_call 44; refine (take_one R D c r _ Hr.out).mono ?_; rintro e w1 ⟨off, rfl, hb, hR1, hg1⟩; have HR1 := Lib.hid hR1; clear hR1)
            | (go_at_call 33; refine (want_no _ _).mono ?_; rintro e w' ⟨rfl, rfl⟩))
            exact ⟨rfl, grown_trans hg hg1, by rw [He2.out]⟩

end Go.Proofs.Ytjhecmmbpmpmgaa
