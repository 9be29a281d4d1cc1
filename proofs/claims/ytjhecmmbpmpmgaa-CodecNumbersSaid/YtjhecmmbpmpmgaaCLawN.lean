/- signatorylaw01.CodecNumbers returns true. -/
import Derived.Test.YtjhecmmbpmpmgaaCLawC
namespace Go.Proofs.Ytjhecmmbpmpmgaa
open Go.RowKit Go.Lib

def xi (a : Int) : V := .mk 1 a ByteArray.empty []
theorem xi_enc (a : Int) : encOf (xi a) = 1 :: num (unsg a).toNat := by
  have h := ck_int a
  show (if ckOf (xi a).fm = 0 then _ else _) = _
  rw [show ckOf (xi a).fm = 0 from h, if_pos rfl]; exact enc_int a
theorem xi_sz (a : Int) : (xi a).sz = 1 := rfl
theorem xi_len (a : Int) : 2 ≤ (encOf (xi a)).length ∧ (encOf (xi a)).length ≤ 11 := by
  rw [xi_enc, List.length_cons]
  have := num_len (unsg a).toNat; have := num_pos' (unsg a).toNat; omega
theorem xi_mono {a b : Int} (h : 0 ≤ a ∧ a ≤ b ∨ a < 0 ∧ b ≤ a) : (encOf (xi a)).length ≤ (encOf (xi b)).length := by
  rw [xi_enc, xi_enc, List.length_cons, List.length_cons]
  have := size_int_mono h; omega
theorem xi_dec {a : Int} (h : Ok a) : decode (encOf (xi a)) = some (xi a) := by
  rw [enc_ok (x := xi a) (ck_int a)]
  exact decode_enc (x := xi a) (ck_int a) (by unfold xi; rw [V.good]; exact ⟨h, by decide, by decide, by simp [goodL]⟩)

theorem xi_enc_len (a : Int) : (xi a).enc.length < 700000000000 := by
  have := (xi_len a).2; rw [enc_ok (x := xi a) (ck_int a)] at this; omega

set_option maxRecDepth 100000 in
set_option maxHeartbeats 3200000 in
theorem law_numbers (w : World) (a b : Int) (ha : Ok a) (hb : Ok b) : Calls Try.prog 9 #[.int .i64 a, .int .i64 b] w (Yes w) := by
  obtain ⟨la1, la2⟩ := xi_len a
  obtain ⟨lb1, lb2⟩ := xi_len b
  have hmono := @xi_mono a b
  obtain ⟨L, hL⟩ : ∃ L, Hid (encOf (xi a) = L) := ⟨_, Lib.hid rfl⟩
  obtain ⟨M, hM⟩ : ∃ M, Hid (encOf (xi b) = M) := ⟨_, Lib.hid rfl⟩
  rw [hL.out] at la1 la2 hmono
  rw [hM.out] at lb1 lb2 hmono
  have HMO := Lib.hid hmono
  have HA := Lib.hid ha; have HB := Lib.hid hb
  obtain ⟨a1, a2⟩ := ha
  obtain ⟨b1, b2⟩ := hb
  have hdv := dv_some (xi_dec HA.out)
  rw [hL.out] at hdv
  have HDV := Lib.hid hdv
  clear hmono hdv
  by_cases c1 : 0 ≤ a
  · by_cases c2 : a ≤ b
    · have t3 := HMO.out (.inl ⟨c1, c2⟩)
      go_enter Try.func9, Try.ntmps9
      go_wp2_with fail
      refine (sane_any _).mono ?_
      rintro e w1 ⟨rfl, hb1⟩
      go_wp2_with fail
      refine (ref_int a _).mono ?_
      rintro e w2 ⟨rfl, hb2⟩
      go_wp2_with fail
      refine (size_eq (x := xi a) (n := L.length) (c := 0) (by rw [hL.out]) (ck_int a) (by rw [xi_sz]; decide) (xi_enc_len a) (leaf_b _ 1 a _ ⟨by decide, by decide⟩ HA.out (by decide))).mono ?_
      rintro e w3 ⟨rfl, hb3⟩
      have H3 := Lib.hid (later (later hb1 hb2) hb3); clear hb1 hb2 hb3
      go_wp2_with fail
      refine (ref_int b _).mono ?_
      rintro e w4 ⟨rfl, hb4⟩
      go_wp2_with fail
      refine (size_eq (x := xi b) (n := M.length) (c := 0) (by rw [hM.out]) (ck_int b) (by rw [xi_sz]; decide) (xi_enc_len b) (leaf_b _ 1 b _ ⟨by decide, by decide⟩ HB.out (by decide))).mono ?_
      rintro e w5 ⟨rfl, hb5⟩
      have H5 := Lib.hid (later (later H3.out hb4) hb5); clear hb4 hb5 H3
      go_wp2_with fail
      refine (ref_int a _).mono ?_
      rintro e w6 ⟨rfl, hb6⟩
      go_wp2_with fail
      refine (encode_eq (x := xi a) hL.out (ck_int a) (by rw [xi_sz]; decide) (xi_enc_len a) (leaf_b _ 1 a _ ⟨by decide, by decide⟩ HA.out (by decide))).mono ?_
      rintro e w7 ⟨A7, cap7, rfl, hb7, hB7⟩
      have H7 := Lib.hid (later (later H5.out hb6) hb7); have HB7 := Lib.hid hB7; clear hb6 hb7 H5 hB7
      go_wp2_with fail
      refine (decode_eq HDV.out.1 HDV.out.2 (by omega) HB7.out).mono ?_
      rintro e w8 ⟨k8, n8, s8, A8, len8, cap8, rfl, hb8, hR8⟩
      obtain ⟨A9, cap9, e8, _⟩ := Rd.head hR8
      injection e8 with e8
      simp only [Array.mk.injEq, List.cons.injEq, Value.int.injEq, Value.string.injEq, Value.slice.injEq, true_and, and_true] at e8
      obtain ⟨rfl, rfl, rfl, rfl, rfl, rfl⟩ := e8
      have H8 := Lib.hid (later H7.out hb8); clear hb8 hR8 H7 HB7
      go_wp2_with fail
      go_ret
      exact ⟨rfl, later H8.out (below1 _)⟩
    · have c3 : b < a := by omega
      clear c2
      go_enter Try.func9, Try.ntmps9
      go_wp2_with fail
      refine (sane_any _).mono ?_
      rintro e w1 ⟨rfl, hb1⟩
      go_wp2_with fail
      refine (ref_int a _).mono ?_
      rintro e w2 ⟨rfl, hb2⟩
      go_wp2_with fail
      refine (size_eq (x := xi a) (n := L.length) (c := 0) (by rw [hL.out]) (ck_int a) (by rw [xi_sz]; decide) (xi_enc_len a) (leaf_b _ 1 a _ ⟨by decide, by decide⟩ HA.out (by decide))).mono ?_
      rintro e w3 ⟨rfl, hb3⟩
      have H3 := Lib.hid (later (later hb1 hb2) hb3); clear hb1 hb2 hb3
      go_wp2_with fail
      refine (ref_int b _).mono ?_
      rintro e w4 ⟨rfl, hb4⟩
      go_wp2_with fail
      refine (size_eq (x := xi b) (n := M.length) (c := 0) (by rw [hM.out]) (ck_int b) (by rw [xi_sz]; decide) (xi_enc_len b) (leaf_b _ 1 b _ ⟨by decide, by decide⟩ HB.out (by decide))).mono ?_
      rintro e w5 ⟨rfl, hb5⟩
      have H5 := Lib.hid (later (later H3.out hb4) hb5); clear hb4 hb5 H3
      go_wp2_with fail
      refine (ref_int a _).mono ?_
      rintro e w6 ⟨rfl, hb6⟩
      go_wp2_with fail
      refine (encode_eq (x := xi a) hL.out (ck_int a) (by rw [xi_sz]; decide) (xi_enc_len a) (leaf_b _ 1 a _ ⟨by decide, by decide⟩ HA.out (by decide))).mono ?_
      rintro e w7 ⟨A7, cap7, rfl, hb7, hB7⟩
      have H7 := Lib.hid (later (later H5.out hb6) hb7); have HB7 := Lib.hid hB7; clear hb6 hb7 H5 hB7
      go_wp2_with fail
      refine (decode_eq HDV.out.1 HDV.out.2 (by omega) HB7.out).mono ?_
      rintro e w8 ⟨k8, n8, s8, A8, len8, cap8, rfl, hb8, hR8⟩
      obtain ⟨A9, cap9, e8, _⟩ := Rd.head hR8
      injection e8 with e8
      simp only [Array.mk.injEq, List.cons.injEq, Value.int.injEq, Value.string.injEq, Value.slice.injEq, true_and, and_true] at e8
      obtain ⟨rfl, rfl, rfl, rfl, rfl, rfl⟩ := e8
      have H8 := Lib.hid (later H7.out hb8); clear hb8 hR8 H7 HB7
      go_wp2_with fail
      go_ret
      exact ⟨rfl, later H8.out (below1 _)⟩
  · have c4 : a < 0 := by omega
    clear c1
    by_cases c2 : b ≤ a
    · have t3 := HMO.out (.inr ⟨c4, c2⟩)
      go_enter Try.func9, Try.ntmps9
      go_wp2_with fail
      refine (sane_any _).mono ?_
      rintro e w1 ⟨rfl, hb1⟩
      go_wp2_with fail
      refine (ref_int a _).mono ?_
      rintro e w2 ⟨rfl, hb2⟩
      go_wp2_with fail
      refine (size_eq (x := xi a) (n := L.length) (c := 0) (by rw [hL.out]) (ck_int a) (by rw [xi_sz]; decide) (xi_enc_len a) (leaf_b _ 1 a _ ⟨by decide, by decide⟩ HA.out (by decide))).mono ?_
      rintro e w3 ⟨rfl, hb3⟩
      have H3 := Lib.hid (later (later hb1 hb2) hb3); clear hb1 hb2 hb3
      go_wp2_with fail
      refine (ref_int b _).mono ?_
      rintro e w4 ⟨rfl, hb4⟩
      go_wp2_with fail
      refine (size_eq (x := xi b) (n := M.length) (c := 0) (by rw [hM.out]) (ck_int b) (by rw [xi_sz]; decide) (xi_enc_len b) (leaf_b _ 1 b _ ⟨by decide, by decide⟩ HB.out (by decide))).mono ?_
      rintro e w5 ⟨rfl, hb5⟩
      have H5 := Lib.hid (later (later H3.out hb4) hb5); clear hb4 hb5 H3
      go_wp2_with fail
      refine (ref_int a _).mono ?_
      rintro e w6 ⟨rfl, hb6⟩
      go_wp2_with fail
      refine (encode_eq (x := xi a) hL.out (ck_int a) (by rw [xi_sz]; decide) (xi_enc_len a) (leaf_b _ 1 a _ ⟨by decide, by decide⟩ HA.out (by decide))).mono ?_
      rintro e w7 ⟨A7, cap7, rfl, hb7, hB7⟩
      have H7 := Lib.hid (later (later H5.out hb6) hb7); have HB7 := Lib.hid hB7; clear hb6 hb7 H5 hB7
      go_wp2_with fail
      refine (decode_eq HDV.out.1 HDV.out.2 (by omega) HB7.out).mono ?_
      rintro e w8 ⟨k8, n8, s8, A8, len8, cap8, rfl, hb8, hR8⟩
      obtain ⟨A9, cap9, e8, _⟩ := Rd.head hR8
      injection e8 with e8
      simp only [Array.mk.injEq, List.cons.injEq, Value.int.injEq, Value.string.injEq, Value.slice.injEq, true_and, and_true] at e8
      obtain ⟨rfl, rfl, rfl, rfl, rfl, rfl⟩ := e8
      have H8 := Lib.hid (later H7.out hb8); clear hb8 hR8 H7 HB7
      go_wp2_with fail
      go_ret
      exact ⟨rfl, later H8.out (below1 _)⟩
    · have c3 : a < b := by omega
      clear c2
      go_enter Try.func9, Try.ntmps9
      go_wp2_with fail
      refine (sane_any _).mono ?_
      rintro e w1 ⟨rfl, hb1⟩
      go_wp2_with fail
      refine (ref_int a _).mono ?_
      rintro e w2 ⟨rfl, hb2⟩
      go_wp2_with fail
      refine (size_eq (x := xi a) (n := L.length) (c := 0) (by rw [hL.out]) (ck_int a) (by rw [xi_sz]; decide) (xi_enc_len a) (leaf_b _ 1 a _ ⟨by decide, by decide⟩ HA.out (by decide))).mono ?_
      rintro e w3 ⟨rfl, hb3⟩
      have H3 := Lib.hid (later (later hb1 hb2) hb3); clear hb1 hb2 hb3
      go_wp2_with fail
      refine (ref_int b _).mono ?_
      rintro e w4 ⟨rfl, hb4⟩
      go_wp2_with fail
      refine (size_eq (x := xi b) (n := M.length) (c := 0) (by rw [hM.out]) (ck_int b) (by rw [xi_sz]; decide) (xi_enc_len b) (leaf_b _ 1 b _ ⟨by decide, by decide⟩ HB.out (by decide))).mono ?_
      rintro e w5 ⟨rfl, hb5⟩
      have H5 := Lib.hid (later (later H3.out hb4) hb5); clear hb4 hb5 H3
      go_wp2_with fail
      refine (ref_int a _).mono ?_
      rintro e w6 ⟨rfl, hb6⟩
      go_wp2_with fail
      refine (encode_eq (x := xi a) hL.out (ck_int a) (by rw [xi_sz]; decide) (xi_enc_len a) (leaf_b _ 1 a _ ⟨by decide, by decide⟩ HA.out (by decide))).mono ?_
      rintro e w7 ⟨A7, cap7, rfl, hb7, hB7⟩
      have H7 := Lib.hid (later (later H5.out hb6) hb7); have HB7 := Lib.hid hB7; clear hb6 hb7 H5 hB7
      go_wp2_with fail
      refine (decode_eq HDV.out.1 HDV.out.2 (by omega) HB7.out).mono ?_
      rintro e w8 ⟨k8, n8, s8, A8, len8, cap8, rfl, hb8, hR8⟩
      obtain ⟨A9, cap9, e8, _⟩ := Rd.head hR8
      injection e8 with e8
      simp only [Array.mk.injEq, List.cons.injEq, Value.int.injEq, Value.string.injEq, Value.slice.injEq, true_and, and_true] at e8
      obtain ⟨rfl, rfl, rfl, rfl, rfl, rfl⟩ := e8
      have H8 := Lib.hid (later H7.out hb8); clear hb8 hR8 H7 HB7
      go_wp2_with fail
      go_ret
      exact ⟨rfl, later H8.out (below1 _)⟩

end Go.Proofs.Ytjhecmmbpmpmgaa
