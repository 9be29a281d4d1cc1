/- signatorylaw01.CodecRoundTrip returns true. -/
import Derived.Test.YtjhecmmbpmpmgaaCLawB
namespace Go.Proofs.Ytjhecmmbpmpmgaa
open Go.RowKit Go.Lib

theorem Rb.open {w : World} {x : V} {v : Value} (hR : Rb w x v) : ∃ A cap k n s len, v = .agg #[.int .i64 k, .int .i64 n, .string s, .slice A len cap] := by
  obtain ⟨k, n, s, l⟩ := x
  obtain ⟨A, cap, rfl, _⟩ := Rd.head hR
  exact ⟨A, cap, k, n, s, _, rfl⟩

theorem dv_none {l : List UInt8} (h : decode l = none) : dvOf l = zeroX ∧ dcOf l = 10 := by unfold dvOf dcOf; rw [h]; exact ⟨rfl, rfl⟩
theorem dv_some {l : List UInt8} {y : V} (h : decode l = some y) : dvOf l = y ∧ dcOf l = 0 := by unfold dvOf dcOf; rw [h]; exact ⟨rfl, rfl⟩
theorem enc_ok {x : V} (h : ckOf x.fm = 0) : encOf x = x.enc := by unfold encOf; rw [if_pos h]

set_option maxRecDepth 100000 in
set_option maxHeartbeats 3200000 in
theorem law_round (w : World) (x : V) (v : Value) (raw : List UInt8) (A' : Option Addr) (cap' : Nat) (hraw : raw.length ≤ 9223372036854775807) (hR : Rb w x v) (hB : Bb w raw (.slice A' raw.length cap')) : Calls Try.prog 6 #[v, .slice A' raw.length cap'] w (Yes w) := by
  obtain ⟨A, cap, k, n, s, len, rfl⟩ := hR.open
  have hgood := Rd.good hR
  have B0 := Lib.hid (Bx.one hR); have R0 := Lib.hid (hB.below (below1 (w := w) (.cells #[.int .i64 k, .int .i64 n, .string s, .slice A len cap] 24))); clear hR hB
  cases hf : few x with
  | false =>
    go_enter Try.func6, Try.ntmps6
    go_wp2_with fail
    refine (sane_any _).mono ?_
    rintro e w1 ⟨rfl, hb1⟩
    have B1 := Lib.hid (B0.out.step hb1); clear hb1 B0
    obtain ⟨v0, v1, v2, v3, vf⟩ := four_cells B1.out.g
    go_wp2_with fail
    refine (few_one (x := x) (heap_alloc_new _ _) (B1.out.hR.below (below1 _))).mono ?_
    rw [hf]
    rintro e w2 ⟨rfl, hb2⟩
    go_wp2_with fail
    go_ret
    exact ⟨rfl, later B1.out.hb (later (below1 _) hb2)⟩
  | true =>
    obtain ⟨hsz, hle⟩ := few_sz hf
    have HF := Lib.hid hf; clear hf
    by_cases hbig : raw.length > 2000
    · go_enter Try.func6, Try.ntmps6
      go_wp2_with fail
      refine (sane_any _).mono ?_
      rintro e w1 ⟨rfl, hb1⟩
      have B1 := Lib.hid (B0.out.step hb1); clear hb1 B0
      obtain ⟨v0, v1, v2, v3, vf⟩ := four_cells B1.out.g
      go_wp2_with fail
      refine (few_one (x := x) (heap_alloc_new _ _) (B1.out.hR.below (below1 _))).mono ?_
      rw [HF.out]
      rintro e w2 ⟨rfl, hb2⟩
      go_wp2_with fail
      go_ret
      exact ⟨rfl, later B1.out.hb (later (below1 _) hb2)⟩
    · obtain ⟨L, hL⟩ : ∃ L, Hid (encOf x = L) := ⟨_, Lib.hid rfl⟩
      obtain ⟨c, hc⟩ : ∃ c, Hid (ckOf x.fm = c) := ⟨_, Lib.hid rfl⟩
      have Hgood := Lib.hid hgood; clear hgood
      go_enter Try.func6, Try.ntmps6
      go_wp2_with fail
      refine (sane_any _).mono ?_
      rintro e w1 ⟨rfl, hb1⟩
      have B1 := Lib.hid (B0.out.step hb1); have R1 := Lib.hid (R0.out.below hb1); clear hb1 B0 R0
      obtain ⟨v0, v1, v2, v3, vf⟩ := four_cells B1.out.g
      go_wp2_with fail
      refine (few_one (x := x) (heap_alloc_new _ _) (B1.out.hR.below (below1 _))).mono ?_
      rw [HF.out]
      rintro e w2 ⟨rfl, hb2⟩
      have B2 := Lib.hid (B1.out.step (later (below1 _) hb2)); have R2 := Lib.hid (R1.out.below (later (below1 _) hb2)); clear hb2 B1 R1 v0 v1 v2 v3 vf
      obtain ⟨v0, v1, v2, v3, vf⟩ := four_cells B2.out.g
      go_wp2_with fail
      refine (encode_eq hL.out hc.out (by omega) (by omega) B2.out.hR).mono ?_
      rintro e w3 ⟨A3, cap3, rfl, hb3, hB3⟩
      have B3 := Lib.hid (B2.out.step hb3); have R3 := Lib.hid (R2.out.below hb3); have HB3 := Lib.hid hB3; clear hb3 hB3 B2 R2 v0 v1 v2 v3 vf
      obtain ⟨v0, v1, v2, v3, vf⟩ := four_cells B3.out.g
      go_wp2_with fail
      refine (check_eq hc.out (by omega) B3.out.hR).mono ?_
      rintro e w4 ⟨rfl, hb4⟩
      have B4 := Lib.hid (B3.out.step hb4); have R4 := Lib.hid (R3.out.below hb4); have HB4 := Lib.hid (HB3.out.below hb4); clear hb4 HB3 B3 R3 v0 v1 v2 v3 vf
      obtain ⟨v0, v1, v2, v3, vf⟩ := four_cells B4.out.g
      by_cases h0 : c = 0
      · subst h0
        have hLx : L = x.enc := by rw [← hL.out]; exact enc_ok hc.out
        have hdd := dv_some (decode_enc hc.out Hgood.out)
        rw [← hLx] at hdd
        have hLl : L.length ≤ 1000000 := by rw [hLx]; omega
        have HDD := Lib.hid hdd; have HLl := Lib.hid hLl; clear hdd hLx hLl
        go_wp2_with fail
        refine (decode_eq HDD.out.1 HDD.out.2 HLl.out HB4.out).mono ?_
        rintro e w5 ⟨k5, n5, s5, A5, len5, cap5, rfl, hb5, hR5⟩
        have B5 := Lib.hid (B4.out.step (later hb5 (below1 (w := w5) (.cells #[.int .i64 k5, .int .i64 n5, .string s5, .slice A5 len5 cap5] 24)))); have R5 := Lib.hid (R4.out.below (later hb5 (below1 (w := w5) (.cells #[.int .i64 k5, .int .i64 n5, .string s5, .slice A5 len5 cap5] 24))))
        have D5 := Lib.hid (Bx.one hR5)
        clear hb5 hR5 B4 R4 HB4 v0 v1 v2 v3 vf
        obtain ⟨v0, v1, v2, v3, vf⟩ := four_cells B5.out.g
        obtain ⟨u0, u1, u2, u3, uf⟩ := four_cells D5.out.g
        go_wp2_with fail
        generalize (w5.alloc (.cells #[.int .i64 k5, .int .i64 n5, .string s5, .slice A5 len5 cap5] 24)) = w6 at *
        refine (same_eq (same_self x) (by omega) B5.out.hR D5.out.hR).mono ?_
        rintro e w7 ⟨rfl, hb7⟩
        have B7 := Lib.hid (B5.out.step hb7); have R7 := Lib.hid (R5.out.below hb7); have D7 := Lib.hid (D5.out.step hb7)
        clear hb7 B5 R5 D5 v0 v1 v2 v3 vf u0 u1 u2 u3 uf
        obtain ⟨v0, v1, v2, v3, vf⟩ := four_cells B7.out.g
        obtain ⟨u0, u1, u2, u3, uf⟩ := four_cells D7.out.g
        go_wp2_with fail
        refine (rsame_eq (same_self x) (by omega) B7.out.hR D7.out.hR).mono ?_
        rintro e w9 ⟨rfl, hb9⟩
        have B9 := Lib.hid (B7.out.step hb9); have R9 := Lib.hid (R7.out.below hb9)
        clear hb9 B7 R7 D7 v0 v1 v2 v3 vf u0 u1 u2 u3 uf
        cases hraw2 : decode raw with
        | none =>
          have HN := Lib.hid (dv_none hraw2); clear hraw2
          go_wp2_with fail
          refine (decode_eq HN.out.1 HN.out.2 (by omega) R9.out).mono ?_
          rintro e w10 ⟨k10, n10, s10, A10, len10, cap10, rfl, hb10, hR10⟩
          have D10 := Lib.hid (Bx.one hR10); have H10 := Lib.hid (later B9.out.hb (later hb10 (below1 (w := w10) (.cells #[.int .i64 k10, .int .i64 n10, .string s10, .slice A10 len10 cap10] 24))))
          clear hb10 hR10 B9 R9
          obtain ⟨u0, u1, u2, u3, uf⟩ := four_cells D10.out.g
          go_wp2_with fail
          refine (same_eq (same_self zeroX) (by decide) D10.out.hR (leaf_b _ 0 0 _ ⟨by decide, by decide⟩ ⟨by decide, by decide⟩ (by decide))).mono ?_
          rintro e w11 ⟨rfl, hb11⟩
          go_wp2_with fail
          go_ret
          exact ⟨rfl, later H10.out hb11⟩
        | some y =>
          have HN := Lib.hid (dv_some hraw2)
          have hys := dv_sz raw
          rw [HN.out.1] at hys
          obtain ⟨hye, hyk⟩ := decode_some hraw2
          have HYE : Hid (encOf y = raw) := Lib.hid (by rw [enc_ok hyk, hye])
          have HYK := Lib.hid hyk
          have hyl : y.enc.length < 700000000000 := by rw [hye]; omega
          clear hraw2 hyk hye
          go_wp2_with fail
          refine (decode_eq HN.out.1 HN.out.2 (by omega) R9.out).mono ?_
          rintro e w10 ⟨k10, n10, s10, A10, len10, cap10, rfl, hb10, hR10⟩
          have D10 := Lib.hid (Bx.one hR10); have H10 := Lib.hid (later B9.out.hb (later hb10 (below1 (w := w10) (.cells #[.int .i64 k10, .int .i64 n10, .string s10, .slice A10 len10 cap10] 24))))
          have R10 := Lib.hid (R9.out.below (later hb10 (below1 (w := w10) (.cells #[.int .i64 k10, .int .i64 n10, .string s10, .slice A10 len10 cap10] 24))))
          clear hb10 hR10 B9 R9
          obtain ⟨u0, u1, u2, u3, uf⟩ := four_cells D10.out.g
          go_wp2_with fail
          generalize (w10.alloc (.cells #[.int .i64 k10, .int .i64 n10, .string s10, .slice A10 len10 cap10] 24)) = w11 at *
          refine (encode_eq HYE.out HYK.out (by omega) hyl D10.out.hR).mono ?_
          rintro e w12 ⟨A12, cap12, rfl, hb12, hB12⟩
          have D12 := Lib.hid (D10.out.step hb12); have H12 := Lib.hid (later H10.out hb12)
          have ca := (R10.out.below hb12).conv
          have cb := hB12.conv
          clear hb12 hB12 D10 H10 R10 u0 u1 u2 u3 uf
          obtain ⟨u0, u1, u2, u3, uf⟩ := four_cells D12.out.g
          go_wp2_with fail
          refine (check_eq HYK.out (by omega) D12.out.hR).mono ?_
          rintro e w13 ⟨rfl, hb13⟩
          go_wp2_with fail
          go_ret
          exact ⟨rfl, later H12.out hb13⟩
      · have hc0 : (c == 0) = false := by simpa using h0
        clear h0
        cases hraw2 : decode raw with
        | none =>
          have HN := Lib.hid (dv_none hraw2); clear hraw2
          go_wp2_with fail
          refine (decode_eq HN.out.1 HN.out.2 (by omega) R4.out).mono ?_
          rintro e w10 ⟨k10, n10, s10, A10, len10, cap10, rfl, hb10, hR10⟩
          have D10 := Lib.hid (Bx.one hR10); have H10 := Lib.hid (later B4.out.hb (later hb10 (below1 (w := w10) (.cells #[.int .i64 k10, .int .i64 n10, .string s10, .slice A10 len10 cap10] 24))))
          clear hb10 hR10 B4 R4 v0 v1 v2 v3 vf
          obtain ⟨u0, u1, u2, u3, uf⟩ := four_cells D10.out.g
          go_wp2_with fail
          refine (same_eq (same_self zeroX) (by decide) D10.out.hR (leaf_b _ 0 0 _ ⟨by decide, by decide⟩ ⟨by decide, by decide⟩ (by decide))).mono ?_
          rintro e w11 ⟨rfl, hb11⟩
          go_wp2_with fail
          go_ret
          exact ⟨rfl, later H10.out hb11⟩
        | some y =>
          have HN := Lib.hid (dv_some hraw2)
          have hys := dv_sz raw
          rw [HN.out.1] at hys
          obtain ⟨hye, hyk⟩ := decode_some hraw2
          have HYE : Hid (encOf y = raw) := Lib.hid (by rw [enc_ok hyk, hye])
          have HYK := Lib.hid hyk
          have hyl : y.enc.length < 700000000000 := by rw [hye]; omega
          clear hraw2 hyk hye
          go_wp2_with fail
          refine (decode_eq HN.out.1 HN.out.2 (by omega) R4.out).mono ?_
          rintro e w10 ⟨k10, n10, s10, A10, len10, cap10, rfl, hb10, hR10⟩
          have D10 := Lib.hid (Bx.one hR10); have H10 := Lib.hid (later B4.out.hb (later hb10 (below1 (w := w10) (.cells #[.int .i64 k10, .int .i64 n10, .string s10, .slice A10 len10 cap10] 24))))
          have R10 := Lib.hid (R4.out.below (later hb10 (below1 (w := w10) (.cells #[.int .i64 k10, .int .i64 n10, .string s10, .slice A10 len10 cap10] 24))))
          clear hb10 hR10 B4 R4 v0 v1 v2 v3 vf
          obtain ⟨u0, u1, u2, u3, uf⟩ := four_cells D10.out.g
          go_wp2_with fail
          generalize (w10.alloc (.cells #[.int .i64 k10, .int .i64 n10, .string s10, .slice A10 len10 cap10] 24)) = w11 at *
          refine (encode_eq HYE.out HYK.out (by omega) hyl D10.out.hR).mono ?_
          rintro e w12 ⟨A12, cap12, rfl, hb12, hB12⟩
          have D12 := Lib.hid (D10.out.step hb12); have H12 := Lib.hid (later H10.out hb12)
          have ca := (R10.out.below hb12).conv
          have cb := hB12.conv
          clear hb12 hB12 D10 H10 R10 u0 u1 u2 u3 uf
          obtain ⟨u0, u1, u2, u3, uf⟩ := four_cells D12.out.g
          go_wp2_with fail
          refine (check_eq HYK.out (by omega) D12.out.hR).mono ?_
          rintro e w13 ⟨rfl, hb13⟩
          go_wp2_with fail
          go_ret
          exact ⟨rfl, later H12.out hb13⟩

end Go.Proofs.Ytjhecmmbpmpmgaa
