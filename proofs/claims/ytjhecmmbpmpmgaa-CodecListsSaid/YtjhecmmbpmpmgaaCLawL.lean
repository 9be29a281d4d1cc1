/- signatorylaw01.CodecLists returns true. -/
import Derived.Test.YtjhecmmbpmpmgaaCLists
import Derived.StillTailTactics
namespace Go.Proofs.Ytjhecmmbpmpmgaa
open Go.RowKit Go.Lib

theorem lists_bounds {l : List V} (hf : l.all few = true) (hl : l.length ≤ 20) : (V.mk 3 0 ByteArray.empty l).sz ≤ 4001 ∧ (encL l).length ≤ 840000 ∧ (V.mk 3 0 ByteArray.empty l).enc.length ≤ 840011 := by
  have hall : ∀ x ∈ l, few x = true := List.all_eq_true.1 hf
  have h1 := szL_le 200 l (fun x hx => (few_sz (hall x hx)).1)
  have h2 := encL_le 42000 l (fun x hx => (few_sz (hall x hx)).2)
  have h3 := num_len l.length
  rw [V.sz_eq, list_enc, List.length_cons, List.length_append]
  omega

set_option maxRecDepth 100000 in
set_option maxHeartbeats 3200000 in
theorem law_lists (w : World) (l : List V) (A : Option Addr) (cap : Nat) (hR : Rl w l A cap) : Calls Try.prog 8 #[.slice A l.length cap] w (Yes w) := by
  obtain ⟨i0, hi, hz0, hz1, hz2⟩ := info_parts Try.infoU8
  obtain ⟨i1, hi1, hy0, hy1, hy2⟩ := info_parts Try.infoValue
  have hlmax : l.length ≤ 9223372036854775807 := by
    obtain ⟨A', cap', e, h1, h2, h3, h4, h5, h6⟩ := Rd.head hR
    omega
  have HR := Lib.hid hR; clear hR
  cases hf : l.all few with
  | false =>
    go_enter Try.func8, Try.ntmps8
    go_wp2_with fail
    refine (sane_any _).mono ?_
    rintro e w1 ⟨rfl, hb1⟩
    go_wp2_with fail
    refine (few_any w1 l A cap hlmax (HR.out.below hb1)).mono ?_
    rw [hf]
    rintro e w2 ⟨rfl, hb2⟩
    go_wp2_with fail
    go_ret
    exact ⟨rfl, later hb1 hb2⟩
  | true =>
    have HF := Lib.hid hf; clear hf
    by_cases hbig : l.length > 20
    · go_enter Try.func8, Try.ntmps8
      go_wp2_with fail
      refine (sane_any _).mono ?_
      rintro e w1 ⟨rfl, hb1⟩
      go_wp2_with fail
      refine (few_any w1 l A cap hlmax (HR.out.below hb1)).mono ?_
      rw [HF.out]
      rintro e w2 ⟨rfl, hb2⟩
      go_wp2_with fail
      go_ret
      exact ⟨rfl, later hb1 hb2⟩
    · obtain ⟨q1, q2, q3⟩ := lists_bounds HF.out (by omega)
      go_enter Try.func8, Try.ntmps8
      go_wp2_with fail
      refine (sane_any _).mono ?_
      rintro e w1 ⟨rfl, hb1⟩
      go_wp2_with fail
      refine (few_any w1 l A cap hlmax (HR.out.below hb1)).mono ?_
      rw [HF.out]
      rintro e w2 ⟨rfl, hb2⟩
      have H2 := Lib.hid (later hb1 hb2); clear hb1 hb2
      go_wp2_with fail
      go_loopw [3, 4, 5, 31] (fun want zeros sizes i wr => LLoop w l want zeros sizes i wr) (fun _ _ _ i _ => l.length - (intOf i).toNat)
      case atStart => exact ⟨0, by omega, rfl, rfl, fun j _ h => absurd h (by omega), LL.start w w2 l H2.out⟩
      case round =>
        obtain ⟨k, hk, rfl, rfl, hck, hL⟩ := hrel
        have HL := Lib.hid hL; have HCK := Lib.hid hck; clear hL hck
        have hsum := encL_take_le l k
        by_cases hlt : k < l.length
        · have hRr := HR.out.below HL.out.hb
          obtain ⟨b, off, k', n', s', l', A', cap', hxk, rfl, hbS, h4, hR'⟩ := Rd.at hRr k hlt
          have HX : Hid (Rb wr l[k] (.agg #[.int .i64 k', .int .i64 n', .string s', .slice A' l'.length cap'])) := Lib.hid (by rw [hxk]; exact hR')
          obtain ⟨c0, c1, c2, c3⟩ := h4
          obtain ⟨f1, f2⟩ := few_sz (List.all_eq_true.1 HF.out l[k] (List.getElem_mem _))
          have HEN := Lib.hid (encL_take_succ l k hlt)
          have hmem := enc_mem_le l k hlt
          have hpos := enc_pos l[k]
          obtain ⟨c, hc⟩ : ∃ c, Hid (ckOf l[k].fm = c) := ⟨_, Lib.hid rfl⟩
          have HBAD := Lib.hid (fun h => list_ck_bad (i := k) hlt h)
          obtain ⟨x, hx⟩ : ∃ x, Hid (l[k] = x) := ⟨_, Lib.hid rfl⟩
          obtain ⟨L, hLL⟩ : ∃ L, Hid (encOf l[k] = L) := ⟨_, Lib.hid rfl⟩
          clear hRr hxk hR'
          by_cases h0 : c = 0
          · subst h0
            have hLe : L = l[k].enc := by rw [← hLL.out]; exact enc_ok hc.out
            have HLe := Lib.hid hLe
            have hLpos : 0 < L.length := by rw [hLe]; exact hpos
            have hLlen : (encL (l.take k)).length + L.length ≤ 840000 := by rw [hLe]; omega
            clear hLe hmem hpos
            go_wp2_with fail
            refine (encode_eq hLL.out hc.out (by omega) (by omega) (HX.out.below (below1 _))).mono ?_
            rintro e w4 ⟨A4, cap4, rfl, hb4, hB4⟩
            have B4 := Lib.hid ((Bx.one HX.out).step hb4); have HB4 := Lib.hid hB4
            clear hb4 hB4
            obtain ⟨v0, v1, v2, v3, vf⟩ := four_cells B4.out.g
            go_wp2_with fail
            refine (size_eq (n := L.length) (by rw [hLL.out]) hc.out (by omega) (by omega) B4.out.hR).mono ?_
            rintro e w5 ⟨rfl, hb5⟩
            have LL5 := Lib.hid (HL.out.later (later B4.out.hb hb5))
            obtain ⟨ad, rfl, hnews⟩ := (HB4.out.below hb5).news hLpos
            clear hb5 B4 HB4 v0 v1 v2 v3 vf
            have hown := LL5.out.ow
            go_wp2_with (at_builtin; refine wpList_app _ rfl _ _ 27 rfl 5 i0 (.int .u8 0) 1 1 Try.underlying27 hi hz0 hz1 hz2 rfl (by decide) _ _ _ rfl hown ad _ cap4 (bc L) rfl (by rw [bc_len, Nat.mul_one]) hnews bc_one (by unfold maxLen; omega) (by omega) ?_; intro v6 w6 hown6 hwr6 _)
            have LL6 := Lib.hid (LL5.out.app1 hown6 hwr6 (by rw [HEN.out, HLe.out, List.length_append]) (by rw [HEN.out, HLe.out, bc_append]))
            clear hnews hown hown6 hwr6 LL5
            refine (ref_int 0 _).mono ?_
            rintro e w7 ⟨rfl, hb7⟩
            have LL7 := Lib.hid ((LL6.out.later hb7).later (below1 (.cells #[.int .i64 1, .int .i64 0, .string ByteArray.empty, .slice none 0 0] 24)))
            clear hb7 LL6
            have hown := LL7.out.oz
            go_wp2_with (at_builtin; refine wpList_app _ rfl _ _ 22 rfl 24 i1 (.agg #[.int .i64 0, .int .i64 0, .string ByteArray.empty, .slice none 0 0]) 4 56 Try.underlying22 hi1 hy0 hy1 hy2 rfl (by decide) _ _ _ rfl hown ⟨w7.heap.size, 0, none⟩ 1 1 [.int .i64 1, .int .i64 0, .string ByteArray.empty, .slice none 0 0] rfl rfl (World.news_of_block (heap_alloc_new w7 _)) four1 (by unfold maxLen; omega) (by omega) ?_; intro v8 w8 hown8 hwr8 _)
            have LL8 := Lib.hid (LL7.out.app2 hown8 hwr8 (flat_zv k).symm)
            clear hown hown8 hwr8 LL7
            go_wp2_with fail
            go_roundw
            case rel =>
              refine ⟨k + 1, by omega, by go_num, ?_, fun j hj hjk => ?_, LL8.out⟩
              · rw [HEN.out, List.length_append, HLe.out]; go_num
              · by_cases hjk' : j = k
                · subst hjk'; exact hc.out
                · exact HCK.out j hj (by omega)
            case measure => simp [intOf]; omega
          · have hc0 : (c == 0) = false := by simpa using h0
            have hc1 : (c != 0) = true := by simpa using h0
            obtain ⟨d, hd⟩ : ∃ d, Hid (ckOf (V.mk 3 0 ByteArray.empty l).fm = d) := ⟨_, Lib.hid rfl⟩
            have hd0 : d ≠ 0 := by rw [← hd.out]; exact HBAD.out (by rw [hc.out]; exact h0)
            have hd1 : (d != 0) = true := by simpa using hd0
            clear h0 hd0
            obtain ⟨LC, hLC⟩ : ∃ LC, Hid (encOf (V.mk 3 0 ByteArray.empty l) = LC) := ⟨_, Lib.hid rfl⟩
            go_wp2_with fail
            refine (encode_eq hLL.out hc.out (by omega) (by omega) (HX.out.below (below1 _))).mono ?_
            rintro e w4 ⟨A4, cap4, rfl, hb4, hB4⟩
            have B4 := Lib.hid ((Bx.one HX.out).step hb4)
            clear hb4 hB4
            obtain ⟨v0, v1, v2, v3, vf⟩ := four_cells B4.out.g
            go_wp2_with fail
            refine (size_eq (n := L.length) (by rw [hLL.out]) hc.out (by omega) (by omega) B4.out.hR).mono ?_
            rintro e w5 ⟨rfl, hb5⟩
            have H5 := Lib.hid (later HL.out.hb (later B4.out.hb hb5))
            clear hb5 B4 v0 v1 v2 v3 vf
            go_wp2_with fail
            refine (ref_list _ l.length cap _).mono ?_
            rintro e w6 ⟨rfl, hb6⟩
            have H6 := Lib.hid (later H5.out hb6); clear hb6 H5
            go_wp2_with fail
            refine (encode_eq hLC.out hd.out (by omega) (by omega) (HR.out.below H6.out)).mono ?_
            rintro e w7 ⟨A7, cap7, rfl, hb7, hB7⟩
            have H7 := Lib.hid (later H6.out hb7); clear hb7 hB7 H6
            go_wp2_with fail
            go_ret
            exact ⟨rfl, H7.out⟩
        · have hkl : k = l.length := by omega
          subst hkl
          have H0 := Lib.hid HL.out.hb
          obtain ⟨AZ, capZ, rfl, hRZ⟩ := HL.out.zer
          have HRZ := Lib.hid hRZ; clear hRZ
          have hBW := own_bytes HL.out.ow HL.out.nw
          obtain ⟨AW, capW, rfl, _⟩ := hBW.form
          rw [List.take_length] at hBW hsum
          have HBW : Hid (Bb wr (encL l) (.slice AW (encL l).length capW)) := Lib.hid (Bs.frame hBW (fun _ _ => rfl) (fun b hb => hb.2)); clear hBW
          clear HL
          rw [List.take_length]
          have hl20 : l.length ≤ 20 := by omega
          obtain ⟨LC, hLC⟩ : ∃ LC, Hid (encOf (V.mk 3 0 ByteArray.empty l) = LC) := ⟨_, Lib.hid rfl⟩
          rcases list_ck_ok (fun i hi => HCK.out i hi hi) with hd | hd
          · have hd := Lib.hid hd
            have hLC2 : LC = 3 :: (num l.length ++ encL l) := by rw [← hLC.out, enc_ok hd.out, list_enc]
            have HLC2 := Lib.hid hLC2
            have hnp := num_pos l.length; have hnl := num_len l.length
            have hcl : LC.length = 1 + (num l.length).length + (encL l).length := by rw [hLC2]; simp; omega
            have hzl : (encOf (V.mk 3 0 ByteArray.empty (List.replicate l.length x0))).length = 1 + (num l.length).length + 2 * l.length := by
              rw [enc_ok (zeros_ck _), list_enc, List.length_cons, List.length_append, zeros_encL, List.length_replicate]; omega
            have hdrop : LC.drop (LC.length - (encL l).length) = encL l := by
              rw [hLC2, show 3 :: (num l.length ++ encL l) = (3 :: num l.length) ++ encL l from rfl, List.length_append, Nat.add_sub_cancel, List.drop_left]
            obtain ⟨W, hW⟩ : ∃ W, Hid (encL l = W) := ⟨_, Lib.hid rfl⟩
            rw [hW.out] at hcl hdrop hsum q2 HBW ⊢
            obtain ⟨nn, hnn⟩ : ∃ nn, Hid ((num l.length).length = nn) := ⟨_, Lib.hid rfl⟩
            rw [hnn.out] at hcl hzl hnp hnl
            obtain ⟨nZ, hnZ⟩ : ∃ nZ : Nat, Hid (nZ = 1 + nn + 2 * l.length) := ⟨_, Lib.hid rfl⟩
            have hz1' : nZ ≤ 1 + nn + 2 * l.length := by have := hnZ.out; omega
            have hz2' : 1 + nn + 2 * l.length ≤ nZ := by have := hnZ.out; omega
            have HZL := Lib.hid (hzl.trans hnZ.out.symm); have HDROP := Lib.hid hdrop
            have hc1' : LC.length ≤ 1 + nn + W.length := by omega
            have hc2' : 1 + nn + W.length ≤ LC.length := by omega
            clear hcl
            clear hLC2 hzl hdrop HLC2
            go_wp2_with fail
            refine (ref_list A l.length cap _).mono ?_
            rintro e w6 ⟨rfl, hb6⟩
            have H6 := Lib.hid (later H0.out hb6); have RZ6 := Lib.hid (HRZ.out.below hb6); have BW6 := Lib.hid (HBW.out.below hb6); clear hb6 HRZ HBW H0
            go_wp2_with fail
            refine (encode_eq hLC.out hd.out (by omega) (by omega) (HR.out.below H6.out)).mono ?_
            rintro e w7 ⟨A7, cap7, rfl, hb7, hB7⟩
            have H7 := Lib.hid (later H6.out hb7); have RZ7 := Lib.hid (RZ6.out.below hb7); have BW7 := Lib.hid (BW6.out.below hb7); have BC7 := Lib.hid hB7; clear hb7 hB7 H6 RZ6 BW6
            go_wp2_with fail
            refine (ref_list AZ l.length capZ _).mono ?_
            rintro e w8 ⟨rfl, hb8⟩
            have H8 := Lib.hid (later H7.out hb8); have RZ8 := Lib.hid (RZ7.out.below hb8); have BW8 := Lib.hid (BW7.out.below hb8); have BC8 := Lib.hid (BC7.out.below hb8); clear hb8 H7 RZ7 BW7 BC7
            go_wp2_with fail
            have hrz := RZ8.out
            unfold Rl at hrz
            rw [List.length_replicate] at hrz
            refine (size_eq (n := nZ) HZL.out (zeros_ck _) (by rw [V.sz_eq, zeros_sz]; omega) (by have := HZL.out; rw [enc_ok (zeros_ck _)] at this; omega) hrz).mono ?_
            rintro e w9 ⟨rfl, hb9⟩
            have H9 := Lib.hid (later H8.out hb9); have BW9 := Lib.hid (BW8.out.below hb9); have BC9 := Lib.hid (BC8.out.below hb9); clear hb9 hrz H8 RZ8 BW8 BC8
            obtain ⟨P9, sl9, hs9⟩ := tail_bytes (Bs.frame BC9.out (w' := w9.drew) (fun _ _ => rfl) (fun _ h => h)) (LC.length - W.length) ((LC.length : Int) - W.length) (by omega) (by omega)
            have ca := Bs.conv hs9
            rw [HDROP.out] at ca
            have cb := Bs.conv (Bs.frame BW9.out (w' := w9.drew) (fun _ _ => rfl) (fun _ h => h))
            have o2 : decide ((LC.length : Int) - W.length ≥ 2) = true := by simp; omega
            have o3 : -9223372036854775808 ≤ 2 * (l.length : Int) ∧ 2 * (l.length : Int) ≤ 9223372036854775807 := by omega
            have o5 : -9223372036854775808 ≤ (nZ : Int) - 2 * (l.length : Int) ∧ (nZ : Int) - 2 * (l.length : Int) ≤ 9223372036854775807 := by omega
            have o7 : -9223372036854775808 ≤ (nZ : Int) - 2 * (l.length : Int) + W.length ∧ (nZ : Int) - 2 * (l.length : Int) + W.length ≤ 9223372036854775807 := by omega
            have t1 : ((LC.length : Int) == (nZ : Int) - 2 * (l.length : Int) + W.length) = true := by rw [beq_iff_eq]; omega
            have w1 : IntKind.i64.wrap (2 * (l.length : Int)) = 2 * (l.length : Int) := IntWalk.i64_in _ o3
            have w2 : IntKind.i64.wrap ((nZ : Int) - 2 * (l.length : Int)) = (nZ : Int) - 2 * (l.length : Int) := IntWalk.i64_in _ o5
            have w3 : IntKind.i64.wrap ((nZ : Int) - 2 * (l.length : Int) + W.length) = (nZ : Int) - 2 * (l.length : Int) + W.length := IntWalk.i64_in _ o7
            clear hs9 o3 o5 o7
            go_wp2_with fail
            go_still_tail 27, (by kernel_rfl)
            change wpList _ _ _ _ _ w9.drew
            go_wp2_with fail
            go_ret
            exact ⟨rfl, H9.out.drew⟩
          · have hd := Lib.hid hd
            go_wp2_with fail
            refine (ref_list A l.length cap _).mono ?_
            rintro e w6 ⟨rfl, hb6⟩
            have H6 := Lib.hid (later H0.out hb6); clear hb6 H0
            go_wp2_with fail
            refine (encode_eq hLC.out hd.out (by omega) (by omega) (HR.out.below H6.out)).mono ?_
            rintro e w7 ⟨A7, cap7, rfl, hb7, hB7⟩
            have H7 := Lib.hid (later H6.out hb7); clear hb7 hB7 H6
            go_wp2_with fail
            go_ret
            exact ⟨rfl, H7.out⟩

end Go.Proofs.Ytjhecmmbpmpmgaa
