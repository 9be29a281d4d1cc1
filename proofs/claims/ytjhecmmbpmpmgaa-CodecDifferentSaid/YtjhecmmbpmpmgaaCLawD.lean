/- signatorylaw01.CodecDifferent returns true. -/
import Derived.Test.YtjhecmmbpmpmgaaCLawC
import Derived.StillTailTactics
namespace Go.Proofs.Ytjhecmmbpmpmgaa
open Go.RowKit Go.Lib

/-- the first n bytes -/
theorem head_bytes {w : World} {S : Nat → Prop} {B : List UInt8} {A : Option Addr} {cap : Nat} (h : Bs w S B (.slice A B.length cap)) (n : Nat) (hle : n ≤ B.length) :
    ∃ A', (∀ w' : World, (Instr.slice 27 (.slice A B.length cap) none (some (.int .i64 n)) none).run Try.prog w' = .ok (.slice A' n cap) w') ∧ Bs w S (B.take n) (.slice A' n cap) := by
  obtain ⟨A0, cap0, e, h2, h3, h4⟩ := h
  injection e with e1 e2 e3
  subst e1 e3
  have hlen : (B.take n).length = n := by simp; omega
  refine ⟨A, fun w' => ?_, A, cap, by rw [hlen], by rw [hlen]; omega, h3, fun h0 => ?_⟩
  · rw [run_slice_h w' 27 A B.length cap (by rw [Try.elemU8]; exact Try.underlying27) .i64 (n : Int) (by omega) (by omega), Try.elemU8, Try.sizeU8]
    simp only [Result.andThen_ok, sliced]
    by_cases hc : cap = 0
    · rw [if_pos hc]; simp
    · rw [if_neg hc]
      cases A with
      | none => simp
      | some a => simp [Addr.add]
  · rw [hlen] at h0
    obtain ⟨b, off, e, hb, hc⟩ := h4 (by omega)
    exact ⟨b, off, e, hb, fun i hi => by rw [hlen] at hi; rw [hc i (by omega), List.getElem_take]⟩

/-- the beginnings of two encodings -/
theorem heads_differ {x y : V} {L M : List UInt8} (hx : ckOf x.fm = 0) (hy : ckOf y.fm = 0) (gx : x.good) (gy : y.good) (hL : encOf x = L) (hM : encOf y = M) (hne : x.same y = false) {n : Nat} (hn : n = min L.length M.length) : strOf (L.take n) ≠ strOf (M.take n) := by
  intro e
  have e2 : L.take n = M.take n := by
    have := congrArg (fun s => s.data.toList) e
    simpa [strOf] using this
  subst hL hM
  rw [enc_ok hx, enc_ok hy] at *
  have := enc_prefix hx hy gx gy n hn e2
  subst this
  rw [same_self] at hne; cases hne

set_option maxRecDepth 100000 in
set_option maxHeartbeats 3200000 in
theorem law_different (w : World) (x y : V) (v u : Value) (hR : Rb w x v) (hR' : Rb w y u) : Calls Try.prog 7 #[v, u] w (Yes w) := by
  obtain ⟨A, cap, k, n, s, len, rfl⟩ := hR.open
  obtain ⟨A', cap', k', n', s', len', rfl⟩ := hR'.open
  have Hgx := Lib.hid (Rd.good hR); have Hgy := Lib.hid (Rd.good hR')
  have B0 := Lib.hid (Bx.two1 (.cells #[.int .i64 k', .int .i64 n', .string s', .slice A' len' cap'] 24) hR)
  have D0 := Lib.hid (Bx.two2 (.cells #[.int .i64 k, .int .i64 n, .string s, .slice A len cap] 24) hR')
  clear hR hR'
  cases hf : (few x && few y) with
  | false =>
    go_enter Try.func7, Try.ntmps7
    go_wp2_with fail
    refine (sane_any _).mono ?_
    rintro e w1 ⟨rfl, hb1⟩
    have B1 := Lib.hid (B0.out.step hb1); have D1 := Lib.hid (D0.out.step hb1); clear hb1 B0 D0
    obtain ⟨v0, v1, v2, v3, vf⟩ := four_cells B1.out.g
    obtain ⟨u0, u1, u2, u3, uf⟩ := four_cells D1.out.g
    go_wp2_with fail
    refine (few_two (x := x) (y := y) (heap_alloc_new _ _) (B1.out.hR.below (below1 _)) (D1.out.hR.below (below1 _))).mono ?_
    rw [hf]
    rintro e w2 ⟨rfl, hb2⟩
    go_wp2_with fail
    go_ret
    exact ⟨rfl, later B1.out.hb (later (below1 _) hb2)⟩
  | true =>
    have HF := Lib.hid hf
    obtain ⟨hfx, hfy⟩ := Bool.and_eq_true_iff.1 hf
    obtain ⟨hsz, hle⟩ := few_sz hfx
    obtain ⟨hsz', hle'⟩ := few_sz hfy
    clear hf hfx hfy
    obtain ⟨L, hL⟩ : ∃ L, Hid (encOf x = L) := ⟨_, Lib.hid rfl⟩
    obtain ⟨M, hM⟩ : ∃ M, Hid (encOf y = M) := ⟨_, Lib.hid rfl⟩
    obtain ⟨c, hc⟩ : ∃ c, Hid (ckOf x.fm = c) := ⟨_, Lib.hid rfl⟩
    obtain ⟨d, hd⟩ : ∃ d, Hid (ckOf y.fm = d) := ⟨_, Lib.hid rfl⟩
    obtain ⟨q, hq⟩ : ∃ q, Hid (x.same y = q) := ⟨_, Lib.hid rfl⟩
    go_enter Try.func7, Try.ntmps7
    go_wp2_with fail
    refine (sane_any _).mono ?_
    rintro e w1 ⟨rfl, hb1⟩
    have B1 := Lib.hid (B0.out.step hb1); have D1 := Lib.hid (D0.out.step hb1); clear hb1 B0 D0
    obtain ⟨v0, v1, v2, v3, vf⟩ := four_cells B1.out.g
    obtain ⟨u0, u1, u2, u3, uf⟩ := four_cells D1.out.g
    go_wp2_with fail
    refine (few_two (x := x) (y := y) (heap_alloc_new _ _) (B1.out.hR.below (below1 _)) (D1.out.hR.below (below1 _))).mono ?_
    rw [HF.out]
    rintro e w2 ⟨rfl, hb2⟩
    have B2 := Lib.hid (B1.out.step (later (below1 _) hb2)); have D2 := Lib.hid (D1.out.step (later (below1 _) hb2)); clear hb2 B1 D1 v0 v1 v2 v3 vf u0 u1 u2 u3 uf
    obtain ⟨v0, v1, v2, v3, vf⟩ := four_cells B2.out.g
    go_wp2_with fail
    refine (encode_eq hL.out hc.out (by omega) (by omega) B2.out.hR).mono ?_
    rintro e w3 ⟨A3, cap3, rfl, hb3, hB3⟩
    have B3 := Lib.hid (B2.out.step hb3); have D3 := Lib.hid (D2.out.step hb3); have HB3 := Lib.hid hB3; clear hb3 hB3 B2 D2 v0 v1 v2 v3 vf
    obtain ⟨u0, u1, u2, u3, uf⟩ := four_cells D3.out.g
    go_wp2_with fail
    refine (encode_eq hM.out hd.out (by omega) (by omega) D3.out.hR).mono ?_
    rintro e w4 ⟨A4, cap4, rfl, hb4, hB4⟩
    have B4 := Lib.hid (B3.out.step hb4); have D4 := Lib.hid (D3.out.step hb4); have HB34 := Lib.hid (HB3.out.below hb4); have HB4 := Lib.hid hB4; clear hb4 hB4 HB3 B3 D3 u0 u1 u2 u3 uf
    obtain ⟨v0, v1, v2, v3, vf⟩ := four_cells B4.out.g
    obtain ⟨u0, u1, u2, u3, uf⟩ := four_cells D4.out.g
    by_cases hc0 : c = 0
    · by_cases hd0 : d = 0
      · subst hc0 hd0
        go_wp2_with fail
        refine (same_eq hq.out (by omega) B4.out.hR D4.out.hR).mono ?_
        rintro e w5 ⟨rfl, hb5⟩
        have H5 := Lib.hid (later B4.out.hb hb5); have C3 := Lib.hid (HB34.out.below hb5); have C4 := Lib.hid (HB4.out.below hb5)
        clear hb5 B4 D4 HB34 HB4 v0 v1 v2 v3 vf u0 u1 u2 u3 uf
        cases q with
        | true =>
          have hLM : L = M := by rw [← hL.out, ← hM.out, (V.same_iff x y).1 hq.out]
          subst hLM
          have ca := C3.out.conv
          have cb := C4.out.conv
          go_wp2_with fail
          go_ret
          exact ⟨rfl, H5.out⟩
        | false =>
          by_cases hLM : L.length ≤ M.length
          · have hmin : ¬ (M.length < L.length) := by omega
            have hdif := heads_differ (n := L.length) hc.out hd.out Hgx.out Hgy.out hL.out hM.out hq.out (by omega)
            have q : ¬ (strOf (L.take L.length)).toList = (strOf (M.take L.length)).toList := fun e => hdif (ba_ext (by simpa [ByteArray.toList_eq] using e))
            obtain ⟨P3, sl3, hs3⟩ := head_bytes (Bs.frame C3.out (w' := w5) (fun _ _ => rfl) (fun _ h => h)) L.length (by omega)
            obtain ⟨P4, sl4, hs4⟩ := head_bytes (Bs.frame C4.out (w' := w5) (fun _ _ => rfl) (fun _ h => h)) L.length (by omega)
            have ca := Bs.conv (Bs.frame hs3 (w' := w5.drew) (fun _ _ => rfl) (fun _ h => h))
            have cb := Bs.conv (Bs.frame hs4 (w' := w5.drew) (fun _ _ => rfl) (fun _ h => h))
            clear hs3 hs4 hdif
            go_wp2_with fail
            go_still_tail 9, (by kernel_rfl)
            change wpList _ _ _ _ _ w5.drew
            go_wp2_with fail
            go_ret
            exact ⟨ret_v (by simpa using q), H5.out.drew⟩
          · have hmin : M.length < L.length := by omega
            clear hLM
            have hdif := heads_differ (n := M.length) hc.out hd.out Hgx.out Hgy.out hL.out hM.out hq.out (by omega)
            have q : ¬ (strOf (L.take M.length)).toList = (strOf (M.take M.length)).toList := fun e => hdif (ba_ext (by simpa [ByteArray.toList_eq] using e))
            obtain ⟨P3, sl3, hs3⟩ := head_bytes (Bs.frame C3.out (w' := w5) (fun _ _ => rfl) (fun _ h => h)) M.length (by omega)
            obtain ⟨P4, sl4, hs4⟩ := head_bytes (Bs.frame C4.out (w' := w5) (fun _ _ => rfl) (fun _ h => h)) M.length (by omega)
            have ca := Bs.conv (Bs.frame hs3 (w' := w5.drew) (fun _ _ => rfl) (fun _ h => h))
            have cb := Bs.conv (Bs.frame hs4 (w' := w5.drew) (fun _ _ => rfl) (fun _ h => h))
            clear hs3 hs4 hdif
            go_wp2_with fail
            go_still_tail 9, (by kernel_rfl)
            change wpList _ _ _ _ _ w5.drew
            go_wp2_with fail
            go_ret
            exact ⟨ret_v (by simpa using q), H5.out.drew⟩
      · have t : (d == 0) = false := by simpa using hd0
        have t2 : (d != 0) = true := by simpa using hd0
        clear hd0
        subst hc0
        go_wp2_with fail
        go_ret
        exact ⟨rfl, B4.out.hb⟩
    · have t : (c == 0) = false := by simpa using hc0
      have t2 : (c != 0) = true := by simpa using hc0
      clear hc0
      go_wp2_with fail
      go_ret
      exact ⟨rfl, B4.out.hb⟩

end Go.Proofs.Ytjhecmmbpmpmgaa
