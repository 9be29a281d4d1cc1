/- signatorylaw01.CodecSameSpec returns true. -/
import Derived.Test.YtjhecmmbpmpmgaaCLawC
import Derived.Deep.RegionHeld3
namespace Go.Proofs.Ytjhecmmbpmpmgaa
open Go.RowKit Go.Lib

set_option maxRecDepth 100000 in
set_option maxHeartbeats 3200000 in
theorem law_same (w : World) (x y : V) (v u : Value) (hR : Rb w x v) (hR' : Rb w y u) : Calls Try.prog 5 #[v, u] w (Yes w) := by
  obtain ⟨A, cap, k, n, s, len, rfl⟩ := hR.open
  obtain ⟨A', cap', k', n', s', len', rfl⟩ := hR'.open
  have B0 := Lib.hid (Bx.two1 (.cells #[.int .i64 k', .int .i64 n', .string s', .slice A' len' cap'] 24) hR)
  have D0 := Lib.hid (Bx.two2 (.cells #[.int .i64 k, .int .i64 n, .string s, .slice A len cap] 24) hR')
  clear hR hR'
  cases hf : (few x && few y) with
  | false =>
    go_enter Try.func5, Try.ntmps5
    go_wp2_with fail
    refine (sane_any _).mono ?_
    rintro e w1 ⟨rfl, hb1⟩
    have B1 := Lib.hid (B0.out.step hb1); have D1 := Lib.hid (D0.out.step hb1); clear hb1 B0 D0
    obtain ⟨v0, v1, v2, v3, vf⟩ := four_cells B1.out.g
    obtain ⟨u0, u1, u2, u3, uf⟩ := four_cells D1.out.g
    go_wp2_with fail
    refine (few_two (x := x) (y := y) (heap_alloc_new _ _) (B1.out.hR.below (below1 _)) (D1.out.hR.below (below1 _))).mono ?_
    rw [hf]
    rintro e w2 ⟨rfl, hb2⟩
    go_wp2_with fail
    go_ret
    exact ⟨rfl, later B1.out.hb (later (below1 _) hb2)⟩
  | true =>
    have HF := Lib.hid hf
    obtain ⟨hfx, hfy⟩ := Bool.and_eq_true_iff.1 hf
    obtain ⟨hsz, hle⟩ := few_sz hfx
    obtain ⟨hsz', hle'⟩ := few_sz hfy
    clear hf hfx hfy
    obtain ⟨q, hq⟩ : ∃ q, Hid (x.same y = q) := ⟨_, Lib.hid rfl⟩
    go_enter Try.func5, Try.ntmps5
    go_wp2_with fail
    refine (sane_any _).mono ?_
    rintro e w1 ⟨rfl, hb1⟩
    have B1 := Lib.hid (B0.out.step hb1); have D1 := Lib.hid (D0.out.step hb1); clear hb1 B0 D0
    obtain ⟨v0, v1, v2, v3, vf⟩ := four_cells B1.out.g
    obtain ⟨u0, u1, u2, u3, uf⟩ := four_cells D1.out.g
    go_wp2_with fail
    refine (few_two (x := x) (y := y) (heap_alloc_new _ _) (B1.out.hR.below (below1 _)) (D1.out.hR.below (below1 _))).mono ?_
    rw [HF.out]
    rintro e w2 ⟨rfl, hb2⟩
    have B2 := Lib.hid (B1.out.step (later (below1 _) hb2)); have D2 := Lib.hid (D1.out.step (later (below1 _) hb2)); clear hb2 B1 D1 v0 v1 v2 v3 vf u0 u1 u2 u3 uf
    have S : Hid (∀ wi, Below w2.heap.size w2 wi → (wi.cell? ⟨w.heap.size, 0, none⟩ = some (.int .i64 k) ∧ wi.cell? ⟨w.heap.size, 1, none⟩ = some (.int .i64 n) ∧ wi.cell? ⟨w.heap.size, 2, none⟩ = some (.string s) ∧ wi.cell? ⟨w.heap.size, 3, none⟩ = some (.slice A len cap)) ∧
        (wi.cell? ⟨w.heap.size + 1, 0, none⟩ = some (.int .i64 k') ∧ wi.cell? ⟨w.heap.size + 1, 1, none⟩ = some (.int .i64 n') ∧ wi.cell? ⟨w.heap.size + 1, 2, none⟩ = some (.string s') ∧ wi.cell? ⟨w.heap.size + 1, 3, none⟩ = some (.slice A' len' cap'))) := Lib.hid fun wi hi => by
      obtain ⟨v0, v1, v2, v3, vf⟩ := four_cells (B2.out.step hi).g
      obtain ⟨u0, u1, u2, u3, uf⟩ := four_cells (D2.out.step hi).g
      exact ⟨⟨v0, v1, v2, v3⟩, u0, u1, u2, u3⟩
    have H0 : Hid (Below w2.heap.size w2 w2.drew) := Lib.hid (Below.refl _ _).drew
    have K1 : Hid (∀ wi, Below w2.heap.size w2 wi → Calls Try.prog 21 #[.agg #[.int .i64 k, .int .i64 n, .string s, .slice A len cap], .agg #[.int .i64 k', .int .i64 n', .string s', .slice A' len' cap']] wi fun e w' => e = .returned (.bool q) ∧ Below w2.heap.size w2 w') := Lib.hid fun wi hi =>
      (same_eq hq.out (by omega) (B2.out.step hi).hR (D2.out.step hi).hR).mono fun e w' h => ⟨h.1, later hi h.2⟩
    have K2 : Hid (∀ wi, Below w2.heap.size w2 wi → Calls Try.prog 20 #[.agg #[.int .i64 k, .int .i64 n, .string s, .slice A len cap], .agg #[.int .i64 k', .int .i64 n', .string s', .slice A' len' cap']] wi fun e w' => e = .returned (.bool q) ∧ Below w2.heap.size w2 w') := Lib.hid fun wi hi =>
      (rsame_eq hq.out (by omega) (B2.out.step hi).hR (D2.out.step hi).hR).mono fun e w' h => ⟨h.1, later hi h.2⟩
    have K3 : Hid (∀ wi, Below w2.heap.size w2 wi → Calls Try.prog 21 #[.agg #[.int .i64 k, .int .i64 n, .string s, .slice A len cap], .agg #[.int .i64 k, .int .i64 n, .string s, .slice A len cap]] wi fun e w' => e = .returned (.bool true) ∧ Below w2.heap.size w2 w') := Lib.hid fun wi hi =>
      (same_eq (same_self x) (by omega) (B2.out.step hi).hR (B2.out.step hi).hR).mono fun e w' h => ⟨h.1, later hi h.2⟩
    have K4 : Hid (∀ wi, Below w2.heap.size w2 wi → Calls Try.prog 21 #[.agg #[.int .i64 k', .int .i64 n', .string s', .slice A' len' cap'], .agg #[.int .i64 k', .int .i64 n', .string s', .slice A' len' cap']] wi fun e w' => e = .returned (.bool true) ∧ Below w2.heap.size w2 w') := Lib.hid fun wi hi =>
      (same_eq (same_self y) (by omega) (D2.out.step hi).hR (D2.out.step hi).hR).mono fun e w' h => ⟨h.1, later hi h.2⟩
    have HB := Lib.hid B2.out.hb
    obtain ⟨⟨v0, v1, v2, v3⟩, u0, u1, u2, u3⟩ := S.out _ (Below.refl _ _)
    clear B2 D2
    cases q
    all_goals
      go_wp2_with fail
      go_region_held3 (fun w' => (w'.cell? ⟨w.heap.size, 0, none⟩ = some (.int .i64 k) ∧ w'.cell? ⟨w.heap.size, 1, none⟩ = some (.int .i64 n) ∧ w'.cell? ⟨w.heap.size, 2, none⟩ = some (.string s) ∧ w'.cell? ⟨w.heap.size, 3, none⟩ = some (.slice A len cap)) ∧
          (w'.cell? ⟨w.heap.size + 1, 0, none⟩ = some (.int .i64 k') ∧ w'.cell? ⟨w.heap.size + 1, 1, none⟩ = some (.int .i64 n') ∧ w'.cell? ⟨w.heap.size + 1, 2, none⟩ = some (.string s') ∧ w'.cell? ⟨w.heap.size + 1, 3, none⟩ = some (.slice A' len' cap')))
        (first | exact S.out _ H0.out | exact S.out _ H1.out | exact S.out _ H2.out | exact S.out _ H3.out | exact S.out _ H4.out)
        (first
          | (go_at_call 20; refine (K2.out _ H1.out).mono ?_; rintro e w4 ⟨rfl, hb4⟩; have H2 := Lib.hid hb4; clear hb4)
          | (go_at_call 21; (with_reducible refine (K4.out _ H3.out).mono ?_); rintro e w6 ⟨rfl, hb6⟩; have H4 := Lib.hid hb6; clear hb6)
          | (go_at_call 21; (with_reducible refine (K3.out _ H2.out).mono ?_); rintro e w5 ⟨rfl, hb5⟩; have H3 := Lib.hid hb5; clear hb5)
          | (go_at_call 21; (with_reducible refine (K1.out _ H0.out).mono ?_); rintro e w3 ⟨rfl, hb3⟩; have H1 := Lib.hid hb3; clear hb3))
      all_goals
        go_wp2_with fail
        go_ret
        exact ⟨rfl, later HB.out H4.out⟩

end Go.Proofs.Ytjhecmmbpmpmgaa
