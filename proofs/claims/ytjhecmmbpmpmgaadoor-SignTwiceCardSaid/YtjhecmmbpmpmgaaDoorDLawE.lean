/- signatorylaw11.SignTwice returns true. -/
import Derived.Test.YtjhecmmbpmpmgaaDoorDLawD
namespace Go.Proofs.YtjhecmmbpmpmgaaDoor
open Go.RowKit Go.Lib

set_option maxRecDepth 100000 in
set_option maxHeartbeats 400000 in
theorem quotient_any (a b : Int) (ha : -9223372036854775808 ≤ a ∧ a ≤ 9223372036854775807) (hb : -9223372036854775808 ≤ b ∧ b ≤ 9223372036854775807) (w : World) :
    Calls Tryd.prog 24 #[.int .i64 a, .int .i64 b] w fun e w' => e = .returned (.int .i64 (quo a b)) ∧ w' = w := by
  have hc := rpower_any b (thQ - 2) hb (by decide) w
  rw [show ((thQ - 2 : Nat) : Int) = 1073741787 from by decide] at hc
  obtain ⟨c, hcd⟩ : ∃ c : Nat, Hid (c = (ex b).toNat ^ (thQ - 2) % thQ) := ⟨_, Lib.hid rfl⟩
  have hlt : c < 1073741789 := by rw [hcd.out]; exact Nat.mod_lt _ (by decide)
  have hq : Hid (ex a * ex (c : Int) % 1073741789 = quo a b) := Lib.hid (by
    rw [show ex (c : Int) = (c : Int) from by unfold ex; omega]
    unfold quo; rw [← hcd.out]; rfl)
  rw [show (1073741789 : Nat) = thQ from rfl, ← hcd.out] at hc
  have hd := rtimes_any a (c : Int) ha (by omega) w
  rw [hq.out] at hd
  have HC := Lib.hid hc
  have HD := Lib.hid hd
  clear hc hd ha hb hlt
  go_enter Tryd.func24, Tryd.ntmps24
  go_wp2_with (first | (go_at_call 60; refine HC.out.mono ?_; clear HC; rintro e w' ⟨rfl, rfl⟩) | (go_at_call 52; refine HD.out.mono ?_; clear HD; rintro e w' ⟨rfl, rfl⟩))
  go_ret
  exact ⟨rfl, rfl⟩

/-- the law's two boxes -/
structure Boxes (w : World) (E S F T : Int) (wr : World) : Prop where
  below : Below w.heap.size w wr
  a : Two wr w.heap.size E S
  b : Two wr (w.heap.size + 1) F T
theorem Boxes.start (w : World) (E S F T : Int) : Boxes w E S F T ((w.alloc (.cells #[.int .i64 E, .int .i64 S] 24)).alloc (.cells #[.int .i64 F, .int .i64 T] 24)) := by
  refine ⟨(below_one w _).trans ((below_one _ _).mono (by simp)), (Two.new w E S).below (below_one _ _), ?_⟩
  have := Two.new (w.alloc (.cells #[.int .i64 E, .int .i64 S] 24)) F T
  rwa [show (w.alloc (.cells #[.int .i64 E, .int .i64 S] 24)).heap.size = w.heap.size + 1 from by simp] at this
theorem Boxes.step {w wr w' : World} {E S F T : Int} (h : Boxes w E S F T wr) (hb : Below wr.heap.size wr w') : Boxes w E S F T w' := ⟨later h.below hb, h.a.below hb, h.b.below hb⟩

theorem long_cases {n m k : Nat} (h : ¬ (n ≤ 600 ∧ m ≤ 600 ∧ k ≤ 600)) :
    decide ((n : Int) > 600) = true ∨ (decide ((n : Int) > 600) = false ∧ decide ((m : Int) > 600) = true) ∨ (decide ((n : Int) > 600) = false ∧ decide ((m : Int) > 600) = false ∧ decide ((k : Int) > 600) = true) := by
  simp; omega

set_option maxRecDepth 100000 in
set_option maxHeartbeats 1600000 in
theorem twice_long (key E S F T : Int) (b c d : List UInt8) (u v x : Value) (w : World) (hB : Bb w b u) (hC : Bb w c v) (hD : Bb w d x) (hT : Tabs w) (hl : ¬ (b.length ≤ 600 ∧ c.length ≤ 600 ∧ d.length ≤ 600)) :
    Calls Tryd.prog 6 #[.int .i64 key, u, v, x, .agg #[.int .i64 E, .int .i64 S], .agg #[.int .i64 F, .int .i64 T]] w (YesB w) := by
  obtain ⟨A1, cap1, rfl, _⟩ := hB.form
  obtain ⟨A2, cap2, rfl, _⟩ := hC.form
  obtain ⟨A3, cap3, rfl, _⟩ := hD.form
  have hd := long_cases hl
  have X0 := Lib.hid (Boxes.start w E S F T)
  have HS := Lib.hid (sane_any _ (hT.below X0.out.below))
  clear hB hC hD hT hl
  generalize b.length = n1 at *
  generalize c.length = n2 at *
  generalize d.length = n3 at *
  rcases hd with d2 | ⟨d2, d3⟩ | ⟨d2, d3, d4⟩
  all_goals
    go_enter Tryd.func6, Tryd.ntmps6
    go_wp2_with (go_at_call 13; refine HS.out.mono ?_; clear HS; rintro e w1 ⟨rfl, hb1⟩; have X1 := Lib.hid (X0.out.step hb1); clear hb1)
    go_ret
    exact ⟨rfl, X1.out.below⟩

/-- the texts, as the law holds them -/
structure Texts (w : World) (b c d : List UInt8) (u v x : Value) : Prop where
  b : Bb w b u
  c : Bb w c v
  d : Bb w d x
  t : Tabs w
theorem Texts.below {w w' : World} {b c d : List UInt8} {u v x : Value} (h : Texts w b c d u v x) (hb : Below w.heap.size w w') : Texts w' b c d u v x := ⟨h.b.below hb, h.c.below hb, h.d.below hb, h.t.below hb⟩

set_option maxRecDepth 100000 in
set_option maxHeartbeats 1600000 in
theorem twice_first (key E S F T : Int) (b c d : List UInt8) (u v x : Value) (w : World) (hX : Texts w b c d u v x) (hl : b.length ≤ 600 ∧ c.length ≤ 600 ∧ d.length ≤ 600) (h1 : ver key E S b = false) :
    Calls Tryd.prog 6 #[.int .i64 key, u, v, x, .agg #[.int .i64 E, .int .i64 S], .agg #[.int .i64 F, .int .i64 T]] w (YesB w) := by
  obtain ⟨A1, cap1, rfl, _⟩ := hX.b.form
  obtain ⟨A2, cap2, rfl, _⟩ := hX.c.form
  obtain ⟨A3, cap3, rfl, _⟩ := hX.d.form
  obtain ⟨n1, hn1⟩ : ∃ n, Hid (n = b.length) := ⟨_, Lib.hid rfl⟩
  obtain ⟨n2, hn2⟩ : ∃ n, Hid (n = c.length) := ⟨_, Lib.hid rfl⟩
  obtain ⟨n3, hn3⟩ : ∃ n, Hid (n = d.length) := ⟨_, Lib.hid rfl⟩
  have hbl : Hid (b.length ≤ 1000000) := Lib.hid (by omega)
  have X0 := Lib.hid (Boxes.start w E S F T)
  have HS := Lib.hid (sane_any _ (hX.t.below X0.out.below))
  have HX := Lib.hid hX
  have H1 := Lib.hid h1
  rw [← hn1.out, ← hn2.out, ← hn3.out] at hl HX ⊢
  have d1 : decide ((n1 : Int) > 600) = false := by simp; omega
  have d2 : decide ((n2 : Int) > 600) = false := by simp; omega
  have d3 : decide ((n3 : Int) > 600) = false := by simp; omega
  clear hX hl h1
  go_enter Tryd.func6, Tryd.ntmps6
  go_wp2_with (go_at_call 13; refine HS.out.mono ?_; clear HS; rintro e w1 ⟨rfl, hb1⟩; have X1 := Lib.hid (X0.out.step hb1); clear hb1; obtain ⟨c0, c1, _, _⟩ := X1.out.a.cells)
  refine (verify_b H1.out (HX.out.below X1.out.below).b hbl.out (HX.out.below X1.out.below).t).mono ?_
  rintro e w2 ⟨rfl, hb2⟩
  have X2 := Lib.hid (X1.out.step hb2)
  clear hb2 c0 c1
  go_wp2_with fail
  go_ret
  exact ⟨rfl, X2.out.below⟩

set_option maxRecDepth 100000 in
set_option maxHeartbeats 1600000 in
theorem twice_second (key E S F T : Int) (b c d : List UInt8) (u v x : Value) (w : World) (hX : Texts w b c d u v x) (hl : b.length ≤ 600 ∧ c.length ≤ 600 ∧ d.length ≤ 600) (h1 : ver key E S b = true) (h2 : ver key F T c = false) :
    Calls Tryd.prog 6 #[.int .i64 key, u, v, x, .agg #[.int .i64 E, .int .i64 S], .agg #[.int .i64 F, .int .i64 T]] w (YesB w) := by
  obtain ⟨A1, cap1, rfl, _⟩ := hX.b.form
  obtain ⟨A2, cap2, rfl, _⟩ := hX.c.form
  obtain ⟨A3, cap3, rfl, _⟩ := hX.d.form
  obtain ⟨n1, hn1⟩ : ∃ n, Hid (n = b.length) := ⟨_, Lib.hid rfl⟩
  obtain ⟨n2, hn2⟩ : ∃ n, Hid (n = c.length) := ⟨_, Lib.hid rfl⟩
  obtain ⟨n3, hn3⟩ : ∃ n, Hid (n = d.length) := ⟨_, Lib.hid rfl⟩
  have hbl : Hid (b.length ≤ 1000000 ∧ c.length ≤ 1000000) := Lib.hid (by omega)
  have X0 := Lib.hid (Boxes.start w E S F T)
  have HS := Lib.hid (sane_any _ (hX.t.below X0.out.below))
  have HX := Lib.hid hX
  have H1 := Lib.hid h1
  have H2 := Lib.hid h2
  rw [← hn1.out, ← hn2.out, ← hn3.out] at hl HX ⊢
  have d1 : decide ((n1 : Int) > 600) = false := by simp; omega
  have d2 : decide ((n2 : Int) > 600) = false := by simp; omega
  have d3 : decide ((n3 : Int) > 600) = false := by simp; omega
  clear hX hl h1 h2
  go_enter Tryd.func6, Tryd.ntmps6
  go_wp2_with (go_at_call 13; refine HS.out.mono ?_; clear HS; rintro e w1 ⟨rfl, hb1⟩; have X1 := Lib.hid (X0.out.step hb1); clear hb1; obtain ⟨c0, c1, _, _⟩ := X1.out.a.cells)
  refine (verify_b H1.out (HX.out.below X1.out.below).b hbl.out.1 (HX.out.below X1.out.below).t).mono ?_
  rintro e w2 ⟨rfl, hb2⟩
  have X2 := Lib.hid (X1.out.step hb2)
  clear hb2 c0 c1
  obtain ⟨c0, c1, _, _⟩ := X2.out.b.cells
  go_wp2_with fail
  refine (verify_b H2.out (HX.out.below X2.out.below).c hbl.out.2 (HX.out.below X2.out.below).t).mono ?_
  rintro e w3 ⟨rfl, hb3⟩
  have X3 := Lib.hid (X2.out.step hb3)
  clear hb3 c0 c1
  go_wp2_with fail
  go_ret
  exact ⟨rfl, X3.out.below⟩

theorem ver_true {key E S : Int} {b : List UInt8} (h : ver key E S b = true) : (0 ≤ E ∧ E < 1073741789) ∧ (0 ≤ S ∧ S < 1073741789) ∧ valid key = true := by
  unfold ver at h
  rw [Bool.and_eq_true, Bool.and_eq_true, decide_eq_true_iff] at h
  exact ⟨⟨h.1.1, h.1.2.1⟩, h.1.2.2, h.2.1⟩

set_option maxRecDepth 100000 in
set_option maxHeartbeats 3200000 in
theorem twice_apart (key E S F T : Int) (b c d : List UInt8) (u v x : Value) (w : World) (hX : Texts w b c d u v x) (hl : b.length ≤ 600 ∧ c.length ≤ 600 ∧ d.length ≤ 600) (h1 : ver key E S b = true) (h2 : ver key F T c = true) (hne : pointOf key E S ≠ pointOf key F T) :
    Calls Tryd.prog 6 #[.int .i64 key, u, v, x, .agg #[.int .i64 E, .int .i64 S], .agg #[.int .i64 F, .int .i64 T]] w (YesB w) := by
  obtain ⟨A1, cap1, rfl, _⟩ := hX.b.form
  obtain ⟨A2, cap2, rfl, _⟩ := hX.c.form
  obtain ⟨A3, cap3, rfl, _⟩ := hX.d.form
  obtain ⟨n1, hn1⟩ : ∃ n, Hid (n = b.length) := ⟨_, Lib.hid rfl⟩
  obtain ⟨n2, hn2⟩ : ∃ n, Hid (n = c.length) := ⟨_, Lib.hid rfl⟩
  obtain ⟨n3, hn3⟩ : ∃ n, Hid (n = d.length) := ⟨_, Lib.hid rfl⟩
  have hbl : Hid (b.length ≤ 1000000 ∧ c.length ≤ 1000000 ∧ d.length ≤ 1000000) := Lib.hid (by omega)
  have X0 := Lib.hid (Boxes.start w E S F T)
  have HS := Lib.hid (sane_any _ (hX.t.below X0.out.below))
  have HX := Lib.hid hX
  have H1 := Lib.hid h1
  have H2 := Lib.hid h2
  obtain ⟨rE, rS, hk⟩ := ver_true h1
  obtain ⟨rF, rT, _⟩ := ver_true h2
  rw [← hn1.out, ← hn2.out, ← hn3.out] at hl HX ⊢
  have d1 : decide ((n1 : Int) > 600) = false := by simp; omega
  have d2 : decide ((n2 : Int) > 600) = false := by simp; omega
  have d3 : decide ((n3 : Int) > 600) = false := by simp; omega
  obtain ⟨p, hp⟩ : ∃ p, Hid (pointOf key E S = p) := ⟨_, Lib.hid rfl⟩
  have HP := fun w => point_any key E S hk rE rS w
  rw [hp.out] at HP
  have HP := Lib.hid HP
  have HQ := fun w => point_any key F T hk rF rT w
  obtain ⟨q, hq⟩ : ∃ p, Hid (pointOf key F T = p) := ⟨_, Lib.hid rfl⟩
  rw [hq.out] at HQ
  have HQ := Lib.hid HQ
  rw [hp.out, hq.out] at hne
  have e1 : (p != q) = true := by simpa using hne
  clear hX hl h1 h2 hk hne rE rS rF rT
  go_enter Tryd.func6, Tryd.ntmps6
  go_wp2_with (go_at_call 13; refine HS.out.mono ?_; clear HS; rintro e w1 ⟨rfl, hb1⟩; have X1 := Lib.hid (X0.out.step hb1); clear hb1; obtain ⟨c0, c1, _, _⟩ := X1.out.a.cells)
  refine (verify_b H1.out (HX.out.below X1.out.below).b hbl.out.1 (HX.out.below X1.out.below).t).mono ?_
  rintro e w2 ⟨rfl, hb2⟩
  have X2 := Lib.hid (X1.out.step hb2)
  clear hb2 c0 c1
  obtain ⟨c0, c1, _, _⟩ := X2.out.b.cells
  go_wp2_with fail
  refine (verify_b H2.out (HX.out.below X2.out.below).c hbl.out.2.1 (HX.out.below X2.out.below).t).mono ?_
  rintro e w3 ⟨rfl, hb3⟩
  have X3 := Lib.hid (X2.out.step hb3)
  clear hb3 c0 c1
  obtain ⟨c0, c1, _, _⟩ := X3.out.a.cells
  go_wp2_with fail
  refine (HP.out _).mono ?_
  rintro e w4 ⟨rfl, hb4⟩
  have X4 := Lib.hid (X3.out.step hb4)
  clear hb4 c0 c1
  obtain ⟨c0, c1, _, _⟩ := X4.out.b.cells
  go_wp2_with fail
  refine (HQ.out _).mono ?_
  rintro e w5 ⟨rfl, hb5⟩
  have X5 := Lib.hid (X4.out.step hb5)
  clear hb5 c0 c1
  obtain ⟨c0, c1, _, _⟩ := X5.out.a.cells
  obtain ⟨c2, c3, _, _⟩ := X5.out.b.cells
  go_wp2_with fail
  go_ret
  exact ⟨rfl, X5.out.below⟩

set_option maxRecDepth 100000 in
set_option maxHeartbeats 3200000 in
theorem twice_same (key E S F T : Int) (b c d : List UInt8) (u v x : Value) (w : World) (hX : Texts w b c d u v x) (hl : b.length ≤ 600 ∧ c.length ≤ 600 ∧ d.length ≤ 600) (h1 : ver key E S b = true) (h2 : ver key F T c = true) (he : pointOf key E S = pointOf key F T) (h0 : ex (E - F) = 0) :
    Calls Tryd.prog 6 #[.int .i64 key, u, v, x, .agg #[.int .i64 E, .int .i64 S], .agg #[.int .i64 F, .int .i64 T]] w (YesB w) := by
  obtain ⟨A1, cap1, rfl, _⟩ := hX.b.form
  obtain ⟨A2, cap2, rfl, _⟩ := hX.c.form
  obtain ⟨A3, cap3, rfl, _⟩ := hX.d.form
  obtain ⟨n1, hn1⟩ : ∃ n, Hid (n = b.length) := ⟨_, Lib.hid rfl⟩
  obtain ⟨n2, hn2⟩ : ∃ n, Hid (n = c.length) := ⟨_, Lib.hid rfl⟩
  obtain ⟨n3, hn3⟩ : ∃ n, Hid (n = d.length) := ⟨_, Lib.hid rfl⟩
  have hbl : Hid (b.length ≤ 1000000 ∧ c.length ≤ 1000000 ∧ d.length ≤ 1000000) := Lib.hid (by omega)
  have X0 := Lib.hid (Boxes.start w E S F T)
  have HS := Lib.hid (sane_any _ (hX.t.below X0.out.below))
  have HX := Lib.hid hX
  have H1 := Lib.hid h1
  have H2 := Lib.hid h2
  obtain ⟨rE, rS, hk⟩ := ver_true h1
  obtain ⟨rF, rT, _⟩ := ver_true h2
  rw [← hn1.out, ← hn2.out, ← hn3.out] at hl HX ⊢
  have d1 : decide ((n1 : Int) > 600) = false := by simp; omega
  have d2 : decide ((n2 : Int) > 600) = false := by simp; omega
  have d3 : decide ((n3 : Int) > 600) = false := by simp; omega
  obtain ⟨p, hp⟩ : ∃ p, Hid (pointOf key E S = p) := ⟨_, Lib.hid rfl⟩
  have HP := fun w => point_any key E S hk rE rS w
  rw [hp.out] at HP
  have HP := Lib.hid HP
  have HQ := fun w => point_any key F T hk rF rT w
  rw [← he, hp.out] at HQ
  have HQ := Lib.hid HQ
  have w1' : IntKind.i64.wrap (E - F) = E - F := IntWalk.i64_in _ (by omega)
  have w2' : IntKind.i64.wrap (S - T) = S - T := IntWalk.i64_in _ (by omega)
  have HM := fun w => mod_any (E - F) (by clear w1' w2'; omega) w
  obtain ⟨m, hm⟩ : ∃ m, Hid (ex (E - F) = m) := ⟨_, Lib.hid rfl⟩
  rw [hm.out] at HM h0
  have HM := Lib.hid HM
  subst h0
  clear hX hl h1 h2 hk he rE rS rF rT
  go_enter Tryd.func6, Tryd.ntmps6
  go_wp2_with (go_at_call 13; refine HS.out.mono ?_; clear HS; rintro e w1 ⟨rfl, hb1⟩; have X1 := Lib.hid (X0.out.step hb1); clear hb1; obtain ⟨c0, c1, _, _⟩ := X1.out.a.cells)
  refine (verify_b H1.out (HX.out.below X1.out.below).b hbl.out.1 (HX.out.below X1.out.below).t).mono ?_
  rintro e w2 ⟨rfl, hb2⟩
  have X2 := Lib.hid (X1.out.step hb2)
  clear hb2 c0 c1
  obtain ⟨c0, c1, _, _⟩ := X2.out.b.cells
  go_wp2_with fail
  refine (verify_b H2.out (HX.out.below X2.out.below).c hbl.out.2.1 (HX.out.below X2.out.below).t).mono ?_
  rintro e w3 ⟨rfl, hb3⟩
  have X3 := Lib.hid (X2.out.step hb3)
  clear hb3 c0 c1
  obtain ⟨c0, c1, _, _⟩ := X3.out.a.cells
  go_wp2_with fail
  refine (HP.out _).mono ?_
  rintro e w4 ⟨rfl, hb4⟩
  have X4 := Lib.hid (X3.out.step hb4)
  clear hb4 c0 c1
  obtain ⟨c0, c1, _, _⟩ := X4.out.b.cells
  go_wp2_with fail
  refine (HQ.out _).mono ?_
  rintro e w5 ⟨rfl, hb5⟩
  have X5 := Lib.hid (X4.out.step hb5)
  clear hb5 c0 c1
  obtain ⟨c0, c1, _, _⟩ := X5.out.a.cells
  obtain ⟨c2, c3, _, _⟩ := X5.out.b.cells
  go_wp2_with (go_at_call 23; refine (HM.out _).mono ?_; rintro e w' ⟨rfl, rfl⟩)
  go_ret
  exact ⟨rfl, X5.out.below⟩

set_option maxRecDepth 100000 in
set_option maxHeartbeats 3200000 in
theorem twice_none (key E S F T : Int) (b c d : List UInt8) (u v x : Value) (w : World) (hX : Texts w b c d u v x) (hl : b.length ≤ 600 ∧ c.length ≤ 600 ∧ d.length ≤ 600) (h1 : ver key E S b = true) (h2 : ver key F T c = true) (he : pointOf key E S = pointOf key F T) (h0 : ex (E - F) ≠ 0) (hz : quo (S - T) (E - F) = 0) :
    Calls Tryd.prog 6 #[.int .i64 key, u, v, x, .agg #[.int .i64 E, .int .i64 S], .agg #[.int .i64 F, .int .i64 T]] w (YesB w) := by
  obtain ⟨A1, cap1, rfl, _⟩ := hX.b.form
  obtain ⟨A2, cap2, rfl, _⟩ := hX.c.form
  obtain ⟨A3, cap3, rfl, _⟩ := hX.d.form
  obtain ⟨n1, hn1⟩ : ∃ n, Hid (n = b.length) := ⟨_, Lib.hid rfl⟩
  obtain ⟨n2, hn2⟩ : ∃ n, Hid (n = c.length) := ⟨_, Lib.hid rfl⟩
  obtain ⟨n3, hn3⟩ : ∃ n, Hid (n = d.length) := ⟨_, Lib.hid rfl⟩
  have hbl : Hid (b.length ≤ 1000000 ∧ c.length ≤ 1000000 ∧ d.length ≤ 1000000) := Lib.hid (by omega)
  have X0 := Lib.hid (Boxes.start w E S F T)
  have HS := Lib.hid (sane_any _ (hX.t.below X0.out.below))
  have HX := Lib.hid hX
  have H1 := Lib.hid h1
  have H2 := Lib.hid h2
  obtain ⟨rE, rS, hk⟩ := ver_true h1
  obtain ⟨rF, rT, _⟩ := ver_true h2
  rw [← hn1.out, ← hn2.out, ← hn3.out] at hl HX ⊢
  have d1 : decide ((n1 : Int) > 600) = false := by simp; omega
  have d2 : decide ((n2 : Int) > 600) = false := by simp; omega
  have d3 : decide ((n3 : Int) > 600) = false := by simp; omega
  obtain ⟨p, hp⟩ : ∃ p, Hid (pointOf key E S = p) := ⟨_, Lib.hid rfl⟩
  have HP := fun w => point_any key E S hk rE rS w
  rw [hp.out] at HP
  have HP := Lib.hid HP
  have HQ := fun w => point_any key F T hk rF rT w
  rw [← he, hp.out] at HQ
  have HQ := Lib.hid HQ
  have w1' : IntKind.i64.wrap (E - F) = E - F := IntWalk.i64_in _ (by omega)
  have w2' : IntKind.i64.wrap (S - T) = S - T := IntWalk.i64_in _ (by omega)
  have HM := fun w => mod_any (E - F) (by clear w1' w2'; omega) w
  obtain ⟨m, hm⟩ : ∃ m, Hid (ex (E - F) = m) := ⟨_, Lib.hid rfl⟩
  rw [hm.out] at HM h0
  have HM := Lib.hid HM
  obtain ⟨x, hx⟩ : ∃ x, Hid (quo (S - T) (E - F) = x) := ⟨_, Lib.hid rfl⟩
  have HU := fun w => quotient_any (S - T) (E - F) (by clear w1' w2'; omega) (by clear w1' w2'; omega) w
  rw [hx.out] at HU
  have HU := Lib.hid HU
  have hkey : Hid (gpow 4 x = key) := Lib.hid (by rw [← hx.out]; exact twice hk he (by rw [hm.out]; exact h0))
  have hxr := quo_range (S - T) (E - F)
  rw [hx.out] at hxr
  have e0 : (m == 0) = false := by simpa using h0
  have HW := fun w => pow_ok valid_four hkey.out (by clear w1' w2'; omega) w
  have HW := Lib.hid HW
  rw [hx.out] at hz
  subst hz
  clear hX hl h1 h2 hk he h0 rE rS rF rT hxr
  go_enter Tryd.func6, Tryd.ntmps6
  go_wp2_with (go_at_call 13; refine HS.out.mono ?_; clear HS; rintro e w1 ⟨rfl, hb1⟩; have X1 := Lib.hid (X0.out.step hb1); clear hb1; obtain ⟨c0, c1, _, _⟩ := X1.out.a.cells)
  refine (verify_b H1.out (HX.out.below X1.out.below).b hbl.out.1 (HX.out.below X1.out.below).t).mono ?_
  rintro e w2 ⟨rfl, hb2⟩
  have X2 := Lib.hid (X1.out.step hb2)
  clear hb2 c0 c1
  obtain ⟨c0, c1, _, _⟩ := X2.out.b.cells
  go_wp2_with fail
  refine (verify_b H2.out (HX.out.below X2.out.below).c hbl.out.2.1 (HX.out.below X2.out.below).t).mono ?_
  rintro e w3 ⟨rfl, hb3⟩
  have X3 := Lib.hid (X2.out.step hb3)
  clear hb3 c0 c1
  obtain ⟨c0, c1, _, _⟩ := X3.out.a.cells
  go_wp2_with fail
  refine (HP.out _).mono ?_
  rintro e w4 ⟨rfl, hb4⟩
  have X4 := Lib.hid (X3.out.step hb4)
  clear hb4 c0 c1
  obtain ⟨c0, c1, _, _⟩ := X4.out.b.cells
  go_wp2_with fail
  refine (HQ.out _).mono ?_
  rintro e w5 ⟨rfl, hb5⟩
  have X5 := Lib.hid (X4.out.step hb5)
  clear hb5 c0 c1
  obtain ⟨c0, c1, _, _⟩ := X5.out.a.cells
  obtain ⟨c2, c3, _, _⟩ := X5.out.b.cells
  go_wp2_with (first | (go_at_call 23; refine (HM.out _).mono ?_; rintro e w' ⟨rfl, rfl⟩) | (go_at_call 24; refine (HU.out _).mono ?_; rintro e w' ⟨rfl, rfl⟩))
  refine (HW.out _).mono ?_
  rintro e w6 ⟨rfl, hb6⟩
  have X6 := Lib.hid (X5.out.step hb6)
  clear hb6 c0 c1 c2 c3
  go_wp2_with fail
  refine (sign_no 0 _ _ (.inl (by decide))).mono ?_
  rintro e w7 ⟨rfl, hb7⟩
  have X8 := Lib.hid (X6.out.step (later hb7 (below_one w7 (.cells #[.int .i64 0, .int .i64 0] 24))))
  clear hb7
  go_wp2_with fail
  go_ret
  exact ⟨rfl, X8.out.below⟩

set_option maxRecDepth 100000 in
set_option maxHeartbeats 3200000 in
theorem twice_known (key E S F T : Int) (b c d : List UInt8) (u v x : Value) (w : World) (hX : Texts w b c d u v x) (hl : b.length ≤ 600 ∧ c.length ≤ 600 ∧ d.length ≤ 600) (h1 : ver key E S b = true) (h2 : ver key F T c = true) (he : pointOf key E S = pointOf key F T) (h0 : ex (E - F) ≠ 0) (hz : quo (S - T) (E - F) ≠ 0) :
    Calls Tryd.prog 6 #[.int .i64 key, u, v, x, .agg #[.int .i64 E, .int .i64 S], .agg #[.int .i64 F, .int .i64 T]] w (YesB w) := by
  obtain ⟨A1, cap1, rfl, _⟩ := hX.b.form
  obtain ⟨A2, cap2, rfl, _⟩ := hX.c.form
  obtain ⟨A3, cap3, rfl, _⟩ := hX.d.form
  obtain ⟨n1, hn1⟩ : ∃ n, Hid (n = b.length) := ⟨_, Lib.hid rfl⟩
  obtain ⟨n2, hn2⟩ : ∃ n, Hid (n = c.length) := ⟨_, Lib.hid rfl⟩
  obtain ⟨n3, hn3⟩ : ∃ n, Hid (n = d.length) := ⟨_, Lib.hid rfl⟩
  have hbl : Hid (b.length ≤ 1000000 ∧ c.length ≤ 1000000 ∧ d.length ≤ 1000000) := Lib.hid (by omega)
  have X0 := Lib.hid (Boxes.start w E S F T)
  have HS := Lib.hid (sane_any _ (hX.t.below X0.out.below))
  have HX := Lib.hid hX
  have H1 := Lib.hid h1
  have H2 := Lib.hid h2
  obtain ⟨rE, rS, hk⟩ := ver_true h1
  obtain ⟨rF, rT, _⟩ := ver_true h2
  rw [← hn1.out, ← hn2.out, ← hn3.out] at hl HX ⊢
  have d1 : decide ((n1 : Int) > 600) = false := by simp; omega
  have d2 : decide ((n2 : Int) > 600) = false := by simp; omega
  have d3 : decide ((n3 : Int) > 600) = false := by simp; omega
  obtain ⟨p, hp⟩ : ∃ p, Hid (pointOf key E S = p) := ⟨_, Lib.hid rfl⟩
  have HP := fun w => point_any key E S hk rE rS w
  rw [hp.out] at HP
  have HP := Lib.hid HP
  have HQ := fun w => point_any key F T hk rF rT w
  rw [← he, hp.out] at HQ
  have HQ := Lib.hid HQ
  have w1' : IntKind.i64.wrap (E - F) = E - F := IntWalk.i64_in _ (by omega)
  have w2' : IntKind.i64.wrap (S - T) = S - T := IntWalk.i64_in _ (by omega)
  have HM := fun w => mod_any (E - F) (by clear w1' w2'; omega) w
  obtain ⟨m, hm⟩ : ∃ m, Hid (ex (E - F) = m) := ⟨_, Lib.hid rfl⟩
  rw [hm.out] at HM h0
  have HM := Lib.hid HM
  obtain ⟨x, hx⟩ : ∃ x, Hid (quo (S - T) (E - F) = x) := ⟨_, Lib.hid rfl⟩
  have HU := fun w => quotient_any (S - T) (E - F) (by clear w1' w2'; omega) (by clear w1' w2'; omega) w
  rw [hx.out] at HU
  have HU := Lib.hid HU
  have hkey : Hid (gpow 4 x = key) := Lib.hid (by rw [← hx.out]; exact twice hk he (by rw [hm.out]; exact h0))
  have hxr := quo_range (S - T) (E - F)
  rw [hx.out] at hxr
  have e0 : (m == 0) = false := by simpa using h0
  have HW := fun w => pow_ok valid_four hkey.out (by clear w1' w2'; omega) w
  have HW := Lib.hid HW
  rw [hx.out] at hz
  have e2 : (x == 0) = false := by simpa using hz
  obtain ⟨G, hG⟩ : ∃ E, Hid ((sigE x d : Int) = E) := ⟨_, Lib.hid rfl⟩
  obtain ⟨I, hI⟩ : ∃ E, Hid (sigS x d = E) := ⟨_, Lib.hid rfl⟩
  have hv : Hid (ver key G I d = true) := Lib.hid (by rw [← hG.out, ← hI.out, ← hkey.out]; exact ver_made x d)
  have hxx : Hid (1 ≤ x ∧ x < 1073741789) := Lib.hid (by clear w1' w2'; omega)
  clear hX hl h1 h2 hk he h0 hz rE rS rF rT hxr
  go_enter Tryd.func6, Tryd.ntmps6
  go_wp2_with (go_at_call 13; refine HS.out.mono ?_; clear HS; rintro e w1 ⟨rfl, hb1⟩; have X1 := Lib.hid (X0.out.step hb1); clear hb1; obtain ⟨c0, c1, _, _⟩ := X1.out.a.cells)
  refine (verify_b H1.out (HX.out.below X1.out.below).b hbl.out.1 (HX.out.below X1.out.below).t).mono ?_
  rintro e w2 ⟨rfl, hb2⟩
  have X2 := Lib.hid (X1.out.step hb2)
  clear hb2 c0 c1
  obtain ⟨c0, c1, _, _⟩ := X2.out.b.cells
  go_wp2_with fail
  refine (verify_b H2.out (HX.out.below X2.out.below).c hbl.out.2.1 (HX.out.below X2.out.below).t).mono ?_
  rintro e w3 ⟨rfl, hb3⟩
  have X3 := Lib.hid (X2.out.step hb3)
  clear hb3 c0 c1
  obtain ⟨c0, c1, _, _⟩ := X3.out.a.cells
  go_wp2_with fail
  refine (HP.out _).mono ?_
  rintro e w4 ⟨rfl, hb4⟩
  have X4 := Lib.hid (X3.out.step hb4)
  clear hb4 c0 c1
  obtain ⟨c0, c1, _, _⟩ := X4.out.b.cells
  go_wp2_with fail
  refine (HQ.out _).mono ?_
  rintro e w5 ⟨rfl, hb5⟩
  have X5 := Lib.hid (X4.out.step hb5)
  clear hb5 c0 c1
  obtain ⟨c0, c1, _, _⟩ := X5.out.a.cells
  obtain ⟨c2, c3, _, _⟩ := X5.out.b.cells
  go_wp2_with (first | (go_at_call 23; refine (HM.out _).mono ?_; rintro e w' ⟨rfl, rfl⟩) | (go_at_call 24; refine (HU.out _).mono ?_; rintro e w' ⟨rfl, rfl⟩))
  refine (HW.out _).mono ?_
  rintro e w6 ⟨rfl, hb6⟩
  have X6 := Lib.hid (X5.out.step hb6)
  clear hb6 c0 c1 c2 c3
  go_wp2_with fail
  refine (sign_eq hG.out hI.out (HX.out.below X6.out.below).d hbl.out.2.2 hxx.out.1 hxx.out.2 (HX.out.below X6.out.below).t).mono ?_
  rintro e w7 ⟨rfl, hb7⟩
  have X8 := Lib.hid (X6.out.step (later hb7 (below_one w7 (.cells #[.int .i64 G, .int .i64 I] 24))))
  obtain ⟨c0, c1, _, _⟩ := (Two.new w7 G I).cells
  clear hb7
  go_wp2_with fail
  refine (verify_b hv.out (HX.out.below X8.out.below).d hbl.out.2.2 (HX.out.below X8.out.below).t).mono ?_
  rintro e w9 ⟨rfl, hb9⟩
  have X9 := Lib.hid (X8.out.step hb9)
  clear hb9 c0 c1
  go_wp2_with fail
  go_ret
  exact ⟨rfl, X9.out.below⟩

theorem law_twice (key E S F T : Int) (b c d : List UInt8) (u v x : Value) (w : World) (hB : Bb w b u) (hC : Bb w c v) (hD : Bb w d x) (hT : Tabs w) :
    Calls Tryd.prog 6 #[.int .i64 key, u, v, x, .agg #[.int .i64 E, .int .i64 S], .agg #[.int .i64 F, .int .i64 T]] w (YesB w) := by
  by_cases hl : b.length ≤ 600 ∧ c.length ≤ 600 ∧ d.length ≤ 600
  · cases h1 : ver key E S b with
    | false => exact twice_first key E S F T b c d u v x w ⟨hB, hC, hD, hT⟩ hl h1
    | true =>
      cases h2 : ver key F T c with
      | false => exact twice_second key E S F T b c d u v x w ⟨hB, hC, hD, hT⟩ hl h1 h2
      | true =>
        by_cases he : pointOf key E S = pointOf key F T
        · by_cases h0 : ex (E - F) = 0
          · exact twice_same key E S F T b c d u v x w ⟨hB, hC, hD, hT⟩ hl h1 h2 he h0
          · by_cases hz : quo (S - T) (E - F) = 0
            · exact twice_none key E S F T b c d u v x w ⟨hB, hC, hD, hT⟩ hl h1 h2 he h0 hz
            · exact twice_known key E S F T b c d u v x w ⟨hB, hC, hD, hT⟩ hl h1 h2 he h0 hz
        · exact twice_apart key E S F T b c d u v x w ⟨hB, hC, hD, hT⟩ hl h1 h2 he
  · exact twice_long key E S F T b c d u v x w hB hC hD hT hl

end Go.Proofs.YtjhecmmbpmpmgaaDoor
