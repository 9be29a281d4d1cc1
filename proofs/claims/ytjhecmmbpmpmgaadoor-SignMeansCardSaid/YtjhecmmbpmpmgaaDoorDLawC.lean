/- signatorylaw11.SignRight returns true. -/
import Derived.Test.YtjhecmmbpmpmgaaDoorDLawB
namespace Go.Proofs.YtjhecmmbpmpmgaaDoor
open Go.RowKit Go.Lib

/-- a law's answer: true, and all that was there is as it was -/
def YesB (w : World) (e : Ending) (w' : World) : Prop := e = .returned (.bool true) ∧ Below w.heap.size w w'

set_option maxRecDepth 100000 in
set_option maxHeartbeats 1600000 in
theorem right_long (secret : Int) (b : List UInt8) (v : Value) (w : World) (hB : Bb w b v) (hT : Tabs w) (hl : b.length > 600) :
    Calls Tryd.prog 4 #[.int .i64 secret, v] w (YesB w) := by
  obtain ⟨A, cap, rfl, _⟩ := hB.form
  obtain ⟨n, hn⟩ : ∃ n, Hid (n = b.length) := ⟨_, Lib.hid rfl⟩
  rw [← hn.out] at hl ⊢
  have d1 : decide ((n : Int) > 600) = true := by simp; omega
  have HS := Lib.hid (sane_any w hT)
  clear hB hT
  go_enter Tryd.func4, Tryd.ntmps4
  go_wp2_with (go_at_call 13; refine HS.out.mono ?_; clear HS; rintro e w1 ⟨rfl, hb1⟩; have H1 := Lib.hid hb1; clear hb1)
  go_ret
  exact ⟨rfl, H1.out⟩

set_option maxRecDepth 100000 in
set_option maxHeartbeats 1600000 in
theorem right_no (secret : Int) (b : List UInt8) (v : Value) (w : World) (hB : Bb w b v) (hT : Tabs w) (hl : ¬ b.length > 600) (hs : secret < 1 ∨ secret ≥ 1073741789) :
    Calls Tryd.prog 4 #[.int .i64 secret, v] w (YesB w) := by
  obtain ⟨A, cap, rfl, _⟩ := hB.form
  obtain ⟨n, hn⟩ : ∃ n, Hid (n = b.length) := ⟨_, Lib.hid rfl⟩
  rw [← hn.out] at hl ⊢
  have d1 : decide ((n : Int) > 600) = false := by simp; omega
  have HS := Lib.hid (sane_any w hT)
  have HN := fun w => sign_no secret (.slice A n cap) w hs
  have HN := Lib.hid HN
  clear hB hT hl
  rcases Classical.em (secret < 1) with h1 | h1
  · have d2 : decide (secret < 1) = true := by simpa using h1
    clear h1 hs
    go_enter Tryd.func4, Tryd.ntmps4
    go_wp2_with (go_at_call 13; refine HS.out.mono ?_; clear HS; rintro e w1 ⟨rfl, hb1⟩; have H1 := Lib.hid hb1; clear hb1)
    refine (HN.out w1).mono ?_
    rintro e w2 ⟨rfl, hb2⟩
    have B3 := Lib.hid (later H1.out (later hb2 (below_one w2 (.cells #[.int .i64 0, .int .i64 0] 24))))
    have T3 := Lib.hid (Two.new w2 0 0)
    obtain ⟨c0, c1, _, _⟩ := T3.out.cells
    clear hb2
    go_wp2_with fail
    go_ret
    exact ⟨rfl, B3.out⟩
  · have d2 : decide (secret < 1) = false := by simpa using h1
    have d3 : decide (secret ≥ 1073741789) = true := by simp; omega
    clear h1 hs
    go_enter Tryd.func4, Tryd.ntmps4
    go_wp2_with (go_at_call 13; refine HS.out.mono ?_; clear HS; rintro e w1 ⟨rfl, hb1⟩; have H1 := Lib.hid hb1; clear hb1)
    refine (HN.out w1).mono ?_
    rintro e w2 ⟨rfl, hb2⟩
    have B3 := Lib.hid (later H1.out (later hb2 (below_one w2 (.cells #[.int .i64 0, .int .i64 0] 24))))
    have T3 := Lib.hid (Two.new w2 0 0)
    obtain ⟨c0, c1, _, _⟩ := T3.out.cells
    clear hb2
    go_wp2_with fail
    go_ret
    exact ⟨rfl, B3.out⟩

set_option maxRecDepth 100000 in
set_option maxHeartbeats 1600000 in
theorem right_yes (secret : Int) (b : List UInt8) (v : Value) (w : World) (hB : Bb w b v) (hT : Tabs w) (hl : ¬ b.length > 600) (h1 : 1 ≤ secret) (h2 : secret < 1073741789) :
    Calls Tryd.prog 4 #[.int .i64 secret, v] w (YesB w) := by
  obtain ⟨A, cap, rfl, _⟩ := hB.form
  obtain ⟨n, hn⟩ : ∃ n, Hid (n = b.length) := ⟨_, Lib.hid rfl⟩
  have hbl : Hid (b.length ≤ 1000000) := Lib.hid (by omega)
  rw [← hn.out] at hl hB ⊢
  have d1 : decide ((n : Int) > 600) = false := by simp; omega
  have d2 : decide (secret < 1) = false := by simp; omega
  have d3 : decide (secret ≥ 1073741789) = false := by simp; omega
  obtain ⟨E, hE⟩ : ∃ E, Hid ((sigE secret b : Int) = E) := ⟨_, Lib.hid rfl⟩
  obtain ⟨S, hS⟩ : ∃ S, Hid (sigS secret b = S) := ⟨_, Lib.hid rfl⟩
  obtain ⟨key, hK⟩ : ∃ k, Hid (gpow 4 secret = k) := ⟨_, Lib.hid rfl⟩
  have hv : Hid (ver key E S b = true) := Lib.hid (by rw [← hE.out, ← hS.out, ← hK.out]; exact ver_made secret b)
  have r1 := sigE_range secret b
  have r2 := sigS_range secret b
  rw [hE.out] at r1
  rw [hS.out] at r2
  have e1 : decide (E ≥ 0) = true := by simp; omega
  have e2 : decide (E < 1073741789) = true := by simp; omega
  have e3 : decide (S ≥ 0) = true := by simp; omega
  have e4 : decide (S < 1073741789) = true := by simp; omega
  have HS := Lib.hid (sane_any w hT)
  have HB := Lib.hid hB
  have HT := Lib.hid hT
  have H12 := Lib.hid (And.intro h1 h2)
  clear hB hT hl r1 r2 h1 h2
  go_enter Tryd.func4, Tryd.ntmps4
  go_wp2_with (go_at_call 13; refine HS.out.mono ?_; clear HS; rintro e w1 ⟨rfl, hb1⟩; have H1 := Lib.hid hb1; clear hb1)
  refine (sign_eq hE.out hS.out (HB.out.below H1.out) hbl.out H12.out.1 H12.out.2 (HT.out.below H1.out)).mono ?_
  rintro e w2 ⟨rfl, hb2⟩
  have B3 := Lib.hid (later H1.out (later hb2 (below_one w2 (.cells #[.int .i64 E, .int .i64 S] 24))))
  have T3 := Lib.hid (Two.new w2 E S)
  clear hb2
  go_wp2_with fail
  generalize w2.alloc (.cells #[.int .i64 E, .int .i64 S] 24) = w3 at *
  refine (sign_eq hE.out hS.out (HB.out.below B3.out) hbl.out H12.out.1 H12.out.2 (HT.out.below B3.out)).mono ?_
  rintro e w4 ⟨rfl, hb4⟩
  have hb5 := later hb4 (below_one w4 (.cells #[.int .i64 E, .int .i64 S] 24))
  have B5 := Lib.hid (later B3.out hb5)
  have T5 := Lib.hid (T3.out.below hb5)
  have U5 := Lib.hid (Two.new w4 E S)
  clear hb4 hb5
  go_wp2_with fail
  generalize w4.alloc (.cells #[.int .i64 E, .int .i64 S] 24) = w5 at *
  refine (pow_ok valid_four hK.out (by have := H12.out; omega) _).mono ?_
  rintro e w6 ⟨rfl, hb6⟩
  have B6 := Lib.hid (later B5.out hb6)
  obtain ⟨c0, c1, _, _⟩ := (T5.out.below hb6).cells
  obtain ⟨c2, c3, _, _⟩ := (U5.out.below hb6).cells
  clear hb6
  go_wp2_with fail
  refine (verify_b hv.out (HB.out.below B6.out) hbl.out (HT.out.below B6.out)).mono ?_
  rintro e w7 ⟨rfl, hb7⟩
  have B7 := Lib.hid (later B6.out hb7)
  clear hb7 c0 c1 c2 c3
  go_wp2_with fail
  go_ret
  exact ⟨rfl, B7.out⟩

theorem law_right (secret : Int) (b : List UInt8) (v : Value) (w : World) (hB : Bb w b v) (hT : Tabs w) : Calls Tryd.prog 4 #[.int .i64 secret, v] w (YesB w) := by
  by_cases hl : b.length > 600
  · exact right_long secret b v w hB hT hl
  · by_cases hs : 1 ≤ secret ∧ secret < 1073741789
    · exact right_yes secret b v w hB hT hl hs.1 hs.2
    · exact right_no secret b v w hB hT hl (by omega)

end Go.Proofs.YtjhecmmbpmpmgaaDoor
