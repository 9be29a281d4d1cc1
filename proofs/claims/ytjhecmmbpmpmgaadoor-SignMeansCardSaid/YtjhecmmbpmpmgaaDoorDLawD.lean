/- signatorylaw11.SignMeans returns true. -/
import Derived.Test.YtjhecmmbpmpmgaaDoorDLawC
import Derived.Deep.RegionHeld3
namespace Go.Proofs.YtjhecmmbpmpmgaaDoor
open Go.RowKit Go.Lib

/-- a list of integers and texts, as a block of its own holds it -/
theorem block_rd {w : World} {its : List It} {b cap : Nat} {t : TypeId} {fr : Nat × Nat} (h : w.heap[b]? = some (.cells (cellsL its).toArray t fr)) (hc : its.length ≤ cap) (hm : cap ≤ 9223372036854775807) (hok : ∀ i ∈ its, i.Ok) :
    Rb w (listV its) (.agg #[.int .i64 3, .int .i64 0, .string ByteArray.empty, .slice (some ⟨b, 0, none⟩) its.length cap]) := by
  have hbw := (Array.getElem?_eq_some_iff.1 h).1
  have hcells : ∀ j, w.cell? ⟨b, j, none⟩ = (cellsL its)[j]? := fun j => by rw [cell_of_row w b j _ _ _ h]; simp
  unfold listV
  conv => arg 3; rw [show its.length = (its.map It.toV).length from by simp]
  refine .mk (fun i => match its[i]? with | some x => x.val | none => undef) ⟨by omega, by omega⟩ ⟨by omega, by omega⟩ (by decide) (by simpa using hc) hm (fun _ => ⟨b, 0, rfl, hbw⟩) (fun i b' off hi e => ?_) (fun i hi => ?_)
  · injection e with e; injection e with e1 e2
    subst e1 e2
    have hi' : i < its.length := by simpa using hi
    have hc : ∀ j (hj : j < 4), w.cell? ⟨b, i * 4 + j, none⟩ = (its[i]).cells[j]? := fun j hj => by
      rw [hcells, cellsL_at its i j hi' hj]
    have k0 := hc 0 (by omega); have k1 := hc 1 (by omega); have k2 := hc 2 (by omega); have k3 := hc 3 (by omega)
    rw [List.getElem?_eq_getElem hi', Nat.zero_add]
    generalize its[i] = x at k0 k1 k2 k3 ⊢
    cases x <;> exact rd_four k0 k1 k2 k3
  · have hi' : i < its.length := by simpa using hi
    have hx := hok its[i] (List.getElem_mem _)
    rw [List.getElem_map, List.getElem?_eq_getElem hi']
    generalize its[i] = x at hx ⊢
    cases x with
    | n z => exact d_leaf _ _ _ _ _ ⟨by omega, by omega⟩ hx (by decide)
    | b y =>
      have h1 : (strOf y).size = y.length := by simp [strOf, ByteArray.size]
      have h2 : y.length ≤ 1000000 := hx
      exact d_leaf _ _ _ _ _ ⟨by omega, by omega⟩ ⟨by omega, by omega⟩ (by omega)

set_option maxRecDepth 100000 in
set_option maxHeartbeats 1600000 in
theorem means_long (key E S : Int) (b : List UInt8) (v : Value) (w : World) (hB : Bb w b v) (hT : Tabs w) (hl : b.length > 600) :
    Calls Tryd.prog 5 #[.int .i64 key, v, .agg #[.int .i64 E, .int .i64 S]] w (YesB w) := by
  obtain ⟨A, cap, rfl, _⟩ := hB.form
  obtain ⟨n, hn⟩ : ∃ n, Hid (n = b.length) := ⟨_, Lib.hid rfl⟩
  rw [← hn.out] at hl ⊢
  have d1 : decide ((n : Int) > 600) = true := by simp; omega
  have hb0 := below_one w (.cells #[.int .i64 E, .int .i64 S] 24)
  have HS := Lib.hid (sane_any _ (hT.below hb0))
  have H0 := Lib.hid hb0
  clear hB hT hb0
  go_enter Tryd.func5, Tryd.ntmps5
  go_wp2_with (go_at_call 13; refine HS.out.mono ?_; clear HS; rintro e w1 ⟨rfl, hb1⟩; have H1 := Lib.hid (later H0.out hb1); clear hb1)
  go_ret
  exact ⟨rfl, H1.out⟩

theorem out_cases {E S : Int} (h : ¬ (0 ≤ E ∧ E < 1073741789 ∧ 0 ≤ S ∧ S < 1073741789)) :
    decide (E < 0) = true ∨ (decide (E < 0) = false ∧ decide (E ≥ 1073741789) = true) ∨ (decide (E < 0) = false ∧ decide (E ≥ 1073741789) = false ∧ decide (S < 0) = true) ∨ (decide (E < 0) = false ∧ decide (E ≥ 1073741789) = false ∧ decide (S < 0) = false ∧ decide (S ≥ 1073741789) = true) := by
  simp; omega

set_option maxRecDepth 100000 in
set_option maxHeartbeats 1600000 in
theorem means_out (key E S : Int) (b : List UInt8) (v : Value) (w : World) (hB : Bb w b v) (hT : Tabs w) (hl : ¬ b.length > 600) (h : ¬ (0 ≤ E ∧ E < 1073741789 ∧ 0 ≤ S ∧ S < 1073741789)) :
    Calls Tryd.prog 5 #[.int .i64 key, v, .agg #[.int .i64 E, .int .i64 S]] w (YesB w) := by
  have hv : Hid (ver key E S b = false) := Lib.hid (by unfold ver; rw [decide_eq_false h, Bool.false_and])
  have hbl : Hid (b.length ≤ 1000000) := Lib.hid (by omega)
  obtain ⟨A, cap, rfl, _⟩ := hB.form
  obtain ⟨n, hn⟩ : ∃ n, Hid (n = b.length) := ⟨_, Lib.hid rfl⟩
  rw [← hn.out] at hl hB ⊢
  have d1 : decide ((n : Int) > 600) = false := by simp; omega
  have S0 := Lib.hid (show SG w #[.int .i64 E, .int .i64 S] 24 (w.alloc (.cells #[.int .i64 E, .int .i64 S] 24)) from ⟨(Below.refl _ _).alloc (Nat.le_refl _) _, heap_alloc_new _ _⟩)
  have HS := Lib.hid (sane_any _ (hT.below S0.out.below))
  have HB := Lib.hid hB
  have HT := Lib.hid hT
  have hd := out_cases h
  clear hB hT hl h
  rcases hd with d2 | ⟨d2, d3⟩ | ⟨d2, d3, d4⟩ | ⟨d2, d3, d4, d5⟩
  all_goals
    go_enter Tryd.func5, Tryd.ntmps5
    go_wp2_with (go_at_call 13; refine HS.out.mono ?_; clear HS; rintro e w1 ⟨rfl, hb1⟩; have S1 := Lib.hid (S0.out.step hb1); clear hb1; obtain ⟨c0, c1, _, _⟩ := S1.out.cells2)
    refine (verify_b hv.out (HB.out.below S1.out.below) hbl.out (HT.out.below S1.out.below)).mono ?_
    rintro e w2 ⟨rfl, hb2⟩
    have S2 := Lib.hid (S1.out.step hb2)
    clear hb2 c0 c1
    obtain ⟨c0, c1, _, _⟩ := S2.out.cells2
    go_wp2_with fail
    go_ret
    exact ⟨rfl, S2.out.below⟩

set_option maxRecDepth 100000 in
set_option maxHeartbeats 1600000 in
theorem means_key (key E S : Int) (b : List UInt8) (v : Value) (w : World) (hB : Bb w b v) (hT : Tabs w) (hl : ¬ b.length > 600) (h : 0 ≤ E ∧ E < 1073741789 ∧ 0 ≤ S ∧ S < 1073741789) (hk : valid key = false) :
    Calls Tryd.prog 5 #[.int .i64 key, v, .agg #[.int .i64 E, .int .i64 S]] w (YesB w) := by
  have hv : Hid (ver key E S b = false) := Lib.hid (ver_bad hk)
  have hbl : Hid (b.length ≤ 1000000) := Lib.hid (by omega)
  obtain ⟨A, cap, rfl, _⟩ := hB.form
  obtain ⟨n, hn⟩ : ∃ n, Hid (n = b.length) := ⟨_, Lib.hid rfl⟩
  rw [← hn.out] at hl hB ⊢
  have d1 : decide ((n : Int) > 600) = false := by simp; omega
  have d2 : decide (E < 0) = false := by simp; omega
  have d3 : decide (E ≥ 1073741789) = false := by simp; omega
  have d4 : decide (S < 0) = false := by simp; omega
  have d5 : decide (S ≥ 1073741789) = false := by simp; omega
  have S0 := Lib.hid (show SG w #[.int .i64 E, .int .i64 S] 24 (w.alloc (.cells #[.int .i64 E, .int .i64 S] 24)) from ⟨(Below.refl _ _).alloc (Nat.le_refl _) _, heap_alloc_new _ _⟩)
  have HS := Lib.hid (sane_any _ (hT.below S0.out.below))
  have HB := Lib.hid hB
  have HT := Lib.hid hT
  have HK := fun w => valid_any key w
  rw [hk] at HK
  have HK := Lib.hid HK
  clear hB hT hl h hk
  go_enter Tryd.func5, Tryd.ntmps5
  go_wp2_with (go_at_call 13; refine HS.out.mono ?_; clear HS; rintro e w1 ⟨rfl, hb1⟩; have S1 := Lib.hid (S0.out.step hb1); clear hb1; obtain ⟨c0, c1, _, _⟩ := S1.out.cells2)
  refine (verify_b hv.out (HB.out.below S1.out.below) hbl.out (HT.out.below S1.out.below)).mono ?_
  rintro e w2 ⟨rfl, hb2⟩
  have S2 := Lib.hid (S1.out.step hb2)
  clear hb2 c0 c1
  obtain ⟨c0, c1, _, _⟩ := S2.out.cells2
  go_wp2_with (go_at_call 19; refine (HK.out _).mono ?_; rintro e w' ⟨rfl, rfl⟩)
  go_ret
  exact ⟨rfl, S2.out.below⟩

set_option maxRecDepth 100000 in
set_option maxHeartbeats 3200000 in
theorem means_good (key E S : Int) (b : List UInt8) (v : Value) (w : World) (hB : Bb w b v) (hT : Tabs w) (hl : ¬ b.length > 600) (h : 0 ≤ E ∧ E < 1073741789 ∧ 0 ≤ S ∧ S < 1073741789) (hk : valid key = true) :
    Calls Tryd.prog 5 #[.int .i64 key, v, .agg #[.int .i64 E, .int .i64 S]] w (YesB w) := by
  obtain ⟨r, hv⟩ : ∃ r, Hid (ver key E S b = r) := ⟨_, Lib.hid rfl⟩
  have hbl : Hid (b.length ≤ 1000000) := Lib.hid (by omega)
  obtain ⟨A, cap, rfl, _⟩ := hB.form
  obtain ⟨n, hn⟩ : ∃ n, Hid (n = b.length) := ⟨_, Lib.hid rfl⟩
  rw [← hn.out] at hl hB ⊢
  have d1 : decide ((n : Int) > 600) = false := by simp; omega
  have d2 : decide (E < 0) = false := by simp; omega
  have d3 : decide (E ≥ 1073741789) = false := by simp; omega
  have d4 : decide (S < 0) = false := by simp; omega
  have d5 : decide (S ≥ 1073741789) = false := by simp; omega
  have S0 := Lib.hid (show SG w #[.int .i64 E, .int .i64 S] 24 (w.alloc (.cells #[.int .i64 E, .int .i64 S] 24)) from ⟨(Below.refl _ _).alloc (Nat.le_refl _) _, heap_alloc_new _ _⟩)
  have HS := Lib.hid (sane_any _ (hT.below S0.out.below))
  have HB := Lib.hid hB
  have HT := Lib.hid hT
  have HK := fun w => valid_any key w
  rw [hk] at HK
  have HK := Lib.hid HK
  obtain ⟨pt, hpt⟩ : ∃ p, Hid (pointOf key E S = p) := ⟨_, Lib.hid rfl⟩
  have HP := fun w => point_any key E S hk ⟨h.1, h.2.1⟩ h.2.2 w
  rw [hpt.out] at HP
  have HP := Lib.hid HP
  have hpr : Hid (0 ≤ pt ∧ pt < 2147483579) := Lib.hid (by
    rw [← hpt.out]; unfold pointOf gmul
    split <;> omega)
  have hok : Hid (∀ i ∈ [It.n pt, It.n key, It.b b], i.Ok) := Lib.hid (three_ok (by have := hpr.out; omega) (by have := valid_range hk; omega) hbl.out)
  obtain ⟨L, hL⟩ : ∃ L, Hid (encOf (listV [.n pt, .n key, .b b]) = L) := ⟨_, Lib.hid rfl⟩
  have hp : 0 < L.length := by rw [← hL.out]; exact enc_items_pos _
  have hll : L.length ≤ 100000000 := by rw [← hL.out]; exact items_len hok.out (by simp)
  have hr : Hid (r = (E == (hashn signS L : Int))) := Lib.hid (by
    rw [← hv.out, ver, decide_eq_true h, hk, hpt.out, ← hL.out]; rfl)
  obtain ⟨h5, hh5⟩ : ∃ k : Nat, Hid (hashn signS L = k) := ⟨_, Lib.hid rfl⟩
  rw [hh5.out] at hr
  have hr' : (E == (h5 : Int)) = r := hr.out.symm
  clear hB hT hl h hk hr
  go_enter Tryd.func5, Tryd.ntmps5
  go_wp2_with (go_at_call 13; refine HS.out.mono ?_; clear HS; rintro e w1 ⟨rfl, hb1⟩; have S1 := Lib.hid (S0.out.step hb1); clear hb1; obtain ⟨c0, c1, _, _⟩ := S1.out.cells2)
  refine (verify_b hv.out (HB.out.below S1.out.below) hbl.out (HT.out.below S1.out.below)).mono ?_
  rintro e w2 ⟨rfl, hb2⟩
  have S2 := Lib.hid (S1.out.step hb2)
  clear hb2 c0 c1
  obtain ⟨c0, c1, _, _⟩ := S2.out.cells2
  go_wp2_with (go_at_call 19; refine (HK.out _).mono ?_; rintro e w' ⟨rfl, rfl⟩)
  refine (HP.out _).mono ?_
  rintro e w3 ⟨rfl, hb3⟩
  have S3 := Lib.hid (S2.out.step hb3)
  have kc := Bb.conv (HB.out.below S3.out.below)
  clear hb3 c0 c1
  go_wp2_with fail
  have hrow := heap_alloc_new w3 (.cells #[.int .i64 1, .int .i64 pt, .string { data := #[] }, .slice none 0 0, .int .i64 1, .int .i64 key, .string { data := #[] }, .slice none 0 0, .int .i64 2, .int .i64 0, .string (strOf b), .slice none 0 0] 41)
  have HR := block_rd (its := [.n pt, .n key, .b b]) (cap := 3) hrow (by simp) (by omega) hok.out
  have S4 := Lib.hid (S3.out.alloc (.cells #[.int .i64 1, .int .i64 pt, .string { data := #[] }, .slice none 0 0, .int .i64 1, .int .i64 key, .string { data := #[] }, .slice none 0 0, .int .i64 2, .int .i64 0, .string (strOf b), .slice none 0 0] 41))
  refine (encode_eq hL.out (ck_items _) (by have := (listV_bounds _ hok.out (by simp)).1; omega) (by have := (listV_bounds _ hok.out (by simp)).2; omega) HR).mono ?_
  rintro e w5 ⟨A5, cap5, rfl, hb5, hB5⟩
  have S5 := Lib.hid (S4.out.step hb5)
  obtain ⟨b5, o5, rfl, hA5⟩ := At.ofB hB5 hp
  have HA5 := Lib.hid hA5
  clear hrow HR hb5 hB5 hA5
  have c0 := fun wi (h : SG w #[.int .i64 E, .int .i64 S] 24 wi) => h.cells2.1
  have C0 := Lib.hid c0
  clear c0 kc
  go_wp2_with fail
  have SD := Lib.hid (S5.out.step (Below.refl _ _).drew)
  have HAD := Lib.hid (HA5.out.below (Below.refl _ _).drew)
  go_region_held3 (fun w' => w'.cell? ⟨w.heap.size, 0, none⟩ = some (.int .i64 E))
    (first | exact (C0.out _ S6.out) | exact (C0.out _ SD.out))
    ((go_at_call 22; refine (hash_any _ signS (by decide) L b5 o5 cap5 hp hll HAD.out (HT.out.below SD.out.below)).mono ?_; rintro e w6 ⟨rfl, hb6⟩; have S6 := Lib.hid (SD.out.step hb6); clear hb6; rw [hh5.out]))
  go_wp2_with fail
  go_ret
  exact ⟨rfl, S6.out.below⟩

theorem law_means (key E S : Int) (b : List UInt8) (v : Value) (w : World) (hB : Bb w b v) (hT : Tabs w) : Calls Tryd.prog 5 #[.int .i64 key, v, .agg #[.int .i64 E, .int .i64 S]] w (YesB w) := by
  by_cases hl : b.length > 600
  · exact means_long key E S b v w hB hT hl
  · by_cases h : 0 ≤ E ∧ E < 1073741789 ∧ 0 ≤ S ∧ S < 1073741789
    · cases hk : valid key with
      | false => exact means_key key E S b v w hB hT hl h hk
      | true => exact means_good key E S b v w hB hT hl h hk
    · exact means_out key E S b v w hB hT hl h

end Go.Proofs.YtjhecmmbpmpmgaaDoor
