/- signatorylaw11.SignSpec returns true. -/
import Derived.Test.YtjhecmmbpmpmgaaDoorDRefI
import Derived.Test.YtjhecmmbpmpmgaaDoorMLaw
namespace Go.Proofs.YtjhecmmbpmpmgaaDoor
open Go.RowKit Go.Lib

section
variable {P : Program} {ops : Array Oper} {C : World → Prop}
theorem quiet_opg {Q : Act → Prop} {a : Act} {o : Oper} {rest : List Oper} (hg : Region.wanted o (yielded ops a.tmps) = true) (v : Value) (hv : ∀ w, C w → (execOp a.eval o).run P w = .ok (.value v) w) (h : wpQuiet P ops C Q rest (a.put o.dst v)) : wpQuiet P ops C Q (o :: rest) a := by
  unfold wpQuiet
  rw [if_pos hg]
  exact ⟨v, fun w hw => by unfold Oper.quietAt; rw [hv w hw]; exact ⟨rfl, rfl⟩, h⟩

theorem quiet_enterg {Q : Act → Prop} {a : Act} {o : Oper} {rest : List Oper} (hg : Region.wanted o (yielded ops a.tmps) = true) (f : FuncId) (args : Array Value) (v : Value) (hv : ∀ w, C w → (execOp a.eval o).run P w = .ok (.enter f args) w) (hc : ∀ w, C w → Calls P f args w fun e w' => e = .returned v ∧ C w') (h : wpQuiet P ops C Q rest (a.put o.dst v)) : wpQuiet P ops C Q (o :: rest) a := by
  unfold wpQuiet
  rw [if_pos hg]
  exact ⟨v, fun w hw => by unfold Oper.quietAt; rw [hv w hw]; exact ⟨rfl, hc w hw⟩, h⟩
end

/-- the law's three blocks -/
structure Three (w : World) (N1 N2 : Nat) (E S X Y : Int) (wr : World) : Prop where
  below : Below w.heap.size w wr
  s : Two wr w.heap.size E S
  x : Two wr N1 X Y
  y : Two wr N2 X Y
theorem Three.step {w wr w' : World} {N1 N2 : Nat} {E S X Y : Int} (h : Three w N1 N2 E S X Y wr) (hb : Below wr.heap.size wr w') : Three w N1 N2 E S X Y w' :=
  ⟨later h.below hb, h.s.below hb, h.x.below hb, h.y.below hb⟩

theorem both_sign (secret : Int) (b : List UInt8) (v : Value) (hb : b.length ≤ 1000000) : ∃ X Y c : Int,
    (∀ w, Bb w b v → Tabs w → Calls Tryd.prog 14 #[.int .i64 secret, v] w fun e w' => e = .returned (.tuple #[.agg #[.int .i64 X, .int .i64 Y], .int .i64 c]) ∧ Below w.heap.size w w') ∧
    (∀ w, Bb w b v → Calls Tryd.prog 15 #[.int .i64 secret, v] w fun e w' => e = .returned (.tuple #[.agg #[.int .i64 X, .int .i64 Y], .int .i64 c]) ∧ Below w.heap.size w w') := by
  by_cases h : 1 ≤ secret ∧ secret < 1073741789
  · exact ⟨sigE secret b, sigS secret b, 0, fun w hB hT => sign_any secret b v w hB hb h.1 h.2 hT, fun w hB => rsign_any secret b v w hB hb h.1 h.2⟩
  · exact ⟨0, 0, 110, fun w _ _ => sign_no secret v w (by omega), fun w _ => rsign_no secret v w (by omega)⟩

set_option maxRecDepth 100000 in
set_option maxHeartbeats 1600000 in
theorem spec_long (secret key E S : Int) (b : List UInt8) (v : Value) (w : World) (hB : Bb w b v) (hT : Tabs w) (hl : b.length > 600) :
    Calls Tryd.prog 3 #[.int .i64 secret, .int .i64 key, v, .agg #[.int .i64 E, .int .i64 S]] w (YesB w) := by
  obtain ⟨A, cap, rfl, _⟩ := hB.form
  obtain ⟨n, hn⟩ : ∃ n, Hid (n = b.length) := ⟨_, Lib.hid rfl⟩
  rw [← hn.out] at hl ⊢
  have d1 : decide ((n : Int) > 600) = true := by simp; omega
  have hb0 := below_one w (.cells #[.int .i64 E, .int .i64 S] 24)
  have HS := Lib.hid (sane_any _ (hT.below hb0))
  have H0 := Lib.hid hb0
  clear hB hT hb0
  go_enter Tryd.func3, Tryd.ntmps3
  go_wp2_with (go_at_call 13; refine HS.out.mono ?_; clear HS; rintro e w1 ⟨rfl, hb1⟩; have H1 := Lib.hid (later H0.out hb1); clear hb1)
  go_ret
  exact ⟨rfl, H1.out⟩

set_option maxRecDepth 100000 in
set_option maxHeartbeats 3200000 in
theorem spec_short (secret key E S : Int) (b : List UInt8) (v : Value) (w : World) (hB : Bb w b v) (hT : Tabs w) (hl : ¬ b.length > 600) :
    Calls Tryd.prog 3 #[.int .i64 secret, .int .i64 key, v, .agg #[.int .i64 E, .int .i64 S]] w (YesB w) := by
  obtain ⟨r, hv⟩ : ∃ r, Hid (ver key E S b = r) := ⟨_, Lib.hid rfl⟩
  have hbl : Hid (b.length ≤ 1000000) := Lib.hid (by omega)
  obtain ⟨X, Y, c, hs1, hs2⟩ := both_sign secret b v hbl.out
  have HS1 := Lib.hid hs1
  have HS2 := Lib.hid hs2
  clear hs1 hs2
  obtain ⟨A, cap, rfl, _⟩ := hB.form
  obtain ⟨n, hn⟩ : ∃ n, Hid (n = b.length) := ⟨_, Lib.hid rfl⟩
  rw [← hn.out] at hl hB HS1 HS2 ⊢
  have d1 : decide ((n : Int) > 600) = false := by simp; omega
  have hb0 := below_one w (.cells #[.int .i64 E, .int .i64 S] 24)
  have H0 := Lib.hid (And.intro hb0 (Two.new w E S))
  have HS := Lib.hid (sane_any _ (hT.below hb0))
  have HB := Lib.hid hB
  have HT := Lib.hid hT
  clear hB hT hl hb0
  go_enter Tryd.func3, Tryd.ntmps3
  go_wp2_with (go_at_call 13; refine HS.out.mono ?_; clear HS; rintro e w1 ⟨rfl, hb1⟩; have H1 := Lib.hid (And.intro (later H0.out.1 hb1) (H0.out.2.below hb1)); clear hb1)
  refine (HS1.out _ (HB.out.below H1.out.1) (HT.out.below H1.out.1)).mono ?_
  rintro e w2 ⟨rfl, hb2⟩
  have hb3 := later hb2 (below_one w2 (.cells #[.int .i64 X, .int .i64 Y] 24))
  have H3 := Lib.hid (And.intro (later H1.out.1 hb3) (And.intro (H1.out.2.below hb3) (Two.new w2 X Y)))
  clear hb2 hb3
  go_wp2_with fail
  generalize w2.alloc (.cells #[.int .i64 X, .int .i64 Y] 24) = w3 at *
  refine (HS2.out _ (HB.out.below H3.out.1)).mono ?_
  rintro e w4 ⟨rfl, hb4⟩
  have hb5 := later hb4 (below_one w4 (.cells #[.int .i64 X, .int .i64 Y] 24))
  have H5 : Hid (Three w w2.heap.size w4.heap.size E S X Y (w4.alloc (.cells #[.int .i64 X, .int .i64 Y] 24))) := Lib.hid ⟨later H3.out.1 hb5, H3.out.2.1.below hb5, H3.out.2.2.below hb5, Two.new w4 X Y⟩
  clear hb4 hb5
  go_wp2_with fail
  generalize w4.alloc (.cells #[.int .i64 X, .int .i64 Y] 24) = w5 at *
  have HV1 : Hid (∀ wi, Three w w2.heap.size w4.heap.size E S X Y wi → Calls Tryd.prog 16 #[.int .i64 key, .slice A n cap, .agg #[.int .i64 E, .int .i64 S]] wi fun e w' => e = .returned (.bool r) ∧ Three w w2.heap.size w4.heap.size E S X Y w') := Lib.hid fun wi hi =>
    (verify_b hv.out (HB.out.below hi.below) hbl.out (HT.out.below hi.below)).mono fun e w' h => ⟨h.1, hi.step h.2⟩
  have HV2 : Hid (∀ wi, Three w w2.heap.size w4.heap.size E S X Y wi → Calls Tryd.prog 17 #[.int .i64 key, .slice A n cap, .agg #[.int .i64 E, .int .i64 S]] wi fun e w' => e = .returned (.bool r) ∧ Three w w2.heap.size w4.heap.size E S X Y w') := Lib.hid fun wi hi =>
    (rverify_b hv.out (HB.out.below hi.below) hbl.out).mono fun e w' h => ⟨h.1, hi.step h.2⟩
  refine wp_region_quiet_in (Three w w2.heap.size w4.heap.size E S X Y) (by kernel_rfl) (by kernel_rfl) (H5.out.step (Below.refl _ _).drew) ?_
  refine quiet_op rfl (.agg #[.int .i64 X, .int .i64 Y]) (fun wi hi => by obtain ⟨c0, c1, _, _⟩ := hi.x.cells; go_simp) ?_
  simp only [Act.put, List.setIfInBounds_toArray, List.set_cons_zero, List.set_cons_succ]
  refine quiet_op rfl (.agg #[.int .i64 X, .int .i64 Y]) (fun wi hi => by obtain ⟨c0, c1, _, _⟩ := hi.y.cells; go_simp) ?_
  simp only [Act.put, List.setIfInBounds_toArray, List.set_cons_zero, List.set_cons_succ]
  refine quiet_op rfl (.bool true) (fun wi hi => by go_simp) ?_
  simp only [Act.put, List.setIfInBounds_toArray, List.set_cons_zero, List.set_cons_succ]
  refine quiet_op rfl (.bool true) (fun wi hi => by go_simp) ?_
  simp only [Act.put, List.setIfInBounds_toArray, List.set_cons_zero, List.set_cons_succ]
  refine quiet_opg rfl (.int .i64 c) (fun wi hi => by go_simp) ?_
  simp only [Act.put, List.setIfInBounds_toArray, List.set_cons_zero, List.set_cons_succ]
  refine quiet_opg rfl (.int .i64 c) (fun wi hi => by go_simp) ?_
  simp only [Act.put, List.setIfInBounds_toArray, List.set_cons_zero, List.set_cons_succ]
  refine quiet_opg rfl (.bool true) (fun wi hi => by go_simp) ?_
  simp only [Act.put, List.setIfInBounds_toArray, List.set_cons_zero, List.set_cons_succ]
  refine quiet_op rfl (.bool true) (fun wi hi => by go_simp) ?_
  simp only [Act.put, List.setIfInBounds_toArray, List.set_cons_zero, List.set_cons_succ]
  refine quiet_op rfl (.bool true) (fun wi hi => by go_simp) ?_
  simp only [Act.put, List.setIfInBounds_toArray, List.set_cons_zero, List.set_cons_succ]
  refine quiet_opg rfl (.int .i64 key) (fun wi hi => by go_simp) ?_
  simp only [Act.put, List.setIfInBounds_toArray, List.set_cons_zero, List.set_cons_succ]
  refine quiet_opg rfl (.slice A n cap) (fun wi hi => by go_simp) ?_
  simp only [Act.put, List.setIfInBounds_toArray, List.set_cons_zero, List.set_cons_succ]
  refine quiet_opg rfl (.agg #[.int .i64 E, .int .i64 S]) (fun wi hi => by obtain ⟨c0, c1, _, _⟩ := hi.s.cells; go_simp) ?_
  simp only [Act.put, List.setIfInBounds_toArray, List.set_cons_zero, List.set_cons_succ]
  refine quiet_enterg rfl 16 #[.int .i64 key, .slice A n cap, .agg #[.int .i64 E, .int .i64 S]] (.bool r) (fun wi hi => by go_simp) (HV1.out) ?_
  simp only [Act.put, List.setIfInBounds_toArray, List.set_cons_zero, List.set_cons_succ]
  refine quiet_opg rfl (.int .i64 key) (fun wi hi => by go_simp) ?_
  simp only [Act.put, List.setIfInBounds_toArray, List.set_cons_zero, List.set_cons_succ]
  refine quiet_opg rfl (.slice A n cap) (fun wi hi => by go_simp) ?_
  simp only [Act.put, List.setIfInBounds_toArray, List.set_cons_zero, List.set_cons_succ]
  refine quiet_opg rfl (.agg #[.int .i64 E, .int .i64 S]) (fun wi hi => by obtain ⟨c0, c1, _, _⟩ := hi.s.cells; go_simp) ?_
  simp only [Act.put, List.setIfInBounds_toArray, List.set_cons_zero, List.set_cons_succ]
  refine quiet_enterg rfl 17 #[.int .i64 key, .slice A n cap, .agg #[.int .i64 E, .int .i64 S]] (.bool r) (fun wi hi => by go_simp) (HV2.out) ?_
  simp only [Act.put, List.setIfInBounds_toArray, List.set_cons_zero, List.set_cons_succ]
  refine quiet_opg rfl (.bool true) (fun wi hi => by go_simp) ?_
  simp only [Act.put, List.setIfInBounds_toArray, List.set_cons_zero, List.set_cons_succ]
  refine quiet_op rfl (.bool true) (fun wi hi => by go_simp) ?_
  simp only [Act.put, List.setIfInBounds_toArray, List.set_cons_zero, List.set_cons_succ]
  refine quiet_op rfl (.bool true) (fun wi hi => by go_simp) ?_
  simp only [Act.put, List.setIfInBounds_toArray, List.set_cons_zero, List.set_cons_succ]
  refine wpQuiet_nil ?_
  intro w6 hw6
  have H6 := Lib.hid hw6
  clear hw6
  go_wp2_with fail
  go_ret
  exact ⟨rfl, H6.out.below⟩

theorem law_spec (secret key E S : Int) (b : List UInt8) (v : Value) (w : World) (hB : Bb w b v) (hT : Tabs w) : Calls Tryd.prog 3 #[.int .i64 secret, .int .i64 key, v, .agg #[.int .i64 E, .int .i64 S]] w (YesB w) := by
  by_cases hl : b.length > 600
  · exact spec_long secret key E S b v w hB hT hl
  · exact spec_short secret key E S b v w hB hT hl

end Go.Proofs.YtjhecmmbpmpmgaaDoor
