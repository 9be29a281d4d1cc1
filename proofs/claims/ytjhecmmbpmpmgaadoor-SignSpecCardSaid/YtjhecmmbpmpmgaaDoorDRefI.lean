/- signatoryref11's Point, Hash, Sign, Verify by their contracts. -/
import Derived.Test.YtjhecmmbpmpmgaaDoorMRefD
import Derived.Test.YtjhecmmbpmpmgaaDoorMRefS
import Derived.Test.YtjhecmmbpmpmgaaDoorMRefC
import Derived.Test.YtjhecmmbpmpmgaaDoorMLaw
namespace Go.Proofs.YtjhecmmbpmpmgaaDoor
open Go.RowKit Go.Lib

theorem rencode_eq {x : V} {v : Value} {w : World} {L : List UInt8} {c : Int} (hE : encOf x = L) (hc : ckOf x.fm = c) (hx : x.sz ≤ 1000000) (hl : x.enc.length < 700000000000) (hR : Rb w x v) : Calls Tryd.prog 45 #[v] w (EncL L c w) := by
  subst hE hc
  exact (ref_encode hx hR (fun _ h => h) hl).mono fun _ _ h => h.toB

theorem rpow_ok {a n r : Int} (ha : valid a = true) (hr : gpow a n = r) (hn : -9223372036854775808 ≤ n ∧ n ≤ 9223372036854775807) (w : World) : Calls Tryd.prog 50 #[.int .i64 a, .int .i64 n] w fun e w' => e = .returned (.tuple #[.int .i64 r, .int .i64 0]) ∧ w' = w := by
  subst hr
  have := rpow_any a n hn w
  rw [ha] at this
  exact this

theorem rmul_ok {a b r : Int} (ha : valid a = true) (hb : valid b = true) (hr : gmul a b = r) (w : World) : Calls Tryd.prog 76 #[.int .i64 a, .int .i64 b] w fun e w' => e = .returned (.tuple #[.int .i64 r, .int .i64 0]) ∧ w' = w := by
  subst hr
  have := rmul_any a b w
  rw [ha, hb] at this
  exact this

set_option maxRecDepth 100000 in
set_option maxHeartbeats 800000 in
theorem rpoint_any (key E S : Int) (hk : valid key = true) (hE : 0 ≤ E ∧ E < 1073741789) (hS : 0 ≤ S ∧ S < 1073741789) (w : World) :
    Calls Tryd.prog 55 #[.int .i64 key, .agg #[.int .i64 E, .int .i64 S]] w fun e w' => e = .returned (.int .i64 (pointOf key E S)) ∧ Below w.heap.size w w' := by
  have S0 := Lib.hid (show SG w #[.int .i64 E, .int .i64 S] 24 (w.alloc (.cells #[.int .i64 E, .int .i64 S] 24)) from ⟨(Below.refl _ _).alloc (Nat.le_refl _) _, heap_alloc_new _ _⟩)
  obtain ⟨r, hr⟩ : ∃ r, Hid (pointOf key E S = r) := ⟨_, Lib.hid rfl⟩
  rw [hr.out]
  obtain ⟨pa, hpa⟩ : ∃ pa, Hid (gpow 4 S = pa) := ⟨_, Lib.hid rfl⟩
  obtain ⟨pb, hpb⟩ : ∃ pb, Hid (gpow key (-E) = pb) := ⟨_, Lib.hid rfl⟩
  have hva := Lib.hid (valid_pow valid_four S)
  have hvb := Lib.hid (valid_pow hk (-E))
  rw [hpa.out] at hva
  rw [hpb.out] at hvb
  have hm : Hid (gmul pa pb = r) := Lib.hid (by rw [← hr.out, pointOf_eq hk, hpa.out, hpb.out])
  have hneg : IntKind.i64.wrap (-E) = -E := IntWalk.i64_in _ (by omega)
  have HK := Lib.hid hk
  have HE := Lib.hid (And.intro hE hS)
  clear hk hE hS
  obtain ⟨c0, c1, _, _⟩ := S0.out.cells2
  go_enter Tryd.func55, Tryd.ntmps55
  go_wp2_with fail
  refine (rpow_ok valid_four hpa.out (by have := HE.out; omega) _).mono ?_
  rintro e w1 ⟨rfl, rfl⟩
  go_wp2_with fail
  refine (rpow_ok HK.out hpb.out (by have := HE.out; omega) _).mono ?_
  rintro e w2 ⟨rfl, rfl⟩
  go_wp2_with fail
  refine (rmul_ok hva.out hvb.out hm.out _).mono ?_
  rintro e w' ⟨rfl, rfl⟩
  go_wp2_with fail
  go_ret
  exact ⟨rfl, S0.out.below⟩

set_option maxRecDepth 100000 in
set_option maxHeartbeats 1600000 in
theorem rhash11_any (p key : Int) (b : List UInt8) (v : Value) (w : World) (hB : Bb w b v) (hb : b.length ≤ 1000000) (hp : -9223372036854775808 ≤ p ∧ p ≤ 9223372036854775807) (hk : -9223372036854775808 ≤ key ∧ key ≤ 9223372036854775807) :
    Calls Tryd.prog 51 #[.int .i64 p, .int .i64 key, v] w fun e w' => e = .returned (.int .i64 (eOf p key b)) ∧ Below w.heap.size w w' := by
  have hok := Lib.hid (three_ok (x := p) (y := key) hp hk hb)
  obtain ⟨L, hL⟩ : ∃ L, Hid (encOf (listV [.n p, .n key, .b b]) = L) := ⟨_, Lib.hid rfl⟩
  have hp0 : 0 < L.length := by rw [← hL.out]; exact enc_items_pos _
  have hll : L.length ≤ 100000000 := by rw [← hL.out]; exact items_len hok.out (by simp)
  have HRES : Hid (eOf p key b = hashn signS L) := Lib.hid (by rw [← hL.out]; rfl)
  have HB := Lib.hid hB
  clear hB hb hp hk
  go_enter Tryd.func51, Tryd.ntmps51
  go_wp2_with fail
  refine wp_region_three (fun w' => Below w.heap.size w w') 7 2 (by kernel_rfl) (by kernel_rfl) ((Below.refl _ _).drew) ?_
  simp only [List.take_succ_cons, List.take_zero, List.drop_succ_cons, List.drop_zero]
  refine quiet_op rfl (.int .i64 p) (fun wi hi => by go_simp) ?_
  simp only [Act.put, List.setIfInBounds_toArray, List.set_cons_zero, List.set_cons_succ]
  refine quiet_enter rfl 47 #[.int .i64 p] (.agg #[.int .i64 1, .int .i64 (p), .string ByteArray.empty, .slice none 0 0]) (fun wi hi => by go_simp) (fun wi hi => (ref_int p wi).mono fun e w' h => ⟨h.1, later hi h.2⟩) ?_
  simp only [Act.put, List.setIfInBounds_toArray, List.set_cons_zero, List.set_cons_succ]
  refine quiet_op rfl (.int .i64 key) (fun wi hi => by go_simp) ?_
  simp only [Act.put, List.setIfInBounds_toArray, List.set_cons_zero, List.set_cons_succ]
  refine quiet_enter rfl 47 #[.int .i64 key] (.agg #[.int .i64 1, .int .i64 (key), .string ByteArray.empty, .slice none 0 0]) (fun wi hi => by go_simp) (fun wi hi => (ref_int key wi).mono fun e w' h => ⟨h.1, later hi h.2⟩) ?_
  simp only [Act.put, List.setIfInBounds_toArray, List.set_cons_zero, List.set_cons_succ]
  refine quiet_op rfl (v) (fun wi hi => by go_simp) ?_
  simp only [Act.put, List.setIfInBounds_toArray, List.set_cons_zero, List.set_cons_succ]
  refine quiet_op rfl (.string (strOf b)) (fun wi hi => by have kc := Bb.conv (HB.out.below hi); go_simp) ?_
  simp only [Act.put, List.setIfInBounds_toArray, List.set_cons_zero, List.set_cons_succ]
  refine quiet_enter rfl 48 #[.string (strOf b)] (.agg #[.int .i64 2, .int .i64 0, .string (strOf b), .slice none 0 0]) (fun wi hi => by go_simp) (fun wi hi => (ref_text (strOf b) wi).mono fun e w' h => ⟨h.1, later hi h.2⟩) ?_
  simp only [Act.put, List.setIfInBounds_toArray, List.set_cons_zero, List.set_cons_succ]
  refine wpQuiet_nil ?_
  intro w2 hw2
  have H2 := Lib.hid hw2
  clear hw2
  go_wp2_with fail
  have hrow := heap_alloc_new w2 (.cells #[.int .i64 1, .int .i64 p, .string ByteArray.empty, .slice none 0 0, .int .i64 1, .int .i64 key, .string ByteArray.empty, .slice none 0 0, .int .i64 2, .int .i64 0, .string (strOf b), .slice none 0 0] 41)
  have HR := Lib.hid (block_rd (its := [.n p, .n key, .b b]) (cap := 3) hrow (by simp) (by omega) hok.out)
  have H3 := Lib.hid (later H2.out (below_one w2 (.cells #[.int .i64 1, .int .i64 p, .string ByteArray.empty, .slice none 0 0, .int .i64 1, .int .i64 key, .string ByteArray.empty, .slice none 0 0, .int .i64 2, .int .i64 0, .string (strOf b), .slice none 0 0] 41)))
  clear hrow
  generalize w2.alloc (.cells #[.int .i64 1, .int .i64 p, .string ByteArray.empty, .slice none 0 0, .int .i64 1, .int .i64 key, .string ByteArray.empty, .slice none 0 0, .int .i64 2, .int .i64 0, .string (strOf b), .slice none 0 0] 41) = w3 at *
  refine (ref_list _ 3 3 _).mono ?_
  rintro e w4 ⟨rfl, hb4⟩
  have H4 := Lib.hid (later H3.out hb4)
  have HR4 := Lib.hid (HR.out.below hb4)
  clear hb4 HR H3
  go_wp2_with fail
  refine (rencode_eq hL.out (ck_items _) (by have := (listV_bounds _ hok.out (by simp)).1; omega) (by have := (listV_bounds _ hok.out (by simp)).2; omega) HR4.out).mono ?_
  rintro e w5 ⟨A5, cap5, rfl, hb5, hB5⟩
  have H5 := Lib.hid (later H4.out hb5)
  obtain ⟨b5, o5, rfl, hA5⟩ := At.ofB hB5 hp0
  have HA5 := Lib.hid hA5
  clear hb5 hB5 hA5
  go_wp2_with fail
  unfold EndQ
  simp only [List.drop_succ_cons, List.drop_zero]
  refine quiet_op rfl (.tuple #[.slice (some ⟨b5, o5, none⟩) L.length cap5, .int .i64 0]) (fun wi hi => by subst hi; go_simp) ?_
  simp only [Act.put, List.setIfInBounds_toArray, List.set_cons_zero, List.set_cons_succ]
  refine quiet_op rfl (.slice (some ⟨b5, o5, none⟩) L.length cap5) (fun wi hi => by subst hi; go_simp) ?_
  simp only [Act.put, List.setIfInBounds_toArray, List.set_cons_zero, List.set_cons_succ]
  refine quiet_op rfl (.int .i64 0) (fun wi hi => by subst hi; go_simp) ?_
  simp only [Act.put, List.setIfInBounds_toArray, List.set_cons_zero, List.set_cons_succ]
  refine quiet_op rfl (.slice (some ⟨b5, o5, none⟩) L.length cap5) (fun wi hi => by subst hi; go_simp) ?_
  simp only [Act.put, List.setIfInBounds_toArray, List.set_cons_zero, List.set_cons_succ]
  refine quiet_op rfl (.int .i64 0) (fun wi hi => by subst hi; go_simp) ?_
  simp only [Act.put, List.setIfInBounds_toArray, List.set_cons_zero, List.set_cons_succ]
  refine wpQuiet_nil ?_
  go_wp2_with fail
  refine (rhash_any _ signS (by decide) (by decide) L b5 o5 cap5 hp0 hll HA5.out).mono ?_
  rintro e w6 ⟨rfl, hb6⟩
  have H6 := Lib.hid (later H5.out hb6)
  clear hb6
  go_wp2_with fail
  go_ret
  exact ⟨by rw [HRES.out]; rfl, H6.out⟩


set_option maxRecDepth 100000 in
set_option maxHeartbeats 800000 in
theorem rsign_no (secret : Int) (v : Value) (w : World) (h : secret < 1 ∨ secret ≥ 1073741789) :
    Calls Tryd.prog 15 #[.int .i64 secret, v] w fun e w' => e = .returned (.tuple #[.agg #[.int .i64 0, .int .i64 0], .int .i64 110]) ∧ Below w.heap.size w w' := by
  have S0 : SG w #[.int .i64 0, .int .i64 0] 24 (w.alloc (.cells #[.int .i64 0, .int .i64 0] 24)) := ⟨(Below.refl _ _).alloc (Nat.le_refl _) _, heap_alloc_new _ _⟩
  have HS := Lib.hid S0
  clear S0
  rcases Classical.em (secret < 1) with h1 | h1
  · have d2 : decide (secret < 1) = true := by simpa using h1
    clear h1 h
    go_enter Tryd.func15, Tryd.ntmps15
    go_wp2_with fail
    obtain ⟨t0, t1, _, _⟩ := HS.out.cells2
    refine bodyPost_ret (v := .tuple #[.agg #[.int .i64 0, .int .i64 0], .int .i64 110]) ?_ rfl ⟨rfl, HS.out.below⟩
    simp [results, Tryd.f15, go_sem, t0, t1]
  · have d2 : decide (secret < 1) = false := by simpa using h1
    have d3 : decide (secret ≥ 1073741789) = true := by simp; omega
    clear h1 h
    go_enter Tryd.func15, Tryd.ntmps15
    go_wp2_with fail
    obtain ⟨t0, t1, _, _⟩ := HS.out.cells2
    refine bodyPost_ret (v := .tuple #[.agg #[.int .i64 0, .int .i64 0], .int .i64 110]) ?_ rfl ⟨rfl, HS.out.below⟩
    simp [results, Tryd.f15, go_sem, t0, t1]

set_option maxRecDepth 100000 in
set_option maxHeartbeats 3200000 in
theorem rsign_any (secret : Int) (b : List UInt8) (v : Value) (w : World) (hB : Bb w b v) (hb : b.length ≤ 1000000) (h1 : 1 ≤ secret) (h2 : secret < 1073741789) :
    Calls Tryd.prog 15 #[.int .i64 secret, v] w fun e w' => e = .returned (.tuple #[.agg #[.int .i64 (sigE secret b), .int .i64 (sigS secret b)], .int .i64 0]) ∧ Below w.heap.size w w' := by
  have d1 : decide (secret < 1) = false := by simpa using h1
  have d2 : decide (secret ≥ 1073741789) = false := by simpa using h2
  have hok := Lib.hid (two_ok (x := secret) (b := b) (by omega) hb)
  have S1 := Lib.hid (show SG w #[.int .i64 0, .int .i64 0] 24 (w.alloc (.cells #[.int .i64 0, .int .i64 0] 24)) from ⟨(Below.refl _ _).alloc (Nat.le_refl _) _, heap_alloc_new _ _⟩)
  obtain ⟨L, hL⟩ : ∃ L, Hid (encOf (listV [.n secret, .b b]) = L) := ⟨_, Lib.hid rfl⟩
  have hp0 : 0 < L.length := by rw [← hL.out]; exact enc_items_pos _
  have hll : L.length ≤ 100000000 := by rw [← hL.out]; exact items_len hok.out (by simp)
  have HB := Lib.hid hB
  have H12 := Lib.hid (And.intro h1 h2)
  have hbl := Lib.hid hb
  clear hB hb h1 h2
  go_enter Tryd.func15, Tryd.ntmps15
  go_wp2_with fail
  refine wp_region_three (fun w' => SG w #[.int .i64 0, .int .i64 0] 24 w') 5 2 (by kernel_rfl) (by kernel_rfl) (S1.out.step ((Below.refl _ _).drew)) ?_
  simp only [List.take_succ_cons, List.take_zero, List.drop_succ_cons, List.drop_zero]
  refine quiet_op rfl (.int .i64 secret) (fun wi hi => by go_simp) ?_
  simp only [Act.put, List.setIfInBounds_toArray, List.set_cons_zero, List.set_cons_succ]
  refine quiet_enter rfl 47 #[.int .i64 secret] (.agg #[.int .i64 1, .int .i64 (secret), .string ByteArray.empty, .slice none 0 0]) (fun wi hi => by go_simp) (fun wi hi => (ref_int secret wi).mono fun e w' h => ⟨h.1, hi.step h.2⟩) ?_
  simp only [Act.put, List.setIfInBounds_toArray, List.set_cons_zero, List.set_cons_succ]
  refine quiet_op rfl (v) (fun wi hi => by go_simp) ?_
  simp only [Act.put, List.setIfInBounds_toArray, List.set_cons_zero, List.set_cons_succ]
  refine quiet_op rfl (.string (strOf b)) (fun wi hi => by have kc := Bb.conv (HB.out.below hi.below); go_simp) ?_
  simp only [Act.put, List.setIfInBounds_toArray, List.set_cons_zero, List.set_cons_succ]
  refine quiet_enter rfl 48 #[.string (strOf b)] (.agg #[.int .i64 2, .int .i64 0, .string (strOf b), .slice none 0 0]) (fun wi hi => by go_simp) (fun wi hi => (ref_text (strOf b) wi).mono fun e w' h => ⟨h.1, hi.step h.2⟩) ?_
  simp only [Act.put, List.setIfInBounds_toArray, List.set_cons_zero, List.set_cons_succ]
  refine wpQuiet_nil ?_
  intro w2 hw2
  have S2 := Lib.hid hw2
  clear hw2
  go_wp2_with fail
  have hrow := heap_alloc_new w2 (.cells #[.int .i64 1, .int .i64 secret, .string ByteArray.empty, .slice none 0 0, .int .i64 2, .int .i64 0, .string (strOf b), .slice none 0 0] 41)
  have HR := Lib.hid (block_rd (its := [.n secret, .b b]) (cap := 2) hrow (by simp) (by omega) hok.out)
  have S3 := Lib.hid (S2.out.alloc (.cells #[.int .i64 1, .int .i64 secret, .string ByteArray.empty, .slice none 0 0, .int .i64 2, .int .i64 0, .string (strOf b), .slice none 0 0] 41))
  clear hrow
  generalize w2.alloc (.cells #[.int .i64 1, .int .i64 secret, .string ByteArray.empty, .slice none 0 0, .int .i64 2, .int .i64 0, .string (strOf b), .slice none 0 0] 41) = w3 at *
  refine (ref_list _ 2 2 _).mono ?_
  rintro e w4 ⟨rfl, hb4⟩
  have S4 := Lib.hid (S3.out.step hb4)
  have HR4 := Lib.hid (HR.out.below hb4)
  clear hb4 HR S3
  go_wp2_with fail
  refine (rencode_eq hL.out (ck_items _) (by have := (listV_bounds _ hok.out (by simp)).1; omega) (by have := (listV_bounds _ hok.out (by simp)).2; omega) HR4.out).mono ?_
  rintro e w5 ⟨A5, cap5, rfl, hb5, hB5⟩
  have S5 := Lib.hid (S4.out.step hb5)
  obtain ⟨b5, o5, rfl, hA5⟩ := At.ofB hB5 hp0
  have HA5 := Lib.hid hA5
  clear hb5 hB5 hA5
  go_wp2_with fail
  unfold EndQ
  simp only [List.drop_succ_cons, List.drop_zero]
  refine quiet_op rfl (.tuple #[.slice (some ⟨b5, o5, none⟩) L.length cap5, .int .i64 0]) (fun wi hi => by subst hi; go_simp) ?_
  simp only [Act.put, List.setIfInBounds_toArray, List.set_cons_zero, List.set_cons_succ]
  refine quiet_op rfl (.slice (some ⟨b5, o5, none⟩) L.length cap5) (fun wi hi => by subst hi; go_simp) ?_
  simp only [Act.put, List.setIfInBounds_toArray, List.set_cons_zero, List.set_cons_succ]
  refine quiet_op rfl (.int .i64 0) (fun wi hi => by subst hi; go_simp) ?_
  simp only [Act.put, List.setIfInBounds_toArray, List.set_cons_zero, List.set_cons_succ]
  refine quiet_op rfl (.slice (some ⟨b5, o5, none⟩) L.length cap5) (fun wi hi => by subst hi; go_simp) ?_
  simp only [Act.put, List.setIfInBounds_toArray, List.set_cons_zero, List.set_cons_succ]
  refine quiet_op rfl (.int .i64 0) (fun wi hi => by subst hi; go_simp) ?_
  simp only [Act.put, List.setIfInBounds_toArray, List.set_cons_zero, List.set_cons_succ]
  refine wpQuiet_nil ?_
  go_wp2_with fail
  refine (rhash_any _ nonceS (by decide) (by decide) L b5 o5 cap5 hp0 hll HA5.out).mono ?_
  rintro e w6 ⟨rfl, hb6⟩
  have S6 := Lib.hid (S5.out.step hb6)
  clear hb6
  obtain ⟨k0, hk0⟩ : ∃ k, Hid (k = hashn nonceS L) := ⟨_, Lib.hid rfl⟩
  rw [← hk0.out]
  have hk1 : k0 < 1073741789 := by rw [hk0.out]; exact hashn_lt _ _
  have hkd : Hid (kOf secret b = max k0 1) := Lib.hid (by unfold kOf; rw [hL.out, ← hk0.out])
  obtain ⟨ky, hky⟩ : ∃ ky, Hid (gpow 4 secret = ky) := ⟨_, Lib.hid rfl⟩
  have hkyr : Hid (1 ≤ ky ∧ ky < 2147483579) := Lib.hid (by rw [← hky.out]; exact valid_range (valid_pow valid_four _))
  obtain ⟨E, hE⟩ : ∃ E, Hid (sigE secret b = E) := ⟨_, Lib.hid rfl⟩
  obtain ⟨S, hS⟩ : ∃ S, Hid (sigS secret b = S) := ⟨_, Lib.hid rfl⟩
  have hEr := sigE_range secret b
  rw [hE.out] at hEr
  have hT := fun w => rtimes_any (E : Int) secret (by omega) (by have := H12.out; omega) w
  rw [show ex (E : Int) = (E : Int) from by unfold ex; omega, show ex secret = secret from by have := H12.out; unfold ex; omega] at hT
  have HT := Lib.hid hT
  clear hT
  obtain ⟨z, hz⟩ : ∃ z, Hid ((E : Int) * secret % 1073741789 = z) := ⟨_, Lib.hid rfl⟩
  have hzr : Hid (0 ≤ z ∧ z < 1073741789) := Lib.hid (by rw [← hz.out]; omega)
  rw [hz.out] at HT
  rcases Nat.eq_zero_or_pos k0 with h0 | h0
  · subst h0
    have hkk : Hid ((kOf secret b : Int) = (1 : Int)) := Lib.hid (by rw [hkd.out]; omega)
    obtain ⟨pt, hpt⟩ : ∃ pt, Hid (gpow 4 (1 : Int) = pt) := ⟨_, Lib.hid rfl⟩
    have hptr : Hid (1 ≤ pt ∧ pt < 2147483579) := Lib.hid (by rw [← hpt.out]; exact valid_range (valid_pow valid_four _))
    have HE2 : Hid (eOf pt ky b = E) := Lib.hid (by rw [← hE.out, ← hpt.out, ← hky.out, ← hkk.out, ← spow_four, ← spow_four]; rfl)
    have HS2 : Hid (((1 : Int) + z) % 1073741789 = S) := Lib.hid (by rw [← hS.out, ← hz.out, ← hE.out, ← hkk.out]; rfl)
    have hk2 : Hid (-9223372036854775808 ≤ (1 : Int) ∧ (1 : Int) ≤ 9223372036854775807) := Lib.hid (by omega)
    have hw : IntKind.i64.wrap ((1 : Int) + z) = (1 : Int) + z := IntWalk.i64_in _ (by have := hzr.out; omega)
    have hm : ((1 : Int) + z).tmod 1073741789 = S := by rw [Int.tmod_eq_emod_of_nonneg (by have := hzr.out; omega)]; exact HS2.out
    go_wp2_with fail
    refine (rpow_ok valid_four hky.out (by have := H12.out; omega) _).mono ?_
    rintro e w7 ⟨rfl, rfl⟩
    go_wp2_with fail
    refine (rpow_ok valid_four hpt.out hk2.out _).mono ?_
    rintro e w8 ⟨rfl, rfl⟩
    go_wp2_with fail
    refine (rhash11_any pt ky b v _ (HB.out.below S6.out.below) hbl.out (by have := hptr.out; omega) (by have := hkyr.out; omega)).mono ?_
    rintro e w9 ⟨rfl, hb9⟩
    have S9 := Lib.hid (S6.out.step hb9)
    rw [HE2.out]
    clear hb9
    obtain ⟨t0, t1, t2, t3⟩ := S9.out.cells2
    go_wp2_with (go_at_call 52; refine (HT.out _).mono ?_; rintro e w' ⟨rfl, rfl⟩)
    clear t0 t1 t2 t3
    have S11 := (S9.out.set0 (x := .int .i64 (E : Int))).set1 (x := .int .i64 S)
    generalize (World.setCell _ ⟨w.heap.size, 0, none⟩ (.int .i64 (E : Int))).setCell ⟨w.heap.size, 1, none⟩ (.int .i64 S) = w11 at *
    obtain ⟨u0, u1, _, _⟩ := S11.cells2
    refine bodyPost_ret (v := .tuple #[.agg #[.int .i64 (E : Int), .int .i64 S], .int .i64 0]) ?_ rfl ⟨by rw [hE.out, hS.out], S11.below⟩
    simp [results, Tryd.f15, go_sem, u0, u1]
  · have e0 : (((k0 : Int) : Int) == 0) = false := by simp; omega
    have hkk : Hid ((kOf secret b : Int) = (k0 : Int)) := Lib.hid (by rw [hkd.out]; omega)
    obtain ⟨pt, hpt⟩ : ∃ pt, Hid (gpow 4 (k0 : Int) = pt) := ⟨_, Lib.hid rfl⟩
    have hptr : Hid (1 ≤ pt ∧ pt < 2147483579) := Lib.hid (by rw [← hpt.out]; exact valid_range (valid_pow valid_four _))
    have HE2 : Hid (eOf pt ky b = E) := Lib.hid (by rw [← hE.out, ← hpt.out, ← hky.out, ← hkk.out, ← spow_four, ← spow_four]; rfl)
    have HS2 : Hid (((k0 : Int) + z) % 1073741789 = S) := Lib.hid (by rw [← hS.out, ← hz.out, ← hE.out, ← hkk.out]; rfl)
    have hk2 : Hid (-9223372036854775808 ≤ (k0 : Int) ∧ (k0 : Int) ≤ 9223372036854775807) := Lib.hid (by omega)
    have hw : IntKind.i64.wrap ((k0 : Int) + z) = (k0 : Int) + z := IntWalk.i64_in _ (by have := hzr.out; omega)
    have hm : ((k0 : Int) + z).tmod 1073741789 = S := by rw [Int.tmod_eq_emod_of_nonneg (by have := hzr.out; omega)]; exact HS2.out
    go_wp2_with fail
    refine (rpow_ok valid_four hky.out (by have := H12.out; omega) _).mono ?_
    rintro e w7 ⟨rfl, rfl⟩
    go_wp2_with fail
    refine (rpow_ok valid_four hpt.out hk2.out _).mono ?_
    rintro e w8 ⟨rfl, rfl⟩
    go_wp2_with fail
    refine (rhash11_any pt ky b v _ (HB.out.below S6.out.below) hbl.out (by have := hptr.out; omega) (by have := hkyr.out; omega)).mono ?_
    rintro e w9 ⟨rfl, hb9⟩
    have S9 := Lib.hid (S6.out.step hb9)
    rw [HE2.out]
    clear hb9
    obtain ⟨t0, t1, t2, t3⟩ := S9.out.cells2
    go_wp2_with (go_at_call 52; refine (HT.out _).mono ?_; rintro e w' ⟨rfl, rfl⟩)
    clear t0 t1 t2 t3
    have S11 := (S9.out.set0 (x := .int .i64 (E : Int))).set1 (x := .int .i64 S)
    generalize (World.setCell _ ⟨w.heap.size, 0, none⟩ (.int .i64 (E : Int))).setCell ⟨w.heap.size, 1, none⟩ (.int .i64 S) = w11 at *
    obtain ⟨u0, u1, _, _⟩ := S11.cells2
    refine bodyPost_ret (v := .tuple #[.agg #[.int .i64 (E : Int), .int .i64 S], .int .i64 0]) ?_ rfl ⟨by rw [hE.out, hS.out], S11.below⟩
    simp [results, Tryd.f15, go_sem, u0, u1]



theorem ver_cases {E S : Int} (h : ¬ (0 ≤ E ∧ E < 1073741789 ∧ 0 ≤ S ∧ S < 1073741789)) : decide (E < 0) = true ∨ (decide (E < 0) = false ∧ decide (E ≥ 1073741789) = true) ∨ (decide (E < 0) = false ∧ decide (E ≥ 1073741789) = false ∧ decide (S < 0) = true) ∨ (decide (E < 0) = false ∧ decide (E ≥ 1073741789) = false ∧ decide (S < 0) = false ∧ decide (S ≥ 1073741789) = true) := out_cases h

set_option maxRecDepth 100000 in
set_option maxHeartbeats 1600000 in
theorem rverify_bad (key E S : Int) (v : Value) (w : World) (hk : valid key = false) :
    Calls Tryd.prog 17 #[.int .i64 key, v, .agg #[.int .i64 E, .int .i64 S]] w fun e w' => e = .returned (.bool false) ∧ Below w.heap.size w w' := by
  have S0 := Lib.hid (show SG w #[.int .i64 E, .int .i64 S] 24 (w.alloc (.cells #[.int .i64 E, .int .i64 S] 24)) from ⟨(Below.refl _ _).alloc (Nat.le_refl _) _, heap_alloc_new _ _⟩)
  have HK := fun w => rvalid_any key w
  rw [hk] at HK
  have HK := Lib.hid HK
  clear hk
  obtain ⟨c0, c1, _, _⟩ := S0.out.cells2
  go_enter Tryd.func17, Tryd.ntmps17
  go_wp2_with (go_at_call 54; refine (HK.out _).mono ?_; rintro e w' ⟨rfl, rfl⟩)
  go_ret
  exact ⟨rfl, S0.out.below⟩

set_option maxRecDepth 100000 in
set_option maxHeartbeats 1600000 in
theorem rverify_out (key E S : Int) (v : Value) (w : World) (hk : valid key = true) (h : ¬ (0 ≤ E ∧ E < 1073741789 ∧ 0 ≤ S ∧ S < 1073741789)) :
    Calls Tryd.prog 17 #[.int .i64 key, v, .agg #[.int .i64 E, .int .i64 S]] w fun e w' => e = .returned (.bool false) ∧ Below w.heap.size w w' := by
  have S0 := Lib.hid (show SG w #[.int .i64 E, .int .i64 S] 24 (w.alloc (.cells #[.int .i64 E, .int .i64 S] 24)) from ⟨(Below.refl _ _).alloc (Nat.le_refl _) _, heap_alloc_new _ _⟩)
  have HK := fun w => rvalid_any key w
  rw [hk] at HK
  have HK := Lib.hid HK
  have hd := out_cases h
  clear hk h
  obtain ⟨c0, c1, _, _⟩ := S0.out.cells2
  rcases hd with d2 | ⟨d2, d3⟩ | ⟨d2, d3, d4⟩ | ⟨d2, d3, d4, d5⟩
  all_goals
    go_enter Tryd.func17, Tryd.ntmps17
    go_wp2_with (go_at_call 54; refine (HK.out _).mono ?_; rintro e w' ⟨rfl, rfl⟩)
    go_ret
    exact ⟨rfl, S0.out.below⟩

set_option maxRecDepth 100000 in
set_option maxHeartbeats 1600000 in
theorem rverify_good (key E S : Int) (b : List UInt8) (v : Value) (w : World) (hB : Bb w b v) (hb : b.length ≤ 1000000) (hk : valid key = true) (h : 0 ≤ E ∧ E < 1073741789 ∧ 0 ≤ S ∧ S < 1073741789) :
    Calls Tryd.prog 17 #[.int .i64 key, v, .agg #[.int .i64 E, .int .i64 S]] w fun e w' => e = .returned (.bool (E == (eOf (pointOf key E S) key b : Int))) ∧ Below w.heap.size w w' := by
  have S0 := Lib.hid (show SG w #[.int .i64 E, .int .i64 S] 24 (w.alloc (.cells #[.int .i64 E, .int .i64 S] 24)) from ⟨(Below.refl _ _).alloc (Nat.le_refl _) _, heap_alloc_new _ _⟩)
  have HK := fun w => rvalid_any key w
  rw [hk] at HK
  have HK := Lib.hid HK
  have hkr := valid_range hk
  obtain ⟨p, hp⟩ : ∃ p, Hid (pointOf key E S = p) := ⟨_, Lib.hid rfl⟩
  have hpr : 0 ≤ p ∧ p < 2147483579 := by
    rw [← hp.out]; unfold pointOf gmul
    split <;> omega
  have HP : Hid (∀ wi, SG w #[.int .i64 E, .int .i64 S] 24 wi → Calls Tryd.prog 55 #[.int .i64 key, .agg #[.int .i64 E, .int .i64 S]] wi fun e w' => e = .returned (.int .i64 p) ∧ SG w #[.int .i64 E, .int .i64 S] 24 w') := Lib.hid fun wi hi => by
    have := rpoint_any key E S hk ⟨h.1, h.2.1⟩ h.2.2 wi
    rw [hp.out] at this
    exact this.mono fun e w' hh => ⟨hh.1, hi.step hh.2⟩
  obtain ⟨q, hq⟩ : ∃ q : Nat, Hid (eOf p key b = q) := ⟨_, Lib.hid rfl⟩
  have HB := Lib.hid hB
  have HH : Hid (∀ wi, SG w #[.int .i64 E, .int .i64 S] 24 wi → Calls Tryd.prog 51 #[.int .i64 p, .int .i64 key, v] wi fun e w' => e = .returned (.int .i64 q) ∧ SG w #[.int .i64 E, .int .i64 S] 24 w') := Lib.hid fun wi hi => by
    have := rhash11_any p key b v wi (HB.out.below hi.below) hb (by omega) (by omega)
    rw [hq.out] at this
    exact this.mono fun e w' hh => ⟨hh.1, hi.step hh.2⟩
  have d2 : decide (E < 0) = false := by simp; omega
  have d3 : decide (E ≥ 1073741789) = false := by simp; omega
  have d4 : decide (S < 0) = false := by simp; omega
  have d5 : decide (S ≥ 1073741789) = false := by simp; omega
  clear hk h hB hb hkr hpr
  obtain ⟨c0, c1, _, _⟩ := S0.out.cells2
  go_enter Tryd.func17, Tryd.ntmps17
  go_wp2_with (go_at_call 54; refine (HK.out _).mono ?_; rintro e w' ⟨rfl, rfl⟩)
  clear c0 c1
  refine wp_region_quiet_in (SG w #[.int .i64 E, .int .i64 S] 24) (by kernel_rfl) (by kernel_rfl) (S0.out.step (Below.refl _ _).drew) ?_
  refine quiet_op rfl (.pointer (some ⟨w.heap.size, 0, none⟩)) (fun wi hi => by go_simp) ?_
  simp only [Act.put, List.setIfInBounds_toArray, List.set_cons_zero, List.set_cons_succ]
  refine quiet_op rfl (.int .i64 E) (fun wi hi => by obtain ⟨c0, c1, _, _⟩ := hi.cells2; go_simp) ?_
  simp only [Act.put, List.setIfInBounds_toArray, List.set_cons_zero, List.set_cons_succ]
  refine quiet_op rfl (.int .i64 key) (fun wi hi => by go_simp) ?_
  simp only [Act.put, List.setIfInBounds_toArray, List.set_cons_zero, List.set_cons_succ]
  refine quiet_op rfl (.agg #[.int .i64 E, .int .i64 S]) (fun wi hi => by obtain ⟨c0, c1, _, _⟩ := hi.cells2; go_simp) ?_
  simp only [Act.put, List.setIfInBounds_toArray, List.set_cons_zero, List.set_cons_succ]
  refine quiet_enter rfl 55 #[.int .i64 key, .agg #[.int .i64 E, .int .i64 S]] (.int .i64 p) (fun wi hi => by go_simp) (HP.out) ?_
  simp only [Act.put, List.setIfInBounds_toArray, List.set_cons_zero, List.set_cons_succ]
  refine quiet_op rfl (.int .i64 key) (fun wi hi => by go_simp) ?_
  simp only [Act.put, List.setIfInBounds_toArray, List.set_cons_zero, List.set_cons_succ]
  refine quiet_op rfl (v) (fun wi hi => by go_simp) ?_
  simp only [Act.put, List.setIfInBounds_toArray, List.set_cons_zero, List.set_cons_succ]
  refine quiet_enter rfl 51 #[.int .i64 p, .int .i64 key, v] (.int .i64 q) (fun wi hi => by go_simp) (HH.out) ?_
  simp only [Act.put, List.setIfInBounds_toArray, List.set_cons_zero, List.set_cons_succ]
  refine quiet_op rfl (.bool (E == (q : Int))) (fun wi hi => by go_simp) ?_
  simp only [Act.put, List.setIfInBounds_toArray, List.set_cons_zero, List.set_cons_succ]
  refine quiet_op rfl (.bool (E == (q : Int))) (fun wi hi => by go_simp) ?_
  simp only [Act.put, List.setIfInBounds_toArray, List.set_cons_zero, List.set_cons_succ]
  refine wpQuiet_nil ?_
  intro w2 hw2
  have S2 := Lib.hid hw2
  clear hw2
  go_wp2_with fail
  go_ret
  exact ⟨by rw [hp.out, hq.out]; rfl, S2.out.below⟩

theorem rverify_b {key E S : Int} {b : List UInt8} {v : Value} {w : World} {r : Bool} (hr : ver key E S b = r) (hB : Bb w b v) (hb : b.length ≤ 1000000) :
    Calls Tryd.prog 17 #[.int .i64 key, v, .agg #[.int .i64 E, .int .i64 S]] w fun e w' => e = .returned (.bool r) ∧ Below w.heap.size w w' := by
  subst hr
  unfold ver
  cases hk : valid key with
  | false => rw [Bool.false_and, Bool.and_false]; exact rverify_bad key E S v w hk
  | true =>
    by_cases h : 0 ≤ E ∧ E < 1073741789 ∧ 0 ≤ S ∧ S < 1073741789
    · rw [decide_eq_true h, Bool.true_and, Bool.true_and]; exact rverify_good key E S b v w hB hb hk h
    · rw [decide_eq_false h, Bool.false_and]; exact rverify_out key E S v w hk h

end Go.Proofs.YtjhecmmbpmpmgaaDoor
