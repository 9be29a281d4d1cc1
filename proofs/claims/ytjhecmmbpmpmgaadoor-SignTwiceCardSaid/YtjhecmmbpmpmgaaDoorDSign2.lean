/- sign's Sign by its contract. -/
import Derived.Test.YtjhecmmbpmpmgaaDoorDSign
namespace Go.Proofs.YtjhecmmbpmpmgaaDoor
open Go.RowKit Go.Lib

theorem fm_items : ∀ (its : List It) (d : Nat), fmFrom d (its.map It.toV) = some d
  | [], d => rfl
  | x :: l, d => by
    have h1 : x.toV.fm = some 0 := by cases x <;> simp [It.toV, V.fm]
    rw [List.map_cons, fmFrom, h1]
    simp only [Nat.max_zero]
    exact fm_items l d

theorem ck_items (its : List It) : ckOf (listV its).fm = 0 := by
  rw [listV, V.fm, if_neg (by decide), if_neg (by decide), if_pos rfl, if_pos ⟨rfl, by decide⟩, fm_items]
  rfl

theorem enc_items (its : List It) : encOf (listV its) = (listV its).enc := by
  rw [encOf, if_pos (ck_items its)]

theorem enc_items_pos (its : List It) : 0 < (encOf (listV its)).length := by
  rw [enc_items, listV, V.enc, if_neg (by decide), if_neg (by decide)]
  simp

def nonceS : ByteArray := ⟨#[110, 111, 110, 99, 101]⟩
def signS : ByteArray := ⟨#[115, 105, 103, 110]⟩

/-- the numbers of a signature -/
def kOf (secret : Int) (b : List UInt8) : Nat := max (hashn nonceS (encOf (listV [.n secret, .b b]))) 1
def eOf (point key : Int) (b : List UInt8) : Nat := hashn signS (encOf (listV [.n point, .n key, .b b]))
def sigE (secret : Int) (b : List UInt8) : Nat := eOf (spow 4 (kOf secret b)) (spow 4 secret) b
def sigS (secret : Int) (b : List UInt8) : Int := ((kOf secret b : Int) + (sigE secret b : Int) * secret % 1073741789) % 1073741789

theorem hashn_lt (t : ByteArray) (l : List UInt8) : hashn t l < 1073741789 := Nat.mod_lt _ (by decide)

theorem At.ofB {w : World} {L : List UInt8} {A : Option Addr} {n cap : Nat} (h : Bb w L (.slice A n cap)) (h0 : 0 < L.length) : ∃ b off, A = some ⟨b, off, none⟩ ∧ At w L b off := by
  obtain ⟨A', cap', e, _, _, hc⟩ := h
  injection e with e1 e2 e3
  subst e1
  obtain ⟨b, off, rfl, hb, hcell⟩ := hc h0
  exact ⟨b, off, rfl, hb, hcell⟩

theorem items2 {w : World} {B : Nat} {x y : It} {u v : Value} {t : TypeId} {fr : Nat × Nat} (h : w.heap[B]? = some (.cells #[u, v] t fr)) (h1 : It.At w x u) (h2 : It.At w y v) : Items w B [x, y] := fun i hi => by
  match i, hi with
  | 0, _ => exact ⟨u, by simp [World.cell?, h], h1⟩
  | 1, _ => exact ⟨v, by simp [World.cell?, h], h2⟩

theorem items3 {w : World} {B : Nat} {x y z : It} {u v q : Value} {t : TypeId} {fr : Nat × Nat} (h : w.heap[B]? = some (.cells #[u, v, q] t fr)) (h1 : It.At w x u) (h2 : It.At w y v) (h3 : It.At w z q) : Items w B [x, y, z] := fun i hi => by
  match i, hi with
  | 0, _ => exact ⟨u, by simp [World.cell?, h], h1⟩
  | 1, _ => exact ⟨v, by simp [World.cell?, h], h2⟩
  | 2, _ => exact ⟨q, by simp [World.cell?, h], h3⟩

/-- a block of the call's own, its cells, all else as it was -/
structure SG (w : World) (c : Array Value) (t : TypeId) (wr : World) : Prop where
  below : Below w.heap.size w wr
  row : wr.heap[w.heap.size]? = some (.cells c t (0, 0))

theorem SG.step {w wr w' : World} {c : Array Value} {t : TypeId} (h : SG w c t wr) (hb : Below wr.heap.size wr w') : SG w c t w' :=
  ⟨later h.below hb, (hb.block _ (Array.getElem?_eq_some_iff.1 h.row).1).trans h.row⟩

theorem SG.alloc {w wr : World} {c : Array Value} {t : TypeId} (h : SG w c t wr) (o : Obj) : SG w c t (wr.alloc o) := h.step ((Below.refl _ _).alloc (Nat.le_refl _) o)

theorem two_ok {x : Int} {b : List UInt8} (hx : -9223372036854775808 ≤ x ∧ x ≤ 9223372036854775807) (hb : b.length ≤ 1000000) : ∀ i ∈ [It.n x, It.b b], i.Ok := by
  intro i hi
  simp only [List.mem_cons, List.not_mem_nil, or_false] at hi
  rcases hi with rfl | rfl
  · exact hx
  · exact hb

theorem three_ok {x y : Int} {b : List UInt8} (hx : -9223372036854775808 ≤ x ∧ x ≤ 9223372036854775807) (hy : -9223372036854775808 ≤ y ∧ y ≤ 9223372036854775807) (hb : b.length ≤ 1000000) : ∀ i ∈ [It.n x, It.n y, It.b b], i.Ok := by
  intro i hi
  simp only [List.mem_cons, List.not_mem_nil, or_false] at hi
  rcases hi with rfl | rfl | rfl
  · exact hx
  · exact hy
  · exact hb

theorem items_len {its : List It} (h : ∀ i ∈ its, i.Ok) (hl : its.length ≤ 10) : (encOf (listV its)).length ≤ 100000000 := by
  rw [enc_items]; have := (listV_bounds its h hl).2; omega

theorem spow_range (a n : Int) : 0 ≤ spow a n ∧ spow a n < 2147483579 := by
  unfold spow gpow
  split
  · have := Nat.mod_lt (a.toNat ^ (ex n).toNat) (show 2147483579 > 0 by decide)
    omega
  · omega

theorem SG.cells2 {w wr : World} {u v : Value} {t : TypeId} (h : SG w #[u, v] t wr) : wr.cell? ⟨w.heap.size, 0, none⟩ = some u ∧ wr.cell? ⟨w.heap.size, 1, none⟩ = some v ∧ wr.frozen? ⟨w.heap.size, 0, none⟩ = false ∧ wr.frozen? ⟨w.heap.size, 1, none⟩ = false := by
  have := h.row
  exact ⟨by simp [World.cell?, this], by simp [World.cell?, this], frozen_at this, frozen_at this⟩

theorem SG.set0 {w wr : World} {u v x : Value} {t : TypeId} (h : SG w #[u, v] t wr) : SG w #[x, v] t (wr.setCell ⟨w.heap.size, 0, none⟩ x) :=
  ⟨h.below.setCell (p := ⟨w.heap.size, 0, none⟩) (Nat.le_refl _) _, by rw [d_setCell_heap h.row]; rfl⟩

theorem SG.set1 {w wr : World} {u v x : Value} {t : TypeId} (h : SG w #[u, v] t wr) : SG w #[u, x] t (wr.setCell ⟨w.heap.size, 1, none⟩ x) :=
  ⟨h.below.setCell (p := ⟨w.heap.size, 1, none⟩) (Nat.le_refl _) _, by rw [d_setCell_heap h.row]; rfl⟩

set_option maxRecDepth 100000 in
set_option maxHeartbeats 1600000 in
theorem sign_any (secret : Int) (b : List UInt8) (v : Value) (w : World) (hB : Bb w b v) (hb : b.length ≤ 1000000) (h1 : 1 ≤ secret) (h2 : secret < 1073741789) (hT : Tabs w) :
    Calls Tryd.prog 14 #[.int .i64 secret, v] w fun e w' => e = .returned (.tuple #[.agg #[.int .i64 (sigE secret b), .int .i64 (sigS secret b)], .int .i64 0]) ∧ Below w.heap.size w w' := by
  obtain ⟨A, cap, rfl, _⟩ := hB.form
  obtain ⟨n, hn⟩ : ∃ n, Hid (n = b.length) := ⟨_, Lib.hid rfl⟩
  have HB := Lib.hid hB
  have HT := Lib.hid hT
  rw [← hn.out] at HB ⊢
  have d1 : decide (secret < 1) = false := by simpa using h1
  have d2 : decide (secret ≥ 1073741789) = false := by simpa using h2
  have hs0 : SG w #[.int .i64 0, .int .i64 0] 24 (w.alloc (.cells #[.int .i64 0, .int .i64 0] 24)) := ⟨(Below.refl _ _).alloc (Nat.le_refl _) _, heap_alloc_new _ _⟩
  have S1 := Lib.hid (hs0.alloc (.cells #[.iface 3 (.int .i64 secret), .iface 22 (.slice A n cap)] 20))
  have hrow1 : ((w.alloc (.cells #[.int .i64 0, .int .i64 0] 24)).alloc (.cells #[.iface 3 (.int .i64 secret), .iface 22 (.slice A n cap)] 20)).heap[w.heap.size + 1]? = some (.cells #[.iface 3 (.int .i64 secret), .iface 22 (.slice A n cap)] 20 (0, 0)) := by
    rw [show w.heap.size + 1 = (w.alloc (.cells #[.int .i64 0, .int .i64 0] 24)).heap.size from by simp, heap_alloc_new]
  have hI := Lib.hid (items2 (x := .n secret) (y := .b b) hrow1 rfl ⟨_, rfl, HB.out.below S1.out.below⟩)
  have H12 := Lib.hid (And.intro h1 h2)
  have hok := Lib.hid (two_ok (x := secret) (b := b) (by omega) hb)
  clear hB hT hs0 hrow1 h1 h2
  go_enter Tryd.func14, Tryd.ntmps14
  go_wp2_with fail
  refine (list_any _ (w.heap.size + 1) [.n secret, .b b] hI.out hok.out (by simp) (by simp)).mono ?_
  rintro e w2 ⟨A2, cap2, rfl, hb2, hB2⟩
  have S2 := Lib.hid (S1.out.step hb2)
  obtain ⟨L2, hL2⟩ : ∃ L, Hid (L = encOf (listV [.n secret, .b b])) := ⟨_, Lib.hid rfl⟩
  rw [← hL2.out] at hB2 ⊢
  have hp2 : 0 < L2.length := by rw [hL2.out]; exact enc_items_pos _
  have hl2 : L2.length ≤ 100000000 := by rw [hL2.out]; exact items_len hok.out (by simp)
  obtain ⟨b2, o2, rfl, hA2⟩ := At.ofB hB2 hp2
  have HA2 := Lib.hid hA2
  clear hA2 hB2 hb2 hI
  go_wp2_with fail
  refine (hash_any w2 nonceS (by decide) L2 b2 o2 cap2 hp2 hl2 HA2.out (HT.out.below S2.out.below)).mono ?_
  rintro e w3 ⟨rfl, hb3⟩
  have S3 := Lib.hid (S2.out.step hb3)
  clear hb3
  obtain ⟨k0, hk0⟩ : ∃ k, Hid (k = hashn nonceS L2) := ⟨_, Lib.hid rfl⟩
  rw [← hk0.out]
  have hk1 : k0 < 1073741789 := by rw [hk0.out]; exact hashn_lt _ _
  rcases Nat.lt_or_ge k0 1 with hk2 | hk2
  · have hkk : Hid ((kOf secret b : Int) = 1) := Lib.hid (by
      have := hk0.out
      rw [hL2.out] at this
      unfold kOf
      rw [← this]
      omega)
    have HK := Lib.hid hk1
    go_wp2_with fail
    refine (power_any 4 1 (by omega) w3).mono ?_
    rintro e w4 ⟨rfl, hb4⟩
    have S4 := Lib.hid (S3.out.step hb4)
    clear hb4
    obtain ⟨pt, hpt⟩ : ∃ pt, Hid (pt = spow 4 (kOf secret b)) := ⟨_, Lib.hid rfl⟩
    rw [show spow 4 1 = pt from by rw [hpt.out, hkk.out]]
    go_wp2_with fail
    refine (power_any 4 secret (by have := H12.out; omega) w4).mono ?_
    rintro e w5 ⟨rfl, hb5⟩
    have S5 := Lib.hid (S4.out.step hb5)
    clear hb5
    obtain ⟨ky, hky⟩ : ∃ ky, Hid (ky = spow 4 secret) := ⟨_, Lib.hid rfl⟩
    rw [← hky.out]
    go_wp2_with fail
    have hpr := spow_range 4 (kOf secret b)
    have hkr := spow_range 4 secret
    rw [← hpt.out] at hpr
    rw [← hky.out] at hkr
    have hok3 := Lib.hid (three_ok (x := pt) (y := ky) (b := b) (by omega) (by omega) hb)
    clear hpr hkr
    have hI3 := items3 (x := .n pt) (y := .n ky) (z := .b b) (heap_alloc_new w5 (.cells #[.iface 3 (.int .i64 pt), .iface 3 (.int .i64 ky), .iface 22 (.slice A n cap)] 20)) rfl rfl ⟨_, rfl, HB.out.below (S5.out.alloc _).below⟩
    refine (list_any _ w5.heap.size [.n pt, .n ky, .b b] hI3 hok3.out (by simp) (by simp)).mono ?_
    rintro e w6 ⟨A6, cap6, rfl, hb6, hB6⟩
    have S6 := Lib.hid ((S5.out.alloc _).step hb6)
    obtain ⟨L6, hL6⟩ : ∃ L, Hid (L = encOf (listV [.n pt, .n ky, .b b])) := ⟨_, Lib.hid rfl⟩
    rw [← hL6.out] at hB6 ⊢
    have hp6 : 0 < L6.length := by rw [hL6.out]; exact enc_items_pos _
    have hl6 : L6.length ≤ 100000000 := by rw [hL6.out]; exact items_len hok3.out (by simp)
    obtain ⟨b6, o6, rfl, hA6⟩ := At.ofB hB6 hp6
    have HA6 := Lib.hid hA6
    clear hA6 hB6 hb6 hI3
    go_wp2_with fail
    refine (hash_any w6 signS (by decide) L6 b6 o6 cap6 hp6 hl6 HA6.out (HT.out.below S6.out.below)).mono ?_
    rintro e w7 ⟨rfl, hb7⟩
    have S7 := Lib.hid (S6.out.step hb7)
    clear hb7
    obtain ⟨E, hE⟩ : ∃ k, Hid (k = hashn signS L6) := ⟨_, Lib.hid rfl⟩
    rw [← hE.out]
    have hE1 : E < 1073741789 := by rw [hE.out]; exact hashn_lt _ _
    have HE : Hid (sigE secret b = E) := Lib.hid (by rw [hE.out, hL6.out, hpt.out, hky.out]; rfl)
    obtain ⟨q0, q1, q2, q3⟩ := S7.out.cells2
    have ht := fun w => Lib.hid (times_any (E : Int) secret (by omega) (by have := H12.out; omega) w)
    have HTM := Lib.hid ht
    clear ht
    go_wp2_with (go_at_call 44; refine (HTM.out _).out.mono ?_; rintro e w' ⟨rfl, rfl⟩)
    have hS : Hid ((1 + (E : Int) * secret % 1073741789) % 1073741789 = sigS secret b) := Lib.hid (by unfold sigS; rw [HE.out, hkk.out])
    refine (plus_any 1 ((E : Int) * secret % 1073741789) (by have := HK.out; omega) (by omega) _).mono ?_
    rintro e w' ⟨rfl, rfl⟩
    rw [hS.out]
    have S8 := Lib.hid (S7.out.set0 (x := .int .i64 (E : Int)))
    obtain ⟨r0, r1, r2, r3⟩ := S8.out.cells2
    clear q0 q1 q2 q3
    generalize w7.setCell ⟨w.heap.size, 0, none⟩ (.int .i64 (E : Int)) = w8 at *
    have S9 := Lib.hid (S8.out.set1 (x := .int .i64 (sigS secret b)))
    go_wp2_with fail
    have S11 := (S9.out.set0 (x := .int .i64 (E : Int))).set1 (x := .int .i64 (sigS secret b))
    generalize ((w8.setCell ⟨w.heap.size, 1, none⟩ (.int .i64 (sigS secret b))).setCell ⟨w.heap.size, 0, none⟩ (.int .i64 (E : Int))).setCell ⟨w.heap.size, 1, none⟩ (.int .i64 (sigS secret b)) = w11 at *
    obtain ⟨t0, t1, _, _⟩ := S11.cells2
    refine bodyPost_ret (v := .tuple #[.agg #[.int .i64 (E : Int), .int .i64 (sigS secret b)], .int .i64 0]) ?_ rfl ⟨by rw [HE.out], S11.below⟩
    simp [results, Tryd.f14, go_sem, t0, t1]
  · have hkk : Hid ((kOf secret b : Int) = (k0 : Int)) := Lib.hid (by
      have := hk0.out
      rw [hL2.out] at this
      unfold kOf
      rw [← this]
      omega)
    have HK := Lib.hid hk1
    go_wp2_with fail
    refine (power_any 4 (k0 : Int) (by omega) w3).mono ?_
    rintro e w4 ⟨rfl, hb4⟩
    have S4 := Lib.hid (S3.out.step hb4)
    clear hb4
    obtain ⟨pt, hpt⟩ : ∃ pt, Hid (pt = spow 4 (kOf secret b)) := ⟨_, Lib.hid rfl⟩
    rw [show spow 4 (k0 : Int) = pt from by rw [hpt.out, hkk.out]]
    go_wp2_with fail
    refine (power_any 4 secret (by have := H12.out; omega) w4).mono ?_
    rintro e w5 ⟨rfl, hb5⟩
    have S5 := Lib.hid (S4.out.step hb5)
    clear hb5
    obtain ⟨ky, hky⟩ : ∃ ky, Hid (ky = spow 4 secret) := ⟨_, Lib.hid rfl⟩
    rw [← hky.out]
    go_wp2_with fail
    have hpr := spow_range 4 (kOf secret b)
    have hkr := spow_range 4 secret
    rw [← hpt.out] at hpr
    rw [← hky.out] at hkr
    have hok3 := Lib.hid (three_ok (x := pt) (y := ky) (b := b) (by omega) (by omega) hb)
    clear hpr hkr
    have hI3 := items3 (x := .n pt) (y := .n ky) (z := .b b) (heap_alloc_new w5 (.cells #[.iface 3 (.int .i64 pt), .iface 3 (.int .i64 ky), .iface 22 (.slice A n cap)] 20)) rfl rfl ⟨_, rfl, HB.out.below (S5.out.alloc _).below⟩
    refine (list_any _ w5.heap.size [.n pt, .n ky, .b b] hI3 hok3.out (by simp) (by simp)).mono ?_
    rintro e w6 ⟨A6, cap6, rfl, hb6, hB6⟩
    have S6 := Lib.hid ((S5.out.alloc _).step hb6)
    obtain ⟨L6, hL6⟩ : ∃ L, Hid (L = encOf (listV [.n pt, .n ky, .b b])) := ⟨_, Lib.hid rfl⟩
    rw [← hL6.out] at hB6 ⊢
    have hp6 : 0 < L6.length := by rw [hL6.out]; exact enc_items_pos _
    have hl6 : L6.length ≤ 100000000 := by rw [hL6.out]; exact items_len hok3.out (by simp)
    obtain ⟨b6, o6, rfl, hA6⟩ := At.ofB hB6 hp6
    have HA6 := Lib.hid hA6
    clear hA6 hB6 hb6 hI3
    go_wp2_with fail
    refine (hash_any w6 signS (by decide) L6 b6 o6 cap6 hp6 hl6 HA6.out (HT.out.below S6.out.below)).mono ?_
    rintro e w7 ⟨rfl, hb7⟩
    have S7 := Lib.hid (S6.out.step hb7)
    clear hb7
    obtain ⟨E, hE⟩ : ∃ k, Hid (k = hashn signS L6) := ⟨_, Lib.hid rfl⟩
    rw [← hE.out]
    have hE1 : E < 1073741789 := by rw [hE.out]; exact hashn_lt _ _
    have HE : Hid (sigE secret b = E) := Lib.hid (by rw [hE.out, hL6.out, hpt.out, hky.out]; rfl)
    obtain ⟨q0, q1, q2, q3⟩ := S7.out.cells2
    have ht := fun w => Lib.hid (times_any (E : Int) secret (by omega) (by have := H12.out; omega) w)
    have HTM := Lib.hid ht
    clear ht
    go_wp2_with (go_at_call 44; refine (HTM.out _).out.mono ?_; rintro e w' ⟨rfl, rfl⟩)
    have hS : Hid (((k0 : Int) + (E : Int) * secret % 1073741789) % 1073741789 = sigS secret b) := Lib.hid (by unfold sigS; rw [HE.out, hkk.out])
    refine (plus_any (k0 : Int) ((E : Int) * secret % 1073741789) (by have := HK.out; omega) (by omega) _).mono ?_
    rintro e w' ⟨rfl, rfl⟩
    rw [hS.out]
    have S8 := Lib.hid (S7.out.set0 (x := .int .i64 (E : Int)))
    obtain ⟨r0, r1, r2, r3⟩ := S8.out.cells2
    clear q0 q1 q2 q3
    generalize w7.setCell ⟨w.heap.size, 0, none⟩ (.int .i64 (E : Int)) = w8 at *
    have S9 := Lib.hid (S8.out.set1 (x := .int .i64 (sigS secret b)))
    go_wp2_with fail
    have S11 := (S9.out.set0 (x := .int .i64 (E : Int))).set1 (x := .int .i64 (sigS secret b))
    generalize ((w8.setCell ⟨w.heap.size, 1, none⟩ (.int .i64 (sigS secret b))).setCell ⟨w.heap.size, 0, none⟩ (.int .i64 (E : Int))).setCell ⟨w.heap.size, 1, none⟩ (.int .i64 (sigS secret b)) = w11 at *
    obtain ⟨t0, t1, _, _⟩ := S11.cells2
    refine bodyPost_ret (v := .tuple #[.agg #[.int .i64 (E : Int), .int .i64 (sigS secret b)], .int .i64 0]) ?_ rfl ⟨by rw [HE.out], S11.below⟩
    simp [results, Tryd.f14, go_sem, t0, t1]

end Go.Proofs.YtjhecmmbpmpmgaaDoor
