/- sign's power, plus, times by their contracts.
   sign's Sign by its contract.
   sign's Sign refusing a secret.
   sign's Verify by its contract: refusals.
   sign's Verify by its contract: a key that is none.
   sign's Verify by its contract.
   Plain: calculating with powers modulo P; what Sign makes, Verify accepts; two signatures with one point. -/
import Derived.Test.YtjhecmmbpmpmgaaDoorMList
import Derived.BigQuiet
import Derived.Deep.QuietTactic
import Derived.Deep.RegionHeld3
namespace Go.Proofs.YtjhecmmbpmpmgaaDoor
open Go.RowKit Go.Lib

/-- what power returns -/
def spow (a n : Int) : Int := if valid a then gpow a n else 0

set_option maxRecDepth 100000 in
set_option maxHeartbeats 800000 in
theorem power_any (a n : Int) (hn : -9223372036854775808 ≤ n ∧ n ≤ 9223372036854775807) (w : World) : Calls Tryd.prog 42 #[.int .i64 a, .int .i64 n] w fun e w' => e = .returned (.int .i64 (spow a n)) ∧ Below w.heap.size w w' := by
  have hc := Lib.hid (pow_any a n hn w)
  cases hv : valid a
  · have hs : Hid (spow a n = 0) := Lib.hid (by unfold spow; rw [hv]; rfl)
    rw [hv] at hc
    clear hv hn
    go_enter Tryd.func42, Tryd.ntmps42
    go_wp2_with fail
    refine hc.out.mono ?_
    rintro e w' ⟨rfl, hb⟩
    have HB := Lib.hid hb
    clear hb
    go_wp2_with fail
    go_ret
    exact ⟨by rw [hs.out]; rfl, HB.out⟩
  · have hs : Hid (spow a n = gpow a n) := Lib.hid (by unfold spow; rw [hv]; rfl)
    rw [hv] at hc
    clear hv hn
    go_enter Tryd.func42, Tryd.ntmps42
    go_wp2_with fail
    refine hc.out.mono ?_
    rintro e w' ⟨rfl, hb⟩
    have HB := Lib.hid hb
    clear hb
    go_wp2_with fail
    go_ret
    exact ⟨by rw [hs.out]; rfl, HB.out⟩

set_option maxRecDepth 100000 in
set_option maxHeartbeats 800000 in
theorem plus_any (x y : Int) (hx : 0 ≤ x ∧ x < 1073741789) (hy : 0 ≤ y ∧ y < 1073741789) (w : World) : Calls Tryd.prog 43 #[.int .i64 x, .int .i64 y] w fun e w' => e = .returned (.int .i64 ((x + y) % 1073741789)) ∧ w' = w := by
  go_enter Tryd.func43, Tryd.ntmps43
  go_wp2_with fail
  go_ret
  exact ⟨rfl, rfl⟩

set_option maxRecDepth 100000 in
set_option maxHeartbeats 800000 in
theorem times_any (x y : Int) (hx : 0 ≤ x ∧ x < 1073741789) (hy : 0 ≤ y ∧ y < 1073741789) (w : World) : Calls Tryd.prog 44 #[.int .i64 x, .int .i64 y] w fun e w' => e = .returned (.int .i64 (x * y % 1073741789)) ∧ w' = w := by
  have hbd := mul_bound (show 0 ≤ x ∧ x < 2147483579 from by omega) (show 0 ≤ y ∧ y < 2147483579 from by omega)
  obtain ⟨z, hz⟩ : ∃ z, z = x * y := ⟨_, rfl⟩
  rw [← hz] at hbd ⊢
  have hw : IntKind.i64.wrap (x * y) = z := by rw [← hz]; exact IntWalk.i64_in _ (by omega)
  clear hz
  go_enter Tryd.func44, Tryd.ntmps44
  go_wp2_with fail
  go_ret
  exact ⟨rfl, rfl⟩

end Go.Proofs.YtjhecmmbpmpmgaaDoor

namespace Go.Proofs.YtjhecmmbpmpmgaaDoor
open Go.RowKit Go.Lib

theorem fm_items : ∀ (its : List It) (d : Nat), fmFrom d (its.map It.toV) = some d
  | [], d => rfl
  | x :: l, d => by
    have h1 : x.toV.fm = some 0 := by cases x <;> simp [It.toV, V.fm]
    rw [List.map_cons, fmFrom, h1]
    simp only [Nat.max_zero]
    exact fm_items l d

theorem ck_items (its : List It) : ckOf (listV its).fm = 0 := by
  rw [listV, V.fm, if_neg (by decide), if_neg (by decide), if_pos rfl, if_pos ⟨rfl, by decide⟩, fm_items]
  rfl

theorem enc_items (its : List It) : encOf (listV its) = (listV its).enc := by
  rw [encOf, if_pos (ck_items its)]

theorem enc_items_pos (its : List It) : 0 < (encOf (listV its)).length := by
  rw [enc_items, listV, V.enc, if_neg (by decide), if_neg (by decide)]
  simp

def nonceS : ByteArray := ⟨#[110, 111, 110, 99, 101]⟩
def signS : ByteArray := ⟨#[115, 105, 103, 110]⟩

/-- the numbers of a signature -/
def kOf (secret : Int) (b : List UInt8) : Nat := max (hashn nonceS (encOf (listV [.n secret, .b b]))) 1
def eOf (point key : Int) (b : List UInt8) : Nat := hashn signS (encOf (listV [.n point, .n key, .b b]))
def sigE (secret : Int) (b : List UInt8) : Nat := eOf (spow 4 (kOf secret b)) (spow 4 secret) b
def sigS (secret : Int) (b : List UInt8) : Int := ((kOf secret b : Int) + (sigE secret b : Int) * secret % 1073741789) % 1073741789

theorem hashn_lt (t : ByteArray) (l : List UInt8) : hashn t l < 1073741789 := Nat.mod_lt _ (by decide)

theorem At.ofB {w : World} {L : List UInt8} {A : Option Addr} {n cap : Nat} (h : Bb w L (.slice A n cap)) (h0 : 0 < L.length) : ∃ b off, A = some ⟨b, off, none⟩ ∧ At w L b off := by
  obtain ⟨A', cap', e, _, _, hc⟩ := h
  injection e with e1 e2 e3
  subst e1
  obtain ⟨b, off, rfl, hb, hcell⟩ := hc h0
  exact ⟨b, off, rfl, hb, hcell⟩

theorem items2 {w : World} {B : Nat} {x y : It} {u v : Value} {t : TypeId} {fr : Nat × Nat} (h : w.heap[B]? = some (.cells #[u, v] t fr)) (h1 : It.At w x u) (h2 : It.At w y v) : Items w B [x, y] := fun i hi => by
  match i, hi with
  | 0, _ => exact ⟨u, by simp [World.cell?, h], h1⟩
  | 1, _ => exact ⟨v, by simp [World.cell?, h], h2⟩

theorem items3 {w : World} {B : Nat} {x y z : It} {u v q : Value} {t : TypeId} {fr : Nat × Nat} (h : w.heap[B]? = some (.cells #[u, v, q] t fr)) (h1 : It.At w x u) (h2 : It.At w y v) (h3 : It.At w z q) : Items w B [x, y, z] := fun i hi => by
  match i, hi with
  | 0, _ => exact ⟨u, by simp [World.cell?, h], h1⟩
  | 1, _ => exact ⟨v, by simp [World.cell?, h], h2⟩
  | 2, _ => exact ⟨q, by simp [World.cell?, h], h3⟩

/-- a block of the call's own, its cells, all else as it was -/
structure SG (w : World) (c : Array Value) (t : TypeId) (wr : World) : Prop where
  below : Below w.heap.size w wr
  row : wr.heap[w.heap.size]? = some (.cells c t (0, 0))

theorem SG.step {w wr w' : World} {c : Array Value} {t : TypeId} (h : SG w c t wr) (hb : Below wr.heap.size wr w') : SG w c t w' :=
  ⟨later h.below hb, (hb.block _ (Array.getElem?_eq_some_iff.1 h.row).1).trans h.row⟩

theorem SG.alloc {w wr : World} {c : Array Value} {t : TypeId} (h : SG w c t wr) (o : Obj) : SG w c t (wr.alloc o) := h.step ((Below.refl _ _).alloc (Nat.le_refl _) o)

theorem two_ok {x : Int} {b : List UInt8} (hx : -9223372036854775808 ≤ x ∧ x ≤ 9223372036854775807) (hb : b.length ≤ 1000000) : ∀ i ∈ [It.n x, It.b b], i.Ok := by
  intro i hi
  simp only [List.mem_cons, List.not_mem_nil, or_false] at hi
  rcases hi with rfl | rfl
  · exact hx
  · exact hb

theorem three_ok {x y : Int} {b : List UInt8} (hx : -9223372036854775808 ≤ x ∧ x ≤ 9223372036854775807) (hy : -9223372036854775808 ≤ y ∧ y ≤ 9223372036854775807) (hb : b.length ≤ 1000000) : ∀ i ∈ [It.n x, It.n y, It.b b], i.Ok := by
  intro i hi
  simp only [List.mem_cons, List.not_mem_nil, or_false] at hi
  rcases hi with rfl | rfl | rfl
  · exact hx
  · exact hy
  · exact hb

theorem items_len {its : List It} (h : ∀ i ∈ its, i.Ok) (hl : its.length ≤ 10) : (encOf (listV its)).length ≤ 100000000 := by
  rw [enc_items]; have := (listV_bounds its h hl).2; omega

theorem spow_range (a n : Int) : 0 ≤ spow a n ∧ spow a n < 2147483579 := by
  unfold spow gpow
  split
  · have := Nat.mod_lt (a.toNat ^ (ex n).toNat) (show 2147483579 > 0 by decide)
    omega
  · omega

theorem SG.cells2 {w wr : World} {u v : Value} {t : TypeId} (h : SG w #[u, v] t wr) : wr.cell? ⟨w.heap.size, 0, none⟩ = some u ∧ wr.cell? ⟨w.heap.size, 1, none⟩ = some v ∧ wr.frozen? ⟨w.heap.size, 0, none⟩ = false ∧ wr.frozen? ⟨w.heap.size, 1, none⟩ = false := by
  have := h.row
  exact ⟨by simp [World.cell?, this], by simp [World.cell?, this], frozen_at this, frozen_at this⟩

theorem SG.set0 {w wr : World} {u v x : Value} {t : TypeId} (h : SG w #[u, v] t wr) : SG w #[x, v] t (wr.setCell ⟨w.heap.size, 0, none⟩ x) :=
  ⟨h.below.setCell (p := ⟨w.heap.size, 0, none⟩) (Nat.le_refl _) _, by rw [d_setCell_heap h.row]; rfl⟩

theorem SG.set1 {w wr : World} {u v x : Value} {t : TypeId} (h : SG w #[u, v] t wr) : SG w #[u, x] t (wr.setCell ⟨w.heap.size, 1, none⟩ x) :=
  ⟨h.below.setCell (p := ⟨w.heap.size, 1, none⟩) (Nat.le_refl _) _, by rw [d_setCell_heap h.row]; rfl⟩

set_option maxRecDepth 100000 in
set_option maxHeartbeats 1600000 in
theorem sign_any (secret : Int) (b : List UInt8) (v : Value) (w : World) (hB : Bb w b v) (hb : b.length ≤ 1000000) (h1 : 1 ≤ secret) (h2 : secret < 1073741789) (hT : Tabs w) :
    Calls Tryd.prog 14 #[.int .i64 secret, v] w fun e w' => e = .returned (.tuple #[.agg #[.int .i64 (sigE secret b), .int .i64 (sigS secret b)], .int .i64 0]) ∧ Below w.heap.size w w' := by
  obtain ⟨A, cap, rfl, _⟩ := hB.form
  obtain ⟨n, hn⟩ : ∃ n, Hid (n = b.length) := ⟨_, Lib.hid rfl⟩
  have HB := Lib.hid hB
  have HT := Lib.hid hT
  rw [← hn.out] at HB ⊢
  have d1 : decide (secret < 1) = false := by simpa using h1
  have d2 : decide (secret ≥ 1073741789) = false := by simpa using h2
  have hs0 : SG w #[.int .i64 0, .int .i64 0] 24 (w.alloc (.cells #[.int .i64 0, .int .i64 0] 24)) := ⟨(Below.refl _ _).alloc (Nat.le_refl _) _, heap_alloc_new _ _⟩
  have S1 := Lib.hid (hs0.alloc (.cells #[.iface 3 (.int .i64 secret), .iface 22 (.slice A n cap)] 20))
  have hrow1 : ((w.alloc (.cells #[.int .i64 0, .int .i64 0] 24)).alloc (.cells #[.iface 3 (.int .i64 secret), .iface 22 (.slice A n cap)] 20)).heap[w.heap.size + 1]? = some (.cells #[.iface 3 (.int .i64 secret), .iface 22 (.slice A n cap)] 20 (0, 0)) := by
    rw [show w.heap.size + 1 = (w.alloc (.cells #[.int .i64 0, .int .i64 0] 24)).heap.size from by simp, heap_alloc_new]
  have hI := Lib.hid (items2 (x := .n secret) (y := .b b) hrow1 rfl ⟨_, rfl, HB.out.below S1.out.below⟩)
  have H12 := Lib.hid (And.intro h1 h2)
  have hok := Lib.hid (two_ok (x := secret) (b := b) (by omega) hb)
  clear hB hT hs0 hrow1 h1 h2
  go_enter Tryd.func14, Tryd.ntmps14
  go_wp2_with fail
  refine (list_any _ (w.heap.size + 1) [.n secret, .b b] hI.out hok.out (by simp) (by simp)).mono ?_
  rintro e w2 ⟨A2, cap2, rfl, hb2, hB2⟩
  have S2 := Lib.hid (S1.out.step hb2)
  obtain ⟨L2, hL2⟩ : ∃ L, Hid (L = encOf (listV [.n secret, .b b])) := ⟨_, Lib.hid rfl⟩
  rw [← hL2.out] at hB2 ⊢
  have hp2 : 0 < L2.length := by rw [hL2.out]; exact enc_items_pos _
  have hl2 : L2.length ≤ 100000000 := by rw [hL2.out]; exact items_len hok.out (by simp)
  obtain ⟨b2, o2, rfl, hA2⟩ := At.ofB hB2 hp2
  have HA2 := Lib.hid hA2
  clear hA2 hB2 hb2 hI
  go_wp2_with fail
  refine (hash_any w2 nonceS (by decide) L2 b2 o2 cap2 hp2 hl2 HA2.out (HT.out.below S2.out.below)).mono ?_
  rintro e w3 ⟨rfl, hb3⟩
  have S3 := Lib.hid (S2.out.step hb3)
  clear hb3
  obtain ⟨k0, hk0⟩ : ∃ k, Hid (k = hashn nonceS L2) := ⟨_, Lib.hid rfl⟩
  rw [← hk0.out]
  have hk1 : k0 < 1073741789 := by rw [hk0.out]; exact hashn_lt _ _
  rcases Nat.lt_or_ge k0 1 with hk2 | hk2
  · have hkk : Hid ((kOf secret b : Int) = 1) := Lib.hid (by
      have := hk0.out
      rw [hL2.out] at this
      unfold kOf
      rw [← this]
      omega)
    have HK := Lib.hid hk1
    go_wp2_with fail
    refine (power_any 4 1 (by omega) w3).mono ?_
    rintro e w4 ⟨rfl, hb4⟩
    have S4 := Lib.hid (S3.out.step hb4)
    clear hb4
    obtain ⟨pt, hpt⟩ : ∃ pt, Hid (pt = spow 4 (kOf secret b)) := ⟨_, Lib.hid rfl⟩
    rw [show spow 4 1 = pt from by rw [hpt.out, hkk.out]]
    go_wp2_with fail
    refine (power_any 4 secret (by have := H12.out; omega) w4).mono ?_
    rintro e w5 ⟨rfl, hb5⟩
    have S5 := Lib.hid (S4.out.step hb5)
    clear hb5
    obtain ⟨ky, hky⟩ : ∃ ky, Hid (ky = spow 4 secret) := ⟨_, Lib.hid rfl⟩
    rw [← hky.out]
    go_wp2_with fail
    have hpr := spow_range 4 (kOf secret b)
    have hkr := spow_range 4 secret
    rw [← hpt.out] at hpr
    rw [← hky.out] at hkr
    have hok3 := Lib.hid (three_ok (x := pt) (y := ky) (b := b) (by omega) (by omega) hb)
    clear hpr hkr
    have hI3 := items3 (x := .n pt) (y := .n ky) (z := .b b) (heap_alloc_new w5 (.cells #[.iface 3 (.int .i64 pt), .iface 3 (.int .i64 ky), .iface 22 (.slice A n cap)] 20)) rfl rfl ⟨_, rfl, HB.out.below (S5.out.alloc _).below⟩
    refine (list_any _ w5.heap.size [.n pt, .n ky, .b b] hI3 hok3.out (by simp) (by simp)).mono ?_
    rintro e w6 ⟨A6, cap6, rfl, hb6, hB6⟩
    have S6 := Lib.hid ((S5.out.alloc _).step hb6)
    obtain ⟨L6, hL6⟩ : ∃ L, Hid (L = encOf (listV [.n pt, .n ky, .b b])) := ⟨_, Lib.hid rfl⟩
    rw [← hL6.out] at hB6 ⊢
    have hp6 : 0 < L6.length := by rw [hL6.out]; exact enc_items_pos _
    have hl6 : L6.length ≤ 100000000 := by rw [hL6.out]; exact items_len hok3.out (by simp)
    obtain ⟨b6, o6, rfl, hA6⟩ := At.ofB hB6 hp6
    have HA6 := Lib.hid hA6
    clear hA6 hB6 hb6 hI3
    go_wp2_with fail
    refine (hash_any w6 signS (by decide) L6 b6 o6 cap6 hp6 hl6 HA6.out (HT.out.below S6.out.below)).mono ?_
    rintro e w7 ⟨rfl, hb7⟩
    have S7 := Lib.hid (S6.out.step hb7)
    clear hb7
    obtain ⟨E, hE⟩ : ∃ k, Hid (k = hashn signS L6) := ⟨_, Lib.hid rfl⟩
    rw [← hE.out]
    have hE1 : E < 1073741789 := by rw [hE.out]; exact hashn_lt _ _
    have HE : Hid (sigE secret b = E) := Lib.hid (by rw [hE.out, hL6.out, hpt.out, hky.out]; rfl)
    obtain ⟨q0, q1, q2, q3⟩ := S7.out.cells2
    have ht := fun w => Lib.hid (times_any (E : Int) secret (by omega) (by have := H12.out; omega) w)
    have HTM := Lib.hid ht
    clear ht
    go_wp2_with (go_at_call 44; refine (HTM.out _).out.mono ?_; rintro e w' ⟨rfl, rfl⟩)
    have hS : Hid ((1 + (E : Int) * secret % 1073741789) % 1073741789 = sigS secret b) := Lib.hid (by unfold sigS; rw [HE.out, hkk.out])
    refine (plus_any 1 ((E : Int) * secret % 1073741789) (by have := HK.out; omega) (by omega) _).mono ?_
    rintro e w' ⟨rfl, rfl⟩
    rw [hS.out]
    have S8 := Lib.hid (S7.out.set0 (x := .int .i64 (E : Int)))
    obtain ⟨r0, r1, r2, r3⟩ := S8.out.cells2
    clear q0 q1 q2 q3
    generalize w7.setCell ⟨w.heap.size, 0, none⟩ (.int .i64 (E : Int)) = w8 at *
    have S9 := Lib.hid (S8.out.set1 (x := .int .i64 (sigS secret b)))
    go_wp2_with fail
    have S11 := (S9.out.set0 (x := .int .i64 (E : Int))).set1 (x := .int .i64 (sigS secret b))
    generalize ((w8.setCell ⟨w.heap.size, 1, none⟩ (.int .i64 (sigS secret b))).setCell ⟨w.heap.size, 0, none⟩ (.int .i64 (E : Int))).setCell ⟨w.heap.size, 1, none⟩ (.int .i64 (sigS secret b)) = w11 at *
    obtain ⟨t0, t1, _, _⟩ := S11.cells2
    refine bodyPost_ret (v := .tuple #[.agg #[.int .i64 (E : Int), .int .i64 (sigS secret b)], .int .i64 0]) ?_ rfl ⟨by rw [HE.out], S11.below⟩
    simp [results, Tryd.f14, go_sem, t0, t1]
  · have hkk : Hid ((kOf secret b : Int) = (k0 : Int)) := Lib.hid (by
      have := hk0.out
      rw [hL2.out] at this
      unfold kOf
      rw [← this]
      omega)
    have HK := Lib.hid hk1
    go_wp2_with fail
    refine (power_any 4 (k0 : Int) (by omega) w3).mono ?_
    rintro e w4 ⟨rfl, hb4⟩
    have S4 := Lib.hid (S3.out.step hb4)
    clear hb4
    obtain ⟨pt, hpt⟩ : ∃ pt, Hid (pt = spow 4 (kOf secret b)) := ⟨_, Lib.hid rfl⟩
    rw [show spow 4 (k0 : Int) = pt from by rw [hpt.out, hkk.out]]
    go_wp2_with fail
    refine (power_any 4 secret (by have := H12.out; omega) w4).mono ?_
    rintro e w5 ⟨rfl, hb5⟩
    have S5 := Lib.hid (S4.out.step hb5)
    clear hb5
    obtain ⟨ky, hky⟩ : ∃ ky, Hid (ky = spow 4 secret) := ⟨_, Lib.hid rfl⟩
    rw [← hky.out]
    go_wp2_with fail
    have hpr := spow_range 4 (kOf secret b)
    have hkr := spow_range 4 secret
    rw [← hpt.out] at hpr
    rw [← hky.out] at hkr
    have hok3 := Lib.hid (three_ok (x := pt) (y := ky) (b := b) (by omega) (by omega) hb)
    clear hpr hkr
    have hI3 := items3 (x := .n pt) (y := .n ky) (z := .b b) (heap_alloc_new w5 (.cells #[.iface 3 (.int .i64 pt), .iface 3 (.int .i64 ky), .iface 22 (.slice A n cap)] 20)) rfl rfl ⟨_, rfl, HB.out.below (S5.out.alloc _).below⟩
    refine (list_any _ w5.heap.size [.n pt, .n ky, .b b] hI3 hok3.out (by simp) (by simp)).mono ?_
    rintro e w6 ⟨A6, cap6, rfl, hb6, hB6⟩
    have S6 := Lib.hid ((S5.out.alloc _).step hb6)
    obtain ⟨L6, hL6⟩ : ∃ L, Hid (L = encOf (listV [.n pt, .n ky, .b b])) := ⟨_, Lib.hid rfl⟩
    rw [← hL6.out] at hB6 ⊢
    have hp6 : 0 < L6.length := by rw [hL6.out]; exact enc_items_pos _
    have hl6 : L6.length ≤ 100000000 := by rw [hL6.out]; exact items_len hok3.out (by simp)
    obtain ⟨b6, o6, rfl, hA6⟩ := At.ofB hB6 hp6
    have HA6 := Lib.hid hA6
    clear hA6 hB6 hb6 hI3
    go_wp2_with fail
    refine (hash_any w6 signS (by decide) L6 b6 o6 cap6 hp6 hl6 HA6.out (HT.out.below S6.out.below)).mono ?_
    rintro e w7 ⟨rfl, hb7⟩
    have S7 := Lib.hid (S6.out.step hb7)
    clear hb7
    obtain ⟨E, hE⟩ : ∃ k, Hid (k = hashn signS L6) := ⟨_, Lib.hid rfl⟩
    rw [← hE.out]
    have hE1 : E < 1073741789 := by rw [hE.out]; exact hashn_lt _ _
    have HE : Hid (sigE secret b = E) := Lib.hid (by rw [hE.out, hL6.out, hpt.out, hky.out]; rfl)
    obtain ⟨q0, q1, q2, q3⟩ := S7.out.cells2
    have ht := fun w => Lib.hid (times_any (E : Int) secret (by omega) (by have := H12.out; omega) w)
    have HTM := Lib.hid ht
    clear ht
    go_wp2_with (go_at_call 44; refine (HTM.out _).out.mono ?_; rintro e w' ⟨rfl, rfl⟩)
    have hS : Hid (((k0 : Int) + (E : Int) * secret % 1073741789) % 1073741789 = sigS secret b) := Lib.hid (by unfold sigS; rw [HE.out, hkk.out])
    refine (plus_any (k0 : Int) ((E : Int) * secret % 1073741789) (by have := HK.out; omega) (by omega) _).mono ?_
    rintro e w' ⟨rfl, rfl⟩
    rw [hS.out]
    have S8 := Lib.hid (S7.out.set0 (x := .int .i64 (E : Int)))
    obtain ⟨r0, r1, r2, r3⟩ := S8.out.cells2
    clear q0 q1 q2 q3
    generalize w7.setCell ⟨w.heap.size, 0, none⟩ (.int .i64 (E : Int)) = w8 at *
    have S9 := Lib.hid (S8.out.set1 (x := .int .i64 (sigS secret b)))
    go_wp2_with fail
    have S11 := (S9.out.set0 (x := .int .i64 (E : Int))).set1 (x := .int .i64 (sigS secret b))
    generalize ((w8.setCell ⟨w.heap.size, 1, none⟩ (.int .i64 (sigS secret b))).setCell ⟨w.heap.size, 0, none⟩ (.int .i64 (E : Int))).setCell ⟨w.heap.size, 1, none⟩ (.int .i64 (sigS secret b)) = w11 at *
    obtain ⟨t0, t1, _, _⟩ := S11.cells2
    refine bodyPost_ret (v := .tuple #[.agg #[.int .i64 (E : Int), .int .i64 (sigS secret b)], .int .i64 0]) ?_ rfl ⟨by rw [HE.out], S11.below⟩
    simp [results, Tryd.f14, go_sem, t0, t1]

end Go.Proofs.YtjhecmmbpmpmgaaDoor

namespace Go.Proofs.YtjhecmmbpmpmgaaDoor
open Go.RowKit Go.Lib

set_option maxRecDepth 100000 in
set_option maxHeartbeats 800000 in
theorem sign_low (secret : Int) (v : Value) (w : World) (h1 : secret < 1) :
    Calls Tryd.prog 14 #[.int .i64 secret, v] w fun e w' => e = .returned (.tuple #[.agg #[.int .i64 0, .int .i64 0], .int .i64 110]) ∧ Below w.heap.size w w' := by
  have d1 : decide (secret < 1) = true := by simpa using h1
  have S0 : SG w #[.int .i64 0, .int .i64 0] 24 (w.alloc (.cells #[.int .i64 0, .int .i64 0] 24)) := ⟨(Below.refl _ _).alloc (Nat.le_refl _) _, heap_alloc_new _ _⟩
  have HS := Lib.hid S0
  clear S0 h1
  go_enter Tryd.func14, Tryd.ntmps14
  go_wp2_with fail
  obtain ⟨t0, t1, _, _⟩ := HS.out.cells2
  refine bodyPost_ret (v := .tuple #[.agg #[.int .i64 0, .int .i64 0], .int .i64 110]) ?_ rfl ⟨rfl, HS.out.below⟩
  simp [results, Tryd.f14, go_sem, t0, t1]

set_option maxRecDepth 100000 in
set_option maxHeartbeats 800000 in
theorem sign_high (secret : Int) (v : Value) (w : World) (h1 : secret ≥ 1073741789) :
    Calls Tryd.prog 14 #[.int .i64 secret, v] w fun e w' => e = .returned (.tuple #[.agg #[.int .i64 0, .int .i64 0], .int .i64 110]) ∧ Below w.heap.size w w' := by
  have d1 : decide (secret < 1) = false := by simp; omega
  have d2 : decide (secret ≥ 1073741789) = true := by simpa using h1
  have S0 : SG w #[.int .i64 0, .int .i64 0] 24 (w.alloc (.cells #[.int .i64 0, .int .i64 0] 24)) := ⟨(Below.refl _ _).alloc (Nat.le_refl _) _, heap_alloc_new _ _⟩
  have HS := Lib.hid S0
  clear S0 h1
  go_enter Tryd.func14, Tryd.ntmps14
  go_wp2_with fail
  obtain ⟨t0, t1, _, _⟩ := HS.out.cells2
  refine bodyPost_ret (v := .tuple #[.agg #[.int .i64 0, .int .i64 0], .int .i64 110]) ?_ rfl ⟨rfl, HS.out.below⟩
  simp [results, Tryd.f14, go_sem, t0, t1]

end Go.Proofs.YtjhecmmbpmpmgaaDoor

namespace Go.Proofs.YtjhecmmbpmpmgaaDoor
open Go.RowKit Go.Lib

/-- the point of a signature, as the program reckons it -/
def pointOf (key E S : Int) : Int := if valid (spow 4 S) && valid (spow key (-E)) then gmul (spow 4 S) (spow key (-E)) else 0

set_option maxRecDepth 100000 in
set_option maxHeartbeats 800000 in
theorem verify_neg (key E S : Int) (v : Value) (w : World) (h : min E S < 0) :
    Calls Tryd.prog 16 #[.int .i64 key, v, .agg #[.int .i64 E, .int .i64 S]] w fun e w' => e = .returned (.bool false) ∧ Below w.heap.size w w' := by
  have hb : Below w.heap.size w (w.alloc (.cells #[.int .i64 E, .int .i64 S] 24)) := (Below.refl _ _).alloc (Nat.le_refl _) _
  have HB := Lib.hid hb
  clear hb
  have d1 : decide (min E S < 0) = true := by simpa using h
  go_enter Tryd.func16, Tryd.ntmps16
  go_wp2_with fail
  all_goals
    go_ret
    exact ⟨rfl, HB.out⟩

set_option maxRecDepth 100000 in
set_option maxHeartbeats 800000 in
theorem verify_big (key E S : Int) (v : Value) (w : World) (h0 : 0 ≤ E ∧ 0 ≤ S) (h : E ≥ 1073741789 ∨ S ≥ 1073741789) :
    Calls Tryd.prog 16 #[.int .i64 key, v, .agg #[.int .i64 E, .int .i64 S]] w fun e w' => e = .returned (.bool false) ∧ Below w.heap.size w w' := by
  have hb : Below w.heap.size w (w.alloc (.cells #[.int .i64 E, .int .i64 S] 24)) := (Below.refl _ _).alloc (Nat.le_refl _) _
  have HB := Lib.hid hb
  clear hb
  have e1 : decide (E < 0) = false := by simp; omega
  have e2 : decide (S < 0) = false := by simp; omega
  have e3 : ¬ (E < 0) := by omega
  have e4 : ¬ (S < 0) := by omega
  go_enter Tryd.func16, Tryd.ntmps16
  rcases h with h | h
  · have d1 : decide (E ≥ 1073741789) = true := by simpa using h
    by_cases h2 : E ≤ S
    · have d2 : decide (S ≥ 1073741789) = true := by simp; omega
      go_wp2_with fail
      all_goals
        go_ret
        exact ⟨rfl, HB.out⟩
    · go_wp2_with fail
      all_goals
        go_ret
        exact ⟨rfl, HB.out⟩
  · have d1 : decide (S ≥ 1073741789) = true := by simpa using h
    by_cases h2 : S ≤ E
    · have d2 : decide (E ≥ 1073741789) = true := by simp; omega
      go_wp2_with fail
      all_goals
        go_ret
        exact ⟨rfl, HB.out⟩
    · go_wp2_with fail
      all_goals
        go_ret
        exact ⟨rfl, HB.out⟩

end Go.Proofs.YtjhecmmbpmpmgaaDoor

namespace Go.Proofs.YtjhecmmbpmpmgaaDoor
open Go.RowKit Go.Lib

set_option maxRecDepth 100000 in
set_option maxHeartbeats 200000 in
theorem verify_key (key E S : Int) (v : Value) (w : World) (hE : 0 ≤ E ∧ E < 1073741789) (hS : 0 ≤ S ∧ S < 1073741789) (hk : valid key = false) :
    Calls Tryd.prog 16 #[.int .i64 key, v, .agg #[.int .i64 E, .int .i64 S]] w fun e w' => e = .returned (.bool false) ∧ Below w.heap.size w w' := by
  have hb : Below w.heap.size w (w.alloc (.cells #[.int .i64 E, .int .i64 S] 24)) := (Below.refl _ _).alloc (Nat.le_refl _) _
  have HB := Lib.hid hb
  have hc := Lib.hid (valid_any key (w.alloc (.cells #[.int .i64 E, .int .i64 S] 24)))
  rw [hk] at hc
  clear hb hk
  have e1 : decide (E < 0) = false := by simp; omega
  have e2 : decide (S < 0) = false := by simp; omega
  have e3 : decide (E ≥ 1073741789) = false := by simp; omega
  have e4 : decide (S ≥ 1073741789) = false := by simp; omega
  clear hE hS
  by_cases h : E ≤ S
  · by_cases h' : S ≤ E
    · obtain rfl : E = S := by omega
      clear h h'
      go_enter Tryd.func16, Tryd.ntmps16
      go_wp2_with (go_at_call 19; refine hc.out.mono ?_; clear hc; rintro e w' ⟨rfl, rfl⟩)
      all_goals
        go_ret
        exact ⟨rfl, HB.out⟩
    · have hlt : E < S := by omega
      clear h h'
      go_enter Tryd.func16, Tryd.ntmps16
      go_wp2_with (go_at_call 19; refine hc.out.mono ?_; clear hc; rintro e w' ⟨rfl, rfl⟩)
      all_goals
        go_ret
        exact ⟨rfl, HB.out⟩
  · have hlt : S < E := by omega
    clear h
    go_enter Tryd.func16, Tryd.ntmps16
    go_wp2_with (go_at_call 19; refine hc.out.mono ?_; clear hc; rintro e w' ⟨rfl, rfl⟩)
    all_goals
      go_ret
      exact ⟨rfl, HB.out⟩

end Go.Proofs.YtjhecmmbpmpmgaaDoor

namespace Go.Proofs.YtjhecmmbpmpmgaaDoor
open Go.RowKit Go.Lib

set_option maxRecDepth 100000 in
set_option maxHeartbeats 1600000 in
theorem verify_any (key E S : Int) (b : List UInt8) (v : Value) (w : World) (hB : Bb w b v) (hb : b.length ≤ 1000000) (hT : Tabs w) (hE : 0 ≤ E ∧ E < 1073741789) (hS : 0 ≤ S ∧ S < 1073741789) (hk : valid key = true) :
    Calls Tryd.prog 16 #[.int .i64 key, v, .agg #[.int .i64 E, .int .i64 S]] w fun e w' => e = .returned (.bool (E == (eOf (pointOf key E S) key b : Int))) ∧ Below w.heap.size w w' := by
  obtain ⟨A, cap, rfl, _⟩ := hB.form
  obtain ⟨n, hn⟩ : ∃ n, Hid (n = b.length) := ⟨_, Lib.hid rfl⟩
  have HBb := Lib.hid hB
  have HT := Lib.hid hT
  rw [← hn.out] at HBb ⊢
  have S0 := Lib.hid (show SG w #[.int .i64 E, .int .i64 S] 24 (w.alloc (.cells #[.int .i64 E, .int .i64 S] 24)) from ⟨(Below.refl _ _).alloc (Nat.le_refl _) _, heap_alloc_new _ _⟩)
  have hc := Lib.hid (valid_any key (w.alloc (.cells #[.int .i64 E, .int .i64 S] 24)))
  rw [hk] at hc
  have HE := Lib.hid hE
  have HS := Lib.hid hS
  have HK := Lib.hid hk
  clear hB hT hk
  have e1 : decide (E < 0) = false := by simp; omega
  have e2 : decide (S < 0) = false := by simp; omega
  have e3 : decide (E ≥ 1073741789) = false := by simp; omega
  have e4 : decide (S ≥ 1073741789) = false := by simp; omega
  clear hE hS
  have C0 : Hid (∀ wi, SG w #[.int .i64 E, .int .i64 S] 24 wi → wi.cell? ⟨w.heap.size, 0, none⟩ = some (.int .i64 E) ∧ wi.cell? ⟨w.heap.size, 1, none⟩ = some (.int .i64 S)) := Lib.hid fun wi hi => ⟨hi.cells2.1, hi.cells2.2.1⟩
  obtain ⟨pa, hpa⟩ : ∃ pa, Hid (pa = spow 4 S) := ⟨_, Lib.hid rfl⟩
  obtain ⟨pb, hpb⟩ : ∃ pb, Hid (pb = spow key (-E)) := ⟨_, Lib.hid rfl⟩
  have P1 : Hid (∀ wi, SG w #[.int .i64 E, .int .i64 S] 24 wi → Calls Tryd.prog 42 #[.int .i64 4, .int .i64 S] wi fun e w' => e = .returned (.int .i64 pa) ∧ SG w #[.int .i64 E, .int .i64 S] 24 w') := Lib.hid fun wi hi => by
    rw [hpa.out]
    exact (power_any 4 S (by have := HS.out; omega) wi).mono fun e w' h => ⟨h.1, hi.step h.2⟩
  have P2 : Hid (∀ wi, SG w #[.int .i64 E, .int .i64 S] 24 wi → Calls Tryd.prog 42 #[.int .i64 key, .int .i64 (-E)] wi fun e w' => e = .returned (.int .i64 pb) ∧ SG w #[.int .i64 E, .int .i64 S] 24 w') := Lib.hid fun wi hi => by
    rw [hpb.out]
    exact (power_any key (-E) (by have := HE.out; omega) wi).mono fun e w' h => ⟨h.1, hi.step h.2⟩
  obtain ⟨pc, pe, hpc, PM⟩ : ∃ pc pe, Hid (pc = pointOf key E S) ∧ Hid (∀ wi, SG w #[.int .i64 E, .int .i64 S] 24 wi → Calls Tryd.prog 53 #[.int .i64 pa, .int .i64 pb] wi fun e w' => e = .returned (.tuple #[.int .i64 pc, .int .i64 pe]) ∧ SG w #[.int .i64 E, .int .i64 S] 24 w') := by
    refine ⟨pointOf key E S, if valid pa && valid pb then 0 else 100, Lib.hid rfl, Lib.hid fun wi hi => (mul_any pa pb wi).mono fun e w' h => ⟨?_, by rw [h.2]; exact hi⟩⟩
    rw [h.1]
    unfold pointOf
    rw [← hpa.out, ← hpb.out]
    cases valid pa && valid pb <;> rfl
  have SD := Lib.hid (S0.out.step (Below.refl _ _).drew)
  have h3 : E < S ∨ (E ≤ S ∧ S ≤ E) ∨ S < E := by omega
  rcases h3 with h | ⟨h, h'⟩ | h
  all_goals
    go_enter Tryd.func16, Tryd.ntmps16
    go_wp2_with (go_at_call 19; refine hc.out.mono ?_; clear hc; rintro e w' ⟨rfl, rfl⟩)
    have hneg : IntKind.i64.wrap (-E) = -E := IntWalk.i64_in _ (by have := HE.out; omega)
    go_region_held3 (fun w' => w'.cell? ⟨w.heap.size, 0, none⟩ = some (.int .i64 E) ∧ w'.cell? ⟨w.heap.size, 1, none⟩ = some (.int .i64 S))
      (first | exact (C0.out _ SD.out) | exact (C0.out _ SA.out) | exact (C0.out _ SB.out) | exact (C0.out _ SC.out))
      (first
        | (go_at_call 42; (with_reducible refine (P2.out _ SA.out).mono ?_); rintro e wb ⟨rfl, hb2⟩; have SB := Lib.hid hb2; clear hb2)
        | (go_at_call 42; (with_reducible refine (P1.out _ SD.out).mono ?_); rintro e wa ⟨rfl, ha2⟩; have SA := Lib.hid ha2; clear ha2)
        | (go_at_call 53; (with_reducible refine (PM.out _ SB.out).mono ?_); rintro e wc ⟨rfl, hc2⟩; have SC := Lib.hid hc2; clear hc2))
    have SE := Lib.hid (SC.out.step (Below.refl _ _).drew)
    have hpcr : 0 ≤ pc ∧ pc < 2147483579 := by
      rw [hpc.out]
      unfold pointOf gmul
      split <;> omega
    have hok3 := Lib.hid (three_ok (x := pc) (y := key) (b := b) (by omega) (by have := valid_range HK.out; omega) hb)
    clear hpcr
    have SF := Lib.hid ((SC.out.alloc (.cells #[.iface 3 (.int .i64 pc), .iface 3 (.int .i64 key), .iface 22 (.slice A n cap)] 20)).step (Below.refl _ _).drew)
    have hI3 := Lib.hid (items3 (x := .n pc) (y := .n key) (z := .b b) (w := (wc.alloc (.cells #[.iface 3 (.int .i64 pc), .iface 3 (.int .i64 key), .iface 22 (.slice A n cap)] 20)).drew) (heap_alloc_new wc (.cells #[.iface 3 (.int .i64 pc), .iface 3 (.int .i64 key), .iface 22 (.slice A n cap)] 20)) rfl rfl ⟨_, rfl, HBb.out.below SF.out.below⟩)
    obtain ⟨L6, hL6⟩ : ∃ L, Hid (L = encOf (listV [.n pc, .n key, .b b])) := ⟨_, Lib.hid rfl⟩
    have hp6 : 0 < L6.length := by rw [hL6.out]; exact enc_items_pos _
    have hl6 : L6.length ≤ 100000000 := by rw [hL6.out]; exact items_len hok3.out (by simp)
    have HLI := Lib.hid (list_any _ wc.heap.size [.n pc, .n key, .b b] hI3.out hok3.out (by simp) (by simp))
    rw [← hL6.out] at HLI
    go_wp2_with fail
    go_region_held3 (fun w' => w'.cell? ⟨w.heap.size, 0, none⟩ = some (.int .i64 E) ∧ w'.cell? ⟨w.heap.size, 1, none⟩ = some (.int .i64 S))
      (first | exact (C0.out _ SE.out) | exact (C0.out _ SF.out) | exact (C0.out _ SG6.out) | exact (C0.out _ SH.out))
      (first
        | (go_at_call 41; refine HLI.out.mono ?_; rintro e w6 ⟨A6, cap6, rfl, hb6, hB6⟩; have SG6 := Lib.hid (SF.out.step hb6); obtain ⟨b6, o6, rfl, hA6⟩ := At.ofB hB6 hp6; have HA6 := Lib.hid hA6; clear hA6 hB6 hb6)
        | (go_at_call 22; refine (hash_any w6 signS (by decide) L6 b6 o6 cap6 hp6 hl6 HA6.out (HT.out.below SG6.out.below)).mono ?_; rintro e w7 ⟨rfl, hb7⟩; have SH := Lib.hid (SG6.out.step hb7); clear hb7))
    go_wp2_with fail
    go_ret
    exact ⟨by rw [hL6.out, hpc.out]; rfl, SH.out.below⟩

end Go.Proofs.YtjhecmmbpmpmgaaDoor

namespace Go.Proofs.YtjhecmmbpmpmgaaDoor

theorem pow_red {a : Nat} (h : a ^ thQ % thP = 1) (n : Nat) : a ^ (n % thQ) % thP = a ^ n % thP := by
  have e : a ^ n = (a ^ thQ) ^ (n / thQ) * a ^ (n % thQ) := by
    rw [← Nat.pow_mul, ← Nat.pow_add, Nat.div_add_mod]
  have e1 : (a ^ thQ) ^ (n / thQ) % thP = 1 := by
    rw [Nat.pow_mod, h, Nat.one_pow]; rfl
  rw [e, Nat.mul_mod, e1, Nat.one_mul, Nat.mod_mod]

theorem gpow_def (a n : Int) : gpow a n = ((a.toNat ^ (ex n).toNat % thP : Nat) : Int) := rfl
theorem ex_def (n : Int) : ex n = n % (thQ : Int) := rfl

theorem ex_nat (n : Int) : ∃ k : Nat, ex n = (k : Int) ∧ k < thQ := by
  have := ex_range n
  exact ⟨(ex n).toNat, by omega, by unfold thQ; omega⟩

theorem ex_ex (n : Int) : ex (ex n) = ex n := by unfold ex; omega
theorem gpow_ex (a n : Int) : gpow a (ex n) = gpow a n := by rw [gpow_def, gpow_def, ex_ex]
theorem gpow_congr {a m n : Int} (h : ex m = ex n) : gpow a m = gpow a n := by rw [gpow_def, gpow_def, h]

theorem valid_root {a : Int} (h : valid a = true) : a.toNat ^ thQ % thP = 1 := ((valid_iff a).1 h).2.2

/-- a power at an exponent that is a natural number -/
theorem gpow_nat {a : Int} (h : valid a = true) (n : Nat) : gpow a (n : Int) = ((a.toNat ^ n % thP : Nat) : Int) := by
  rw [gpow_def, ← pow_red (valid_root h) n]
  congr 3

theorem valid_pow {a : Int} (h : valid a = true) (n : Int) : valid (gpow a n) = true := by
  have hr := valid_root h
  rw [gpow_def]
  generalize (ex n).toNat = k
  have e : (a.toNat ^ k % thP) ^ thQ % thP = 1 := by
    rw [← Nat.pow_mod, ← Nat.pow_mul, Nat.mul_comm, Nat.pow_mul, Nat.pow_mod, hr, Nat.one_pow]; rfl
  generalize hm : a.toNat ^ k % thP = m at e
  have hlt : m < thP := by rw [← hm]; exact Nat.mod_lt _ (by decide)
  have hpos : m ≠ 0 := by
    intro h0
    rw [h0, Nat.zero_pow (by decide)] at e
    exact absurd e (by decide)
  unfold thP at hlt
  exact (valid_iff _).2 ⟨by omega, by omega, by rw [Int.toNat_natCast]; exact e⟩

theorem gpow_toNat (a n : Int) : (gpow a n).toNat = a.toNat ^ (ex n).toNat % thP := by rw [gpow_def, Int.toNat_natCast]

theorem gmul_nat (x y : Nat) : gmul (x : Int) (y : Int) = ((x * y % thP : Nat) : Int) := by
  unfold gmul
  rw [← Int.natCast_mul, Int.natCast_emod]; rfl

theorem gpow_add {a : Int} (h : valid a = true) (m n : Int) : gmul (gpow a m) (gpow a n) = gpow a (m + n) := by
  obtain ⟨i, hi, _⟩ := ex_nat m
  obtain ⟨j, hj, _⟩ := ex_nat n
  have e : ex (m + n) = ex ((i + j : Nat) : Int) := by
    rw [Int.natCast_add, ← hi, ← hj]
    unfold ex; omega
  rw [gpow_congr e, gpow_nat h, gpow_def, gpow_def, gmul_nat, hi, hj, Int.toNat_natCast, Int.toNat_natCast, Nat.pow_add, ← Nat.mul_mod]

theorem gpow_gpow {a : Int} (h : valid a = true) (m n : Int) : gpow (gpow a m) n = gpow a (m * n) := by
  obtain ⟨i, hi, _⟩ := ex_nat m
  obtain ⟨j, hj, _⟩ := ex_nat n
  have e : ex (m * n) = ex ((i * j : Nat) : Int) := by
    rw [Int.natCast_mul, ← hi, ← hj]
    rw [ex_def, ex_def, ex_def, ex_def, ← Int.mul_emod]
  rw [gpow_congr e, gpow_nat h, gpow_def (gpow a m), gpow_toNat, hi, hj, Int.toNat_natCast, Int.toNat_natCast, Nat.pow_mul, ← Nat.pow_mod]

theorem gpow_one {a : Int} (h : valid a = true) : gpow a 1 = a := by
  have h1 := gpow_nat h 1
  have hr := valid_range h
  rw [Nat.pow_one, Nat.mod_eq_of_lt (by unfold thP; omega)] at h1
  rw [show ((1 : Nat) : Int) = 1 from rfl] at h1
  omega

theorem valid_sq (x : Nat) (h1 : 1 ≤ x) (h2 : x * x < thP) : valid ((x * x : Nat) : Int) = true := by
  have hx : x < thP := by
    have : x * 1 ≤ x * x := Nat.mul_le_mul_left x h1
    omega
  refine (valid_iff _).2 ⟨?_, ?_, ?_⟩
  · have : 1 * 1 ≤ x * x := Nat.mul_le_mul h1 h1
    omega
  · unfold thP at h2; omega
  · rw [Int.toNat_natCast]
    have hf := fermat prP (by decide) (prP.cop h1 hx)
    have e : (x * x) ^ thQ = x ^ (thP - 1) := by
      rw [← Nat.pow_two, ← Nat.pow_mul]
      congr 1
    rw [e]; exact hf

theorem valid_four : valid 4 = true := valid_sq 2 (by decide) (by decide)

theorem valid_two : valid 2 = false := by
  have h : jac 2 thP = true := by rw [jac_two thP (by decide)]; decide
  unfold valid
  rw [show (2 : Int).toNat = 2 from rfl, h]
  simp

theorem valid_zero : valid 0 = false := by
  unfold valid; simp

theorem spow_four (n : Int) : spow 4 n = gpow 4 n := by unfold spow; rw [if_pos valid_four]
theorem spow_valid {a : Int} (h : valid a = true) (n : Int) : spow a n = gpow a n := by unfold spow; rw [if_pos h]

/-- the point of a signature for a key that is an element -/
theorem pointOf_eq {key : Int} (h : valid key = true) (E S : Int) : pointOf key E S = gmul (gpow 4 S) (gpow key (-E)) := by
  unfold pointOf
  rw [spow_four, spow_valid h, valid_pow valid_four, valid_pow h]; rfl

/-- the point of what Sign makes -/
theorem point_made (x k E : Int) : pointOf (gpow 4 x) E ((k + E * x % 1073741789) % 1073741789) = gpow 4 k := by
  rw [pointOf_eq (valid_pow valid_four x), gpow_gpow valid_four, gpow_add valid_four]
  refine gpow_congr ?_
  have e : x * -E = -(E * x) := by rw [Int.mul_neg, Int.mul_comm]
  rw [e]
  generalize E * x = z
  unfold ex; omega

/-- what Verify answers, whatever it is asked -/
def ver (key E S : Int) (b : List UInt8) : Bool := decide (0 ≤ E ∧ E < 1073741789 ∧ 0 ≤ S ∧ S < 1073741789) && (valid key && (E == (eOf (pointOf key E S) key b : Int)))

theorem sigE_range (x : Int) (b : List UInt8) : 0 ≤ (sigE x b : Int) ∧ (sigE x b : Int) < 1073741789 := by
  have : sigE x b < 1073741789 := hashn_lt _ _
  omega
theorem sigS_range (x : Int) (b : List UInt8) : 0 ≤ sigS x b ∧ sigS x b < 1073741789 := by unfold sigS; omega

/-- what Sign makes, Verify accepts -/
theorem ver_made (x : Int) (b : List UInt8) : ver (gpow 4 x) (sigE x b) (sigS x b) b = true := by
  have h1 := sigE_range x b
  have h2 := sigS_range x b
  have hp : pointOf (gpow 4 x) (sigE x b) (sigS x b) = spow 4 (kOf x b) := by
    rw [spow_four]; exact point_made x (kOf x b) (sigE x b)
  have he : (sigE x b : Int) = (eOf (pointOf (gpow 4 x) (sigE x b) (sigS x b)) (gpow 4 x) b : Int) := by
    rw [hp, ← spow_four x]; rfl
  unfold ver
  rw [← he, valid_pow valid_four]
  simp; omega

theorem gpow_five : gpow 4 5 = 1024 := by decide

theorem gpow_zero {a : Int} (h : valid a = true) : gpow a 0 = 1 := by
  have h1 := gpow_nat h 0
  rw [Nat.pow_zero] at h1
  exact h1

theorem gpow_last {a : Int} (h : valid a = true) (n : Int) (hn : n + 1 = 1073741789) : gmul (gpow a n) a = 1 := by
  have e := gpow_add h n 1
  rw [gpow_one h, gpow_congr (show ex (n + 1) = ex 0 by rw [hn]; decide), gpow_zero h] at e
  exact e

theorem inv_four (y : Nat) (h2 : y < thP) (h : y * 4 % thP = 1) : y = 536870895 := by
  have e := mq_cancel (p := thP) (x := y) (y := 536870895) (c := 4) (by decide +kernel) (h.trans (by decide +kernel))
  rw [Nat.mod_eq_of_lt h2] at e
  exact e.trans (by decide +kernel)

theorem gpow_inv (n : Int) (hn : n + 1 = 1073741789) : gpow 4 n = 536870895 := by
  have hr := valid_range (valid_pow valid_four n)
  have h := gpow_last valid_four n hn
  generalize gpow 4 n = z at hr h
  obtain ⟨y, rfl⟩ : ∃ y : Nat, z = (y : Int) := ⟨z.toNat, by omega⟩
  have h' : gmul (y : Int) ((4 : Nat) : Int) = 1 := h
  rw [gmul_nat] at h'
  have := inv_four y (by unfold thP; omega) (by omega)
  omega

/-- the quotient that two signatures with one point give away -/
def quo (a b : Int) : Int := ex (ex a * (((ex b).toNat ^ (thQ - 2) % thQ : Nat) : Int))

theorem quo_range (a b : Int) : 0 ≤ quo a b ∧ quo a b < 1073741789 := ex_range _

theorem inv_mod {y : Nat} (h0 : y % thQ ≠ 0) : y * (y ^ (thQ - 2) % thQ) % thQ = 1 := by
  have hf := fermat prQ (by decide) (prQ.copm h0)
  rw [Nat.mul_mod, Nat.mod_mod, ← Nat.mul_mod, Nat.mul_comm, ← Nat.pow_succ]
  exact hf

theorem gmul_cancel {a b c : Int} (ha : valid a = true) (hb : valid b = true) (hc : valid c = true) (h : gmul a c = gmul b c) : a = b := by
  have ra := valid_range ha; have rb := valid_range hb; have rc := valid_range hc
  obtain ⟨x, rfl⟩ : ∃ x : Nat, a = (x : Int) := ⟨a.toNat, by omega⟩
  obtain ⟨y, rfl⟩ : ∃ x : Nat, b = (x : Int) := ⟨b.toNat, by omega⟩
  obtain ⟨z, rfl⟩ : ∃ x : Nat, c = (x : Int) := ⟨c.toNat, by omega⟩
  rw [gmul_nat, gmul_nat] at h
  have hz : Nat.Coprime z thP := prP.cop (by omega) (by unfold thP; omega)
  have := mq_cancel hz (by omega : x * z % thP = y * z % thP)
  rw [Nat.mod_eq_of_lt (by unfold thP; omega), Nat.mod_eq_of_lt (by unfold thP; omega)] at this
  omega

theorem valid_mul {a b : Int} (ha : valid a = true) (hb : valid b = true) : valid (gmul a b) = true := by
  have ra := valid_range ha; have rb := valid_range hb
  have ha' := valid_root ha; have hb' := valid_root hb
  obtain ⟨x, rfl⟩ : ∃ x : Nat, a = (x : Int) := ⟨a.toNat, by omega⟩
  obtain ⟨y, rfl⟩ : ∃ x : Nat, b = (x : Int) := ⟨b.toNat, by omega⟩
  rw [Int.toNat_natCast] at ha' hb'
  rw [gmul_nat]
  have e : (x * y % thP) ^ thQ % thP = 1 := by
    rw [← Nat.pow_mod, Nat.mul_pow, Nat.mul_mod, ha', hb']; rfl
  generalize hm : x * y % thP = m at e
  have hlt : m < thP := by rw [← hm]; exact Nat.mod_lt _ (by decide)
  have hpos : m ≠ 0 := by
    intro h0
    rw [h0, Nat.zero_pow (by decide)] at e
    exact absurd e (by decide)
  unfold thP at hlt
  exact (valid_iff _).2 ⟨by omega, by omega, by rw [Int.toNat_natCast]; exact e⟩

theorem gmul_comm (a b : Int) : gmul a b = gmul b a := by unfold gmul; rw [Int.mul_comm]
theorem gmul_assoc (a b c : Int) : gmul (gmul a b) c = gmul a (gmul b c) := by
  unfold gmul
  rw [Int.mul_emod (a * b % 2147483579), Int.emod_emod, ← Int.mul_emod, Int.mul_emod a (b * c % 2147483579), Int.emod_emod, ← Int.mul_emod, Int.mul_assoc]

theorem gmul_one {a : Int} (h : valid a = true) : gmul a 1 = a := by
  have := valid_range h
  unfold gmul; omega

theorem gpow_neg {a : Int} (h : valid a = true) (n : Int) : gmul (gpow a n) (gpow a (-n)) = 1 := by
  rw [gpow_add h, show n + -n = 0 from by omega, gpow_zero h]

theorem twice_aux {g key E S F T : Int} (v4 : valid g = true) (hk : valid key = true) (hp : gmul (gpow g S) (gpow key (-E)) = gmul (gpow g T) (gpow key (-F))) : gpow g (S - T) = gpow key (E - F) := by
  have e1 : gmul (gmul (gpow g S) (gpow key (-E))) (gmul (gpow g (-T)) (gpow key E)) = gpow g (S - T) := by
    rw [gmul_assoc, ← gmul_assoc (gpow key (-E)), gmul_comm (gpow key (-E)) (gpow g (-T)), gmul_assoc (gpow g (-T)), gmul_comm (gpow key (-E)) (gpow key E), gpow_neg hk E, ← gmul_assoc, gpow_add v4 S (-T), gmul_one (valid_pow v4 _)]
    congr 1
  have e2 : gmul (gmul (gpow g T) (gpow key (-F))) (gmul (gpow g (-T)) (gpow key E)) = gpow key (E - F) := by
    rw [gmul_assoc, ← gmul_assoc (gpow key (-F)), gmul_comm (gpow key (-F)) (gpow g (-T)), gmul_assoc (gpow g (-T)), ← gmul_assoc (gpow g T), gpow_neg v4 T, gpow_add hk (-F) E, gmul_comm 1, gmul_one (valid_pow hk _)]
    congr 1; omega
  rw [← e1, hp, e2]

/-- two signatures with one point -/
theorem twice {key E S F T : Int} (hk : valid key = true) (hp : pointOf key E S = pointOf key F T) (hd : ex (E - F) ≠ 0) : gpow 4 (quo (S - T) (E - F)) = key := by
  rw [pointOf_eq hk, pointOf_eq hk] at hp
  have v4 := valid_four
  -- 4 ^ (S - T) = key ^ (E - F)
  have h1 := twice_aux v4 hk hp
  obtain ⟨y, hy, _⟩ := ex_nat (E - F)
  have hy0 : y % thQ ≠ 0 := by
    rw [Nat.mod_eq_of_lt (by assumption)]
    intro h0; apply hd; rw [hy, h0]; rfl
  have hi := inv_mod hy0
  obtain ⟨v, hv⟩ : ∃ v : Nat, v = y ^ (thQ - 2) % thQ := ⟨_, rfl⟩
  rw [← hv] at hi
  have hq : quo (S - T) (E - F) = ex (ex (S - T) * (v : Int)) := by
    unfold quo
    rw [hy, Int.toNat_natCast, hv]
  rw [hq, gpow_ex, ← gpow_gpow v4, gpow_ex, h1, gpow_gpow hk]
  have e3 : ex ((E - F) * (v : Int)) = ex 1 := by
    have e4 : ex ((E - F) * (v : Int)) = ex (ex (E - F) * (v : Int)) := by
      simp only [ex_def]
      rw [Int.mul_emod, Int.mul_emod ((E - F) % (thQ : Int)) (v : Int), Int.emod_emod]
    rw [e4, hy, ex_def, ← Int.natCast_mul, ← Int.natCast_emod, hi]; rfl
  rw [gpow_congr e3, gpow_one hk]

end Go.Proofs.YtjhecmmbpmpmgaaDoor
