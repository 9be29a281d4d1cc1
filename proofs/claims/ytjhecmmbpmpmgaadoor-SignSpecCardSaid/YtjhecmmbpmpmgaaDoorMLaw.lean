/- The law's words for layer 11: Verify whatever it is asked, Sign where it refuses, the law's point.
   signatorylaw11.sane by its contract.
   signatorylaw11.SignRight returns true.
   signatorylaw11.SignMeans returns true. -/
import Derived.Test.YtjhecmmbpmpmgaaDoorMSign
import Derived.Test.YtjhecmmbpmpmgaaDoorMRefS
import Derived.Lib.SlBytesConst
import Derived.Deep.RegionHeld3
namespace Go.Proofs.YtjhecmmbpmpmgaaDoor
open Go.RowKit Go.Lib

theorem verify_b {key E S : Int} {b : List UInt8} {v : Value} {w : World} {r : Bool} (hr : ver key E S b = r) (hB : Bb w b v) (hb : b.length ≤ 1000000) (hT : Tabs w) :
    Calls Tryd.prog 16 #[.int .i64 key, v, .agg #[.int .i64 E, .int .i64 S]] w fun e w' => e = .returned (.bool r) ∧ Below w.heap.size w w' := by
  subst hr
  unfold ver
  by_cases h0 : 0 ≤ E ∧ 0 ≤ S
  · by_cases h1 : E < 1073741789 ∧ S < 1073741789
    · rw [show decide (0 ≤ E ∧ E < 1073741789 ∧ 0 ≤ S ∧ S < 1073741789) = true from by simp; omega, Bool.true_and]
      cases hk : valid key with
      | false => rw [Bool.false_and]; exact verify_key key E S v w ⟨h0.1, h1.1⟩ ⟨h0.2, h1.2⟩ hk
      | true => rw [Bool.true_and]; exact verify_any key E S b v w hB hb hT ⟨h0.1, h1.1⟩ ⟨h0.2, h1.2⟩ hk
    · rw [show decide (0 ≤ E ∧ E < 1073741789 ∧ 0 ≤ S ∧ S < 1073741789) = false from by simp; omega, Bool.false_and]
      exact verify_big key E S v w h0 (by omega)
  · rw [show decide (0 ≤ E ∧ E < 1073741789 ∧ 0 ≤ S ∧ S < 1073741789) = false from by simp; omega, Bool.false_and]
    exact verify_neg key E S v w (by omega)

theorem sign_no (secret : Int) (v : Value) (w : World) (h : secret < 1 ∨ secret ≥ 1073741789) :
    Calls Tryd.prog 14 #[.int .i64 secret, v] w fun e w' => e = .returned (.tuple #[.agg #[.int .i64 0, .int .i64 0], .int .i64 110]) ∧ Below w.heap.size w w' := by
  rcases h with h | h
  · exact sign_low secret v w h
  · exact sign_high secret v w h

theorem pow_ok {a n r : Int} (ha : valid a = true) (hr : gpow a n = r) (hn : -9223372036854775808 ≤ n ∧ n ≤ 9223372036854775807) (w : World) : Calls Tryd.prog 18 #[.int .i64 a, .int .i64 n] w fun e w' => e = .returned (.tuple #[.int .i64 r, .int .i64 0]) ∧ Below w.heap.size w w' := by
  subst hr
  have := pow_any a n hn w
  rw [ha] at this
  exact this

theorem mul_ok {a b r : Int} (ha : valid a = true) (hb : valid b = true) (hr : gmul a b = r) (w : World) : Calls Tryd.prog 53 #[.int .i64 a, .int .i64 b] w fun e w' => e = .returned (.tuple #[.int .i64 r, .int .i64 0]) ∧ w' = w := by
  subst hr
  have := mul_any a b w
  rw [ha, hb] at this
  exact this

set_option maxRecDepth 100000 in
set_option maxHeartbeats 800000 in
theorem point_any (key E S : Int) (hk : valid key = true) (hE : 0 ≤ E ∧ E < 1073741789) (hS : 0 ≤ S ∧ S < 1073741789) (w : World) :
    Calls Tryd.prog 20 #[.int .i64 key, .agg #[.int .i64 E, .int .i64 S]] w fun e w' => e = .returned (.tuple #[.int .i64 (pointOf key E S), .bool true]) ∧ Below w.heap.size w w' := by
  have S0 := Lib.hid (show SG w #[.int .i64 E, .int .i64 S] 24 (w.alloc (.cells #[.int .i64 E, .int .i64 S] 24)) from ⟨(Below.refl _ _).alloc (Nat.le_refl _) _, heap_alloc_new _ _⟩)
  obtain ⟨r, hr⟩ : ∃ r, Hid (pointOf key E S = r) := ⟨_, Lib.hid rfl⟩
  rw [hr.out]
  obtain ⟨pa, hpa⟩ : ∃ pa, Hid (gpow 4 S = pa) := ⟨_, Lib.hid rfl⟩
  obtain ⟨pb, hpb⟩ : ∃ pb, Hid (gpow key (-E) = pb) := ⟨_, Lib.hid rfl⟩
  have hva := Lib.hid (valid_pow valid_four S)
  have hvb := Lib.hid (valid_pow hk (-E))
  rw [hpa.out] at hva
  rw [hpb.out] at hvb
  have hm : Hid (gmul pa pb = r) := Lib.hid (by rw [← hr.out, pointOf_eq hk, hpa.out, hpb.out])
  have hneg : IntKind.i64.wrap (-E) = -E := IntWalk.i64_in _ (by omega)
  have HK := Lib.hid hk
  have HE := Lib.hid (And.intro hE hS)
  clear hk hE hS
  obtain ⟨c0, c1, _, _⟩ := S0.out.cells2
  go_enter Tryd.func20, Tryd.ntmps20
  go_wp2_with fail
  refine (pow_ok valid_four hpa.out (by have := HE.out; omega) _).mono ?_
  rintro e w1 ⟨rfl, hb1⟩
  have S1 := Lib.hid (S0.out.step hb1)
  clear hb1 c0 c1
  obtain ⟨c0, c1, _, _⟩ := S1.out.cells2
  go_wp2_with fail
  refine (pow_ok HK.out hpb.out (by have := HE.out; omega) _).mono ?_
  rintro e w2 ⟨rfl, hb2⟩
  have S2 := Lib.hid (S1.out.step hb2)
  clear hb2 c0 c1
  go_wp2_with fail
  refine (mul_ok hva.out hvb.out hm.out _).mono ?_
  rintro e w' ⟨rfl, rfl⟩
  go_wp2_with fail
  go_ret2
  exact ⟨rfl, S2.out.below⟩

end Go.Proofs.YtjhecmmbpmpmgaaDoor

namespace Go.Proofs.YtjhecmmbpmpmgaaDoor
open Go.RowKit Go.Lib

theorem sign_eq {secret E S : Int} {b : List UInt8} {v : Value} {w : World} (hE : (sigE secret b : Int) = E) (hS : sigS secret b = S) (hB : Bb w b v) (hb : b.length ≤ 1000000) (h1 : 1 ≤ secret) (h2 : secret < 1073741789) (hT : Tabs w) :
    Calls Tryd.prog 14 #[.int .i64 secret, v] w fun e w' => e = .returned (.tuple #[.agg #[.int .i64 E, .int .i64 S], .int .i64 0]) ∧ Below w.heap.size w w' := by
  subst hE hS; exact sign_any secret b v w hB hb h1 h2 hT

def letterL : List UInt8 := [108, 101, 116, 116, 101, 114]

theorem ver_bad {key E S : Int} {b : List UInt8} (h : valid key = false) : ver key E S b = false := by
  unfold ver; rw [h, Bool.false_and, Bool.and_false]
theorem ver_over {key E S : Int} {b : List UInt8} (h : 1073741789 ≤ S) : ver key E S b = false := by
  unfold ver
  rw [show decide (0 ≤ E ∧ E < 1073741789 ∧ 0 ≤ S ∧ S < 1073741789) = false from by simp; omega, Bool.false_and]

theorem nil_b (w : World) : Bb w [] (.slice none 0 0) := ⟨none, 0, rfl, by simp, by omega, fun h => absurd h (by simp)⟩

/-- a signature's two cells in a block -/
def Two (w : World) (B : Nat) (E S : Int) : Prop := w.heap[B]? = some (.cells #[.int .i64 E, .int .i64 S] 24 (0, 0))
theorem Two.below {w w' : World} {B : Nat} {E S : Int} (h : Two w B E S) (hb : Below w.heap.size w w') : Two w' B E S := (hb.block _ (Array.getElem?_eq_some_iff.1 h).1).trans h
theorem Two.cells {w : World} {B : Nat} {E S : Int} (h : Two w B E S) : w.cell? ⟨B, 0, none⟩ = some (.int .i64 E) ∧ w.cell? ⟨B, 1, none⟩ = some (.int .i64 S) ∧ w.frozen? ⟨B, 0, none⟩ = false ∧ w.frozen? ⟨B, 1, none⟩ = false :=
  ⟨by simp [World.cell?, show w.heap[B]? = _ from h], by simp [World.cell?, show w.heap[B]? = _ from h], frozen_at h, frozen_at h⟩
theorem Two.new (w : World) (E S : Int) : Two (w.alloc (.cells #[.int .i64 E, .int .i64 S] 24)) w.heap.size E S := heap_alloc_new _ _
theorem Two.lt {w : World} {B : Nat} {E S : Int} (h : Two w B E S) : B < w.heap.size := (Array.getElem?_eq_some_iff.1 h).1

theorem below_one (w : World) (o : Obj) : Below w.heap.size w (w.alloc o) := (Below.refl _ _).alloc (Nat.le_refl _) o

/-- bytes that a block holds -/
theorem row_b {w : World} {l : List UInt8} {b n : Nat} {t : TypeId} {fr : Nat × Nat} (h : w.heap[b]? = some (.cells (brow l) t fr)) (hn : l.length = n) (hm : n ≤ 9223372036854775807) : Bb w l (.slice (some ⟨b, 0, none⟩) n n) := by
  subst hn
  exact ⟨some ⟨b, 0, none⟩, l.length, rfl, Nat.le_refl _, hm, fun _ => ⟨b, 0, rfl, (Array.getElem?_eq_some_iff.1 h).1, fun i hi => (At.ofRow h).cell i hi⟩⟩

def letterO : Obj := .cells #[.int .u8 108, .int .u8 101, .int .u8 116, .int .u8 116, .int .u8 101, .int .u8 114] 5 (6, 7)
theorem letter_b (w : World) : Bb (w.alloc letterO) letterL (.slice (some ⟨w.heap.size, 0, none⟩) 6 6) :=
  row_b (l := letterL) (heap_alloc_new w (.cells (brow letterL) 5 (6, 7))) rfl (by omega)

set_option maxRecDepth 100000 in
set_option maxHeartbeats 1600000 in
theorem sane_any (w : World) (hT : Tabs w) : Calls Tryd.prog 13 #[] w fun e w' => e = .returned (.bool true) ∧ Below w.heap.size w w' := by
  obtain ⟨E, hE⟩ : ∃ E, Hid ((sigE 5 letterL : Int) = E) := ⟨_, Lib.hid rfl⟩
  obtain ⟨S, hS⟩ : ∃ S, Hid (sigS 5 letterL = S) := ⟨_, Lib.hid rfl⟩
  obtain ⟨K, hK⟩ : ∃ K : Int, Hid (K + 1 = 1073741789) := ⟨1073741788, Lib.hid rfl⟩
  obtain ⟨F, hF⟩ : ∃ F, Hid ((sigE K [] : Int) = F) := ⟨_, Lib.hid rfl⟩
  obtain ⟨T, hT'⟩ : ∃ T, Hid (sigS K [] = T) := ⟨_, Lib.hid rfl⟩
  have v1 : Hid (ver 1024 E S letterL = true) := Lib.hid (by rw [← hE.out, ← hS.out, ← gpow_five]; exact ver_made 5 letterL)
  have v2 : Hid (ver 2 E S letterL = false) := Lib.hid (ver_bad valid_two)
  have rS := sigS_range 5 letterL
  rw [hS.out] at rS
  have v3 : Hid (ver 1024 E (S + 1073741789) letterL = false) := Lib.hid (ver_over (by omega))
  have v4 : Hid (ver 536870895 F T [] = true) := Lib.hid (by rw [← hF.out, ← hT'.out, ← gpow_inv K hK.out]; exact ver_made K [])
  have v5 : Hid (ver 0 F T [] = false) := Lib.hid (ver_bad valid_zero)
  have hw : IntKind.i64.wrap (S + 1073741789) = S + 1073741789 := IntWalk.i64_in _ (by omega)
  clear rS
  have HT := Lib.hid hT
  have HB0 := Lib.hid (letter_b w)
  have H0 := Lib.hid (below_one w letterO)
  have kc := fun (w : World) (C : Array Value) (n c : Nat) => Lib.run_convert_bytes_const (P := Tryd.prog) w 22 5 C n c Tryd.underlying22 Tryd.underlying5
  clear hT
  go_enter Tryd.func13, Tryd.ntmps13
  go_wp2_with fail
  change Calls _ _ _ (w.alloc letterO) _
  have HT0 := Lib.hid (HT.out.below H0.out)
  generalize w.alloc letterO = w0 at *
  refine (sign_eq hE.out hS.out HB0.out (by decide) (by decide) (by decide) HT0.out).mono ?_
  rintro e w1 ⟨rfl, hb1⟩
  have B2 := Lib.hid (later hb1 (below_one w1 (.cells #[.int .i64 E, .int .i64 S] 24)))
  have T2 := Lib.hid (Two.new w1 E S)
  clear hb1 kc
  go_wp2_with fail
  generalize w1.alloc (.cells #[.int .i64 E, .int .i64 S] 24) = w2 at *
  refine (sign_eq hE.out hS.out (HB0.out.below B2.out) (by decide) (by decide) (by decide) (HT0.out.below B2.out)).mono ?_
  rintro e w3 ⟨rfl, hb3⟩
  have hb4 := later hb3 (below_one w3 (.cells #[.int .i64 E, .int .i64 S] 24))
  have B4 := Lib.hid (later B2.out hb4)
  have T4 := Lib.hid (T2.out.below hb4)
  have U4 := Lib.hid (Two.new w3 E S)
  clear hb3 hb4 B2 T2
  go_wp2_with fail
  generalize w3.alloc (.cells #[.int .i64 E, .int .i64 S] 24) = w4 at *
  refine (sign_no 0 _ _ (.inl (by decide))).mono ?_
  rintro e w5 ⟨rfl, hb5⟩
  have hb6 := later hb5 (below_one w5 (.cells #[.int .i64 0, .int .i64 0] 24))
  have B6 := Lib.hid (later B4.out hb6)
  have T6 := Lib.hid (T4.out.below hb6)
  have U6 := Lib.hid (U4.out.below hb6)
  clear hb5 hb6 B4 T4 U4
  go_wp2_with fail
  generalize w5.alloc (.cells #[.int .i64 0, .int .i64 0] 24) = w6 at *
  refine (sign_no 1073741789 _ _ (.inr (by decide))).mono ?_
  rintro e w7 ⟨rfl, hb7⟩
  have hb8 := later hb7 (below_one w7 (.cells #[.int .i64 0, .int .i64 0] 24))
  have B8 := Lib.hid (later B6.out hb8)
  have T8 := Lib.hid (T6.out.below hb8)
  have U8 := Lib.hid (U6.out.below hb8)
  clear hb7 hb8 B6 T6 U6
  go_wp2_with fail
  generalize w7.alloc (.cells #[.int .i64 0, .int .i64 0] 24) = w8 at *
  have hK1 : K = 1073741788 := by have := hK.out; omega
  rw [← hK1]
  refine (sign_eq hF.out hT'.out (nil_b _) (by decide) (by omega) (by omega) (HT0.out.below B8.out)).mono ?_
  rintro e w9 ⟨rfl, hb9⟩
  have hb10 := later hb9 (below_one w9 (.cells #[.int .i64 F, .int .i64 T] 24))
  have N10 := Lib.hid (Two.new w9 F T)
  have B10 := Lib.hid (later B8.out hb10)
  have T10 := Lib.hid (T8.out.below hb10)
  have U10 := Lib.hid (U8.out.below hb10)
  clear hb9 hb10 B8 T8 U8 hK1
  have hsz : (w9.alloc (.cells #[.int .i64 F, .int .i64 T] 24)).heap.size = w9.heap.size + 1 := by simp
  have hb11 := below_one (w9.alloc (.cells #[.int .i64 F, .int .i64 T] 24)) (.cells #[.int .i64 E, .int .i64 S] 24)
  have hb12 := below_one (w9.alloc (.cells #[.int .i64 F, .int .i64 T] 24)) (.cells #[.int .i64 E, .int .i64 (S + 1073741789)] 24)
  have O11 := Lib.hid (Two.new (w9.alloc (.cells #[.int .i64 F, .int .i64 T] 24)) E S)
  have O12 := Lib.hid (Two.new (w9.alloc (.cells #[.int .i64 F, .int .i64 T] 24)) E (S + 1073741789))
  rw [hsz] at O11 O12
  have T11 := Lib.hid (T10.out.below hb11)
  have T12 := Lib.hid (T10.out.below hb12)
  have N12 := Lib.hid (N10.out.below hb12)
  have B12 := Lib.hid (later B10.out hb12)
  obtain ⟨c0, c1, _, _⟩ := T10.out.cells
  obtain ⟨d0, d1, _, _⟩ := U10.out.cells
  obtain ⟨e0, e1, _, _⟩ := T11.out.cells
  obtain ⟨f0, f1, f2, f3⟩ := O11.out.cells
  obtain ⟨g0, g1, _, _⟩ := T12.out.cells
  clear hb11 hb12 B10 T10 U10 N10 hsz O11 T11
  go_wp2_with fail
  clear c0 c1 d0 d1 e0 e1 f0 f1 f2 f3 g0 g1
  generalize ((w9.alloc (.cells #[.int .i64 F, .int .i64 T] 24)).alloc (.cells #[.int .i64 E, .int .i64 (S + 1073741789)] 24)) = w12 at *
  refine (verify_b v1.out (HB0.out.below B12.out) (by decide) (HT0.out.below B12.out)).mono ?_
  rintro e w13 ⟨rfl, hb13⟩
  have B13 := Lib.hid (later B12.out hb13)
  have O13 := Lib.hid (O12.out.below hb13)
  have T13 := Lib.hid (T12.out.below hb13)
  have N13 := Lib.hid (N12.out.below hb13)
  clear hb13 B12 O12 T12 N12
  obtain ⟨c0, c1, _, _⟩ := T13.out.cells
  go_wp2_with fail
  clear c0 c1
  refine (verify_b v2.out (HB0.out.below B13.out) (by decide) (HT0.out.below B13.out)).mono ?_
  rintro e w14 ⟨rfl, hb14⟩
  have B14 := Lib.hid (later B13.out hb14)
  have O14 := Lib.hid (O13.out.below hb14)
  have N14 := Lib.hid (N13.out.below hb14)
  clear hb14 B13 O13 T13 N13
  obtain ⟨c0, c1, _, _⟩ := O14.out.cells
  go_wp2_with fail
  clear c0 c1
  refine (verify_b v3.out (HB0.out.below B14.out) (by decide) (HT0.out.below B14.out)).mono ?_
  rintro e w15 ⟨rfl, hb15⟩
  have B15 := Lib.hid (later B14.out hb15)
  have N15 := Lib.hid (N14.out.below hb15)
  clear hb15 B14 O14 N14
  obtain ⟨c0, c1, _, _⟩ := N15.out.cells
  go_wp2_with fail
  clear c0 c1
  refine (verify_b v4.out (nil_b _) (by decide) (HT0.out.below B15.out)).mono ?_
  rintro e w16 ⟨rfl, hb16⟩
  have B16 := Lib.hid (later B15.out hb16)
  have N16 := Lib.hid (N15.out.below hb16)
  clear hb16 B15 N15
  obtain ⟨c0, c1, _, _⟩ := N16.out.cells
  go_wp2_with fail
  clear c0 c1
  refine (verify_b v5.out (nil_b _) (by decide) (HT0.out.below B16.out)).mono ?_
  rintro e w17 ⟨rfl, hb17⟩
  have B17 := Lib.hid (later B16.out hb17)
  clear hb17 B16 N16
  go_wp2_with fail
  go_ret
  exact ⟨rfl, later H0.out B17.out⟩

end Go.Proofs.YtjhecmmbpmpmgaaDoor

namespace Go.Proofs.YtjhecmmbpmpmgaaDoor
open Go.RowKit Go.Lib

/-- a law's answer: true, and all that was there is as it was -/
def YesB (w : World) (e : Ending) (w' : World) : Prop := e = .returned (.bool true) ∧ Below w.heap.size w w'

set_option maxRecDepth 100000 in
set_option maxHeartbeats 1600000 in
theorem right_long (secret : Int) (b : List UInt8) (v : Value) (w : World) (hB : Bb w b v) (hT : Tabs w) (hl : b.length > 600) :
    Calls Tryd.prog 4 #[.int .i64 secret, v] w (YesB w) := by
  obtain ⟨A, cap, rfl, _⟩ := hB.form
  obtain ⟨n, hn⟩ : ∃ n, Hid (n = b.length) := ⟨_, Lib.hid rfl⟩
  rw [← hn.out] at hl ⊢
  have d1 : decide ((n : Int) > 600) = true := by simp; omega
  have HS := Lib.hid (sane_any w hT)
  clear hB hT
  go_enter Tryd.func4, Tryd.ntmps4
  go_wp2_with (go_at_call 13; refine HS.out.mono ?_; clear HS; rintro e w1 ⟨rfl, hb1⟩; have H1 := Lib.hid hb1; clear hb1)
  go_ret
  exact ⟨rfl, H1.out⟩

set_option maxRecDepth 100000 in
set_option maxHeartbeats 1600000 in
theorem right_no (secret : Int) (b : List UInt8) (v : Value) (w : World) (hB : Bb w b v) (hT : Tabs w) (hl : ¬ b.length > 600) (hs : secret < 1 ∨ secret ≥ 1073741789) :
    Calls Tryd.prog 4 #[.int .i64 secret, v] w (YesB w) := by
  obtain ⟨A, cap, rfl, _⟩ := hB.form
  obtain ⟨n, hn⟩ : ∃ n, Hid (n = b.length) := ⟨_, Lib.hid rfl⟩
  rw [← hn.out] at hl ⊢
  have d1 : decide ((n : Int) > 600) = false := by simp; omega
  have HS := Lib.hid (sane_any w hT)
  have HN := fun w => sign_no secret (.slice A n cap) w hs
  have HN := Lib.hid HN
  clear hB hT hl
  rcases Classical.em (secret < 1) with h1 | h1
  · have d2 : decide (secret < 1) = true := by simpa using h1
    clear h1 hs
    go_enter Tryd.func4, Tryd.ntmps4
    go_wp2_with (go_at_call 13; refine HS.out.mono ?_; clear HS; rintro e w1 ⟨rfl, hb1⟩; have H1 := Lib.hid hb1; clear hb1)
    refine (HN.out w1).mono ?_
    rintro e w2 ⟨rfl, hb2⟩
    have B3 := Lib.hid (later H1.out (later hb2 (below_one w2 (.cells #[.int .i64 0, .int .i64 0] 24))))
    have T3 := Lib.hid (Two.new w2 0 0)
    obtain ⟨c0, c1, _, _⟩ := T3.out.cells
    clear hb2
    go_wp2_with fail
    go_ret
    exact ⟨rfl, B3.out⟩
  · have d2 : decide (secret < 1) = false := by simpa using h1
    have d3 : decide (secret ≥ 1073741789) = true := by simp; omega
    clear h1 hs
    go_enter Tryd.func4, Tryd.ntmps4
    go_wp2_with (go_at_call 13; refine HS.out.mono ?_; clear HS; rintro e w1 ⟨rfl, hb1⟩; have H1 := Lib.hid hb1; clear hb1)
    refine (HN.out w1).mono ?_
    rintro e w2 ⟨rfl, hb2⟩
    have B3 := Lib.hid (later H1.out (later hb2 (below_one w2 (.cells #[.int .i64 0, .int .i64 0] 24))))
    have T3 := Lib.hid (Two.new w2 0 0)
    obtain ⟨c0, c1, _, _⟩ := T3.out.cells
    clear hb2
    go_wp2_with fail
    go_ret
    exact ⟨rfl, B3.out⟩

set_option maxRecDepth 100000 in
set_option maxHeartbeats 1600000 in
theorem right_yes (secret : Int) (b : List UInt8) (v : Value) (w : World) (hB : Bb w b v) (hT : Tabs w) (hl : ¬ b.length > 600) (h1 : 1 ≤ secret) (h2 : secret < 1073741789) :
    Calls Tryd.prog 4 #[.int .i64 secret, v] w (YesB w) := by
  obtain ⟨A, cap, rfl, _⟩ := hB.form
  obtain ⟨n, hn⟩ : ∃ n, Hid (n = b.length) := ⟨_, Lib.hid rfl⟩
  have hbl : Hid (b.length ≤ 1000000) := Lib.hid (by omega)
  rw [← hn.out] at hl hB ⊢
  have d1 : decide ((n : Int) > 600) = false := by simp; omega
  have d2 : decide (secret < 1) = false := by simp; omega
  have d3 : decide (secret ≥ 1073741789) = false := by simp; omega
  obtain ⟨E, hE⟩ : ∃ E, Hid ((sigE secret b : Int) = E) := ⟨_, Lib.hid rfl⟩
  obtain ⟨S, hS⟩ : ∃ S, Hid (sigS secret b = S) := ⟨_, Lib.hid rfl⟩
  obtain ⟨key, hK⟩ : ∃ k, Hid (gpow 4 secret = k) := ⟨_, Lib.hid rfl⟩
  have hv : Hid (ver key E S b = true) := Lib.hid (by rw [← hE.out, ← hS.out, ← hK.out]; exact ver_made secret b)
  have r1 := sigE_range secret b
  have r2 := sigS_range secret b
  rw [hE.out] at r1
  rw [hS.out] at r2
  have e1 : decide (E ≥ 0) = true := by simp; omega
  have e2 : decide (E < 1073741789) = true := by simp; omega
  have e3 : decide (S ≥ 0) = true := by simp; omega
  have e4 : decide (S < 1073741789) = true := by simp; omega
  have HS := Lib.hid (sane_any w hT)
  have HB := Lib.hid hB
  have HT := Lib.hid hT
  have H12 := Lib.hid (And.intro h1 h2)
  clear hB hT hl r1 r2 h1 h2
  go_enter Tryd.func4, Tryd.ntmps4
  go_wp2_with (go_at_call 13; refine HS.out.mono ?_; clear HS; rintro e w1 ⟨rfl, hb1⟩; have H1 := Lib.hid hb1; clear hb1)
  refine (sign_eq hE.out hS.out (HB.out.below H1.out) hbl.out H12.out.1 H12.out.2 (HT.out.below H1.out)).mono ?_
  rintro e w2 ⟨rfl, hb2⟩
  have B3 := Lib.hid (later H1.out (later hb2 (below_one w2 (.cells #[.int .i64 E, .int .i64 S] 24))))
  have T3 := Lib.hid (Two.new w2 E S)
  clear hb2
  go_wp2_with fail
  generalize w2.alloc (.cells #[.int .i64 E, .int .i64 S] 24) = w3 at *
  refine (sign_eq hE.out hS.out (HB.out.below B3.out) hbl.out H12.out.1 H12.out.2 (HT.out.below B3.out)).mono ?_
  rintro e w4 ⟨rfl, hb4⟩
  have hb5 := later hb4 (below_one w4 (.cells #[.int .i64 E, .int .i64 S] 24))
  have B5 := Lib.hid (later B3.out hb5)
  have T5 := Lib.hid (T3.out.below hb5)
  have U5 := Lib.hid (Two.new w4 E S)
  clear hb4 hb5
  go_wp2_with fail
  generalize w4.alloc (.cells #[.int .i64 E, .int .i64 S] 24) = w5 at *
  refine (pow_ok valid_four hK.out (by have := H12.out; omega) _).mono ?_
  rintro e w6 ⟨rfl, hb6⟩
  have B6 := Lib.hid (later B5.out hb6)
  obtain ⟨c0, c1, _, _⟩ := (T5.out.below hb6).cells
  obtain ⟨c2, c3, _, _⟩ := (U5.out.below hb6).cells
  clear hb6
  go_wp2_with fail
  refine (verify_b hv.out (HB.out.below B6.out) hbl.out (HT.out.below B6.out)).mono ?_
  rintro e w7 ⟨rfl, hb7⟩
  have B7 := Lib.hid (later B6.out hb7)
  clear hb7 c0 c1 c2 c3
  go_wp2_with fail
  go_ret
  exact ⟨rfl, B7.out⟩

theorem law_right (secret : Int) (b : List UInt8) (v : Value) (w : World) (hB : Bb w b v) (hT : Tabs w) : Calls Tryd.prog 4 #[.int .i64 secret, v] w (YesB w) := by
  by_cases hl : b.length > 600
  · exact right_long secret b v w hB hT hl
  · by_cases hs : 1 ≤ secret ∧ secret < 1073741789
    · exact right_yes secret b v w hB hT hl hs.1 hs.2
    · exact right_no secret b v w hB hT hl (by omega)

end Go.Proofs.YtjhecmmbpmpmgaaDoor

namespace Go.Proofs.YtjhecmmbpmpmgaaDoor
open Go.RowKit Go.Lib

/-- a list of integers and texts, as a block of its own holds it -/
theorem block_rd {w : World} {its : List It} {b cap : Nat} {t : TypeId} {fr : Nat × Nat} (h : w.heap[b]? = some (.cells (cellsL its).toArray t fr)) (hc : its.length ≤ cap) (hm : cap ≤ 9223372036854775807) (hok : ∀ i ∈ its, i.Ok) :
    Rb w (listV its) (.agg #[.int .i64 3, .int .i64 0, .string ByteArray.empty, .slice (some ⟨b, 0, none⟩) its.length cap]) := by
  have hbw := (Array.getElem?_eq_some_iff.1 h).1
  have hcells : ∀ j, w.cell? ⟨b, j, none⟩ = (cellsL its)[j]? := fun j => by rw [cell_of_row w b j _ _ _ h]; simp
  unfold listV
  conv => arg 3; rw [show its.length = (its.map It.toV).length from by simp]
  refine .mk (fun i => match its[i]? with | some x => x.val | none => undef) ⟨by omega, by omega⟩ ⟨by omega, by omega⟩ (by decide) (by simpa using hc) hm (fun _ => ⟨b, 0, rfl, hbw⟩) (fun i b' off hi e => ?_) (fun i hi => ?_)
  · injection e with e; injection e with e1 e2
    subst e1 e2
    have hi' : i < its.length := by simpa using hi
    have hc : ∀ j (hj : j < 4), w.cell? ⟨b, i * 4 + j, none⟩ = (its[i]).cells[j]? := fun j hj => by
      rw [hcells, cellsL_at its i j hi' hj]
    have k0 := hc 0 (by omega); have k1 := hc 1 (by omega); have k2 := hc 2 (by omega); have k3 := hc 3 (by omega)
    rw [List.getElem?_eq_getElem hi', Nat.zero_add]
    generalize its[i] = x at k0 k1 k2 k3 ⊢
    cases x <;> exact rd_four k0 k1 k2 k3
  · have hi' : i < its.length := by simpa using hi
    have hx := hok its[i] (List.getElem_mem _)
    rw [List.getElem_map, List.getElem?_eq_getElem hi']
    generalize its[i] = x at hx ⊢
    cases x with
    | n z => exact d_leaf _ _ _ _ _ ⟨by omega, by omega⟩ hx (by decide)
    | b y =>
      have h1 : (strOf y).size = y.length := by simp [strOf, ByteArray.size]
      have h2 : y.length ≤ 1000000 := hx
      exact d_leaf _ _ _ _ _ ⟨by omega, by omega⟩ ⟨by omega, by omega⟩ (by omega)

set_option maxRecDepth 100000 in
set_option maxHeartbeats 1600000 in
theorem means_long (key E S : Int) (b : List UInt8) (v : Value) (w : World) (hB : Bb w b v) (hT : Tabs w) (hl : b.length > 600) :
    Calls Tryd.prog 5 #[.int .i64 key, v, .agg #[.int .i64 E, .int .i64 S]] w (YesB w) := by
  obtain ⟨A, cap, rfl, _⟩ := hB.form
  obtain ⟨n, hn⟩ : ∃ n, Hid (n = b.length) := ⟨_, Lib.hid rfl⟩
  rw [← hn.out] at hl ⊢
  have d1 : decide ((n : Int) > 600) = true := by simp; omega
  have hb0 := below_one w (.cells #[.int .i64 E, .int .i64 S] 24)
  have HS := Lib.hid (sane_any _ (hT.below hb0))
  have H0 := Lib.hid hb0
  clear hB hT hb0
  go_enter Tryd.func5, Tryd.ntmps5
  go_wp2_with (go_at_call 13; refine HS.out.mono ?_; clear HS; rintro e w1 ⟨rfl, hb1⟩; have H1 := Lib.hid (later H0.out hb1); clear hb1)
  go_ret
  exact ⟨rfl, H1.out⟩

theorem out_cases {E S : Int} (h : ¬ (0 ≤ E ∧ E < 1073741789 ∧ 0 ≤ S ∧ S < 1073741789)) :
    decide (E < 0) = true ∨ (decide (E < 0) = false ∧ decide (E ≥ 1073741789) = true) ∨ (decide (E < 0) = false ∧ decide (E ≥ 1073741789) = false ∧ decide (S < 0) = true) ∨ (decide (E < 0) = false ∧ decide (E ≥ 1073741789) = false ∧ decide (S < 0) = false ∧ decide (S ≥ 1073741789) = true) := by
  simp; omega

set_option maxRecDepth 100000 in
set_option maxHeartbeats 1600000 in
theorem means_out (key E S : Int) (b : List UInt8) (v : Value) (w : World) (hB : Bb w b v) (hT : Tabs w) (hl : ¬ b.length > 600) (h : ¬ (0 ≤ E ∧ E < 1073741789 ∧ 0 ≤ S ∧ S < 1073741789)) :
    Calls Tryd.prog 5 #[.int .i64 key, v, .agg #[.int .i64 E, .int .i64 S]] w (YesB w) := by
  have hv : Hid (ver key E S b = false) := Lib.hid (by unfold ver; rw [decide_eq_false h, Bool.false_and])
  have hbl : Hid (b.length ≤ 1000000) := Lib.hid (by omega)
  obtain ⟨A, cap, rfl, _⟩ := hB.form
  obtain ⟨n, hn⟩ : ∃ n, Hid (n = b.length) := ⟨_, Lib.hid rfl⟩
  rw [← hn.out] at hl hB ⊢
  have d1 : decide ((n : Int) > 600) = false := by simp; omega
  have S0 := Lib.hid (show SG w #[.int .i64 E, .int .i64 S] 24 (w.alloc (.cells #[.int .i64 E, .int .i64 S] 24)) from ⟨(Below.refl _ _).alloc (Nat.le_refl _) _, heap_alloc_new _ _⟩)
  have HS := Lib.hid (sane_any _ (hT.below S0.out.below))
  have HB := Lib.hid hB
  have HT := Lib.hid hT
  have hd := out_cases h
  clear hB hT hl h
  rcases hd with d2 | ⟨d2, d3⟩ | ⟨d2, d3, d4⟩ | ⟨d2, d3, d4, d5⟩
  all_goals
    go_enter Tryd.func5, Tryd.ntmps5
    go_wp2_with (go_at_call 13; refine HS.out.mono ?_; clear HS; rintro e w1 ⟨rfl, hb1⟩; have S1 := Lib.hid (S0.out.step hb1); clear hb1; obtain ⟨c0, c1, _, _⟩ := S1.out.cells2)
    refine (verify_b hv.out (HB.out.below S1.out.below) hbl.out (HT.out.below S1.out.below)).mono ?_
    rintro e w2 ⟨rfl, hb2⟩
    have S2 := Lib.hid (S1.out.step hb2)
    clear hb2 c0 c1
    obtain ⟨c0, c1, _, _⟩ := S2.out.cells2
    go_wp2_with fail
    go_ret
    exact ⟨rfl, S2.out.below⟩

set_option maxRecDepth 100000 in
set_option maxHeartbeats 1600000 in
theorem means_key (key E S : Int) (b : List UInt8) (v : Value) (w : World) (hB : Bb w b v) (hT : Tabs w) (hl : ¬ b.length > 600) (h : 0 ≤ E ∧ E < 1073741789 ∧ 0 ≤ S ∧ S < 1073741789) (hk : valid key = false) :
    Calls Tryd.prog 5 #[.int .i64 key, v, .agg #[.int .i64 E, .int .i64 S]] w (YesB w) := by
  have hv : Hid (ver key E S b = false) := Lib.hid (ver_bad hk)
  have hbl : Hid (b.length ≤ 1000000) := Lib.hid (by omega)
  obtain ⟨A, cap, rfl, _⟩ := hB.form
  obtain ⟨n, hn⟩ : ∃ n, Hid (n = b.length) := ⟨_, Lib.hid rfl⟩
  rw [← hn.out] at hl hB ⊢
  have d1 : decide ((n : Int) > 600) = false := by simp; omega
  have d2 : decide (E < 0) = false := by simp; omega
  have d3 : decide (E ≥ 1073741789) = false := by simp; omega
  have d4 : decide (S < 0) = false := by simp; omega
  have d5 : decide (S ≥ 1073741789) = false := by simp; omega
  have S0 := Lib.hid (show SG w #[.int .i64 E, .int .i64 S] 24 (w.alloc (.cells #[.int .i64 E, .int .i64 S] 24)) from ⟨(Below.refl _ _).alloc (Nat.le_refl _) _, heap_alloc_new _ _⟩)
  have HS := Lib.hid (sane_any _ (hT.below S0.out.below))
  have HB := Lib.hid hB
  have HT := Lib.hid hT
  have HK := fun w => valid_any key w
  rw [hk] at HK
  have HK := Lib.hid HK
  clear hB hT hl h hk
  go_enter Tryd.func5, Tryd.ntmps5
  go_wp2_with (go_at_call 13; refine HS.out.mono ?_; clear HS; rintro e w1 ⟨rfl, hb1⟩; have S1 := Lib.hid (S0.out.step hb1); clear hb1; obtain ⟨c0, c1, _, _⟩ := S1.out.cells2)
  refine (verify_b hv.out (HB.out.below S1.out.below) hbl.out (HT.out.below S1.out.below)).mono ?_
  rintro e w2 ⟨rfl, hb2⟩
  have S2 := Lib.hid (S1.out.step hb2)
  clear hb2 c0 c1
  obtain ⟨c0, c1, _, _⟩ := S2.out.cells2
  go_wp2_with (go_at_call 19; refine (HK.out _).mono ?_; rintro e w' ⟨rfl, rfl⟩)
  go_ret
  exact ⟨rfl, S2.out.below⟩

set_option maxRecDepth 100000 in
set_option maxHeartbeats 3200000 in
theorem means_good (key E S : Int) (b : List UInt8) (v : Value) (w : World) (hB : Bb w b v) (hT : Tabs w) (hl : ¬ b.length > 600) (h : 0 ≤ E ∧ E < 1073741789 ∧ 0 ≤ S ∧ S < 1073741789) (hk : valid key = true) :
    Calls Tryd.prog 5 #[.int .i64 key, v, .agg #[.int .i64 E, .int .i64 S]] w (YesB w) := by
  obtain ⟨r, hv⟩ : ∃ r, Hid (ver key E S b = r) := ⟨_, Lib.hid rfl⟩
  have hbl : Hid (b.length ≤ 1000000) := Lib.hid (by omega)
  obtain ⟨A, cap, rfl, _⟩ := hB.form
  obtain ⟨n, hn⟩ : ∃ n, Hid (n = b.length) := ⟨_, Lib.hid rfl⟩
  rw [← hn.out] at hl hB ⊢
  have d1 : decide ((n : Int) > 600) = false := by simp; omega
  have d2 : decide (E < 0) = false := by simp; omega
  have d3 : decide (E ≥ 1073741789) = false := by simp; omega
  have d4 : decide (S < 0) = false := by simp; omega
  have d5 : decide (S ≥ 1073741789) = false := by simp; omega
  have S0 := Lib.hid (show SG w #[.int .i64 E, .int .i64 S] 24 (w.alloc (.cells #[.int .i64 E, .int .i64 S] 24)) from ⟨(Below.refl _ _).alloc (Nat.le_refl _) _, heap_alloc_new _ _⟩)
  have HS := Lib.hid (sane_any _ (hT.below S0.out.below))
  have HB := Lib.hid hB
  have HT := Lib.hid hT
  have HK := fun w => valid_any key w
  rw [hk] at HK
  have HK := Lib.hid HK
  obtain ⟨pt, hpt⟩ : ∃ p, Hid (pointOf key E S = p) := ⟨_, Lib.hid rfl⟩
  have HP := fun w => point_any key E S hk ⟨h.1, h.2.1⟩ h.2.2 w
  rw [hpt.out] at HP
  have HP := Lib.hid HP
  have hpr : Hid (0 ≤ pt ∧ pt < 2147483579) := Lib.hid (by
    rw [← hpt.out]; unfold pointOf gmul
    split <;> omega)
  have hok : Hid (∀ i ∈ [It.n pt, It.n key, It.b b], i.Ok) := Lib.hid (three_ok (by have := hpr.out; omega) (by have := valid_range hk; omega) hbl.out)
  obtain ⟨L, hL⟩ : ∃ L, Hid (encOf (listV [.n pt, .n key, .b b]) = L) := ⟨_, Lib.hid rfl⟩
  have hp : 0 < L.length := by rw [← hL.out]; exact enc_items_pos _
  have hll : L.length ≤ 100000000 := by rw [← hL.out]; exact items_len hok.out (by simp)
  have hr : Hid (r = (E == (hashn signS L : Int))) := Lib.hid (by
    rw [← hv.out, ver, decide_eq_true h, hk, hpt.out, ← hL.out]; rfl)
  obtain ⟨h5, hh5⟩ : ∃ k : Nat, Hid (hashn signS L = k) := ⟨_, Lib.hid rfl⟩
  rw [hh5.out] at hr
  have hr' : (E == (h5 : Int)) = r := hr.out.symm
  clear hB hT hl h hk hr
  go_enter Tryd.func5, Tryd.ntmps5
  go_wp2_with (go_at_call 13; refine HS.out.mono ?_; clear HS; rintro e w1 ⟨rfl, hb1⟩; have S1 := Lib.hid (S0.out.step hb1); clear hb1; obtain ⟨c0, c1, _, _⟩ := S1.out.cells2)
  refine (verify_b hv.out (HB.out.below S1.out.below) hbl.out (HT.out.below S1.out.below)).mono ?_
  rintro e w2 ⟨rfl, hb2⟩
  have S2 := Lib.hid (S1.out.step hb2)
  clear hb2 c0 c1
  obtain ⟨c0, c1, _, _⟩ := S2.out.cells2
  go_wp2_with (go_at_call 19; refine (HK.out _).mono ?_; rintro e w' ⟨rfl, rfl⟩)
  refine (HP.out _).mono ?_
  rintro e w3 ⟨rfl, hb3⟩
  have S3 := Lib.hid (S2.out.step hb3)
  have kc := Bb.conv (HB.out.below S3.out.below)
  clear hb3 c0 c1
  go_wp2_with fail
  have hrow := heap_alloc_new w3 (.cells #[.int .i64 1, .int .i64 pt, .string { data := #[] }, .slice none 0 0, .int .i64 1, .int .i64 key, .string { data := #[] }, .slice none 0 0, .int .i64 2, .int .i64 0, .string (strOf b), .slice none 0 0] 41)
  have HR := block_rd (its := [.n pt, .n key, .b b]) (cap := 3) hrow (by simp) (by omega) hok.out
  have S4 := Lib.hid (S3.out.alloc (.cells #[.int .i64 1, .int .i64 pt, .string { data := #[] }, .slice none 0 0, .int .i64 1, .int .i64 key, .string { data := #[] }, .slice none 0 0, .int .i64 2, .int .i64 0, .string (strOf b), .slice none 0 0] 41))
  refine (encode_eq hL.out (ck_items _) (by have := (listV_bounds _ hok.out (by simp)).1; omega) (by have := (listV_bounds _ hok.out (by simp)).2; omega) HR).mono ?_
  rintro e w5 ⟨A5, cap5, rfl, hb5, hB5⟩
  have S5 := Lib.hid (S4.out.step hb5)
  obtain ⟨b5, o5, rfl, hA5⟩ := At.ofB hB5 hp
  have HA5 := Lib.hid hA5
  clear hrow HR hb5 hB5 hA5
  have c0 := fun wi (h : SG w #[.int .i64 E, .int .i64 S] 24 wi) => h.cells2.1
  have C0 := Lib.hid c0
  clear c0 kc
  go_wp2_with fail
  have SD := Lib.hid (S5.out.step (Below.refl _ _).drew)
  have HAD := Lib.hid (HA5.out.below (Below.refl _ _).drew)
  go_region_held3 (fun w' => w'.cell? ⟨w.heap.size, 0, none⟩ = some (.int .i64 E))
    (first | exact (C0.out _ S6.out) | exact (C0.out _ SD.out))
    ((go_at_call 22; refine (hash_any _ signS (by decide) L b5 o5 cap5 hp hll HAD.out (HT.out.below SD.out.below)).mono ?_; rintro e w6 ⟨rfl, hb6⟩; have S6 := Lib.hid (SD.out.step hb6); clear hb6; rw [hh5.out]))
  go_wp2_with fail
  go_ret
  exact ⟨rfl, S6.out.below⟩

theorem law_means (key E S : Int) (b : List UInt8) (v : Value) (w : World) (hB : Bb w b v) (hT : Tabs w) : Calls Tryd.prog 5 #[.int .i64 key, v, .agg #[.int .i64 E, .int .i64 S]] w (YesB w) := by
  by_cases hl : b.length > 600
  · exact means_long key E S b v w hB hT hl
  · by_cases h : 0 ≤ E ∧ E < 1073741789 ∧ 0 ≤ S ∧ S < 1073741789
    · cases hk : valid key with
      | false => exact means_key key E S b v w hB hT hl h hk
      | true => exact means_good key E S b v w hB hT hl h hk
    · exact means_out key E S b v w hB hT hl h

end Go.Proofs.YtjhecmmbpmpmgaaDoor
