/- signatorylaw11.sane by its contract. -/
import Derived.Test.YtjhecmmbpmpmgaaDoorDLawA
import Derived.Lib.SlBytesConst
namespace Go.Proofs.YtjhecmmbpmpmgaaDoor
open Go.RowKit Go.Lib

theorem sign_eq {secret E S : Int} {b : List UInt8} {v : Value} {w : World} (hE : (sigE secret b : Int) = E) (hS : sigS secret b = S) (hB : Bb w b v) (hb : b.length ≤ 1000000) (h1 : 1 ≤ secret) (h2 : secret < 1073741789) (hT : Tabs w) :
    Calls Tryd.prog 14 #[.int .i64 secret, v] w fun e w' => e = .returned (.tuple #[.agg #[.int .i64 E, .int .i64 S], .int .i64 0]) ∧ Below w.heap.size w w' := by
  subst hE hS; exact sign_any secret b v w hB hb h1 h2 hT

def letterL : List UInt8 := [108, 101, 116, 116, 101, 114]

theorem ver_bad {key E S : Int} {b : List UInt8} (h : valid key = false) : ver key E S b = false := by
  unfold ver; rw [h, Bool.false_and, Bool.and_false]
theorem ver_over {key E S : Int} {b : List UInt8} (h : 1073741789 ≤ S) : ver key E S b = false := by
  unfold ver
  rw [show decide (0 ≤ E ∧ E < 1073741789 ∧ 0 ≤ S ∧ S < 1073741789) = false from by simp; omega, Bool.false_and]

theorem nil_b (w : World) : Bb w [] (.slice none 0 0) := ⟨none, 0, rfl, by simp, by omega, fun h => absurd h (by simp)⟩

/-- a signature's two cells in a block -/
def Two (w : World) (B : Nat) (E S : Int) : Prop := w.heap[B]? = some (.cells #[.int .i64 E, .int .i64 S] 24 (0, 0))
theorem Two.below {w w' : World} {B : Nat} {E S : Int} (h : Two w B E S) (hb : Below w.heap.size w w') : Two w' B E S := (hb.block _ (Array.getElem?_eq_some_iff.1 h).1).trans h
theorem Two.cells {w : World} {B : Nat} {E S : Int} (h : Two w B E S) : w.cell? ⟨B, 0, none⟩ = some (.int .i64 E) ∧ w.cell? ⟨B, 1, none⟩ = some (.int .i64 S) ∧ w.frozen? ⟨B, 0, none⟩ = false ∧ w.frozen? ⟨B, 1, none⟩ = false :=
  ⟨by simp [World.cell?, show w.heap[B]? = _ from h], by simp [World.cell?, show w.heap[B]? = _ from h], frozen_at h, frozen_at h⟩
theorem Two.new (w : World) (E S : Int) : Two (w.alloc (.cells #[.int .i64 E, .int .i64 S] 24)) w.heap.size E S := heap_alloc_new _ _
theorem Two.lt {w : World} {B : Nat} {E S : Int} (h : Two w B E S) : B < w.heap.size := (Array.getElem?_eq_some_iff.1 h).1

theorem below_one (w : World) (o : Obj) : Below w.heap.size w (w.alloc o) := (Below.refl _ _).alloc (Nat.le_refl _) o

/-- bytes that a block holds -/
theorem row_b {w : World} {l : List UInt8} {b n : Nat} {t : TypeId} {fr : Nat × Nat} (h : w.heap[b]? = some (.cells (brow l) t fr)) (hn : l.length = n) (hm : n ≤ 9223372036854775807) : Bb w l (.slice (some ⟨b, 0, none⟩) n n) := by
  subst hn
  exact ⟨some ⟨b, 0, none⟩, l.length, rfl, Nat.le_refl _, hm, fun _ => ⟨b, 0, rfl, (Array.getElem?_eq_some_iff.1 h).1, fun i hi => (At.ofRow h).cell i hi⟩⟩

def letterO : Obj := .cells #[.int .u8 108, .int .u8 101, .int .u8 116, .int .u8 116, .int .u8 101, .int .u8 114] 5 (6, 7)
theorem letter_b (w : World) : Bb (w.alloc letterO) letterL (.slice (some ⟨w.heap.size, 0, none⟩) 6 6) :=
  row_b (l := letterL) (heap_alloc_new w (.cells (brow letterL) 5 (6, 7))) rfl (by omega)

set_option maxRecDepth 100000 in
set_option maxHeartbeats 1600000 in
theorem sane_any (w : World) (hT : Tabs w) : Calls Tryd.prog 13 #[] w fun e w' => e = .returned (.bool true) ∧ Below w.heap.size w w' := by
  obtain ⟨E, hE⟩ : ∃ E, Hid ((sigE 5 letterL : Int) = E) := ⟨_, Lib.hid rfl⟩
  obtain ⟨S, hS⟩ : ∃ S, Hid (sigS 5 letterL = S) := ⟨_, Lib.hid rfl⟩
  obtain ⟨K, hK⟩ : ∃ K : Int, Hid (K + 1 = 1073741789) := ⟨1073741788, Lib.hid rfl⟩
  obtain ⟨F, hF⟩ : ∃ F, Hid ((sigE K [] : Int) = F) := ⟨_, Lib.hid rfl⟩
  obtain ⟨T, hT'⟩ : ∃ T, Hid (sigS K [] = T) := ⟨_, Lib.hid rfl⟩
  have v1 : Hid (ver 1024 E S letterL = true) := Lib.hid (by rw [← hE.out, ← hS.out, ← gpow_five]; exact ver_made 5 letterL)
  have v2 : Hid (ver 2 E S letterL = false) := Lib.hid (ver_bad valid_two)
  have rS := sigS_range 5 letterL
  rw [hS.out] at rS
  have v3 : Hid (ver 1024 E (S + 1073741789) letterL = false) := Lib.hid (ver_over (by omega))
  have v4 : Hid (ver 536870895 F T [] = true) := Lib.hid (by rw [← hF.out, ← hT'.out, ← gpow_inv K hK.out]; exact ver_made K [])
  have v5 : Hid (ver 0 F T [] = false) := Lib.hid (ver_bad valid_zero)
  have hw : IntKind.i64.wrap (S + 1073741789) = S + 1073741789 := IntWalk.i64_in _ (by omega)
  clear rS
  have HT := Lib.hid hT
  have HB0 := Lib.hid (letter_b w)
  have H0 := Lib.hid (below_one w letterO)
  have kc := fun (w : World) (C : Array Value) (n c : Nat) => Lib.run_convert_bytes_const (P := Tryd.prog) w 22 5 C n c Tryd.underlying22 Tryd.underlying5
  clear hT
  go_enter Tryd.func13, Tryd.ntmps13
  go_wp2_with fail
  change Calls _ _ _ (w.alloc letterO) _
  have HT0 := Lib.hid (HT.out.below H0.out)
  generalize w.alloc letterO = w0 at *
  refine (sign_eq hE.out hS.out HB0.out (by decide) (by decide) (by decide) HT0.out).mono ?_
  rintro e w1 ⟨rfl, hb1⟩
  have B2 := Lib.hid (later hb1 (below_one w1 (.cells #[.int .i64 E, .int .i64 S] 24)))
  have T2 := Lib.hid (Two.new w1 E S)
  clear hb1 kc
  go_wp2_with fail
  generalize w1.alloc (.cells #[.int .i64 E, .int .i64 S] 24) = w2 at *
  refine (sign_eq hE.out hS.out (HB0.out.below B2.out) (by decide) (by decide) (by decide) (HT0.out.below B2.out)).mono ?_
  rintro e w3 ⟨rfl, hb3⟩
  have hb4 := later hb3 (below_one w3 (.cells #[.int .i64 E, .int .i64 S] 24))
  have B4 := Lib.hid (later B2.out hb4)
  have T4 := Lib.hid (T2.out.below hb4)
  have U4 := Lib.hid (Two.new w3 E S)
  clear hb3 hb4 B2 T2
  go_wp2_with fail
  generalize w3.alloc (.cells #[.int .i64 E, .int .i64 S] 24) = w4 at *
  refine (sign_no 0 _ _ (.inl (by decide))).mono ?_
  rintro e w5 ⟨rfl, hb5⟩
  have hb6 := later hb5 (below_one w5 (.cells #[.int .i64 0, .int .i64 0] 24))
  have B6 := Lib.hid (later B4.out hb6)
  have T6 := Lib.hid (T4.out.below hb6)
  have U6 := Lib.hid (U4.out.below hb6)
  clear hb5 hb6 B4 T4 U4
  go_wp2_with fail
  generalize w5.alloc (.cells #[.int .i64 0, .int .i64 0] 24) = w6 at *
  refine (sign_no 1073741789 _ _ (.inr (by decide))).mono ?_
  rintro e w7 ⟨rfl, hb7⟩
  have hb8 := later hb7 (below_one w7 (.cells #[.int .i64 0, .int .i64 0] 24))
  have B8 := Lib.hid (later B6.out hb8)
  have T8 := Lib.hid (T6.out.below hb8)
  have U8 := Lib.hid (U6.out.below hb8)
  clear hb7 hb8 B6 T6 U6
  go_wp2_with fail
  generalize w7.alloc (.cells #[.int .i64 0, .int .i64 0] 24) = w8 at *
  have hK1 : K = 1073741788 := by have := hK.out; omega
  rw [← hK1]
  refine (sign_eq hF.out hT'.out (nil_b _) (by decide) (by omega) (by omega) (HT0.out.below B8.out)).mono ?_
  rintro e w9 ⟨rfl, hb9⟩
  have hb10 := later hb9 (below_one w9 (.cells #[.int .i64 F, .int .i64 T] 24))
  have N10 := Lib.hid (Two.new w9 F T)
  have B10 := Lib.hid (later B8.out hb10)
  have T10 := Lib.hid (T8.out.below hb10)
  have U10 := Lib.hid (U8.out.below hb10)
  clear hb9 hb10 B8 T8 U8 hK1
  have hsz : (w9.alloc (.cells #[.int .i64 F, .int .i64 T] 24)).heap.size = w9.heap.size + 1 := by simp
  have hb11 := below_one (w9.alloc (.cells #[.int .i64 F, .int .i64 T] 24)) (.cells #[.int .i64 E, .int .i64 S] 24)
  have hb12 := below_one (w9.alloc (.cells #[.int .i64 F, .int .i64 T] 24)) (.cells #[.int .i64 E, .int .i64 (S + 1073741789)] 24)
  have O11 := Lib.hid (Two.new (w9.alloc (.cells #[.int .i64 F, .int .i64 T] 24)) E S)
  have O12 := Lib.hid (Two.new (w9.alloc (.cells #[.int .i64 F, .int .i64 T] 24)) E (S + 1073741789))
  rw [hsz] at O11 O12
  have T11 := Lib.hid (T10.out.below hb11)
  have T12 := Lib.hid (T10.out.below hb12)
  have N12 := Lib.hid (N10.out.below hb12)
  have B12 := Lib.hid (later B10.out hb12)
  obtain ⟨c0, c1, _, _⟩ := T10.out.cells
  obtain ⟨d0, d1, _, _⟩ := U10.out.cells
  obtain ⟨e0, e1, _, _⟩ := T11.out.cells
  obtain ⟨f0, f1, f2, f3⟩ := O11.out.cells
  obtain ⟨g0, g1, _, _⟩ := T12.out.cells
  clear hb11 hb12 B10 T10 U10 N10 hsz O11 T11
  go_wp2_with fail
  clear c0 c1 d0 d1 e0 e1 f0 f1 f2 f3 g0 g1
  generalize ((w9.alloc (.cells #[.int .i64 F, .int .i64 T] 24)).alloc (.cells #[.int .i64 E, .int .i64 (S + 1073741789)] 24)) = w12 at *
  refine (verify_b v1.out (HB0.out.below B12.out) (by decide) (HT0.out.below B12.out)).mono ?_
  rintro e w13 ⟨rfl, hb13⟩
  have B13 := Lib.hid (later B12.out hb13)
  have O13 := Lib.hid (O12.out.below hb13)
  have T13 := Lib.hid (T12.out.below hb13)
  have N13 := Lib.hid (N12.out.below hb13)
  clear hb13 B12 O12 T12 N12
  obtain ⟨c0, c1, _, _⟩ := T13.out.cells
  go_wp2_with fail
  clear c0 c1
  refine (verify_b v2.out (HB0.out.below B13.out) (by decide) (HT0.out.below B13.out)).mono ?_
  rintro e w14 ⟨rfl, hb14⟩
  have B14 := Lib.hid (later B13.out hb14)
  have O14 := Lib.hid (O13.out.below hb14)
  have N14 := Lib.hid (N13.out.below hb14)
  clear hb14 B13 O13 T13 N13
  obtain ⟨c0, c1, _, _⟩ := O14.out.cells
  go_wp2_with fail
  clear c0 c1
  refine (verify_b v3.out (HB0.out.below B14.out) (by decide) (HT0.out.below B14.out)).mono ?_
  rintro e w15 ⟨rfl, hb15⟩
  have B15 := Lib.hid (later B14.out hb15)
  have N15 := Lib.hid (N14.out.below hb15)
  clear hb15 B14 O14 N14
  obtain ⟨c0, c1, _, _⟩ := N15.out.cells
  go_wp2_with fail
  clear c0 c1
  refine (verify_b v4.out (nil_b _) (by decide) (HT0.out.below B15.out)).mono ?_
  rintro e w16 ⟨rfl, hb16⟩
  have B16 := Lib.hid (later B15.out hb16)
  have N16 := Lib.hid (N15.out.below hb16)
  clear hb16 B15 N15
  obtain ⟨c0, c1, _, _⟩ := N16.out.cells
  go_wp2_with fail
  clear c0 c1
  refine (verify_b v5.out (nil_b _) (by decide) (HT0.out.below B16.out)).mono ?_
  rintro e w17 ⟨rfl, hb17⟩
  have B17 := Lib.hid (later B16.out hb17)
  clear hb17 B16 N16
  go_wp2_with fail
  go_ret
  exact ⟨rfl, later H0.out B17.out⟩

end Go.Proofs.YtjhecmmbpmpmgaaDoor
