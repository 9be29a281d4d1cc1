/- signatorylaw01.CodecEncodeSpec and CodecSameSpec return true. -/
import Derived.Test.YtjhecmmbpmpmgaaCLawA
import Derived.Deep.RegionHeld3
namespace Go.Proofs.Ytjhecmmbpmpmgaa
open Go.RowKit Go.Lib

/-- a boxed argument, at a later world -/
structure Bx (w wi : World) (X : Nat) (x : V) (k n : Int) (s : ByteArray) (A : Option Addr) (len cap : Nat) : Prop where
  hb : Below w.heap.size w wi
  hR : Rb wi x (.agg #[.int .i64 k, .int .i64 n, .string s, .slice A len cap])
  g : wi.heap[X]? = some (.cells #[.int .i64 k, .int .i64 n, .string s, .slice A len cap] 24 (0, 0))

theorem Bx.lt {w wi : World} {X : Nat} {x : V} {k n : Int} {s : ByteArray} {A : Option Addr} {len cap : Nat} (h : Bx w wi X x k n s A len cap) : X < wi.heap.size := (Array.getElem?_eq_some_iff.1 h.g).1
theorem Bx.step {w wi wj : World} {X : Nat} {x : V} {k n : Int} {s : ByteArray} {A : Option Addr} {len cap : Nat} (h : Bx w wi X x k n s A len cap) (hb : Below wi.heap.size wi wj) : Bx w wj X x k n s A len cap :=
  ⟨later h.hb hb, h.hR.below hb, by rw [hb.block _ h.lt]; exact h.g⟩
theorem Bx.one {w : World} {x : V} {k n : Int} {s : ByteArray} {A : Option Addr} {len cap : Nat} (hR : Rb w x (.agg #[.int .i64 k, .int .i64 n, .string s, .slice A len cap])) : Bx w (w.alloc (.cells #[.int .i64 k, .int .i64 n, .string s, .slice A len cap] 24)) w.heap.size x k n s A len cap :=
  ⟨below1 _, hR.below (below1 _), heap_alloc_new _ _⟩
theorem Bx.two1 {w : World} {x : V} {k n : Int} {s : ByteArray} {A : Option Addr} {len cap : Nat} (o : Obj) (hR : Rb w x (.agg #[.int .i64 k, .int .i64 n, .string s, .slice A len cap])) : Bx w ((w.alloc (.cells #[.int .i64 k, .int .i64 n, .string s, .slice A len cap] 24)).alloc o) w.heap.size x k n s A len cap :=
  (Bx.one hR).step (below1 _)
theorem Bx.two2 {w : World} {x : V} {k n : Int} {s : ByteArray} {A : Option Addr} {len cap : Nat} (o : Obj) (hR : Rb w x (.agg #[.int .i64 k, .int .i64 n, .string s, .slice A len cap])) : Bx w ((w.alloc o).alloc (.cells #[.int .i64 k, .int .i64 n, .string s, .slice A len cap] 24)) (w.heap.size + 1) x k n s A len cap :=
  ⟨below2 _ _, hR.below (below2 _ _), heap_alloc2_new _ _ _⟩

theorem few_one {w0 : World} {b : Nat} {x : V} {c0 c1 c2 c3 : Value} {t : TypeId} {fr : Nat × Nat} (h : w0.heap[b]? = some (.cells #[c0, c1, c2, c3] t fr)) (hx : Rb w0 x (.agg #[c0, c1, c2, c3])) :
    Calls Try.prog 11 #[.slice (some ⟨b, 0, none⟩) 1 1] w0 fun e w' => e = .returned (.bool (few x)) ∧ Below w0.heap.size w0 w' := by
  have := few_any w0 [x] (some ⟨b, 0, none⟩) 1 (by simp) (rl_one h hx)
  simpa using this

theorem few_two {w0 : World} {b : Nat} {x y : V} {c0 c1 c2 c3 d0 d1 d2 d3 : Value} {t : TypeId} {fr : Nat × Nat} (h : w0.heap[b]? = some (.cells #[c0, c1, c2, c3, d0, d1, d2, d3] t fr)) (hx : Rb w0 x (.agg #[c0, c1, c2, c3])) (hy : Rb w0 y (.agg #[d0, d1, d2, d3])) :
    Calls Try.prog 11 #[.slice (some ⟨b, 0, none⟩) 2 2] w0 fun e w' => e = .returned (.bool (few x && few y)) ∧ Below w0.heap.size w0 w' := by
  have := few_any w0 [x, y] (some ⟨b, 0, none⟩) 2 (by simp) (rl_two h hx hy)
  simpa using this

set_option maxRecDepth 100000 in
set_option maxHeartbeats 1600000 in
theorem law_encode (w : World) (x : V) (v : Value) (hR : Rb w x v) : Calls Try.prog 3 #[v] w (Yes w) := by
  have hxx : ∀ k n s l, x = V.mk k n s l → x = V.mk k n s l := fun _ _ _ _ h => h
  clear hxx
  obtain ⟨A, cap, k, n, s, len, rfl⟩ : ∃ A cap k n s len, v = .agg #[.int .i64 k, .int .i64 n, .string s, .slice A len cap] := by
    obtain ⟨k, n, s, l⟩ := x
    obtain ⟨A, cap, rfl, _⟩ := Rd.head hR
    exact ⟨A, cap, k, n, s, _, rfl⟩
  have B0 := Lib.hid (Bx.one hR); clear hR
  cases hf : few x with
  | false =>
    go_enter Try.func3, Try.ntmps3
    go_wp2_with fail
    refine (sane_any _).mono ?_
    rintro e w1 ⟨rfl, hb1⟩
    have B1 := Lib.hid (B0.out.step hb1); clear hb1 B0
    obtain ⟨v0, v1, v2, v3, vf⟩ := four_cells B1.out.g
    go_wp2_with fail
    refine (few_one (x := x) (heap_alloc_new _ _) (B1.out.hR.below (below1 _))).mono ?_
    rw [hf]
    rintro e w2 ⟨rfl, hb2⟩
    go_wp2_with fail
    go_ret
    exact ⟨rfl, later B1.out.hb (later (below1 _) hb2)⟩
  | true =>
    obtain ⟨hsz, hle⟩ := few_sz hf
    have HF := Lib.hid hf; clear hf
    obtain ⟨L, hL⟩ : ∃ L, Hid (encOf x = L) := ⟨_, Lib.hid rfl⟩
    obtain ⟨c, hc⟩ : ∃ c, Hid (ckOf x.fm = c) := ⟨_, Lib.hid rfl⟩
    go_enter Try.func3, Try.ntmps3
    go_wp2_with fail
    refine (sane_any _).mono ?_
    rintro e w1 ⟨rfl, hb1⟩
    have B1 := Lib.hid (B0.out.step hb1); clear hb1 B0
    obtain ⟨v0, v1, v2, v3, vf⟩ := four_cells B1.out.g
    go_wp2_with fail
    refine (few_one (x := x) (heap_alloc_new _ _) (B1.out.hR.below (below1 _))).mono ?_
    rw [HF.out]
    rintro e w2 ⟨rfl, hb2⟩
    have B2 := Lib.hid (B1.out.step (later (below1 _) hb2)); clear hb2 B1 v0 v1 v2 v3 vf
    obtain ⟨v0, v1, v2, v3, vf⟩ := four_cells B2.out.g
    go_wp2_with fail
    refine (encode_eq hL.out hc.out (by omega) (by omega) B2.out.hR).mono ?_
    rintro e w3 ⟨A3, cap3, rfl, hb3, hB3⟩
    have B3 := Lib.hid (B2.out.step hb3); have HB3 := Lib.hid hB3; clear hb3 hB3 B2 v0 v1 v2 v3 vf
    obtain ⟨v0, v1, v2, v3, vf⟩ := four_cells B3.out.g
    go_wp2_with fail
    refine (rencode_eq hL.out hc.out (by omega) (by omega) B3.out.hR).mono ?_
    rintro e w4 ⟨A4, cap4, rfl, hb4, hB4⟩
    have B4 := Lib.hid (B3.out.step hb4); have HB3' := Lib.hid (HB3.out.below hb4); have HB4 := Lib.hid hB4; clear hb4 hB4 HB3 B3 v0 v1 v2 v3 vf
    obtain ⟨v0, v1, v2, v3, vf⟩ := four_cells B4.out.g
    go_wp2_with fail
    refine (size_eq (n := L.length) (by rw [hL.out]) hc.out (by omega) (by omega) B4.out.hR).mono ?_
    rintro e w5 ⟨rfl, hb5⟩
    have B5 := Lib.hid (B4.out.step hb5); have HB35 := Lib.hid (HB3'.out.below hb5); have HB45 := Lib.hid (HB4.out.below hb5); clear hb5 HB4 HB3' B4 v0 v1 v2 v3 vf
    obtain ⟨v0, v1, v2, v3, vf⟩ := four_cells B5.out.g
    go_wp2_with fail
    refine (rsize_eq (n := L.length) (by rw [hL.out]) hc.out (by omega) (by omega) B5.out.hR).mono ?_
    rintro e w6 ⟨rfl, hb6⟩
    have B6 := Lib.hid (B5.out.step hb6)
    have ca : (convert 27 9 (.slice A3 L.length cap3)).run Try.prog w6.drew = .ok (.string (strOf L)) w6.drew := Bb.conv ((HB35.out.below hb6).below ((Below.refl _ _).drew))
    have cb : (convert 27 9 (.slice A4 L.length cap4)).run Try.prog w6.drew = .ok (.string (strOf L)) w6.drew := Bb.conv ((HB45.out.below hb6).below ((Below.refl _ _).drew))
    have C3 : Hid (∀ wi, Below w6.heap.size w6 wi → (convert 27 9 (.slice A3 L.length cap3)).run Try.prog wi = .ok (.string (strOf L)) wi) := Lib.hid fun wi hi => Bb.conv ((HB35.out.below hb6).below hi)
    have C4 : Hid (∀ wi, Below w6.heap.size w6 wi → (convert 27 9 (.slice A4 L.length cap4)).run Try.prog wi = .ok (.string (strOf L)) wi) := Lib.hid fun wi hi => Bb.conv ((HB45.out.below hb6).below hi)
    clear hb6 HB35 HB45 B5 v0 v1 v2 v3 vf
    obtain ⟨v0, v1, v2, v3, vf⟩ := four_cells B6.out.g
    have HK : Hid (∀ wi, Below w6.heap.size w6 wi → Calls Try.prog 16 #[.agg #[.int .i64 k, .int .i64 n, .string s, .slice A len cap]] wi fun e w' => (e = .returned (.int .i64 c) ∧ Below wi.heap.size wi w') ∧ Below w6.heap.size w6 w') := Lib.hid fun wi hi => by
      have := check_b (by omega) (B6.out.step hi).hR
      rw [hc.out] at this
      exact this.mono fun e w' h => ⟨h, later hi h.2⟩
    have HK' : Hid (∀ wi, Below w6.heap.size w6 wi → Calls Try.prog 17 #[.agg #[.int .i64 k, .int .i64 n, .string s, .slice A len cap]] wi fun e w' => (e = .returned (.int .i64 c) ∧ Below wi.heap.size wi w') ∧ Below w6.heap.size w6 w') := Lib.hid fun wi hi => by
      have := rcheck_b (by omega) (B6.out.step hi).hR
      rw [hc.out] at this
      exact this.mono fun e w' h => ⟨h, later hi h.2⟩
    go_wp2_with fail
    go_region_held3 (fun w' => w'.cell? ⟨w.heap.size, 0, none⟩ = some (.int .i64 k) ∧ w'.cell? ⟨w.heap.size, 1, none⟩ = some (.int .i64 n) ∧ w'.cell? ⟨w.heap.size, 2, none⟩ = some (.string s) ∧ w'.cell? ⟨w.heap.size, 3, none⟩ = some (.slice A len cap) ∧
        (convert 27 9 (.slice A3 L.length cap3)).run Try.prog w' = .ok (.string (strOf L)) w' ∧ (convert 27 9 (.slice A4 L.length cap4)).run Try.prog w' = .ok (.string (strOf L)) w')
      (first | exact ⟨v0, v1, v2, v3, ca, cb⟩ | exact ⟨u0, u1, u2, u3, C3.out _ H7.out, C4.out _ H7.out⟩ | exact ⟨t0, t1, t2, t3, C3.out _ H8.out, C4.out _ H8.out⟩)
      (first
        | (go_at_call 16; refine (HK.out _ ((Below.refl _ _).drew)).mono ?_; rintro e w7 ⟨⟨rfl, -⟩, hb7⟩; obtain ⟨u0, u1, u2, u3, uf⟩ := four_cells (B6.out.step hb7).g; have H7 := Lib.hid hb7; clear hb7 uf)
        | (go_at_call 17; refine (HK'.out _ H7.out).mono ?_; rintro e w8 ⟨⟨rfl, -⟩, hb8⟩; obtain ⟨t0, t1, t2, t3, tf⟩ := four_cells (B6.out.step hb8).g; have H8 := Lib.hid hb8; clear hb8 tf))
    all_goals
      go_wp2_with fail
      go_ret
      exact ⟨rfl, later B6.out.hb H8.out⟩

end Go.Proofs.Ytjhecmmbpmpmgaa
