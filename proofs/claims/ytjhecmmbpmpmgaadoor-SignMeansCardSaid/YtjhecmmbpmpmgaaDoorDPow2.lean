/- group's Pow by its contract. -/
import Derived.Test.YtjhecmmbpmpmgaaDoorDPow
namespace Go.Proofs.YtjhecmmbpmpmgaaDoor
open Go.RowKit Go.Lib Go.Shelf
attribute [local go_sem] Oper.semAt_some

/-- a power in the group -/
def gpow (a n : Int) : Int := ((a.toNat ^ (ex n).toNat % 2147483579 : Nat) : Int)

theorem ex_range (n : Int) : 0 ≤ ex n ∧ ex n < 1073741789 := by unfold ex; omega

set_option maxRecDepth 100000 in
set_option maxHeartbeats 1600000 in
theorem pow_any (a n : Int) (hn : -9223372036854775808 ≤ n ∧ n ≤ 9223372036854775807) (w : World) : Calls Tryd.prog 18 #[.int .i64 a, .int .i64 n] w fun e w' => e = .returned (if valid a then .tuple #[.int .i64 (gpow a n), .int .i64 0] else .tuple #[.int .i64 0, .int .i64 100]) ∧ Below w.heap.size w w' := by
  cases hv : valid a
  · have hc := fun w => Lib.hid (valid_any a w)
    rw [hv] at hc
    have HC := Lib.hid hc
    clear hc hv
    go_enter Tryd.func18, Tryd.ntmps18
    go_wp2_with (go_at_call 19; refine (HC.out _).out.mono ?_; rintro e w' ⟨rfl, rfl⟩)
    have hcell := box_cell (heap_alloc_new w (.cells #[.int .i64 0] 3))
    refine bodyPost_ret (v := .tuple #[.int .i64 0, .int .i64 100]) (by simp [results, Tryd.f18, go_sem]) rfl ⟨rfl, (Below.refl _ _).alloc (Nat.le_refl _) _⟩
  · have hc := fun w => Lib.hid (valid_any a w)
    rw [hv] at hc
    have HC := Lib.hid hc
    have hr := Lib.hid (valid_range hv)
    have hL := Lib.hid (fun w B => least_any w B n hn)
    clear hc hv
    refine (callsIn_wide (n := 5)).1 ?_
    refine callsIn_of_wp_marks Tryd.func18 rfl trivial ?_ rfl
    simp only [Tryd.ntmps18, List.size_toArray, List.length_cons, List.length_nil, Nat.reduceAdd, Nat.reduceSub, Array.replicate_succ, Array.replicate_zero, List.push_toArray, List.append_toArray, List.nil_append, List.cons_append]
    gi_wp2_with (first
      | (refine ⟨trivial, ?_⟩; gi_at_call 19; refine (callsIn_wide.2 (HC.out _).out).mono ?_; rintro e w' ⟨rfl, rfl⟩)
      | (refine ⟨trivial, ?_⟩; gi_at_call 57; refine (callsIn_wide.2 (hL.out _ _ (by simp [go_sem]))).mono ?_; rintro e w' ⟨rfl, rfl⟩)
      | (refine ⟨trivial, ?_⟩; gi_at_call 56; refine (squares_in Fence.wide _ trivial rfl a (ex n) _).mono ?_; rintro e w' ⟨rfl, rfl⟩))
    obtain ⟨A, hA⟩ : ∃ A : Nat, a = (A : Int) := ⟨a.toNat, by have := hr.out; omega⟩
    obtain ⟨E, hE⟩ : ∃ E : Nat, ex n = (E : Int) := ⟨(ex n).toNat, by have := ex_range n; omega⟩
    have hgp : Hid (gpow a n = ((powF (sqF 31 A E) : Nat) : Int)) := Lib.hid (by
      have hr := hr.out
      have he := ex_range n
      rw [powF_sq 31 A (by omega) E (by rw [show (2 : Nat) ^ 31 = 2147483648 from by decide]; omega), gpow, hA, hE]
      rfl)
    have hA2 : A < 2147483579 := by have := hr.out; omega
    have hE2 : E < 1073741789 := by have := ex_range n; omega
    have hE3 : E < 2 ^ 31 := by rw [show (2 : Nat) ^ 31 = 2147483648 from by decide]; omega
    obtain ⟨w0, hw0⟩ : ∃ w0, w0 = (((w.alloc (.cells #[.int .i64 1] 3)).alloc (.cells #[.int .i64 n] 3)).alloc (.cells #[.int .i64 a] 3)).alloc (.cells #[.int .i64 (ex n)] 3) := ⟨_, rfl⟩
    rw [← hw0]
    have hs0 : w0.heap.size = w.heap.size + 4 := by rw [hw0]; simp
    have hb0 : Below w.heap.size w w0 := by
      rw [hw0]; exact ((((Below.refl _ w).alloc (Nat.le_refl _) _).alloc (by simp) _).alloc (by simp; omega) _).alloc (by simp; omega) _
    have hC0 : w0.heap[w.heap.size]? = some (.cells #[.int .i64 1] 3 (0, 0)) := by
      rw [hw0, Below.heap_alloc _ _ _ (by simp; omega), Below.heap_alloc _ _ _ (by simp; omega), Below.heap_alloc _ _ _ (by simp), heap_alloc_new]
    have hA0 : w0.heap[w.heap.size + 2]? = some (.cells #[.int .i64 (A : Int)] 3 (0, 0)) := by
      rw [hw0, Below.heap_alloc _ _ _ (by simp), show w.heap.size + 2 = ((w.alloc (.cells #[.int .i64 1] 3)).alloc (.cells #[.int .i64 n] 3)).heap.size from by simp, heap_alloc_new, hA]
    have hN0 : w0.heap[w.heap.size + 2 + 1]? = some (.cells #[.int .i64 (E : Int)] 3 (0, 0)) := by
      rw [hw0, show w.heap.size + 2 + 1 = (((w.alloc (.cells #[.int .i64 1] 3)).alloc (.cells #[.int .i64 n] 3)).alloc (.cells #[.int .i64 a] 3)).heap.size from by simp, heap_alloc_new, hE]
    have HAe := Lib.hid hA
    have HEe := Lib.hid hE
    clear hw0 hA hE
    refine range_boxes rfl (by omega) (gf := 77) (lb := #[.pointer (some ⟨w.heap.size + 2 + 1, 0, none⟩), .pointer (some ⟨w.heap.size + 2, 0, none⟩)]) rfl trivial (enters_of Tryd.func77 (by kernel_rfl) rfl)
      (B := w.heap.size + 2) (by omega) (squares_gives Fence.wide _ trivial rfl (by omega) (w.heap.size + 2) 31 A hA2 E hE3 hE2 w0 hA0 hN0) (fun _ => rfl)
      (fun pre W => W.heap[w.heap.size]? = some (.cells #[.int .i64 (powF pre : Nat)] 3 (0, 0)) ∧ Below w.heap.size w W)
      (fun s W W' row h hg hr => ⟨(hg.block _ (Array.getElem?_eq_some_iff.1 h.1).1 (fun e => by obtain ⟨h1, _⟩ := hr _ e.symm; omega)).trans h.1, h.2.grown hg h.2.size (fun k e => by obtain ⟨h1, _⟩ := hr _ e; omega)⟩)
      (fun s W o v ho h => ⟨(Below.heap_setCell _ _ _ _ (show w.heap.size ≠ o by omega)).trans h.1, h.2.setCell (p := ⟨o, 0, none⟩) (show w.heap.size ≤ o by omega) _⟩)
      ⟨hC0, hb0⟩
      (fun x => { tmps := #[.int .i64 a, .int .i64 n, undef, undef, .pointer (some ⟨w.heap.size, 0, none⟩), .int .i64 0, .int .i64 (x.v : Int), .bool x.b, .int .i64 a, .bool true, .bool false, .int .i64 a, .int .i64 n, .slice (some ⟨w.heap.size + 1, 0, none⟩) 1 1, .int .i64 (ex n), .func (.func 77) #[] #[.pointer (some ⟨w.heap.size + 2 + 1, 0, none⟩), .pointer (some ⟨w.heap.size + 2, 0, none⟩)], .int .i64 (x.v : Int), .bool x.b, undef, undef, undef, undef, undef, undef], defers := [] }) ?assign ?body ?done
    case assign =>
      intro l x W K hK
      gi_wp2
      exact hK
    case body =>
      rintro l pre x W ⟨hc, hB⟩ _
      have cC := box_cell hc
      have fC : W.frozen? ⟨w.heap.size, 0, none⟩ = false := frozen_at hc
      have hlt := powF_lt pre
      have hx := x.lt
      obtain ⟨c, hcd⟩ : ∃ c, Hid (c = powF pre) := ⟨_, Lib.hid rfl⟩
      rw [← hcd.out] at hc cC hlt
      obtain ⟨sv, hsv⟩ : ∃ v, v = x.v := ⟨_, rfl⟩
      rw [← hsv] at hx ⊢
      cases hb : x.b
      · have hp : Hid (powF (pre ++ [x]) = c) := Lib.hid (by rw [powF_snoc, powStep, hb, hcd.out]; rfl)
        clear hsv
        gi_wp2
        exact ⟨KeepsOthers.refl _, ⟨rfl, rfl⟩, by rw [hp.out]; exact hc, hB⟩
      · obtain ⟨m, hm⟩ : ∃ m, m = c * sv := ⟨_, rfl⟩
        have hbd := mul_bound (show 0 ≤ (c : Int) ∧ (c : Int) < 2147483579 from by omega) (show 0 ≤ (sv : Int) ∧ (sv : Int) < 2147483579 from by omega)
        have hp : Hid (powF (pre ++ [x]) = m % 2147483579) := Lib.hid (by rw [powF_snoc, powStep, hb, hm, hcd.out, hsv]; rfl)
        have hw : IntKind.i64.wrap ((c : Int) * (sv : Int)) = (m : Int) := by rw [IntWalk.i64_in _ (by omega), hm]; simp
        clear hsv hm hbd
        gi_wp2
        refine ⟨KeepsOthers.setCell _ _ _, ⟨Below.heap_setCell _ _ _ _ (show w.heap.size + 2 ≠ w.heap.size by omega), Below.heap_setCell _ _ _ _ (show w.heap.size + 2 + 1 ≠ w.heap.size by omega)⟩, ?_, hB.setCell (p := ⟨w.heap.size, 0, none⟩) (Nat.le_refl _) _⟩
        rw [d_setCell_heap hc, hp.out]
        simp
    case done =>
      rintro D xs W hD rfl ⟨hc, hB⟩ hK
      have cC := box_cell hc
      have fC : W.frozen? ⟨w.heap.size, 0, none⟩ = false := frozen_at hc
      obtain ⟨r, hrd⟩ : ∃ r, Hid (r = powF (sqF 31 A E)) := ⟨_, Lib.hid rfl⟩
      rw [← hrd.out] at cC
      rw [← hrd.out] at hgp
      gi_wp2
      have hK' := (KeepsOthers.setCell W ⟨w.heap.size, 0, none⟩ (.int .i64 (r : Int))).same D _ hK rfl
      refine ⟨by simp, .inl ⟨_, _, rfl, run_takeDeferred hK', ?_⟩⟩
      have hc5 := cell_kept (World.cell?_setCell_same' W ⟨w.heap.size, 0, none⟩ (.int .i64 (r : Int)) (by rw [cC]; rfl)) (grownBy_putObj' _ D (.deferred none)) (fun r e => by cases e; exact ⟨_, hK', rfl⟩)
      refine ⟨.tuple #[.int .i64 (r : Int), .int .i64 0], ?_, by rw [hgp.out], (hB.setCell (p := ⟨w.heap.size, 0, none⟩) (Nat.le_refl _) _).trans (belowK_b (w := w) (Nat.le_refl _) _ D _ _ (by omega) hK' rfl rfl)⟩
      simp [results, Tryd.f18, go_sem, hc5]

end Go.Proofs.YtjhecmmbpmpmgaaDoor
