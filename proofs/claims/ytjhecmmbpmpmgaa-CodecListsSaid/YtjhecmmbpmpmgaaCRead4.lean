/- codec's reader by its contracts: value. -/
import Derived.Test.YtjhecmmbpmpmgaaCRead3
namespace Go.Proofs.Ytjhecmmbpmpmgaa
open Go.RowKit Go.Lib

theorem Try.infoValue : (Try.prog.info? 24).map (fun i => (i.zero, i.size, i.bytes)) = some (some (.agg #[.int .i64 0, .int .i64 0, .string ByteArray.empty, .slice none 0 0]), 4, 56) := by kernel_rfl

theorem Try.sizeValue : (Try.prog.info? 24).map (·.size) = some 4 := by kernel_rfl

def ValuePost (R D : Nat) (w : World) (x : Option (V × List UInt8)) (e : Ending) (w' : World) : Prop :=
  w.grownBy w' (some R) ∧ match x with | none => e = .panicked errChain | some (x, l) => ∃ v, e = .returned v ∧ Rst w' R D l ∧ Rd w' (fun b => w.heap.size ≤ b) x v

/-- a value without elements -/
theorem Rd.leaf (w : World) (S : Nat → Prop) (k n : Int) (s : ByteArray) (hk : Ok k) (hn : Ok n) (hs : s.size ≤ 9223372036854775807) :
    Rd w S (.mk k n s []) (.agg #[.int .i64 k, .int .i64 n, .string s, .slice none 0 0]) :=
  .mk (l := []) (A := none) (cap := 0) (fun _ => undef) hk hn hs (by simp) (by omega) (fun h => absurd h (by simp)) (fun i b off h => absurd h (by simp)) (fun i h => absurd h (by simp))

set_option maxRecDepth 100000 in
set_option maxHeartbeats 800000 in
theorem value_end (R D d : Nat) (w : World) (h : Rst w R D []) : Calls Try.prog 32 #[.pointer (some ⟨R, 0, none⟩), .int .i64 d] w (ValuePost R D w none) := by
  have HT : Hid (∀ w0, Below w.heap.size w w0 → Calls Try.prog 44 #[.pointer (some ⟨R, 0, none⟩), .int .i64 1] w0 fun e w' => e = .panicked errChain ∧ w' = w0) := Lib.hid fun w0 h0 => take_empty R D w0 (h.below h0)
  clear h
  go_enter Try.func32, Try.ntmps32
  go_wp2_with fail
  refine (HT.out _ (below1 _)).mono ?_
  rintro e w1 ⟨rfl, rfl⟩
  exact ⟨rfl, grown_below (below1 _), rfl⟩

theorem setCell_heap {w : World} {R o : Nat} {cs : Array Value} {y : Value} {t : TypeId} {fr : Nat × Nat} (hR : w.heap[R]? = some (.cells cs t fr)) : (w.setCell ⟨R, o, none⟩ y).heap[R]? = some (.cells (cs.setIfInBounds o y) t fr) := by
  simp [World.setCell, Array.getElem?_modify, hR]

theorem grown_setCell' (w : World) (R o : Nat) (y : Value) : w.grownBy (w.setCell ⟨R, o, none⟩ y) (some R) :=
  ⟨rfl, rfl, rfl, by simp [World.setCell], fun k _ hk => Below.heap_setCell _ _ _ _ (fun e => hk (by rw [e]))⟩

/-- a store into a block of the call's own -/
theorem grown_own {w w1 : World} {R X o : Nat} {y : Value} (hg : w.grownBy w1 (some R)) (hX : w.heap.size ≤ X) : w.grownBy (w1.setCell ⟨X, o, none⟩ y) (some R) :=
  ⟨hg.os, hg.tape, hg.output, by simpa [World.setCell] using hg.size, fun k hk hne => (Below.heap_setCell _ _ _ _ (by show k ≠ X; omega)).trans (hg.block k hk hne)⟩

/-- the first byte, taken: the world behind -/
structure Begun (R D : Nat) (w : World) (k : Int) (r : List UInt8) (w2 : World) : Prop where
  g : w.grownBy w2 (some R)
  v : w2.heap[w.heap.size]? = some (.cells #[.int .i64 k, .int .i64 0, .string ByteArray.empty, .slice none 0 0] 24 (0, 0))
  r : Rst w2 R D r

theorem Begun.mk' {R D : Nat} {w w1 : World} {r : List UInt8} (hR : R < w.heap.size) (hD : D < w.heap.size) (hr : Rst w1 R D r)
    (hg : (w.alloc (.cells #[.int .i64 0, .int .i64 0, .string ByteArray.empty, .slice none 0 0] 24)).grownBy w1 (some R)) (k : Int) :
    Begun R D w k r (w1.setCell ⟨w.heap.size, 0, none⟩ (.int .i64 k)) := by
  have hV : w1.heap[w.heap.size]? = some (.cells #[.int .i64 0, .int .i64 0, .string ByteArray.empty, .slice none 0 0] 24 (0, 0)) := by
    rw [hg.block _ (by simp) (by intro e; injection e with e; omega)]; exact heap_alloc_new _ _
  refine ⟨grown_own (grown_trans (grown_below (below1 _)) hg) (Nat.le_refl _), setCell_heap hV, ?_⟩
  exact hr.grown (grown_setCell' _ _ _ _) (by omega) (by omega)

/-- a store, then the whole struct written over itself, in a block of the call's own -/
theorem four_out {w w' : World} {R D X o : Nat} {x0 x1 x2 x3 c0 c1 c2 c3 y : Value} {r : List UInt8} (hg : w.grownBy w' (some R)) (hX : w.heap.size ≤ X) (hr : Rst w' R D r) (hR : R ≠ X) (hD : D ≠ X)
    (h : w'.heap[X]? = some (.cells #[x0, x1, x2, x3] 24 (0, 0))) :
    w.grownBy (((((w'.setCell ⟨X, o, none⟩ y).setCell ⟨X, 0, none⟩ c0).setCell ⟨X, 1, none⟩ c1).setCell ⟨X, 2, none⟩ c2).setCell ⟨X, 3, none⟩ c3) (some R) ∧
    Rst (((((w'.setCell ⟨X, o, none⟩ y).setCell ⟨X, 0, none⟩ c0).setCell ⟨X, 1, none⟩ c1).setCell ⟨X, 2, none⟩ c2).setCell ⟨X, 3, none⟩ c3) R D r ∧
    (((((w'.setCell ⟨X, o, none⟩ y).setCell ⟨X, 0, none⟩ c0).setCell ⟨X, 1, none⟩ c1).setCell ⟨X, 2, none⟩ c2).setCell ⟨X, 3, none⟩ c3).heap[X]? = some (.cells #[c0, c1, c2, c3] 24 (0, 0)) := by
  refine ⟨grown_own (grown_own (grown_own (grown_own (grown_own hg hX) hX) hX) hX) hX, ((((hr.grown (grown_setCell' _ _ _ _) hD hR).grown (grown_setCell' _ _ _ _) hD hR).grown (grown_setCell' _ _ _ _) hD hR).grown (grown_setCell' _ _ _ _) hD hR).grown (grown_setCell' _ _ _ _) hD hR, ?_⟩
  have e1 := setCell_heap (o := o) (y := y) h
  have e2 : ∃ z0 z1 z2 z3, (#[x0, x1, x2, x3] : Array Value).setIfInBounds o y = #[z0, z1, z2, z3] := by
    match o with
    | 0 => exact ⟨_, _, _, _, rfl⟩
    | 1 => exact ⟨_, _, _, _, rfl⟩
    | 2 => exact ⟨_, _, _, _, rfl⟩
    | 3 => exact ⟨_, _, _, _, rfl⟩
    | o + 4 => exact ⟨x0, x1, x2, x3, by simp [Array.setIfInBounds]⟩
  obtain ⟨z0, z1, z2, z3, e2⟩ := e2
  rw [e2] at e1
  rw [setCell_heap (setCell_heap (setCell_heap (setCell_heap e1)))]
  rfl

theorem four_out4 {w w' : World} {R D X : Nat} {x0 x1 x2 x3 c0 c1 c2 c3 : Value} {r : List UInt8} (hg : w.grownBy w' (some R)) (hX : w.heap.size ≤ X) (hr : Rst w' R D r) (hR : R ≠ X) (hD : D ≠ X)
    (h : w'.heap[X]? = some (.cells #[x0, x1, x2, x3] 24 (0, 0))) :
    w.grownBy ((((w'.setCell ⟨X, 0, none⟩ c0).setCell ⟨X, 1, none⟩ c1).setCell ⟨X, 2, none⟩ c2).setCell ⟨X, 3, none⟩ c3) (some R) ∧
    Rst ((((w'.setCell ⟨X, 0, none⟩ c0).setCell ⟨X, 1, none⟩ c1).setCell ⟨X, 2, none⟩ c2).setCell ⟨X, 3, none⟩ c3) R D r ∧
    ((((w'.setCell ⟨X, 0, none⟩ c0).setCell ⟨X, 1, none⟩ c1).setCell ⟨X, 2, none⟩ c2).setCell ⟨X, 3, none⟩ c3).heap[X]? = some (.cells #[c0, c1, c2, c3] 24 (0, 0)) := by
  refine ⟨grown_own (grown_own (grown_own (grown_own hg hX) hX) hX) hX, (((hr.grown (grown_setCell' _ _ _ _) hD hR).grown (grown_setCell' _ _ _ _) hD hR).grown (grown_setCell' _ _ _ _) hD hR).grown (grown_setCell' _ _ _ _) hD hR, ?_⟩
  rw [setCell_heap (setCell_heap (setCell_heap (setCell_heap h)))]
  rfl

theorem ret_cells {P : Program} {fn : Func} {p : Tmp} {ty : TypeId} (h : fn.results = #[.cell p ty]) (tmps : Array Value) (w : World) (g : Nat) (t : TypeId) (cs : Array Value) (fr : Nat × Nat) (d : TypeDesc)
    (hp : tmps.getD p undef = .pointer (some ⟨g, 0, none⟩)) (hg : w.heap[g]? = some (.cells cs t fr))
    (hu : P.underlying ty = some d) (hd : (match d with | .struct _ | .array _ _ => true | _ => false) = true) (hi : (P.info? ty).map (·.size) = some cs.size) :
    (results fn tmps).run P w = .ok (.agg cs) w := results_cell_row h tmps w g t cs fr d hp hg hu hd hi

set_option maxRecDepth 100000 in
set_option maxHeartbeats 800000 in
theorem value_int (R D d : Nat) (c : UInt8) (r : List UInt8) (w : World) (h : Rst w R D (c :: r)) (hc : c.toNat = 1) :
    Calls Try.prog 32 #[.pointer (some ⟨R, 0, none⟩), .int .i64 d] w (ValuePost R D w ((rn 0 0 r).map fun x => (.mk 1 (sgn x.1) ByteArray.empty [], x.2))) := by
  have HT : Hid (∀ w0, Below w.heap.size w w0 → Calls Try.prog 44 #[.pointer (some ⟨R, 0, none⟩), .int .i64 1] w0 fun e w' => ∃ off, e = .returned (.slice (some ⟨D, off, none⟩) 1 1) ∧
      w'.cell? ⟨D, off, none⟩ = some (.int .u8 (c.toNat : Int)) ∧ Rst w' R D r ∧ w0.grownBy w' (some R)) := Lib.hid fun w0 h0 => take_one R D c r w0 (h.below h0)
  have hRs : R < w.heap.size ∧ D < w.heap.size := by obtain ⟨off, cap, h1, _, _, _, h5, _⟩ := h; exact ⟨(Array.getElem?_eq_some_iff.1 h1).1, h5⟩
  rw [hc] at HT
  clear h
  go_enter Try.func32, Try.ntmps32
  go_wp2_with fail
  refine (HT.out _ (below1 _)).mono ?_
  rintro e w1 ⟨off, rfl, hb, hr, hg⟩
  have HB := Lib.hid (Begun.mk' hRs.1 hRs.2 hr hg 1)
  have v0 : w1.cell? ⟨w.heap.size, 0, none⟩ = some (.int .i64 0) := by
    rw [World.cell?_of_block (w := w.alloc _) (a := ⟨w.heap.size, 0, none⟩) (hg.block _ (by simp) (by intro e; simp at e; omega)), World.cell?_alloc_at _ _ _ _ rfl]; rfl
  have f0 : w1.frozen? ⟨w.heap.size, 0, none⟩ = false := by
    rw [World.frozen?_of_block (w := w.alloc _) (a := ⟨w.heap.size, 0, none⟩) (hg.block _ (by simp) (by intro e; simp at e; omega))]; exact World.frozen?_alloc_at _ _ _ _ rfl
  clear hr hg
  go_wp2_with fail
  generalize w1.setCell ⟨w.heap.size, 0, none⟩ (.int .i64 1) = w2 at *
  clear v0 f0 hb
  obtain ⟨b1, b2, b3⟩ := HB.out
  clear HB
  refine (number_any R D r w2 b3).mono ?_
  rintro e w3 ⟨hg3, he⟩
  cases hx : rn 0 0 r with
  | none =>
    rw [hx] at he
    simp only at he
    subst he
    exact ⟨rfl, grown_trans b1 hg3, by rw [hx]; rfl⟩
  | some ul =>
    obtain ⟨u, l⟩ := ul
    rw [hx] at he
    obtain ⟨he, hr3, hu⟩ := he
    subst he
    have V3 : w3.heap[w.heap.size]? = some (.cells #[.int .i64 1, .int .i64 0, .string ByteArray.empty, .slice none 0 0] 24 (0, 0)) := by
      rw [hg3.block _ (Array.getElem?_eq_some_iff.1 b2).1 (by intro e; injection e with e; omega)]; exact b2
    have v0 : w3.cell? ⟨w.heap.size, 0, none⟩ = some (.int .i64 1) := by rw [cell_of_row w3 _ 0 _ _ _ V3]; rfl
    have v1 : w3.cell? ⟨w.heap.size, 1, none⟩ = some (.int .i64 0) := by rw [cell_of_row w3 _ 1 _ _ _ V3]; rfl
    have v2 : w3.cell? ⟨w.heap.size, 2, none⟩ = some (.string ByteArray.empty) := by rw [cell_of_row w3 _ 2 _ _ _ V3]; rfl
    have v3 : w3.cell? ⟨w.heap.size, 3, none⟩ = some (.slice none 0 0) := by rw [cell_of_row w3 _ 3 _ _ _ V3]; rfl
    have f1 : ∀ o, w3.frozen? ⟨w.heap.size, o, none⟩ = false := fun o => by simp [World.frozen?, V3]
    have HU := Lib.hid hu; have HR3 := Lib.hid hr3; have HV3 := Lib.hid V3; have HX := Lib.hid hx
    clear hu hr3 V3 b2 b3 hx
    go_wp2_with (go_at_call 45; refine (signed_any u _ (by omega) (by have := HU.out; omega)).mono ?_; rintro e w' ⟨rfl, rfl⟩)
    obtain ⟨g5, r5, h5⟩ := four_out (o := 1) (y := .int .i64 (sgn u)) (c0 := .int .i64 1) (c1 := .int .i64 (sgn u)) (c2 := .string ByteArray.empty) (c3 := .slice none 0 0) (grown_trans b1 hg3) (Nat.le_refl _) HR3.out (by omega) (by omega) HV3.out
    refine bodyPost_ret (ret_cells (t := 24) rfl _ _ _ _ _ _ rfl h5 Try.underlying24 rfl Try.sizeValue) rfl ?_
    exact ⟨g5, by rw [HX.out]; exact ⟨_, rfl, r5, Rd.leaf _ _ _ _ _ ⟨by omega, by omega⟩ (sgn_ok u HU.out) (by decide)⟩⟩


set_option maxRecDepth 100000 in
set_option maxHeartbeats 800000 in
theorem value_text (R D d : Nat) (c : UInt8) (r : List UInt8) (w : World) (h : Rst w R D (c :: r)) (hc : c.toNat = 2) :
    Calls Try.prog 32 #[.pointer (some ⟨R, 0, none⟩), .int .i64 d] w (ValuePost R D w ((rlen r).map fun x => (.mk 2 0 (strOf (x.2.take x.1)) [], x.2.drop x.1))) := by
  have HT : Hid (∀ w0, Below w.heap.size w w0 → Calls Try.prog 44 #[.pointer (some ⟨R, 0, none⟩), .int .i64 1] w0 fun e w' => ∃ off, e = .returned (.slice (some ⟨D, off, none⟩) 1 1) ∧
      w'.cell? ⟨D, off, none⟩ = some (.int .u8 (c.toNat : Int)) ∧ Rst w' R D r ∧ w0.grownBy w' (some R)) := Lib.hid fun w0 h0 => take_one R D c r w0 (h.below h0)
  have hRs : R < w.heap.size ∧ D < w.heap.size := by obtain ⟨off, cap, h1, _, _, _, h5, _⟩ := h; exact ⟨(Array.getElem?_eq_some_iff.1 h1).1, h5⟩
  rw [hc] at HT
  clear h
  go_enter Try.func32, Try.ntmps32
  go_wp2_with fail
  refine (HT.out _ (below1 _)).mono ?_
  rintro e w1 ⟨off, rfl, hb, hr, hg⟩
  have HB := Lib.hid (Begun.mk' hRs.1 hRs.2 hr hg 2)
  have v0 : w1.cell? ⟨w.heap.size, 0, none⟩ = some (.int .i64 0) := by
    rw [World.cell?_of_block (w := w.alloc _) (a := ⟨w.heap.size, 0, none⟩) (hg.block _ (by simp) (by intro e; simp at e; omega)), World.cell?_alloc_at _ _ _ _ rfl]; rfl
  have f0 : w1.frozen? ⟨w.heap.size, 0, none⟩ = false := by
    rw [World.frozen?_of_block (w := w.alloc _) (a := ⟨w.heap.size, 0, none⟩) (hg.block _ (by simp) (by intro e; simp at e; omega))]; exact World.frozen?_alloc_at _ _ _ _ rfl
  clear hr hg
  go_wp2_with fail
  generalize w1.setCell ⟨w.heap.size, 0, none⟩ (.int .i64 2) = w2 at *
  clear v0 f0 hb
  obtain ⟨b1, b2, b3⟩ := HB.out
  clear HB
  refine (length_any R D r w2 b3).mono ?_
  rintro e w3 ⟨hg3, he⟩
  cases hx : rlen r with
  | none =>
    rw [hx] at he
    simp only at he
    subst he
    exact ⟨rfl, grown_trans b1 hg3, by rw [hx]; rfl⟩
  | some ul =>
    obtain ⟨n, l⟩ := ul
    rw [hx] at he
    obtain ⟨he, hr3, hn⟩ := he
    subst he
    have HT4 : Hid (Calls Try.prog 44 #[.pointer (some ⟨R, 0, none⟩), .int .i64 n] w3 fun e w' => ∃ off, e = .returned (.slice (some ⟨D, off, none⟩) n n) ∧
      (∀ i (h : i < n), w'.cell? ⟨D, off + i, none⟩ = some (.int .u8 ((l[i]'(by omega)).toNat : Int))) ∧ Rst w' R D (l.drop n) ∧ w3.grownBy w' (some R)) := Lib.hid (take_n R D n l w3 hr3 hn)
    have V3 : w3.heap[w.heap.size]? = some (.cells #[.int .i64 2, .int .i64 0, .string ByteArray.empty, .slice none 0 0] 24 (0, 0)) := by
      rw [hg3.block _ (Array.getElem?_eq_some_iff.1 b2).1 (by intro e; injection e with e; omega)]; exact b2
    have hl3 : l.length ≤ 9223372036854775807 := by obtain ⟨_, _, _, hh⟩ := hr3.cellAt; exact hh
    have HX := Lib.hid hx
    clear hr3 b3 hx
    go_wp2_with fail
    refine HT4.out.mono ?_
    rintro e w4 ⟨off4, rfl, hcs, hr4, hg4⟩
    have V4 : w4.heap[w.heap.size]? = some (.cells #[.int .i64 2, .int .i64 0, .string ByteArray.empty, .slice none 0 0] 24 (0, 0)) := by
      rw [hg4.block _ (Array.getElem?_eq_some_iff.1 V3).1 (by intro e; injection e with e; omega)]; exact V3
    have hcv := conv_take (w := w4) (b := D) (off := off4) (n := n) (l := l.take n) (by simp; omega) n (fun i hi => by rw [hcs i (by simp at hi; omega), List.getElem_take])
    have v0 : w4.cell? ⟨w.heap.size, 0, none⟩ = some (.int .i64 2) := by rw [cell_of_row w4 _ 0 _ _ _ V4]; rfl
    have v1 : w4.cell? ⟨w.heap.size, 1, none⟩ = some (.int .i64 0) := by rw [cell_of_row w4 _ 1 _ _ _ V4]; rfl
    have v2 : w4.cell? ⟨w.heap.size, 2, none⟩ = some (.string ByteArray.empty) := by rw [cell_of_row w4 _ 2 _ _ _ V4]; rfl
    have v3 : w4.cell? ⟨w.heap.size, 3, none⟩ = some (.slice none 0 0) := by rw [cell_of_row w4 _ 3 _ _ _ V4]; rfl
    have f1 : ∀ o, w4.frozen? ⟨w.heap.size, o, none⟩ = false := fun o => by simp [World.frozen?, V4]
    have HR4 := Lib.hid hr4; have HV4 := Lib.hid V4
    clear V3 V4 b2 hcs hr4
    go_wp2_with fail
    obtain ⟨g5, r5, h5⟩ := four_out (o := 2) (y := .string (strOf (l.take n))) (c0 := .int .i64 2) (c1 := .int .i64 0) (c2 := .string (strOf (l.take n))) (c3 := .slice none 0 0) (grown_trans (grown_trans b1 hg3) hg4) (Nat.le_refl _) HR4.out (by omega) (by omega) HV4.out
    refine bodyPost_ret (ret_cells (t := 24) rfl _ _ _ _ _ _ rfl h5 Try.underlying24 rfl Try.sizeValue) rfl ?_
    exact ⟨g5, by rw [HX.out]; exact ⟨_, rfl, r5, Rd.leaf _ _ _ _ _ ⟨by omega, by omega⟩ ⟨by omega, by omega⟩ (by show (l.take n).toArray.size ≤ _; simp; omega)⟩⟩

set_option maxRecDepth 100000 in
set_option maxHeartbeats 800000 in
theorem value_bad (R D d : Nat) (c : UInt8) (r : List UInt8) (w : World) (h : Rst w R D (c :: r)) (hc : ¬ (1 ≤ c.toNat ∧ c.toNat ≤ 3)) :
    Calls Try.prog 32 #[.pointer (some ⟨R, 0, none⟩), .int .i64 d] w (ValuePost R D w none) := by
  have q1 : ((c.toNat : Int) == 1) = false := by simp; omega
  have q2 : ((c.toNat : Int) == 2) = false := by simp; omega
  have q3 : ((c.toNat : Int) == 3) = false := by simp; omega
  have hc256 : c.toNat < 256 := c.toNat_lt
  have HT : Hid (∀ w0, Below w.heap.size w w0 → Calls Try.prog 44 #[.pointer (some ⟨R, 0, none⟩), .int .i64 1] w0 fun e w' => ∃ off, e = .returned (.slice (some ⟨D, off, none⟩) 1 1) ∧
      w'.cell? ⟨D, off, none⟩ = some (.int .u8 (c.toNat : Int)) ∧ Rst w' R D r ∧ w0.grownBy w' (some R)) := Lib.hid fun w0 h0 => take_one R D c r w0 (h.below h0)
  have hRs : R < w.heap.size ∧ D < w.heap.size := by obtain ⟨off, cap, h1, _, _, _, h5, _⟩ := h; exact ⟨(Array.getElem?_eq_some_iff.1 h1).1, h5⟩
  clear h
  go_enter Try.func32, Try.ntmps32
  go_wp2_with fail
  refine (HT.out _ (below1 _)).mono ?_
  rintro e w1 ⟨off, rfl, hb, hr, hg⟩
  have HB := Lib.hid (Begun.mk' hRs.1 hRs.2 hr hg c.toNat)
  have v0 : w1.cell? ⟨w.heap.size, 0, none⟩ = some (.int .i64 0) := by
    rw [World.cell?_of_block (w := w.alloc _) (a := ⟨w.heap.size, 0, none⟩) (hg.block _ (by simp) (by intro e; simp at e; omega)), World.cell?_alloc_at _ _ _ _ rfl]; rfl
  have f0 : w1.frozen? ⟨w.heap.size, 0, none⟩ = false := by
    rw [World.frozen?_of_block (w := w.alloc _) (a := ⟨w.heap.size, 0, none⟩) (hg.block _ (by simp) (by intro e; simp at e; omega))]; exact World.frozen?_alloc_at _ _ _ _ rfl
  clear hr hg
  go_wp2_with (go_at_call 33; refine (want_no _ _).mono ?_; rintro e w' ⟨rfl, rfl⟩)
  exact ⟨rfl, HB.out.g, rfl⟩

end Go.Proofs.Ytjhecmmbpmpmgaa
