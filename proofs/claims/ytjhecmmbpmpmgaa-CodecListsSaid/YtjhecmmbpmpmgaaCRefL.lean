/- signatoryref01's Reader: what a list that is being read looks like in memory. -/
import Derived.Test.YtjhecmmbpmpmgaaCRefK
namespace Go.Proofs.Ytjhecmmbpmpmgaa
open Go.RowKit Go.Lib

structure RListed (R : Nat) (S : Nat → Prop) (B : List UInt8) (A : Option Addr) (cap X Y n : Nat) (r1 : List UInt8) (f : List UInt8 → Option (V × List UInt8)) (w : World) (k : Nat) (row : Value) (wr : World) (j : Nat) (vs : List Value) (xs : List V) : Prop where
  own : wr.ownsRow 0 24 4 row k (flat vs)
  rb : RB wr R S B A cap j false
  v : wr.heap[Y]? = some (.cells #[.int .i64 3, .int .i64 0, .string ByteArray.empty, row] 24 (0, 0))
  x : wr.heap[X]? = some (.cells #[.int .i64 0, .int .i64 0, .string ByteArray.empty, .slice none 0 0] 24 (0, 0))
  lx : xs.length = k
  lv : vs.length = k
  rd : ∀ i (h : i < k), Rd wr (fun b => Y < b ∧ b < wr.heap.size ∧ some b ≠ row.ownBlock) (xs[i]'(by omega)) (vs[i]'(by omega))
  eq : decS f n r1 = (decS f (n - k) (B.drop j)).map fun y => (xs ++ y.1, y.2)
  g : w.grownBy wr (some R)
  new : ∀ b, row.ownBlock = some b → Y < b

/-- behind an element that is none: the flag is set -/
structure RBad (R : Nat) (S : Nat → Prop) (B : List UInt8) (A : Option Addr) (cap X Y : Nat) (w : World) (row : Value) (wr : World) (j : Nat) : Prop where
  rb : RB wr R S B A cap j true
  v : wr.heap[Y]? = some (.cells #[.int .i64 3, .int .i64 0, .string ByteArray.empty, row] 24 (0, 0))
  x : wr.heap[X]? = some (.cells #[.int .i64 0, .int .i64 0, .string ByteArray.empty, .slice none 0 0] 24 (0, 0))
  g : w.grownBy wr (some R)
  sl : ∃ a l c, row = .slice a l c

section
variable {R : Nat} {S : Nat → Prop} {B : List UInt8} {A : Option Addr} {cap X Y n k j : Nat} {r1 : List UInt8} {f : List UInt8 → Option (V × List UInt8)} {w wr w4 : World} {row : Value} {vs : List Value} {xs : List V}

theorem RListed.own4 (h : RListed R S B A cap X Y n r1 f w k row wr j vs xs) (hR : R < Y) (hg : wr.drew.grownBy w4 (some R)) : w4.ownsRow 0 24 4 row k (flat vs) := by
  refine (h.own.kept (World.grownBy.mk rfl rfl rfl (Nat.le_refl _) (fun _ _ _ => rfl) : wr.grownBy wr.drew none) ?_).kept hg ?_
  · cases hq : row.ownBlock <;> simp
  · cases hq : row.ownBlock with
    | none => simp
    | some b => right; intro e; injection e with e; have := h.new b hq; omega
theorem RListed.block4 (h : RListed R S B A cap X Y n r1 f w k row wr j vs xs) (hR : R < Y) (hg : wr.drew.grownBy w4 (some R)) : w4.heap[Y]? = some (.cells #[.int .i64 3, .int .i64 0, .string ByteArray.empty, row] 24 (0, 0)) := by
  rw [hg.block Y (Array.getElem?_eq_some_iff.1 h.v).1 (by intro e; injection e with e; omega)]; exact h.v
theorem RListed.blockX (h : RListed R S B A cap X Y n r1 f w k row wr j vs xs) (hR : R < X) (hg : wr.drew.grownBy w4 (some R)) : w4.heap[X]? = some (.cells #[.int .i64 0, .int .i64 0, .string ByteArray.empty, .slice none 0 0] 24 (0, 0)) := by
  rw [hg.block X (Array.getElem?_eq_some_iff.1 h.x).1 (by intro e; injection e with e; omega)]; exact h.x
theorem RListed.cell4 (h : RListed R S B A cap X Y n r1 f w k row wr j vs xs) (hR : R < Y) (hg : wr.drew.grownBy w4 (some R)) : w4.cell? ⟨Y, 3, none⟩ = some row := by
  rw [cell_of_row w4 _ 3 _ _ _ (h.block4 hR hg)]; rfl
theorem RListed.cell4a (h : RListed R S B A cap X Y n r1 f w k row wr j vs xs) (hR : R < Y) (hg : wr.drew.grownBy w4 (some R)) (o : Obj) : (w4.alloc o).cell? ⟨Y, 3, none⟩ = some row := by
  have h4 := h.block4 hR hg
  rw [World.cell?_alloc_past _ _ _ (Array.getElem?_eq_some_iff.1 h4).1, cell_of_row w4 _ 3 _ _ _ h4]; rfl
theorem RListed.frozen5 (h : RListed R S B A cap X Y n r1 f w k row wr j vs xs) (hR : R < Y) (hg : wr.drew.grownBy w4 (some R)) {o : Obj} : ∀ (row5 : Value) (w5 : World), Wr (w4.alloc o) row w5 row5 → w5.cell? ⟨Y, 3, none⟩ = some row ∧ w5.frozen? ⟨Y, 3, none⟩ = false := by
  intro row5 w5 hw
  have h4 := h.block4 hR hg
  have hX : Y < w4.heap.size := (Array.getElem?_eq_some_iff.1 h4).1
  have h5 : w5.heap[Y]? = some (.cells #[.int .i64 3, .int .i64 0, .string ByteArray.empty, row] 24 (0, 0)) := by
    rw [hw.grown.block Y (by simp; omega) (by intro e; have := h.new Y e.symm; omega), Below.heap_alloc w4 o Y hX]; exact h4
  exact ⟨by rw [cell_of_row w5 _ 3 _ _ _ h5]; rfl, by simp [World.frozen?, h5]⟩

/-- what an append to the list's row and the store of it leave of the rest -/
structure Stored (Y : Nat) (row row5 : Value) (w4 w6 : World) : Prop where
  size : w4.heap.size < w6.heap.size
  block : ∀ b, b < w4.heap.size → b ≠ Y → some b ≠ row.ownBlock → w6.heap[b]? = w4.heap[b]?
  os : w6.os = w4.os
  tape : w6.tape = w4.tape
  output : w6.output = w4.output
  own : ∀ b, b < w4.heap.size → some b ≠ row.ownBlock → some b ≠ row5.ownBlock
  new : (∀ b, row.ownBlock = some b → Y < b) → ∀ b, row5.ownBlock = some b → Y < b

theorem Stored.of {w5 : World} {row5 : Value} {o : Obj} (hY : Y < w4.heap.size) (hw : Wr (w4.alloc o) row w5 row5) : Stored Y row row5 w4 (w5.setCell ⟨Y, 3, none⟩ row5) := by
  have hsz : w4.heap.size + 1 ≤ w5.heap.size := by have := hw.grown.size; simpa using this
  refine ⟨by simp [World.setCell]; omega, fun b hb hY hne => ?_, hw.grown.os, hw.grown.tape, hw.grown.output, fun b hb hne e => ?_, fun hn b hb => ?_⟩
  · rw [Below.heap_setCell _ _ _ _ (show b ≠ Y from hY), hw.grown.block b (by simp; omega) hne]; exact Below.heap_alloc w4 o b hb
  · rcases hw.fresh with h1 | h1
    · exact hne (e.trans h1)
    · have := h1 b e.symm; simp at this; omega
  · rcases hw.fresh with h1 | h1
    · exact hn b (h1 ▸ hb)
    · have := h1 b hb; simp at this; omega

theorem RB.stored {w6 : World} {row5 : Value} {bad : Bool} (h4 : RB w4 R S B A cap j bad) (hs : Stored Y row row5 w4 w6) (hR : R < Y) (hS : ∀ b, S b → b < Y) (hn : ∀ b, row.ownBlock = some b → Y < b) : RB w6 R S B A cap j bad := by
  have hRs : R < w4.heap.size := (Array.getElem?_eq_some_iff.1 h4.c).1
  have hne : ∀ b, b < Y → some b ≠ row.ownBlock := fun b hb e => by have := hn b e.symm; omega
  refine ⟨by rw [hs.block R hRs (by omega) (hne R hR)]; exact h4.c, h4.b.frame (fun b hb => hs.block b (h4.s b hb).2 (by have := hS b hb; omega) (hne b (hS b hb))) (fun _ h => h), fun b hb => ⟨(h4.s b hb).1, by have := (h4.s b hb).2; have := hs.size; omega⟩, h4.le⟩

theorem grown_stored {w6 : World} {row5 : Value} (hg : w.grownBy w4 (some R)) (hs : Stored Y row row5 w4 w6) (hY : w.heap.size ≤ Y) (hn : ∀ b, row.ownBlock = some b → Y < b) : w.grownBy w6 (some R) := by
  have := hg.size; have := hs.size
  refine ⟨hs.os.trans hg.os, hs.tape.trans hg.tape, hs.output.trans hg.output, by omega, fun b hb hne => ?_⟩
  rw [hs.block b (by omega) (by omega) (fun e => by have := hn b e.symm; omega)]
  exact hg.block b hb hne

theorem RListed.next {w6 : World} {row5 : Value} {j2 : Nat} {x : V} {c0 c1 c2 c3 : Value} (h : RListed R S B A cap X Y n r1 f w k row wr j vs xs) (hR : R < X) (hXY : X < Y) (hYw : w.heap.size ≤ Y) (hS : ∀ b, S b → b < X) (hg : wr.drew.grownBy w4 (some R)) (hr4 : RB w4 R S B A cap j2 false)
    (hRd : Rd w4 (fun b => wr.drew.heap.size ≤ b) x (.agg #[c0, c1, c2, c3])) (heq : decS f n r1 = (decS f (n - (k + 1)) (B.drop j2)).map fun y => ((xs ++ [x]) ++ y.1, y.2))
    (hs : Stored Y row row5 w4 w6) (own6 : w6.ownsRow 0 24 4 row5 (k + 1) (flat vs ++ [c0, c1, c2, c3])) (hv : w6.heap[Y]? = some (.cells #[.int .i64 3, .int .i64 0, .string ByteArray.empty, row5] 24 (0, 0))) :
    RListed R S B A cap X Y n r1 f w (k + 1) row5 w6 j2 (vs ++ [.agg #[c0, c1, c2, c3]]) (xs ++ [x]) := by
  have hs0 : wr.heap.size ≤ w4.heap.size := hg.size
  have hYr : Y < wr.heap.size := (Array.getElem?_eq_some_iff.1 h.v).1
  have hgw : w.grownBy w4 (some R) := grown_trans h.g (grown_trans (grown_drew0 _ _) hg)
  refine ⟨?_, hr4.stored hs (by omega) (fun b hb => by have := hS b hb; omega) h.new, hv, ?_, by simp [h.lx], by simp [h.lv], fun i hi => ?_, heq, grown_stored hgw hs hYw h.new, hs.new h.new⟩
  · have he : flat (vs ++ [.agg #[c0, c1, c2, c3]]) = flat vs ++ [c0, c1, c2, c3] := by simp [flat, Value.cells]
    rw [he]; exact own6
  · rw [hs.block X (by omega) (by omega) (fun e => by have := h.new X e.symm; omega)]; exact h.blockX hR hg
  · by_cases hik : i < k
    · have hrd := h.rd i hik
      rw [List.getElem_append_left (by rw [h.lx]; exact hik), List.getElem_append_left (by rw [h.lv]; exact hik)]
      have := hs.size
      refine hrd.frame (fun b hb => ?_) (fun b hb => ⟨hb.1, by omega, hs.own b (by omega) hb.2.2⟩)
      rw [hs.block b (by omega) (by omega) hb.2.2]
      exact hg.block b hb.2.1 (by intro e; injection e with e; omega)
    · have hik' : i = k := by omega
      subst hik'
      rw [List.getElem_append_right (by rw [h.lx]; exact Nat.le_refl _), List.getElem_append_right (by rw [h.lv]; exact Nat.le_refl _)]
      simp only [h.lx, h.lv, Nat.sub_self, List.getElem_cons_zero]
      refine hRd.bound.frame (fun b hb => ?_) (fun b hb => ?_)
      all_goals
        have hb1 : wr.heap.size ≤ b := hb.1
        have hne : some b ≠ row.ownBlock := fun e => by have := (h.own.lt b e.symm).2; omega
      · exact hs.block b hb.2 (by omega) hne
      · exact ⟨by omega, by have := hs.size; omega, hs.own b hb.2 hne⟩

theorem RListed.fail {w6 : World} {row5 : Value} {j2 : Nat} (h : RListed R S B A cap X Y n r1 f w k row wr j vs xs) (hR : R < X) (hXY : X < Y) (hYw : w.heap.size ≤ Y) (hS : ∀ b, S b → b < X) (hg : wr.drew.grownBy w4 (some R)) (hr4 : RB w4 R S B A cap j2 true)
    (hs : Stored Y row row5 w4 w6) (hv : w6.heap[Y]? = some (.cells #[.int .i64 3, .int .i64 0, .string ByteArray.empty, row5] 24 (0, 0))) (hsl : ∃ a l c, row5 = .slice a l c) : RBad R S B A cap X Y w row5 w6 j2 := by
  have hs0 : wr.heap.size ≤ w4.heap.size := hg.size
  have hYr : Y < wr.heap.size := (Array.getElem?_eq_some_iff.1 h.v).1
  have hgw : w.grownBy w4 (some R) := grown_trans h.g (grown_trans (grown_drew0 _ _) hg)
  refine ⟨hr4.stored hs (by omega) (fun b hb => by have := hS b hb; omega) h.new, hv, ?_, grown_stored hgw hs hYw h.new, hsl⟩
  rw [hs.block X (by omega) (by omega) (fun e => by have := h.new X e.symm; omega)]; exact h.blockX hR hg

theorem own_set {w5 : World} {row5 : Value} {k : Nat} {l : List Value} (h : w5.ownsRow 0 24 4 row5 k l) (hn : ∀ b, row5.ownBlock = some b → Y < b) : (w5.setCell ⟨Y, 3, none⟩ row5).ownsRow 0 24 4 row5 k l := by
  refine h.kept (grown_setCell' w5 Y 3 row5) ?_
  cases hq : row5.ownBlock with
  | none => exact .inl rfl
  | some b => right; intro e; injection e with e; have := hn b hq; omega

theorem set_row {w5 : World} {row5 : Value} {o : Obj} (h : RListed R S B A cap X Y n r1 f w k row wr j vs xs) (hR : R < Y) (hg : wr.drew.grownBy w4 (some R)) (hw : Wr (w4.alloc o) row w5 row5) :
    (w5.setCell ⟨Y, 3, none⟩ row5).heap[Y]? = some (.cells #[.int .i64 3, .int .i64 0, .string ByteArray.empty, row5] 24 (0, 0)) := by
  have h4 := h.block4 hR hg
  have hY : Y < w4.heap.size := (Array.getElem?_eq_some_iff.1 h4).1
  have h5 : w5.heap[Y]? = some (.cells #[.int .i64 3, .int .i64 0, .string ByteArray.empty, row] 24 (0, 0)) := by
    rw [hw.grown.block Y (by simp; omega) (by intro e; have := h.new Y e.symm; omega), Below.heap_alloc w4 o Y hY]; exact h4
  rw [setCell_heap h5]; rfl

theorem RListed.final {rA : Option Addr} {rl rc : Nat} (h : RListed R S B A cap X Y n r1 f w k (.slice rA rl rc) wr j vs xs) : Rd wr (fun b => Y < b) (.mk 3 0 ByteArray.empty xs) (.agg #[.int .i64 3, .int .i64 0, .string ByteArray.empty, .slice rA rl rc]) := by
  have hfour : ∀ v ∈ vs, ∃ c0 c1 c2 c3, v = .agg #[c0, c1, c2, c3] := by
    intro v hv
    obtain ⟨i, hi, rfl⟩ := List.mem_iff_getElem.1 hv
    have hr := h.rd i (by have := h.lv; omega)
    generalize xs[i]'(by have := h.lv; have := h.lx; omega) = x at hr
    obtain ⟨a, b, c, d⟩ := x
    obtain ⟨A, cap, e, _⟩ := hr.head
    exact ⟨_, _, _, _, e⟩
  have hlk := h.lx
  have hlv := h.lv
  rcases h.own.2 with ⟨h1, h0⟩ | ⟨g, cap, cur, h1, _, hg, hnc, hcm, hcs, htk⟩
  · injection h1 with e1 e2 e3
    subst e1 e2 e3
    have : xs = [] := List.eq_nil_of_length_eq_zero (by omega)
    subst this
    exact Rd.leaf _ _ _ _ _ ⟨by omega, by omega⟩ ⟨by omega, by omega⟩ (by decide)
  · injection h1 with e1 e2 e3
    subst e1 e2 e3
    have hcells := h.own.cells (g := g) rfl
    rw [← hlk]
    refine .mk (fun i => vs[i]?.getD undef) ⟨by omega, by omega⟩ ⟨by omega, by omega⟩ (by decide) (by omega) (by unfold maxLen at hcm; omega) (fun _ => ⟨g, 0, rfl, h.new g rfl⟩) (fun i b off hi e => ?_) (fun i hi => ?_)
    · injection e with e; injection e with e1 e2
      subst e1 e2
      have hvi : vs[i]? = some vs[i] := List.getElem?_eq_getElem (by omega)
      obtain ⟨c0, c1, c2, c3, hc⟩ := hfour vs[i] (List.getElem_mem _)
      rw [hvi, Option.getD_some, hc]
      rw [hc] at hvi
      obtain ⟨f0, f1, f2, f3⟩ := flat_at vs i c0 c1 c2 c3 hfour hvi
      have hadd : ∀ j, (⟨g, 0, none⟩ : Addr).add j = ⟨g, 0 + j, none⟩ := fun j => by unfold Addr.add; split <;> simp_all
      have g0 := hcells _ _ f0
      have g1 := hcells _ _ f1
      have g2 := hcells _ _ f2
      have g3 := hcells _ _ f3
      rw [hadd] at g0 g1 g2 g3
      exact ⟨g0, g1, g2, g3⟩
    · have hr := h.rd i (by omega)
      rw [List.getElem?_eq_getElem (by omega), Option.getD_some]
      exact hr.frame (fun _ _ => rfl) (fun b hb => hb.1)
end

end Go.Proofs.Ytjhecmmbpmpmgaa
