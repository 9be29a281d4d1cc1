/- codec's reader by its contracts: lists. -/
import Derived.Test.YtjhecmmbpmpmgaaCRead4
import Derived.Deep.AppendLies
import Derived.Deep.RegionLaw
import Derived.IntWalk
namespace Go.Proofs.Ytjhecmmbpmpmgaa
open Go.RowKit Go.Lib

def flat (vs : List Value) : List Value := vs.flatMap fun v => v.cells.toList

theorem ValuePost.no {R D : Nat} {w w' : World} {x : Option (V × List UInt8)} (hg : w.grownBy w' (some R)) (hx : x = none) : ValuePost R D w x (.panicked errChain) w' := by subst hx; exact ⟨hg, rfl⟩
theorem ValuePost.yes {R D : Nat} {w w' : World} {x : Option (V × List UInt8)} {y : V} {l : List UInt8} {v : Value} (hg : w.grownBy w' (some R)) (hx : x = some (y, l)) (hr : Rst w' R D l) (hd : Rd w' (fun b => w.heap.size ≤ b) y v) :
    ValuePost R D w x (.returned v) w' := by subst hx; exact ⟨hg, v, rfl, hr, hd⟩

/-- The contract of value within d lists. -/
def ValueAt (d : Nat) : Prop := ∀ (R D : Nat) (l : List UInt8) (w : World), Rst w R D l → l.length ≤ 1000000000 →
    Calls Try.prog 32 #[.pointer (some ⟨R, 0, none⟩), .int .i64 d] w (ValuePost R D w (dec (16 - d) l))

structure Listed (R D X n : Nat) (r1 : List UInt8) (f : List UInt8 → Option (V × List UInt8)) (w : World) (k : Nat) (row : Value) (wr : World) (ys : List UInt8) (vs : List Value) (xs : List V) : Prop where
  own : wr.ownsRow 0 24 4 row k (flat vs)
  rst : Rst wr R D ys
  v : wr.heap[X]? = some (.cells #[.int .i64 3, .int .i64 0, .string ByteArray.empty, row] 24 (0, 0))
  lx : xs.length = k
  lv : vs.length = k
  rd : ∀ i (h : i < k), Rd wr (fun b => X < b ∧ b < wr.heap.size ∧ some b ≠ row.ownBlock) (xs[i]'(by omega)) (vs[i]'(by omega))
  eq : decS f n r1 = (decS f (n - k) ys).map fun y => (xs ++ y.1, y.2)
  ys : ys.length ≤ r1.length
  g : w.grownBy wr (some R)
  new : ∀ b, row.ownBlock = some b → X < b

section
variable {R D X n k : Nat} {r1 ys : List UInt8} {f : List UInt8 → Option (V × List UInt8)} {w wr w4 : World} {row : Value} {vs : List Value} {xs : List V}
theorem Listed.own4 (h : Listed R D X n r1 f w k row wr ys vs xs) (hR : R < X) (hg : wr.drew.grownBy w4 (some R)) : w4.ownsRow 0 24 4 row k (flat vs) := by
  refine (h.own.kept (World.grownBy.mk rfl rfl rfl (Nat.le_refl _) (fun _ _ _ => rfl) : wr.grownBy wr.drew none) ?_).kept hg ?_
  · cases hq : row.ownBlock <;> simp
  · cases hq : row.ownBlock with
    | none => simp
    | some b => right; intro e; injection e with e; have := h.new b hq; omega
theorem Listed.block4 (h : Listed R D X n r1 f w k row wr ys vs xs) (hR : R < X) (hg : wr.drew.grownBy w4 (some R)) : w4.heap[X]? = some (.cells #[.int .i64 3, .int .i64 0, .string ByteArray.empty, row] 24 (0, 0)) := by
  rw [hg.block X (Array.getElem?_eq_some_iff.1 h.v).1 (by intro e; injection e with e; omega)]; exact h.v
theorem Listed.cell4 (h : Listed R D X n r1 f w k row wr ys vs xs) (hR : R < X) (hg : wr.drew.grownBy w4 (some R)) : w4.cell? ⟨X, 3, none⟩ = some row := by
  rw [cell_of_row w4 _ 3 _ _ _ (h.block4 hR hg)]; rfl
theorem Listed.cell4a (h : Listed R D X n r1 f w k row wr ys vs xs) (hR : R < X) (hg : wr.drew.grownBy w4 (some R)) (o : Obj) : (w4.alloc o).cell? ⟨X, 3, none⟩ = some row := by
  have h4 := h.block4 hR hg
  rw [World.cell?_alloc_past _ _ _ (Array.getElem?_eq_some_iff.1 h4).1, cell_of_row w4 _ 3 _ _ _ h4]; rfl
theorem Listed.frozen5 (h : Listed R D X n r1 f w k row wr ys vs xs) (hR : R < X) (hg : wr.drew.grownBy w4 (some R)) {o : Obj} : ∀ (row5 : Value) (w5 : World), Wr (w4.alloc o) row w5 row5 → w5.cell? ⟨X, 3, none⟩ = some row ∧ w5.frozen? ⟨X, 3, none⟩ = false := by
  intro row5 w5 hw
  have h4 := h.block4 hR hg
  have hX : X < w4.heap.size := (Array.getElem?_eq_some_iff.1 h4).1
  have h5 : w5.heap[X]? = some (.cells #[.int .i64 3, .int .i64 0, .string ByteArray.empty, row] 24 (0, 0)) := by
    rw [hw.grown.block X (by simp; omega) (by intro e; have := h.new X e.symm; omega), Below.heap_alloc w4 o X hX]; exact h4
  exact ⟨by rw [cell_of_row w5 _ 3 _ _ _ h5]; rfl, by simp [World.frozen?, h5]⟩
theorem Listed.next (hXw : w.heap.size ≤ X) {w5 : World} {row5 : Value} {r2 : List UInt8} {x : V} {c0 c1 c2 c3 : Value} {o : Obj} (h : Listed R D X n r1 f w k row wr ys vs xs) (hR : R < X) (hD : D < X) (hg : wr.drew.grownBy w4 (some R)) (hr4 : Rst w4 R D r2)
    (hRd : Rd w4 (fun b => wr.drew.heap.size ≤ b) x (.agg #[c0, c1, c2, c3])) (hlen : r2.length < ys.length) (heq : decS f n r1 = (decS f (n - (k + 1)) r2).map fun y => ((xs ++ [x]) ++ y.1, y.2))
    (own5 : w5.ownsRow 0 24 4 row5 (k + 1) (flat vs ++ [c0, c1, c2, c3])) (hw : Wr (w4.alloc o) row w5 row5) :
    Listed R D X n r1 f w (k + 1) row5 (w5.setCell ⟨X, 3, none⟩ row5) r2 (vs ++ [.agg #[c0, c1, c2, c3]]) (xs ++ [x]) := by
  have hs0 : wr.heap.size ≤ w4.heap.size := hg.size
  have hXr : X < wr.heap.size := (Array.getElem?_eq_some_iff.1 h.v).1
  have hsz : w4.heap.size + 1 ≤ w5.heap.size := by have := hw.grown.size; simpa using this
  have hnew : ∀ b, row5.ownBlock = some b → X < b := by
    intro b hb
    rcases hw.fresh with h1 | h1
    · exact h.new b (h1 ▸ hb)
    · have := h1 b hb; simp at this; omega
  have hb5 : ∀ b, b < w4.heap.size → some b ≠ row.ownBlock → w5.heap[b]? = w4.heap[b]? := fun b hb hne => by
    rw [hw.grown.block b (by simp; omega) hne]; exact Below.heap_alloc w4 o b hb
  have hb6 : ∀ b, b ≠ X → (w5.setCell ⟨X, 3, none⟩ row5).heap[b]? = w5.heap[b]? := fun b hb => Below.heap_setCell _ _ _ _ hb
  have hneq : ∀ b, b ≤ X → some b ≠ row.ownBlock := fun b hb e => by have := h.new b e.symm; omega
  have hs6 : (w5.setCell ⟨X, 3, none⟩ row5).heap.size = w5.heap.size := by simp [World.setCell]
  refine ⟨?_, ?_, ?_, by simp [h.lx], by simp [h.lv], fun i hi => ?_, heq, by have := h.ys; omega, ?_, hnew⟩
  · have he : flat (vs ++ [.agg #[c0, c1, c2, c3]]) = flat vs ++ [c0, c1, c2, c3] := by simp [flat, Value.cells]
    rw [he]
    refine own5.kept (grown_setCell' w5 X 3 row5) ?_
    cases hq : row5.ownBlock with
    | none => exact .inl rfl
    | some b => right; intro e; injection e with e; have := hnew b hq; omega
  · obtain ⟨off, cap, h1, h2, h3, h4, h5, h6⟩ := hr4
    have hRs : R < w4.heap.size := by omega
    refine ⟨off, cap, by rw [hb6 R (by omega), hb5 R hRs (hneq R (by omega))]; exact h1, h2, h3, h4, by rw [hs6]; omega, fun i hi => ?_⟩
    rw [World.cell?_of_block (w := w4) (a := ⟨D, off + i, none⟩) ((hb6 D (by omega)).trans (hb5 D h5 (hneq D (by omega))))]
    exact h6 i hi
  · have h4 := h.block4 hR hg
    have h5 : w5.heap[X]? = some (.cells #[.int .i64 3, .int .i64 0, .string ByteArray.empty, row] 24 (0, 0)) := by rw [hb5 X (by omega) (hneq X (Nat.le_refl _))]; exact h4
    rw [setCell_heap h5]; rfl
  · have hf : ∀ b, b < w4.heap.size → b ≠ X → some b ≠ row.ownBlock → (w5.setCell ⟨X, 3, none⟩ row5).heap[b]? = w4.heap[b]? := fun b h1 h2 h3 => (hb6 b h2).trans (hb5 b h1 h3)
    have hown5 : ∀ b, b < w4.heap.size → some b ≠ row.ownBlock → some b ≠ row5.ownBlock := fun b hb hne e => by
      rcases hw.fresh with h1 | h1
      · exact hne (e.trans h1)
      · have := h1 b e.symm; simp at this; omega
    by_cases hik : i < k
    · have hrd := h.rd i hik
      rw [List.getElem_append_left (by rw [h.lx]; exact hik), List.getElem_append_left (by rw [h.lv]; exact hik)]
      refine hrd.frame (fun b hb => ?_) (fun b hb => ⟨hb.1, by rw [hs6]; omega, hown5 b (by omega) hb.2.2⟩)
      rw [hf b (by omega) (by omega) hb.2.2]
      exact hg.block b hb.2.1 (by intro e; injection e with e; omega)
    · have hik' : i = k := by omega
      subst hik'
      rw [List.getElem_append_right (by rw [h.lx]; exact Nat.le_refl _), List.getElem_append_right (by rw [h.lv]; exact Nat.le_refl _)]
      simp only [h.lx, h.lv, Nat.sub_self, List.getElem_cons_zero]
      refine hRd.bound.frame (fun b hb => ?_) (fun b hb => ?_)
      all_goals
        have hb1 : wr.heap.size ≤ b := hb.1
        have hne : some b ≠ row.ownBlock := fun e => by have := (h.own.lt b e.symm).2; omega
      · exact hf b hb.2 (by omega) hne
      · exact ⟨by omega, by rw [hs6]; omega, hown5 b hb.2 hne⟩
  · refine ⟨?_, ?_, ?_, ?_, fun b hb hne => ?_⟩
    · exact hw.grown.os.trans (hg.os.trans h.g.os)
    · exact hw.grown.tape.trans (hg.tape.trans h.g.tape)
    · exact hw.grown.output.trans (hg.output.trans h.g.output)
    · rw [hs6]; have := h.g.size; omega
    · have h1 := h.g.size
      rw [hb6 b (by omega), hb5 b (by omega) (hneq b (by omega)), ← h.g.block b hb hne]
      exact hg.block b (by show b < wr.heap.size; omega) hne

theorem flat_at : ∀ (vs : List Value) (i : Nat) (c0 c1 c2 c3 : Value), (∀ v ∈ vs, ∃ c0 c1 c2 c3, v = .agg #[c0, c1, c2, c3]) → vs[i]? = some (.agg #[c0, c1, c2, c3]) →
    (flat vs)[i * 4]? = some c0 ∧ (flat vs)[i * 4 + 1]? = some c1 ∧ (flat vs)[i * 4 + 2]? = some c2 ∧ (flat vs)[i * 4 + 3]? = some c3
  | [], i, _, _, _, _, _, h => by simp at h
  | v :: vs, 0, c0, c1, c2, c3, _, h => by simp at h; subst h; simp [flat, Value.cells]
  | v :: vs, i + 1, c0, c1, c2, c3, hv, h => by
    obtain ⟨d0, d1, d2, d3, rfl⟩ := hv v (by simp)
    have ih := flat_at vs i c0 c1 c2 c3 (fun v h => hv v (by simp [h])) (by simpa using h)
    have e : flat (.agg #[d0, d1, d2, d3] :: vs) = d0 :: d1 :: d2 :: d3 :: flat vs := by simp [flat, Value.cells]
    rw [e]
    rw [show (i + 1) * 4 = i * 4 + 4 from by omega]
    rw [show i * 4 + 4 + 1 = i * 4 + 1 + 4 from by omega, show i * 4 + 4 + 2 = i * 4 + 2 + 4 from by omega, show i * 4 + 4 + 3 = i * 4 + 3 + 4 from by omega]
    have e4 : ∀ j, (d0 :: d1 :: d2 :: d3 :: flat vs)[j + 4]? = (flat vs)[j]? := fun j => rfl
    rw [e4, e4, e4, e4]
    exact ih

theorem Listed.final {rA : Option Addr} {rl rc : Nat} (h : Listed R D X n r1 f w k (.slice rA rl rc) wr ys vs xs) : Rd wr (fun b => X < b) (.mk 3 0 ByteArray.empty xs) (.agg #[.int .i64 3, .int .i64 0, .string ByteArray.empty, .slice rA rl rc]) := by
  have hfour : ∀ v ∈ vs, ∃ c0 c1 c2 c3, v = .agg #[c0, c1, c2, c3] := by
    intro v hv
    obtain ⟨i, hi, rfl⟩ := List.mem_iff_getElem.1 hv
    have hr := h.rd i (by have := h.lv; omega)
    generalize xs[i]'(by have := h.lv; have := h.lx; omega) = x at hr
    obtain ⟨a, b, c, d⟩ := x
    obtain ⟨A, cap, e, _⟩ := hr.head
    exact ⟨_, _, _, _, e⟩
  have hlk := h.lx
  have hlv := h.lv
  rcases h.own.2 with ⟨h1, h0⟩ | ⟨g, cap, cur, h1, _, hg, hnc, hcm, hcs, htk⟩
  · injection h1 with e1 e2 e3
    subst e1 e2 e3
    have : xs = [] := List.eq_nil_of_length_eq_zero (by omega)
    subst this
    exact Rd.leaf _ _ _ _ _ ⟨by omega, by omega⟩ ⟨by omega, by omega⟩ (by decide)
  · injection h1 with e1 e2 e3
    subst e1 e2 e3
    have hcells := h.own.cells (g := g) rfl
    rw [← hlk]
    refine .mk (fun i => vs[i]?.getD undef) ⟨by omega, by omega⟩ ⟨by omega, by omega⟩ (by decide) (by omega) (by unfold maxLen at hcm; omega) (fun _ => ⟨g, 0, rfl, h.new g rfl⟩) (fun i b off hi e => ?_) (fun i hi => ?_)
    · injection e with e; injection e with e1 e2
      subst e1 e2
      have hvi : vs[i]? = some vs[i] := List.getElem?_eq_getElem (by omega)
      obtain ⟨c0, c1, c2, c3, hc⟩ := hfour vs[i] (List.getElem_mem _)
      rw [hvi, Option.getD_some, hc]
      rw [hc] at hvi
      obtain ⟨f0, f1, f2, f3⟩ := flat_at vs i c0 c1 c2 c3 hfour hvi
      have hadd : ∀ j, (⟨g, 0, none⟩ : Addr).add j = ⟨g, 0 + j, none⟩ := fun j => by unfold Addr.add; split <;> simp_all
      have g0 := hcells _ _ f0
      have g1 := hcells _ _ f1
      have g2 := hcells _ _ f2
      have g3 := hcells _ _ f3
      rw [hadd] at g0 g1 g2 g3
      exact ⟨g0, g1, g2, g3⟩
    · have hr := h.rd i (by omega)
      rw [List.getElem?_eq_getElem (by omega), Option.getD_some]
      exact hr.frame (fun _ _ => rfl) (fun b hb => hb.1)
end

theorem four1 {k n : Int} {s : ByteArray} {A : Option Addr} {l c : Nat} : ∀ u ∈ [Value.int IntKind.i64 k, Value.int IntKind.i64 n, .string s, .slice A l c], u.oneCell' = true := by
  intro u hu; simp at hu; rcases hu with rfl | rfl | rfl | rfl <;> rfl

set_option maxRecDepth 100000 in
set_option maxHeartbeats 1600000 in
theorem value_list (d : Nat) (hd : d < 16) (ih : ValueAt (d + 1)) (R D : Nat) (c : UInt8) (r : List UInt8) (w : World) (h : Rst w R D (c :: r)) (hc : c.toNat = 3) (hlen : r.length ≤ 1000000000) :
    Calls Try.prog 32 #[.pointer (some ⟨R, 0, none⟩), .int .i64 d] w (ValuePost R D w ((rlen r).bind fun x => (decS (dec (15 - d)) x.1 x.2).map fun y => (.mk 3 0 ByteArray.empty y.1, y.2))) := by
  obtain ⟨i0, hi, hz0, hz1, hz2⟩ := info_parts Try.infoValue
  have hIH := Lib.hid ih; clear ih
  have hdd : decide ((d : Int) < 16) = true := by simp; omega
  have HT : Hid (∀ w0, Below w.heap.size w w0 → Calls Try.prog 44 #[.pointer (some ⟨R, 0, none⟩), .int .i64 1] w0 fun e w' => ∃ off, e = .returned (.slice (some ⟨D, off, none⟩) 1 1) ∧
      w'.cell? ⟨D, off, none⟩ = some (.int .u8 (c.toNat : Int)) ∧ Rst w' R D r ∧ w0.grownBy w' (some R)) := Lib.hid fun w0 h0 => take_one R D c r w0 (h.below h0)
  have hRs : R < w.heap.size ∧ D < w.heap.size := by obtain ⟨off, cap, h1, _, _, _, h5, _⟩ := h; exact ⟨(Array.getElem?_eq_some_iff.1 h1).1, h5⟩
  rw [hc] at HT
  clear h
  go_enter Try.func32, Try.ntmps32
  go_wp2_with fail
  refine (HT.out _ (below1 _)).mono ?_
  rintro e w1 ⟨off, rfl, hb, hr, hg⟩
  have HB := Lib.hid (Begun.mk' hRs.1 hRs.2 hr hg 3)
  have v0 : w1.cell? ⟨w.heap.size, 0, none⟩ = some (.int .i64 0) := by
    rw [World.cell?_of_block (w := w.alloc _) (a := ⟨w.heap.size, 0, none⟩) (hg.block _ (by simp) (by intro e; simp at e; omega)), World.cell?_alloc_at _ _ _ _ rfl]; rfl
  have f0 : w1.frozen? ⟨w.heap.size, 0, none⟩ = false := by
    rw [World.frozen?_of_block (w := w.alloc _) (a := ⟨w.heap.size, 0, none⟩) (hg.block _ (by simp) (by intro e; simp at e; omega))]; exact World.frozen?_alloc_at _ _ _ _ rfl
  clear hr hg
  go_wp2_with (go_at_call 33; refine (want_ok _ _).mono ?_; rintro e w' ⟨rfl, rfl⟩)
  generalize w1.setCell ⟨w.heap.size, 0, none⟩ (.int .i64 3) = w2 at *
  clear v0 f0 hb
  obtain ⟨b1, b2, b3⟩ := HB.out
  clear HB
  refine (length_any R D r w2 b3).mono ?_
  rintro e w3 ⟨hg3, he⟩
  cases hx : rlen r with
  | none =>
    rw [hx] at he
    simp only at he
    subst he
    exact ⟨rfl, grown_trans b1 hg3, by rw [hx]; rfl⟩
  | some ul =>
    obtain ⟨n, r1⟩ := ul
    rw [hx] at he
    obtain ⟨he, hr3, hn⟩ := he
    subst he
    have V3 : w3.heap[w.heap.size]? = some (.cells #[.int .i64 3, .int .i64 0, .string ByteArray.empty, .slice none 0 0] 24 (0, 0)) := by
      rw [hg3.block _ (Array.getElem?_eq_some_iff.1 b2).1 (by intro e; injection e with e; omega)]; exact b2
    have hr1 : r1.length ≤ 1000000000 := by have := rlen_len hx; omega
    have hg13 := grown_trans b1 hg3
    have HX := Lib.hid hx
    clear b1 b2 b3 hx hg3
    generalize hXX : w.heap.size = X at *
    go_wp2_with fail
    have hst : Listed R D X n r1 (dec (15 - d)) w 0 (.slice none 0 0) w3 r1 [] [] :=
      ⟨World.ownsRow_nil _ _ _ _, hr3, V3, rfl, rfl, fun i h => absurd h (by omega), by simp, Nat.le_refl _, hg13, fun b h => by simp [Value.ownBlock] at h⟩
    clear hr3 V3 hg13
    go_loopw [37] (fun i wr => ∃ (k : Nat) (row : Value) (ys : List UInt8) (vs : List Value) (xs : List V), k ≤ n ∧ i = .int .i64 k ∧ Listed R D X n r1 (dec (15 - d)) w k row wr ys vs xs) (fun i _ => n - (intOf i).toNat)
    case atStart => exact ⟨0, _, r1, [], [], by omega, rfl, hst⟩
    case round =>
      obtain ⟨k, row, ys, vs, xs, hk, rfl, hL⟩ := hrel
      have v3 : wr.cell? ⟨X, 3, none⟩ = some row := by rw [cell_of_row wr _ 3 _ _ _ hL.v]; rfl
      have hXr : X < wr.heap.size := (Array.getElem?_eq_some_iff.1 hL.v).1
      have HL := Lib.hid hL; clear hL hst
      by_cases hlt : k < n
      · have HC : Hid (∀ w0, Below wr.heap.size wr w0 → Calls Try.prog 32 #[.pointer (some ⟨R, 0, none⟩), .int .i64 ((d : Int) + 1)] w0 (ValuePost R D w0 (dec (15 - d) ys))) := Lib.hid fun w0 h0 => by
          have := hIH.out R D ys w0 (HL.out.rst.below h0) (by have := HL.out.ys; omega)
          rwa [show 16 - (d + 1) = 15 - d from by omega, show (((d + 1 : Nat)) : Int) = (d : Int) + 1 from by omega] at this
        cases hdx : dec (15 - d) ys with
        | none =>
          rw [hdx] at HC
          have HD : Hid (decS (dec (15 - d)) n r1 = none) := Lib.hid (by rw [HL.out.eq, show n - k = (n - k - 1) + 1 from by omega, decS_step, hdx]; rfl)
          have HE : Hid (∀ w4, wr.drew.grownBy w4 (some R) → ValuePost R D w ((rlen r).bind fun x => (decS (dec (15 - d)) x.1 x.2).map fun y => (.mk 3 0 ByteArray.empty y.1, y.2)) (.panicked errChain) w4) :=
            Lib.hid fun w4 hg4 => ValuePost.no (grown_trans HL.out.g (grown_trans (grown_below ((Below.refl _ _).drew)) hg4)) (by rw [HX.out]; simp only [Option.bind_some]; rw [HD.out]; rfl)
          clear hdx
          have hs1 : IntKind.i64.wrap ((d : Int) + 1) = (d : Int) + 1 := IntWalk.i64_in _ (by omega)
          go_wp2_with fail
          refine wp_region_any (by kernel_rfl) ?_
          change wpAny _ _ _ _ _ _ _ (World.drew _)
          refine wpAny_take (i := 0) (v := ?_) rfl (by kernel_rfl) (by kernel_rfl) (by kernel_rfl) (fun _ _ _ h => h) (Or.inl ⟨by rfl, ?_⟩) ?_
          rotate_left
          · intro w; go_simp; try (with_reducible rfl)
          refine wpAny_take (i := 2) (v := ?_) rfl (by kernel_rfl) (by kernel_rfl) (by kernel_rfl) (fun _ _ _ h => h) (Or.inl ⟨by rfl, ?_⟩) ?_
          rotate_left
          · intro w; go_simp; try (with_reducible rfl)
          refine wpAny_take (i := 3) (v := ?_) rfl (by kernel_rfl) (by kernel_rfl) (by kernel_rfl) (fun _ _ _ h => h) (Or.inl ⟨by rfl, ?_⟩) ?_
          rotate_left
          · intro w; go_simp; try (with_reducible rfl)
          refine wpAny_take (i := 4) (v := ?_) rfl (by kernel_rfl) (by kernel_rfl) (by kernel_rfl) (fun _ _ _ h => h) (Or.inl ⟨by rfl, ?_⟩) ?_
          rotate_left
          · intro w; go_simp; try (with_reducible rfl)
          refine wpAny_ready (rs := [1, 5]) (by kernel_rfl) (by simp) ?_
          refine AllReady.cons rfl (fun K hK => ?_) (AllReady.cons rfl (fun K hK => ?_) AllReady.nil)
          · go_simp
            refine hK _ _ ?_
            clear hK K
            refine wpAny_ready (rs := [5]) (by kernel_rfl) (by simp) ?_
            refine AllReady.cons rfl (fun K hK => ?_) AllReady.nil
            go_simp
            refine (HC.out _ ((Below.refl _ _).drew)).mono ?_
            rintro e w4 ⟨hg4, rfl⟩
            exact ⟨rfl, HE.out _ hg4⟩
          · go_simp
            refine (HC.out _ ((Below.refl _ _).drew)).mono ?_
            rintro e w4 ⟨hg4, rfl⟩
            exact ⟨rfl, HE.out _ hg4⟩
        | some y =>
          obtain ⟨⟨k', n', s', l'⟩, r2⟩ := y
          rw [hdx] at HC
          have HD : Hid (decS (dec (15 - d)) n r1 = (decS (dec (15 - d)) (n - (k + 1)) r2).map fun y => ((xs ++ [.mk k' n' s' l']) ++ y.1, y.2)) := Lib.hid (by
            rw [HL.out.eq, show n - k = (n - (k + 1)) + 1 from by omega, decS_step, hdx]
            simp only [Option.bind_some, Option.map_map]
            congr 1
            funext z
            simp)
          have hyl := dec_len _ _ _ _ hdx
          have HYL := Lib.hid hyl
          clear hdx hyl
          have hs1 : IntKind.i64.wrap ((d : Int) + 1) = (d : Int) + 1 := IntWalk.i64_in _ (by omega)
          go_wp2_with fail
          go_region_law (first
            | (refine step_app _ (by rfl) _ _ 22 (by rfl) 24 i0 (.agg #[.int .i64 0, .int .i64 0, .string ByteArray.empty, .slice none 0 0]) 4 56 Try.underlying22 hi hz0 hz1 hz2 rfl (by decide) row k (flat vs) (by rfl) (hown4.out.alloc _) ⟨w4.heap.size, 0, none⟩ 1 1 [.int .i64 k', .int .i64 n', .string s', .slice A' l'.length cap'] (by rfl) (by rfl) (World.news_of_block (heap_alloc_new w4 _)) four1 (by unfold maxLen; omega) (by omega) ?_; intro row5 w5 hown5 hwr5 _; have hf5 := hfr5.out row5 w5 hwr5; obtain ⟨g5, cap5, rfl⟩ := own_form hown5 (Nat.succ_pos _))
            | (go_simp; go_at_call 32; refine (HC.out _ ((Below.refl _ _).drew)).mono ?_; rintro e w4 ⟨hg4, v4, rfl, hr4, hRd4⟩; obtain ⟨A', cap', rfl, hq⟩ := hRd4.head; have hown4 := Lib.hid (HL.out.own4 hRs.1 hg4); have v34 := HL.out.cell4 hRs.1 hg4; have v35 := HL.out.cell4a hRs.1 hg4; have hfr5 := Lib.hid (HL.out.frozen5 hRs.1 hg4 (o := Obj.cells #[.int .i64 k', .int .i64 n', .string s', .slice A' l'.length cap'] 24))))
          all_goals
            go_wp2
            go_roundw
            case rel => exact ⟨k + 1, _, r2, _, _, by omega, by go_num, HL.out.next (by omega) hRs.1 hRs.2 hg4 hr4 hRd4 HYL.out HD.out hown5 hwr5⟩
            case measure => simp [intOf]; omega
      · have hkn : k = n := by omega
        subst hkn
        have V4 := HL.out.v
        have v0 : wr.cell? ⟨X, 0, none⟩ = some (.int .i64 3) := by rw [cell_of_row wr _ 0 _ _ _ V4]; rfl
        have v1 : wr.cell? ⟨X, 1, none⟩ = some (.int .i64 0) := by rw [cell_of_row wr _ 1 _ _ _ V4]; rfl
        have v2 : wr.cell? ⟨X, 2, none⟩ = some (.string ByteArray.empty) := by rw [cell_of_row wr _ 2 _ _ _ V4]; rfl
        have f1 : ∀ o, wr.frozen? ⟨X, o, none⟩ = false := fun o => by simp [World.frozen?, V4]
        have HD : Hid (((rlen r).bind fun x => (decS (dec (15 - d)) x.1 x.2).map fun y => (V.mk 3 0 ByteArray.empty y.1, y.2)) = some (V.mk 3 0 ByteArray.empty xs, ys)) := Lib.hid (by
          rw [HX.out]; simp only [Option.bind_some]; rw [HL.out.eq, Nat.sub_self, decS]; simp)
        clear V4
        have hrow : ∃ A l c, row = .slice A l c := by
          rcases HL.out.own.2 with ⟨h1, _⟩ | ⟨g, cap, cur, h1, _⟩
          · exact ⟨_, _, _, h1⟩
          · exact ⟨_, _, _, h1⟩
        obtain ⟨rA, rl, rc, rfl⟩ := hrow
        go_wp2_with fail
        obtain ⟨g5, r5, h5⟩ := four_out4 (c0 := .int .i64 3) (c1 := .int .i64 0) (c2 := .string ByteArray.empty) (c3 := .slice rA rl rc) HL.out.g (by omega) HL.out.rst (by omega) (by omega) HL.out.v
        refine bodyPost_ret (ret_cells (t := 24) rfl _ _ _ _ _ _ rfl h5 Try.underlying24 rfl Try.sizeValue) rfl ?_
        exact ValuePost.yes g5 HD.out r5 (HL.out.final.frame (fun b hb => by
          rw [Below.heap_setCell _ _ _ _ (show b ≠ X by omega), Below.heap_setCell _ _ _ _ (show b ≠ X by omega), Below.heap_setCell _ _ _ _ (show b ≠ X by omega), Below.heap_setCell _ _ _ _ (show b ≠ X by omega)]) (fun b hb => by omega))

theorem value_deep (d : Nat) (hd : 16 ≤ d) (hd2 : d ≤ 1000) (R D : Nat) (c : UInt8) (r : List UInt8) (w : World) (h : Rst w R D (c :: r)) (hc : c.toNat = 3) :
    Calls Try.prog 32 #[.pointer (some ⟨R, 0, none⟩), .int .i64 d] w (ValuePost R D w none) := by
  have hdd : decide ((d : Int) < 16) = false := by simp; omega
  have HT : Hid (∀ w0, Below w.heap.size w w0 → Calls Try.prog 44 #[.pointer (some ⟨R, 0, none⟩), .int .i64 1] w0 fun e w' => ∃ off, e = .returned (.slice (some ⟨D, off, none⟩) 1 1) ∧
      w'.cell? ⟨D, off, none⟩ = some (.int .u8 (c.toNat : Int)) ∧ Rst w' R D r ∧ w0.grownBy w' (some R)) := Lib.hid fun w0 h0 => take_one R D c r w0 (h.below h0)
  have hRs : R < w.heap.size ∧ D < w.heap.size := by obtain ⟨off, cap, h1, _, _, _, h5, _⟩ := h; exact ⟨(Array.getElem?_eq_some_iff.1 h1).1, h5⟩
  rw [hc] at HT
  clear h
  go_enter Try.func32, Try.ntmps32
  go_wp2_with fail
  refine (HT.out _ (below1 _)).mono ?_
  rintro e w1 ⟨off, rfl, hb, hr, hg⟩
  have HB := Lib.hid (Begun.mk' hRs.1 hRs.2 hr hg 3)
  have v0 : w1.cell? ⟨w.heap.size, 0, none⟩ = some (.int .i64 0) := by
    rw [World.cell?_of_block (w := w.alloc _) (a := ⟨w.heap.size, 0, none⟩) (hg.block _ (by simp) (by intro e; simp at e; omega)), World.cell?_alloc_at _ _ _ _ rfl]; rfl
  have f0 : w1.frozen? ⟨w.heap.size, 0, none⟩ = false := by
    rw [World.frozen?_of_block (w := w.alloc _) (a := ⟨w.heap.size, 0, none⟩) (hg.block _ (by simp) (by intro e; simp at e; omega))]; exact World.frozen?_alloc_at _ _ _ _ rfl
  clear hr hg
  go_wp2_with (go_at_call 33; refine (want_no _ _).mono ?_; rintro e w' ⟨rfl, rfl⟩)
  exact ⟨rfl, HB.out.g, rfl⟩

theorem value_upTo (m : Nat) : ∀ d, 16 ≤ d + m → d ≤ 16 → ValueAt d := by
  induction m with
  | zero =>
    intro d hd hd2 R D l w h hl
    have : d = 16 := by omega
    subst this
    match l, h with
    | [], h => exact value_end R D 16 w h
    | c :: r, h =>
      by_cases h1 : c.toNat = 1
      · rw [dec_1 _ c r h1]; exact value_int R D 16 c r w h h1
      · by_cases h2 : c.toNat = 2
        · rw [dec_2 _ c r h2]; exact value_text R D 16 c r w h h2
        · by_cases h3 : c.toNat = 3
          · rw [show 16 - 16 = 0 from rfl, dec_30 c r h3]; exact value_deep 16 (by omega) (by omega) R D c r w h h3
          · rw [dec_x _ c r (by omega)]; exact value_bad R D 16 c r w h (by omega)
  | succ m ih =>
    intro d hd hd2 R D l w h hl
    by_cases hd16 : d = 16
    · exact ih d (by omega) hd2 R D l w h hl
    match l, h, hl with
    | [], h, _ =>
      have : dec (16 - d) [] = none := by cases 16 - d <;> rfl
      rw [this]; exact value_end R D d w h
    | c :: r, h, hl =>
      by_cases h1 : c.toNat = 1
      · rw [dec_1 _ c r h1]; exact value_int R D d c r w h h1
      · by_cases h2 : c.toNat = 2
        · rw [dec_2 _ c r h2]; exact value_text R D d c r w h h2
        · by_cases h3 : c.toNat = 3
          · rw [show 16 - d = (15 - d) + 1 from by omega, dec_3 _ c r h3]
            exact value_list d (by omega) (ih (d + 1) (by omega) (by omega)) R D c r w h h3 (by simp at hl; omega)
          · rw [dec_x _ c r (by omega)]; exact value_bad R D d c r w h (by omega)

theorem value_any : ValueAt 0 := value_upTo 16 0 (by omega) (by omega)

end Go.Proofs.Ytjhecmmbpmpmgaa
