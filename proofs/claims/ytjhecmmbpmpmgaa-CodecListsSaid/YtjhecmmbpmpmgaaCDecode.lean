/- codec.Decode by its contract. -/
import Derived.Test.YtjhecmmbpmpmgaaCRead5
import Derived.Recover
import Derived.Defers
import Derived.Laws.EntriesVeiled
namespace Go.Proofs.Ytjhecmmbpmpmgaa
open Go.RowKit Go.Lib

def zeroV : Value := .agg #[.int .i64 0, .int .i64 0, .string ByteArray.empty, .slice none 0 0]

/-- only blocks V and E may have turned -/
structure Kept2 (V E : Nat) (w w' : World) : Prop where
  os : w'.os = w.os
  tape : w'.tape = w.tape
  output : w'.output = w.output
  size : w.heap.size ≤ w'.heap.size
  block : ∀ b, b ≠ V → b ≠ E → w'.heap[b]? = w.heap[b]?

theorem Kept2.drew {V E : Nat} {w w' : World} (h : Kept2 V E w w') : Kept2 V E w w'.drew := ⟨h.os, h.tape, h.output, h.size, h.block⟩

/-- what the deferred function leaves after a panic -/
def Caught (V E : Nat) (w : World) (e : Ending) (u' : FrameMode) (w' : World) : Prop :=
  e = .returned (.tuple #[]) ∧ u' = .panicking [{ v := .iface 28 (.int .i64 10), recovered := true }] ∧ w'.heap[V]? = some (.cells #[.int .i64 0, .int .i64 0, .string ByteArray.empty, .slice none 0 0] 24 (0, 0)) ∧
  w'.heap[E]? = some (.cells #[.int .i64 10] 28 (0, 0)) ∧ Kept2 V E w w'

theorem setCell_heap_ne {w : World} {a : Addr} {y : Value} {b : Nat} (h : b ≠ a.block) : (w.setCell a y).heap[b]? = w.heap[b]? := Below.heap_setCell _ _ _ _ h

theorem caught_world {w : World} {V E : Nat} {x0 x1 x2 x3 y c0 c1 c2 c3 z : Value} (hV : w.heap[V]? = some (.cells #[x0, x1, x2, x3] 24 (0, 0))) (hE : w.heap[E]? = some (.cells #[y] 28 (0, 0))) (hne : V ≠ E) :
    (((((w.setCell ⟨V, 0, none⟩ c0).setCell ⟨V, 1, none⟩ c1).setCell ⟨V, 2, none⟩ c2).setCell ⟨V, 3, none⟩ c3).setCell ⟨E, 0, none⟩ z).heap[V]? = some (.cells #[c0, c1, c2, c3] 24 (0, 0)) ∧
    (((((w.setCell ⟨V, 0, none⟩ c0).setCell ⟨V, 1, none⟩ c1).setCell ⟨V, 2, none⟩ c2).setCell ⟨V, 3, none⟩ c3).setCell ⟨E, 0, none⟩ z).heap[E]? = some (.cells #[z] 28 (0, 0)) ∧
    Kept2 V E w (((((w.setCell ⟨V, 0, none⟩ c0).setCell ⟨V, 1, none⟩ c1).setCell ⟨V, 2, none⟩ c2).setCell ⟨V, 3, none⟩ c3).setCell ⟨E, 0, none⟩ z) := by
  have h4 : ((((w.setCell ⟨V, 0, none⟩ c0).setCell ⟨V, 1, none⟩ c1).setCell ⟨V, 2, none⟩ c2).setCell ⟨V, 3, none⟩ c3).heap[V]? = some (.cells #[c0, c1, c2, c3] 24 (0, 0)) := by
    rw [setCell_heap (setCell_heap (setCell_heap (setCell_heap hV)))]; rfl
  have k4 : ∀ b, b ≠ V → ((((w.setCell ⟨V, 0, none⟩ c0).setCell ⟨V, 1, none⟩ c1).setCell ⟨V, 2, none⟩ c2).setCell ⟨V, 3, none⟩ c3).heap[b]? = w.heap[b]? := fun b hb => by
    rw [setCell_heap_ne hb, setCell_heap_ne hb, setCell_heap_ne hb, setCell_heap_ne hb]
  have s4 : ((((w.setCell ⟨V, 0, none⟩ c0).setCell ⟨V, 1, none⟩ c1).setCell ⟨V, 2, none⟩ c2).setCell ⟨V, 3, none⟩ c3).heap.size = w.heap.size := by simp [World.setCell]
  have o4 : ((((w.setCell ⟨V, 0, none⟩ c0).setCell ⟨V, 1, none⟩ c1).setCell ⟨V, 2, none⟩ c2).setCell ⟨V, 3, none⟩ c3).os = w.os ∧ ((((w.setCell ⟨V, 0, none⟩ c0).setCell ⟨V, 1, none⟩ c1).setCell ⟨V, 2, none⟩ c2).setCell ⟨V, 3, none⟩ c3).tape = w.tape ∧
    ((((w.setCell ⟨V, 0, none⟩ c0).setCell ⟨V, 1, none⟩ c1).setCell ⟨V, 2, none⟩ c2).setCell ⟨V, 3, none⟩ c3).output = w.output := ⟨rfl, rfl, rfl⟩
  generalize ((((w.setCell ⟨V, 0, none⟩ c0).setCell ⟨V, 1, none⟩ c1).setCell ⟨V, 2, none⟩ c2).setCell ⟨V, 3, none⟩ c3) = w4 at *
  refine ⟨by rw [setCell_heap_ne hne]; exact h4, ?_, o4.1, o4.2.1, o4.2.2, ?_, fun b h1 h2 => by rw [setCell_heap_ne h2]; exact k4 b h1⟩
  · rw [setCell_heap ((k4 E hne.symm).trans hE)]; rfl
  · simp [World.setCell] at s4 ⊢; omega

set_option maxRecDepth 100000 in
set_option maxHeartbeats 800000 in
theorem catch_panicking (V E : Nat) (x0 x1 x2 x3 y : Value) (w : World) (hV : w.heap[V]? = some (.cells #[x0, x1, x2, x3] 24 (0, 0))) (hE : w.heap[E]? = some (.cells #[y] 28 (0, 0))) (hne : V ≠ E) :
    CallsD Try.prog 31 #[.pointer (some ⟨V, 0, none⟩), .pointer (some ⟨E, 0, none⟩)] (.panicking errChain) w (Caught V E w) := by
  have v0 : w.cell? ⟨V, 0, none⟩ = some x0 := by rw [cell_of_row w _ 0 _ _ _ hV]; rfl
  have v1 : w.cell? ⟨V, 1, none⟩ = some x1 := by rw [cell_of_row w _ 1 _ _ _ hV]; rfl
  have v2 : w.cell? ⟨V, 2, none⟩ = some x2 := by rw [cell_of_row w _ 2 _ _ _ hV]; rfl
  have v3 : w.cell? ⟨V, 3, none⟩ = some x3 := by rw [cell_of_row w _ 3 _ _ _ hV]; rfl
  have e0 : w.cell? ⟨E, 0, none⟩ = some y := by rw [cell_of_row w _ 0 _ _ _ hE]; rfl
  have f1 : ∀ o, w.frozen? ⟨V, o, none⟩ = false := fun o => by simp [World.frozen?, hV]
  have f2 : ∀ o, w.frozen? ⟨E, o, none⟩ = false := fun o => by simp [World.frozen?, hE]
  have HV := Lib.hid hV; have HE := Lib.hid hE
  clear hV hE
  have hta : ∀ w : World, (Instr.typeAssert (.iface 28 (.int .i64 10)) 20 28 false).run Try.prog w = .ok (.int .i64 10) w := fun _ => by kernel_rfl
  refine callsD_of_wpS Try.func31 rfl fun c₀ cs hu => ?_
  apply wpS_seq
  apply wpS_region
  simp [wpOpsS, go_sem, recoverD, hu, errChain, Try.ntmps31, Exit.thenS]
  refine wpS_of_wp ?_
  simp only [Array.replicate_succ, Array.replicate_zero, List.push_toArray, List.append_toArray, List.nil_append, List.cons_append, List.setIfInBounds_toArray, List.set_cons_zero, List.set_cons_succ]
  go_wp2_with fail
  go_region
  obtain ⟨q1, q2, q3⟩ := caught_world HV.out HE.out hne (c0 := .int .i64 0) (c1 := .int .i64 0) (c2 := .string { data := #[] }) (c3 := .slice none 0 0) (z := .int .i64 10)
  have q1' : _ = some (Obj.cells #[.int .i64 0, .int .i64 0, .string ByteArray.empty, .slice none 0 0] 24 (0, 0)) := q1
  refine ⟨rfl, .panicking [{ v := .iface 28 (.int .i64 10), recovered := true }], rfl, .tuple #[], ?_, ?_⟩
  · exact results_none rfl _ _ _
  · refine ⟨rfl, rfl, q1', q2, ?_⟩
    exact q3.drew

set_option maxRecDepth 100000 in
set_option maxHeartbeats 800000 in
theorem catch_idle (V E : Nat) (w : World) :
    CallsD Try.prog 31 #[.pointer (some ⟨V, 0, none⟩), .pointer (some ⟨E, 0, none⟩)] .returning w fun e u' w' => e = .returned (.tuple #[]) ∧ u' = .returning ∧ w' = w := by
  refine callsD_of_wpS Try.func31 rfl fun c₀ cs hu => ?_
  apply wpS_seq
  apply wpS_region
  simp [wpOpsS, go_sem, recoverD, hu, Try.ntmps31, Exit.thenS]
  refine wpS_of_wp ?_
  simp only [Array.replicate_succ, Array.replicate_zero, List.push_toArray, List.append_toArray, List.nil_append, List.cons_append, List.setIfInBounds_toArray, List.set_cons_zero, List.set_cons_succ]
  go_wp2_with fail
  cases c₀
  simp_all [bodyPostS, results, Try.results31]

end Go.Proofs.Ytjhecmmbpmpmgaa
