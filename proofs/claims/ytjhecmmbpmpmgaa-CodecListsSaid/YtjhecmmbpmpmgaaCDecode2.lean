/- codec.Decode by its contract. -/
import Derived.Test.YtjhecmmbpmpmgaaCDecode
namespace Go.Proofs.Ytjhecmmbpmpmgaa
open Go.RowKit Go.Lib

/-- The value v reads as the bytes l; they lie in a block of S. -/
def Bs (w : World) (S : Nat → Prop) (l : List UInt8) (v : Value) : Prop :=
  ∃ A cap, v = .slice A l.length cap ∧ l.length ≤ cap ∧ cap ≤ 9223372036854775807 ∧
    (0 < l.length → ∃ b off, A = some ⟨b, off, none⟩ ∧ S b ∧ ∀ i (h : i < l.length), w.cell? ⟨b, off + i, none⟩ = some (.int .u8 (l[i].toNat : Int)))

theorem Bs.frame {w w' : World} {S S' : Nat → Prop} {l : List UInt8} {v : Value} (h : Bs w S l v) (hw : ∀ b, S b → w'.heap[b]? = w.heap[b]?) (hS : ∀ b, S b → S' b) : Bs w' S' l v := by
  obtain ⟨A, cap, h1, h2, h3, h4⟩ := h
  refine ⟨A, cap, h1, h2, h3, fun h0 => ?_⟩
  obtain ⟨b, off, e, hb, hc⟩ := h4 h0
  exact ⟨b, off, e, hS b hb, fun i hi => by rw [World.cell?_of_block (w := w) (a := ⟨b, off + i, none⟩) (hw b hb)]; exact hc i hi⟩

def DecodePost (l : List UInt8) (w : World) (e : Ending) (w' : World) : Prop :=
  Below w.heap.size w w' ∧ match decode l with
    | none => e = .returned (.tuple #[zeroV, .int .i64 10])
    | some x => ∃ v, e = .returned (.tuple #[v, .int .i64 0]) ∧ Rd w' (fun b => w.heap.size ≤ b) x v

theorem DecodePost.no {l : List UInt8} {w w' : World} (hb : Below w.heap.size w w') (hd : decode l = none) : DecodePost l w (.returned (.tuple #[zeroV, .int .i64 10])) w' := by
  refine ⟨hb, ?_⟩; rw [hd]

theorem below3 {w : World} (o o' o'' : Obj) : Below w.heap.size w (((w.alloc o).alloc o').alloc o'') := (below2 o o').alloc (by simp; omega) o''

set_option maxRecDepth 100000 in
set_option maxHeartbeats 800000 in
theorem value_empty (R d cap : Nat) (A : Option Addr) (w : World) (h : w.heap[R]? = some (.cells #[.slice A 0 cap] 58 (0, 0))) :
    Calls Try.prog 32 #[.pointer (some ⟨R, 0, none⟩), .int .i64 d] w fun e w' => w.grownBy w' (some R) ∧ e = .panicked errChain := by
  have HT : Hid (∀ w0, Below w.heap.size w w0 → Calls Try.prog 44 #[.pointer (some ⟨R, 0, none⟩), .int .i64 1] w0 fun e w' => e = .panicked errChain ∧ w' = w0) :=
    Lib.hid fun w0 h0 => take_no R 1 0 cap A w0 (by rw [h0.block R (Array.getElem?_eq_some_iff.1 h).1]; exact h) (by omega)
  clear h
  go_enter Try.func32, Try.ntmps32
  go_wp2_with fail
  refine (HT.out _ (below1 _)).mono ?_
  rintro e w1 ⟨rfl, rfl⟩
  exact ⟨rfl, grown_below (below1 _), rfl⟩

/-- The world in which Decode calls value. -/
def Dw (w : World) (A : Option Addr) (len cap : Nat) : World :=
  ((w.alloc (.cells #[.int .i64 0, .int .i64 0, .string ByteArray.empty, .slice none 0 0] 24)).alloc (.cells #[.int .i64 0] 28)).alloc (.cells #[.slice A len cap] 58)

theorem Dw.facts (w : World) (A : Option Addr) (len cap : Nat) : (Dw w A len cap).heap[w.heap.size]? = some (.cells #[.int .i64 0, .int .i64 0, .string ByteArray.empty, .slice none 0 0] 24 (0, 0)) ∧
    (Dw w A len cap).heap[w.heap.size + 1]? = some (.cells #[.int .i64 0] 28 (0, 0)) ∧ (Dw w A len cap).heap[w.heap.size + 2]? = some (.cells #[.slice A len cap] 58 (0, 0)) ∧
    Below w.heap.size w (Dw w A len cap) ∧ (Dw w A len cap).heap.size = w.heap.size + 3 := by
  refine ⟨?_, ?_, ?_, below3 _ _ _, by simp [Dw]⟩
  · unfold Dw; rw [Below.heap_alloc _ _ _ (by simp; omega), Below.heap_alloc _ _ _ (by simp)]; exact heap_alloc_new _ _
  · unfold Dw; rw [Below.heap_alloc _ _ _ (by simp)]; exact heap_alloc2_new _ _ _
  · unfold Dw
    have := heap_alloc_new ((w.alloc (.cells #[.int .i64 0, .int .i64 0, .string ByteArray.empty, .slice none 0 0] 24)).alloc (.cells #[.int .i64 0] 28)) (.cells #[.slice A len cap] 58)
    simpa using this

theorem decode_call {l : List UInt8} {A : Option Addr} {cap : Nat} {S : Nat → Prop} {w : World} (h : Bs w S l (.slice A l.length cap)) (hS : ∀ b, S b → b < w.heap.size) (hl : l.length ≤ 1000000000) :
    ∃ D, D < w.heap.size + 3 ∧ Calls Try.prog 32 #[.pointer (some ⟨w.heap.size + 2, 0, none⟩), .int .i64 0] (Dw w A l.length cap) (ValuePost (w.heap.size + 2) D (Dw w A l.length cap) (dec 16 l)) := by
  obtain ⟨f1, f2, f3, f4, f5⟩ := Dw.facts w A l.length cap
  by_cases h0 : 0 < l.length
  · obtain ⟨A', cap', e, h2, h3, h4⟩ := h
    injection e with e1 e2 e3
    subst e1 e3
    obtain ⟨b, off, rfl, hb, hc⟩ := h4 h0
    have hbs := hS b hb
    refine ⟨b, by omega, value_any _ b l _ ⟨off, cap, f3, h2, h3, by omega, by omega, fun i hi => ?_⟩ hl⟩
    rw [World.cell?_of_block (w := w) (a := ⟨b, off + i, none⟩) (f4.block b hbs)]
    exact hc i hi
  · have hl0 : l = [] := List.eq_nil_of_length_eq_zero (by omega)
    subst hl0
    refine ⟨0, by omega, (value_empty _ 0 cap A _ f3).mono ?_⟩
    rintro e w' ⟨hg, rfl⟩
    exact ⟨hg, rfl⟩

/-- how Decode ends after a panic -/
theorem decode_door {fn : Func} {tmps : Array Value} {l : List UInt8} {w w4 : World} (hd : decode l = none) (hfn : fn.results = #[.cell 2 24, .cell 3 28])
    (ht2 : tmps.getD 2 undef = .pointer (some ⟨w.heap.size, 0, none⟩)) (ht3 : tmps.getD 3 undef = .pointer (some ⟨w.heap.size + 1, 0, none⟩))
    {x0 x1 x2 x3 y : Value} (hV : w4.heap[w.heap.size]? = some (.cells #[x0, x1, x2, x3] 24 (0, 0))) (hE : w4.heap[w.heap.size + 1]? = some (.cells #[y] 28 (0, 0))) (hb : Below w.heap.size w w4) :
    Leaves Try.prog fn tmps (DecodePost l w) [{ target := .fn (.func 31) #[.pointer (some ⟨w.heap.size, 0, none⟩), .pointer (some ⟨w.heap.size + 1, 0, none⟩)], args := #[] }] (.panicking errChain) w4 := by
  refine leaves_cons (f := 31) (args := #[.pointer (some ⟨w.heap.size, 0, none⟩), .pointer (some ⟨w.heap.size + 1, 0, none⟩)]) (by simp) (by simp [go_sem]) ?_
  refine (catch_panicking _ _ x0 x1 x2 x3 y w4 hV hE (by omega)).mono ?_
  rintro e u' w5 ⟨rfl, rfl, q1, q2, q3⟩
  have c0 : w5.cell? ⟨w.heap.size, 0, none⟩ = some (.int .i64 0) := by rw [cell_of_row w5 _ 0 _ _ _ q1]; rfl
  have c1 : w5.cell? ⟨w.heap.size, 1, none⟩ = some (.int .i64 0) := by rw [cell_of_row w5 _ 1 _ _ _ q1]; rfl
  have c2 : w5.cell? ⟨w.heap.size, 2, none⟩ = some (.string ByteArray.empty) := by rw [cell_of_row w5 _ 2 _ _ _ q1]; rfl
  have c3 : w5.cell? ⟨w.heap.size, 3, none⟩ = some (.slice none 0 0) := by rw [cell_of_row w5 _ 3 _ _ _ q1]; rfl
  have c4 : w5.cell? ⟨w.heap.size + 1, 0, none⟩ = some (.int .i64 10) := by rw [cell_of_row w5 _ 0 _ _ _ q2]; rfl
  have ht2' : tmps[2]?.getD undef = .pointer (some ⟨w.heap.size, 0, none⟩) := by simpa using ht2
  have ht3' : tmps[3]?.getD undef = .pointer (some ⟨w.heap.size + 1, 0, none⟩) := by simpa using ht3
  refine ⟨.tuple #[zeroV, .int .i64 10], ?_, DecodePost.no ⟨q3.os.trans hb.os, q3.tape.trans hb.tape, q3.output.trans hb.output, by have := hb.size; have := q3.size; omega, fun b hbl => (q3.block b (by omega) (by omega)).trans (hb.block b hbl)⟩ hd⟩
  simp [results, hfn, ht2', ht3', go_sem, c0, c1, c2, c3, c4, zeroV]

theorem four_plain {w : World} {V : Nat} {x0 x1 x2 x3 c0 c1 c2 c3 : Value} {t : TypeId} {fr : Nat × Nat} (hV : w.heap[V]? = some (.cells #[x0, x1, x2, x3] t fr)) :
    ((((w.setCell ⟨V, 0, none⟩ c0).setCell ⟨V, 1, none⟩ c1).setCell ⟨V, 2, none⟩ c2).setCell ⟨V, 3, none⟩ c3).heap[V]? = some (.cells #[c0, c1, c2, c3] t fr) ∧
    (∀ b, b ≠ V → ((((w.setCell ⟨V, 0, none⟩ c0).setCell ⟨V, 1, none⟩ c1).setCell ⟨V, 2, none⟩ c2).setCell ⟨V, 3, none⟩ c3).heap[b]? = w.heap[b]?) ∧
    ((((w.setCell ⟨V, 0, none⟩ c0).setCell ⟨V, 1, none⟩ c1).setCell ⟨V, 2, none⟩ c2).setCell ⟨V, 3, none⟩ c3).heap.size = w.heap.size := by
  refine ⟨by rw [setCell_heap (setCell_heap (setCell_heap (setCell_heap hV)))]; rfl, fun b hb => ?_, by simp [World.setCell]⟩
  rw [setCell_heap_ne hb, setCell_heap_ne hb, setCell_heap_ne hb, setCell_heap_ne hb]

set_option maxRecDepth 100000 in
set_option maxHeartbeats 1600000 in
theorem decode_any (l : List UInt8) (v : Value) (S : Nat → Prop) (w : World) (h : Bs w S l v) (hS : ∀ b, S b → b < w.heap.size) (hl : l.length ≤ 1000000000) : Calls Try.prog 18 #[v] w (DecodePost l w) := by
  have hmf : ∀ (fn : Fn) (first cap : Array Value) (w : World), (Instr.makeFunc fn first cap).run Try.prog w = .ok (.func fn first cap) w := fun _ _ _ _ => rfl
  obtain ⟨A, cap, rfl, _⟩ := id h
  obtain ⟨D, hD, hcall⟩ := decode_call h hS hl
  have HC := Lib.hid hcall
  have HF := Lib.hid (Dw.facts w A l.length cap)
  clear hcall h
  go_enter_defers Try.func18, Try.ntmps18
  go_wp2_with fail
  refine HC.out.mono ?_
  rintro e w4 ⟨hg, he⟩
  obtain ⟨f1, f2, f3, f4, f5⟩ := HF.out
  generalize Dw w A l.length cap = w3 at *
  cases hx : dec 16 l with
  | none =>
    rw [hx] at he
    simp only at he
    subst he
    refine decode_door (by unfold decode; rw [hx]) rfl rfl rfl (x0 := .int .i64 0) (x1 := .int .i64 0) (x2 := .string ByteArray.empty) (x3 := .slice none 0 0) (y := .int .i64 0) ?_ ?_ ?_
    · rw [hg.block _ (Array.getElem?_eq_some_iff.1 f1).1 (by intro e; injection e with e; omega)]; exact f1
    · rw [hg.block _ (Array.getElem?_eq_some_iff.1 f2).1 (by intro e; injection e with e; omega)]; exact f2
    · exact f4.trans ⟨hg.os, hg.tape, hg.output, hg.size, fun k hk => hg.block k (by omega) (by intro e; injection e with e; omega)⟩
  | some y =>
    obtain ⟨⟨k', n', s', l'⟩, r⟩ := y
    rw [hx] at he
    obtain ⟨v, he, hr, hd⟩ := he
    obtain ⟨A', cap', rfl, hq⟩ := hd.head
    subst he
    have g1 : w4.heap[w.heap.size]? = some (.cells #[.int .i64 0, .int .i64 0, .string ByteArray.empty, .slice none 0 0] 24 (0, 0)) := by
      rw [hg.block _ (Array.getElem?_eq_some_iff.1 f1).1 (by intro e; injection e with e; omega)]; exact f1
    have g2 : w4.heap[w.heap.size + 1]? = some (.cells #[.int .i64 0] 28 (0, 0)) := by
      rw [hg.block _ (Array.getElem?_eq_some_iff.1 f2).1 (by intro e; injection e with e; omega)]; exact f2
    have hb4 : Below w.heap.size w w4 := f4.trans ⟨hg.os, hg.tape, hg.output, hg.size, fun k hk => hg.block k (by omega) (by intro e; injection e with e; omega)⟩
    have v0 : w4.cell? ⟨w.heap.size, 0, none⟩ = some (.int .i64 0) := by rw [cell_of_row w4 _ 0 _ _ _ g1]; rfl
    have v1 : w4.cell? ⟨w.heap.size, 1, none⟩ = some (.int .i64 0) := by rw [cell_of_row w4 _ 1 _ _ _ g1]; rfl
    have v2 : w4.cell? ⟨w.heap.size, 2, none⟩ = some (.string ByteArray.empty) := by rw [cell_of_row w4 _ 2 _ _ _ g1]; rfl
    have v3 : w4.cell? ⟨w.heap.size, 3, none⟩ = some (.slice none 0 0) := by rw [cell_of_row w4 _ 3 _ _ _ g1]; rfl
    have v4 : w4.cell? ⟨w.heap.size + 1, 0, none⟩ = some (.int .i64 0) := by rw [cell_of_row w4 _ 0 _ _ _ g2]; rfl
    have p1 : ∀ o, w4.frozen? ⟨w.heap.size, o, none⟩ = false := fun o => by simp [World.frozen?, g1]
    have p2 : ∀ o, w4.frozen? ⟨w.heap.size + 1, o, none⟩ = false := fun o => by simp [World.frozen?, g2]
    obtain ⟨rA, rcap, hrc, hrl⟩ := hr.cellAt
    have HX := Lib.hid hx; have HD := Lib.hid hd; have G1 := Lib.hid g1; have G2 := Lib.hid g2; have HB4 := Lib.hid hb4; have HG := Lib.hid hg; have HF4 := Lib.hid f5
    clear hx hd g1 g2 hb4 f1 f2 f3 f4 f5 hg hr hq
    cases r with
    | nil =>
      have HDD : Hid (decode l = some (.mk k' n' s' l')) := Lib.hid (by unfold decode; rw [HX.out])
      go_wp2_with (go_at_call 33; refine (want_ok _ _).mono ?_; rintro e w' ⟨rfl, rfl⟩)
      generalize hV : w.heap.size = X at *
      have e4 := four_plain G1.out (c0 := .int .i64 k') (c1 := .int .i64 n') (c2 := .string s') (c3 := .slice A' l'.length cap')
      obtain ⟨h4, k4, s4⟩ := e4
      have hb5 : Below X w ((((w4.setCell ⟨X, 0, none⟩ (.int .i64 k')).setCell ⟨X, 1, none⟩ (.int .i64 n')).setCell ⟨X, 2, none⟩ (.string s')).setCell ⟨X, 3, none⟩ (.slice A' l'.length cap')) :=
        (((HB4.out.setCell (p := ⟨X, 0, none⟩) (Nat.le_refl _) _).setCell (p := ⟨X, 1, none⟩) (Nat.le_refl _) _).setCell (p := ⟨X, 2, none⟩) (Nat.le_refl _) _).setCell (p := ⟨X, 3, none⟩) (Nat.le_refl _) _
      generalize ((((w4.setCell ⟨X, 0, none⟩ (.int .i64 k')).setCell ⟨X, 1, none⟩ (.int .i64 n')).setCell ⟨X, 2, none⟩ (.string s')).setCell ⟨X, 3, none⟩ (.slice A' l'.length cap')) = w5 at *
      obtain ⟨q1, q2, q3⟩ := caught_world h4 ((k4 (X + 1) (by omega)).trans G2.out) (by omega) (c0 := .int .i64 k') (c1 := .int .i64 n') (c2 := .string s') (c3 := .slice A' l'.length cap') (z := .int .i64 0)
      refine leaves_cons (f := 31) (args := #[.pointer (some ⟨X, 0, none⟩), .pointer (some ⟨X + 1, 0, none⟩)]) (by simp) (by simp [go_sem]) ?_
      refine (catch_idle _ _ _).mono ?_
      rintro e u' w9 ⟨rfl, rfl, rfl⟩
      have c0 := cell_of_row _ _ 0 _ _ _ q1
      have c1 := cell_of_row _ _ 1 _ _ _ q1
      have c2 := cell_of_row _ _ 2 _ _ _ q1
      have c3 := cell_of_row _ _ 3 _ _ _ q1
      have c4 := cell_of_row _ _ 0 _ _ _ q2
      refine ⟨.tuple #[.agg #[.int .i64 k', .int .i64 n', .string s', .slice A' l'.length cap'], .int .i64 0], ?_, ?_, ?_⟩
      · generalize (((((w5.setCell ⟨X, 0, none⟩ (.int .i64 k')).setCell ⟨X, 1, none⟩ (.int .i64 n')).setCell ⟨X, 2, none⟩ (.string s')).setCell ⟨X, 3, none⟩ (.slice A' l'.length cap')).setCell ⟨X + 1, 0, none⟩ (.int .i64 0)) = w9 at *
        simp at c0 c1 c2 c3 c4
        simp [results, Try.results18, go_sem, c0, c1, c2, c3, c4]
      · rw [hV]; exact hb5.trans ⟨q3.os, q3.tape, q3.output, q3.size, fun b hb => q3.block b (by omega) (by omega)⟩
      · rw [HDD.out]
        refine ⟨_, rfl, HD.out.frame (fun b hb => ?_) (fun b hb => ?_)⟩
        · have := HF4.out
          rw [q3.block b (by omega) (by omega), k4 b (by omega)]
        · have := HF4.out; omega
    | cons c r =>
      have HDD : Hid (decode l = none) := Lib.hid (by unfold decode; rw [HX.out])
      have hrl0 : ((((c :: r).length : Nat) : Int) == 0) = false := by simp; omega
      go_wp2_with (go_at_call 33; refine (want_no _ _).mono ?_; rintro e w' ⟨rfl, rfl⟩)
      obtain ⟨h4, k4, s4⟩ := four_plain G1.out (c0 := .int .i64 k') (c1 := .int .i64 n') (c2 := .string s') (c3 := .slice A' l'.length cap')
      refine decode_door HDD.out rfl rfl rfl h4 ((k4 (w.heap.size + 1) (by omega)).trans G2.out) ?_
      exact (((HB4.out.setCell (p := ⟨w.heap.size, 0, none⟩) (Nat.le_refl _) _).setCell (p := ⟨w.heap.size, 1, none⟩) (Nat.le_refl _) _).setCell (p := ⟨w.heap.size, 2, none⟩) (Nat.le_refl _) _).setCell (p := ⟨w.heap.size, 3, none⟩) (Nat.le_refl _) _

end Go.Proofs.Ytjhecmmbpmpmgaa
