/- codec's reader by its contracts: want, take. -/
import Derived.Test.YtjhecmmbpmpmgaaCNum
import Derived.WalkLawsBesides
namespace Go.Proofs.Ytjhecmmbpmpmgaa
open Go.RowKit Go.Lib

/-- the panic with ErrCode -/
def errChain : List PanicEntry := [{ v := .iface 28 (.int .i64 10), recovered := false }]

theorem want_ok (r : Value) (w : World) : Calls Try.prog 33 #[r, .bool true] w fun e w' => e = .returned (.tuple #[]) ∧ w' = w := by
  go_enter Try.func33, Try.ntmps33
  go_wp2_with fail
  go_end0
  exact ⟨rfl, rfl⟩

theorem want_no (r : Value) (w : World) : Calls Try.prog 33 #[r, .bool false] w fun e w' => e = .panicked errChain ∧ w' = w := by
  go_enter Try.func33, Try.ntmps33
  go_wp2_with fail
  exact ⟨rfl, rfl, rfl⟩

/-- the reader at block R has the bytes l left -/
def Rst (w : World) (R D : Nat) (l : List UInt8) : Prop :=
  ∃ off cap, w.heap[R]? = some (.cells #[.slice (some ⟨D, off, none⟩) l.length cap] 58 (0, 0)) ∧ l.length ≤ cap ∧ cap ≤ 9223372036854775807 ∧ D ≠ R ∧ D < w.heap.size ∧
    ∀ i (h : i < l.length), w.cell? ⟨D, off + i, none⟩ = some (.int .u8 (l[i].toNat : Int))

set_option maxHeartbeats 400000 in
theorem take_yes (R b off len cap n : Nat) (w : World) (hR : w.heap[R]? = some (.cells #[.slice (some ⟨b, off, none⟩) len cap] 58 (0, 0))) (hn : n ≤ len) (hl : len ≤ cap) (_hc : cap ≤ 9223372036854775807) :
    Calls Try.prog 44 #[.pointer (some ⟨R, 0, none⟩), .int .i64 n] w fun e w' => e = .returned (.slice (some ⟨b, off, none⟩) n n) ∧
      w' = w.setCell ⟨R, 0, none⟩ (.slice (some ⟨b, (if cap = n then off else off + n), none⟩) (len - n) (cap - n)) := by
  have hcell : w.cell? ⟨R, 0, none⟩ = some (.slice (some ⟨b, off, none⟩) len cap) := by rw [cell_of_row w R 0 _ _ _ hR]; rfl
  have hfr : w.frozen? ⟨R, 0, none⟩ = false := by simp [World.frozen?, hR]
  have ht : decide ((n : Int) ≤ len) = true := by simpa using hn
  clear hR
  go_enter Try.func44, Try.ntmps44
  go_wp2_with (go_at_call 33; refine (want_ok _ _).mono ?_; rintro e w' ⟨rfl, rfl⟩)
  all_goals
    go_ret
    exact ⟨rfl, rfl⟩

set_option maxHeartbeats 400000 in
theorem take_no (R n len cap : Nat) (A : Option Addr) (w : World) (hR : w.heap[R]? = some (.cells #[.slice A len cap] 58 (0, 0))) (hn : len < n) :
    Calls Try.prog 44 #[.pointer (some ⟨R, 0, none⟩), .int .i64 n] w fun e w' => e = .panicked errChain ∧ w' = w := by
  have hcell : w.cell? ⟨R, 0, none⟩ = some (.slice A len cap) := by rw [cell_of_row w R 0 _ _ _ hR]; rfl
  have ht : decide (n ≤ len) = false := by simpa using hn
  clear hR
  go_enter Try.func44, Try.ntmps44
  go_wp2_with (go_at_call 33; refine (want_no _ _).mono ?_; rintro e w' ⟨rfl, rfl⟩)
  exact ⟨rfl, rfl, rfl⟩

theorem setCell_one {w : World} {R : Nat} {x y : Value} {t : TypeId} {fr : Nat × Nat} (hR : w.heap[R]? = some (.cells #[x] t fr)) : (w.setCell ⟨R, 0, none⟩ y).heap[R]? = some (.cells #[y] t fr) := by
  simp [World.setCell, Array.getElem?_modify, hR]

theorem grown_setCell (w : World) (R : Nat) (y : Value) : w.grownBy (w.setCell ⟨R, 0, none⟩ y) (some R) :=
  ⟨rfl, rfl, rfl, by simp [World.setCell], fun k _ hk => Below.heap_setCell _ _ _ _ (fun e => hk (by rw [e]))⟩

theorem grown_trans {w w1 w2 : World} {r : Option Nat} (h : w.grownBy w1 r) (g : w1.grownBy w2 r) : w.grownBy w2 r :=
  ⟨g.os.trans h.os, g.tape.trans h.tape, g.output.trans h.output, Nat.le_trans h.size g.size, fun k hk hne => (g.block k (Nat.lt_of_lt_of_le hk h.size) hne).trans (h.block k hk hne)⟩

theorem grown_below {w w1 : World} {r : Option Nat} (h : Below w.heap.size w w1) : w.grownBy w1 r := ⟨h.os, h.tape, h.output, h.size, fun k hk _ => h.block k hk⟩

/-- the reader behind other memory's growth -/
theorem Rst.grown {w w' : World} {R R' D : Nat} {l : List UInt8} (h : Rst w R D l) (hg : w.grownBy w' (some R')) (hb : D ≠ R') (hR : R ≠ R') : Rst w' R D l := by
  obtain ⟨off, cap, h1, h2, h3, h4, h5, h6⟩ := h
  refine ⟨off, cap, by rw [hg.block R (Array.getElem?_eq_some_iff.1 h1).1 (by simpa using hR)]; exact h1, h2, h3, h4, Nat.lt_of_lt_of_le h5 hg.size, fun i hi => ?_⟩
  rw [World.cell?_of_block (w := w) (a := ⟨D, off + i, none⟩) (hg.block D h5 (by simpa using hb))]
  exact h6 i hi

theorem Rst.below {w w' : World} {R D : Nat} {l : List UInt8} (h : Rst w R D l) (hb : Below w.heap.size w w') : Rst w' R D l := by
  obtain ⟨off, cap, h1, h2, h3, h4, h5, h6⟩ := h
  refine ⟨off, cap, by rw [hb.block R (Array.getElem?_eq_some_iff.1 h1).1]; exact h1, h2, h3, h4, Nat.lt_of_lt_of_le h5 hb.size, fun i hi => ?_⟩
  rw [World.cell?_of_block (w := w) (a := ⟨D, off + i, none⟩) (hb.block D h5)]
  exact h6 i hi

/-- behind a store into the reader's cell -/
theorem Rst.step {w : World} {R b off cap n : Nat} {l : List UInt8} (hR : w.heap[R]? = some (.cells #[.slice (some ⟨b, off, none⟩) l.length cap] 58 (0, 0))) (h2 : l.length ≤ cap) (h3 : cap ≤ 9223372036854775807) (h4 : b ≠ R) (h5 : b < w.heap.size)
    (h6 : ∀ i (h : i < l.length), w.cell? ⟨b, off + i, none⟩ = some (.int .u8 (l[i].toNat : Int))) (hn : n ≤ l.length) :
    Rst (w.setCell ⟨R, 0, none⟩ (.slice (some ⟨b, (if cap = n then off else off + n), none⟩) (l.length - n) (cap - n))) R b (l.drop n) := by
  refine ⟨_, cap - n, by rw [setCell_one hR, List.length_drop], by rw [List.length_drop]; omega, by omega, h4, by simpa [World.setCell] using h5, fun i hi => ?_⟩
  have hi' : n + i < l.length := by rw [List.length_drop] at hi; omega
  have hc : (w.setCell ⟨R, 0, none⟩ (.slice (some ⟨b, (if cap = n then off else off + n), none⟩) (l.length - n) (cap - n))).heap[b]? = w.heap[b]? := Below.heap_setCell _ _ _ _ h4
  rw [World.cell?_of_block (w := w) (a := ⟨b, _, none⟩) hc, if_neg (by omega), Nat.add_assoc, h6 (n + i) hi', List.getElem_drop]

/-- take(1): one byte. -/
theorem take_one (R D : Nat) (c : UInt8) (l : List UInt8) (w : World) (h : Rst w R D (c :: l)) :
    Calls Try.prog 44 #[.pointer (some ⟨R, 0, none⟩), .int .i64 1] w fun e w' => ∃ off, e = .returned (.slice (some ⟨D, off, none⟩) 1 1) ∧
      w'.cell? ⟨D, off, none⟩ = some (.int .u8 (c.toNat : Int)) ∧ Rst w' R D l ∧ w.grownBy w' (some R) := by
  obtain ⟨off, cap, h1, h2, h3, h4, h5, h6⟩ := h
  refine (take_yes R D off (c :: l).length cap 1 w h1 (by simp) h2 h3).mono ?_
  rintro e w' ⟨rfl, rfl⟩
  refine ⟨off, rfl, ?_, Rst.step h1 h2 h3 h4 h5 h6 (by simp), grown_setCell _ _ _⟩
  rw [World.cell?_of_block (w := w) (a := ⟨D, off, none⟩) (Below.heap_setCell _ _ _ _ h4)]
  exact h6 0 (by simp)

theorem take_empty (R D : Nat) (w : World) (h : Rst w R D []) :
    Calls Try.prog 44 #[.pointer (some ⟨R, 0, none⟩), .int .i64 1] w fun e w' => e = .panicked errChain ∧ w' = w := by
  obtain ⟨off, cap, h1, h2, h3, h4, h5, h6⟩ := h
  exact take_no R 1 0 cap _ w h1 (by omega)

end Go.Proofs.Ytjhecmmbpmpmgaa
