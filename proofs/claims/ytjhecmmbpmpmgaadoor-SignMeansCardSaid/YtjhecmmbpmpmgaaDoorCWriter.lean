/- codec's writer by its contracts. -/
import Derived.Test.YtjhecmmbpmpmgaaDoorCNum
import Derived.Deep.RegionHeld3
import Derived.StillTactics
namespace Go.Proofs.YtjhecmmbpmpmgaaDoor
open Go.RowKit Go.Lib

set_option maxRecDepth 100000 in
set_option maxHeartbeats 800000 in
theorem write_int (xs : List UInt8) (v : Value) (k n : Int) (s : ByteArray) (A : Option Addr) (len cap : Nat) (w : World) (hown : w.ownsRow 0 5 1 v xs.length (bc xs)) (hn : Ok n) (hx : xs.length < 900000000000) :
    Calls Tryd.prog 79 #[v, .agg #[.int .i64 k, .int .i64 n, .string s, .slice A len cap]] w (RowPost (xs ++ 1 :: num (unsg n).toNat) v w) := by
  obtain ⟨i0, hi, hz0, hz1, hz2⟩ := info_parts Tryd.infoU8
  have hub : 0 ≤ unsg n ∧ unsg n < 18446744073709551616 := by unfold unsg; obtain ⟨h1, h2⟩ := hn; split <;> omega
  have hblk : some w.heap.size ≠ v.ownBlock := fun e => by have := (hown.lt _ e.symm).2; omega
  have HU := Lib.hid hub; clear hub
  have HN := Lib.hid hn; clear hn
  go_enter Tryd.func79, Tryd.ntmps79
  go_wp2_with fail
  have hc1 : (w.alloc (Obj.cells #[Value.int IntKind.i64 k, Value.int IntKind.i64 n, Value.string s, Value.slice A len cap] 41)).cell? ⟨w.heap.size, 1, none⟩ = some (.int .i64 n) := by
    rw [World.cell?_alloc_at _ _ _ _ rfl]; rfl
  have ho1 := hown.alloc (Obj.cells #[Value.int IntKind.i64 k, Value.int IntKind.i64 n, Value.string s, Value.slice A len cap] 41)
  have hw1 := Wr.below (v := v) (below1 (w := w) (Obj.cells #[Value.int IntKind.i64 k, Value.int IntKind.i64 n, Value.string s, Value.slice A len cap] 41))
  have hsz : (w.alloc (Obj.cells #[Value.int IntKind.i64 k, Value.int IntKind.i64 n, Value.string s, Value.slice A len cap] 41)).heap.size = w.heap.size + 1 := by simp
  generalize hB : w.heap.size = B at *
  generalize (w.alloc (Obj.cells #[Value.int IntKind.i64 k, Value.int IntKind.i64 n, Value.string s, Value.slice A len cap] 41)) = w1 at *
  go_region_held3 (fun w' => w'.cell? ⟨B, 1, none⟩ = some (.int .i64 n)) (first | go_keep | (exact (hwr.cell (by go_keep) hblk)) | (exact hwr3.cell (hwr.cell (by go_keep) hblk) hb3))
    (first
     | (refine step_app _ (by rfl) _ _ 22 (by rfl) 5 i0 (.int .u8 0) 1 1 Tryd.underlying22 hi hz0 hz1 hz2 rfl (by decide) _ _ _ (by rfl) ((ho1.alloc _).drew) ⟨B + 1, 0, none⟩ 1 1 [.int .u8 1] (by rfl) (by rfl) (by intro j u hj; rw [← hsz]; exact cell_one_new w1.drew _ _ j u hj) oneInt (by unfold maxLen; omega) (by omega) ?_; intro v2 w2 hown2 hwr _; have hb3 := hwr.ne (k := B) (by simp; omega) hblk)
     | (go_at_call 81; refine (unsigned_any n _ HN.out).mono ?_; rintro e w' ⟨rfl, rfl⟩)
     | (go_at_call 80; refine (numeral_int (xs ++ [1]) _ _ _ (own_snoc hown2 rfl) HU.out.1 HU.out.2 (by simp; omega)).mono ?_; rintro e w3 ⟨v3, rfl, hown3, hwr3⟩))
  go_wp2
  go_ret
  exact ⟨_, rfl, by simpa using hown3, hw1.trans ((Wr.below (((Below.refl _ _).alloc (Nat.le_refl _) _).drew)).trans (hwr.trans hwr3))⟩

theorem strCells_bc (s : ByteArray) : strCells s = bc s.data.toList := rfl

set_option maxRecDepth 100000 in
set_option maxHeartbeats 800000 in
theorem write_text (xs : List UInt8) (v : Value) (k n : Int) (s : ByteArray) (A : Option Addr) (len cap : Nat) (w : World) (hown : w.ownsRow 0 5 1 v xs.length (bc xs)) (hx : xs.length + s.size < 900000000000) :
    Calls Tryd.prog 82 #[v, .agg #[.int .i64 k, .int .i64 n, .string s, .slice A len cap]] w (RowPost (xs ++ 2 :: (num s.size ++ s.data.toList)) v w) := by
  obtain ⟨i0, hi, hz0, hz1, hz2⟩ := info_parts Tryd.infoU8
  have hnl := num_len s.size
  have hblk : some w.heap.size ≠ v.ownBlock := fun e => by have := (hown.lt _ e.symm).2; omega
  have hsl : s.data.toList.length = s.size := rfl
  have HSL := Lib.hid hsl; clear hsl
  go_enter Tryd.func82, Tryd.ntmps82
  go_wp2_with fail
  have hc1 : (w.alloc (Obj.cells #[Value.int IntKind.i64 k, Value.int IntKind.i64 n, Value.string s, Value.slice A len cap] 41)).cell? ⟨w.heap.size, 2, none⟩ = some (.string s) := by
    rw [World.cell?_alloc_at _ _ _ _ rfl]; rfl
  have ho1 := hown.alloc (Obj.cells #[Value.int IntKind.i64 k, Value.int IntKind.i64 n, Value.string s, Value.slice A len cap] 41)
  have hw1 := Wr.below (v := v) (below1 (w := w) (Obj.cells #[Value.int IntKind.i64 k, Value.int IntKind.i64 n, Value.string s, Value.slice A len cap] 41))
  have hsz : (w.alloc (Obj.cells #[Value.int IntKind.i64 k, Value.int IntKind.i64 n, Value.string s, Value.slice A len cap] 41)).heap.size = w.heap.size + 1 := by simp
  generalize hB : w.heap.size = B at *
  generalize (w.alloc (Obj.cells #[Value.int IntKind.i64 k, Value.int IntKind.i64 n, Value.string s, Value.slice A len cap] 41)) = w1 at *
  go_region_held3 (fun w' => w'.cell? ⟨B, 2, none⟩ = some (.string s)) (first | go_keep | (exact (hwr.cell (by go_keep) hblk)) | (exact hwr3.cell (hwr.cell (by go_keep) hblk) hb3) | (exact hwr4.cell (hwr3.cell (hwr.cell (by go_keep) hblk) hb3) hb4))
    (first
     | (refine step_app _ (by rfl) _ _ 22 (by rfl) 5 i0 (.int .u8 0) 1 1 Tryd.underlying22 hi hz0 hz1 hz2 rfl (by decide) _ _ _ (by rfl) ((ho1.alloc _).drew) ⟨B + 1, 0, none⟩ 1 1 [.int .u8 2] (by rfl) (by rfl) (by intro j u hj; rw [← hsz]; exact cell_one_new w1.drew _ _ j u hj) oneInt (by unfold maxLen; omega) (by omega) ?_; intro v2 w2 hown2 hwr _; have hb3 := hwr.ne (k := B) (by simp; omega) hblk)
     | (refine step_app_string _ (by rfl) _ _ 22 9 (by rfl) 5 i0 Tryd.underlying22 Tryd.underlying9 hi hz0 hz1 hz2 _ _ _ (by rfl) hown3 s (by rfl) (by unfold maxLen; simp; omega) (by simp; omega) ?_; intro v4 w4 hown4 hwr4)
     | (go_at_call 80; rw [wrap_u64_len s.size (by omega)]; refine (numeral_int (xs ++ [2]) _ _ _ (own_snoc hown2 rfl) (by omega) (by omega) (by simp; omega)).mono ?_; rintro e w3 ⟨v3, rfl, hown3, hwr3⟩; rw [Int.toNat_natCast] at hown3; have hb4 := hwr3.ne (k := B) (by have := hwr.grown.size; simp at this; omega) hb3))
  go_wp2
  go_ret
  exact ⟨_, rfl, by rw [strCells_bc, ← bc_append, ← HSL.out, ← List.length_append] at hown4; simpa using hown4, hw1.trans ((Wr.below (((Below.refl _ _).alloc (Nat.le_refl _) _).drew)).trans (hwr.trans (hwr3.trans hwr4)))⟩

end Go.Proofs.YtjhecmmbpmpmgaaDoor
