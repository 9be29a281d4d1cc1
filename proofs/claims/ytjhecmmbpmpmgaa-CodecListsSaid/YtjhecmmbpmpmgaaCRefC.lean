/- signatoryref01.encode by its contract. -/
import Derived.Test.YtjhecmmbpmpmgaaCRefB
import Derived.Deep.RegionHeld3
import Derived.StillTactics
namespace Go.Proofs.Ytjhecmmbpmpmgaa
open Go.RowKit Go.Lib

theorem strCells_bc (s : ByteArray) : strCells s = bc s.data.toList := rfl

theorem own_keep {w w1 : World} {B : Nat} {e : TypeId} {size n : Nat} {v : Value} {xs : List Value} (h : w.ownsRow B e size v n xs) (hb : Below w.heap.size w w1) : w1.ownsRow B e size v n xs :=
  h.kept (World.grownBy.mk hb.os hb.tape hb.output hb.size (fun k hk _ => hb.block k hk) : w.grownBy w1 none) (by cases v.ownBlock <;> simp)

theorem enc_pos (x : V) : 0 < x.enc.length := by
  obtain ⟨k, n, s, l⟩ := x
  rw [V.enc]; split
  · simp
  · split <;> simp

/-- behind append(row, new bytes...) -/
theorem new_after {w w1 w2 : World} {v v2 : Value} {X : Nat} (hb : Below X w w1) (hX : w.heap.size = X) (hv : ∀ k, v.ownBlock = some k → X ≤ k) (hw : Wr w1 v w2 v2) : Below X w w2 ∧ ∀ k, v2.ownBlock = some k → X ≤ k := by
  have hs := hb.size
  refine ⟨hb.trans (hw.toBelow (by omega) hv), fun k hk => ?_⟩
  rcases hw.fresh with h | h
  · exact hv k (h ▸ hk)
  · have := h k hk; omega

set_option maxRecDepth 100000 in
set_option maxHeartbeats 800000 in
theorem ref_enc_int (n : Int) (s : ByteArray) (A : Option Addr) (len cap : Nat) (w : World) (hn : Ok n) :
    Calls Try.prog 27 #[.agg #[.int .i64 1, .int .i64 n, .string s, .slice A len cap]] w (NewBytes (1 :: num (unsg n).toNat) w) := by
  obtain ⟨i0, hi, hz0, hz1, hz2⟩ := info_parts Try.infoU8
  have hub : 0 ≤ unsg n ∧ unsg n < 18446744073709551616 := by unfold unsg; obtain ⟨h1, h2⟩ := hn; split <;> omega
  have HU := Lib.hid hub; have HN := Lib.hid hn; clear hub hn
  have hnl := num_len (unsg n).toNat
  go_enter Try.func27, Try.ntmps27
  go_wp2_with (go_at_call 43; refine (ref_unsigned n _ HN.out).mono ?_; rintro e w' ⟨rfl, rfl⟩)
  refine (ref_numeral_int _ _ HU.out.1 HU.out.2).mono ?_
  rintro e w1 ⟨v1, rfl, hown1, hb1, hnew1⟩
  obtain ⟨g1, c1, rfl⟩ := own_form hown1 (num_pos _)
  have hcs := hown1.cells (g := g1) rfl
  have hb0 := below2 (w := w) (Obj.cells #[.int .i64 1, .int .i64 n, .string s, .slice A len cap] 24) (Obj.cells #[.int .u8 1] 5)
  have ho := own_keep (own_lit2 (w := w.alloc (Obj.cells #[.int .i64 1, .int .i64 n, .string s, .slice A len cap] 24)) (c := 1) (z := 1) (g := w.heap.size + 1) rfl (by simp)) hb1
  go_wp2_with (at_builtin; refine wpList_app _ rfl _ _ 27 rfl 5 i0 (.int .u8 0) 1 1 Try.underlying27 hi hz0 hz1 hz2 rfl (by decide) _ _ _ rfl ho ⟨g1, 0, none⟩ _ c1 (bc (num (unsg n).toNat)) rfl (by rw [bc_len, Nat.mul_one]) hcs bc_one (by unfold maxLen; omega) (by omega) ?_; intro v2 w2 hown2 hwr2 _)
  go_ret
  have hs1 := hb1.size
  obtain ⟨f1, f2⟩ := new_after (hb0.trans (hb1.mono (by simp; omega))) rfl (fun k hk => by have hk' : some _ = some k := hk; injection hk' with hk'; simp at hk'; omega) hwr2
  exact ⟨v2, rfl, by rw [show bc (1 :: num (unsg n).toNat) = bc [1] ++ bc (num (unsg n).toNat) from by simp [bc], List.length_cons, Nat.add_comm]; exact hown2, f1, f2⟩

theorem second_order {w w1 w3 : World} {B : Nat} {s : ByteArray} (hBw : B < w1.drew.heap.size) (hc1 : w1.cell? ⟨B, 2, none⟩ = some (.string s)) (hb3 : Below w1.drew.heap.size w1.drew w3) (hb0 : Below B w w1) (o : Obj) :
    (w3.alloc o).cell? ⟨B, 2, none⟩ = some (.string s) ∧ some B ≠ (Value.slice (some ⟨w3.heap.size, 0, none⟩) 1 1).ownBlock ∧ (∀ k, (Value.slice (some ⟨w3.heap.size, 0, none⟩) 1 1).ownBlock = some k → B ≤ k) ∧ B < (w3.alloc o).heap.size ∧
    Below B w (w3.alloc o) := by
  have hs := hb3.size
  refine ⟨?_, fun e => ?_, fun k hk => ?_, by simp; omega, ?_⟩
  · rw [World.cell?_alloc_past _ _ _ (show B < w3.heap.size by omega)]
    exact (hb3.cell (p := ⟨B, 2, none⟩) hBw).trans hc1
  · have e' : some B = some w3.heap.size := e
    injection e' with e'; omega
  · have e' : some w3.heap.size = some k := hk
    injection e' with e'; omega
  · exact (hb0.trans ((Below.refl _ w1).drew)).trans ((hb3.mono (by omega)).alloc (by omega) o)

set_option maxRecDepth 100000 in
set_option maxHeartbeats 1600000 in
theorem ref_enc_text (n : Int) (s : ByteArray) (A : Option Addr) (len cap : Nat) (w : World) (hx : s.size < 900000000000) :
    Calls Try.prog 27 #[.agg #[.int .i64 2, .int .i64 n, .string s, .slice A len cap]] w (NewBytes (2 :: (num s.size ++ s.data.toList)) w) := by
  obtain ⟨i0, hi, hz0, hz1, hz2⟩ := info_parts Try.infoU8
  have hnl := num_len s.size
  have hsl : s.data.toList.length = s.size := rfl
  have HSL := Lib.hid hsl; clear hsl
  go_enter Try.func27, Try.ntmps27
  go_wp2_with fail
  have hc1 : (w.alloc (Obj.cells #[Value.int IntKind.i64 2, Value.int IntKind.i64 n, Value.string s, Value.slice A len cap] 24)).cell? ⟨w.heap.size, 2, none⟩ = some (.string s) := by
    rw [World.cell?_alloc_at _ _ _ _ rfl]; rfl
  have hb0 := below1 (w := w) (Obj.cells #[Value.int IntKind.i64 2, Value.int IntKind.i64 n, Value.string s, Value.slice A len cap] 24)
  have hsz : (w.alloc (Obj.cells #[Value.int IntKind.i64 2, Value.int IntKind.i64 n, Value.string s, Value.slice A len cap] 24)).heap.size = w.heap.size + 1 := by simp
  generalize hB : w.heap.size = B at *
  generalize (w.alloc (Obj.cells #[Value.int IntKind.i64 2, Value.int IntKind.i64 n, Value.string s, Value.slice A len cap] 24)) = w1 at *
  have ho1 := Lib.hid (own_lit2 (w := w1.drew) (c := 2) (z := 2) (g := B + 1) rfl hsz)
  have hcc : (w1.drew.alloc (Obj.cells #[.int .u8 2] 5)).cell? ⟨B, 2, none⟩ = some (.string s) := by rw [World.cell?_alloc_past _ _ _ (by show B < w1.heap.size; omega)]; exact hc1
  have hBs : B < (w1.drew.alloc (Obj.cells #[.int .u8 2] 5)).heap.size := by show B < (w1.heap.push _).size; simp; omega
  have hBn1 := Lib.hid (show some B ≠ (Value.slice (some ⟨B + 1, 0, none⟩) 1 1).ownBlock from by intro e; have e' : some B = some (B + 1) := e; injection e' with e'; omega)
  have hBw : B < w1.drew.heap.size := by show B < w1.heap.size; omega
  have hvn1 := Lib.hid (show ∀ k, (Value.slice (some ⟨B + 1, 0, none⟩) 1 1).ownBlock = some k → B ≤ k from fun k hk => by have hk' : some (B + 1) = some k := hk; injection hk' with hk'; omega)
  have h20 := Lib.hid (show B ≤ (w1.drew.alloc (Obj.cells #[.int .u8 2] 5)).heap.size by omega)
  have h21 := Lib.hid (hb0.trans (((Below.refl _ w1).drew).trans ((Below.refl _ _).alloc (show B ≤ w1.drew.heap.size by show B ≤ w1.heap.size; omega) (Obj.cells #[.int .u8 2] 5))))
  go_region_held3 (fun w' => w'.cell? ⟨B, 2, none⟩ = some (.string s)) (first | go_keep | (exact hcc) | (exact (hb3.cell (p := ⟨B, 2, none⟩) hBs).trans hcc) | (exact (hb3.cell (p := ⟨B, 2, none⟩) hBw).trans hc1) | (exact hk3) | (exact hwr4.cell hk3 hBn) | (exact hwr5.cell (hwr4.cell hk3 hBn) hBn2))
    (first
     | (refine step_app _ (by rfl) _ _ 27 (by rfl) 5 i0 (.int .u8 0) 1 1 Try.underlying27 hi hz0 hz1 hz2 rfl (by decide) _ _ _ (by rfl) ho3.out ⟨g3, 0, none⟩ _ c3 (bc (num s.size)) (by rfl) (by rw [bc_len, Nat.mul_one]) hcs bc_one (by unfold maxLen; omega) (by omega) ?_; intro v4 w4 hown4 hwr4 _; have hBn2 := hwr4.ne (k := B) hB4 hBn; have hf4 := Lib.hid (new_after h22.out hB hvn.out hwr4))
     | (refine step_app_string _ (by rfl) _ _ 27 9 (by rfl) 5 i0 Try.underlying27 Try.underlying9 hi hz0 hz1 hz2 _ _ _ (by rfl) hown4 s (by rfl) (by unfold maxLen; omega) (by omega) ?_; intro v5 w5 hown5 hwr5)
     | (go_at_call 42; rw [wrap_u64_len s.size (by omega)]; refine (ref_numeral_int _ (w1.drew.alloc (Obj.cells #[.int .u8 2] 5)) (by omega) (by omega)).mono ?_; rintro e w3 ⟨v3, rfl, hown3, hb3, hnew3⟩; rw [Int.toNat_natCast] at hown3; obtain ⟨g3, c3, rfl⟩ := own_form hown3 (num_pos _); have hcs := hown3.cells (g := g3) rfl; have ho3 := Lib.hid (own_keep ho1.out hb3); have hk3 := (hb3.cell (p := ⟨B, 2, none⟩) hBs).trans hcc; have hBn := hBn1.out; have hvn := hvn1; have hB4 := Nat.lt_of_lt_of_le hBs hb3.size; have h22 := Lib.hid (h21.out.trans (hb3.mono h20.out)))
     | (go_at_call 42; rw [wrap_u64_len s.size (by omega)]; refine (ref_numeral_int _ w1.drew (by omega) (by omega)).mono ?_; rintro e w3 ⟨v3, rfl, hown3, hb3, hnew3⟩; rw [Int.toNat_natCast] at hown3; obtain ⟨g3, c3, rfl⟩ := own_form hown3 (num_pos _); have hcs := (hown3.alloc (Obj.cells #[.int .u8 2] 5)).cells (g := g3) rfl; have ho3 := Lib.hid (own_lit2 (w := w3) (c := 2) (z := 2) (g := w3.heap.size) rfl rfl); obtain ⟨hk3, hBn, hvn, hB4, h22⟩ := second_order hBw hc1 hb3 hb0 (Obj.cells #[.int .u8 2] 5); have hvn := Lib.hid hvn; have h22 := Lib.hid h22))
  all_goals
    go_wp2
    go_ret
    obtain ⟨f1, f2⟩ := hf4.out
    obtain ⟨f3, f4⟩ := new_after f1 hB f2 hwr5
    refine ⟨v5, rfl, ?_, by rw [hB]; exact f3, fun k hk => by rw [hB]; exact f4 k hk⟩
    rw [strCells_bc, ← bc_append, ← bc_append, ← HSL.out] at hown5
    simpa [Nat.add_comm, Nat.add_left_comm, Nat.add_assoc] using hown5

end Go.Proofs.Ytjhecmmbpmpmgaa
