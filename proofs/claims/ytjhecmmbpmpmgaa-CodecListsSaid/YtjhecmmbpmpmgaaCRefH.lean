/- signatoryref01's Reader by its contracts: next. -/
import Derived.Test.YtjhecmmbpmpmgaaCDecode2
import Derived.Test.YtjhecmmbpmpmgaaCRefG
namespace Go.Proofs.Ytjhecmmbpmpmgaa
open Go.RowKit Go.Lib

/-- the reference's reader at block R: it stands at i of the bytes B -/
structure RB (w : World) (R : Nat) (S : Nat → Prop) (B : List UInt8) (A : Option Addr) (cap i : Nat) (bad : Bool) : Prop where
  c : w.heap[R]? = some (.cells #[.slice A B.length cap, .int .i64 i, .bool bad] 62 (0, 0))
  b : Bs w S B (.slice A B.length cap)
  s : ∀ b, S b → b ≠ R ∧ b < w.heap.size
  le : i ≤ B.length

theorem RB.grown {w w' : World} {R R' : Nat} {S : Nat → Prop} {B : List UInt8} {A : Option Addr} {cap i : Nat} {bad : Bool} (h : RB w R S B A cap i bad) (hg : w.grownBy w' (some R')) (hb : ¬ S R') (hR : R ≠ R') : RB w' R S B A cap i bad := by
  refine ⟨by rw [hg.block R (Array.getElem?_eq_some_iff.1 h.c).1 (by simpa using hR)]; exact h.c, h.b.frame (fun b hs => hg.block b (h.s b hs).2 (fun e => by injection e with e; exact hb (e ▸ hs))) (fun _ h => h), fun b hs => ⟨(h.s b hs).1, by have := (h.s b hs).2; have := hg.size; omega⟩, h.le⟩

theorem RB.below {w w' : World} {R : Nat} {S : Nat → Prop} {B : List UInt8} {A : Option Addr} {cap i : Nat} {bad : Bool} (h : RB w R S B A cap i bad) (hg : Below w.heap.size w w') : RB w' R S B A cap i bad := by
  refine ⟨by rw [hg.block R (Array.getElem?_eq_some_iff.1 h.c).1]; exact h.c, h.b.frame (fun b hs => hg.block b (h.s b hs).2) (fun _ h => h), fun b hs => ⟨(h.s b hs).1, by have := (h.s b hs).2; have := hg.size; omega⟩, h.le⟩

theorem RB.at_ {w : World} {R : Nat} {S : Nat → Prop} {B : List UInt8} {A : Option Addr} {cap i : Nat} {bad : Bool} (h : RB w R S B A cap i bad) (j : Nat) (hj : j ≤ B.length) : RB (w.setCell ⟨R, 1, none⟩ (.int .i64 j)) R S B A cap j bad := by
  refine ⟨by rw [setCell_heap h.c]; rfl, h.b.frame (fun b hs => Below.heap_setCell _ _ _ _ (h.s b hs).1) (fun _ h => h), fun b hs => ⟨(h.s b hs).1, by simpa [World.setCell] using (h.s b hs).2⟩, hj⟩

theorem RB.bad_ {w : World} {R : Nat} {S : Nat → Prop} {B : List UInt8} {A : Option Addr} {cap i : Nat} {bad : Bool} (h : RB w R S B A cap i bad) : RB (w.setCell ⟨R, 2, none⟩ (.bool true)) R S B A cap i true := by
  refine ⟨by rw [setCell_heap h.c]; rfl, h.b.frame (fun b hs => Below.heap_setCell _ _ _ _ (h.s b hs).1) (fun _ h => h), fun b hs => ⟨(h.s b hs).1, by simpa [World.setCell] using (h.s b hs).2⟩, h.le⟩

theorem RB.drew {w : World} {R : Nat} {S : Nat → Prop} {B : List UInt8} {A : Option Addr} {cap i : Nat} {bad : Bool} (h : RB w R S B A cap i bad) : RB w.drew R S B A cap i bad :=
  h.below ((Below.refl _ _).drew)

theorem grown_drew {w w' : World} {r : Option Nat} (h : w.grownBy w' r) : w.grownBy w'.drew r := grown_trans h (grown_below ((Below.refl _ _).drew))

theorem grown_drew0 (w : World) (r : Option Nat) : w.grownBy w.drew r := grown_below ((Below.refl _ _).drew)

set_option maxRecDepth 100000 in
set_option maxHeartbeats 800000 in
theorem next_end {w : World} {R : Nat} {S : Nat → Prop} {B : List UInt8} {A : Option Addr} {cap i : Nat} {bad : Bool} (h : RB w R S B A cap i bad) (hi : i = B.length) :
    Calls Try.prog 48 #[.pointer (some ⟨R, 0, none⟩)] w fun e w' => e = .returned (.int .u8 0) ∧ RB w' R S B A cap i true ∧ w.grownBy w' (some R) := by
  have H := Lib.hid h
  have c0 : w.cell? ⟨R, 0, none⟩ = some (.slice A B.length cap) := by rw [cell_of_row w R 0 _ _ _ h.c]; rfl
  have c1 : w.cell? ⟨R, 1, none⟩ = some (.int .i64 i) := by rw [cell_of_row w R 1 _ _ _ h.c]; rfl
  have f2 : ∀ o, w.frozen? ⟨R, o, none⟩ = false := fun o => by simp [World.frozen?, h.c]
  have c2 : w.cell? ⟨R, 2, none⟩ = some (.bool bad) := by rw [cell_of_row w R 2 _ _ _ h.c]; rfl
  have t0 : decide (i ≥ B.length) = true := by simp; omega
  clear h
  go_enter Try.func48, Try.ntmps48
  go_wp2_with fail
  go_region_with fail
  all_goals
    go_wp2_with fail
    go_ret
    exact ⟨rfl, H.out.drew.bad_, grown_trans (grown_drew0 _ _) (grown_setCell' _ _ _ _)⟩

set_option maxRecDepth 100000 in
set_option maxHeartbeats 800000 in
theorem next_some {w : World} {R : Nat} {S : Nat → Prop} {B : List UInt8} {A : Option Addr} {cap i : Nat} {bad : Bool} (h : RB w R S B A cap i bad) (hi : i < B.length) :
    Calls Try.prog 48 #[.pointer (some ⟨R, 0, none⟩)] w fun e w' => e = .returned (.int .u8 (B[i].toNat : Int)) ∧ RB w' R S B A cap (i + 1) bad ∧ w.grownBy w' (some R) := by
  have H := Lib.hid h
  have c0 : w.cell? ⟨R, 0, none⟩ = some (.slice A B.length cap) := by rw [cell_of_row w R 0 _ _ _ h.c]; rfl
  have c1 : w.cell? ⟨R, 1, none⟩ = some (.int .i64 i) := by rw [cell_of_row w R 1 _ _ _ h.c]; rfl
  have f2 : ∀ o, w.frozen? ⟨R, o, none⟩ = false := fun o => by simp [World.frozen?, h.c]
  have t0 : decide (i ≥ B.length) = false := by simp; omega
  obtain ⟨A', cap', e, hc1, hc2, hc⟩ := h.b
  injection e with e1 _ e2
  subst e1 e2
  obtain ⟨D, off, rfl, hD, hcs⟩ := hc (by omega)
  have hDR := (h.s D hD).1
  have cB : ∀ y, (w.setCell ⟨R, 1, none⟩ y).cell? ⟨D, off + i, none⟩ = some (.int .u8 (B[i].toNat : Int)) := fun y => by
    rw [World.cell?_of_block (w := w) (a := ⟨D, off + i, none⟩) (Below.heap_setCell _ _ _ _ hDR)]; exact hcs i hi
  have hs1 : IntKind.i64.wrap ((i : Int) + 1) = (i : Int) + 1 := IntWalk.i64_in _ (by omega)
  have hs2 : IntKind.i64.wrap (i : Int) = (i : Int) := IntWalk.i64_in _ (by omega)
  clear h hcs hc
  go_enter Try.func48, Try.ntmps48
  go_wp2_with fail
  go_region_with fail
  all_goals
    go_wp2_with fail
    go_region_with fail
  all_goals
    go_wp2_with fail
    go_ret
    exact ⟨rfl, (H.out.drew.at_ _ hi).drew, grown_drew (grown_trans (grown_drew0 _ _) (grown_setCell' _ _ _ _))⟩

end Go.Proofs.Ytjhecmmbpmpmgaa
