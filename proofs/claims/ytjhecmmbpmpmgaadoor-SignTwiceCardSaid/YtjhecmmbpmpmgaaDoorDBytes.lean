/- Bytes in memory (this seat's copy of CBytes: without the functions that the seat lacks). -/
import Derived.Test.YtjhecmmbpmpmgaaDoorProg
import Derived.Test.YtjhecmmbpmpmgaaDoorBase
import Derived.Test.YtjhecmmbpmpmgaaDoorPNum
import Derived.Test.YtjhecmmbpmpmgaaDoorPRead
import Derived.Test.YtjhecmmbpmpmgaaDoorPApp
import Derived.WalkKit
import Derived.WalkSpells
import Derived.WalkLawsBesides
import Derived.Lib.Hide
import Derived.Laws.IdiomStrings
import Derived.WideShapes
import Derived.Laws.BytesArg
import Derived.ProofKit
import Derived.OpenShut
namespace Go.Proofs.YtjhecmmbpmpmgaaDoor
open Go.RowKit Go.Lib

/-- The value v reads as the bytes l; they lie in a block of S. -/
def Bs (w : World) (S : Nat → Prop) (l : List UInt8) (v : Value) : Prop :=
  ∃ A cap, v = .slice A l.length cap ∧ l.length ≤ cap ∧ cap ≤ 9223372036854775807 ∧
    (0 < l.length → ∃ b off, A = some ⟨b, off, none⟩ ∧ S b ∧ ∀ i (h : i < l.length), w.cell? ⟨b, off + i, none⟩ = some (.int .u8 (l[i].toNat : Int)))

theorem Bs.frame {w w' : World} {S S' : Nat → Prop} {l : List UInt8} {v : Value} (h : Bs w S l v) (hw : ∀ b, S b → w'.heap[b]? = w.heap[b]?) (hS : ∀ b, S b → S' b) : Bs w' S' l v := by
  obtain ⟨A, cap, h1, h2, h3, h4⟩ := h
  refine ⟨A, cap, h1, h2, h3, fun h0 => ?_⟩
  obtain ⟨b, off, e, hb, hc⟩ := h4 h0
  exact ⟨b, off, e, hS b hb, fun i hi => by rw [World.cell?_of_block (w := w) (a := ⟨b, off + i, none⟩) (hw b hb)]; exact hc i hi⟩

theorem strOfNums_u8 (l : List UInt8) : strOfNums (l.map fun c => (c.toNat : Int)) = strOf l := by
  unfold strOfNums strOf
  congr 2
  induction l with
  | nil => rfl
  | cons c l ih => simpa using ih

/-- string(bytes) -/
theorem conv_take {w : World} {b off n : Nat} {l : List UInt8} (hl : l.length = n) (cap : Nat) (h : ∀ i (h : i < l.length), w.cell? ⟨b, off + i, none⟩ = some (.int .u8 (l[i].toNat : Int))) :
    (convert 22 9 (.slice (some ⟨b, off, none⟩) n cap)).run Tryd.prog w = .ok (.string (strOf l)) w := by
  rw [← strOfNums_u8]
  refine run_convert_bytes_arg w 22 5 Tryd.underlying22 Tryd.underlying5 b off n cap _ (by simpa using hl) (fun i hi => ?_) 9 Tryd.underlying9
  rw [h i (by omega)]
  simp [List.getD, List.getElem?_eq_getElem (show i < l.length by omega)]

theorem conv_none (w : World) (A : Option Addr) (cap : Nat) : (convert 22 9 (.slice A 0 cap)).run Tryd.prog w = .ok (.string (strOf [])) w := by
  cases A with
  | none => exact run_convert_bytes_nil w 22 5 Tryd.underlying22 Tryd.underlying5 0 cap 9 Tryd.underlying9
  | some a =>
    rw [run_convert_bytes_string w 22 9 5 (some a) 0 cap Tryd.underlying22 Tryd.underlying5 Tryd.underlying9, run_bytesToString w a 0 cap [] rfl]
    rfl

theorem Bs.form {w : World} {S : Nat → Prop} {l : List UInt8} {v : Value} (h : Bs w S l v) : ∃ A cap, v = .slice A l.length cap ∧ l.length ≤ cap ∧ cap ≤ 9223372036854775807 := by
  obtain ⟨A, cap, h1, h2, h3, _⟩ := h
  exact ⟨A, cap, h1, h2, h3⟩

/-- string(bytes) -/
theorem Bs.conv {w : World} {S : Nat → Prop} {l : List UInt8} {v : Value} (h : Bs w S l v) : (convert 22 9 v).run Tryd.prog w = .ok (.string (strOf l)) w := by
  obtain ⟨A, cap, rfl, h2, h3, h4⟩ := h
  by_cases h0 : 0 < l.length
  · obtain ⟨b, off, rfl, _, hc⟩ := h4 h0
    exact conv_take rfl cap hc
  · have : l = [] := List.eq_nil_of_length_eq_zero (by omega)
    subst this
    exact conv_none w A cap

theorem Tryd.elemU8 : Tryd.prog.elem 22 = 5 := by kernel_rfl
theorem Tryd.sizeU8 (w : World) : (sizeOf 5).run Tryd.prog w = .ok 1 w := by kernel_rfl

/-- a part of bytes -/
theorem sub_bytes {w : World} {S : Nat → Prop} {B : List UInt8} {A : Option Addr} {cap : Nat} (h : Bs w S B (.slice A B.length cap)) (lo n : Nat) (hle : lo + n ≤ B.length) :
    ∃ A', (∀ w' : World, (Instr.slice 22 (.slice A B.length cap) (some (.int .i64 lo)) (some (.int .i64 ((lo : Int) + n))) none).run Tryd.prog w' = .ok (.slice A' n (cap - lo)) w') ∧ Bs w S ((B.drop lo).take n) (.slice A' n (cap - lo)) := by
  obtain ⟨A0, cap0, e, h2, h3, h4⟩ := h
  injection e with e1 e2 e3
  subst e1 e3
  have hlen : ((B.drop lo).take n).length = n := by simp; omega
  have hr : ∀ w' : World, (Instr.slice 22 (.slice A B.length cap) (some (.int .i64 lo)) (some (.int .i64 ((lo : Int) + n))) none).run Tryd.prog w' = .ok (.slice (if cap = lo then A else A.map (·.add (lo * 1))) n (cap - lo)) w' := by
    intro w'
    rw [run_slice_lh w' 22 A B.length cap (by rw [Tryd.elemU8]; exact Tryd.underlying22) .i64 .i64 (lo : Int) ((lo : Int) + n) (by omega) (by omega) (by omega), Tryd.elemU8, Tryd.sizeU8]
    simp only [Result.andThen_ok, sliced]
    congr 2 <;> omega
  refine ⟨_, hr, _, cap - lo, by rw [hlen], by rw [hlen]; omega, by omega, fun h0 => ?_⟩
  rw [hlen] at h0
  obtain ⟨b, off, rfl, hb, hc⟩ := h4 (by omega)
  rw [if_neg (by omega)]
  refine ⟨b, off + lo, ?_, hb, fun i hi => ?_⟩
  · simp [Addr.add]
  · rw [hlen] at hi
    rw [Nat.add_assoc, hc (lo + i) (by omega)]
    simp

/-- a row of the call's own, as bytes -/
theorem own_bytes {w : World} {l : List UInt8} {v : Value} {B : Nat} (h : w.ownsRow 0 5 1 v l.length (bc l)) (hn : ∀ k, v.ownBlock = some k → B ≤ k) : Bs w (fun b => B ≤ b ∧ b < w.heap.size) l v := by
  rcases h.2 with ⟨h1, h0⟩ | ⟨g, cap, cur, h1, _, hg, hnc, hcm, hcs, htk⟩
  · exact ⟨none, 0, by rw [h1, h0], by omega, by omega, fun h => by omega⟩
  · have hcells := h.cells (g := g) (by rw [h1]; rfl)
    refine ⟨some ⟨g, 0, none⟩, cap, h1, hnc, by unfold maxLen at hcm; omega, fun h0 => ⟨g, 0, rfl, ⟨hn g (by rw [h1]; rfl), (Array.getElem?_eq_some_iff.1 hg).1⟩, fun i hi => ?_⟩⟩
    have := hcells i (.int .u8 (l[i].toNat : Int)) (by simp [bc, List.getElem?_eq_getElem hi])
    rw [Go.WideShapes.add_plain] at this
    exact this

theorem Bs.bound {w : World} {S : Nat → Prop} {l : List UInt8} {v : Value} (h : Bs w S l v) : Bs w (fun b => S b ∧ b < w.heap.size) l v := by
  obtain ⟨A, cap, h1, h2, h3, h4⟩ := h
  refine ⟨A, cap, h1, h2, h3, fun h0 => ?_⟩
  obtain ⟨b, off, e, hb, hc⟩ := h4 h0
  exact ⟨b, off, e, ⟨hb, World.block_lt_of_cell? w _ (hc 0 h0)⟩, hc⟩

def Rb (w : World) (x : V) (v : Value) : Prop := Rd w (fun b => b < w.heap.size) x v
def Bb (w : World) (l : List UInt8) (v : Value) : Prop := Bs w (fun b => b < w.heap.size) l v

theorem Rb.below {w w' : World} {x : V} {v : Value} (h : Rb w x v) (hb : Below w.heap.size w w') : Rb w' x v := Rd.frame h (fun _ hb' => hb.block _ hb') (fun _ hb' => Nat.lt_of_lt_of_le hb' hb.size)
theorem Bb.below {w w' : World} {l : List UInt8} {v : Value} (h : Bb w l v) (hb : Below w.heap.size w w') : Bb w' l v := Bs.frame h (fun _ hb' => hb.block _ hb') (fun _ hb' => Nat.lt_of_lt_of_le hb' hb.size)
theorem Bb.conv {w : World} {l : List UInt8} {v : Value} (h : Bb w l v) : (convert 22 9 v).run Tryd.prog w = .ok (.string (strOf l)) w := Bs.conv h

/-- []byte(string) -/
theorem str_bytes_b (w : World) (s : ByteArray) (hs : s.size ≤ 9000000000000000000) : ∃ cap w', (convert 9 22 (.string s)).run Tryd.prog w = .ok (.slice (some ⟨w.heap.size, 0, none⟩) s.size cap) w' ∧ Below w.heap.size w w' ∧ Bb w' s.data.toList (.slice (some ⟨w.heap.size, 0, none⟩) s.size cap) := by
  refine ⟨_, _, run_bytes_of_string w 9 22 5 s Tryd.underlying9 Tryd.underlying22 Tryd.underlying5, ((Below.refl _ _).drew).alloc (Nat.le_refl _) _, some ⟨w.heap.size, 0, none⟩, _, rfl, grownCap_ge _ _ _ _, ?_, fun _ => ⟨w.heap.size, 0, rfl, by simp, fun i hi => ?_⟩⟩
  · have := grownCap_le_maxLen w s.size 0 5 (by unfold maxLen; omega)
    unfold maxLen at this; omega
  · have hi' : i < s.data.size := by simpa using hi
    have hrow := bytesRow_at s (grownCap w s.size 0 5) i hi'
    have hg : (w.drew.alloc (.cells (bytesRow s (grownCap w s.size 0 5)) 5 ((bytesRow s (grownCap w s.size 0 5)).size, (bytesRow s (grownCap w s.size 0 5)).size + 1))).heap[w.heap.size]? = some (.cells (bytesRow s (grownCap w s.size 0 5)) 5 ((bytesRow s (grownCap w s.size 0 5)).size, (bytesRow s (grownCap w s.size 0 5)).size + 1)) := heap_alloc_new w.drew _
    rw [cell_of_row _ w.heap.size (0 + i) _ _ _ hg, Nat.zero_add, hrow]
    simp

end Go.Proofs.YtjhecmmbpmpmgaaDoor
