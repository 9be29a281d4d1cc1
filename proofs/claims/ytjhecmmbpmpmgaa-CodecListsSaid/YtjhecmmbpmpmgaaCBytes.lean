/- Bytes in memory: conversion to a string, a part of them, a row of the call's own. -/
import Derived.Test.YtjhecmmbpmpmgaaCDecode2
namespace Go.Proofs.Ytjhecmmbpmpmgaa
open Go.RowKit Go.Lib

theorem conv_none (w : World) (A : Option Addr) (cap : Nat) : (convert 27 9 (.slice A 0 cap)).run Try.prog w = .ok (.string (strOf [])) w := by
  cases A with
  | none => exact run_convert_bytes_nil w 27 5 Try.underlying27 Try.underlying5 0 cap 9 Try.underlying9
  | some a =>
    rw [run_convert_bytes_string w 27 9 5 (some a) 0 cap Try.underlying27 Try.underlying5 Try.underlying9, run_bytesToString w a 0 cap [] rfl]
    rfl

theorem Bs.form {w : World} {S : Nat → Prop} {l : List UInt8} {v : Value} (h : Bs w S l v) : ∃ A cap, v = .slice A l.length cap ∧ l.length ≤ cap ∧ cap ≤ 9223372036854775807 := by
  obtain ⟨A, cap, h1, h2, h3, _⟩ := h
  exact ⟨A, cap, h1, h2, h3⟩

/-- string(bytes) -/
theorem Bs.conv {w : World} {S : Nat → Prop} {l : List UInt8} {v : Value} (h : Bs w S l v) : (convert 27 9 v).run Try.prog w = .ok (.string (strOf l)) w := by
  obtain ⟨A, cap, rfl, h2, h3, h4⟩ := h
  by_cases h0 : 0 < l.length
  · obtain ⟨b, off, rfl, _, hc⟩ := h4 h0
    exact conv_take rfl cap hc
  · have : l = [] := List.eq_nil_of_length_eq_zero (by omega)
    subst this
    exact conv_none w A cap

theorem Try.elemU8 : Try.prog.elem 27 = 5 := by kernel_rfl
theorem Try.sizeU8 (w : World) : (sizeOf 5).run Try.prog w = .ok 1 w := by kernel_rfl

/-- a part of bytes -/
theorem sub_bytes {w : World} {S : Nat → Prop} {B : List UInt8} {A : Option Addr} {cap : Nat} (h : Bs w S B (.slice A B.length cap)) (lo n : Nat) (hle : lo + n ≤ B.length) :
    ∃ A', (∀ w' : World, (Instr.slice 27 (.slice A B.length cap) (some (.int .i64 lo)) (some (.int .i64 ((lo : Int) + n))) none).run Try.prog w' = .ok (.slice A' n (cap - lo)) w') ∧ Bs w S ((B.drop lo).take n) (.slice A' n (cap - lo)) := by
  obtain ⟨A0, cap0, e, h2, h3, h4⟩ := h
  injection e with e1 e2 e3
  subst e1 e3
  have hlen : ((B.drop lo).take n).length = n := by simp; omega
  have hr : ∀ w' : World, (Instr.slice 27 (.slice A B.length cap) (some (.int .i64 lo)) (some (.int .i64 ((lo : Int) + n))) none).run Try.prog w' = .ok (.slice (if cap = lo then A else A.map (·.add (lo * 1))) n (cap - lo)) w' := by
    intro w'
    rw [run_slice_lh w' 27 A B.length cap (by rw [Try.elemU8]; exact Try.underlying27) .i64 .i64 (lo : Int) ((lo : Int) + n) (by omega) (by omega) (by omega), Try.elemU8, Try.sizeU8]
    simp only [Result.andThen_ok, sliced]
    congr 2 <;> omega
  refine ⟨_, hr, _, cap - lo, by rw [hlen], by rw [hlen]; omega, by omega, fun h0 => ?_⟩
  rw [hlen] at h0
  obtain ⟨b, off, rfl, hb, hc⟩ := h4 (by omega)
  rw [if_neg (by omega)]
  refine ⟨b, off + lo, ?_, hb, fun i hi => ?_⟩
  · simp [Addr.add]
  · rw [hlen] at hi
    rw [Nat.add_assoc, hc (lo + i) (by omega)]
    simp

/-- a row of the call's own, as bytes -/
theorem own_bytes {w : World} {l : List UInt8} {v : Value} {B : Nat} (h : w.ownsRow 0 5 1 v l.length (bc l)) (hn : ∀ k, v.ownBlock = some k → B ≤ k) : Bs w (fun b => B ≤ b ∧ b < w.heap.size) l v := by
  rcases h.2 with ⟨h1, h0⟩ | ⟨g, cap, cur, h1, _, hg, hnc, hcm, hcs, htk⟩
  · exact ⟨none, 0, by rw [h1, h0], by omega, by omega, fun h => by omega⟩
  · have hcells := h.cells (g := g) (by rw [h1]; rfl)
    refine ⟨some ⟨g, 0, none⟩, cap, h1, hnc, by unfold maxLen at hcm; omega, fun h0 => ⟨g, 0, rfl, ⟨hn g (by rw [h1]; rfl), (Array.getElem?_eq_some_iff.1 hg).1⟩, fun i hi => ?_⟩⟩
    have := hcells i (.int .u8 (l[i].toNat : Int)) (by simp [bc, List.getElem?_eq_getElem hi])
    rw [Go.WideShapes.add_plain] at this
    exact this

theorem Bs.bound {w : World} {S : Nat → Prop} {l : List UInt8} {v : Value} (h : Bs w S l v) : Bs w (fun b => S b ∧ b < w.heap.size) l v := by
  obtain ⟨A, cap, h1, h2, h3, h4⟩ := h
  refine ⟨A, cap, h1, h2, h3, fun h0 => ?_⟩
  obtain ⟨b, off, e, hb, hc⟩ := h4 h0
  exact ⟨b, off, e, ⟨hb, World.block_lt_of_cell? w _ (hc 0 h0)⟩, hc⟩

end Go.Proofs.Ytjhecmmbpmpmgaa
