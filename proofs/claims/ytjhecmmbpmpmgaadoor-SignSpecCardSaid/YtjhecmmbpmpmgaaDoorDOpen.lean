/- What the form reads, as the walks' words (this seat's copy): bytes, a signature. -/
import Derived.Test.YtjhecmmbpmpmgaaDoorMSha
import Derived.Deep.Slices
import Derived.ChangeArms
import Derived.ProofKit
import Derived.OpenShut
namespace Go.Proofs.YtjhecmmbpmpmgaaDoor
open Go.RowKit Go.Lib Go.ChangeShapes Go.WideShapes

theorem Tryd.cellsU8 : Tryd.prog.cellsOf 5 = 1 := by kernel_rfl
theorem Tryd.cellsInt : Tryd.prog.cellsOf 3 = 1 := by kernel_rfl
theorem Tryd.cellsSig : Tryd.prog.cellsOf 24 = 2 := by kernel_rfl

section
variable {H : Type} {enc : TypeId × Value → H} {w : World} {held : Bool}

theorem ok_wf {n : Int} (h : (Lit.int .i64 n).wf = true) : Ok n := by
  have := bounds_i64 h
  unfold Ok; omega

set_option maxRecDepth 100000 in
/-- an argument that is bytes -/
theorem open_bytes {r : Reach} {b0 : Nat} {v : Value} {d : DataW H} {p : List MemPlace} (hv : Value.okWide Tryd.prog w r b0 22 v) (h : DataW.Trod enc Tryd.prog w 0 (fun _ => true) held 22 v d p) :
    ∃ l : List UInt8, Bb w l v := by
  obtain ⟨fuel, hf⟩ := h
  obtain ⟨A, l0, c0, rfl⟩ := okWide_slice Tryd.underlying22 hv
  rcases Go.Deep.open_slice1 Tryd.underlying22 Tryd.cellsU8 hf with ⟨h0, _⟩ | ⟨a, len, cap, m, n, Vf, D, Pl, e3, hb, hle, hm, hmm, _, hel⟩
  · simp [Value.cells] at h0
    obtain ⟨rfl, rfl, rfl⟩ := h0
    exact ⟨[], none, 0, rfl, by simp, by omega, fun h => absurd h (by simp)⟩
  · simp [Value.cells] at e3
    obtain ⟨rfl, rfl, rfl⟩ := e3
    have hlm : l0 ≤ m := by rw [hmm]; simpa using hle
    have hall : ∀ i, i < l0 → ∃ c : UInt8, w.cell? (a.add i) = some (.int .u8 (c.toNat : Int)) := by
      intro i hi
      obtain ⟨g1, g2⟩ := hel i (by omega)
      obtain ⟨z, e, _, hz⟩ := DataW.trod_int Tryd.underlying5 g2
      simp only [List.cons.injEq, and_true] at e
      have hb := bounds_u8 hz
      refine ⟨UInt8.ofNat z.toNat, ?_⟩
      rw [g1, e]
      congr 2
      rw [UInt8.toNat_ofNat']; omega
    obtain ⟨F, hF⟩ := Go.Deep.choose_lt hall
    have hll : ((List.range l0).map F).length = l0 := by simp
    refine ⟨(List.range l0).map F, some a, c0, by rw [hll], by omega, by unfold maxLen at hm; omega, fun h0 => ?_⟩
    rw [hll] at h0
    obtain ⟨b, off, spot⟩ := a
    have hspot : spot = none := by simpa [Addr.add] using World.cell?_spot (hF 0 h0)
    subst hspot
    refine ⟨b, off, rfl, ?_, fun i hi => ?_⟩
    · have := hF 0 h0
      rw [Go.WideShapes.add_plain] at this
      exact World.block_lt_of_cell? w _ this
    · have := hF i (by omega)
      rw [Go.WideShapes.add_plain] at this
      simpa using this

set_option maxRecDepth 100000 in
theorem sig_of_trod {fuel : Nat} {cs : List Value} {x : DataW H × List MemPlace} (h : DataW.trod enc Tryd.prog w 0 (fun _ => true) held fuel 24 cs = some x) :
    ∃ E S, cs = [.int .i64 E, .int .i64 S] ∧ Ok E ∧ Ok S := by
  obtain ⟨xs, n, rfl, rfl, hl, hlen, hf⟩ := DataW.trod_struct Tryd.underlying24 h
  rw [Tryd.cellsSig] at hl
  match xs, hlen with
  | [y0, y1], _ =>
    have f0 : DataW.trod enc Tryd.prog w 0 (fun _ => true) held n 3 (List.take (Tryd.prog.cellsOf 3) (List.drop 0 cs)) = some y0 := hf 0 _ rfl
    have f1 : DataW.trod enc Tryd.prog w 0 (fun _ => true) held n 3 (List.take (Tryd.prog.cellsOf 3) (List.drop 1 cs)) = some y1 := hf 1 _ rfl
    match cs, hl with
    | [c0, c1], _ =>
      simp only [Tryd.cellsInt, List.drop_zero, List.drop_succ_cons, List.take_succ_cons, List.take_zero] at f0 f1
      obtain ⟨k, e0, _, w0⟩ := DataW.trod_int Tryd.underlying3 f0
      obtain ⟨m, e1, _, w1⟩ := DataW.trod_int Tryd.underlying3 f1
      simp only [List.cons.injEq, and_true] at e0 e1
      subst e0 e1
      exact ⟨k, m, rfl, ok_wf w0, ok_wf w1⟩

set_option maxRecDepth 100000 in
/-- an argument that is a signature -/
theorem open_sig {r : Reach} {b0 : Nat} {v : Value} {d : DataW H} {p : List MemPlace} (hv : Value.okWide Tryd.prog w r b0 24 v) (h : DataW.Trod enc Tryd.prog w 0 (fun _ => true) held 24 v d p) :
    ∃ E S, v = .agg #[.int .i64 E, .int .i64 S] ∧ Ok E ∧ Ok S := by
  obtain ⟨cs, rfl, hsz⟩ := okWide_struct Tryd.underlying24 hv
  obtain ⟨fuel, hf⟩ := h
  obtain ⟨E, S, e, h1, h2⟩ := sig_of_trod hf
  have : cs = #[.int .i64 E, .int .i64 S] := by
    cases cs with
    | mk l => simp [Value.cells] at e; rw [e]
  subst this
  exact ⟨E, S, rfl, h1, h2⟩
end

end Go.Proofs.YtjhecmmbpmpmgaaDoor
