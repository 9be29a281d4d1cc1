/- What the form reads, as the walks' words. -/
import Derived.Test.YtjhecmmbpmpmgaaCDecode2
import Derived.Deep.Slices
import Derived.ChangeArms
import Derived.ProofKit
import Derived.OpenShut
namespace Go.Proofs.Ytjhecmmbpmpmgaa
open Go.RowKit Go.Lib Go.ChangeShapes Go.WideShapes

theorem Try.cellsV : Try.prog.cellsOf 24 = 4 := by kernel_rfl
theorem Try.cellsInt : Try.prog.cellsOf 3 = 1 := by kernel_rfl
theorem Try.cellsStr : Try.prog.cellsOf 9 = 1 := by kernel_rfl
theorem Try.cellsVs : Try.prog.cellsOf 22 = 1 := by kernel_rfl
theorem Try.cellsU8 : Try.prog.cellsOf 5 = 1 := by kernel_rfl

instance : Inhabited V := ⟨.mk 0 0 ByteArray.empty []⟩

section
variable {H : Type} {enc : TypeId × Value → H} {w : World} {held : Bool}

theorem ok_wf {n : Int} (h : (Lit.int .i64 n).wf = true) : Ok n := by
  have := bounds_i64 h
  unfold Ok; omega

theorem spot_of_cells {a : Addr} {c0 : Value} {l : List Value} {n : Nat} (h : w.cells? 0 (a.add (0 * 4)) n = some (c0 :: l)) (hn : 0 < n) : a.spot = none := by
  obtain ⟨_, _, hc⟩ := World.cells?_some h
  have h0 := hc 0 hn
  simp only [List.getElem?_cons_zero] at h0
  have := World.cell?_spot h0
  simpa [Addr.add] using this

/-- what lies at an address, as a struct of four cells -/
theorem four_of_cells {a : Addr} {c0 c1 c2 c3 : Value} {i : Nat} (hs : a.spot = none) (h : w.cells? 0 (a.add (i * 4)) 4 = some [c0, c1, c2, c3]) : Four w a.block (a.off + i * 4) c0 c1 c2 c3 := by
  obtain ⟨_, _, hc⟩ := World.cells?_some h
  obtain ⟨b, off, spot⟩ := a
  dsimp only at hs
  subst hs
  have e : ∀ j, ((⟨b, off, none⟩ : Addr).add (i * 4)).add j = ⟨b, off + i * 4 + j, none⟩ := fun j => by rw [Go.Deep.add_add, Go.WideShapes.add_plain, Nat.add_assoc]
  have h0 := hc 0 (by omega); have h1 := hc 1 (by omega); have h2 := hc 2 (by omega); have h3 := hc 3 (by omega)
  rw [e] at h0 h1 h2 h3
  exact ⟨h0, h1, h2, h3⟩

theorem rd_of_trod : ∀ (fuel : Nat) (cs : List Value) (x : DataW H × List MemPlace), DataW.trod enc Try.prog w 0 (fun _ => true) held fuel 24 cs = some x →
    ∃ y c0 c1 c2 c3, cs = [c0, c1, c2, c3] ∧ Rd w (fun _ => True) y (.agg #[c0, c1, c2, c3]) := by
  intro fuel
  induction fuel using Nat.strongRecOn with
  | ind fuel ih =>
    intro cs x h
    obtain ⟨xs, n, rfl, rfl, hl, hlen, hf⟩ := DataW.trod_struct Try.underlying24 h
    rw [Try.cellsV] at hl
    match xs, hlen with
    | [y0, y1, y2, y3], _ =>
      have f0 : DataW.trod enc Try.prog w 0 (fun _ => true) held n 3 (List.take (Try.prog.cellsOf 3) (List.drop 0 cs)) = some y0 := hf 0 _ rfl
      have f1 : DataW.trod enc Try.prog w 0 (fun _ => true) held n 3 (List.take (Try.prog.cellsOf 3) (List.drop 1 cs)) = some y1 := hf 1 _ rfl
      have f2 : DataW.trod enc Try.prog w 0 (fun _ => true) held n 9 (List.take (Try.prog.cellsOf 9) (List.drop 2 cs)) = some y2 := hf 2 _ rfl
      have f3 : DataW.trod enc Try.prog w 0 (fun _ => true) held n 22 (List.take (Try.prog.cellsOf 22) (List.drop 3 cs)) = some y3 := hf 3 _ rfl
      match cs, hl with
      | [c0, c1, c2, c3], _ =>
        simp only [Try.cellsInt, Try.cellsStr, Try.cellsVs, List.drop_zero, List.drop_succ_cons, List.take_succ_cons, List.take_zero] at f0 f1 f2 f3
        obtain ⟨k, e0, _, w0⟩ := DataW.trod_int Try.underlying3 f0
        obtain ⟨m, e1, _, w1⟩ := DataW.trod_int Try.underlying3 f1
        obtain ⟨s, e2, _, w2⟩ := DataW.trod_string Try.underlying9 f2
        simp only [List.cons.injEq, and_true] at e0 e1 e2
        subst e0 e1 e2
        rcases DataW.trod_slice Try.underlying22 f3 with ⟨h0, _⟩ | ⟨a, len, cap, elems, rest, n', hn', e3, _, hb, hle, hm, hlen', hel, _, _⟩
        · simp only [List.cons.injEq, and_true] at h0
          subst h0
          exact ⟨.mk k m s [], _, _, _, _, rfl, Rd.leaf _ _ _ _ _ (ok_wf w0) (ok_wf w1) (by unfold maxLen at w2; omega)⟩
        · simp only [List.cons.injEq, and_true] at e3
          subst e3
          rw [Try.cellsV] at hel
          have hall : ∀ i, i < len → ∃ F : V × Value, ∃ c0 c1 c2 c3, F.2 = .agg #[c0, c1, c2, c3] ∧ w.cells? 0 (a.add (i * 4)) 4 = some [c0, c1, c2, c3] ∧ Rd w (fun _ => True) F.1 F.2 := by
            intro i hi
            have hk := hel i hi
            rw [List.getElem?_eq_getElem (by omega)] at hk
            obtain ⟨cs', g1, g2⟩ := Option.bind_eq_some_iff.1 hk
            obtain ⟨y, d0, d1, d2, d3, rfl, hR⟩ := ih n' (by omega) cs' _ g2
            exact ⟨(y, .agg #[d0, d1, d2, d3]), d0, d1, d2, d3, rfl, g1, hR⟩
          obtain ⟨F, hF⟩ := Go.Deep.choose_lt hall
          refine ⟨.mk k m s ((List.range len).map fun i => (F i).1), _, _, _, _, rfl, ?_⟩
          have hll : ((List.range len).map fun i => (F i).1).length = len := by simp
          conv => arg 4; rw [← hll]
          refine .mk (fun i => (F i).2) (ok_wf w0) (ok_wf w1) (by unfold maxLen at w2; omega) (by omega) (by unfold maxLen at hm; omega) (fun h => ?_) (fun i b off hi e => ?_) (fun i hi => ?_)
          · obtain ⟨c0, c1, c2, c3, _, g, _⟩ := hF 0 (by omega)
            have hs := spot_of_cells g (by omega)
            obtain ⟨b, off, spot⟩ := a
            dsimp only at hs
            subst hs
            exact ⟨b, off, rfl, trivial⟩
          · obtain ⟨c0, c1, c2, c3, e2, g, _⟩ := hF i (by omega)
            injection e with e
            subst e
            have h4 := four_of_cells rfl g
            rw [e2]; exact h4
          · obtain ⟨c0, c1, c2, c3, e2, g, hR⟩ := hF i (by omega)
            simpa using hR

/-- an argument of the codec's type -/
theorem open_value {r : Reach} {b0 : Nat} {v : Value} {d : DataW H} {p : List MemPlace} (hv : Value.okWide Try.prog w r b0 24 v) (h : DataW.Trod enc Try.prog w 0 (fun _ => true) held 24 v d p) :
    ∃ y, Rd w (fun b => b < w.heap.size) y v := by
  obtain ⟨cs, rfl, hsz⟩ := okWide_struct Try.underlying24 hv
  obtain ⟨fuel, hf⟩ := h
  obtain ⟨y, c0, c1, c2, c3, e, hR⟩ := rd_of_trod fuel _ _ hf
  have : cs = #[c0, c1, c2, c3] := by
    cases cs with
    | mk l => simp [Value.cells] at e; rw [e]
  subst this
  exact ⟨y, hR.bound.frame (fun _ _ => rfl) (fun b hb => hb.2)⟩

/-- an argument that is a slice of values: read as the list value that bears it -/
theorem open_values {r : Reach} {b0 : Nat} {v : Value} {d : DataW H} {p : List MemPlace} (hv : Value.okWide Try.prog w r b0 22 v) (h : DataW.Trod enc Try.prog w 0 (fun _ => true) held 22 v d p) :
    ∃ l A cap, v = .slice A l.length cap ∧ Rd w (fun b => b < w.heap.size) (.mk 3 0 ByteArray.empty l) (.agg #[.int .i64 3, .int .i64 0, .string ByteArray.empty, .slice A l.length cap]) := by
  obtain ⟨fuel, hf⟩ := h
  rcases Go.Deep.open_slice Try.underlying22 hf with ⟨h0, _⟩ | ⟨a, len, cap, m, n, D, Pl, e3, hb, hle, hm, hmm, _, hel⟩
  · have hv0 : v = .slice none 0 0 := by
      obtain ⟨A, l, c, rfl⟩ := okWide_slice Try.underlying22 hv
      simpa [Value.cells] using h0
    subst hv0
    exact ⟨[], none, 0, rfl, (Rd.leaf _ _ _ _ _ ⟨by omega, by omega⟩ ⟨by omega, by omega⟩ (by decide))⟩
  · have hv0 : v = .slice (some a) len cap := by
      obtain ⟨A, l, c, rfl⟩ := okWide_slice Try.underlying22 hv
      simpa [Value.cells] using e3
    subst hv0
    rw [Try.cellsV] at hel
    have hlm : len ≤ m := by rw [hmm]; simpa using hle
    have hall : ∀ i, i < len → ∃ F : V × Value, ∃ c0 c1 c2 c3, F.2 = .agg #[c0, c1, c2, c3] ∧ w.cells? 0 (a.add (i * 4)) 4 = some [c0, c1, c2, c3] ∧ Rd w (fun _ => True) F.1 F.2 := by
      intro i hi
      obtain ⟨cs', g1, g2⟩ := hel i (by omega)
      obtain ⟨y, d0, d1, d2, d3, rfl, hR⟩ := rd_of_trod _ cs' _ g2
      exact ⟨(y, .agg #[d0, d1, d2, d3]), d0, d1, d2, d3, rfl, g1, hR⟩
    obtain ⟨F, hF⟩ := Go.Deep.choose_lt hall
    have hll : ((List.range len).map fun i => (F i).1).length = len := by simp
    refine ⟨(List.range len).map fun i => (F i).1, some a, cap, by rw [hll], ?_⟩
    refine (Rd.bound (S := fun _ => True) ?_).frame (fun _ _ => rfl) (fun b hb => hb.2)
    refine .mk (fun i => (F i).2) ⟨by omega, by omega⟩ ⟨by omega, by omega⟩ (by decide) (by omega) (by unfold maxLen at hm; omega) (fun h => ?_) (fun i b off hi e => ?_) (fun i hi => ?_)
    · obtain ⟨c0, c1, c2, c3, _, g, _⟩ := hF 0 (by omega)
      have hs := spot_of_cells g (by omega)
      obtain ⟨b, off, spot⟩ := a
      dsimp only at hs
      subst hs
      exact ⟨b, off, rfl, trivial⟩
    · obtain ⟨c0, c1, c2, c3, e2, g, _⟩ := hF i (by omega)
      injection e with e
      subst e
      have h4 := four_of_cells rfl g
      rw [e2]; exact h4
    · obtain ⟨c0, c1, c2, c3, e2, g, hR⟩ := hF i (by omega)
      simpa using hR

/-- an argument that is bytes -/
theorem open_bytes {r : Reach} {b0 : Nat} {v : Value} {d : DataW H} {p : List MemPlace} (hv : Value.okWide Try.prog w r b0 27 v) (h : DataW.Trod enc Try.prog w 0 (fun _ => true) held 27 v d p) :
    ∃ l : List UInt8, Bs w (fun b => b < w.heap.size) l v := by
  obtain ⟨fuel, hf⟩ := h
  obtain ⟨A, l0, c0, rfl⟩ := okWide_slice Try.underlying27 hv
  rcases Go.Deep.open_slice1 Try.underlying27 Try.cellsU8 hf with ⟨h0, _⟩ | ⟨a, len, cap, m, n, Vf, D, Pl, e3, hb, hle, hm, hmm, _, hel⟩
  · simp [Value.cells] at h0
    obtain ⟨rfl, rfl, rfl⟩ := h0
    exact ⟨[], none, 0, rfl, by simp, by omega, fun h => absurd h (by simp)⟩
  · simp [Value.cells] at e3
    obtain ⟨rfl, rfl, rfl⟩ := e3
    have hlm : l0 ≤ m := by rw [hmm]; simpa using hle
    have hall : ∀ i, i < l0 → ∃ c : UInt8, w.cell? (a.add i) = some (.int .u8 (c.toNat : Int)) := by
      intro i hi
      obtain ⟨g1, g2⟩ := hel i (by omega)
      obtain ⟨z, e, _, hz⟩ := DataW.trod_int Try.underlying5 g2
      simp only [List.cons.injEq, and_true] at e
      have hb := bounds_u8 hz
      refine ⟨UInt8.ofNat z.toNat, ?_⟩
      rw [g1, e]
      congr 2
      rw [UInt8.toNat_ofNat']; omega
    obtain ⟨F, hF⟩ := Go.Deep.choose_lt hall
    have hll : ((List.range l0).map F).length = l0 := by simp
    refine ⟨(List.range l0).map F, some a, c0, by rw [hll], by omega, by unfold maxLen at hm; omega, fun h0 => ?_⟩
    rw [hll] at h0
    obtain ⟨b, off, spot⟩ := a
    have hspot : spot = none := by simpa [Addr.add] using World.cell?_spot (hF 0 h0)
    subst hspot
    refine ⟨b, off, rfl, ?_, fun i hi => ?_⟩
    · have := hF 0 h0
      rw [Go.WideShapes.add_plain] at this
      exact World.block_lt_of_cell? w _ this
    · have := hF i (by omega)
      rw [Go.WideShapes.add_plain] at this
      simpa using this
end

end Go.Proofs.Ytjhecmmbpmpmgaa
