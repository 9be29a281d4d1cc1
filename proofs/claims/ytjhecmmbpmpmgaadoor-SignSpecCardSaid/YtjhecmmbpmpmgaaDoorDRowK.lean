/- What all rows of this seat's laws have in common: the tables off the condition, the witness, the answer true. -/
import Derived.Test.YtjhecmmbpmpmgaaDoorRows
import Derived.Test.YtjhecmmbpmpmgaaDoorMSha
import Derived.ProofKit
import Derived.OpenShut
import Derived.LaidMore
import Derived.Stop.Joined
import Derived.SevenTiedAt
namespace Go.Proofs.YtjhecmmbpmpmgaaDoor
open Go.RowKit Go.Lib Go.ChangeShapes Go.WideShapes Go.ChangeAt

theorem own : ownKnob Tryd.prog.godebug = none := by kernel_rfl
theorem laidOut : laidOutB Tryd.prog = true := by kernel_rfl

theorem trodAll_later {H : Type} {enc : TypeId × Value → H} {W W' : World} (hb : Below W.heap.size W W') : ∀ {ts : List TypeId} {vs : List Value} {ds : List (DataW H)} {ps : List MemPlace},
    (∀ t ∈ ts, Tryd.prog.readableRec t = true ∧ t < Tryd.prog.types.size) → DataW.TrodAll enc Tryd.prog W 0 (fun _ => true) true ts vs ds ps → (∀ x ∈ ps, x.block < W.heap.size) → DataW.TrodAll enc Tryd.prog W' 0 (fun b => decide (b < W.heap.size)) true ts vs ds ps
  | [], [], [], _, _, h, _ => h
  | t :: ts, v :: vs, d :: ds, ps, ht, h, hlt => by
    obtain ⟨p, q, h1, h2, rfl⟩ := h
    have htt := ht t (by simp)
    exact ⟨p, q, Below.trod laidOut htt.1 htt.2 h1 hb (fun x hx => hlt x (by simp [hx])), trodAll_later hb (fun t h => ht t (by simp [h])) h2 (fun x hx => hlt x (by simp [hx])), rfl⟩
  | [], [], _ :: _, _, _, h, _ => h.elim
  | [], _ :: _, _, _, _, h, _ => h.elim
  | _ :: _, [], _, _, _, h, _ => h.elim
  | _ :: _, _ :: _, [], _, _, h, _ => h.elim

/-- a law that answers true and lays new memory alone -/
theorem post_yes {H : Type} {enc : TypeId × Value → H} {f : Func} {s : ChangeSpec} {W W' : World} {args : Array Value} {ds : List (DataW H)} {before : List MemPlace}
    (hW : DataW.Whole enc Tryd.prog f.params.toList s.vars false W args.toList ds [] before) (hv : s.vars = []) (hr : f.resultTypes = #[4]) (hs : s.fn H (ds ++ []) = { results := [.lit (.bool true)], args := ds })
    (ht : ∀ t ∈ f.params.toList, Tryd.prog.readableRec t = true ∧ t < Tryd.prog.types.size) (hb : Below W.heap.size W W') : s.post enc Tryd.prog f false true false false W args (.bool true) W' := by
  have hlt := hW.lt
  obtain ⟨p, q, hA, hV, rfl, hz, hn⟩ := id hW
  rw [hv] at hV
  have hq : q = [] := hV
  subst hq
  refine ⟨ds, [], _, [], p, [], hW, ?_, ?_, ?_, hb.frame _, fun h => by cases h⟩
  · rw [hs, hr]; exact trodAll_mk1 (shut_bool Tryd.underlying4 _)
  · rw [hs]; exact trodAll_later hb ht hA (fun x hx => hlt x (by simp [hx]))
  · rw [hs, hv]; exact rfl

/-- the two tables, as the rows list them -/
def laidT : List (String × DataW Unit) := [("signatory/digest.start", Rows.laid_signatory_digest_start), ("signatory/digest.numbers", Rows.laid_signatory_digest_numbers)]

theorem gStart : Tryd.prog.globalNamed "signatory/digest.start" = some 0 := by kernel_rfl
theorem gNumbers : Tryd.prog.globalNamed "signatory/digest.numbers" = some 1 := by kernel_rfl
theorem tStart : (Tryd.prog.globals[0]?).map (·.type) = some 112 := by kernel_rfl
theorem tNumbers : (Tryd.prog.globals[1]?).map (·.type) = some 127 := by kernel_rfl
theorem cStart : Tryd.prog.cellsOf 112 = 8 := by kernel_rfl
theorem cNumbers : Tryd.prog.cellsOf 127 = 64 := by kernel_rfl
theorem cU32 : Tryd.prog.cellsOf 111 = 1 := by kernel_rfl

/-- The heap that the variables' door leaves meets the condition. -/
theorem door_met (os : Os) (args : Array Value) : laidMetH Tryd.prog laidT ((World.doorLaid Tryd.prog 19 os).forCall (fun _ _ => 0) ⟨#[], args, []⟩).memory :=
  laidMetH_of_parts3 (fuel := 8) (laidMet_of_run' 8 (by kernel_rfl) (by kernel_rfl)) (by kernel_rfl) (by kernel_rfl)

def u32D (l : List Nat) : DataW Unit := .agg (l.map fun (x : Nat) => .lit (.int .u32 (x : Int)))

set_option maxRecDepth 100000 in
theorem wrow_of_trod {W : World} {l : List Nat} {cs : List Value} {fuel n : Nat} {t : TypeId} {p : List MemPlace} (ht : Tryd.prog.underlying t = some (.array n 111)) (hc : Tryd.prog.cellsOf t = n) (hn : l.length = n)
    (h : DataW.trod (fun _ => ()) Tryd.prog W 0 (fun _ => true) false fuel t cs = some (u32D l, p)) : cs = l.map wv := by
  obtain ⟨xs, m, rfl, hx, hlen, hxn, hel⟩ := DataW.trod_array ht h
  rw [hc] at hlen
  have e := (Prod.mk.inj hx).1
  unfold u32D at e
  injection e with e
  refine List.ext_getElem (by rw [hlen, List.length_map, hn]) fun i h1 h2 => ?_
  have hi : i < n := by omega
  have hel := hel i hi
  rw [cU32, Nat.mul_one, List.getElem?_eq_getElem (by omega)] at hel
  obtain ⟨k, e1, e2, _⟩ := DataW.trod_int Tryd.underlying111 hel
  have e3 : (cs.drop i).take 1 = [cs[i]] := by rw [List.drop_eq_getElem_cons (by omega)]; rfl
  rw [e3] at e1
  have e4 : (xs.map (·.1))[i]'(by rw [List.length_map]; omega) = (l.map fun (x : Nat) => (DataW.lit (.int .u32 (x : Int)) : DataW Unit))[i]'(by rw [List.length_map]; omega) := by
    congr 1; exact e.symm
  rw [List.getElem_map, List.getElem_map, e2] at e4
  injection e4 with e4
  injection e4 with _ e4
  rw [List.getElem_map, wv, ← e4]
  simpa using e1

theorem heap_of_var {W : World} {n : String} {g : Nat} {cs : Array Value} (hg : Tryd.prog.globalNamed n = some g) (h : W.var? Tryd.prog n = some cs) : ∃ t fr, W.heap[g]? = some (.cells cs t fr) := by
  simp only [World.var?, hg, Option.bind_some] at h
  split at h
  · next cs' t fr he =>
    injection h with h
    subst h
    exact ⟨t, fr, he⟩
  · cases h

set_option maxRecDepth 100000 in
/-- What the condition gives the walks: the tables lie in the blocks 0 and 1. -/
theorem tabs_of_laid {W : World} (h : laidMetH Tryd.prog laidT W) : Tabs W := by
  rw [MakeChecks.laidMetH_plain _ _ _ (by kernel_rfl)] at h
  obtain ⟨ps, ⟨g0, t0, cs0, f0, p0, q0, hg0, ht0, hv0, hd0, ⟨g1, t1, cs1, f1, p1, q1, hg1, ht1, hv1, hd1, hq1, hps1⟩, hps⟩, _, hrow⟩ := h
  obtain rfl := Option.some.inj (gStart.symm.trans hg0)
  obtain rfl := Option.some.inj (gNumbers.symm.trans hg1)
  obtain rfl := Option.some.inj (tStart.symm.trans ht0)
  obtain rfl := Option.some.inj (tNumbers.symm.trans ht1)
  have e0 := wrow_of_trod (l := st0.toL) Tryd.underlying112 cStart rfl hd0
  have e1 := wrow_of_trod (l := kTab) Tryd.underlying127 cNumbers kTab_length hd1
  have k0 : cs0 = wrow st0.toL := by cases cs0; simp at e0; rw [e0]; rfl
  have k1 : cs1 = wrow kTab := by cases cs1; simp at e1; rw [e1]; rfl
  subst k0 k1
  obtain ⟨t, fr, hh0⟩ := heap_of_var hg0 hv0
  obtain ⟨t', fr', hh1⟩ := heap_of_var hg1 hv1
  have m0 : MemPlace.cell 0 0 ∈ ps := by
    rw [hps]; simp only [List.mem_append]; left; left
    unfold MemPlace.row
    exact List.mem_map.2 ⟨0, List.mem_range.2 (by decide), rfl⟩
  have m1 : MemPlace.cell 1 0 ∈ ps := by
    rw [hps, hps1]; simp only [List.mem_append]; right; left; left
    unfold MemPlace.row
    exact List.mem_map.2 ⟨0, List.mem_range.2 (by simp [wrow, kTab_length]), rfl⟩
  obtain ⟨⟨c, tt, r0⟩, _⟩ := hrow _ _ m0
  obtain ⟨⟨c', tt', r1⟩, _⟩ := hrow _ _ m1
  rw [hh0] at r0
  rw [hh1] at r1
  injection r0 with r0; injection r0 with _ _ r0
  injection r1 with r1; injection r1 with _ _ r1
  subst r0 r1
  exact ⟨⟨t, hh0⟩, ⟨t', hh1⟩⟩

end Go.Proofs.YtjhecmmbpmpmgaaDoor
