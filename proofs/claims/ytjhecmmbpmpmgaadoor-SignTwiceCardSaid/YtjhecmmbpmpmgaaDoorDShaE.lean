/- digest's Sum by its contract. -/
import Derived.Test.YtjhecmmbpmpmgaaDoorDShaD
import Derived.Test.YtjhecmmbpmpmgaaDoorDBytes
import Derived.Test.YtjhecmmbpmpmgaaDoorPSha3
import Derived.Laws.Rows
import Derived.Laws.Tables
namespace Go.Proofs.YtjhecmmbpmpmgaaDoor
open Go.RowKit Go.Lib

/-- the digest's tables, as they are laid -/
structure Tabs (w : World) : Prop where
  s : ∃ t, w.heap[0]? = some (.cells (wrow st0.toL) t (0, 0))
  k : ∃ t, w.heap[1]? = some (.cells (wrow kTab) t (0, 0))

def brow (l : List UInt8) : Array Value := (l.map bv).toArray
/-- a digest as a value -/
def dig (l : List UInt8) : Value := .agg (brow l)

/-- the loops' state: the state's block, the result's, all else as it was -/
structure Abs (w : World) (s : St) (wr : World) : Prop where
  below : Below w.heap.size w wr
  row : wr.heap[w.heap.size + 1]? = some (.cells (wrow s.toL) 113 (0, 0))
  out : wr.heap[w.heap.size]? = some (.cells (brow (List.replicate 32 0)) 47 (0, 0))

theorem Abs.step {w : World} {s s' : St} {wr w' : World} (h : Abs w s wr) (hg : wr.grownBy w' (some (w.heap.size + 1))) (hr : w'.heap[w.heap.size + 1]? = some (.cells (wrow s'.toL) 113 (0, 0))) : Abs w s' w' := by
  have hlt : w.heap.size + 1 < wr.heap.size := (Array.getElem?_eq_some_iff.1 h.row).1
  refine ⟨⟨hg.os.trans h.below.os, hg.tape.trans h.below.tape, hg.output.trans h.below.output, Nat.le_trans h.below.size hg.size, fun k hk => ?_⟩, hr, ?_⟩
  · rw [hg.block k (by have := h.below.size; omega) (by intro e; injection e with e; omega)]; exact h.below.block k hk
  · rw [hg.block _ (by omega) (by intro e; injection e with e; omega)]; exact h.out

theorem Abs.tabs {w : World} {s : St} {wr : World} (h : Abs w s wr) (hT : Tabs w) : Tabs wr :=
  ⟨hT.s.imp fun _ e => (h.below.block 0 (Array.getElem?_eq_some_iff.1 e).1).trans e, hT.k.imp fun _ e => (h.below.block 1 (Array.getElem?_eq_some_iff.1 e).1).trans e⟩

/-- new blocks, and the loops' own, alone turn -/
theorem Abs.then {w : World} {s : St} {wr w' : World} (h : Abs w s wr) (hb : Below (w.heap.size + 2) wr w') : Abs w s w' :=
  have hlt : w.heap.size + 1 < wr.heap.size := (Array.getElem?_eq_some_iff.1 h.row).1
  ⟨h.below.trans (hb.mono (by omega)), (hb.block _ (by omega)).trans h.row, (hb.block _ (by omega)).trans h.out⟩

theorem over_map (X cs : List UInt8) (off : Nat) : over (X.map bv) off (cs.map bv) = (X.take off ++ (cs ++ X.drop (off + cs.length))).map bv := by
  simp [over, List.map_take, List.map_drop]

theorem beB8 (x : Nat) : beB 8 x = lenBytes x := by
  simp [beB, lenBytes]

/-- the row behind the loop over whole blocks -/
structure Last (w : World) (E : Nat) (s : St) (LB : List UInt8) (wr : World) : Prop where
  abs : Abs w s wr
  new : w.heap.size + 2 ≤ E
  row : wr.heap[E]? = some (.cells (LB.map bv).toArray 5 (0, 0))

theorem last_step {w : World} {E : Nat} {s : St} {LB : List UInt8} {wr : World} (h : Last w E s LB wr) (hs : s.ok) (hT : Tabs w) (off cap : Nat) (hoff : off + 64 ≤ LB.length) (hc : 64 ≤ cap) (hcap : cap ≤ 128) :
    Calls Tryd.prog 90 #[.pointer (some ⟨w.heap.size + 1, 0, none⟩), .slice (some ⟨E, off, none⟩) 64 cap] wr fun e w' => e = .returned (.tuple #[]) ∧ Last w E (compress s ((LB.drop off).take 64)) LB w' := by
  have hlt : w.heap.size + 1 < wr.heap.size := (Array.getElem?_eq_some_iff.1 h.abs.row).1
  have hE : E < wr.heap.size := (Array.getElem?_eq_some_iff.1 h.row).1
  have hnew := h.new
  obtain ⟨tk, hk⟩ := hT.k
  obtain ⟨tk', hk'⟩ := (h.abs.tabs hT).k
  refine (absorb_any wr (w.heap.size + 1) E off cap s hs ((LB.drop off).take 64) (by rw [List.length_take, List.length_drop]; omega) hc (by omega) hlt hE (by omega) (by have := (Array.getElem?_eq_some_iff.1 hk).1; omega) h.abs.row hk' (fun i hi => ?_)).mono ?_
  · rw [cell_at h.row (by rw [List.length_map]; omega)]
    simp [bv]
  · rintro e w' ⟨rfl, hg, hr⟩
    exact ⟨rfl, h.abs.step hg hr, hnew, (hg.block E hE (by intro e; injection e with e; omega)).trans h.row⟩

theorem beB4 (x : Nat) : beB 4 x = be4 x := by
  simp [beB, be4]

/-- the result, its first words written -/
structure OutR (w : World) (s : St) (i : Nat) (wr : World) : Prop where
  below : Below w.heap.size w wr
  out : wr.heap[w.heap.size]? = some (.cells (brow (s.out.take (4 * i) ++ List.replicate (32 - 4 * i) 0)) 47 (0, 0))

theorem out_row (s : St) (i : Nat) (hi : i < 8) : (s.out.take (4 * i) ++ List.replicate (32 - 4 * i) 0).take (4 * i) ++ (be4 (s.toL.getD i 0) ++ (s.out.take (4 * i) ++ List.replicate (32 - 4 * i) 0).drop (4 * i + (be4 (s.toL.getD i 0)).length)) = s.out.take (4 * (i + 1)) ++ List.replicate (32 - 4 * (i + 1)) 0 := by
  match i, hi with
  | 0, _ => show _ = _; kernel_rfl
  | 1, _ => show _ = _; kernel_rfl
  | 2, _ => show _ = _; kernel_rfl
  | 3, _ => show _ = _; kernel_rfl
  | 4, _ => show _ = _; kernel_rfl
  | 5, _ => show _ = _; kernel_rfl
  | 6, _ => show _ = _; kernel_rfl
  | 7, _ => show _ = _; kernel_rfl

theorem out_put {w : World} {s : St} {i : Nat} {wr : World} (h : OutR w s i wr) (hi : i < 8) (x : Nat) (hx : x = s.toL.getD i 0) (hx2 : x < 4294967296) (off cap : Nat) (ho : off = 4 * i) (hc : cap = 32 - 4 * i) :
    Calls Tryd.prog 91 #[.slice (some ⟨w.heap.size, off, none⟩) 4 cap, .int .u64 x] wr fun e w' => e = .returned (.tuple #[]) ∧ OutR w s (i + 1) w' := by
  subst ho hc
  refine (put_any wr w.heap.size (4 * i) 4 (32 - 4 * i) x _ 47 (by omega) (by omega) (by omega) (by omega) h.out (by simp [out_length]; omega)).mono ?_
  rintro e w' ⟨rfl, hp⟩
  refine ⟨rfl, h.below.grown hp.grown h.below.size (fun k e => by injection e with e; omega), ?_⟩
  rw [hp.row, beB4, over_map, hx, out_row s i hi]
  rfl

theorem slice_dig (N i : Nat) (hi : i < 8) (w : World) : (Instr.sliceAt 47 (.pointer (some ⟨N, 0, none⟩)) (some (.int .i64 (4 * (i : Int)))) (some (.int .i64 (4 * (i : Int) + 4))) none).run Tryd.prog w = .ok (.slice (some ⟨N, 4 * i, none⟩) 4 (32 - 4 * i)) w := by
  match i, hi with
  | 0, _ => show _ = _; kernel_rfl
  | 1, _ => show _ = _; kernel_rfl
  | 2, _ => show _ = _; kernel_rfl
  | 3, _ => show _ = _; kernel_rfl
  | 4, _ => show _ = _; kernel_rfl
  | 5, _ => show _ = _; kernel_rfl
  | 6, _ => show _ = _; kernel_rfl
  | 7, _ => show _ = _; kernel_rfl

theorem dig_size (s : St) : (Tryd.prog.info? 47).map (·.size) = some (brow s.out).size := by kernel_rfl
theorem dig_one (s : St) : (brow s.out).all (·.oneCell') = true := by kernel_rfl

theorem index_st (s : St) (i : Nat) (hi : i < 8) (w : World) : (Instr.index 113 (.agg #[.int .u32 s.a, .int .u32 s.b, .int .u32 s.c, .int .u32 s.d, .int .u32 s.e, .int .u32 s.f, .int .u32 s.g, .int .u32 s.h]) (.int .i64 i)).run Tryd.prog w = .ok (.int .u32 ((s.toL.getD i 0 : Nat) : Int)) w := by
  match i, hi with
  | 0, _ => show _ = _; kernel_rfl
  | 1, _ => show _ = _; kernel_rfl
  | 2, _ => show _ = _; kernel_rfl
  | 3, _ => show _ = _; kernel_rfl
  | 4, _ => show _ = _; kernel_rfl
  | 5, _ => show _ = _; kernel_rfl
  | 6, _ => show _ = _; kernel_rfl
  | 7, _ => show _ = _; kernel_rfl

set_option maxRecDepth 100000 in
set_option maxHeartbeats 1600000 in
theorem sum_any (w : World) (S : Nat → Prop) (hS : ∀ k, S k → k < w.heap.size) (b : List UInt8) (v : Value) (hB : Bs w S b v) (hlen : b.length ≤ 1000000000) (hT : Tabs w) :
    Calls Tryd.prog 66 #[v] w fun e w' => e = .returned (dig (sha b)) ∧ Below w.heap.size w w' := by
  obtain ⟨tk, hk⟩ := hT.k
  have h1w : 1 < w.heap.size := (Array.getElem?_eq_some_iff.1 hk).1
  obtain ⟨ts, hs⟩ := hT.s
  clear hk
  have h0w : 0 < w.heap.size := by omega
  obtain ⟨A, cap, rfl, hlc, hcap, hcells⟩ := hB
  obtain ⟨z0, z1, z2, z3, z4, z5, z6, z7⟩ := eight_cells hs
  clear hs
  obtain ⟨n, hn⟩ : ∃ n, n = b.length := ⟨_, rfl⟩
  have HC := Lib.hid hcells
  clear hcells
  rw [← hn] at hlc hlen ⊢
  have HN := Lib.hid hn
  have HT := Lib.hid hT
  clear hn hT
  go_enter Tryd.func66, Tryd.ntmps66
  go_wp2_with fail
  go_loopw [5] (fun r wr => ∃ (k : Nat) (A' : Option Addr), 64 * k ≤ n ∧ r = .slice A' (n - 64 * k) (cap - 64 * k) ∧ (64 * k < n → ∃ bb off, A = some ⟨bb, off, none⟩ ∧ A' = some ⟨bb, off + 64 * k, none⟩) ∧ Abs w (absorbs k st0 b) wr) (fun r _ => match r with | .slice _ l _ => l | _ => 0)
  case atStart =>
    refine ⟨0, A, by omega, rfl, fun h => ?_, ?_⟩
    · obtain ⟨bb, off, e, _⟩ := HC.out (by rw [← HN.out]; omega)
      exact ⟨bb, off, e, by rw [e]; rfl⟩
    · refine ⟨((Below.refl _ _).alloc (Nat.le_refl _) _).alloc (by simp) _, ?_, ?_⟩
      · rw [show w.heap.size + 1 = (w.alloc _).heap.size from by simp, heap_alloc_new]; rfl
      · rw [Below.heap_alloc _ _ _ (by simp), heap_alloc_new]; rfl
  case round =>
    obtain ⟨k, A', hk, rfl, hA, hf⟩ := hrel
    by_cases hlt : 64 ≤ n - 64 * k
    · obtain ⟨bb, off, hA1, rfl⟩ := hA (by omega)
      have hge : ((n - 64 * k : Nat) : Int) ≥ 64 := by omega
      have hlt2 : w.heap.size + 1 < wr.heap.size := (Array.getElem?_eq_some_iff.1 hf.row).1
      have hn' := HN.out
      obtain ⟨bb', off', e', hSb, hcb⟩ := HC.out (by rw [← hn']; omega)
      rw [hA1] at e'
      injection e' with e'
      injection e' with e1 e2 e3
      subst e1 e2
      have hbb := hS _ hSb
      have hcall := Lib.hid (absorb_any wr (w.heap.size + 1) bb (off + 64 * k) (cap - 64 * k) (absorbs k st0 b) (absorbs_ok _ _ _ st0_ok) ((b.drop (64 * k)).take 64) (by rw [List.length_take, List.length_drop]; omega) (by omega) (by omega)
        hlt2 (by omega) (by omega) (by omega) hf.row (hf.tabs HT.out).k.choose_spec (fun i hi => by
          rw [World.cell?_of_block (w := w) (a := ⟨bb, off + 64 * k + i, none⟩) (hf.below.block _ hbb), Nat.add_assoc, hcb (64 * k + i) (by omega)]
          simp))
      have HA1 := Lib.hid hA1
      clear hcb hn' hA1
      rcases Nat.lt_or_ge 64 (cap - 64 * k) with hcz | hcz
      · go_wp2_with fail
        refine hcall.out.mono ?_
        rintro e w' ⟨rfl, hg, hr⟩
        have hf' := hf.step hg (by rw [hr, ← absorbs_succ'])
        clear hg hr hcall
        go_wp2_with fail
        refine ⟨⟨k + 1, some ⟨bb, off + 64 * (k + 1), none⟩, by omega, ?_, fun _ => ⟨bb, off, HA1.out, rfl⟩, hf'⟩, ?_⟩
        · rw [show n - 64 * (k + 1) = n - 64 * k - 64 from by omega, show cap - 64 * (k + 1) = cap - 64 * k - 64 from by omega, show off + 64 * (k + 1) = off + 64 * k + 64 from by omega]
        · simp; omega
      · go_wp2_with fail
        refine hcall.out.mono ?_
        rintro e w' ⟨rfl, hg, hr⟩
        have hf' := hf.step hg (by rw [hr, ← absorbs_succ'])
        clear hg hr hcall
        have z1 : n - 64 * (k + 1) = n - 64 * k - 64 := by omega
        have z2 : cap - 64 * (k + 1) = 0 := by omega
        have z3 := Lib.hid z1
        have z4 := Lib.hid z2
        clear z1 z2
        go_wp2_with fail
        all_goals
          refine ⟨⟨k + 1, some ⟨bb, off + 64 * k, none⟩, by omega, ?_, fun h => absurd h (by omega), hf'⟩, ?_⟩
          · rw [z3.out, z4.out]
          · simp; omega
    · have hge : ¬ ((n - 64 * k : Nat) : Int) ≥ 64 := by omega
      have hkn : k = b.length / 64 := by have := HN.out; omega
      have HKN := Lib.hid hkn
      obtain ⟨rest, hrest⟩ : ∃ rest, Hid (rest = b.drop (64 * k)) := ⟨_, Lib.hid rfl⟩
      have hrl : rest.length = n - 64 * k := by rw [hrest.out, List.length_drop, ← HN.out]
      obtain ⟨Z, hZ⟩ : ∃ Z : List Value, Hid (Z = (List.replicate 128 0).map bv) := ⟨_, Lib.hid rfl⟩
      have hZl : Z.length = 128 := by rw [hZ.out]; simp
      have hmk : ∀ w, (Instr.makeSlice 22 (.int .i64 64) (.int .i64 128)).run Tryd.prog w = .ok (.slice (some ⟨w.heap.size, 0, none⟩) 64 128) (w.alloc (.cells Z.toArray 5)) := fun w => by rw [hZ.out]; kernel_rfl
      have hE : (wr.alloc (.cells Z.toArray 5)).heap[wr.heap.size]? = some (.cells Z.toArray 5 (0, 0)) := heap_alloc_new _ _
      have hfa : Abs w (absorbs k st0 b) (wr.alloc (.cells Z.toArray 5)) := hf.then ((Below.refl _ _).alloc (Array.getElem?_eq_some_iff.1 hf.row).1 _)
      have hpos : 0 < (rest.map bv).length → (some (⟨wr.heap.size, 0, none⟩ : Addr) = some ⟨wr.heap.size, 0, none⟩) ∧ ∃ ad, A' = some ad ∧ ∀ j v, (rest.map bv)[j]? = some v → (wr.alloc (.cells Z.toArray 5)).cell? (ad.add j) = some v := fun hpos => by
        rw [List.length_map, hrl] at hpos
        obtain ⟨bb, off, hA1, hA2⟩ := hA (by omega)
        obtain ⟨bb', off', e', hSb, hcb⟩ := HC.out (by rw [← HN.out]; omega)
        rw [hA1] at e'
        injection e' with e'
        injection e' with e1 e2 e3
        subst e1 e2
        refine ⟨rfl, _, hA2, fun j v hv => ?_⟩
        rw [List.getElem?_map, Option.map_eq_some_iff] at hv
        obtain ⟨c, hc, rfl⟩ := hv
        obtain ⟨hj, hc⟩ := List.getElem?_eq_some_iff.1 hc
        rw [Addr.add_lit, World.cell?_of_block (w := w) (a := ⟨bb, off + 64 * k + j, none⟩) (hfa.below.block _ (hS _ hSb)), Nat.add_assoc, hcb (64 * k + j) (by have := HN.out; omega), ← hc]
        have hr := hrest.out
        subst hr
        simp [bv]
      have hmin : (rest.map bv).length = Nat.min (n - 64 * k) 64 := by rw [List.length_map, hrl]; exact (Nat.min_eq_left (by omega)).symm
      have hfit : 0 + (rest.map bv).length ≤ Z.length := by rw [List.length_map, hrl, hZl]; omega
      have hone : ∀ v ∈ rest.map bv, v.oneCell' = true := fun v hv => by obtain ⟨c, _, rfl⟩ := List.mem_map.1 hv; rfl
      obtain ⟨L1, hL1⟩ : ∃ L1, Hid (L1 = splice Z 0 (rest.map bv)) := ⟨_, Lib.hid rfl⟩
      have hL1l : L1.length = 128 := by rw [hL1.out, length_splice _ _ _ hfit, hZl]
      have P1 := Lib.hid hpos; have P2 := Lib.hid hmin; have P3 := Lib.hid hfit; have P4 := Lib.hid hone
      clear hkn hpos hmin hfit hone
      have hEs : w.heap.size + 2 ≤ wr.heap.size := (Array.getElem?_eq_some_iff.1 hf.row).1
      have HF := Lib.hid hfa
      clear hfa hf hA
      have hL1e : Hid (L1 = (rest ++ List.replicate (128 - (n - 64 * k)) 0).map bv) := Lib.hid (by rw [hL1.out, hZ.out, splice, List.length_map, hrl, List.take_zero, List.nil_append, Nat.zero_add, List.map_append, ← List.map_drop, List.drop_replicate])
      have k5 : 0 ≤ ((n - 64 * k : Nat) : Int) := by omega
      have k6 : ((n - 64 * k : Nat) : Int) < 64 := by omega
      rcases Nat.lt_or_ge 55 (n - 64 * k) with h55 | h55
      · go_wp2_with (with_reducible refine wpList_copy_splice rfl (.tmp 22) (.tmp 23) 22 22 rfl 5 rfl rfl (some ⟨wr.heap.size, 0, none⟩) A' 64 128 (n - 64 * k) (cap - 64 * k) rfl rfl wr.heap.size 0 Z 5 hE (rest.map bv) P2.out P1.out P3.out P4.out (w.heap.size + 2) _ (Below.refl _ _) hEs ?_; intro w4 hg4 hb4; have hb4' := Lib.hid hb4; have hg5 : w4.heap[wr.heap.size]? = some (.cells L1.toArray 5 (0, 0)) := (by rw [hL1.out]; exact hg4.out); have hold : w4.cell? ⟨wr.heap.size, n - 64 * k, none⟩ = some (L1[n - 64 * k]'(by omega)) := cell_at hg5 (by omega); have hfree : w4.frozen? ⟨wr.heap.size, n - 64 * k, none⟩ = false := frozen_at hg5; have HG5 := Lib.hid hg5; clear hg5 hg4 hb4)
        have hrow6 : (w4.setCell ⟨wr.heap.size, n - 64 * k, none⟩ (.int .u8 128)).heap[wr.heap.size]? = some (.cells (L1.set (n - 64 * k) (.int .u8 128)).toArray 5 (0, 0)) := by
          rw [d_setCell_heap HG5.out, List.setIfInBounds_toArray]
        have hE4 : wr.heap.size < w4.heap.size := (Array.getElem?_eq_some_iff.1 HG5.out).1
        have hb6 : Below (w.heap.size + 2) (wr.alloc (.cells Z.toArray 5)) (w4.setCell ⟨wr.heap.size, n - 64 * k, none⟩ (.int .u8 128)) := hb4'.out.setCell hEs _
        have hsz6 : (w4.setCell ⟨wr.heap.size, n - 64 * k, none⟩ (.int .u8 128)).heap.size = w4.heap.size := by simp [World.setCell]
        rw [show ((n : Int) * 8) = ((n * 8 : Nat) : Int) from by omega]
        refine (put_any _ wr.heap.size 120 8 8 (n * 8) _ 5 (by omega) (by omega) (by omega) (by omega) hrow6 (by rw [List.length_set]; omega)).mono ?_
        rintro e w5 ⟨rfl, hp⟩
        have hm : 2 = lastN b.length := by have := HN.out; have := HKN.out; unfold lastN; split <;> omega
        have hLast : Last w wr.heap.size (absorbs k st0 b) (lastB b ++ List.replicate (128 - 64 * 2) 0) w5 := by
          refine ⟨HF.out.then (hb6.grown hp.grown (by rw [hsz6]; omega) (fun k e => by injection e with e; omega)), hEs, ?_⟩
          rw [hp.row, hL1e.out, ← last_row b rest (by rw [hrest.out, HKN.out]) (n - 64 * k) 2 (by have := HN.out; have := HKN.out; omega) hm, beB8, HN.out]
          rw [show Value.int .u8 128 = bv 128 from rfl, ← List.map_set, over_map]
          rfl
        have HL := Lib.hid hLast
        have hm' := Lib.hid hm
        clear hrow6 hb6 hsz6 hp hLast hm hold hfree
        go_wp2_with fail
        obtain ⟨LB, hLB⟩ : ∃ LB, Hid (LB = lastB b ++ List.replicate (128 - 64 * 2) 0) := ⟨_, Lib.hid rfl⟩
        have hLBl : LB.length = 128 := by rw [hLB.out, List.length_append, lastB_length, ← hm'.out, List.length_replicate]
        rw [← hLB.out] at HL
        obtain ⟨s1, hs1⟩ : ∃ s1, Hid (s1 = compress (absorbs k st0 b) ((LB.drop 0).take 64)) := ⟨_, Lib.hid rfl⟩
        obtain ⟨fin, hfin⟩ : ∃ s2, Hid (s2 = compress s1 ((LB.drop 64).take 64)) := ⟨_, Lib.hid rfl⟩
        go_loopw [6] (fun e wr' => (e = .slice (some ⟨wr.heap.size, 0, none⟩) 128 128 ∧ Last w wr.heap.size (absorbs k st0 b) LB wr') ∨ (e = .slice (some ⟨wr.heap.size, 64, none⟩) 64 64 ∧ Last w wr.heap.size s1 LB wr') ∨ (∃ A2 c, e = .slice A2 0 c ∧ Last w wr.heap.size fin LB wr')) (fun e _ => match e with | .slice _ l _ => l | _ => 0)
        case atStart => exact .inl ⟨rfl, HL.out⟩
        case round =>
          rename World => w7
          rcases hrel with ⟨rfl, hl⟩ | ⟨rfl, hl⟩ | ⟨A2, c2, rfl, hl⟩
          · have hl' := Lib.hid hl
            clear hl
            go_wp2_with fail
            refine (last_step hl'.out (absorbs_ok _ _ _ st0_ok) HT.out 0 128 (by rw [hLBl]; omega) (by omega) (by omega)).mono ?_
            rintro e w8 ⟨rfl, hl⟩
            rw [← hs1.out] at hl
            go_wp2_with fail
            exact ⟨.inr (.inl ⟨rfl, hl⟩), by simp⟩
          · have hl' := Lib.hid hl
            clear hl
            go_wp2_with fail
            refine (last_step hl'.out (by rw [hs1.out]; exact compress_ok _ _) HT.out 64 64 (by rw [hLBl]; omega) (by omega) (by omega)).mono ?_
            rintro e w8 ⟨rfl, hl⟩
            rw [← hfin.out] at hl
            go_wp2_with fail
            exact ⟨.inr (.inr ⟨_, _, rfl, hl⟩), by simp⟩
          · have hfs : fin = absorbs 2 (absorbs k st0 b) (lastB b) := by
              rw [hfin.out, hs1.out, hLB.out]
              have hll := lastB_length b
              rw [← hm'.out] at hll
              simp only [absorbs]
              rw [List.drop_zero, List.take_append_of_le_length (by omega), List.drop_append_of_le_length (by omega), List.take_append_of_le_length (by rw [List.length_drop]; omega)]
            have HFS : Hid (sha b = fin.out) := Lib.hid (by rw [hfs, HKN.out, sha_split, ← hm'.out])
            have hok : fin.ok := by rw [hfs]; exact absorbs_ok _ _ _ (absorbs_ok _ _ _ st0_ok)
            clear hfs
            obtain ⟨r0, r1, r2, r3, r4, r5, r6, r7⟩ := eight_cells hl.abs.row
            have hbel := Lib.hid hl.abs.below
            have hout := Lib.hid hl.abs.out
            clear hl
            go_wp2_with fail
            go_loopw [54] (fun i wr' => ∃ i' : Nat, i' ≤ 8 ∧ i = .int .i64 i' ∧ OutR w fin i' wr') (fun i _ => 8 - (intOf i).toNat)
            case atStart => exact ⟨0, by omega, rfl, hbel.out, hout.out⟩
            case round =>
              rename World => w9
              obtain ⟨i, hi, rfl, ho⟩ := hrel
              by_cases hlt : i < 8
              · have ho' := Lib.hid ho
                obtain ⟨x, hx⟩ : ∃ x, Hid (x = fin.toL.getD i 0) := ⟨_, Lib.hid rfl⟩
                have hxl : x < 4294967296 := by
                  rw [hx.out, show fin.toL.getD i 0 = fin.toL[i]'(by simp [St.toL]; omega) from by simp [List.getD, St.toL, hlt]]
                  exact toL_lt hok _ (List.getElem_mem _)
                have hidx : ∀ w', (Instr.index 113 (.agg #[.int .u32 fin.a, .int .u32 fin.b, .int .u32 fin.c, .int .u32 fin.d, .int .u32 fin.e, .int .u32 fin.f, .int .u32 fin.g, .int .u32 fin.h]) (.int .i64 i)).run Tryd.prog w' = .ok (.int .u32 (x : Int)) w' := fun w' => by rw [hx.out]; exact index_st fin i hlt w'
                have hsl : ∀ w', (Instr.sliceAt 47 (.pointer (some ⟨w.heap.size, 0, none⟩)) (some (.int .i64 (4 * (i : Int)))) (some (.int .i64 (4 * (i : Int) + 4))) none).run Tryd.prog w' = .ok (.slice (some ⟨w.heap.size, 4 * i, none⟩) 4 (32 - 4 * i)) w' := fun w' => slice_dig w.heap.size i hlt w'
                clear ho
                go_wp2_with fail
                refine (out_put ho'.out hlt x hx.out hxl (4 * i) (32 - 4 * i) rfl rfl).mono ?_
                rintro e w10 ⟨rfl, ho2⟩
                go_wp2_with fail
                exact ⟨⟨i + 1, by omega, by go_num, ho2⟩, by simp [intOf]; omega⟩
              · have h8 : i = 8 := by omega
                subst h8
                have hO : w9.heap[w.heap.size]? = some (.cells (brow fin.out) 47 (0, 0)) := by rw [ho.out, List.take_of_length_le (by rw [out_length]; omega)]; simp
                have hb9 := ho.below
                clear ho
                go_wp2_with (first | (refine wpList_load_row rfl 47 (.tmp 2) rfl w.heap.size rfl 47 (brow fin.out) (0, 0) _ hO Tryd.underlying47 rfl (dig_size fin) ?_) | (refine wpList_store_row rfl 47 (.tmp 2) (.tmp 68) rfl w.heap.size (brow fin.out) rfl rfl 47 (brow fin.out) hO (dig_size fin) rfl (dig_one fin) ?_; rw [setRow_self _ _ _ _ _ hO]))
                refine bodyPost_ret (v := dig fin.out) ?_ rfl ⟨by rw [HFS.out], hb9⟩
                exact results_cell_row rfl _ _ w.heap.size 47 (brow fin.out) (0, 0) _ rfl hO Tryd.underlying47 rfl (dig_size fin)

      · go_wp2_with (with_reducible refine wpList_copy_splice rfl (.tmp 22) (.tmp 23) 22 22 rfl 5 rfl rfl (some ⟨wr.heap.size, 0, none⟩) A' 64 128 (n - 64 * k) (cap - 64 * k) rfl rfl wr.heap.size 0 Z 5 hE (rest.map bv) P2.out P1.out P3.out P4.out (w.heap.size + 2) _ (Below.refl _ _) hEs ?_; intro w4 hg4 hb4; have hb4' := Lib.hid hb4; have hg5 : w4.heap[wr.heap.size]? = some (.cells L1.toArray 5 (0, 0)) := (by rw [hL1.out]; exact hg4.out); have hold : w4.cell? ⟨wr.heap.size, n - 64 * k, none⟩ = some (L1[n - 64 * k]'(by omega)) := cell_at hg5 (by omega); have hfree : w4.frozen? ⟨wr.heap.size, n - 64 * k, none⟩ = false := frozen_at hg5; have HG5 := Lib.hid hg5; clear hg5 hg4 hb4)
        have hrow6 : (w4.setCell ⟨wr.heap.size, n - 64 * k, none⟩ (.int .u8 128)).heap[wr.heap.size]? = some (.cells (L1.set (n - 64 * k) (.int .u8 128)).toArray 5 (0, 0)) := by
          rw [d_setCell_heap HG5.out, List.setIfInBounds_toArray]
        have hE4 : wr.heap.size < w4.heap.size := (Array.getElem?_eq_some_iff.1 HG5.out).1
        have hb6 : Below (w.heap.size + 2) (wr.alloc (.cells Z.toArray 5)) (w4.setCell ⟨wr.heap.size, n - 64 * k, none⟩ (.int .u8 128)) := hb4'.out.setCell hEs _
        have hsz6 : (w4.setCell ⟨wr.heap.size, n - 64 * k, none⟩ (.int .u8 128)).heap.size = w4.heap.size := by simp [World.setCell]
        rw [show ((n : Int) * 8) = ((n * 8 : Nat) : Int) from by omega]
        refine (put_any _ wr.heap.size 56 8 72 (n * 8) _ 5 (by omega) (by omega) (by omega) (by omega) hrow6 (by rw [List.length_set]; omega)).mono ?_
        rintro e w5 ⟨rfl, hp⟩
        have hm : 1 = lastN b.length := by have := HN.out; have := HKN.out; unfold lastN; split <;> omega
        have hLast : Last w wr.heap.size (absorbs k st0 b) (lastB b ++ List.replicate (128 - 64 * 1) 0) w5 := by
          refine ⟨HF.out.then (hb6.grown hp.grown (by rw [hsz6]; omega) (fun k e => by injection e with e; omega)), hEs, ?_⟩
          rw [hp.row, hL1e.out, ← last_row b rest (by rw [hrest.out, HKN.out]) (n - 64 * k) 1 (by have := HN.out; have := HKN.out; omega) hm, beB8, HN.out]
          rw [show Value.int .u8 128 = bv 128 from rfl, ← List.map_set, over_map]
          rfl
        have HL := Lib.hid hLast
        have hm' := Lib.hid hm
        clear hrow6 hb6 hsz6 hp hLast hm hold hfree
        go_wp2_with fail
        obtain ⟨LB, hLB⟩ : ∃ LB, Hid (LB = lastB b ++ List.replicate (128 - 64 * 1) 0) := ⟨_, Lib.hid rfl⟩
        have hLBl : LB.length = 128 := by rw [hLB.out, List.length_append, lastB_length, ← hm'.out, List.length_replicate]
        rw [← hLB.out] at HL
        obtain ⟨fin, hfin⟩ : ∃ s2, Hid (s2 = compress (absorbs k st0 b) ((LB.drop 0).take 64)) := ⟨_, Lib.hid rfl⟩
        go_loopw [6] (fun e wr' => (e = .slice (some ⟨wr.heap.size, 0, none⟩) 64 128 ∧ Last w wr.heap.size (absorbs k st0 b) LB wr') ∨ (∃ A2 c, e = .slice A2 0 c ∧ Last w wr.heap.size fin LB wr')) (fun e _ => match e with | .slice _ l _ => l | _ => 0)
        case atStart => exact .inl ⟨rfl, HL.out⟩
        case round =>
          rename World => w7
          rcases hrel with ⟨rfl, hl⟩ | ⟨A2, c2, rfl, hl⟩
          · have hl' := Lib.hid hl
            clear hl
            go_wp2_with fail
            refine (last_step hl'.out (absorbs_ok _ _ _ st0_ok) HT.out 0 128 (by rw [hLBl]; omega) (by omega) (by omega)).mono ?_
            rintro e w8 ⟨rfl, hl⟩
            rw [← hfin.out] at hl
            go_wp2_with fail
            exact ⟨.inr ⟨_, _, rfl, hl⟩, by simp⟩
          · have hfs : fin = absorbs 1 (absorbs k st0 b) (lastB b) := by
              rw [hfin.out, hLB.out]
              have hll := lastB_length b
              rw [← hm'.out] at hll
              simp only [absorbs]
              rw [List.drop_zero, List.take_append_of_le_length (by omega)]
            have HFS : Hid (sha b = fin.out) := Lib.hid (by rw [hfs, HKN.out, sha_split, ← hm'.out])
            have hok : fin.ok := by rw [hfs]; exact absorbs_ok _ _ _ (absorbs_ok _ _ _ st0_ok)
            clear hfs
            obtain ⟨r0, r1, r2, r3, r4, r5, r6, r7⟩ := eight_cells hl.abs.row
            have hbel := Lib.hid hl.abs.below
            have hout := Lib.hid hl.abs.out
            clear hl
            go_wp2_with fail
            go_loopw [54] (fun i wr' => ∃ i' : Nat, i' ≤ 8 ∧ i = .int .i64 i' ∧ OutR w fin i' wr') (fun i _ => 8 - (intOf i).toNat)
            case atStart => exact ⟨0, by omega, rfl, hbel.out, hout.out⟩
            case round =>
              rename World => w9
              obtain ⟨i, hi, rfl, ho⟩ := hrel
              by_cases hlt : i < 8
              · have ho' := Lib.hid ho
                obtain ⟨x, hx⟩ : ∃ x, Hid (x = fin.toL.getD i 0) := ⟨_, Lib.hid rfl⟩
                have hxl : x < 4294967296 := by
                  rw [hx.out, show fin.toL.getD i 0 = fin.toL[i]'(by simp [St.toL]; omega) from by simp [List.getD, St.toL, hlt]]
                  exact toL_lt hok _ (List.getElem_mem _)
                have hidx : ∀ w', (Instr.index 113 (.agg #[.int .u32 fin.a, .int .u32 fin.b, .int .u32 fin.c, .int .u32 fin.d, .int .u32 fin.e, .int .u32 fin.f, .int .u32 fin.g, .int .u32 fin.h]) (.int .i64 i)).run Tryd.prog w' = .ok (.int .u32 (x : Int)) w' := fun w' => by rw [hx.out]; exact index_st fin i hlt w'
                have hsl : ∀ w', (Instr.sliceAt 47 (.pointer (some ⟨w.heap.size, 0, none⟩)) (some (.int .i64 (4 * (i : Int)))) (some (.int .i64 (4 * (i : Int) + 4))) none).run Tryd.prog w' = .ok (.slice (some ⟨w.heap.size, 4 * i, none⟩) 4 (32 - 4 * i)) w' := fun w' => slice_dig w.heap.size i hlt w'
                clear ho
                go_wp2_with fail
                refine (out_put ho'.out hlt x hx.out hxl (4 * i) (32 - 4 * i) rfl rfl).mono ?_
                rintro e w10 ⟨rfl, ho2⟩
                go_wp2_with fail
                exact ⟨⟨i + 1, by omega, by go_num, ho2⟩, by simp [intOf]; omega⟩
              · have h8 : i = 8 := by omega
                subst h8
                have hO : w9.heap[w.heap.size]? = some (.cells (brow fin.out) 47 (0, 0)) := by rw [ho.out, List.take_of_length_le (by rw [out_length]; omega)]; simp
                have hb9 := ho.below
                clear ho
                go_wp2_with (first | (refine wpList_load_row rfl 47 (.tmp 2) rfl w.heap.size rfl 47 (brow fin.out) (0, 0) _ hO Tryd.underlying47 rfl (dig_size fin) ?_) | (refine wpList_store_row rfl 47 (.tmp 2) (.tmp 68) rfl w.heap.size (brow fin.out) rfl rfl 47 (brow fin.out) hO (dig_size fin) rfl (dig_one fin) ?_; rw [setRow_self _ _ _ _ _ hO]))
                refine bodyPost_ret (v := dig fin.out) ?_ rfl ⟨by rw [HFS.out], hb9⟩
                exact results_cell_row rfl _ _ w.heap.size 47 (brow fin.out) (0, 0) _ rfl hO Tryd.underlying47 rfl (dig_size fin)


end Go.Proofs.YtjhecmmbpmpmgaaDoor
