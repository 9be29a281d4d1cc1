/- digest's absorb by its contract. -/
import Derived.Test.YtjhecmmbpmpmgaaDoorDShaC
import Derived.Test.YtjhecmmbpmpmgaaDoorPSha2
import Derived.StillTailTactics
import Derived.Laws.CopyOwn
namespace Go.Proofs.YtjhecmmbpmpmgaaDoor
open Go.RowKit Go.Lib

def wv (x : Nat) : Value := .int .u32 (x : Int)
def wrow (l : List Nat) : Array Value := (l.map wv).toArray

theorem wrow_cell {w : World} {D j : Nat} {l : List Nat} {t : TypeId} {fr : Nat × Nat} (h : w.heap[D]? = some (.cells (wrow l) t fr)) (hj : j < l.length) : w.cell? ⟨D, j, none⟩ = some (.int .u32 ((l.getD j 0 : Nat) : Int)) := by
  simp [World.cell?, wrow, h, hj, wv, List.getD]

theorem wrow_set (l : List Nat) (j x : Nat) : (wrow l).setIfInBounds j (.int .u32 (x : Int)) = wrow (l.set j x) := by
  simp [wrow, wv, List.map_set]

theorem nextF_bits (x y z u : Nat) (hy : y < 4294967296) (hu : u < 4294967296) :
    ((x : Int) + bits .xor .u32 (bits .xor .u32 ((rr y 7 : Nat) : Int) ((rr y 18 : Nat) : Int)) ((y : Int) / 8) + (z : Int) + bits .xor .u32 (bits .xor .u32 ((rr u 17 : Nat) : Int) ((rr u 19 : Nat) : Int)) ((u : Int) / 1024)) % 4294967296
      = (nextF x y z u : Nat) := by
  have e1 : (y : Int) / 8 = ((y / 8 : Nat) : Int) := by simp
  have e2 : (u : Int) / 1024 = ((u / 1024 : Nat) : Int) := by simp
  rw [e1, e2, xor3_bits (rr_lt 7 hy) (rr_lt 18 hy) (Nat.lt_of_le_of_lt (Nat.div_le_self _ _) hy), xor3_bits (rr_lt 17 hu) (rr_lt 19 hu) (Nat.lt_of_le_of_lt (Nat.div_le_self _ _) hu)]
  have e3 : (rr y 7 ^^^ rr y 18) ^^^ y / 8 = sg0 y := rfl
  have e4 : (rr u 17 ^^^ rr u 19) ^^^ u / 1024 = sg1 u := rfl
  rw [e3, e4]
  unfold nextF
  generalize sg0 y = A
  generalize sg1 u = B
  omega

theorem p_bits (st : St) (k x : Nat) (h : st.ok) :
    ((st.h : Int) + (Sg1 st.e : Nat) + bits .xor .u32 (st.g : Int) (bits .and .u32 (st.e : Int) (bits .xor .u32 (st.f : Int) (st.g : Int))) + (k : Int) + (x : Int)) % 4294967296 = (((rp st k x + x) % 4294967296 : Nat) : Int) := by
  have e1 : bits .xor .u32 (st.g : Int) (bits .and .u32 (st.e : Int) (bits .xor .u32 (st.f : Int) (st.g : Int))) = ((chF st.e st.f st.g : Nat) : Int) := by
    rw [u32_xor_nat _ _ h.f h.g, u32_and_nat _ _ h.e (xor_lt h.f h.g), u32_xor_nat _ _ h.g (land_lt h.e)]; rfl
  rw [e1]
  unfold rp
  generalize Sg1 st.e = A
  generalize chF st.e st.f st.g = B
  omega

theorem q_bits (st : St) (h : st.ok) :
    ((Sg0 st.a : Nat) + bits .or .u32 (bits .and .u32 (st.a : Int) (st.b : Int)) (bits .and .u32 (st.c : Int) (bits .or .u32 (st.a : Int) (st.b : Int)))) % 4294967296 = (((Sg0 st.a + mjF st.a st.b st.c) % 4294967296 : Nat) : Int) := by
  rw [u32_and_nat _ _ h.a h.b, u32_or_nat _ _ h.a h.b, u32_and_nat _ _ h.c (lor_lt h.a h.b), u32_or_nat _ _ (land_lt h.a) (land_lt h.c)]
  unfold mjF
  simp

theorem new_d (st : St) (k x : Nat) (h : st.ok) : ((st.d : Int) + (↑st.h + ↑(Sg1 st.e) + bits BinOp.xor IntKind.u32 (↑st.g) (bits BinOp.and IntKind.u32 (↑st.e) (bits BinOp.xor IntKind.u32 ↑st.f ↑st.g)) + ↑k + ↑x : Int)) % 4294967296 = (((st.d + (rp st k x + x) % 4294967296) % 4294967296 : Nat) : Int) := by
  have hp := p_bits st k x h
  generalize (↑st.h + ↑(Sg1 st.e) + bits BinOp.xor IntKind.u32 (↑st.g) (bits BinOp.and IntKind.u32 (↑st.e) (bits BinOp.xor IntKind.u32 ↑st.f ↑st.g)) + ↑k + ↑x : Int) = P at *
  omega

theorem new_a (st : St) (k x : Nat) (h : st.ok) : ((↑st.h + ↑(Sg1 st.e) + bits BinOp.xor IntKind.u32 (↑st.g) (bits BinOp.and IntKind.u32 (↑st.e) (bits BinOp.xor IntKind.u32 ↑st.f ↑st.g)) + ↑k + ↑x : Int) + (↑(Sg0 st.a) + bits BinOp.or IntKind.u32 (bits BinOp.and IntKind.u32 ↑st.a ↑st.b) (bits BinOp.and IntKind.u32 (↑st.c) (bits BinOp.or IntKind.u32 ↑st.a ↑st.b)) : Int)) % 4294967296 = ((((rp st k x + x) % 4294967296 + (Sg0 st.a + mjF st.a st.b st.c) % 4294967296) % 4294967296 : Nat) : Int) := by
  have hp := p_bits st k x h
  have hq := q_bits st h
  generalize (↑st.h + ↑(Sg1 st.e) + bits BinOp.xor IntKind.u32 (↑st.g) (bits BinOp.and IntKind.u32 (↑st.e) (bits BinOp.xor IntKind.u32 ↑st.f ↑st.g)) + ↑k + ↑x : Int) = P at *
  generalize (↑(Sg0 st.a) + bits BinOp.or IntKind.u32 (bits BinOp.and IntKind.u32 ↑st.a ↑st.b) (bits BinOp.and IntKind.u32 (↑st.c) (bits BinOp.or IntKind.u32 ↑st.a ↑st.b)) : Int) = Q at *
  omega

theorem d_grown_below {w w1 : World} {r : Option Nat} (h : Below w.heap.size w w1) : w.grownBy w1 r := ⟨h.os, h.tape, h.output, h.size, fun k hk _ => h.block k hk⟩

theorem Calls.same {P : Program} {f : FuncId} {args : Array Value} {w : World} {v : Value} (h : Calls P f args w fun e w' => e = .returned v ∧ w = w') : Calls P f args w fun e w' => e = .returned v ∧ w' = w :=
  h.mono fun _ _ ⟨he, hw⟩ => ⟨he, hw.symm⟩

theorem eight_cells {w : World} {R : Nat} {s : St} {t : TypeId} {fr : Nat × Nat} (h : w.heap[R]? = some (.cells (wrow s.toL) t fr)) :
    w.cell? ⟨R, 0, none⟩ = some (.int .u32 (s.a : Int)) ∧ w.cell? ⟨R, 1, none⟩ = some (.int .u32 (s.b : Int)) ∧ w.cell? ⟨R, 2, none⟩ = some (.int .u32 (s.c : Int)) ∧ w.cell? ⟨R, 3, none⟩ = some (.int .u32 (s.d : Int)) ∧
    w.cell? ⟨R, 4, none⟩ = some (.int .u32 (s.e : Int)) ∧ w.cell? ⟨R, 5, none⟩ = some (.int .u32 (s.f : Int)) ∧ w.cell? ⟨R, 6, none⟩ = some (.int .u32 (s.g : Int)) ∧ w.cell? ⟨R, 7, none⟩ = some (.int .u32 (s.h : Int)) :=
  ⟨wrow_cell (j := 0) h (by simp [St.toL]), wrow_cell (j := 1) h (by simp [St.toL]), wrow_cell (j := 2) h (by simp [St.toL]), wrow_cell (j := 3) h (by simp [St.toL]), wrow_cell (j := 4) h (by simp [St.toL]), wrow_cell (j := 5) h (by simp [St.toL]), wrow_cell (j := 6) h (by simp [St.toL]), wrow_cell (j := 7) h (by simp [St.toL])⟩

structure Filled (w : World) (N : Nat) (ws : List Nat) (k : Nat) (wr : World) : Prop where
  below : Below N w wr
  row : wr.heap[N]? = some (.cells (wrow (ws.take k ++ List.replicate (64 - k) 0)) 127 (0, 0))

structure Sched (w : World) (N : Nat) (ws : List Nat) (t : Nat) (wr : World) : Prop where
  below : Below N w wr
  row : wr.heap[N]? = some (.cells (wrow (sched (t - 16) ws ++ List.replicate (64 - t) 0)) 127 (0, 0))

theorem below_drewN {B n : Nat} {a w : World} (h : Below B a w) : Below B a (w.drewN n) := ⟨h.os, h.tape, h.output, h.size, h.block⟩

theorem src7 {w : World} {V : Nat} {s : St} {t : TypeId} {fr : Nat × Nat} (h : w.heap[V]? = some (.cells (wrow s.toL) t fr)) :
    ∀ j v, ([.int .u32 s.a, .int .u32 s.b, .int .u32 s.c, .int .u32 s.d, .int .u32 s.e, .int .u32 s.f, .int .u32 s.g] : List Value)[j]? = some v → w.cell? ((⟨V, 0, none⟩ : Addr).add j) = some v := by
  intro j v hv
  obtain ⟨r0, r1, r2, r3, r4, r5, r6, r7⟩ := eight_cells h
  rw [Addr.add_lit, Nat.zero_add]
  match j, hv with
  | 0, hv => injection hv with hv; subst hv; exact r0
  | 1, hv => injection hv with hv; subst hv; exact r1
  | 2, hv => injection hv with hv; subst hv; exact r2
  | 3, hv => injection hv with hv; subst hv; exact r3
  | 4, hv => injection hv with hv; subst hv; exact r4
  | 5, hv => injection hv with hv; subst hv; exact r5
  | 6, hv => injection hv with hv; subst hv; exact r6
  | j + 7, hv => simp at hv

theorem one7 (a b c d e f g : Int) : ∀ v ∈ ([.int .u32 a, .int .u32 b, .int .u32 c, .int .u32 d, .int .u32 e, .int .u32 f, .int .u32 g] : List Value), v.oneCell' = true := by
  intro v hv
  simp only [List.mem_cons, List.not_mem_nil, or_false] at hv
  rcases hv with h | h | h | h | h | h | h <;> subst h <;> rfl

/-- s with its first k words raised by fin's -/
structure Added (w : World) (R V : Nat) (s fin : St) (k : Nat) (wr : World) : Prop where
  grown : w.grownBy wr (some R)
  row : wr.heap[R]? = some (.cells (wrow ((s.add fin).toL.take k ++ s.toL.drop k)) 113 (0, 0))
  other : wr.heap[V]? = some (.cells (wrow fin.toL) 113 (0, 0))

theorem added_get (s fin : St) (k : Nat) (h : k < 8) : ((s.add fin).toL.take k ++ s.toL.drop k).getD k 0 = s.toL.getD k 0 := by
  match k, h with
  | 0, _ => rfl | 1, _ => rfl | 2, _ => rfl | 3, _ => rfl | 4, _ => rfl | 5, _ => rfl | 6, _ => rfl | 7, _ => rfl

theorem added_set (s fin : St) (k : Nat) (h : k < 8) : ((s.add fin).toL.take k ++ s.toL.drop k).set k ((s.toL.getD k 0 + fin.toL.getD k 0) % 4294967296) = (s.add fin).toL.take (k + 1) ++ s.toL.drop (k + 1) := by
  match k, h with
  | 0, _ => rfl | 1, _ => rfl | 2, _ => rfl | 3, _ => rfl | 4, _ => rfl | 5, _ => rfl | 6, _ => rfl | 7, _ => rfl

structure Mixed (w : World) (V : Nat) (s : St) (wr : World) : Prop where
  below : Below V w wr
  row : wr.heap[V]? = some (.cells (wrow s.toL) 113 (0, 0))

theorem filled_set {ws : List Nat} (h : ws.length = 16) (k : Nat) (hk : k < 16) : (ws.take k ++ List.replicate (64 - k) 0).set k (ws.getD k 0) = ws.take (k + 1) ++ List.replicate (64 - (k + 1)) 0 := by
  have h3 : (ws.take k).length = k := by rw [List.length_take]; omega
  have e1 : 64 - k = (64 - (k + 1)) + 1 := by omega
  have e2 : ws.getD k 0 = ws[k] := by simp [List.getD, h, hk]
  rw [List.set_append_right _ _ (by omega), h3, Nat.sub_self, e1, List.replicate_succ, List.set_cons_zero, List.take_succ_eq_append_getElem (by omega), e2, List.append_assoc, List.singleton_append]

theorem sched_set {ws : List Nat} (h : ws.length = 16) (t : Nat) (h16 : 16 ≤ t) (ht : t < 64) :
    (sched (t - 16) ws ++ List.replicate (64 - t) 0).set t (nextF ((sched (t - 16) ws ++ List.replicate (64 - t) 0).getD (t - 16) 0) ((sched (t - 16) ws ++ List.replicate (64 - t) 0).getD (t - 15) 0) ((sched (t - 16) ws ++ List.replicate (64 - t) 0).getD (t - 7) 0) ((sched (t - 16) ws ++ List.replicate (64 - t) 0).getD (t - 2) 0)) =
    sched (t + 1 - 16) ws ++ List.replicate (64 - (t + 1)) 0 := by
  have hl : (sched (t - 16) ws).length = t := by rw [sched_length, h]; omega
  have e1 : 64 - t = (64 - (t + 1)) + 1 := by omega
  have e2 : t + 1 - 16 = (t - 16) + 1 := by omega
  have g : ∀ j, j < t → (sched (t - 16) ws ++ List.replicate (64 - t) 0).getD j 0 = (sched (t - 16) ws).getD j 0 := fun j hj => by
    simp only [List.getD]
    rw [List.getElem?_append_left (by omega)]
  rw [g _ (by omega), g _ (by omega), g _ (by omega), g _ (by omega), e2, sched_succ, List.set_append_right _ _ (by omega), hl, Nat.sub_self, e1, List.replicate_succ, List.set_cons_zero, List.append_assoc, List.singleton_append]
  congr 2
  unfold nextW nextF
  rw [hl]

theorem wpart4 (l : List UInt8) (h : l.length = 4) : wpart l 4 = be32 (l[0]'(by omega)) (l[1]'(by omega)) (l[2]'(by omega)) (l[3]'(by omega)) := by
  match l, h with
  | [a, b, c, d], _ => exact wpart_be a b c d

set_option maxRecDepth 100000 in
set_option maxHeartbeats 1600000 in
theorem absorb_any {tk : TypeId} (w : World) (R D off cap : Nat) (s : St) (hs : s.ok) (blk : List UInt8) (hl : blk.length = 64) (hc : 64 ≤ cap) (hcap : cap ≤ 9223372036854775807)
    (hR : R < w.heap.size) (hD : D < w.heap.size) (_hDR : D ≠ R) (_hR1 : R ≠ 1)
    (hS : w.heap[R]? = some (.cells (wrow s.toL) 113 (0, 0)))
    (hK : w.heap[1]? = some (.cells (wrow kTab) tk (0, 0)))
    (hb : ∀ i (h : i < 64), w.cell? ⟨D, off + i, none⟩ = some (.int .u8 ((blk[i]'(by omega)).toNat : Int))) :
    Calls Tryd.prog 90 #[.pointer (some ⟨R, 0, none⟩), .slice (some ⟨D, off, none⟩) 64 cap] w fun e w' => e = .returned (.tuple #[]) ∧ w.grownBy w' (some R) ∧ w'.heap[R]? = some (.cells (wrow (compress s blk).toL) 113 (0, 0)) := by
  have h1w : 1 < w.heap.size := (Array.getElem?_eq_some_iff.1 hK).1
  obtain ⟨ws, hws'⟩ : ∃ ws, Hid (ws = wordsOf blk) := ⟨_, Lib.hid rfl⟩
  have hws := hws'.out
  have hwl : ws.length = 16 := by rw [hws]; exact wordsOf_length 16 blk hl
  have hblk : Hid (∀ w', Below w.heap.size w w' → ∀ k, k < 16 → ∃ l : List UInt8, ∃ hl4 : l.length = 4, wpart l 4 = ws.getD k 0 ∧ ∀ i (h : i < 4), w'.cell? ⟨D, off + 4 * k + i, none⟩ = some (.int .u8 ((l[i]'(by omega)).toNat : Int))) := Lib.hid fun w' hb' k hk => by
    refine ⟨[blk[4 * k], blk[4 * k + 1], blk[4 * k + 2], blk[4 * k + 3]], rfl, ?_, fun i hi => ?_⟩
    · rw [wpart_be]
      have e2 : ws.getD k 0 = ws[k] := by simp [List.getD, hwl, hk]
      rw [e2]
      subst hws
      exact (wordsOf_get 16 blk k hl hk).symm
    · rw [World.cell?_of_block (w := w) (a := ⟨D, off + 4 * k + i, none⟩) (hb'.block D hD), Nat.add_assoc, hb (4 * k + i) (by omega)]
      match i, hi with
      | 0, _ => rfl
      | 1, _ => rfl
      | 2, _ => rfl
      | 3, _ => rfl
  have hwlt : ∀ x ∈ ws, x < 4294967296 := by rw [hws]; exact wordsOf_lt blk
  clear hb hws
  go_enter Tryd.func90, Tryd.ntmps90
  go_wp2_with fail
  go_loopw [14] (fun i wr => ∃ k : Nat, k ≤ 16 ∧ i = .int .i64 k ∧ Filled w w.heap.size ws k wr) (fun i _ => 16 - (intOf i).toNat)
  case atStart =>
    refine ⟨0, by omega, rfl, (Below.refl _ _).alloc (Nat.le_refl _) _, ?_⟩
    rw [heap_alloc_new]; kernel_rfl
  case round =>
    obtain ⟨k, hk, rfl, hf⟩ := hrel
    by_cases hlt : k < 16
    · obtain ⟨l, hl4, hlw, hlc⟩ := hblk.out wr hf.below k hlt
      have HLW := Lib.hid hlw
      clear hlw
      have hr := hf.row
      obtain ⟨C, hC⟩ : ∃ C, C = ws.take k ++ List.replicate (64 - k) 0 := ⟨_, rfl⟩
      rw [← hC] at hr
      have hCl : C.length = 64 := by rw [hC]; simp; omega
      have hold := wrow_cell hr (j := k) (by omega)
      have hfree : wr.frozen? ⟨w.heap.size, k, none⟩ = false := frozen_at hr
      go_wp2_with fail
      refine (word_any wr D (off + 4 * k) (64 - 4 * k) (cap - 4 * k) l hl4 (by omega) (by omega) hlc).mono ?_
      rintro e w' ⟨rfl, rfl⟩
      go_wp2_with fail
      refine ⟨⟨k + 1, by omega, by go_num, hf.below.setCell (Nat.le_refl _) _, ?_⟩, by simp [intOf]; omega⟩
      rw [HLW.out, d_setCell_heap hr, wrow_set, hC]
      congr 3
      rw [filled_set hwl k hlt]
    · have hk16 : k = 16 := by omega
      subst hk16
      have hbel := hf.below
      have hrow := hf.row
      clear hf
      go_wp2_with fail
      rw [show ws.take 16 = ws from List.take_of_length_le (by omega)] at hrow
      go_loopw [6] (fun i wr => ∃ t : Nat, 16 ≤ t ∧ t ≤ 64 ∧ i = .int .i64 t ∧ Sched w w.heap.size ws t wr) (fun i _ => 64 - (intOf i).toNat)
      case atStart => exact ⟨16, by omega, by omega, rfl, hbel, hrow⟩
      case round =>
        clear hbel hrow
        obtain ⟨t, ht16, ht64, rfl, hf⟩ := hrel
        by_cases hlt : t < 64
        · have hr := hf.row
          obtain ⟨C, hC⟩ : ∃ C, C = sched (t - 16) ws ++ List.replicate (64 - t) 0 := ⟨_, rfl⟩
          rw [← hC] at hr
          have hsl : (sched (t - 16) ws).length = t := by rw [sched_length, hwl]; omega
          have hCl : C.length = 64 := by rw [hC]; simp; omega
          have hlt4 := sched_lt (t - 16) ws hwlt
          have hC4 : ∀ (j : Nat) (hj : j < 64), C.getD j 0 < 4294967296 := fun j hj => by
            have : C.getD j 0 = C[j] := by simp [List.getD, hCl, hj]
            rw [this]
            subst hC
            rw [List.getElem_append]
            split
            · exact hlt4 _ (List.getElem_mem _)
            · rw [List.getElem_replicate]; decide
          have c15 := wrow_cell hr (j := t - 15) (by omega)
          have c2 := wrow_cell hr (j := t - 2) (by omega)
          obtain ⟨x15, h15⟩ : ∃ x, x = C.getD (t - 15) 0 := ⟨_, rfl⟩
          obtain ⟨x2, h2⟩ : ∃ x, x = C.getD (t - 2) 0 := ⟨_, rfl⟩
          have b15 : x15 < 4294967296 := by rw [h15]; exact hC4 _ (by omega)
          have b2 : x2 < 4294967296 := by rw [h2]; exact hC4 _ (by omega)
          rw [← h15] at c15; rw [← h2] at c2
          have H15 := Lib.hid h15; have H2 := Lib.hid h2; have HC := Lib.hid hC
          clear hC4 hlt4 h15 h2 hC
          go_wp2_with fail
          go_quiet (fail)
          go_wp2_with fail
          have row2 : (wr.drewN nq).heap[w.heap.size]? = some (.cells (wrow C) 127 (0, 0)) := hr
          have bel2 : Below w.heap.size w (wr.drewN nq) := below_drewN hf.below
          clear hr hf c15 c2
          generalize wr.drewN nq = w2 at *
          have hr : w2.drew.heap[w.heap.size]? = some (.cells (wrow C) 127 (0, 0)) := row2
          obtain ⟨T16, hT16⟩ : ∃ T, T = t - 16 := ⟨_, rfl⟩
          obtain ⟨T7, hT7⟩ : ∃ T, T = t - 7 := ⟨_, rfl⟩
          have c16 := wrow_cell hr (j := T16) (by omega)
          have c7 := wrow_cell hr (j := T7) (by omega)
          have c0 := wrow_cell hr (j := t) (by omega)
          obtain ⟨x16, h16⟩ : ∃ x, x = C.getD (T16) 0 := ⟨_, rfl⟩
          obtain ⟨x7, h7⟩ : ∃ x, x = C.getD (T7) 0 := ⟨_, rfl⟩
          rw [← h16] at c16; rw [← h7] at c7
          have hfree : w2.drew.frozen? ⟨w.heap.size, t, none⟩ = false := frozen_at hr
          have b16 : (T16 : Int) < 64 := by omega
          have b7' : (T7 : Int) < 64 := by omega
          have i16 : IntKind.i64.wrap ((t : Int) - 16) = (T16 : Int) := by rw [hT16]; rw [IntWalk.i64_in _ (by omega)]; omega
          have i7 : IntKind.i64.wrap ((t : Int) - 7) = (T7 : Int) := by rw [hT7]; rw [IntWalk.i64_in _ (by clear i16; omega)]; clear i16; omega
          have H16 := Lib.hid h16; have H7 := Lib.hid h7; have HT16 := Lib.hid hT16; have HT7 := Lib.hid hT7
          clear h16 h7 row2 hT16 hT7
          refine wp_region_still_tail 29 (by kernel_rfl) (by kernel_rfl) ?_
          simp only [List.take_succ_cons, List.take_zero, List.drop_succ_cons, List.drop_zero]
          repeat still_step
          still_call (Calls.same (rotl_7 x15 b15 _))
          repeat still_step
          still_call (Calls.same (rotl_18 x15 b15 _))
          repeat still_step
          still_call (Calls.same (rotl_17 x2 b2 _))
          repeat still_step
          still_call (Calls.same (rotl_19 x2 b2 _))
          repeat still_step
          refine wpStill_nil ?_
          change wpList _ _ _ _ _ w2.drew
          have bel3 : Below w.heap.size w w2.drew := bel2.drew
          have row3 := hr
          clear hr bel2 i16 i7 c16 c7
          generalize w2.drew = w3 at *
          go_wp2_with fail
          refine ⟨?_, by simp [intOf]; omega⟩
          refine ⟨_, _, _, _, _, _, _, _, _, _, _, _, _, _, _, _, _, _, _, _, _, _, _, _, _, _, _, _, _, _, _, _, _, _, _, _, _, _, _, _, _, _, _, _, ?_, rfl⟩
          refine ⟨t + 1, by omega, by omega, by go_num, bel3.setCell (Nat.le_refl _) _, ?_⟩
          rw [nextF_bits x16 x15 x7 x2 b15 b2, d_setCell_heap row3, wrow_set, HC.out]
          congr 3
          rw [H15.out, H2.out, H16.out, H7.out, HT16.out, HT7.out, HC.out]
          exact sched_set hwl t ht16 hlt
        · have ht : t = 64 := by omega
          subst ht
          have hbel := hf.below
          have hrow := hf.row
          obtain ⟨r0, r1, r2, r3, r4, r5, r6, r7⟩ := eight_cells (hf.below.block R hR ▸ hS)
          clear hf
          go_wp2_with fail
          rename World => w1
          obtain ⟨W, hW⟩ : ∃ W, Hid (W = sched 48 ws) := ⟨_, Lib.hid rfl⟩
          have hWl : W.length = 64 := by rw [hW.out, sched_length, hwl]
          have hWlt : ∀ x ∈ W, x < 4294967296 := by rw [hW.out]; exact sched_lt 48 ws hwlt
          have hrW : w1.heap[w.heap.size]? = some (.cells (wrow W) 127 (0, 0)) := by rw [hrow, hW.out]; simp
          have hNV : w.heap.size < w1.heap.size := (Array.getElem?_eq_some_iff.1 hrow).1
          have hKr : w1.heap[1]? = some (.cells (wrow kTab) tk (0, 0)) := (hbel.block 1 h1w).trans hK
          have hSr : w1.heap[R]? = some (.cells (wrow s.toL) 113 (0, 0)) := (hbel.block R hR).trans hS
          clear r0 r1 r2 r3 r4 r5 r6 r7 hrow
          go_loopw [69] (fun i wr2 => ∃ t : Nat, t ≤ 64 ∧ i = .int .i64 t ∧ Mixed w1 w1.heap.size (rounds s (kTab.take t) (W.take t)) wr2) (fun i _ => 64 - (intOf i).toNat)
          case atStart =>
            refine ⟨0, by omega, rfl, (Below.refl _ _).alloc (Nat.le_refl _) _, ?_⟩
            rw [heap_alloc_new]; rfl
          case round =>
            obtain ⟨t, ht, rfl, hf⟩ := hrel
            by_cases hlt : t < 64
            · obtain ⟨st, hst⟩ : ∃ st, st = rounds s (kTab.take t) (W.take t) := ⟨_, rfl⟩
              have hok : st.ok := by rw [hst]; exact rounds_ok _ _ hs
              have hr := hf.row
              rw [← hst] at hr
              obtain ⟨r0, r1, r2, r3, r4, r5, r6, r7⟩ := eight_cells hr
              have hrK : wr.heap[1]? = some (.cells (wrow kTab) tk (0, 0)) := (hf.below.block 1 (by omega)).trans hKr
              have hrN : wr.heap[w.heap.size]? = some (.cells (wrow W) 127 (0, 0)) := (hf.below.block _ hNV).trans hrW
              have cK := wrow_cell hrK (j := t) (by rw [kTab_length]; omega)
              have cW := wrow_cell hrN (j := t) (by omega)
              obtain ⟨kk, hkk⟩ : ∃ x, x = kTab.getD t 0 := ⟨_, rfl⟩
              obtain ⟨xx, hxx⟩ : ∃ x, x = W.getD t 0 := ⟨_, rfl⟩
              rw [← hkk] at cK; rw [← hxx] at cW
              have HK := Lib.hid hkk; have HX := Lib.hid hxx; have HST := Lib.hid hst
              clear hkk hxx hst
              go_wp2_with fail
              go_quiet ((go_at_call 103; refine Calls.quiet_of_same (Calls.same (rotated_e st.e hok.e _))))
              have row2 : (wr.drewN nq).heap[w1.heap.size]? = some (.cells (wrow st.toL) 113 (0, 0)) := hr
              have bel2 : Below w1.heap.size w1 (wr.drewN nq) := below_drewN hf.below
              clear hr hf r0 r1 r2 r3 r4 r5 r6 r7 cK cW hrK hrN
              generalize wr.drewN nq = w2 at *
              clear nq
              obtain ⟨r0, r1, r2, r3, r4, r5, r6, r7⟩ := eight_cells row2
              go_wp2_with fail
              go_quiet ((go_at_call 103; refine Calls.quiet_of_same (Calls.same (rotated_a st.a hok.a _))))
              have row3 : (w2.drewN nq).heap[w1.heap.size]? = some (.cells (wrow st.toL) 113 (0, 0)) := row2
              have bel3 : Below w1.heap.size w1 (w2.drewN nq) := below_drewN bel2
              clear row2 bel2 r0 r1 r2 r3 r4 r5 r6 r7
              generalize w2.drewN nq = w3 at *
              go_wp2_with fail
              go_still_tail 2, (by kernel_rfl)
              change wpList _ _ _ _ _ w3.drew
              have row4 : w3.drew.heap[w1.heap.size]? = some (.cells (wrow st.toL) 113 (0, 0)) := row3
              have bel4 : Below w1.heap.size w1 w3.drew := bel3.drew
              clear row3 bel3
              generalize w3.drew = w4 at *
              refine wpList_copy_own rfl (.tmp 116) (.tmp 117) 131 131 rfl 111 rfl rfl w1.heap.size 1 7 7 ⟨w1.heap.size, 0, none⟩ 7 8 rfl rfl (wrow st.toL) 113 row4 [.int .u32 st.a, .int .u32 st.b, .int .u32 st.c, .int .u32 st.d, .int .u32 st.e, .int .u32 st.f, .int .u32 st.g] rfl ?_ (by simp [wrow, St.toL]) ?_ ?_
              · exact src7 row4
              · exact one7 _ _ _ _ _ _ _
              · have row5 : (w4.setRow w1.heap.size #[.int .u32 st.a, .int .u32 st.a, .int .u32 st.b, .int .u32 st.c, .int .u32 st.d, .int .u32 st.e, .int .u32 st.f, .int .u32 st.g]).heap[w1.heap.size]? = some (.cells #[.int .u32 st.a, .int .u32 st.a, .int .u32 st.b, .int .u32 st.c, .int .u32 st.d, .int .u32 st.e, .int .u32 st.f, .int .u32 st.g] 113 (0, 0)) := setRow_heap _ _ _ _ _ _ row4
                have bel5 := below_setRow bel4 (Nat.le_refl _) #[.int .u32 st.a, .int .u32 st.a, .int .u32 st.b, .int .u32 st.c, .int .u32 st.d, .int .u32 st.e, .int .u32 st.f, .int .u32 st.g]
                change wpList _ _ _ _ _ (w4.setRow w1.heap.size #[.int .u32 st.a, .int .u32 st.a, .int .u32 st.b, .int .u32 st.c, .int .u32 st.d, .int .u32 st.e, .int .u32 st.f, .int .u32 st.g])
                clear row4 bel4
                generalize w4.setRow w1.heap.size #[.int .u32 st.a, .int .u32 st.a, .int .u32 st.b, .int .u32 st.c, .int .u32 st.d, .int .u32 st.e, .int .u32 st.f, .int .u32 st.g] = w5 at *
                have v4 : w5.cell? ⟨w1.heap.size, 4, none⟩ = some (.int .u32 st.d) := by simp [World.cell?, row5]
                have v0 : w5.cell? ⟨w1.heap.size, 0, none⟩ = some (.int .u32 st.a) := by simp [World.cell?, row5]
                have f4 : w5.frozen? ⟨w1.heap.size, 4, none⟩ = false := frozen_at row5
                have f0 : w5.frozen? ⟨w1.heap.size, 0, none⟩ = false := frozen_at row5
                go_wp2_with fail
                refine ⟨?_, by simp [intOf]; omega⟩
                refine ⟨_, _, _, _, _, _, _, _, _, _, _, _, _, _, _, _, _, _, _, _, _, _, _, _, _, _, _, _, _, _, _, _, _, _, _, _, _, _, _, _, _, _, _, _, _, _, _, _, _, _, _, _, _, _, _, _, _, _, _, _, _, _, _, ?_, rfl⟩
                refine ⟨t + 1, by omega, by go_num, (bel5.setCell (Nat.le_refl _) _).setCell (Nat.le_refl _) _, ?_⟩
                rw [d_setCell_heap (d_setCell_heap row5), new_d st kk xx hok, new_a st kk xx hok, rounds_succ t s kTab W (by rw [kTab_length]; omega) (by omega), ← HST.out,
                  show kTab[t]'(by rw [kTab_length]; omega) = kk from by rw [HK.out]; simp [List.getD, kTab_length, hlt], show W[t]'(by omega) = xx from by rw [HX.out]; simp [List.getD, hWl, hlt]]
                rfl
            · have ht : t = 64 := by omega
              subst ht
              obtain ⟨fin, hfin⟩ : ∃ fin, Hid (fin = rounds s (kTab.take 64) (W.take 64)) := ⟨_, Lib.hid rfl⟩
              have hrV := hf.row
              rw [← hfin.out] at hrV
              have hbV := hf.below
              have hRr := (hbV.block R (by omega)).trans hSr
              have hVw := (Array.getElem?_eq_some_iff.1 hrV).1
              clear hf
              go_wp2_with fail
              rename World => w6
              go_loopw [129] (fun i wr => ∃ k : Nat, k ≤ 8 ∧ i = .int .i64 k ∧ Added w1 R w1.heap.size s fin k wr) (fun i _ => 8 - (intOf i).toNat)
              case atStart => exact ⟨0, by omega, rfl, d_grown_below hbV, by simpa using hRr, hrV⟩
              case round =>
                obtain ⟨k, hk, rfl, hf⟩ := hrel
                by_cases hlt : k < 8
                · have hr := hf.row
                  have hv := hf.other
                  go_wp2_with fail
                  have hr2 : wr.drew.heap[R]? = _ := hr
                  have hv2 : wr.drew.heap[w1.heap.size]? = _ := hv
                  have cR := wrow_cell hr2 (j := k) (by simp [St.toL]; omega)
                  have cV := wrow_cell hv2 (j := k) (by simp [St.toL]; omega)
                  have hfree : wr.drew.frozen? ⟨R, k, none⟩ = false := frozen_at hr2
                  have e1 : ((s.add fin).toL.take k ++ s.toL.drop k).getD k 0 = s.toL.getD k 0 := added_get _ _ _ hlt
                  rw [e1] at cR
                  obtain ⟨x, hx⟩ : ∃ x, Hid (x = s.toL.getD k 0) := ⟨_, Lib.hid rfl⟩
                  obtain ⟨y, hy⟩ : ∃ x, Hid (x = fin.toL.getD k 0) := ⟨_, Lib.hid rfl⟩
                  rw [← hx.out] at cR
                  rw [← hy.out] at cV
                  have k0 : (0 : Int) ≤ (k : Int) := by omega
                  have k8 : (k : Int) < 8 := by omega
                  clear hr hv e1
                  have hgr := hf.grown
                  clear hf
                  go_still_tail 11, (by kernel_rfl)
                  change wpList _ _ _ _ _ wr.drew
                  have hgr2 : w1.grownBy wr.drew (some R) := ⟨hgr.os, hgr.tape, hgr.output, hgr.size, hgr.block⟩
                  clear hgr
                  generalize wr.drew = w7 at *
                  go_wp2_with fail
                  refine ⟨?_, by simp [intOf]; omega⟩
                  refine ⟨_, _, _, _, _, _, _, _, _, _, _, _, _, _, _, _, ?_, rfl⟩
                  refine ⟨k + 1, by omega, by go_num, d_grown_trans hgr2 (d_grown_setCell _ _ _ _), ?_, ?_⟩
                  · rw [d_setCell_heap hr2, show ((x : Int) + (y : Int)) % 4294967296 = (((x + y) % 4294967296 : Nat) : Int) from by omega, wrow_set, hx.out, hy.out, added_set s fin k hlt]
                  · exact (Below.heap_setCell _ _ _ _ (show w1.heap.size ≠ R by omega)).trans hv2
                · have hk8 : k = 8 := by omega
                  subst hk8
                  go_wp2_with fail
                  go_end0
                  refine ⟨rfl, d_grown_trans (d_grown_below hbel) hf.grown, ?_⟩
                  rw [hf.row]
                  have e1 : (s.add fin).toL.take 8 ++ s.toL.drop 8 = (compress s blk).toL := by
                    have e2 : kTab.take 64 = kTab := List.take_of_length_le (by rw [kTab_length]; omega)
                    have e3 : W.take 64 = W := List.take_of_length_le (by omega)
                    rw [e2, e3, hW.out, hws'.out] at hfin
                    unfold compress
                    rw [← hfin.out]
                    rfl
                  rw [e1]

end Go.Proofs.YtjhecmmbpmpmgaaDoor
