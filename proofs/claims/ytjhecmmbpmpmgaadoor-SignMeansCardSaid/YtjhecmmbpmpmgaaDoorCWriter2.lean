/- codec's writer: lists. -/
import Derived.Test.YtjhecmmbpmpmgaaDoorCWriter
import Derived.Test.YtjhecmmbpmpmgaaDoorPEnc
namespace Go.Proofs.YtjhecmmbpmpmgaaDoor
open Go.RowKit Go.Lib

/-- the writer's table, at block G, and the variable that holds it, at C -/
structure Wtr (w : World) (C G : Nat) : Prop where
  c : w.cell? ⟨C, 0, none⟩ = some (.pointer (some ⟨G, 0, none⟩))
  g1 : w.cell? ⟨G, 1, none⟩ = some (.func (.func 79) #[] #[])
  g2 : w.cell? ⟨G, 2, none⟩ = some (.func (.func 82) #[] #[])
  g3 : w.cell? ⟨G, 3, none⟩ = some (.func (.func 83) #[] #[.pointer (some ⟨C, 0, none⟩)])

theorem Wtr.frame {w w' : World} {C G : Nat} (h : Wtr w C G) (hC : w'.heap[C]? = w.heap[C]?) (hG : w'.heap[G]? = w.heap[G]?) : Wtr w' C G := by
  have e1 : ∀ o, w'.cell? ⟨C, o, none⟩ = w.cell? ⟨C, o, none⟩ := fun o => World.cell?_of_block (w := w) (a := ⟨C, o, none⟩) hC
  have e2 : ∀ o, w'.cell? ⟨G, o, none⟩ = w.cell? ⟨G, o, none⟩ := fun o => World.cell?_of_block (w := w) (a := ⟨G, o, none⟩) hG
  exact ⟨by rw [e1]; exact h.c, by rw [e2]; exact h.g1, by rw [e2]; exact h.g2, by rw [e2]; exact h.g3⟩

/-- what a writing leaves alone -/
def Apart (w : World) (S : Nat → Prop) (v : Value) : Prop := ∀ b, S b → b < w.heap.size ∧ some b ≠ v.ownBlock

theorem Apart.keep {w w' : World} {S : Nat → Prop} {v v' : Value} (h : Apart w S v) (hw : Wr w v w' v') : Apart w' S v' :=
  fun b hb => ⟨Nat.lt_of_lt_of_le (h b hb).1 hw.grown.size, hw.ne (h b hb).1 (h b hb).2⟩
theorem Apart.block {w w' : World} {S : Nat → Prop} {v v' : Value} (h : Apart w S v) (hw : Wr w v w' v') : ∀ b, S b → w'.heap[b]? = w.heap[b]? :=
  fun b hb => hw.grown.block b (h b hb).1 (h b hb).2

theorem Wtr.drew {w : World} {C G : Nat} (h : Wtr w C G) : Wtr w.drew C G := h.frame rfl rfl
theorem Apart.drew {w : World} {S : Nat → Prop} {v : Value} (h : Apart w S v) : Apart w.drew S v := h.keep (Wr.below (Below.refl _ _).drew)
theorem Rd.drew {w : World} {S : Nat → Prop} {x : V} {v : Value} (h : Rd w S x v) : Rd w.drew S x v := h.frame (fun _ _ => rfl) (fun _ h => h)

def WriteUpTo (N : Nat) : Prop := ∀ (s : ByteArray) (l : List V) (A : Option Addr) (cap : Nat) (S : Nat → Prop) (C G : Nat) (xs : List UInt8) (v : Value) (w : World),
    (V.mk 3 0 s l).sz ≤ N → fmFrom 0 l ≠ none → Rd w S (.mk 3 0 s l) (.agg #[.int .i64 3, .int .i64 0, .string s, .slice A l.length cap]) → Apart w S v → S C → S G → Wtr w C G →
    w.ownsRow 0 5 1 v xs.length (bc xs) → xs.length + (num l.length).length + (encL l).length < 800000000000 →
    Calls Tryd.prog 83 #[v, .agg #[.int .i64 3, .int .i64 0, .string s, .slice A l.length cap], .pointer (some ⟨C, 0, none⟩)] w (RowPost (xs ++ 3 :: (num l.length ++ encL l)) v w)

set_option maxRecDepth 100000 in
set_option maxHeartbeats 1600000 in
theorem write_list (N : Nat) (ih : WriteUpTo N) (hN : N < 1000000) : WriteUpTo (N + 1) := by
  intro s l A cap S C G xs v w hsz hf hR hAp hC hG hWt hown hx
  obtain ⟨i0, hi, hz0, hz1, hz2⟩ := info_parts Tryd.infoU8
  have hnl := num_len l.length
  have hlen : l.length < 1000001 := by have := V.sz_len (k := 3) (n := 0) (s := s) (l := l); omega
  have hblk : some w.heap.size ≠ v.ownBlock := fun e => by have := (hown.lt _ e.symm).2; omega
  have hIH := Lib.hid ih; clear ih
  go_enter Tryd.func83, Tryd.ntmps83
  go_wp2_with fail
  have hc1 : (w.alloc (Obj.cells #[Value.int IntKind.i64 3, Value.int IntKind.i64 0, Value.string s, Value.slice A l.length cap] 41)).cell? ⟨w.heap.size, 3, none⟩ = some (.slice A l.length cap) := by
    rw [World.cell?_alloc_at _ _ _ _ rfl]; rfl
  have ho1 := hown.alloc (Obj.cells #[Value.int IntKind.i64 3, Value.int IntKind.i64 0, Value.string s, Value.slice A l.length cap] 41)
  have hw1 := Wr.below (v := v) (below1 (w := w) (Obj.cells #[Value.int IntKind.i64 3, Value.int IntKind.i64 0, Value.string s, Value.slice A l.length cap] 41))
  have hsz1 : (w.alloc (Obj.cells #[Value.int IntKind.i64 3, Value.int IntKind.i64 0, Value.string s, Value.slice A l.length cap] 41)).heap.size = w.heap.size + 1 := by simp
  generalize hB : w.heap.size = B at *
  generalize (w.alloc (Obj.cells #[Value.int IntKind.i64 3, Value.int IntKind.i64 0, Value.string s, Value.slice A l.length cap] 41)) = w1 at *
  go_region_held3 (fun w' => w'.cell? ⟨B, 3, none⟩ = some (.slice A l.length cap)) (first | go_keep | (exact (hwr.cell (by go_keep) hblk)) | (exact hwr3.cell (hwr.cell (by go_keep) hblk) hb3))
    (first
     | (refine step_app _ (by rfl) _ _ 22 (by rfl) 5 i0 (.int .u8 0) 1 1 Tryd.underlying22 hi hz0 hz1 hz2 rfl (by decide) _ _ _ (by rfl) ((ho1.alloc _).drew) ⟨B + 1, 0, none⟩ 1 1 [.int .u8 3] (by rfl) (by rfl) (by intro j u hj; rw [← hsz1]; exact cell_one_new w1.drew _ _ j u hj) oneInt (by unfold maxLen; omega) (by omega) ?_; intro v2 w2 hown2 hwr _; have hb3 := hwr.ne (k := B) (by simp; omega) hblk)
     | (go_at_call 80; rw [wrap_u64_len l.length (by omega)]; refine (numeral_int (xs ++ [3]) _ _ _ (own_snoc hown2 rfl) (by omega) (by omega) (by simp; omega)).mono ?_; rintro e w3 ⟨v3, rfl, hown3, hwr3⟩; rw [Int.toNat_natCast] at hown3))
  have hB3 : w3.cell? ⟨B, 3, none⟩ = some (.slice A l.length cap) := by assumption
  have hWr3 : Wr w v w3 v3 := hw1.trans ((Wr.below (((Below.refl _ _).alloc (Nat.le_refl _) _).drew)).trans (hwr.trans hwr3))
  go_wp2_with fail
  clear hwr hwr3 hown2 hb3 ho1 hw1 hc1 hsz1
  go_loopw [0, 19] (fun b i wr => ∃ (k : Nat) (ys : List UInt8), k ≤ l.length ∧ i = .int .i64 k ∧ wr.ownsRow 0 5 1 b ys.length (bc ys) ∧ ys = xs ++ 3 :: (num l.length ++ encL (l.take k)) ∧ Wr w v wr b) (fun _ i _ => l.length - (intOf i).toNat)
  case atStart => exact ⟨0, _, by omega, rfl, hown3, by simp [encL], hWr3⟩
  case round =>
    obtain ⟨k, ys, hk, rfl, ho, hys, hw⟩ := hrel
    by_cases hlt : k < l.length
    · obtain ⟨b, off, k', n', s', l', A', cap', hxk, rfl, hbS, h4, hR'⟩ := hR.at k hlt
      have hbk : wr.heap[b]? = w.heap[b]? := hAp.block hw b hbS
      have HR' := hR'.frame (w' := wr) (S' := S) (hAp.block hw) (fun _ h => h)
      have hWt' := hWt.frame (hAp.block hw C hC) (hAp.block hw G hG)
      have hAp' := hAp.keep hw
      obtain ⟨c0, c1, c2, c3⟩ := h4
      rw [← World.cell?_of_block (w := w) (a := ⟨b, off + k * 4, none⟩) hbk] at c0
      rw [← World.cell?_of_block (w := w) (a := ⟨b, off + k * 4 + 1, none⟩) hbk] at c1
      rw [← World.cell?_of_block (w := w) (a := ⟨b, off + k * 4 + 2, none⟩) hbk] at c2
      rw [← World.cell?_of_block (w := w) (a := ⟨b, off + k * 4 + 3, none⟩) hbk] at c3
      have hml := enc_mem_le l k hlt
      have hfk := fmFrom_mem l 0 k hlt hf
      have hys' : ys ++ l[k].enc = xs ++ 3 :: (num l.length ++ encL (l.take (k + 1))) := by rw [hys, encL_take_succ l k hlt]; simp
      have hyl : ys.length + l[k].enc.length < 900000000000 := by
        have := congrArg List.length hys'; simp at this ⊢
        have := encL_take_le l (k + 1); omega
      have hxs : l[k].sz ≤ N := by have := V.sz_mem (k := 3) (n := 0) (s := s) (List.getElem_mem hlt); omega
      have hys3 : ys.length + l[k].enc.length ≤ xs.length + 1 + (num l.length).length + (encL l).length := by
        have := congrArg List.length hys'; simp at this ⊢
        have := encL_take_le l (k + 1); omega
      rw [hxk] at hml hfk hys' hyl hxs hys3
      have Hys := Lib.hid hys; have Hys' := Lib.hid hys'; have Hxk := Lib.hid hxk; have Hfk := Lib.hid hfk
      clear hys hys' hxk hfk hR hWt hR'
      obtain ⟨_, _, _, _, hn', hs', _⟩ := HR'.head
      have Hn' := Lib.hid hn'; clear hn'
      rcases fm_kind Hfk.out with hkind | hkind | hkind
      · obtain ⟨rfl, -, -⟩ := hkind
        go_wp2_with fail
        have hX : (wr.alloc (Obj.cells #[Value.int IntKind.i64 1, Value.int IntKind.i64 n', Value.string s', Value.slice A' l'.length cap'] 41)).heap[wr.heap.size]? = some (.cells #[Value.int IntKind.i64 1, Value.int IntKind.i64 n', Value.string s', Value.slice A' l'.length cap'] 41) := heap_alloc_new _ _
        have hbl := Wr.below (v := u0) (below1 (w := wr) (Obj.cells #[Value.int IntKind.i64 1, Value.int IntKind.i64 n', Value.string s', Value.slice A' l'.length cap'] 41))
        have hob := ho.alloc (Obj.cells #[Value.int IntKind.i64 1, Value.int IntKind.i64 n', Value.string s', Value.slice A' l'.length cap'] 41)
        have hWt2 := hWt'.frame (hAp'.block hbl C hC) (hAp'.block hbl G hG)
        have HR2 := HR'.frame (w' := _) (S' := S) (hAp'.block hbl) (fun _ h => h)
        have hAp2 := hAp'.keep hbl
        have hWt2d := hWt2.drew
        have hAp2d := hAp2.drew
        have HR2d := HR2.drew
        obtain ⟨q0, q1, q2, q3⟩ := hWt2
        have hCn := (hAp' C hC).2
        have hGn := (hAp' G hG).2
        have hXn : some wr.heap.size ≠ u0.ownBlock := fun e => by have := (ho.lt _ e.symm).2; omega
        generalize (wr.alloc (Obj.cells #[Value.int IntKind.i64 1, Value.int IntKind.i64 n', Value.string s', Value.slice A' l'.length cap'] 41)) = wb at *
        generalize wr.heap.size = X at *
        have x0 : wb.cell? ⟨X, 0, none⟩ = some (Value.int IntKind.i64 1) := by rw [cell_of_row wb X 0 _ _ _ hX]; rfl
        have x1 : wb.cell? ⟨X, 1, none⟩ = some (Value.int IntKind.i64 n') := by rw [cell_of_row wb X 1 _ _ _ hX]; rfl
        have x2 : wb.cell? ⟨X, 2, none⟩ = some (Value.string s') := by rw [cell_of_row wb X 2 _ _ _ hX]; rfl
        have x3 : wb.cell? ⟨X, 3, none⟩ = some (Value.slice A' l'.length cap') := by rw [cell_of_row wb X 3 _ _ _ hX]; rfl
        go_region_held3 (fun w' => w'.cell? ⟨C, 0, none⟩ = some (.pointer (some ⟨G, 0, none⟩)) ∧ w'.cell? ⟨G, 1, none⟩ = some (.func (.func 79) #[] #[]) ∧ w'.cell? ⟨X, 0, none⟩ = some (Value.int IntKind.i64 1) ∧ w'.cell? ⟨X, 1, none⟩ = some (Value.int IntKind.i64 n') ∧
            w'.cell? ⟨X, 2, none⟩ = some (Value.string s') ∧ w'.cell? ⟨X, 3, none⟩ = some (Value.slice A' l'.length cap'))
          (first | go_keep | (exact ⟨hwr4.cell (by go_keep) hCn, hwr4.cell (by go_keep) hGn, hwr4.cell (by go_keep) hXn, hwr4.cell (by go_keep) hXn, hwr4.cell (by go_keep) hXn, hwr4.cell (by go_keep) hXn⟩))
          (first | (go_at_call 79; refine (write_int ys u0 _ n' s' A' _ cap' _ (hob.drew) Hn'.out (by omega)).mono ?_; rintro e w4 ⟨v4, rfl, hown4, hwr4⟩))
        go_wp2
        go_roundw
        case rel => exact ⟨k + 1, _, by omega, by go_num, hown4, by rw [← Hys'.out]; congr 1, hw.trans (hbl.trans ((Wr.below (Below.refl _ _).drew).trans hwr4))⟩
        case measure => simp [intOf]; omega
      · obtain ⟨rfl, -, -⟩ := hkind
        have hbd : ys.length + s'.size < 900000000000 := by simp [V.enc] at hyl; omega
        go_wp2_with fail
        have hX : (wr.alloc (Obj.cells #[Value.int IntKind.i64 2, Value.int IntKind.i64 n', Value.string s', Value.slice A' l'.length cap'] 41)).heap[wr.heap.size]? = some (.cells #[Value.int IntKind.i64 2, Value.int IntKind.i64 n', Value.string s', Value.slice A' l'.length cap'] 41) := heap_alloc_new _ _
        have hbl := Wr.below (v := u0) (below1 (w := wr) (Obj.cells #[Value.int IntKind.i64 2, Value.int IntKind.i64 n', Value.string s', Value.slice A' l'.length cap'] 41))
        have hob := ho.alloc (Obj.cells #[Value.int IntKind.i64 2, Value.int IntKind.i64 n', Value.string s', Value.slice A' l'.length cap'] 41)
        have hWt2 := hWt'.frame (hAp'.block hbl C hC) (hAp'.block hbl G hG)
        have HR2 := HR'.frame (w' := _) (S' := S) (hAp'.block hbl) (fun _ h => h)
        have hAp2 := hAp'.keep hbl
        have hWt2d := hWt2.drew
        have hAp2d := hAp2.drew
        have HR2d := HR2.drew
        obtain ⟨q0, q1, q2, q3⟩ := hWt2
        have hCn := (hAp' C hC).2
        have hGn := (hAp' G hG).2
        have hXn : some wr.heap.size ≠ u0.ownBlock := fun e => by have := (ho.lt _ e.symm).2; omega
        generalize (wr.alloc (Obj.cells #[Value.int IntKind.i64 2, Value.int IntKind.i64 n', Value.string s', Value.slice A' l'.length cap'] 41)) = wb at *
        generalize wr.heap.size = X at *
        have x0 : wb.cell? ⟨X, 0, none⟩ = some (Value.int IntKind.i64 2) := by rw [cell_of_row wb X 0 _ _ _ hX]; rfl
        have x1 : wb.cell? ⟨X, 1, none⟩ = some (Value.int IntKind.i64 n') := by rw [cell_of_row wb X 1 _ _ _ hX]; rfl
        have x2 : wb.cell? ⟨X, 2, none⟩ = some (Value.string s') := by rw [cell_of_row wb X 2 _ _ _ hX]; rfl
        have x3 : wb.cell? ⟨X, 3, none⟩ = some (Value.slice A' l'.length cap') := by rw [cell_of_row wb X 3 _ _ _ hX]; rfl
        go_region_held3 (fun w' => w'.cell? ⟨C, 0, none⟩ = some (.pointer (some ⟨G, 0, none⟩)) ∧ w'.cell? ⟨G, 2, none⟩ = some (.func (.func 82) #[] #[]) ∧ w'.cell? ⟨X, 0, none⟩ = some (Value.int IntKind.i64 2) ∧ w'.cell? ⟨X, 1, none⟩ = some (Value.int IntKind.i64 n') ∧
            w'.cell? ⟨X, 2, none⟩ = some (Value.string s') ∧ w'.cell? ⟨X, 3, none⟩ = some (Value.slice A' l'.length cap'))
          (first | go_keep | (exact ⟨hwr4.cell (by go_keep) hCn, hwr4.cell (by go_keep) hGn, hwr4.cell (by go_keep) hXn, hwr4.cell (by go_keep) hXn, hwr4.cell (by go_keep) hXn, hwr4.cell (by go_keep) hXn⟩))
          (first | (go_at_call 82; refine (write_text ys u0 _ n' s' A' _ cap' _ (hob.drew) hbd).mono ?_; rintro e w4 ⟨v4, rfl, hown4, hwr4⟩))
        go_wp2
        go_roundw
        case rel => exact ⟨k + 1, _, by omega, by go_num, hown4, by rw [← Hys'.out]; congr 1, hw.trans (hbl.trans ((Wr.below (Below.refl _ _).drew).trans hwr4))⟩
        case measure => simp [intOf]; omega
      · obtain ⟨rfl, rfl, hs0, hfl⟩ := hkind
        have Hfl := Lib.hid hfl; clear hfl
        have hbd : ys.length + (num l'.length).length + (encL l').length < 800000000000 := by simp [V.enc] at hys3; omega
        go_wp2_with fail
        have hX : (wr.alloc (Obj.cells #[Value.int IntKind.i64 3, Value.int IntKind.i64 0, Value.string s', Value.slice A' l'.length cap'] 41)).heap[wr.heap.size]? = some (.cells #[Value.int IntKind.i64 3, Value.int IntKind.i64 0, Value.string s', Value.slice A' l'.length cap'] 41) := heap_alloc_new _ _
        have hbl := Wr.below (v := u0) (below1 (w := wr) (Obj.cells #[Value.int IntKind.i64 3, Value.int IntKind.i64 0, Value.string s', Value.slice A' l'.length cap'] 41))
        have hob := ho.alloc (Obj.cells #[Value.int IntKind.i64 3, Value.int IntKind.i64 0, Value.string s', Value.slice A' l'.length cap'] 41)
        have hWt2 := hWt'.frame (hAp'.block hbl C hC) (hAp'.block hbl G hG)
        have HR2 := HR'.frame (w' := _) (S' := S) (hAp'.block hbl) (fun _ h => h)
        have hAp2 := hAp'.keep hbl
        have hWt2d := hWt2.drew
        have hAp2d := hAp2.drew
        have HR2d := HR2.drew
        obtain ⟨q0, q1, q2, q3⟩ := hWt2
        have hCn := (hAp' C hC).2
        have hGn := (hAp' G hG).2
        have hXn : some wr.heap.size ≠ u0.ownBlock := fun e => by have := (ho.lt _ e.symm).2; omega
        generalize (wr.alloc (Obj.cells #[Value.int IntKind.i64 3, Value.int IntKind.i64 0, Value.string s', Value.slice A' l'.length cap'] 41)) = wb at *
        generalize wr.heap.size = X at *
        have x0 : wb.cell? ⟨X, 0, none⟩ = some (Value.int IntKind.i64 3) := by rw [cell_of_row wb X 0 _ _ _ hX]; rfl
        have x1 : wb.cell? ⟨X, 1, none⟩ = some (Value.int IntKind.i64 0) := by rw [cell_of_row wb X 1 _ _ _ hX]; rfl
        have x2 : wb.cell? ⟨X, 2, none⟩ = some (Value.string s') := by rw [cell_of_row wb X 2 _ _ _ hX]; rfl
        have x3 : wb.cell? ⟨X, 3, none⟩ = some (Value.slice A' l'.length cap') := by rw [cell_of_row wb X 3 _ _ _ hX]; rfl
        go_region_held3 (fun w' => w'.cell? ⟨C, 0, none⟩ = some (.pointer (some ⟨G, 0, none⟩)) ∧ w'.cell? ⟨G, 3, none⟩ = some (.func (.func 83) #[] #[.pointer (some ⟨C, 0, none⟩)]) ∧ w'.cell? ⟨X, 0, none⟩ = some (Value.int IntKind.i64 3) ∧ w'.cell? ⟨X, 1, none⟩ = some (Value.int IntKind.i64 0) ∧
            w'.cell? ⟨X, 2, none⟩ = some (Value.string s') ∧ w'.cell? ⟨X, 3, none⟩ = some (Value.slice A' l'.length cap'))
          (first | go_keep | (exact ⟨hwr4.cell (by go_keep) hCn, hwr4.cell (by go_keep) hGn, hwr4.cell (by go_keep) hXn, hwr4.cell (by go_keep) hXn, hwr4.cell (by go_keep) hXn, hwr4.cell (by go_keep) hXn⟩))
          (first | (go_at_call 83; refine (hIH.out s' l' A' cap' S C G ys u0 _ hxs Hfl.out HR2d hAp2d hC hG hWt2d (hob.drew) hbd).mono ?_; rintro e w4 ⟨v4, rfl, hown4, hwr4⟩))
        go_wp2
        go_roundw
        case rel => exact ⟨k + 1, _, by omega, by go_num, hown4, by rw [← Hys'.out]; congr 1, hw.trans (hbl.trans ((Wr.below (Below.refl _ _).drew).trans hwr4))⟩
        case measure => simp [intOf]; omega
    · have hkl : k = l.length := by omega
      subst hkl
      rw [List.take_length] at hys
      subst hys
      go_wp2_with fail
      go_ret
      exact ⟨_, rfl, ho, hw⟩

theorem write_upTo (N : Nat) (hN : N ≤ 1000000) : WriteUpTo N := by
  induction N with
  | zero => intro s l A cap S C G xs v w hsz; rw [V.sz_mk] at hsz; omega
  | succ N ih => exact write_list N (ih (by omega)) (by omega)

end Go.Proofs.YtjhecmmbpmpmgaaDoor
