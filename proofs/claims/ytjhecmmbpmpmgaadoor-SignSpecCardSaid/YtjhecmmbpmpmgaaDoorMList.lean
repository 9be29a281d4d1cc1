/- The codec's contracts in the laws' words, for a seat that has Encode alone.
   sign's list by its contract. -/
import Derived.Test.YtjhecmmbpmpmgaaDoorCEncode
import Derived.Test.YtjhecmmbpmpmgaaDoorMSha
import Derived.Test.YtjhecmmbpmpmgaaDoorMGrp
import Derived.Deep.AppendLies
import Derived.Deep.Slices
namespace Go.Proofs.YtjhecmmbpmpmgaaDoor
open Go.RowKit Go.Lib

theorem encode_anyd {x : V} {v : Value} {S : Nat → Prop} {w : World} (hx : x.sz ≤ 1000000) (hR : Rd w S x v) (hS : ∀ b, S b → b < w.heap.size) (hlen : x.enc.length < 700000000000) :
    Calls Tryd.prog 21 #[v] w (EncPost x w) := by
  by_cases h : ckOf x.fm = 0
  · exact encode_yes x v S w hx hR hS h hlen
  · exact encode_no x v S w hx hR hS h

/-- from one world to a later one -/
theorem later {w w1 w2 : World} (h : Below w.heap.size w w1) (g : Below w1.heap.size w1 w2) : Below w.heap.size w w2 := h.trans (g.mono h.size)

def EncB (x : V) (w : World) (e : Ending) (w' : World) : Prop := ∃ A cap, e = .returned (.tuple #[.slice A (encOf x).length cap, .int .i64 (ckOf x.fm)]) ∧ Below w.heap.size w w' ∧ Bb w' (encOf x) (.slice A (encOf x).length cap)

theorem EncPost.toB {x : V} {w : World} {e : Ending} {w' : World} (h : EncPost x w e w') : EncB x w e w' := by
  obtain ⟨hb, v', rfl, hown, hn⟩ := h
  have hB := own_bytes hown hn
  obtain ⟨A, cap, rfl, _⟩ := hB.form
  exact ⟨A, cap, rfl, hb, Bs.frame hB (fun _ _ => rfl) (fun b hb => hb.2)⟩

theorem encode_b {x : V} {v : Value} {w : World} (hx : x.sz ≤ 1000000) (hl : x.enc.length < 700000000000) (hR : Rb w x v) : Calls Tryd.prog 21 #[v] w (EncB x w) := (encode_anyd hx hR (fun _ h => h) hl).mono fun _ _ h => h.toB

def EncL (L : List UInt8) (c : Int) (w : World) (e : Ending) (w' : World) : Prop := ∃ A cap, e = .returned (.tuple #[.slice A L.length cap, .int .i64 c]) ∧ Below w.heap.size w w' ∧ Bb w' L (.slice A L.length cap)

theorem encode_eq {x : V} {v : Value} {w : World} {L : List UInt8} {c : Int} (hE : encOf x = L) (hc : ckOf x.fm = c) (hx : x.sz ≤ 1000000) (hl : x.enc.length < 700000000000) (hR : Rb w x v) : Calls Tryd.prog 21 #[v] w (EncL L c w) := by
  subst hE hc; exact encode_b hx hl hR

end Go.Proofs.YtjhecmmbpmpmgaaDoor

namespace Go.Proofs.YtjhecmmbpmpmgaaDoor
open Go.RowKit Go.Lib

/-- what stands in a list that is signed: an integer or bytes -/
inductive It where
  | n (z : Int)
  | b (l : List UInt8)

def It.toV : It → V
  | .n z => .mk 1 z ByteArray.empty []
  | .b l => .mk 2 0 (strOf l) []

/-- the cells of an element of the list -/
def It.cells : It → List Value
  | .n z => [.int .i64 1, .int .i64 z, .string ByteArray.empty, .slice none 0 0]
  | .b l => [.int .i64 2, .int .i64 0, .string (strOf l), .slice none 0 0]

def cellsL (l : List It) : List Value := l.flatMap It.cells

def It.Ok : It → Prop
  | .n z => -9223372036854775808 ≤ z ∧ z ≤ 9223372036854775807
  | .b l => l.length ≤ 1000000

/-- how an element lies in memory -/
def It.At (w : World) : It → Value → Prop
  | .n z, v => v = .iface 3 (.int .i64 z)
  | .b l, v => ∃ u, v = .iface 22 u ∧ Bb w l u

theorem It.At.below {w w' : World} {i : It} {v : Value} (h : It.At w i v) (hb : Below w.heap.size w w') : It.At w' i v := by
  cases i with
  | n z => exact h
  | b l => obtain ⟨u, h1, h2⟩ := h; exact ⟨u, h1, h2.below hb⟩

def It.val : It → Value
  | .n z => .agg #[.int .i64 1, .int .i64 z, .string ByteArray.empty, .slice none 0 0]
  | .b l => .agg #[.int .i64 2, .int .i64 0, .string (strOf l), .slice none 0 0]

theorem It.cells_one (i : It) : ∀ u ∈ i.cells, u.oneCell' = true := by
  intro u hu
  cases i <;> (simp only [It.cells, List.mem_cons, List.not_mem_nil, or_false] at hu; rcases hu with h | h | h | h <;> subst h <;> rfl)

theorem It.cells_length (i : It) : i.cells.length = 4 := by cases i <;> rfl

theorem cellsL_length (l : List It) : (cellsL l).length = l.length * 4 := by
  induction l with
  | nil => rfl
  | cons i l ih => rw [cellsL, List.flatMap_cons, List.length_append, It.cells_length, List.length_cons, ← cellsL, ih]; omega

theorem cellsL_at : ∀ (l : List It) (i j : Nat) (hi : i < l.length) (_hj : j < 4), (cellsL l)[i * 4 + j]? = (l[i]).cells[j]?
  | x :: l, 0, j, _, hj => by
    rw [cellsL, List.flatMap_cons, Nat.zero_mul, Nat.zero_add, List.getElem?_append_left (by rw [It.cells_length]; exact hj)]; rfl
  | x :: l, i + 1, j, hi, hj => by
    rw [cellsL, List.flatMap_cons, List.getElem?_append_right (by rw [It.cells_length]; omega), It.cells_length, show (i + 1) * 4 + j - 4 = i * 4 + j from by omega, ← cellsL, cellsL_at l i j (by simpa using hi) hj]
    rfl

/-- the list under way -/
structure Listing (w : World) (l : List It) (row : Value) (wr : World) : Prop where
  below : Below w.heap.size w wr
  v : wr.heap[w.heap.size]? = some (.cells #[.int .i64 3, .int .i64 0, .string ByteArray.empty, row] 41 (0, 0))
  own : wr.ownsRow 0 41 4 row l.length (cellsL l)
  new : ∀ k, row.ownBlock = some k → w.heap.size < k

theorem rd_four {w : World} {b o : Nat} {c0 c1 c2 c3 : Value} (h0 : w.cell? ⟨b, o, none⟩ = some c0) (h1 : w.cell? ⟨b, o + 1, none⟩ = some c1) (h2 : w.cell? ⟨b, o + 2, none⟩ = some c2) (h3 : w.cell? ⟨b, o + 3, none⟩ = some c3) :
    FourV w b o (.agg #[c0, c1, c2, c3]) := ⟨h0, h1, h2, h3⟩

theorem d_leaf (w : World) (S : Nat → Prop) (k n : Int) (s : ByteArray) (hk : Ok k) (hn : Ok n) (hs : s.size ≤ 9223372036854775807) :
    Rd w S (.mk k n s []) (.agg #[.int .i64 k, .int .i64 n, .string s, .slice none 0 0]) :=
  .mk (l := []) (A := none) (cap := 0) (fun _ => undef) hk hn hs (by simp) (by omega) (fun h => absurd h (by simp)) (fun i b off h => absurd h (by simp)) (fun i h => absurd h (by simp))

theorem Listing.rd {w : World} {l : List It} {A : Option Addr} {rl rc : Nat} {wr : World} (h : Listing w l (.slice A rl rc) wr) (hok : ∀ i ∈ l, i.Ok) :
    Rd wr (fun b => b < wr.heap.size) (.mk 3 0 ByteArray.empty (l.map It.toV)) (.agg #[.int .i64 3, .int .i64 0, .string ByteArray.empty, .slice A rl rc]) := by
  rcases h.own.2 with ⟨h1, h0⟩ | ⟨g, cap, cur, h1, _, hg, hnc, hcm, hcs, htk⟩
  · injection h1 with e1 e2 e3
    subst e1 e2 e3
    have : l = [] := List.eq_nil_of_length_eq_zero h0
    subst this
    exact .mk (l := []) (A := none) (cap := 0) (fun _ => undef) ⟨by omega, by omega⟩ ⟨by omega, by omega⟩ (by decide) (by simp) (by omega) (fun h => absurd h (by simp)) (fun i b off h => absurd h (by simp)) (fun i h => absurd h (by simp))
  · injection h1 with e1 e2 e3
    subst e1 e2 e3
    have hcells := h.own.cells (g := g) rfl
    have hgw := (Array.getElem?_eq_some_iff.1 hg).1
    rw [show l.length = (l.map It.toV).length from by simp]
    refine .mk (fun i => match l[i]? with | some x => x.val | none => undef) ⟨by omega, by omega⟩ ⟨by omega, by omega⟩ (by decide) (by simpa using hnc) (by unfold maxLen at hcm; omega) (fun _ => ⟨g, 0, rfl, hgw⟩) (fun i b off hi e => ?_) (fun i hi => ?_)
    · injection e with e; injection e with e1 e2
      subst e1 e2
      have hi' : i < l.length := by simpa using hi
      have hc : ∀ j (hj : j < 4), wr.cell? ⟨g, i * 4 + j, none⟩ = (l[i]).cells[j]? := fun j hj => by
        have h4 : ∃ u, (l[i]).cells[j]? = some u := ⟨_, List.getElem?_eq_getElem (by rw [It.cells_length]; exact hj)⟩
        obtain ⟨u, hu⟩ := h4
        have := hcells (i * 4 + j) u (by rw [cellsL_at l i j hi' hj]; exact hu)
        rw [Addr.add_lit, Nat.zero_add] at this
        rw [this, hu]
      have k0 := hc 0 (by omega); have k1 := hc 1 (by omega); have k2 := hc 2 (by omega); have k3 := hc 3 (by omega)
      rw [List.getElem?_eq_getElem hi', Nat.zero_add]
      generalize l[i] = x at k0 k1 k2 k3 ⊢
      cases x <;> exact rd_four k0 k1 k2 k3
    · have hi' : i < l.length := by simpa using hi
      have hx := hok l[i] (List.getElem_mem _)
      rw [List.getElem_map, List.getElem?_eq_getElem hi']
      generalize l[i] = x at hx ⊢
      cases x with
      | n z => exact d_leaf _ _ _ _ _ ⟨by omega, by omega⟩ hx (by decide)
      | b y =>
        have h1 : (strOf y).size = y.length := by simp [strOf, ByteArray.size]
        have h2 : y.length ≤ 1000000 := hx
        exact d_leaf _ _ _ _ _ ⟨by omega, by omega⟩ ⟨by omega, by omega⟩ (by omega)

def listV (its : List It) : V := .mk 3 0 ByteArray.empty (its.map It.toV)

theorem Tryd.dInfoValue : (Tryd.prog.info? 41).map (fun i => (i.zero, i.size, i.bytes)) = some (some (.agg #[.int .i64 0, .int .i64 0, .string ByteArray.empty, .slice none 0 0]), 4, 56) := by kernel_rfl

/-- the items, in memory -/
def Items (w : World) (B : Nat) (its : List It) : Prop := ∀ i (h : i < its.length), ∃ v, w.cell? ⟨B, i, none⟩ = some v ∧ It.At w its[i] v

theorem Listing.next {w wr w5 : World} {l : List It} {row row5 : Value} {x : It} {o : Obj} (h : Listing w l row wr) (own5 : w5.ownsRow 0 41 4 row5 (l.length + 1) (cellsL l ++ x.cells)) (hw : Wr (wr.alloc o) row w5 row5) :
    Listing w (l ++ [x]) row5 (w5.setCell ⟨w.heap.size, 3, none⟩ row5) ∧ w5.cell? ⟨w.heap.size, 3, none⟩ = some row ∧ w5.frozen? ⟨w.heap.size, 3, none⟩ = false := by
  have hX : w.heap.size < wr.heap.size := (Array.getElem?_eq_some_iff.1 h.v).1
  have hnew5 : ∀ k, row5.ownBlock = some k → w.heap.size < k := fun k hk => by
    rcases hw.fresh with h1 | h1
    · exact h.new k (h1 ▸ hk)
    · have := h1 k hk; simp at this; omega
  have hv5 : w5.heap[w.heap.size]? = some (.cells #[.int .i64 3, .int .i64 0, .string ByteArray.empty, row] 41 (0, 0)) := by
    rw [hw.grown.block _ (by simp; omega) (by intro e; have := h.new _ e.symm; omega), Below.heap_alloc wr o _ hX]; exact h.v
  refine ⟨⟨?_, ?_, ?_, hnew5⟩, by rw [cell_of_row w5 _ 3 _ _ _ hv5]; rfl, by simp [World.frozen?, hv5]⟩
  · have hb5 : Below w.heap.size w w5 := (h.below.alloc (Nat.le_of_lt hX) o).trans (hw.toBelow (by simp; omega) (fun k hk => Nat.le_of_lt (h.new k hk)))
    exact hb5.setCell (p := ⟨w.heap.size, 3, none⟩) (Nat.le_refl _) _
  · rw [d_setCell_heap hv5]; rfl
  · rw [List.length_append, show cellsL (l ++ [x]) = cellsL l ++ x.cells from by simp [cellsL]]
    refine own5.kept (d_grown_setCell w5 w.heap.size 3 row5) ?_
    cases hq : row5.ownBlock with
    | none => simp
    | some k => right; intro e; injection e with e; have := hnew5 k hq; omega

theorem item_enc (x : It) (h : x.Ok) : x.toV.enc.length ≤ 1000020 := by
  cases x with
  | n z =>
    rw [It.toV, V.enc, if_pos rfl, List.length_cons]
    have := num_len (unsg z).toNat
    omega
  | b l =>
    have hl : l.length ≤ 1000000 := h
    rw [It.toV, V.enc, if_neg (by decide), if_pos rfl, List.length_cons, List.length_append]
    have h1 := num_len (strOf l).size
    have h2 : (strOf l).data.toList.length = l.length := by simp [strOf]
    omega

theorem items_enc : ∀ (its : List It), (∀ i ∈ its, i.Ok) → (encL (its.map It.toV)).length ≤ its.length * 1000020
  | [], _ => by simp [encL]
  | x :: l, h => by
    have h1 := item_enc x (h x (by simp))
    have h2 := items_enc l (fun i hi => h i (by simp [hi]))
    rw [List.map_cons, encL, List.length_append, List.length_cons]
    omega

theorem items_sz : ∀ (its : List It), ((its.map It.toV).map V.sz).sum = its.length
  | [] => rfl
  | x :: l => by
    have h1 : x.toV.sz = 1 := by cases x <;> simp [It.toV, V.sz_mk]
    rw [List.map_cons, List.map_cons, List.sum_cons, items_sz l, h1, List.length_cons]; omega

theorem listV_bounds (its : List It) (h : ∀ i ∈ its, i.Ok) (hl : its.length ≤ 10) : (listV its).sz ≤ 11 ∧ (listV its).enc.length ≤ 10000300 := by
  have h1 := items_enc its h
  have h2 := num_len (its.map It.toV).length
  rw [listV, V.sz_mk, items_sz, V.enc, if_neg (by decide), if_neg (by decide), List.length_cons, List.length_append]
  omega

theorem ta_int (z : Int) (w : World) : (Instr.typeAssert (.iface 3 (.int .i64 z)) 20 3 true).run Tryd.prog w = .ok (.tuple #[.int .i64 z, .bool true]) w := by kernel_rfl

theorem ta_no (u : Value) (w : World) : (Instr.typeAssert (.iface 22 u) 20 3 true).run Tryd.prog w = .ok (.tuple #[.int .i64 0, .bool false]) w := by kernel_rfl

theorem ta_bytes (u : Value) (w : World) : (Instr.typeAssert (.iface 22 u) 20 22 true).run Tryd.prog w = .ok (.tuple #[u, .bool true]) w := by kernel_rfl

set_option maxRecDepth 100000 in
set_option maxHeartbeats 1600000 in
theorem list_any (w : World) (B : Nat) (its : List It) (hI : Items w B its) (hok : ∀ i ∈ its, i.Ok) (hlen : its.length ≤ 10) (h0 : 0 < its.length) :
    Calls Tryd.prog 41 #[.slice (some ⟨B, 0, none⟩) its.length its.length] w fun e w' => ∃ A cap, e = .returned (.slice A (encOf (listV its)).length cap) ∧ Below w.heap.size w w' ∧ Bb w' (encOf (listV its)) (.slice A (encOf (listV its)).length cap) := by
  obtain ⟨i1, hi1, hy0, hy1, hy2⟩ := info_parts Tryd.dInfoValue
  obtain ⟨n, hn⟩ : ∃ n, Hid (n = its.length) := ⟨_, Lib.hid rfl⟩
  rw [← hn.out] at hlen h0 ⊢
  have hBw : B < w.heap.size := by
    obtain ⟨v, hv, _⟩ := hI 0 (by rw [← hn.out]; exact h0)
    exact World.block_lt_of_cell? w _ hv
  have HI := Lib.hid hI
  clear hI
  go_enter Tryd.func41, Tryd.ntmps41
  go_wp2_with fail
  go_loopw [13] (fun i wr => ∃ k : Nat, k ≤ n ∧ i = .int .i64 k ∧ ∃ row, Listing w (its.take k) row wr) (fun i _ => n - (intOf i).toNat)
  case atStart =>
    refine ⟨0, by omega, rfl, .slice none 0 0, (Below.refl _ _).alloc (Nat.le_refl _) _, ?_, World.ownsRow_nil _ _ _ _, fun k hk => by simp [Value.ownBlock] at hk⟩
    rw [heap_alloc_new]
    rfl
  case round =>
    obtain ⟨k, hk, rfl, row, hL⟩ := hrel
    have hX : w.heap.size < wr.heap.size := (Array.getElem?_eq_some_iff.1 hL.v).1
    by_cases hlt : k < n
    · have hki : k < its.length := by rw [← hn.out]; exact hlt
      obtain ⟨v, hv, hat⟩ := HI.out k hki
      have hvr := (hL.below.cell (p := ⟨B, k, none⟩) hBw).trans hv
      have crow : wr.cell? ⟨w.heap.size, 3, none⟩ = some row := by rw [cell_of_row wr _ 3 _ _ _ hL.v]; rfl
      obtain ⟨tk, htk⟩ : ∃ tk, Hid (tk = its.take k) := ⟨_, Lib.hid rfl⟩
      rw [← htk.out] at hL
      have hlk : tk.length = k := by rw [htk.out, List.length_take]; omega
      have HT : Hid (its.take (k + 1) = tk ++ [its[k]]) := Lib.hid (by rw [htk.out]; exact List.take_succ_eq_append_getElem hki)
      have hat' := hat.below hL.below
      have hlen1 : tk.length + 1 ≤ maxLen := by unfold maxLen; omega
      have hlen2 : (tk.length + 1) * 56 ≤ 140737488355328 := by omega
      clear hat hv hlk
      have HL := Lib.hid hL
      have hown2 : Hid (∀ o, (wr.alloc o).ownsRow 0 41 4 row tk.length (cellsL tk)) := Lib.hid fun o => hL.own.alloc o
      clear hL
      have hxe : ∃ x, Hid (its[k] = x) := ⟨_, Lib.hid rfl⟩
      obtain ⟨x, HX⟩ := hxe
      rw [HX.out] at hat'
      cases x with
      | n z =>
        have hvz : v = .iface 3 (.int .i64 z) := hat'
        subst hvz
        clear hat'
        have hta := ta_int z wr
        go_wp2_with (at_builtin; refine wpList_app _ rfl _ _ 39 rfl 41 i1 (.agg #[.int .i64 0, .int .i64 0, .string ByteArray.empty, .slice none 0 0]) 4 56 Tryd.underlying39 hi1 hy0 hy1 hy2 rfl (by decide) _ _ _ rfl (hown2.out _) ⟨wr.heap.size, 0, none⟩ 1 1 [.int .i64 1, .int .i64 z, .string ⟨#[]⟩, .slice none 0 0] rfl rfl (World.news_of_block (heap_alloc_new wr _)) (It.cells_one (.n z)) hlen1 hlen2 ?_; intro row5 w5 own5 hwr5 _; obtain ⟨g5, cp5, rfl⟩ := own_form own5 (Nat.succ_pos _); obtain ⟨hL5, c5, f5⟩ := HL.out.next (x := .n z) own5 hwr5; have HL5 := Lib.hid hL5; clear own5 hwr5 hL5)
        exact ⟨⟨k + 1, by omega, by go_num, _, by rw [HT.out, HX.out]; exact HL5.out⟩, by simp [intOf]; omega⟩
      | b l =>
        obtain ⟨u, rfl, hBu⟩ := hat'
        obtain ⟨A, cap, hu, _⟩ := hBu.form
        subst hu
        have hconv := hBu.conv
        have hta := ta_no (.slice A l.length cap) wr
        have htb := ta_bytes (.slice A l.length cap) wr
        clear hBu
        obtain ⟨sl, hsl⟩ : ∃ sl, Hid (sl = strOf l) := ⟨_, Lib.hid rfl⟩
        rw [← hsl.out] at hconv
        obtain ⟨ln, hln⟩ : ∃ ln, Hid (ln = l.length) := ⟨_, Lib.hid rfl⟩
        rw [← hln.out] at hconv hta htb hvr
        go_wp2_with (at_builtin; refine wpList_app _ rfl _ _ 39 rfl 41 i1 (.agg #[.int .i64 0, .int .i64 0, .string ByteArray.empty, .slice none 0 0]) 4 56 Tryd.underlying39 hi1 hy0 hy1 hy2 rfl (by decide) _ _ _ rfl (hown2.out _) ⟨wr.heap.size, 0, none⟩ 1 1 [.int .i64 2, .int .i64 0, .string sl, .slice none 0 0] rfl rfl (World.news_of_block (heap_alloc_new wr _)) (by rw [hsl.out]; exact It.cells_one (.b l)) hlen1 hlen2 ?_; intro row5 w5 own5 hwr5 _; obtain ⟨g5, cp5, rfl⟩ := own_form own5 (Nat.succ_pos _); obtain ⟨hL5, c5, f5⟩ := HL.out.next (x := .b l) (by rw [It.cells, ← hsl.out]; exact own5) hwr5; have HL5 := Lib.hid hL5; clear own5 hwr5 hL5)
        exact ⟨⟨k + 1, by omega, by go_num, _, by rw [HT.out, HX.out]; exact HL5.out⟩, by simp [intOf]; omega⟩
    · have hkn : k = n := by omega
      subst hkn
      rw [show its.take k = its from List.take_of_length_le (by rw [← hn.out]; exact Nat.le_refl _)] at hL
      obtain ⟨g5, cp5, rfl⟩ := own_form hL.own (by rw [← hn.out]; exact h0)
      have hrd := hL.rd hok
      have c0 : wr.cell? ⟨w.heap.size, 0, none⟩ = some (.int .i64 3) := by rw [cell_of_row wr _ 0 _ _ _ hL.v]; rfl
      have c1 : wr.cell? ⟨w.heap.size, 1, none⟩ = some (.int .i64 0) := by rw [cell_of_row wr _ 1 _ _ _ hL.v]; rfl
      have c2 : wr.cell? ⟨w.heap.size, 2, none⟩ = some (.string ByteArray.empty) := by rw [cell_of_row wr _ 2 _ _ _ hL.v]; rfl
      have c3 : wr.cell? ⟨w.heap.size, 3, none⟩ = some (.slice (some ⟨g5, 0, none⟩) its.length cp5) := by rw [cell_of_row wr _ 3 _ _ _ hL.v]; rfl
      have HB := Lib.hid hL.below
      have HR := Lib.hid hrd
      have hbd := Lib.hid (listV_bounds its hok (by rw [← hn.out]; exact hlen))
      clear hL hrd
      rw [← hn.out] at c3 HR
      go_wp2_with fail
      refine (encode_b (x := listV its) (by have := hbd.out; omega) (by have := hbd.out; omega) HR.out).mono ?_
      rintro e w4 ⟨A4, cap4, rfl, hb4, hB4⟩
      have H4 := Lib.hid hB4
      have HB4 := Lib.hid (later HB.out hb4)
      clear hb4 hB4 c0 c1 c2 c3
      obtain ⟨L, hL⟩ : ∃ L, Hid (L = encOf (listV its)) := ⟨_, Lib.hid rfl⟩
      rw [← hL.out] at H4 ⊢
      go_wp2_with fail
      go_ret
      refine ⟨A4, cap4, ?_, HB4.out, ?_⟩
      · rw [← hL.out]; rfl
      · rw [← hL.out]; exact H4.out

end Go.Proofs.YtjhecmmbpmpmgaaDoor
