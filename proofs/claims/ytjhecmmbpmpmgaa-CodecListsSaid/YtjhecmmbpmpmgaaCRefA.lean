/- signatoryref01's small functions by their contracts: Int, Text, List, count, Few. -/
import Derived.Test.YtjhecmmbpmpmgaaCFormed2
import Derived.Test.YtjhecmmbpmpmgaaPCount
namespace Go.Proofs.Ytjhecmmbpmpmgaa
open Go.RowKit Go.Lib

theorem Try.sizeValue' : (Try.prog.info? 24).map (·.size) = some 4 := by kernel_rfl

theorem ret_new {P : Program} {fn : Func} {p : Tmp} {ty t : TypeId} (h : fn.results = #[.cell p ty]) (tmps : Array Value) (w : World) (cs : Array Value) (d : TypeDesc)
    (hp : tmps.getD p undef = .pointer (some ⟨w.heap.size, 0, none⟩)) (hu : P.underlying ty = some d) (hd : (match d with | .struct _ | .array _ _ => true | _ => false) = true) (hi : (P.info? ty).map (·.size) = some cs.size) :
    (results fn tmps).run P (w.alloc (.cells cs t)) = .ok (.agg cs) (w.alloc (.cells cs t)) := results_cell_row h tmps _ _ t cs (0, 0) d hp (heap_alloc_new w _) hu hd hi

theorem ref_int (n : Int) (w : World) : Calls Try.prog 23 #[.int .i64 n] w fun e w' => e = .returned (.agg #[.int .i64 1, .int .i64 n, .string ByteArray.empty, .slice none 0 0]) ∧ Below w.heap.size w w' := by
  go_enter Try.func23, Try.ntmps23
  go_wp2_with fail
  refine bodyPost_ret (ret_new rfl _ _ _ _ rfl Try.underlying24 rfl Try.sizeValue') rfl ?_
  exact ⟨rfl, below1 _⟩

theorem ref_text (s : ByteArray) (w : World) : Calls Try.prog 24 #[.string s] w fun e w' => e = .returned (.agg #[.int .i64 2, .int .i64 0, .string s, .slice none 0 0]) ∧ Below w.heap.size w w' := by
  go_enter Try.func24, Try.ntmps24
  go_wp2_with fail
  refine bodyPost_ret (ret_new rfl _ _ _ _ rfl Try.underlying24 rfl Try.sizeValue') rfl ?_
  exact ⟨rfl, below1 _⟩

theorem ref_list (A : Option Addr) (len cap : Nat) (w : World) : Calls Try.prog 22 #[.slice A len cap] w fun e w' => e = .returned (.agg #[.int .i64 3, .int .i64 0, .string ByteArray.empty, .slice A len cap]) ∧ Below w.heap.size w w' := by
  go_enter Try.func22, Try.ntmps22
  go_wp2_with fail
  refine bodyPost_ret (ret_new rfl _ _ _ _ rfl Try.underlying24 rfl Try.sizeValue') rfl ?_
  exact ⟨rfl, below1 _⟩

def CountAt (d : Nat) : Prop := ∀ (x : V) (v : Value) (S : Nat → Prop) (w : World), Rd w S x v → (∀ b, S b → b < w.heap.size) →
    Calls Try.prog 36 #[v, .int .i64 ((d : Int) - 1)] w fun e w' => e = .returned (.int .i64 (cnt d x)) ∧ Below w.heap.size w w' ∧ cnt d x ≤ 50000000000000000 + 1000 * d

set_option maxRecDepth 100000 in
set_option maxHeartbeats 800000 in
theorem count_over (k n : Int) (s : ByteArray) (A : Option Addr) (len cap : Nat) (d : Int) (w : World) (hs : s.size ≤ 9223372036854775807) (hl : 150 < len) (hd : 0 ≤ d) :
    Calls Try.prog 36 #[.agg #[.int .i64 k, .int .i64 n, .string s, .slice A len cap], .int .i64 d] w fun e w' => e = .returned (.int .i64 1000) ∧ Below w.heap.size w w' := by
  have hdd : decide (d < 0) = false := by simp; omega
  have hll : decide ((len : Int) > 150) = true := by simp; omega
  go_enter Try.func36, Try.ntmps36
  go_wp2_with fail
  go_ret
  exact ⟨rfl, below1 _⟩

set_option maxRecDepth 100000 in
set_option maxHeartbeats 800000 in
theorem count_end (k n : Int) (s : ByteArray) (A : Option Addr) (len cap : Nat) (w : World) (hs : s.size ≤ 9223372036854775807) :
    Calls Try.prog 36 #[.agg #[.int .i64 k, .int .i64 n, .string s, .slice A len cap], .int .i64 (-1)] w fun e w' => e = .returned (.int .i64 1000) ∧ Below w.heap.size w w' := by
  go_enter Try.func36, Try.ntmps36
  go_wp2_with fail
  go_ret
  exact ⟨rfl, below1 _⟩

set_option maxRecDepth 100000 in
set_option maxHeartbeats 800000 in
theorem count_step (d : Nat) (ih : CountAt d) (hd : d ≤ 100) : CountAt (d + 1) := by
  intro x v S w hR hS
  obtain ⟨k, n, s, l⟩ := x
  obtain ⟨A, cap, rfl, hk, hn, hs, hl, hc, ha⟩ := hR.head
  rw [show (((d + 1 : Nat) : Int) - 1) = (d : Int) from by omega]
  by_cases hlen : 150 < l.length
  · have he : cnt (d + 1) (.mk k n s l) = 1000 := by rw [cnt, if_pos hlen]
    rw [he]
    exact (count_over k n s A l.length cap d w hs hlen (by omega)).mono fun e w' h => ⟨by rw [h.1]; rfl, h.2, by omega⟩
  · have he : cnt (d + 1) (.mk k n s l) = cntL (cnt d) (1 + s.size / 200) l := by rw [cnt, if_neg hlen]
    rw [he]
    have hIH := Lib.hid ih; clear ih he
    have hll : decide ((l.length : Int) > 150) = false := by simp; omega
    have hdd : decide ((d : Int) < 0) = false := by simp
    have hl150 : l.length ≤ 150 := by omega
    clear hlen
    go_enter Try.func36, Try.ntmps36
    go_wp2_with fail
    have hbox : (w.alloc (Obj.cells #[Value.int IntKind.i64 k, Value.int IntKind.i64 n, Value.string s, Value.slice A l.length cap] 24)).heap[w.heap.size]? = some (.cells #[Value.int IntKind.i64 k, Value.int IntKind.i64 n, Value.string s, Value.slice A l.length cap] 24 (0, 0)) := heap_alloc_new _ _
    have hb0 := below1 (w := w) (Obj.cells #[Value.int IntKind.i64 k, Value.int IntKind.i64 n, Value.string s, Value.slice A l.length cap] 24)
    generalize w.alloc (Obj.cells #[Value.int IntKind.i64 k, Value.int IntKind.i64 n, Value.string s, Value.slice A l.length cap] 24) = w1 at *
    go_loopw [5, 6] (fun m i wr => ∃ (j c : Nat), j ≤ l.length ∧ i = .int .i64 j ∧ m = .int .i64 c ∧ cntL (cnt d) (1 + s.size / 200) l = cntL (cnt d) c (l.drop j) ∧ c ≤ 50000000000000000 + 1000 * (d + 1) ∧ Below w.heap.size w wr ∧
      wr.heap[w.heap.size]? = some (.cells #[Value.int IntKind.i64 k, Value.int IntKind.i64 n, Value.string s, Value.slice A l.length cap] 24 (0, 0))) (fun _ i _ => l.length - (intOf i).toNat)
    case atStart => exact ⟨0, 1 + s.size / 200, by omega, rfl, by go_num, rfl, by omega, hb0, hbox⟩
    case round =>
      obtain ⟨j, c, hj, rfl, rfl, he, hcb, hb, hbx⟩ := hrel
      have v3 : wr.cell? ⟨w.heap.size, 3, none⟩ = some (Value.slice A l.length cap) := by rw [cell_of_row wr _ 3 _ _ _ hbx]; rfl
      have He := Lib.hid he; have Hb := Lib.hid hb; have Hbx := Lib.hid hbx
      have hws : w.heap.size < wr.heap.size := (Array.getElem?_eq_some_iff.1 hbx).1
      clear he hbx hbox hb0
      by_cases hlt : j < l.length
      · have t1 : decide (j < l.length) = true := by simpa using hlt
        have hst := cntL_step (cnt d) c j l hlt
        by_cases hm : c ≤ 1000
        · have t2 : decide ((c : Int) ≤ 1000) = true := by simp; omega
          obtain ⟨b, off, k', n', s', l', A', cap', hxk, rfl, hbS, h4, hR'⟩ := hR.at j hlt
          have hbB : b < w.heap.size := hS b hbS
          have fr : ∀ w0, Below w.heap.size w w0 → ∀ b, S b → w0.heap[b]? = w.heap[b]? := fun w0 h0 b hb' => h0.block b (hS b hb')
          have HC : Hid (Calls Try.prog 36 #[.agg #[.int .i64 k', .int .i64 n', .string s', .slice A' l'.length cap'], .int .i64 ((d : Int) - 1)] wr fun e w' => e = .returned (.int .i64 (cnt d l[j])) ∧ Below wr.heap.size wr w' ∧ cnt d l[j] ≤ 50000000000000000 + 1000 * d) :=
            Lib.hid (by rw [hxk]; exact hIH.out _ _ S wr (hR'.frame (fr wr hb) (fun _ h => h)) (fun b hb' => by have := hS b hb'; omega))
          rw [if_pos hm] at hst
          have Hst := Lib.hid (He.out.trans hst)
          obtain ⟨c0, c1, c2, c3⟩ := h4
          rw [← hb.cell (p := ⟨b, off + j * 4, none⟩) hbB] at c0
          rw [← hb.cell (p := ⟨b, off + j * 4 + 1, none⟩) hbB] at c1
          rw [← hb.cell (p := ⟨b, off + j * 4 + 2, none⟩) hbB] at c2
          rw [← hb.cell (p := ⟨b, off + j * 4 + 3, none⟩) hbB] at c3
          generalize cnt d l[j] = cx at *
          clear hxk hR' hst hb hR
          go_wp2_with fail
          refine HC.out.mono ?_
          rintro e w1 ⟨rfl, hb1, hcx⟩
          go_wp2_with fail
          go_roundw
          case rel => exact ⟨j + 1, c + cx, by omega, by go_num, by go_num, Hst.out, by omega, Hb.out.trans (hb1.mono (by omega)), by rw [hb1.block _ hws]; exact Hbx.out⟩
          case measure => simp [intOf]; omega
        · have t2 : decide ((c : Int) ≤ 1000) = false := by simp; omega
          rw [if_neg hm] at hst
          have Hst := Lib.hid (He.out.trans hst); clear hst
          go_wp2_with fail
          go_ret
          exact ⟨ret_v (by rw [Hst.out]; rfl), Hb.out, by rw [Hst.out]; omega⟩
      · have t1 : decide (j < l.length) = false := by simpa using hlt
        have Hst : Hid (cntL (cnt d) (1 + s.size / 200) l = c) := Lib.hid (by rw [He.out, List.drop_of_length_le (by omega), cntL])
        go_wp2_with fail
        go_ret
        exact ⟨ret_v (by rw [Hst.out]; rfl), Hb.out, by rw [Hst.out]; omega⟩

theorem count_upTo (d : Nat) (hd : d ≤ 100) : CountAt d := by
  induction d with
  | zero =>
    intro x v S w hR hS
    obtain ⟨k, n, s, l⟩ := x
    obtain ⟨A, cap, rfl, hk, hn, hs, hl, hc, ha⟩ := hR.head
    exact (count_end k n s A l.length cap w hs).mono fun e w' h => ⟨h.1, h.2, by simp [cnt]⟩
  | succ d ih => exact count_step d (ih (by omega)) (by omega)

/-- few parts, down to a depth of 20 -/
def few (x : V) : Bool := decide (cnt 21 x ≤ 200)

set_option maxRecDepth 100000 in
set_option maxHeartbeats 400000 in
theorem ref_few {x : V} {v : Value} {S : Nat → Prop} {w : World} (hR : Rd w S x v) (hS : ∀ b, S b → b < w.heap.size) :
    Calls Try.prog 25 #[v, .int .i64 20] w fun e w' => e = .returned (.bool (few x)) ∧ Below w.heap.size w w' := by
  obtain ⟨k, n, s, l⟩ := x
  have HC : Hid (∀ w0, Below w.heap.size w w0 → Calls Try.prog 36 #[v, .int .i64 20] w0 fun e w' => e = .returned (.int .i64 (cnt 21 (.mk k n s l))) ∧ Below w0.heap.size w0 w' ∧ cnt 21 (.mk k n s l) ≤ 50000000000000000 + 1000 * 21) :=
    Lib.hid fun w0 h0 => count_upTo 21 (by omega) _ v S w0 (hR.frame (fun b hb' => h0.block b (hS b hb')) (fun _ h => h)) (fun b hb' => by have := hS b hb'; have := h0.size; omega)
  obtain ⟨A, cap, rfl, _⟩ := hR.head
  clear hR
  have hf : few (.mk k n s l) = decide ((cnt 21 (.mk k n s l) : Int) ≤ 200) := by
    unfold few; rw [Bool.eq_iff_iff]; simp; omega
  have HF := Lib.hid hf; clear hf
  rw [HF.out]
  generalize cnt 21 (.mk k n s l) = c at *
  go_enter Try.func25, Try.ntmps25
  go_wp2_with fail
  refine (HC.out _ (below1 _)).mono ?_
  rintro e w1 ⟨rfl, hb1, hc⟩
  go_wp2_with fail
  go_ret
  exact ⟨rfl, (below1 _).trans (hb1.mono (by simp))⟩

end Go.Proofs.Ytjhecmmbpmpmgaa
