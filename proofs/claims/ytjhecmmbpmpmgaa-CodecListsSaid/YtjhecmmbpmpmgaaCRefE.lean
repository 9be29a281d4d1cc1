/- signatoryref01's Formed, Depth by their contracts. -/
import Derived.Test.YtjhecmmbpmpmgaaCRefA
import Derived.Test.YtjhecmmbpmpmgaaPRef
namespace Go.Proofs.Ytjhecmmbpmpmgaa
open Go.RowKit Go.Lib

def rf3 (n : Int) (s : ByteArray) (l : List V) : Bool := okL l && (decide (n = 0) && decide (s.size = 0))

def RefFormedUpTo (N : Nat) : Prop := ∀ (x : V) (v : Value) (S : Nat → Prop) (w : World), x.sz ≤ N → Rd w S x v → (∀ b, S b → b < w.heap.size) →
    Calls Try.prog 29 #[v] w fun e w' => e = .returned (.bool x.fm.isSome) ∧ Below w.heap.size w w'

set_option maxRecDepth 100000 in
set_option maxHeartbeats 800000 in
theorem rformed_1 (n : Int) (s : ByteArray) (l : List V) (A : Option Addr) (cap : Nat) (w : World) :
    Calls Try.prog 29 #[.agg #[.int .i64 1, .int .i64 n, .string s, .slice A l.length cap]] w fun e w' =>
      e = .returned (.bool (V.mk 1 n s l).fm.isSome) ∧ Below w.heap.size w w' := by
  by_cases hs : s.size = 0
  · have h1 : s.toList = [] := (toList_nil_iff s).2 hs
    have HF : Hid ((V.mk 1 n s l).fm.isSome = decide (l.length = 0)) := Lib.hid (by rw [V.fm, if_pos rfl]; by_cases h : l.length = 0 <;> simp [hs, h])
    rw [HF.out]
    by_cases hl : l.length = 0
    · have q : ((l.length : Int) == 0) = true := by simpa using hl
      have HL := Lib.hid hl
      clear hs hl
      go_enter Try.func29, Try.ntmps29
      go_wp2_with fail
      go_ret
      exact ⟨ret_v (by rw [HL.out]; rfl), below1 _⟩
    · have q : ((l.length : Int) == 0) = false := by rw [beq_eq_false_iff_ne]; omega
      have HL := Lib.hid hl
      clear hs hl
      go_enter Try.func29, Try.ntmps29
      go_wp2_with fail
      go_ret
      exact ⟨ret_v (by rw [decide_eq_false HL.out]; rfl), below1 _⟩
  · have h1 : ¬ s.toList = [] := fun e => hs ((toList_nil_iff s).1 e)
    have HF : Hid ((V.mk 1 n s l).fm.isSome = false) := Lib.hid (by rw [V.fm, if_pos rfl, if_neg (fun h => hs h.1)]; rfl)
    rw [HF.out]
    clear hs
    go_enter Try.func29, Try.ntmps29
    go_wp2_with fail
    go_ret
    exact ⟨rfl, below1 _⟩

set_option maxRecDepth 100000 in
set_option maxHeartbeats 800000 in
theorem rformed_2 (n : Int) (s : ByteArray) (l : List V) (A : Option Addr) (cap : Nat) (w : World) :
    Calls Try.prog 29 #[.agg #[.int .i64 2, .int .i64 n, .string s, .slice A l.length cap]] w fun e w' =>
      e = .returned (.bool (V.mk 2 n s l).fm.isSome) ∧ Below w.heap.size w w' := by
  by_cases hn : n = 0
  · subst hn
    have HF : Hid ((V.mk 2 0 s l).fm.isSome = decide (l.length = 0)) := Lib.hid (by rw [V.fm, if_neg (by decide), if_pos rfl]; by_cases h : l.length = 0 <;> simp [h])
    rw [HF.out]
    by_cases hl : l.length = 0
    · have q : ((l.length : Int) == 0) = true := by simpa using hl
      have HL := Lib.hid hl
      clear hl
      go_enter Try.func29, Try.ntmps29
      go_wp2_with fail
      go_ret
      exact ⟨ret_v (by rw [HL.out]; rfl), below1 _⟩
    · have q : ((l.length : Int) == 0) = false := by rw [beq_eq_false_iff_ne]; omega
      have HL := Lib.hid hl
      clear hl
      go_enter Try.func29, Try.ntmps29
      go_wp2_with fail
      go_ret
      exact ⟨ret_v (by rw [decide_eq_false HL.out]; rfl), below1 _⟩
  · have q : (n == 0) = false := by simpa using hn
    have HF : Hid ((V.mk 2 n s l).fm.isSome = false) := Lib.hid (by rw [V.fm, if_neg (by decide), if_pos rfl, if_neg (fun h => hn h.1)]; rfl)
    rw [HF.out]
    clear hn
    go_enter Try.func29, Try.ntmps29
    go_wp2_with fail
    go_ret
    exact ⟨rfl, below1 _⟩

set_option maxRecDepth 100000 in
set_option maxHeartbeats 800000 in
theorem rformed_0 (k n : Int) (s : ByteArray) (l : List V) (A : Option Addr) (cap : Nat) (w : World) (h1 : ¬ k = 1) (h2 : ¬ k = 2) (h3 : ¬ k = 3) :
    Calls Try.prog 29 #[.agg #[.int .i64 k, .int .i64 n, .string s, .slice A l.length cap]] w fun e w' =>
      e = .returned (.bool (V.mk k n s l).fm.isSome) ∧ Below w.heap.size w w' := by
  have q1 : (k == 1) = false := by simpa using h1
  have q2 : (k == 2) = false := by simpa using h2
  have q3 : (k == 3) = false := by simpa using h3
  have HF : Hid ((V.mk k n s l).fm.isSome = false) := Lib.hid (by rw [V.fm, if_neg h1, if_neg h2, if_neg h3]; rfl)
  rw [HF.out]
  clear h1 h2 h3
  go_enter Try.func29, Try.ntmps29
  go_wp2_with fail
  go_ret
  exact ⟨rfl, below1 _⟩

set_option maxRecDepth 100000 in
set_option maxHeartbeats 1600000 in
theorem rformed_3 (N : Nat) (ih : RefFormedUpTo N) (n : Int) (s : ByteArray) (l : List V) (A : Option Addr) (cap : Nat) (S : Nat → Prop) (w : World) (hsz : (V.mk 3 n s l).sz ≤ N + 1) (hN : N < 1000000)
    (hR : Rd w S (.mk 3 n s l) (.agg #[.int .i64 3, .int .i64 n, .string s, .slice A l.length cap])) (hS : ∀ b, S b → b < w.heap.size) :
    Calls Try.prog 29 #[.agg #[.int .i64 3, .int .i64 n, .string s, .slice A l.length cap]] w fun e w' =>
      e = .returned (.bool (rf3 n s l)) ∧ Below w.heap.size w w' := by
  have hlen : l.length < 1000001 := by have := V.sz_len (k := 3) (n := n) (s := s) (l := l); omega
  have hIH := Lib.hid ih
  clear ih
  go_enter Try.func29, Try.ntmps29
  go_wp2_with fail
  have hbox : (w.alloc (Obj.cells #[Value.int IntKind.i64 3, Value.int IntKind.i64 n, Value.string s, Value.slice A l.length cap] 24)).heap[w.heap.size]? = some (.cells #[Value.int IntKind.i64 3, Value.int IntKind.i64 n, Value.string s, Value.slice A l.length cap] 24 (0, 0)) := heap_alloc_new _ _
  have hb0 := below1 (w := w) (Obj.cells #[Value.int IntKind.i64 3, Value.int IntKind.i64 n, Value.string s, Value.slice A l.length cap] 24)
  generalize w.alloc (Obj.cells #[Value.int IntKind.i64 3, Value.int IntKind.i64 n, Value.string s, Value.slice A l.length cap] 24) = w1 at *
  go_loopw [3] (fun i wr => ∃ k : Nat, k ≤ l.length ∧ i = .int .i64 k ∧ okL l = okL (l.drop k) ∧ Below w.heap.size w wr ∧
      wr.heap[w.heap.size]? = some (.cells #[Value.int IntKind.i64 3, Value.int IntKind.i64 n, Value.string s, Value.slice A l.length cap] 24 (0, 0))) (fun i _ => l.length - (intOf i).toNat)
  case atStart => exact ⟨0, by omega, rfl, rfl, hb0, hbox⟩
  case round =>
    obtain ⟨k, hk, rfl, he, hb, hbx⟩ := hrel
    have v1 : wr.cell? ⟨w.heap.size, 1, none⟩ = some (Value.int .i64 n) := by rw [cell_of_row wr _ 1 _ _ _ hbx]; rfl
    have v2 : wr.cell? ⟨w.heap.size, 2, none⟩ = some (Value.string s) := by rw [cell_of_row wr _ 2 _ _ _ hbx]; rfl
    have v3 : wr.cell? ⟨w.heap.size, 3, none⟩ = some (Value.slice A l.length cap) := by rw [cell_of_row wr _ 3 _ _ _ hbx]; rfl
    have hws : w.heap.size < wr.heap.size := (Array.getElem?_eq_some_iff.1 hbx).1
    have He := Lib.hid he; have Hbx := Lib.hid hbx
    clear he hbx hbox hb0
    by_cases hlt : k < l.length
    · have t1 : decide (k < l.length) = true := by simpa using hlt
      obtain ⟨b, off, k', n', s', l', A', cap', hxk, rfl, hbS, h4, hR'⟩ := hR.at k hlt
      have hbB : b < w.heap.size := hS b hbS
      have hst := okL_step l k hlt
      have HC : Hid (Calls Try.prog 29 #[.agg #[.int .i64 k', .int .i64 n', .string s', .slice A' l'.length cap']] wr fun e w' => e = .returned (.bool l[k].fm.isSome) ∧ Below wr.heap.size wr w') :=
        Lib.hid (hIH.out l[k] _ S wr (by have := V.sz_mem (k := 3) (n := n) (s := s) (List.getElem_mem hlt); omega) (by rw [hxk]; exact hR'.frame (fun b hb' => hb.block b (hS b hb')) (fun _ h => h)) (fun b hb' => by have := hS b hb'; omega))
      obtain ⟨c0, c1, c2, c3⟩ := h4
      rw [← hb.cell (p := ⟨b, off + k * 4, none⟩) hbB] at c0
      rw [← hb.cell (p := ⟨b, off + k * 4 + 1, none⟩) hbB] at c1
      rw [← hb.cell (p := ⟨b, off + k * 4 + 2, none⟩) hbB] at c2
      rw [← hb.cell (p := ⟨b, off + k * 4 + 3, none⟩) hbB] at c3
      have Hst := Lib.hid (He.out.trans hst)
      have Hb := Lib.hid hb
      clear hst hxk hR' hb hR
      generalize l[k].fm.isSome = bb at *
      cases bb
      · go_wp2_with fail
        refine HC.out.mono ?_
        rintro e w4 ⟨rfl, hb4⟩
        go_wp2_with fail
        go_ret
        exact ⟨ret_v (by unfold rf3; rw [Hst.out]; rfl), Hb.out.trans (hb4.mono (by omega))⟩
      · go_wp2_with fail
        refine HC.out.mono ?_
        rintro e w4 ⟨rfl, hb4⟩
        go_wp2_with fail
        go_roundw
        case rel => exact ⟨k + 1, by omega, by go_num, by rw [Hst.out]; rfl, Hb.out.trans (hb4.mono (by omega)), by rw [hb4.block _ hws]; exact Hbx.out⟩
        case measure => simp [intOf]; omega
    · have t1 : decide (k < l.length) = false := by simpa using hlt
      have Hst : Hid (okL l = true) := Lib.hid (by rw [He.out, List.drop_of_length_le (by omega)]; rfl)
      have Hb := Lib.hid hb
      clear hb hR hsz
      by_cases hn : n = 0
      · subst hn
        by_cases hs : s.size = 0
        · have q : s.toList = [] := (toList_nil_iff s).2 hs
          have HS : Hid (rf3 0 s l = true) := Lib.hid (by unfold rf3; rw [Hst.out, decide_eq_true hs]; rfl)
          clear hs
          go_wp2_with fail
          go_ret
          exact ⟨ret_v (by rw [HS.out]; rfl), Hb.out⟩
        · have q : ¬ s.toList = [] := fun e => hs ((toList_nil_iff s).1 e)
          have q2 : s.toList.isEmpty = false := by simpa using q
          have HS : Hid (rf3 0 s l = false) := Lib.hid (by unfold rf3; rw [Hst.out, decide_eq_false hs]; rfl)
          clear hs
          go_wp2_with fail
          go_ret
          exact ⟨ret_v (by rw [HS.out]; rfl), Hb.out⟩
      · have q : (n == 0) = false := by simpa using hn
        have HS : Hid (rf3 n s l = false) := Lib.hid (by unfold rf3; rw [Hst.out, decide_eq_false hn]; rfl)
        clear hn
        go_wp2_with fail
        go_ret
        exact ⟨ret_v (by rw [HS.out]; rfl), Hb.out⟩

theorem rformed_upTo (N : Nat) (hN : N ≤ 1000000) : RefFormedUpTo N := by
  induction N with
  | zero => intro x v S w hx; cases x; rw [V.sz_mk] at hx; omega
  | succ N ih =>
    intro x v S w hx hR hS
    obtain ⟨k, n, s, l⟩ := x
    obtain ⟨A, cap, rfl, hk, hn, hs, hl, hc, ha⟩ := hR.head
    by_cases h1 : k = 1
    · subst h1; exact rformed_1 n s l A cap w
    · by_cases h2 : k = 2
      · subst h2; exact rformed_2 n s l A cap w
      · by_cases h3 : k = 3
        · subst h3; rw [fm3]; exact rformed_3 N (ih (by omega)) n s l A cap S w hx (by omega) hR hS
        · exact rformed_0 k n s l A cap w h1 h2 h3

def RefDepthUpTo (N : Nat) : Prop := ∀ (x : V) (v : Value) (S : Nat → Prop) (w : World), x.sz ≤ N → Rd w S x v → (∀ b, S b → b < w.heap.size) →
    Calls Try.prog 30 #[v] w fun e w' => e = .returned (.int .i64 x.dep) ∧ Below w.heap.size w w'

set_option maxRecDepth 100000 in
set_option maxHeartbeats 800000 in
theorem rdepth_0 (k n : Int) (s : ByteArray) (A : Option Addr) (len cap : Nat) (w : World) (h3 : ¬ k = 3) :
    Calls Try.prog 30 #[.agg #[.int .i64 k, .int .i64 n, .string s, .slice A len cap]] w fun e w' => e = .returned (.int .i64 0) ∧ Below w.heap.size w w' := by
  have q3 : (k != 3) = true := by simpa using h3
  clear h3
  go_enter Try.func30, Try.ntmps30
  go_wp2_with fail
  go_ret
  exact ⟨rfl, below1 _⟩

set_option maxRecDepth 100000 in
set_option maxHeartbeats 1600000 in
theorem rdepth_3 (N : Nat) (ih : RefDepthUpTo N) (n : Int) (s : ByteArray) (l : List V) (A : Option Addr) (cap : Nat) (S : Nat → Prop) (w : World) (hsz : (V.mk 3 n s l).sz ≤ N + 1) (hN : N < 1000000)
    (hR : Rd w S (.mk 3 n s l) (.agg #[.int .i64 3, .int .i64 n, .string s, .slice A l.length cap])) (hS : ∀ b, S b → b < w.heap.size) :
    Calls Try.prog 30 #[.agg #[.int .i64 3, .int .i64 n, .string s, .slice A l.length cap]] w fun e w' =>
      e = .returned (.int .i64 ((depFrom 0 l + 1 : Nat) : Int)) ∧ Below w.heap.size w w' := by
  have hlen : l.length < 1000001 := by have := V.sz_len (k := 3) (n := n) (s := s) (l := l); omega
  have hIH := Lib.hid ih
  clear ih
  go_enter Try.func30, Try.ntmps30
  go_wp2_with fail
  have hbox : (w.alloc (Obj.cells #[Value.int IntKind.i64 3, Value.int IntKind.i64 n, Value.string s, Value.slice A l.length cap] 24)).heap[w.heap.size]? = some (.cells #[Value.int IntKind.i64 3, Value.int IntKind.i64 n, Value.string s, Value.slice A l.length cap] 24 (0, 0)) := heap_alloc_new _ _
  have hb0 := below1 (w := w) (Obj.cells #[Value.int IntKind.i64 3, Value.int IntKind.i64 n, Value.string s, Value.slice A l.length cap] 24)
  generalize w.alloc (Obj.cells #[Value.int IntKind.i64 3, Value.int IntKind.i64 n, Value.string s, Value.slice A l.length cap] 24) = w1 at *
  go_loopw [3, 4] (fun m i wr => ∃ k c : Nat, k ≤ l.length ∧ i = .int .i64 k ∧ m = .int .i64 c ∧ c ≤ 1000000 ∧ depFrom 0 l = depFrom c (l.drop k) ∧ Below w.heap.size w wr ∧
      wr.heap[w.heap.size]? = some (.cells #[Value.int IntKind.i64 3, Value.int IntKind.i64 n, Value.string s, Value.slice A l.length cap] 24 (0, 0))) (fun _ i _ => l.length - (intOf i).toNat)
  case atStart => exact ⟨0, 0, by omega, rfl, rfl, by omega, rfl, hb0, hbox⟩
  case round =>
    obtain ⟨k, c, hk, rfl, rfl, hc, he, hb, hbx⟩ := hrel
    have v3 : wr.cell? ⟨w.heap.size, 3, none⟩ = some (Value.slice A l.length cap) := by rw [cell_of_row wr _ 3 _ _ _ hbx]; rfl
    have hws : w.heap.size < wr.heap.size := (Array.getElem?_eq_some_iff.1 hbx).1
    have He := Lib.hid he; have Hbx := Lib.hid hbx
    clear he hbx hbox hb0
    by_cases hlt : k < l.length
    · have t1 : decide (k < l.length) = true := by simpa using hlt
      obtain ⟨b, off, k', n', s', l', A', cap', hxk, rfl, hbS, h4, hR'⟩ := hR.at k hlt
      have hbB : b < w.heap.size := hS b hbS
      have hst := depFrom_step c k l hlt
      have hxs : l[k].sz ≤ N := by have := V.sz_mem (k := 3) (n := n) (s := s) (List.getElem_mem hlt); omega
      have hdl := dep_le l[k]
      have HC : Hid (Calls Try.prog 30 #[.agg #[.int .i64 k', .int .i64 n', .string s', .slice A' l'.length cap']] wr fun e w' => e = .returned (.int .i64 l[k].dep) ∧ Below wr.heap.size wr w') :=
        Lib.hid (hIH.out l[k] _ S wr hxs (by rw [hxk]; exact hR'.frame (fun b hb' => hb.block b (hS b hb')) (fun _ h => h)) (fun b hb' => by have := hS b hb'; omega))
      obtain ⟨c0, c1, c2, c3⟩ := h4
      rw [← hb.cell (p := ⟨b, off + k * 4, none⟩) hbB] at c0
      rw [← hb.cell (p := ⟨b, off + k * 4 + 1, none⟩) hbB] at c1
      rw [← hb.cell (p := ⟨b, off + k * 4 + 2, none⟩) hbB] at c2
      rw [← hb.cell (p := ⟨b, off + k * 4 + 3, none⟩) hbB] at c3
      have hde : l[k].dep ≤ 1000000 := by omega
      have Hst := Lib.hid (He.out.trans hst)
      have Hb := Lib.hid hb
      clear hst hxk hR' hb hR hdl hxs
      generalize l[k].dep = dx at *
      go_wp2_with fail
      refine HC.out.mono ?_
      rintro e w4 ⟨rfl, hb4⟩
      go_wp2_with fail
      go_roundw
      case rel => exact ⟨k + 1, max c dx, by omega, by go_num, by split <;> congr 2 <;> omega, by omega, Hst.out, Hb.out.trans (hb4.mono (by omega)), by rw [hb4.block _ hws]; exact Hbx.out⟩
      case measure => simp [intOf]; omega
    · have t1 : decide (k < l.length) = false := by simpa using hlt
      have Hst : Hid (depFrom 0 l = c) := Lib.hid (by rw [He.out, List.drop_of_length_le (by omega), depFrom])
      have Hb := Lib.hid hb
      clear hb hR hsz
      go_wp2_with fail
      go_ret
      exact ⟨ret_v (by rw [Hst.out]; go_num), Hb.out⟩

theorem rdepth_upTo (N : Nat) (hN : N ≤ 1000000) : RefDepthUpTo N := by
  induction N with
  | zero => intro x v S w hx; cases x; rw [V.sz_mk] at hx; omega
  | succ N ih =>
    intro x v S w hx hR hS
    obtain ⟨k, n, s, l⟩ := x
    obtain ⟨A, cap, rfl, hk, hn, hs, hl, hc, ha⟩ := hR.head
    rw [V.dep]
    by_cases h3 : k = 3
    · subst h3; rw [if_pos rfl]; exact rdepth_3 N (ih (by omega)) n s l A cap S w hx (by omega) hR hS
    · rw [if_neg h3]; exact rdepth_0 k n s A _ cap w h3

end Go.Proofs.Ytjhecmmbpmpmgaa
