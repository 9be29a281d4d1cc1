/- codec.Same and slices.EqualFunc by their contracts. -/
import Derived.Test.YtjhecmmbpmpmgaaCFormed2
import Derived.Test.YtjhecmmbpmpmgaaPSame
namespace Go.Proofs.Ytjhecmmbpmpmgaa
open Go.RowKit Go.Lib

def SameUpTo (N : Nat) : Prop := ∀ (x y : V) (v u : Value) (S : Nat → Prop) (w : World), x.sz ≤ N → Rd w S x v → Rd w S y u → (∀ b, S b → b < w.heap.size) →
    Calls Try.prog 21 #[v, u] w fun e w' => e = .returned (.bool (x.same y)) ∧ Below w.heap.size w w'

set_option maxRecDepth 100000 in
set_option maxHeartbeats 800000 in
theorem equalFunc_any (N : Nat) (ih : SameUpTo N) (k n k' n' : Int) (s s' : ByteArray) (l l' : List V) (A A' : Option Addr) (cap cap' : Nat) (S : Nat → Prop) (w : World) (hsz : (V.mk k n s l).sz ≤ N + 1) (hN : N < 1000000)
    (hR : Rd w S (.mk k n s l) (.agg #[.int .i64 k, .int .i64 n, .string s, .slice A l.length cap])) (hR' : Rd w S (.mk k' n' s' l') (.agg #[.int .i64 k', .int .i64 n', .string s', .slice A' l'.length cap'])) (hS : ∀ b, S b → b < w.heap.size) :
    Calls Try.prog 35 #[.slice A l.length cap, .slice A' l'.length cap', .func (.func 21) #[] #[]] w fun e w' => e = .returned (.bool (sameL l l')) ∧ Below w.heap.size w w' := by
  have hlen : l.length < 1000001 := by have := V.sz_len (k := k) (n := n) (s := s) (l := l); omega
  have hIH := Lib.hid ih; clear ih
  by_cases hll : l.length = l'.length
  · have ht : ((l.length : Int) != (l'.length : Int)) = false := by simp [hll]
    have HLL := Lib.hid hll
    have hle : l'.length ≤ l.length := by omega
    have hge : l.length ≤ l'.length := by omega
    clear hll
    go_enter Try.func35, Try.ntmps35
    go_wp2_with fail
    go_loopw [17] (fun i wr => ∃ k : Nat, k ≤ l.length ∧ i = .int .i64 k ∧ sameL l l' = sameL (l.drop k) (l'.drop k) ∧ Below w.heap.size w wr) (fun i _ => l.length - (intOf i).toNat)
    case atStart => exact ⟨0, by omega, rfl, rfl, Below.refl _ _⟩
    case round =>
      obtain ⟨i, hi, rfl, he, hb⟩ := hrel
      have He := Lib.hid he; clear he
      by_cases hlt : i < l.length
      · obtain ⟨b1, off1, k1, n1, s1, l1, A1, cap1, hx1, rfl, hS1, h41, hR1⟩ := hR.at i hlt
        obtain ⟨b2, off2, k2, n2, s2, l2, A2, cap2, hx2, rfl, hS2, h42, hR2⟩ := hR'.at i (by omega)
        have hst := sameL_step l l' i hlt (by omega)
        have hxs : l[i].sz ≤ N := by have := V.sz_mem (k := k) (n := n) (s := s) (List.getElem_mem hlt); omega
        rw [hx1, hx2] at hst
        rw [hx1] at hxs
        have Hst := Lib.hid (He.out.trans hst)
        have fr : ∀ w0, Below w.heap.size w w0 → ∀ b, S b → w0.heap[b]? = w.heap[b]? := fun w0 h0 b hb' => h0.block b (hS b hb')
        have HC : Hid (∀ w0, Below w.heap.size w w0 → Calls Try.prog 21 #[.agg #[.int .i64 k1, .int .i64 n1, .string s1, .slice A1 l1.length cap1], .agg #[.int .i64 k2, .int .i64 n2, .string s2, .slice A2 l2.length cap2]] w0 fun e w' => e = .returned (.bool ((V.mk k1 n1 s1 l1).same (.mk k2 n2 s2 l2))) ∧ Below w0.heap.size w0 w') :=
          Lib.hid fun w0 h0 => hIH.out _ _ _ _ S w0 hxs (hR1.frame (fr w0 h0) (fun _ h => h)) (hR2.frame (fr w0 h0) (fun _ h => h)) (fun b hb' => by have := hS b hb'; have := h0.size; omega)
        obtain ⟨a0, a1, a2, a3⟩ := h41
        obtain ⟨d0, d1, d2, d3⟩ := h42
        have z1 := hS b1 hS1
        have z2 := hS b2 hS2
        rw [← hb.cell (p := ⟨b1, off1 + i * 4, none⟩) z1] at a0
        rw [← hb.cell (p := ⟨b1, off1 + i * 4 + 1, none⟩) z1] at a1
        rw [← hb.cell (p := ⟨b1, off1 + i * 4 + 2, none⟩) z1] at a2
        rw [← hb.cell (p := ⟨b1, off1 + i * 4 + 3, none⟩) z1] at a3
        rw [← hb.cell (p := ⟨b2, off2 + i * 4, none⟩) z2] at d0
        rw [← hb.cell (p := ⟨b2, off2 + i * 4 + 1, none⟩) z2] at d1
        rw [← hb.cell (p := ⟨b2, off2 + i * 4 + 2, none⟩) z2] at d2
        rw [← hb.cell (p := ⟨b2, off2 + i * 4 + 3, none⟩) z2] at d3
        have hws : w.heap.size ≤ wr.heap.size := hb.size
        have y1 : b1 < wr.heap.size := by omega
        have y2 : b2 < wr.heap.size := by omega
        have Hb := Lib.hid hb
        clear hx1 hx2 hst hR1 hR2 hb
        generalize (V.mk k1 n1 s1 l1).same (.mk k2 n2 s2 l2) = sm at *
        cases sm
        all_goals
          go_wp2_with fail
          refine (HC.out _ ((Hb.out.alloc hws _).alloc (by simp; omega) _)).mono ?_
          rintro e w1 ⟨rfl, hb1⟩
          go_wp2_with fail
        · go_ret
          exact ⟨ret_v (by rw [Hst.out]; rfl), ((Hb.out.alloc hws _).alloc (by simp; omega) _).trans (hb1.mono (by simp; omega))⟩
        · go_roundw
          case rel => exact ⟨i + 1, by omega, by go_num, by rw [Hst.out]; rfl, ((Hb.out.alloc hws _).alloc (by simp; omega) _).trans (hb1.mono (by simp; omega))⟩
          case measure => simp [intOf]; omega
      · have hil : i = l.length := by omega
        have hf : sameL l l' = true := by rw [He.out, hil, List.drop_of_length_le (Nat.le_refl _), List.drop_of_length_le (by omega), sameL]
        have Hf := Lib.hid hf; clear hf hil
        go_wp2_with fail
        go_ret
        exact ⟨ret_v (by rw [Hf.out]; first | done | rfl), hb⟩
  · have ht : ((l.length : Int) != (l'.length : Int)) = true := by simp; omega
    have Hf := Lib.hid (sameL_len l l' hll); clear hll
    go_enter Try.func35, Try.ntmps35
    go_wp2_with fail
    go_ret
    exact ⟨ret_v (by rw [Hf.out]; first | done | rfl), Below.refl _ _⟩

set_option maxRecDepth 100000 in
set_option maxHeartbeats 800000 in
theorem same_no (k n k' n' : Int) (s s' : ByteArray) (A A' : Option Addr) (len cap len' cap' : Nat) (w : World) (h : ¬ (k = k' ∧ n = n' ∧ s = s')) :
    Calls Try.prog 21 #[.agg #[.int .i64 k, .int .i64 n, .string s, .slice A len cap], .agg #[.int .i64 k', .int .i64 n', .string s', .slice A' len' cap']] w fun e w' => e = .returned (.bool false) ∧ Below w.heap.size w w' := by
  by_cases h1 : k = k'
  · subst h1
    by_cases h2 : n = n'
    · subst h2
      have h3 : ¬ s = s' := fun e => h ⟨rfl, rfl, e⟩
      have q : ¬ s.toList = s'.toList := fun e => h3 (ba_ext (by simpa [ByteArray.toList_eq] using e))
      clear h
      go_enter Try.func21, Try.ntmps21
      go_wp2_with fail
      all_goals go_ret
      all_goals exact ⟨rfl, below2 _ _⟩
    · have q : (n == n') = false := by simpa using h2
      clear h
      go_enter Try.func21, Try.ntmps21
      go_wp2_with fail
      all_goals go_ret
      all_goals exact ⟨rfl, below2 _ _⟩
  · have q : (k == k') = false := by simpa using h1
    clear h
    go_enter Try.func21, Try.ntmps21
    go_wp2_with fail
    all_goals go_ret
    all_goals exact ⟨rfl, below2 _ _⟩

set_option maxRecDepth 100000 in
set_option maxHeartbeats 800000 in
theorem same_step (N : Nat) (ih : SameUpTo N) (hN : N < 1000000) : SameUpTo (N + 1) := by
  intro x y v u S w hsz hR hR' hS
  obtain ⟨k, n, s, l⟩ := x
  obtain ⟨k', n', s', l'⟩ := y
  obtain ⟨A, cap, rfl, _⟩ := hR.head
  obtain ⟨A', cap', rfl, _⟩ := hR'.head
  by_cases h : k = k' ∧ n = n' ∧ s = s'
  · obtain ⟨rfl, rfl, rfl⟩ := h
    have hsm : (V.mk k n s l).same (.mk k n s l') = sameL l l' := by rw [V.same]; simp
    have HS := Lib.hid hsm; clear hsm
    rw [HS.out]
    have fr : ∀ w0, Below w.heap.size w w0 → ∀ b, S b → w0.heap[b]? = w.heap[b]? := fun w0 h0 b hb' => h0.block b (hS b hb')
    have HC : Hid (∀ w0, Below w.heap.size w w0 → Calls Try.prog 35 #[.slice A l.length cap, .slice A' l'.length cap', .func (.func 21) #[] #[]] w0 fun e w' => e = .returned (.bool (sameL l l')) ∧ Below w0.heap.size w0 w') :=
      Lib.hid fun w0 h0 => equalFunc_any N ih k n k n s s l l' A A' cap cap' S w0 hsz hN (hR.frame (fr w0 h0) (fun _ h => h)) (hR'.frame (fr w0 h0) (fun _ h => h)) (fun b hb' => by have := hS b hb'; have := h0.size; omega)
    clear hR hR' hsz ih
    generalize sameL l l' = r at *
    go_enter Try.func21, Try.ntmps21
    go_wp2_with (go_at_call 35; refine (HC.out _ (below2 _ _)).mono ?_; rintro e w1 ⟨rfl, hb1⟩)
    go_ret
    exact ⟨rfl, (below2 _ _).trans (hb1.mono (by simp; omega))⟩
  · have hsm : (V.mk k n s l).same (.mk k' n' s' l') = false := by
      cases hb : (V.mk k n s l).same (.mk k' n' s' l') with
      | false => rfl
      | true => rw [V.same_iff, V.mk.injEq] at hb; exact absurd ⟨hb.1, hb.2.1, hb.2.2.1⟩ h
    rw [hsm]
    exact same_no k n k' n' s s' A A' l.length cap l'.length cap' w h

theorem same_upTo (N : Nat) (hN : N ≤ 1000000) : SameUpTo N := by
  induction N with
  | zero => intro x y v u S w hx; cases x; rw [V.sz_mk] at hx; omega
  | succ N ih => exact same_step N (ih (by omega)) (by omega)

theorem same_any {x y : V} {v u : Value} {S : Nat → Prop} {w : World} (hx : x.sz ≤ 1000000) (hR : Rd w S x v) (hR' : Rd w S y u) (hS : ∀ b, S b → b < w.heap.size) :
    Calls Try.prog 21 #[v, u] w fun e w' => e = .returned (.bool (x.same y)) ∧ Below w.heap.size w w' := same_upTo 1000000 (by omega) x y v u S w hx hR hR' hS

end Go.Proofs.Ytjhecmmbpmpmgaa
