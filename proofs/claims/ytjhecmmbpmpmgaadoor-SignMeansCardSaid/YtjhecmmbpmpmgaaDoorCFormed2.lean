/- codec.formed by its contract: lists. -/
import Derived.Test.YtjhecmmbpmpmgaaDoorProg
import Derived.Test.YtjhecmmbpmpmgaaDoorBase
import Derived.Test.YtjhecmmbpmpmgaaDoorCFormed
import Derived.WalkKit
import Derived.WalkSpells
import Derived.WalkLawsBesides
import Derived.Lib.Hide
namespace Go.Proofs.YtjhecmmbpmpmgaaDoor
open Go.RowKit

set_option maxHeartbeats 400000 in
theorem formed_3no (n : Int) (s : ByteArray) (A : Option Addr) (len cap : Nat) (w : World) (hn : Ok n) (_hl : len ≤ 9223372036854775807) (h : ¬ (n = 0 ∧ s.size = 0)) :
    Calls Tryd.prog 78 #[.agg #[.int .i64 3, .int .i64 n, .string s, .slice A len cap]] w fun e w' =>
      e = .returned (fmRes none) ∧ Below w.heap.size w w' := by
  obtain ⟨hn0, hn1⟩ := hn
  by_cases h0 : n = 0
  · have hs : ¬ s.toList = [] := fun e => h ⟨h0, (toList_nil_iff s).1 e⟩
    have hs2 : s.toList.isEmpty = false := by simpa using hs
    subst h0
    clear h
    go_enter Tryd.func78, Tryd.ntmps78
    go_wp2_with fail
    all_goals go_ret2
    all_goals exact ⟨rfl, below2 _ _⟩
  · clear h
    go_enter Tryd.func78, Tryd.ntmps78
    go_wp2_with fail
    all_goals go_ret2
    all_goals exact ⟨rfl, below2 _ _⟩

theorem bcell {W w1 : World} (hb : Below W.heap.size W w1) : (∀ b o, b < W.heap.size → w1.cell? ⟨b, o, none⟩ = W.cell? ⟨b, o, none⟩) ∧ (∀ b o, b < W.heap.size → w1.frozen? ⟨b, o, none⟩ = W.frozen? ⟨b, o, none⟩) :=
  ⟨fun b o h => hb.cell (p := ⟨b, o, none⟩) h, fun b o h => hb.frozen (p := ⟨b, o, none⟩) h⟩

mutual
theorem fm_le : ∀ (x : V) (d : Nat), x.fm = some d → d ≤ x.sz
  | .mk k n s l, d, h => by
    rw [V.fm] at h
    rw [V.sz]
    split at h
    · split at h
      · simp at h; omega
      · simp at h
    · split at h
      · split at h
        · simp at h; omega
        · simp at h
      · split at h
        · split at h
          · cases hf : fmFrom 0 l with
            | none => simp [hf] at h
            | some e => rw [hf] at h; simp at h; have := fmFrom_le l 0 e hf; omega
          · simp at h
        · simp at h
theorem fmFrom_le : ∀ (l : List V) (a d : Nat), fmFrom a l = some d → d ≤ a + szL l
  | [], a, d, h => by simp [fmFrom] at h; omega
  | x :: l, a, d, h => by
    rw [fmFrom] at h
    rw [szL]
    cases hx : x.fm with
    | none => simp [hx] at h
    | some e => simp only [hx] at h; have h1 := fm_le x e hx; have h2 := fmFrom_le l _ d h; omega
end

theorem fmFrom_step (a k : Nat) (l : List V) (hk : k < l.length) : fmFrom a (l.drop k) = match l[k].fm with | none => none | some e => fmFrom (max a e) (l.drop (k + 1)) := by
  rw [List.drop_eq_getElem_cons hk, fmFrom]
  cases l[k].fm <;> rfl

theorem ret_v {a b : Value} (h : a = b) : Ending.returned a = .returned b := by rw [h]

/-- The contract of formed, for all values with at most N parts. -/
def FormedUpTo (N : Nat) : Prop := ∀ (x : V) (v : Value) (S : Nat → Prop) (w : World), x.sz ≤ N → Rd w S x v → (∀ b, S b → b < w.heap.size) →
    Calls Tryd.prog 78 #[v] w fun e w' => e = .returned (fmRes x.fm) ∧ Below w.heap.size w w'

set_option maxHeartbeats 800000 in
theorem formed_3 (N : Nat) (ih : FormedUpTo N) (s : ByteArray) (l : List V) (A : Option Addr) (cap : Nat) (S : Nat → Prop) (w : World) (hs : s.size = 0) (hsz : (V.mk 3 0 s l).sz ≤ N + 1) (hN : N < 1000000)
    (hR : Rd w S (.mk 3 0 s l) (.agg #[.int .i64 3, .int .i64 0, .string s, .slice A l.length cap])) (hS : ∀ b, S b → b < w.heap.size) :
    Calls Tryd.prog 78 #[.agg #[.int .i64 3, .int .i64 0, .string s, .slice A l.length cap]] w fun e w' =>
      e = .returned (fmRes ((fmFrom 0 l).map (· + 1))) ∧ Below w.heap.size w w' := by
  have hs' : s.toList = [] := (toList_nil_iff s).2 hs
  have hlen : l.length < 1000001 := by have := V.sz_len (k := 3) (n := 0) (s := s) (l := l); omega
  have hIH := Lib.hid ih
  clear hs ih
  go_enter Tryd.func78, Tryd.ntmps78
  go_wp2_with fail
  generalize hw2 : (w.alloc (Obj.cells #[Value.int IntKind.i64 3, Value.int IntKind.i64 0, Value.string s, Value.slice A l.length cap] 41)).alloc (Obj.cells #[Value.bool false, Value.bool ((l.length : Int) == 0), Value.bool ((l.length : Int) == 0), Value.bool true] 122) = w2
  have hb2 : Below w.heap.size w w2 := by rw [← hw2]; exact below2 _ _
  clear hw2
  generalize hB : w.heap.size = B at *
  go_loopw [2, 57] (fun d i wr => ∃ k dd : Nat, k ≤ l.length ∧ dd ≤ 1000000 ∧ i = .int .i64 k ∧ d = .int .i64 dd ∧ fmFrom dd (l.drop k) = fmFrom 0 l ∧ Below B w wr) (fun _ i _ => l.length - (intOf i).toNat)
  case atStart => exact ⟨0, 0, by omega, by omega, rfl, rfl, rfl, hb2⟩
  case round =>
    obtain ⟨k, dd, hk, hdd, rfl, rfl, hf, hb⟩ := hrel
    by_cases hlt : k < l.length
    · obtain ⟨b, off, k', n', s', A', len', cap', rfl, hbS, h4, hR'⟩ := hR.elem k hlt
      have hbB : b < B := hS b hbS
      have HR' := Lib.hid (hR'.frame (w' := wr) (S' := S) (fun b hb' => hb.block b (hS b hb')) (fun _ h => h))
      obtain ⟨c0, c1, c2, c3⟩ := h4
      rw [← hb.cell (p := ⟨b, off + k * 4, none⟩) hbB] at c0
      rw [← hb.cell (p := ⟨b, off + k * 4 + 1, none⟩) hbB] at c1
      rw [← hb.cell (p := ⟨b, off + k * 4 + 2, none⟩) hbB] at c2
      rw [← hb.cell (p := ⟨b, off + k * 4 + 3, none⟩) hbB] at c3
      have hst := fmFrom_step dd k l hlt
      rw [hf] at hst
      have Hst := Lib.hid hst; clear hst hf hR hR'
      have hxs : l[k].sz ≤ N := by have := V.sz_mem (k := 3) (n := 0) (s := s) (List.getElem_mem hlt); omega
      have hBr : B ≤ wr.heap.size := by have := hb.size; omega
      have HC : Hid (∀ w0, Below B wr w0 → Calls Tryd.prog 78 #[.agg #[.int .i64 k', .int .i64 n', .string s', .slice A' len' cap']] w0 fun e w' => e = .returned (fmRes l[k].fm) ∧ Below w0.heap.size w0 w') :=
        Lib.hid fun w0 h0 => hIH.out l[k] _ S w0 hxs (HR'.out.frame (fun b hb' => h0.block b (hS b hb')) (fun _ h => h)) (fun b hb' => by have := hS b hb'; have := h0.size; omega)
      rcases hfm : l[k].fm with _ | e'
      · rw [hfm] at HC Hst
        have Hfm := Lib.hid hfm; clear hfm
        go_wp2_with fail
        refine (HC.out _ ((Below.refl _ _).alloc hBr _)).mono ?_
        rintro e w1 ⟨rfl, hb1⟩
        simp only [fmRes]
        go_wp2_with fail
        go_ret2
        exact ⟨by rw [Hst.out]; rfl, by rw [hB]; exact (hb.alloc hBr _).trans (hb1.mono (by simp; omega))⟩
      · rw [hfm] at HC Hst
        have he' : e' ≤ 1000000 := by have := fm_le _ _ hfm; omega
        have Hfm := Lib.hid hfm; clear hfm
        go_wp2_with fail
        refine (HC.out _ ((Below.refl _ _).alloc hBr _)).mono ?_
        rintro e w1 ⟨rfl, hb1⟩
        simp only [fmRes]
        go_wp2_with fail
        go_roundw
        case rel => exact ⟨k + 1, max dd e', by omega, by omega, by go_num, by split <;> congr 2 <;> omega, Hst.out.symm, (hb.alloc hBr _).trans (hb1.mono (by simp; omega))⟩
        case measure => simp [intOf]; omega
    · have hkl : k = l.length := by omega
      subst hkl
      have hf0 : fmFrom 0 l = some dd := by rw [← hf]; simp [fmFrom]
      have Hf0 := Lib.hid hf0; clear hf0 hf
      go_wp2_with fail
      go_ret2
      exact ⟨by rw [Hf0.out]; simp [fmRes], by rw [hB]; exact hb⟩

theorem formed_upTo (N : Nat) (hN : N ≤ 1000000) : FormedUpTo N := by
  induction N with
  | zero => intro x v S w hx; cases x; rw [V.sz_mk] at hx; omega
  | succ N ih =>
    intro x v S w hx hR hS
    obtain ⟨k, n, s, l⟩ := x
    obtain ⟨A, cap, rfl, hk, hn, hs, hl, hc, ha⟩ := hR.head
    have hl' : l.length ≤ 9223372036854775807 := by omega
    rw [V.fm]
    by_cases h1 : k = 1
    · subst h1; exact formed_1 n s A _ cap w hn hl'
    · by_cases h2 : k = 2
      · subst h2; rw [if_neg h1]; exact formed_2 n s A _ cap w hn hl'
      · by_cases h3 : k = 3
        · subst h3
          rw [if_neg h1, if_neg h2, if_pos rfl]
          by_cases h4 : n = 0 ∧ s.size = 0
          · obtain ⟨rfl, h5⟩ := h4
            rw [if_pos ⟨rfl, h5⟩]
            exact formed_3 N (ih (by omega)) s l A cap S w h5 hx (by omega) hR hS
          · rw [if_neg h4]; exact formed_3no n s A _ cap w hn hl' h4
        · rw [if_neg h1, if_neg h2, if_neg h3]; exact formed_0 k n s A _ cap w hk hn hl' (by omega)

theorem formed_any {x : V} {v : Value} {S : Nat → Prop} {w : World} (hx : x.sz ≤ 1000000) (hR : Rd w S x v) (hS : ∀ b, S b → b < w.heap.size) :
    Calls Tryd.prog 78 #[v] w fun e w' => e = .returned (fmRes x.fm) ∧ Below w.heap.size w w' := formed_upTo 1000000 (by omega) x v S w hx hR hS

end Go.Proofs.YtjhecmmbpmpmgaaDoor
