/- codec.formed by its contract.
   codec.formed by its contract: lists.
   codec.Check, unsigned, signed, numeral by their contracts.
   codec's writer by its contracts.
   codec's writer: lists. -/
import Derived.Test.YtjhecmmbpmpmgaaDoorProg
import Derived.Test.YtjhecmmbpmpmgaaDoorMPlain
import Derived.WalkKit
import Derived.WalkSpells
import Derived.WalkLawsBesides
import Derived.Lib.Hide
import Derived.Deep.RegionHeld3
import Derived.StillTactics
namespace Go.Proofs.YtjhecmmbpmpmgaaDoor
open Go.RowKit

def fmRes (x : Option Nat) : Value := match x with | none => .tuple #[.int .i64 0, .bool false] | some d => .tuple #[.int .i64 d, .bool true]

def FormedPost (x : V) (w : World) (e : Ending) (w' : World) : Prop := e = .returned (fmRes x.fm) ∧ Below w.heap.size w w'

theorem below1 {w : World} (o : Obj) : Below w.heap.size w (w.alloc o) := (Below.refl _ _).alloc (Nat.le_refl _) o
theorem below2 {w : World} (o o' : Obj) : Below w.heap.size w ((w.alloc o).alloc o') := (below1 o).alloc (by simp) o'

theorem toList_nil_iff (s : ByteArray) : s.toList = [] ↔ s.size = 0 := by
  rw [← List.length_eq_zero_iff]
  have : s.toList.length = s.size := by simp [ByteArray.toList_eq]
  omega

theorem len_zero_t {len : Nat} (h : (!((len : Int) == 0)) = true) : ¬ len = 0 := by intro e; subst e; simp at h
theorem len_zero_f {len : Nat} (h : (!((len : Int) == 0)) = false) : len = 0 := by simpa using h

set_option maxHeartbeats 400000 in
theorem formed_1 (n : Int) (s : ByteArray) (A : Option Addr) (len cap : Nat) (w : World) (hn : Ok n) (_hl : len ≤ 9223372036854775807) :
    Calls Tryd.prog 78 #[.agg #[.int .i64 1, .int .i64 n, .string s, .slice A len cap]] w fun e w' =>
      e = .returned (fmRes (if s.size = 0 ∧ len = 0 then some 0 else none)) ∧ Below w.heap.size w w' := by
  obtain ⟨hn0, hn1⟩ := hn
  have hiff := Lib.hid (toList_nil_iff s)
  generalize hg : fmRes (if s.size = 0 ∧ len = 0 then some 0 else none) = r
  have HG := Lib.hid hg; clear hg
  go_enter Tryd.func78, Tryd.ntmps78
  go_wp2_with fail
  all_goals go_ret2
  all_goals rw [← HG.out]
  · have h1 : s.toList = [] := by assumption
    have h2 := len_zero_t (by assumption)
    exact ⟨by rw [if_neg (by omega)]; rfl, below2 _ _⟩
  · have h1 : s.size = 0 := hiff.out.1 (by assumption)
    have h2 := len_zero_f (by assumption)
    exact ⟨by rw [if_pos ⟨h1, h2⟩]; rfl, below2 _ _⟩
  · have h1 : s.toList = [] := by assumption
    have h2 := len_zero_t (by assumption)
    exact ⟨by rw [if_neg (by omega)]; rfl, below2 _ _⟩
  · have h1 : s.size = 0 := hiff.out.1 (by assumption)
    have h2 := len_zero_f (by assumption)
    exact ⟨by rw [if_pos ⟨h1, h2⟩]; rfl, below2 _ _⟩
  all_goals
    have h1 : ¬ s.size = 0 := fun h => absurd (hiff.out.2 h) (by assumption)
    exact ⟨by rw [if_neg (by omega)]; rfl, below2 _ _⟩

set_option maxHeartbeats 400000 in
theorem formed_2 (n : Int) (s : ByteArray) (A : Option Addr) (len cap : Nat) (w : World) (hn : Ok n) (_hl : len ≤ 9223372036854775807) :
    Calls Tryd.prog 78 #[.agg #[.int .i64 2, .int .i64 n, .string s, .slice A len cap]] w fun e w' =>
      e = .returned (fmRes (if n = 0 ∧ len = 0 then some 0 else none)) ∧ Below w.heap.size w w' := by
  obtain ⟨hn0, hn1⟩ := hn
  generalize hg : fmRes (if n = 0 ∧ len = 0 then some 0 else none) = r
  have HG := Lib.hid hg; clear hg
  go_enter Tryd.func78, Tryd.ntmps78
  go_wp2_with fail
  all_goals go_ret2
  all_goals rw [← HG.out]
  all_goals first
    | exact ⟨by rw [if_neg (by have := len_zero_t (by assumption); omega)]; rfl, below2 _ _⟩
    | exact ⟨by rw [if_pos ⟨by assumption, len_zero_f (by assumption)⟩]; rfl, below2 _ _⟩
    | exact ⟨by rw [if_neg (fun h => absurd h.1 (by assumption))]; rfl, below2 _ _⟩

set_option maxHeartbeats 400000 in
theorem formed_0 (k n : Int) (s : ByteArray) (A : Option Addr) (len cap : Nat) (w : World) (hk : Ok k) (hn : Ok n) (_hl : len ≤ 9223372036854775807) (h : k < 1 ∨ 3 < k) :
    Calls Tryd.prog 78 #[.agg #[.int .i64 k, .int .i64 n, .string s, .slice A len cap]] w fun e w' =>
      e = .returned (fmRes none) ∧ Below w.heap.size w w' := by
  obtain ⟨hn0, hn1⟩ := hn
  obtain ⟨hk0, hk1⟩ := hk
  rcases h with h | h
  · go_enter Tryd.func78, Tryd.ntmps78
    go_wp2_with fail
    all_goals go_ret2
    all_goals exact ⟨rfl, below2 _ _⟩
  · go_enter Tryd.func78, Tryd.ntmps78
    go_wp2_with fail
    all_goals go_ret2
    all_goals exact ⟨rfl, below2 _ _⟩

end Go.Proofs.YtjhecmmbpmpmgaaDoor

namespace Go.Proofs.YtjhecmmbpmpmgaaDoor
open Go.RowKit

set_option maxHeartbeats 400000 in
theorem formed_3no (n : Int) (s : ByteArray) (A : Option Addr) (len cap : Nat) (w : World) (hn : Ok n) (_hl : len ≤ 9223372036854775807) (h : ¬ (n = 0 ∧ s.size = 0)) :
    Calls Tryd.prog 78 #[.agg #[.int .i64 3, .int .i64 n, .string s, .slice A len cap]] w fun e w' =>
      e = .returned (fmRes none) ∧ Below w.heap.size w w' := by
  obtain ⟨hn0, hn1⟩ := hn
  by_cases h0 : n = 0
  · have hs : ¬ s.toList = [] := fun e => h ⟨h0, (toList_nil_iff s).1 e⟩
    have hs2 : s.toList.isEmpty = false := by simpa using hs
    subst h0
    clear h
    go_enter Tryd.func78, Tryd.ntmps78
    go_wp2_with fail
    all_goals go_ret2
    all_goals exact ⟨rfl, below2 _ _⟩
  · clear h
    go_enter Tryd.func78, Tryd.ntmps78
    go_wp2_with fail
    all_goals go_ret2
    all_goals exact ⟨rfl, below2 _ _⟩

theorem bcell {W w1 : World} (hb : Below W.heap.size W w1) : (∀ b o, b < W.heap.size → w1.cell? ⟨b, o, none⟩ = W.cell? ⟨b, o, none⟩) ∧ (∀ b o, b < W.heap.size → w1.frozen? ⟨b, o, none⟩ = W.frozen? ⟨b, o, none⟩) :=
  ⟨fun b o h => hb.cell (p := ⟨b, o, none⟩) h, fun b o h => hb.frozen (p := ⟨b, o, none⟩) h⟩

mutual
theorem fm_le : ∀ (x : V) (d : Nat), x.fm = some d → d ≤ x.sz
  | .mk k n s l, d, h => by
    rw [V.fm] at h
    rw [V.sz]
    split at h
    · split at h
      · simp at h; omega
      · simp at h
    · split at h
      · split at h
        · simp at h; omega
        · simp at h
      · split at h
        · split at h
          · cases hf : fmFrom 0 l with
            | none => simp [hf] at h
            | some e => rw [hf] at h; simp at h; have := fmFrom_le l 0 e hf; omega
          · simp at h
        · simp at h
theorem fmFrom_le : ∀ (l : List V) (a d : Nat), fmFrom a l = some d → d ≤ a + szL l
  | [], a, d, h => by simp [fmFrom] at h; omega
  | x :: l, a, d, h => by
    rw [fmFrom] at h
    rw [szL]
    cases hx : x.fm with
    | none => simp [hx] at h
    | some e => simp only [hx] at h; have h1 := fm_le x e hx; have h2 := fmFrom_le l _ d h; omega
end

theorem fmFrom_step (a k : Nat) (l : List V) (hk : k < l.length) : fmFrom a (l.drop k) = match l[k].fm with | none => none | some e => fmFrom (max a e) (l.drop (k + 1)) := by
  rw [List.drop_eq_getElem_cons hk, fmFrom]
  cases l[k].fm <;> rfl

theorem ret_v {a b : Value} (h : a = b) : Ending.returned a = .returned b := by rw [h]

/-- The contract of formed, for all values with at most N parts. -/
def FormedUpTo (N : Nat) : Prop := ∀ (x : V) (v : Value) (S : Nat → Prop) (w : World), x.sz ≤ N → Rd w S x v → (∀ b, S b → b < w.heap.size) →
    Calls Tryd.prog 78 #[v] w fun e w' => e = .returned (fmRes x.fm) ∧ Below w.heap.size w w'

set_option maxHeartbeats 800000 in
theorem formed_3 (N : Nat) (ih : FormedUpTo N) (s : ByteArray) (l : List V) (A : Option Addr) (cap : Nat) (S : Nat → Prop) (w : World) (hs : s.size = 0) (hsz : (V.mk 3 0 s l).sz ≤ N + 1) (hN : N < 1000000)
    (hR : Rd w S (.mk 3 0 s l) (.agg #[.int .i64 3, .int .i64 0, .string s, .slice A l.length cap])) (hS : ∀ b, S b → b < w.heap.size) :
    Calls Tryd.prog 78 #[.agg #[.int .i64 3, .int .i64 0, .string s, .slice A l.length cap]] w fun e w' =>
      e = .returned (fmRes ((fmFrom 0 l).map (· + 1))) ∧ Below w.heap.size w w' := by
  have hs' : s.toList = [] := (toList_nil_iff s).2 hs
  have hlen : l.length < 1000001 := by have := V.sz_len (k := 3) (n := 0) (s := s) (l := l); omega
  have hIH := Lib.hid ih
  clear hs ih
  go_enter Tryd.func78, Tryd.ntmps78
  go_wp2_with fail
  generalize hw2 : (w.alloc (Obj.cells #[Value.int IntKind.i64 3, Value.int IntKind.i64 0, Value.string s, Value.slice A l.length cap] 41)).alloc (Obj.cells #[Value.bool false, Value.bool ((l.length : Int) == 0), Value.bool ((l.length : Int) == 0), Value.bool true] 122) = w2
  have hb2 : Below w.heap.size w w2 := by rw [← hw2]; exact below2 _ _
  clear hw2
  generalize hB : w.heap.size = B at *
  go_loopw [2, 57] (fun d i wr => ∃ k dd : Nat, k ≤ l.length ∧ dd ≤ 1000000 ∧ i = .int .i64 k ∧ d = .int .i64 dd ∧ fmFrom dd (l.drop k) = fmFrom 0 l ∧ Below B w wr) (fun _ i _ => l.length - (intOf i).toNat)
  case atStart => exact ⟨0, 0, by omega, by omega, rfl, rfl, rfl, hb2⟩
  case round =>
    obtain ⟨k, dd, hk, hdd, rfl, rfl, hf, hb⟩ := hrel
    by_cases hlt : k < l.length
    · obtain ⟨b, off, k', n', s', A', len', cap', rfl, hbS, h4, hR'⟩ := hR.elem k hlt
      have hbB : b < B := hS b hbS
      have HR' := Lib.hid (hR'.frame (w' := wr) (S' := S) (fun b hb' => hb.block b (hS b hb')) (fun _ h => h))
      obtain ⟨c0, c1, c2, c3⟩ := h4
      rw [← hb.cell (p := ⟨b, off + k * 4, none⟩) hbB] at c0
      rw [← hb.cell (p := ⟨b, off + k * 4 + 1, none⟩) hbB] at c1
      rw [← hb.cell (p := ⟨b, off + k * 4 + 2, none⟩) hbB] at c2
      rw [← hb.cell (p := ⟨b, off + k * 4 + 3, none⟩) hbB] at c3
      have hst := fmFrom_step dd k l hlt
      rw [hf] at hst
      have Hst := Lib.hid hst; clear hst hf hR hR'
      have hxs : l[k].sz ≤ N := by have := V.sz_mem (k := 3) (n := 0) (s := s) (List.getElem_mem hlt); omega
      have hBr : B ≤ wr.heap.size := by have := hb.size; omega
      have HC : Hid (∀ w0, Below B wr w0 → Calls Tryd.prog 78 #[.agg #[.int .i64 k', .int .i64 n', .string s', .slice A' len' cap']] w0 fun e w' => e = .returned (fmRes l[k].fm) ∧ Below w0.heap.size w0 w') :=
        Lib.hid fun w0 h0 => hIH.out l[k] _ S w0 hxs (HR'.out.frame (fun b hb' => h0.block b (hS b hb')) (fun _ h => h)) (fun b hb' => by have := hS b hb'; have := h0.size; omega)
      rcases hfm : l[k].fm with _ | e'
      · rw [hfm] at HC Hst
        have Hfm := Lib.hid hfm; clear hfm
        go_wp2_with fail
        refine (HC.out _ ((Below.refl _ _).alloc hBr _)).mono ?_
        rintro e w1 ⟨rfl, hb1⟩
        simp only [fmRes]
        go_wp2_with fail
        go_ret2
        exact ⟨by rw [Hst.out]; rfl, by rw [hB]; exact (hb.alloc hBr _).trans (hb1.mono (by simp; omega))⟩
      · rw [hfm] at HC Hst
        have he' : e' ≤ 1000000 := by have := fm_le _ _ hfm; omega
        have Hfm := Lib.hid hfm; clear hfm
        go_wp2_with fail
        refine (HC.out _ ((Below.refl _ _).alloc hBr _)).mono ?_
        rintro e w1 ⟨rfl, hb1⟩
        simp only [fmRes]
        go_wp2_with fail
        go_roundw
        case rel => exact ⟨k + 1, max dd e', by omega, by omega, by go_num, by split <;> congr 2 <;> omega, Hst.out.symm, (hb.alloc hBr _).trans (hb1.mono (by simp; omega))⟩
        case measure => simp [intOf]; omega
    · have hkl : k = l.length := by omega
      subst hkl
      have hf0 : fmFrom 0 l = some dd := by rw [← hf]; simp [fmFrom]
      have Hf0 := Lib.hid hf0; clear hf0 hf
      go_wp2_with fail
      go_ret2
      exact ⟨by rw [Hf0.out]; simp [fmRes], by rw [hB]; exact hb⟩

theorem formed_upTo (N : Nat) (hN : N ≤ 1000000) : FormedUpTo N := by
  induction N with
  | zero => intro x v S w hx; cases x; rw [V.sz_mk] at hx; omega
  | succ N ih =>
    intro x v S w hx hR hS
    obtain ⟨k, n, s, l⟩ := x
    obtain ⟨A, cap, rfl, hk, hn, hs, hl, hc, ha⟩ := hR.head
    have hl' : l.length ≤ 9223372036854775807 := by omega
    rw [V.fm]
    by_cases h1 : k = 1
    · subst h1; exact formed_1 n s A _ cap w hn hl'
    · by_cases h2 : k = 2
      · subst h2; rw [if_neg h1]; exact formed_2 n s A _ cap w hn hl'
      · by_cases h3 : k = 3
        · subst h3
          rw [if_neg h1, if_neg h2, if_pos rfl]
          by_cases h4 : n = 0 ∧ s.size = 0
          · obtain ⟨rfl, h5⟩ := h4
            rw [if_pos ⟨rfl, h5⟩]
            exact formed_3 N (ih (by omega)) s l A cap S w h5 hx (by omega) hR hS
          · rw [if_neg h4]; exact formed_3no n s A _ cap w hn hl' h4
        · rw [if_neg h1, if_neg h2, if_neg h3]; exact formed_0 k n s A _ cap w hk hn hl' (by omega)

theorem formed_any {x : V} {v : Value} {S : Nat → Prop} {w : World} (hx : x.sz ≤ 1000000) (hR : Rd w S x v) (hS : ∀ b, S b → b < w.heap.size) :
    Calls Tryd.prog 78 #[v] w fun e w' => e = .returned (fmRes x.fm) ∧ Below w.heap.size w w' := formed_upTo 1000000 (by omega) x v S w hx hR hS

end Go.Proofs.YtjhecmmbpmpmgaaDoor

namespace Go.Proofs.YtjhecmmbpmpmgaaDoor
open Go.RowKit

set_option maxHeartbeats 400000 in
theorem check_any {x : V} {v : Value} {S : Nat → Prop} {w : World} (hx : x.sz ≤ 1000000) (hR : Rd w S x v) (hS : ∀ b, S b → b < w.heap.size) :
    Calls Tryd.prog 58 #[v] w fun e w' => e = .returned (.int .i64 (ckOf x.fm)) ∧ Below w.heap.size w w' := by
  obtain ⟨k, n, s, l⟩ := x
  obtain ⟨A, cap, rfl, hk, hn, hs, hl, hc, ha⟩ := hR.head
  have HC : Hid (∀ w0, Below w.heap.size w w0 → Calls Tryd.prog 78 #[.agg #[.int .i64 k, .int .i64 n, .string s, .slice A l.length cap]] w0 fun e w' => e = .returned (fmRes (V.mk k n s l).fm) ∧ Below w0.heap.size w0 w') :=
    Lib.hid fun w0 h0 => formed_any hx (hR.frame (fun b hb' => h0.block b (hS b hb')) (fun _ h => h)) (fun b hb' => by have := hS b hb'; have := h0.size; omega)
  have hle : ∀ d, (V.mk k n s l).fm = some d → d ≤ 1000000 := fun d h => by have := fm_le _ d h; omega
  clear hR hx
  generalize (V.mk k n s l).fm = r at *
  clear hs hl hc ha hS
  cases r with
  | none =>
    go_enter Tryd.func58, Tryd.ntmps58
    go_wp2_with fail
    refine (HC.out _ (below1 _)).mono ?_
    rintro e w1 ⟨rfl, hb1⟩
    simp only [fmRes]
    go_wp2_with fail
    go_ret
    exact ⟨rfl, (below1 _).trans (hb1.mono (by simp))⟩
  | some d =>
    have hd := hle d rfl
    clear hle
    by_cases h16 : d > 16
    all_goals
      go_enter Tryd.func58, Tryd.ntmps58
      go_wp2_with fail
      refine (HC.out _ (below1 _)).mono ?_
      rintro e w1 ⟨rfl, hb1⟩
      simp only [fmRes]
      go_wp2_with fail
      go_ret
      exact ⟨by simp [ckOf, h16], (below1 _).trans (hb1.mono (by simp))⟩

set_option maxHeartbeats 400000 in
theorem unsigned_any (n : Int) (w : World) (hn : Ok n) :
    Calls Tryd.prog 81 #[.int .i64 n] w fun e w' => e = .returned (.int .u64 (unsg n)) ∧ w' = w := by
  have hu := Lib.hid (unsg_bits n hn)
  obtain ⟨h0, h1⟩ := hn
  go_enter Tryd.func81, Tryd.ntmps81
  go_wp2
  go_ret
  exact ⟨ret_v (by rw [← hu.out]; rfl), rfl⟩

theorem Tryd.infoU8 : (Tryd.prog.info? 5).map (fun i => (i.zero, i.size, i.bytes)) = some (some (.int .u8 0), 1, 1) := by kernel_rfl

/-- The contract's end of whatever writes on at a row of bytes. -/
def RowPost (xs : List UInt8) (v : Value) (w : World) (e : Ending) (w' : World) : Prop :=
  ∃ v', e = .returned v' ∧ w'.ownsRow 0 5 1 v' xs.length (bc xs) ∧ Wr w v w' v'

theorem RowPost.of {xs ys : List UInt8} {v v1 : Value} {w w1 : World} {e : Ending} {w' : World} (hw : Wr w v w1 v1) (he : xs = ys) (h : RowPost xs v1 w1 e w') : RowPost ys v w e w' := by
  subst he; obtain ⟨v', h1, h2, h3⟩ := h; exact ⟨v', h1, h2, hw.trans h3⟩

theorem own_snoc {w : World} {v : Value} {xs : List UInt8} {c : UInt8} {z : Int} (h : w.ownsRow 0 5 1 v (xs.length + 1) (bc xs ++ [.int .u8 z])) (hz : z = (c.toNat : Int)) : w.ownsRow 0 5 1 v (xs ++ [c]).length (bc (xs ++ [c])) := by
  subst hz; rw [bc_append, List.length_append]; exact h

theorem oneInt {z : Int} : ∀ u ∈ [Value.int IntKind.u8 z], u.oneCell' = true := by intro u hu; simp at hu; subst hu; rfl

set_option maxRecDepth 100000 in
set_option maxHeartbeats 400000 in
theorem numeral_any (xs : List UInt8) (v : Value) (u : Nat) (w : World) (hown : w.ownsRow 0 5 1 v xs.length (bc xs)) (hu : u < 18446744073709551616) (hx : xs.length < 1000000000000) :
    Calls Tryd.prog 80 #[v, .int .u64 u] w (RowPost (xs ++ num u) v w) := by
  obtain ⟨i0, hi, hz0, hz1, hz2⟩ := info_parts Tryd.infoU8
  have Hu := Lib.hid hu; clear hu
  have hnl := num_len u
  go_enter Tryd.func80, Tryd.ntmps80
  go_wp2
  go_loopw [0, 1] (fun b n wr => ∃ (ys : List UInt8) (m : Nat), n = .int .u64 m ∧ wr.ownsRow 0 5 1 b ys.length (bc ys) ∧ m ≤ u ∧ xs ++ num u = ys ++ num m ∧ Wr w v wr b) (fun _ i _ => (intOf i).toNat)
  case atStart => exact ⟨xs, u, rfl, hown, by omega, rfl, Wr.refl _ _⟩
  case round =>
    obtain ⟨ys, m, rfl, ho, hm, hxy, hw⟩ := hrel
    have hyl : ys.length < 2000000000000 := by have := congrArg List.length hxy; simp at this; omega
    have Hxy := Lib.hid hxy; clear hxy
    by_cases h128 : 128 ≤ m
    · go_wp2_with (at_builtin; refine wpList_app _ rfl _ _ 22 rfl 5 i0 (.int .u8 0) 1 1 Tryd.underlying22 hi hz0 hz1 hz2 rfl (by decide) _ _ _ rfl (ho.alloc _) ⟨wr.heap.size, 0, none⟩ 1 1 [.int .u8 (bits .or .u8 ((m : Int) % 256) 128)] rfl rfl (cell_one_new _ _ _) oneInt (by unfold maxLen; omega) (by omega) ?_; intro v' w' hown' hwr' _)
      go_roundw
      case rel =>
        have hh : m < 18446744073709551616 := by have := Hu.out; omega
        exact ⟨ys ++ [UInt8.ofNat (m % 128 + 128)], m / 128, rfl, own_snoc hown' (by rw [or128 m (by omega)]; rfl), by omega, by rw [Hxy.out, num_ge h128 hh]; simp, (hw.alloc _).trans hwr'⟩
      case measure => simp [intOf]; omega
    · go_wp2_with (at_builtin; refine wpList_app _ rfl _ _ 22 rfl 5 i0 (.int .u8 0) 1 1 Tryd.underlying22 hi hz0 hz1 hz2 rfl (by decide) _ _ _ rfl (ho.alloc _) ⟨wr.heap.size, 0, none⟩ 1 1 [.int .u8 (m : Int)] rfl rfl (cell_one_new _ _ _) oneInt (by unfold maxLen; omega) (by omega) ?_; intro v' w' hown' hwr' _)
      go_ret
      exact ⟨_, rfl, by rw [Hxy.out, num_lt (by omega)]; exact own_snoc hown' (by simp; omega), (hw.alloc _).trans hwr'⟩

theorem numeral_int (xs : List UInt8) (v : Value) (z : Int) (w : World) (hown : w.ownsRow 0 5 1 v xs.length (bc xs)) (h0 : 0 ≤ z) (hz : z < 18446744073709551616) (hx : xs.length < 1000000000000) :
    Calls Tryd.prog 80 #[v, .int .u64 z] w (RowPost (xs ++ num z.toNat) v w) := by
  obtain ⟨u, rfl⟩ := Int.eq_ofNat_of_zero_le h0
  exact numeral_any xs v u w hown (by omega) hx

end Go.Proofs.YtjhecmmbpmpmgaaDoor

namespace Go.Proofs.YtjhecmmbpmpmgaaDoor
open Go.RowKit Go.Lib

set_option maxRecDepth 100000 in
set_option maxHeartbeats 800000 in
theorem write_int (xs : List UInt8) (v : Value) (k n : Int) (s : ByteArray) (A : Option Addr) (len cap : Nat) (w : World) (hown : w.ownsRow 0 5 1 v xs.length (bc xs)) (hn : Ok n) (hx : xs.length < 900000000000) :
    Calls Tryd.prog 79 #[v, .agg #[.int .i64 k, .int .i64 n, .string s, .slice A len cap]] w (RowPost (xs ++ 1 :: num (unsg n).toNat) v w) := by
  obtain ⟨i0, hi, hz0, hz1, hz2⟩ := info_parts Tryd.infoU8
  have hub : 0 ≤ unsg n ∧ unsg n < 18446744073709551616 := by unfold unsg; obtain ⟨h1, h2⟩ := hn; split <;> omega
  have hblk : some w.heap.size ≠ v.ownBlock := fun e => by have := (hown.lt _ e.symm).2; omega
  have HU := Lib.hid hub; clear hub
  have HN := Lib.hid hn; clear hn
  go_enter Tryd.func79, Tryd.ntmps79
  go_wp2_with fail
  have hc1 : (w.alloc (Obj.cells #[Value.int IntKind.i64 k, Value.int IntKind.i64 n, Value.string s, Value.slice A len cap] 41)).cell? ⟨w.heap.size, 1, none⟩ = some (.int .i64 n) := by
    rw [World.cell?_alloc_at _ _ _ _ rfl]; rfl
  have ho1 := hown.alloc (Obj.cells #[Value.int IntKind.i64 k, Value.int IntKind.i64 n, Value.string s, Value.slice A len cap] 41)
  have hw1 := Wr.below (v := v) (below1 (w := w) (Obj.cells #[Value.int IntKind.i64 k, Value.int IntKind.i64 n, Value.string s, Value.slice A len cap] 41))
  have hsz : (w.alloc (Obj.cells #[Value.int IntKind.i64 k, Value.int IntKind.i64 n, Value.string s, Value.slice A len cap] 41)).heap.size = w.heap.size + 1 := by simp
  generalize hB : w.heap.size = B at *
  generalize (w.alloc (Obj.cells #[Value.int IntKind.i64 k, Value.int IntKind.i64 n, Value.string s, Value.slice A len cap] 41)) = w1 at *
  go_region_held3 (fun w' => w'.cell? ⟨B, 1, none⟩ = some (.int .i64 n)) (first | go_keep | (exact (hwr.cell (by go_keep) hblk)) | (exact hwr3.cell (hwr.cell (by go_keep) hblk) hb3))
    (first
     | (refine step_app _ (by rfl) _ _ 22 (by rfl) 5 i0 (.int .u8 0) 1 1 Tryd.underlying22 hi hz0 hz1 hz2 rfl (by decide) _ _ _ (by rfl) ((ho1.alloc _).drew) ⟨B + 1, 0, none⟩ 1 1 [.int .u8 1] (by rfl) (by rfl) (by intro j u hj; rw [← hsz]; exact cell_one_new w1.drew _ _ j u hj) oneInt (by unfold maxLen; omega) (by omega) ?_; intro v2 w2 hown2 hwr _; have hb3 := hwr.ne (k := B) (by simp; omega) hblk)
     | (go_at_call 81; refine (unsigned_any n _ HN.out).mono ?_; rintro e w' ⟨rfl, rfl⟩)
     | (go_at_call 80; refine (numeral_int (xs ++ [1]) _ _ _ (own_snoc hown2 rfl) HU.out.1 HU.out.2 (by simp; omega)).mono ?_; rintro e w3 ⟨v3, rfl, hown3, hwr3⟩))
  go_wp2
  go_ret
  exact ⟨_, rfl, by simpa using hown3, hw1.trans ((Wr.below (((Below.refl _ _).alloc (Nat.le_refl _) _).drew)).trans (hwr.trans hwr3))⟩

theorem strCells_bc (s : ByteArray) : strCells s = bc s.data.toList := rfl

set_option maxRecDepth 100000 in
set_option maxHeartbeats 800000 in
theorem write_text (xs : List UInt8) (v : Value) (k n : Int) (s : ByteArray) (A : Option Addr) (len cap : Nat) (w : World) (hown : w.ownsRow 0 5 1 v xs.length (bc xs)) (hx : xs.length + s.size < 900000000000) :
    Calls Tryd.prog 82 #[v, .agg #[.int .i64 k, .int .i64 n, .string s, .slice A len cap]] w (RowPost (xs ++ 2 :: (num s.size ++ s.data.toList)) v w) := by
  obtain ⟨i0, hi, hz0, hz1, hz2⟩ := info_parts Tryd.infoU8
  have hnl := num_len s.size
  have hblk : some w.heap.size ≠ v.ownBlock := fun e => by have := (hown.lt _ e.symm).2; omega
  have hsl : s.data.toList.length = s.size := rfl
  have HSL := Lib.hid hsl; clear hsl
  go_enter Tryd.func82, Tryd.ntmps82
  go_wp2_with fail
  have hc1 : (w.alloc (Obj.cells #[Value.int IntKind.i64 k, Value.int IntKind.i64 n, Value.string s, Value.slice A len cap] 41)).cell? ⟨w.heap.size, 2, none⟩ = some (.string s) := by
    rw [World.cell?_alloc_at _ _ _ _ rfl]; rfl
  have ho1 := hown.alloc (Obj.cells #[Value.int IntKind.i64 k, Value.int IntKind.i64 n, Value.string s, Value.slice A len cap] 41)
  have hw1 := Wr.below (v := v) (below1 (w := w) (Obj.cells #[Value.int IntKind.i64 k, Value.int IntKind.i64 n, Value.string s, Value.slice A len cap] 41))
  have hsz : (w.alloc (Obj.cells #[Value.int IntKind.i64 k, Value.int IntKind.i64 n, Value.string s, Value.slice A len cap] 41)).heap.size = w.heap.size + 1 := by simp
  generalize hB : w.heap.size = B at *
  generalize (w.alloc (Obj.cells #[Value.int IntKind.i64 k, Value.int IntKind.i64 n, Value.string s, Value.slice A len cap] 41)) = w1 at *
  go_region_held3 (fun w' => w'.cell? ⟨B, 2, none⟩ = some (.string s)) (first | go_keep | (exact (hwr.cell (by go_keep) hblk)) | (exact hwr3.cell (hwr.cell (by go_keep) hblk) hb3) | (exact hwr4.cell (hwr3.cell (hwr.cell (by go_keep) hblk) hb3) hb4))
    (first
     | (refine step_app _ (by rfl) _ _ 22 (by rfl) 5 i0 (.int .u8 0) 1 1 Tryd.underlying22 hi hz0 hz1 hz2 rfl (by decide) _ _ _ (by rfl) ((ho1.alloc _).drew) ⟨B + 1, 0, none⟩ 1 1 [.int .u8 2] (by rfl) (by rfl) (by intro j u hj; rw [← hsz]; exact cell_one_new w1.drew _ _ j u hj) oneInt (by unfold maxLen; omega) (by omega) ?_; intro v2 w2 hown2 hwr _; have hb3 := hwr.ne (k := B) (by simp; omega) hblk)
     | (refine step_app_string _ (by rfl) _ _ 22 9 (by rfl) 5 i0 Tryd.underlying22 Tryd.underlying9 hi hz0 hz1 hz2 _ _ _ (by rfl) hown3 s (by rfl) (by unfold maxLen; simp; omega) (by simp; omega) ?_; intro v4 w4 hown4 hwr4)
     | (go_at_call 80; rw [wrap_u64_len s.size (by omega)]; refine (numeral_int (xs ++ [2]) _ _ _ (own_snoc hown2 rfl) (by omega) (by omega) (by simp; omega)).mono ?_; rintro e w3 ⟨v3, rfl, hown3, hwr3⟩; rw [Int.toNat_natCast] at hown3; have hb4 := hwr3.ne (k := B) (by have := hwr.grown.size; simp at this; omega) hb3))
  go_wp2
  go_ret
  exact ⟨_, rfl, by rw [strCells_bc, ← bc_append, ← HSL.out, ← List.length_append] at hown4; simpa using hown4, hw1.trans ((Wr.below (((Below.refl _ _).alloc (Nat.le_refl _) _).drew)).trans (hwr.trans (hwr3.trans hwr4)))⟩

end Go.Proofs.YtjhecmmbpmpmgaaDoor

namespace Go.Proofs.YtjhecmmbpmpmgaaDoor
open Go.RowKit Go.Lib

/-- the writer's table, at block G, and the variable that holds it, at C -/
structure Wtr (w : World) (C G : Nat) : Prop where
  c : w.cell? ⟨C, 0, none⟩ = some (.pointer (some ⟨G, 0, none⟩))
  g1 : w.cell? ⟨G, 1, none⟩ = some (.func (.func 79) #[] #[])
  g2 : w.cell? ⟨G, 2, none⟩ = some (.func (.func 82) #[] #[])
  g3 : w.cell? ⟨G, 3, none⟩ = some (.func (.func 83) #[] #[.pointer (some ⟨C, 0, none⟩)])

theorem Wtr.frame {w w' : World} {C G : Nat} (h : Wtr w C G) (hC : w'.heap[C]? = w.heap[C]?) (hG : w'.heap[G]? = w.heap[G]?) : Wtr w' C G := by
  have e1 : ∀ o, w'.cell? ⟨C, o, none⟩ = w.cell? ⟨C, o, none⟩ := fun o => World.cell?_of_block (w := w) (a := ⟨C, o, none⟩) hC
  have e2 : ∀ o, w'.cell? ⟨G, o, none⟩ = w.cell? ⟨G, o, none⟩ := fun o => World.cell?_of_block (w := w) (a := ⟨G, o, none⟩) hG
  exact ⟨by rw [e1]; exact h.c, by rw [e2]; exact h.g1, by rw [e2]; exact h.g2, by rw [e2]; exact h.g3⟩

/-- what a writing leaves alone -/
def Apart (w : World) (S : Nat → Prop) (v : Value) : Prop := ∀ b, S b → b < w.heap.size ∧ some b ≠ v.ownBlock

theorem Apart.keep {w w' : World} {S : Nat → Prop} {v v' : Value} (h : Apart w S v) (hw : Wr w v w' v') : Apart w' S v' :=
  fun b hb => ⟨Nat.lt_of_lt_of_le (h b hb).1 hw.grown.size, hw.ne (h b hb).1 (h b hb).2⟩
theorem Apart.block {w w' : World} {S : Nat → Prop} {v v' : Value} (h : Apart w S v) (hw : Wr w v w' v') : ∀ b, S b → w'.heap[b]? = w.heap[b]? :=
  fun b hb => hw.grown.block b (h b hb).1 (h b hb).2

theorem Wtr.drew {w : World} {C G : Nat} (h : Wtr w C G) : Wtr w.drew C G := h.frame rfl rfl
theorem Apart.drew {w : World} {S : Nat → Prop} {v : Value} (h : Apart w S v) : Apart w.drew S v := h.keep (Wr.below (Below.refl _ _).drew)
theorem Rd.drew {w : World} {S : Nat → Prop} {x : V} {v : Value} (h : Rd w S x v) : Rd w.drew S x v := h.frame (fun _ _ => rfl) (fun _ h => h)

def WriteUpTo (N : Nat) : Prop := ∀ (s : ByteArray) (l : List V) (A : Option Addr) (cap : Nat) (S : Nat → Prop) (C G : Nat) (xs : List UInt8) (v : Value) (w : World),
    (V.mk 3 0 s l).sz ≤ N → fmFrom 0 l ≠ none → Rd w S (.mk 3 0 s l) (.agg #[.int .i64 3, .int .i64 0, .string s, .slice A l.length cap]) → Apart w S v → S C → S G → Wtr w C G →
    w.ownsRow 0 5 1 v xs.length (bc xs) → xs.length + (num l.length).length + (encL l).length < 800000000000 →
    Calls Tryd.prog 83 #[v, .agg #[.int .i64 3, .int .i64 0, .string s, .slice A l.length cap], .pointer (some ⟨C, 0, none⟩)] w (RowPost (xs ++ 3 :: (num l.length ++ encL l)) v w)

set_option maxRecDepth 100000 in
set_option maxHeartbeats 1600000 in
theorem write_list (N : Nat) (ih : WriteUpTo N) (hN : N < 1000000) : WriteUpTo (N + 1) := by
  intro s l A cap S C G xs v w hsz hf hR hAp hC hG hWt hown hx
  obtain ⟨i0, hi, hz0, hz1, hz2⟩ := info_parts Tryd.infoU8
  have hnl := num_len l.length
  have hlen : l.length < 1000001 := by have := V.sz_len (k := 3) (n := 0) (s := s) (l := l); omega
  have hblk : some w.heap.size ≠ v.ownBlock := fun e => by have := (hown.lt _ e.symm).2; omega
  have hIH := Lib.hid ih; clear ih
  go_enter Tryd.func83, Tryd.ntmps83
  go_wp2_with fail
  have hc1 : (w.alloc (Obj.cells #[Value.int IntKind.i64 3, Value.int IntKind.i64 0, Value.string s, Value.slice A l.length cap] 41)).cell? ⟨w.heap.size, 3, none⟩ = some (.slice A l.length cap) := by
    rw [World.cell?_alloc_at _ _ _ _ rfl]; rfl
  have ho1 := hown.alloc (Obj.cells #[Value.int IntKind.i64 3, Value.int IntKind.i64 0, Value.string s, Value.slice A l.length cap] 41)
  have hw1 := Wr.below (v := v) (below1 (w := w) (Obj.cells #[Value.int IntKind.i64 3, Value.int IntKind.i64 0, Value.string s, Value.slice A l.length cap] 41))
  have hsz1 : (w.alloc (Obj.cells #[Value.int IntKind.i64 3, Value.int IntKind.i64 0, Value.string s, Value.slice A l.length cap] 41)).heap.size = w.heap.size + 1 := by simp
  generalize hB : w.heap.size = B at *
  generalize (w.alloc (Obj.cells #[Value.int IntKind.i64 3, Value.int IntKind.i64 0, Value.string s, Value.slice A l.length cap] 41)) = w1 at *
  go_region_held3 (fun w' => w'.cell? ⟨B, 3, none⟩ = some (.slice A l.length cap)) (first | go_keep | (exact (hwr.cell (by go_keep) hblk)) | (exact hwr3.cell (hwr.cell (by go_keep) hblk) hb3))
    (first
     | (refine step_app _ (by rfl) _ _ 22 (by rfl) 5 i0 (.int .u8 0) 1 1 Tryd.underlying22 hi hz0 hz1 hz2 rfl (by decide) _ _ _ (by rfl) ((ho1.alloc _).drew) ⟨B + 1, 0, none⟩ 1 1 [.int .u8 3] (by rfl) (by rfl) (by intro j u hj; rw [← hsz1]; exact cell_one_new w1.drew _ _ j u hj) oneInt (by unfold maxLen; omega) (by omega) ?_; intro v2 w2 hown2 hwr _; have hb3 := hwr.ne (k := B) (by simp; omega) hblk)
     | (go_at_call 80; rw [wrap_u64_len l.length (by omega)]; refine (numeral_int (xs ++ [3]) _ _ _ (own_snoc hown2 rfl) (by omega) (by omega) (by simp; omega)).mono ?_; rintro e w3 ⟨v3, rfl, hown3, hwr3⟩; rw [Int.toNat_natCast] at hown3))
  have hB3 : w3.cell? ⟨B, 3, none⟩ = some (.slice A l.length cap) := by assumption
  have hWr3 : Wr w v w3 v3 := hw1.trans ((Wr.below (((Below.refl _ _).alloc (Nat.le_refl _) _).drew)).trans (hwr.trans hwr3))
  go_wp2_with fail
  clear hwr hwr3 hown2 hb3 ho1 hw1 hc1 hsz1
  go_loopw [0, 19] (fun b i wr => ∃ (k : Nat) (ys : List UInt8), k ≤ l.length ∧ i = .int .i64 k ∧ wr.ownsRow 0 5 1 b ys.length (bc ys) ∧ ys = xs ++ 3 :: (num l.length ++ encL (l.take k)) ∧ Wr w v wr b) (fun _ i _ => l.length - (intOf i).toNat)
  case atStart => exact ⟨0, _, by omega, rfl, hown3, by simp [encL], hWr3⟩
  case round =>
    obtain ⟨k, ys, hk, rfl, ho, hys, hw⟩ := hrel
    by_cases hlt : k < l.length
    · obtain ⟨b, off, k', n', s', l', A', cap', hxk, rfl, hbS, h4, hR'⟩ := hR.at k hlt
      have hbk : wr.heap[b]? = w.heap[b]? := hAp.block hw b hbS
      have HR' := hR'.frame (w' := wr) (S' := S) (hAp.block hw) (fun _ h => h)
      have hWt' := hWt.frame (hAp.block hw C hC) (hAp.block hw G hG)
      have hAp' := hAp.keep hw
      obtain ⟨c0, c1, c2, c3⟩ := h4
      rw [← World.cell?_of_block (w := w) (a := ⟨b, off + k * 4, none⟩) hbk] at c0
      rw [← World.cell?_of_block (w := w) (a := ⟨b, off + k * 4 + 1, none⟩) hbk] at c1
      rw [← World.cell?_of_block (w := w) (a := ⟨b, off + k * 4 + 2, none⟩) hbk] at c2
      rw [← World.cell?_of_block (w := w) (a := ⟨b, off + k * 4 + 3, none⟩) hbk] at c3
      have hml := enc_mem_le l k hlt
      have hfk := fmFrom_mem l 0 k hlt hf
      have hys' : ys ++ l[k].enc = xs ++ 3 :: (num l.length ++ encL (l.take (k + 1))) := by rw [hys, encL_take_succ l k hlt]; simp
      have hyl : ys.length + l[k].enc.length < 900000000000 := by
        have := congrArg List.length hys'; simp at this ⊢
        have := encL_take_le l (k + 1); omega
      have hxs : l[k].sz ≤ N := by have := V.sz_mem (k := 3) (n := 0) (s := s) (List.getElem_mem hlt); omega
      have hys3 : ys.length + l[k].enc.length ≤ xs.length + 1 + (num l.length).length + (encL l).length := by
        have := congrArg List.length hys'; simp at this ⊢
        have := encL_take_le l (k + 1); omega
      rw [hxk] at hml hfk hys' hyl hxs hys3
      have Hys := Lib.hid hys; have Hys' := Lib.hid hys'; have Hxk := Lib.hid hxk; have Hfk := Lib.hid hfk
      clear hys hys' hxk hfk hR hWt hR'
      obtain ⟨_, _, _, _, hn', hs', _⟩ := HR'.head
      have Hn' := Lib.hid hn'; clear hn'
      rcases fm_kind Hfk.out with hkind | hkind | hkind
      · obtain ⟨rfl, -, -⟩ := hkind
        go_wp2_with fail
        have hX : (wr.alloc (Obj.cells #[Value.int IntKind.i64 1, Value.int IntKind.i64 n', Value.string s', Value.slice A' l'.length cap'] 41)).heap[wr.heap.size]? = some (.cells #[Value.int IntKind.i64 1, Value.int IntKind.i64 n', Value.string s', Value.slice A' l'.length cap'] 41) := heap_alloc_new _ _
        have hbl := Wr.below (v := u0) (below1 (w := wr) (Obj.cells #[Value.int IntKind.i64 1, Value.int IntKind.i64 n', Value.string s', Value.slice A' l'.length cap'] 41))
        have hob := ho.alloc (Obj.cells #[Value.int IntKind.i64 1, Value.int IntKind.i64 n', Value.string s', Value.slice A' l'.length cap'] 41)
        have hWt2 := hWt'.frame (hAp'.block hbl C hC) (hAp'.block hbl G hG)
        have HR2 := HR'.frame (w' := _) (S' := S) (hAp'.block hbl) (fun _ h => h)
        have hAp2 := hAp'.keep hbl
        have hWt2d := hWt2.drew
        have hAp2d := hAp2.drew
        have HR2d := HR2.drew
        obtain ⟨q0, q1, q2, q3⟩ := hWt2
        have hCn := (hAp' C hC).2
        have hGn := (hAp' G hG).2
        have hXn : some wr.heap.size ≠ u0.ownBlock := fun e => by have := (ho.lt _ e.symm).2; omega
        generalize (wr.alloc (Obj.cells #[Value.int IntKind.i64 1, Value.int IntKind.i64 n', Value.string s', Value.slice A' l'.length cap'] 41)) = wb at *
        generalize wr.heap.size = X at *
        have x0 : wb.cell? ⟨X, 0, none⟩ = some (Value.int IntKind.i64 1) := by rw [cell_of_row wb X 0 _ _ _ hX]; rfl
        have x1 : wb.cell? ⟨X, 1, none⟩ = some (Value.int IntKind.i64 n') := by rw [cell_of_row wb X 1 _ _ _ hX]; rfl
        have x2 : wb.cell? ⟨X, 2, none⟩ = some (Value.string s') := by rw [cell_of_row wb X 2 _ _ _ hX]; rfl
        have x3 : wb.cell? ⟨X, 3, none⟩ = some (Value.slice A' l'.length cap') := by rw [cell_of_row wb X 3 _ _ _ hX]; rfl
        go_region_held3 (fun w' => w'.cell? ⟨C, 0, none⟩ = some (.pointer (some ⟨G, 0, none⟩)) ∧ w'.cell? ⟨G, 1, none⟩ = some (.func (.func 79) #[] #[]) ∧ w'.cell? ⟨X, 0, none⟩ = some (Value.int IntKind.i64 1) ∧ w'.cell? ⟨X, 1, none⟩ = some (Value.int IntKind.i64 n') ∧
            w'.cell? ⟨X, 2, none⟩ = some (Value.string s') ∧ w'.cell? ⟨X, 3, none⟩ = some (Value.slice A' l'.length cap'))
          (first | go_keep | (exact ⟨hwr4.cell (by go_keep) hCn, hwr4.cell (by go_keep) hGn, hwr4.cell (by go_keep) hXn, hwr4.cell (by go_keep) hXn, hwr4.cell (by go_keep) hXn, hwr4.cell (by go_keep) hXn⟩))
          (first | (go_at_call 79; refine (write_int ys u0 _ n' s' A' _ cap' _ (hob.drew) Hn'.out (by omega)).mono ?_; rintro e w4 ⟨v4, rfl, hown4, hwr4⟩))
        go_wp2
        go_roundw
        case rel => exact ⟨k + 1, _, by omega, by go_num, hown4, by rw [← Hys'.out]; congr 1, hw.trans (hbl.trans ((Wr.below (Below.refl _ _).drew).trans hwr4))⟩
        case measure => simp [intOf]; omega
      · obtain ⟨rfl, -, -⟩ := hkind
        have hbd : ys.length + s'.size < 900000000000 := by simp [V.enc] at hyl; omega
        go_wp2_with fail
        have hX : (wr.alloc (Obj.cells #[Value.int IntKind.i64 2, Value.int IntKind.i64 n', Value.string s', Value.slice A' l'.length cap'] 41)).heap[wr.heap.size]? = some (.cells #[Value.int IntKind.i64 2, Value.int IntKind.i64 n', Value.string s', Value.slice A' l'.length cap'] 41) := heap_alloc_new _ _
        have hbl := Wr.below (v := u0) (below1 (w := wr) (Obj.cells #[Value.int IntKind.i64 2, Value.int IntKind.i64 n', Value.string s', Value.slice A' l'.length cap'] 41))
        have hob := ho.alloc (Obj.cells #[Value.int IntKind.i64 2, Value.int IntKind.i64 n', Value.string s', Value.slice A' l'.length cap'] 41)
        have hWt2 := hWt'.frame (hAp'.block hbl C hC) (hAp'.block hbl G hG)
        have HR2 := HR'.frame (w' := _) (S' := S) (hAp'.block hbl) (fun _ h => h)
        have hAp2 := hAp'.keep hbl
        have hWt2d := hWt2.drew
        have hAp2d := hAp2.drew
        have HR2d := HR2.drew
        obtain ⟨q0, q1, q2, q3⟩ := hWt2
        have hCn := (hAp' C hC).2
        have hGn := (hAp' G hG).2
        have hXn : some wr.heap.size ≠ u0.ownBlock := fun e => by have := (ho.lt _ e.symm).2; omega
        generalize (wr.alloc (Obj.cells #[Value.int IntKind.i64 2, Value.int IntKind.i64 n', Value.string s', Value.slice A' l'.length cap'] 41)) = wb at *
        generalize wr.heap.size = X at *
        have x0 : wb.cell? ⟨X, 0, none⟩ = some (Value.int IntKind.i64 2) := by rw [cell_of_row wb X 0 _ _ _ hX]; rfl
        have x1 : wb.cell? ⟨X, 1, none⟩ = some (Value.int IntKind.i64 n') := by rw [cell_of_row wb X 1 _ _ _ hX]; rfl
        have x2 : wb.cell? ⟨X, 2, none⟩ = some (Value.string s') := by rw [cell_of_row wb X 2 _ _ _ hX]; rfl
        have x3 : wb.cell? ⟨X, 3, none⟩ = some (Value.slice A' l'.length cap') := by rw [cell_of_row wb X 3 _ _ _ hX]; rfl
        go_region_held3 (fun w' => w'.cell? ⟨C, 0, none⟩ = some (.pointer (some ⟨G, 0, none⟩)) ∧ w'.cell? ⟨G, 2, none⟩ = some (.func (.func 82) #[] #[]) ∧ w'.cell? ⟨X, 0, none⟩ = some (Value.int IntKind.i64 2) ∧ w'.cell? ⟨X, 1, none⟩ = some (Value.int IntKind.i64 n') ∧
            w'.cell? ⟨X, 2, none⟩ = some (Value.string s') ∧ w'.cell? ⟨X, 3, none⟩ = some (Value.slice A' l'.length cap'))
          (first | go_keep | (exact ⟨hwr4.cell (by go_keep) hCn, hwr4.cell (by go_keep) hGn, hwr4.cell (by go_keep) hXn, hwr4.cell (by go_keep) hXn, hwr4.cell (by go_keep) hXn, hwr4.cell (by go_keep) hXn⟩))
          (first | (go_at_call 82; refine (write_text ys u0 _ n' s' A' _ cap' _ (hob.drew) hbd).mono ?_; rintro e w4 ⟨v4, rfl, hown4, hwr4⟩))
        go_wp2
        go_roundw
        case rel => exact ⟨k + 1, _, by omega, by go_num, hown4, by rw [← Hys'.out]; congr 1, hw.trans (hbl.trans ((Wr.below (Below.refl _ _).drew).trans hwr4))⟩
        case measure => simp [intOf]; omega
      · obtain ⟨rfl, rfl, hs0, hfl⟩ := hkind
        have Hfl := Lib.hid hfl; clear hfl
        have hbd : ys.length + (num l'.length).length + (encL l').length < 800000000000 := by simp [V.enc] at hys3; omega
        go_wp2_with fail
        have hX : (wr.alloc (Obj.cells #[Value.int IntKind.i64 3, Value.int IntKind.i64 0, Value.string s', Value.slice A' l'.length cap'] 41)).heap[wr.heap.size]? = some (.cells #[Value.int IntKind.i64 3, Value.int IntKind.i64 0, Value.string s', Value.slice A' l'.length cap'] 41) := heap_alloc_new _ _
        have hbl := Wr.below (v := u0) (below1 (w := wr) (Obj.cells #[Value.int IntKind.i64 3, Value.int IntKind.i64 0, Value.string s', Value.slice A' l'.length cap'] 41))
        have hob := ho.alloc (Obj.cells #[Value.int IntKind.i64 3, Value.int IntKind.i64 0, Value.string s', Value.slice A' l'.length cap'] 41)
        have hWt2 := hWt'.frame (hAp'.block hbl C hC) (hAp'.block hbl G hG)
        have HR2 := HR'.frame (w' := _) (S' := S) (hAp'.block hbl) (fun _ h => h)
        have hAp2 := hAp'.keep hbl
        have hWt2d := hWt2.drew
        have hAp2d := hAp2.drew
        have HR2d := HR2.drew
        obtain ⟨q0, q1, q2, q3⟩ := hWt2
        have hCn := (hAp' C hC).2
        have hGn := (hAp' G hG).2
        have hXn : some wr.heap.size ≠ u0.ownBlock := fun e => by have := (ho.lt _ e.symm).2; omega
        generalize (wr.alloc (Obj.cells #[Value.int IntKind.i64 3, Value.int IntKind.i64 0, Value.string s', Value.slice A' l'.length cap'] 41)) = wb at *
        generalize wr.heap.size = X at *
        have x0 : wb.cell? ⟨X, 0, none⟩ = some (Value.int IntKind.i64 3) := by rw [cell_of_row wb X 0 _ _ _ hX]; rfl
        have x1 : wb.cell? ⟨X, 1, none⟩ = some (Value.int IntKind.i64 0) := by rw [cell_of_row wb X 1 _ _ _ hX]; rfl
        have x2 : wb.cell? ⟨X, 2, none⟩ = some (Value.string s') := by rw [cell_of_row wb X 2 _ _ _ hX]; rfl
        have x3 : wb.cell? ⟨X, 3, none⟩ = some (Value.slice A' l'.length cap') := by rw [cell_of_row wb X 3 _ _ _ hX]; rfl
        go_region_held3 (fun w' => w'.cell? ⟨C, 0, none⟩ = some (.pointer (some ⟨G, 0, none⟩)) ∧ w'.cell? ⟨G, 3, none⟩ = some (.func (.func 83) #[] #[.pointer (some ⟨C, 0, none⟩)]) ∧ w'.cell? ⟨X, 0, none⟩ = some (Value.int IntKind.i64 3) ∧ w'.cell? ⟨X, 1, none⟩ = some (Value.int IntKind.i64 0) ∧
            w'.cell? ⟨X, 2, none⟩ = some (Value.string s') ∧ w'.cell? ⟨X, 3, none⟩ = some (Value.slice A' l'.length cap'))
          (first | go_keep | (exact ⟨hwr4.cell (by go_keep) hCn, hwr4.cell (by go_keep) hGn, hwr4.cell (by go_keep) hXn, hwr4.cell (by go_keep) hXn, hwr4.cell (by go_keep) hXn, hwr4.cell (by go_keep) hXn⟩))
          (first | (go_at_call 83; refine (hIH.out s' l' A' cap' S C G ys u0 _ hxs Hfl.out HR2d hAp2d hC hG hWt2d (hob.drew) hbd).mono ?_; rintro e w4 ⟨v4, rfl, hown4, hwr4⟩))
        go_wp2
        go_roundw
        case rel => exact ⟨k + 1, _, by omega, by go_num, hown4, by rw [← Hys'.out]; congr 1, hw.trans (hbl.trans ((Wr.below (Below.refl _ _).drew).trans hwr4))⟩
        case measure => simp [intOf]; omega
    · have hkl : k = l.length := by omega
      subst hkl
      rw [List.take_length] at hys
      subst hys
      go_wp2_with fail
      go_ret
      exact ⟨_, rfl, ho, hw⟩

theorem write_upTo (N : Nat) (hN : N ≤ 1000000) : WriteUpTo N := by
  induction N with
  | zero => intro s l A cap S C G xs v w hsz; rw [V.sz_mk] at hsz; omega
  | succ N ih => exact write_list N (ih (by omega)) (by omega)

end Go.Proofs.YtjhecmmbpmpmgaaDoor
