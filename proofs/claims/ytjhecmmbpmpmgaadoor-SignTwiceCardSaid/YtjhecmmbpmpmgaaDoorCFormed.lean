/- codec.formed by its contract. -/
import Derived.Test.YtjhecmmbpmpmgaaDoorProg
import Derived.Test.YtjhecmmbpmpmgaaDoorBase
import Derived.WalkKit
import Derived.WalkSpells
import Derived.WalkLawsBesides
import Derived.Lib.Hide
namespace Go.Proofs.YtjhecmmbpmpmgaaDoor
open Go.RowKit

def fmRes (x : Option Nat) : Value := match x with | none => .tuple #[.int .i64 0, .bool false] | some d => .tuple #[.int .i64 d, .bool true]

def FormedPost (x : V) (w : World) (e : Ending) (w' : World) : Prop := e = .returned (fmRes x.fm) ∧ Below w.heap.size w w'

theorem below1 {w : World} (o : Obj) : Below w.heap.size w (w.alloc o) := (Below.refl _ _).alloc (Nat.le_refl _) o
theorem below2 {w : World} (o o' : Obj) : Below w.heap.size w ((w.alloc o).alloc o') := (below1 o).alloc (by simp) o'

theorem toList_nil_iff (s : ByteArray) : s.toList = [] ↔ s.size = 0 := by
  rw [← List.length_eq_zero_iff]
  have : s.toList.length = s.size := by simp [ByteArray.toList_eq]
  omega

theorem len_zero_t {len : Nat} (h : (!((len : Int) == 0)) = true) : ¬ len = 0 := by intro e; subst e; simp at h
theorem len_zero_f {len : Nat} (h : (!((len : Int) == 0)) = false) : len = 0 := by simpa using h

set_option maxHeartbeats 400000 in
theorem formed_1 (n : Int) (s : ByteArray) (A : Option Addr) (len cap : Nat) (w : World) (hn : Ok n) (_hl : len ≤ 9223372036854775807) :
    Calls Tryd.prog 78 #[.agg #[.int .i64 1, .int .i64 n, .string s, .slice A len cap]] w fun e w' =>
      e = .returned (fmRes (if s.size = 0 ∧ len = 0 then some 0 else none)) ∧ Below w.heap.size w w' := by
  obtain ⟨hn0, hn1⟩ := hn
  have hiff := Lib.hid (toList_nil_iff s)
  generalize hg : fmRes (if s.size = 0 ∧ len = 0 then some 0 else none) = r
  have HG := Lib.hid hg; clear hg
  go_enter Tryd.func78, Tryd.ntmps78
  go_wp2_with fail
  all_goals go_ret2
  all_goals rw [← HG.out]
  · have h1 : s.toList = [] := by assumption
    have h2 := len_zero_t (by assumption)
    exact ⟨by rw [if_neg (by omega)]; rfl, below2 _ _⟩
  · have h1 : s.size = 0 := hiff.out.1 (by assumption)
    have h2 := len_zero_f (by assumption)
    exact ⟨by rw [if_pos ⟨h1, h2⟩]; rfl, below2 _ _⟩
  · have h1 : s.toList = [] := by assumption
    have h2 := len_zero_t (by assumption)
    exact ⟨by rw [if_neg (by omega)]; rfl, below2 _ _⟩
  · have h1 : s.size = 0 := hiff.out.1 (by assumption)
    have h2 := len_zero_f (by assumption)
    exact ⟨by rw [if_pos ⟨h1, h2⟩]; rfl, below2 _ _⟩
  all_goals
    have h1 : ¬ s.size = 0 := fun h => absurd (hiff.out.2 h) (by assumption)
    exact ⟨by rw [if_neg (by omega)]; rfl, below2 _ _⟩

set_option maxHeartbeats 400000 in
theorem formed_2 (n : Int) (s : ByteArray) (A : Option Addr) (len cap : Nat) (w : World) (hn : Ok n) (_hl : len ≤ 9223372036854775807) :
    Calls Tryd.prog 78 #[.agg #[.int .i64 2, .int .i64 n, .string s, .slice A len cap]] w fun e w' =>
      e = .returned (fmRes (if n = 0 ∧ len = 0 then some 0 else none)) ∧ Below w.heap.size w w' := by
  obtain ⟨hn0, hn1⟩ := hn
  generalize hg : fmRes (if n = 0 ∧ len = 0 then some 0 else none) = r
  have HG := Lib.hid hg; clear hg
  go_enter Tryd.func78, Tryd.ntmps78
  go_wp2_with fail
  all_goals go_ret2
  all_goals rw [← HG.out]
  all_goals first
    | exact ⟨by rw [if_neg (by have := len_zero_t (by assumption); omega)]; rfl, below2 _ _⟩
    | exact ⟨by rw [if_pos ⟨by assumption, len_zero_f (by assumption)⟩]; rfl, below2 _ _⟩
    | exact ⟨by rw [if_neg (fun h => absurd h.1 (by assumption))]; rfl, below2 _ _⟩

set_option maxHeartbeats 400000 in
theorem formed_0 (k n : Int) (s : ByteArray) (A : Option Addr) (len cap : Nat) (w : World) (hk : Ok k) (hn : Ok n) (_hl : len ≤ 9223372036854775807) (h : k < 1 ∨ 3 < k) :
    Calls Tryd.prog 78 #[.agg #[.int .i64 k, .int .i64 n, .string s, .slice A len cap]] w fun e w' =>
      e = .returned (fmRes none) ∧ Below w.heap.size w w' := by
  obtain ⟨hn0, hn1⟩ := hn
  obtain ⟨hk0, hk1⟩ := hk
  rcases h with h | h
  · go_enter Tryd.func78, Tryd.ntmps78
    go_wp2_with fail
    all_goals go_ret2
    all_goals exact ⟨rfl, below2 _ _⟩
  · go_enter Tryd.func78, Tryd.ntmps78
    go_wp2_with fail
    all_goals go_ret2
    all_goals exact ⟨rfl, below2 _ _⟩

end Go.Proofs.YtjhecmmbpmpmgaaDoor
