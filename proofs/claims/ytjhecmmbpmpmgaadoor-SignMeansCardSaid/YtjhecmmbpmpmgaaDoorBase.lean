/- Plain words of this seat's proofs: the codec's values as a Lean type, and how they lie in memory. -/
import Derived.WalkKit
namespace Go.Proofs.YtjhecmmbpmpmgaaDoor
open Go.RowKit

/-- A value of the codec as data. -/
inductive V where
  | mk (k n : Int) (s : ByteArray) (l : List V)

mutual
/-- how many values there are in a value -/
def V.sz : V → Nat
  | .mk _ _ _ l => 1 + szL l
def szL : List V → Nat
  | [] => 0
  | x :: l => x.sz + szL l
end

theorem V.sz_mk (k n : Int) (s : ByteArray) (l : List V) : (V.mk k n s l).sz = 1 + (l.map V.sz).sum := by
  rw [V.sz]; congr 1
  induction l with
  | nil => rfl
  | cons x l ih => rw [szL, ih]; rfl

theorem V.sz_mem {k n : Int} {s : ByteArray} {l : List V} {x : V} (h : x ∈ l) : x.sz < (V.mk k n s l).sz := by
  rw [V.sz_mk]
  have : x.sz ≤ (l.map V.sz).sum := by
    induction l with
    | nil => cases h
    | cons y l ih =>
      rcases List.mem_cons.1 h with rfl | h
      · simp
      · have := ih h; simp; omega
  omega

theorem V.sz_len {k n : Int} {s : ByteArray} {l : List V} : l.length < (V.mk k n s l).sz := by
  rw [V.sz_mk]
  have : l.length ≤ (l.map V.sz).sum := by
    induction l with
    | nil => simp
    | cons y l ih =>
      have : 1 ≤ y.sz := by cases y; rw [V.sz_mk]; omega
      simp; omega
  omega

/-- an int of 64 bits -/
def Ok (n : Int) : Prop := -9223372036854775808 ≤ n ∧ n ≤ 9223372036854775807

/-- a struct of four cells at a place -/
def Four (w : World) (b o : Nat) (c0 c1 c2 c3 : Value) : Prop :=
  w.cell? ⟨b, o, none⟩ = some c0 ∧ w.cell? ⟨b, o + 1, none⟩ = some c1 ∧ w.cell? ⟨b, o + 2, none⟩ = some c2 ∧ w.cell? ⟨b, o + 3, none⟩ = some c3

def FourV (w : World) (b o : Nat) : Value → Prop
  | .agg ⟨[c0, c1, c2, c3]⟩ => Four w b o c0 c1 c2 c3
  | _ => False

/-- The value v reads as x; all that is met lies in blocks of S. -/
inductive Rd (w : World) (S : Nat → Prop) : V → Value → Prop where
  | mk {k n : Int} {s : ByteArray} {l : List V} {A : Option Addr} {cap : Nat} (vs : Nat → Value)
      (hk : Ok k) (hn : Ok n) (hs : s.size ≤ 9223372036854775807) (hl : l.length ≤ cap) (hc : cap ≤ 9223372036854775807)
      (ha : 0 < l.length → ∃ b off, A = some ⟨b, off, none⟩ ∧ S b)
      (hcells : ∀ i b off, i < l.length → A = some ⟨b, off, none⟩ → FourV w b (off + i * 4) (vs i))
      (hrec : ∀ i (h : i < l.length), Rd w S l[i] (vs i)) :
      Rd w S (.mk k n s l) (.agg #[.int .i64 k, .int .i64 n, .string s, .slice A l.length cap])

theorem Rd.frame {w w' : World} {S S' : Nat → Prop} {x : V} {v : Value} (h : Rd w S x v) (hw : ∀ b, S b → w'.heap[b]? = w.heap[b]?) (hS : ∀ b, S b → S' b) : Rd w' S' x v := by
  induction h with
  | mk vs hk hn hs hl hc ha hcells hrec ih =>
    refine .mk vs hk hn hs hl hc (fun h => ?_) (fun i b off hi hA => ?_) ih
    · obtain ⟨b, off, e, hb⟩ := ha h
      exact ⟨b, off, e, hS b hb⟩
    · have h4 := hcells i b off hi hA
      obtain ⟨b', off', e', hb'⟩ := ha (by omega)
      have : b' = b := by rw [hA] at e'; injection e' with e'; injection e' with e1; exact e1.symm
      subst this
      have hc : ∀ o, w'.cell? ⟨b', o, none⟩ = w.cell? ⟨b', o, none⟩ := fun o => World.cell?_of_block (w := w) (a := ⟨b', o, none⟩) (hw b' hb')
      revert h4
      unfold FourV
      split
      · unfold Four
        simp only [hc]
        exact id
      · exact id

theorem FourV.lt {w : World} {b o : Nat} {v : Value} (h : FourV w b o v) : b < w.heap.size := by
  unfold FourV at h
  split at h
  · exact World.block_lt_of_cell? w _ h.1
  · exact h.elim

theorem Rd.bound {w : World} {S : Nat → Prop} {x : V} {v : Value} (h : Rd w S x v) : Rd w (fun b => S b ∧ b < w.heap.size) x v := by
  induction h with
  | mk vs hk hn hs hl hc ha hcells hrec ih =>
    refine .mk vs hk hn hs hl hc (fun h => ?_) hcells ih
    obtain ⟨b, off, e, hb⟩ := ha h
    exact ⟨b, off, e, hb, (hcells 0 b off h e).lt⟩

/-- An element of a list, laid open. -/
theorem Rd.elem {w : World} {S : Nat → Prop} {k n : Int} {s : ByteArray} {l : List V} {A : Option Addr} {len cap : Nat}
    (h : Rd w S (.mk k n s l) (.agg #[.int .i64 k, .int .i64 n, .string s, .slice A len cap])) (i : Nat) (hi : i < l.length) :
    ∃ b off k' n' s' A' len' cap', A = some ⟨b, off, none⟩ ∧ S b ∧ Four w b (off + i * 4) (.int .i64 k') (.int .i64 n') (.string s') (.slice A' len' cap') ∧
      Rd w S l[i] (.agg #[.int .i64 k', .int .i64 n', .string s', .slice A' len' cap']) := by
  cases h with
  | mk vs hk hn hs hl hc ha hcells hrec =>
    obtain ⟨b, off, e, hb⟩ := ha (by omega)
    have h4 := hcells i b off hi e
    have hr := hrec i hi
    generalize hv : vs i = v at h4 hr
    generalize l[i] = x at hr
    cases hr with
    | @mk k' n' s' l' A' cap' vs' hk' hn' hs' hl' hc' ha' hcells' hrec' =>
      refine ⟨b, off, k', n', s', A', l'.length, cap', e, hb, h4, .mk vs' hk' hn' hs' hl' hc' ha' hcells' hrec'⟩

theorem Rd.at {w : World} {S : Nat → Prop} {k n : Int} {s : ByteArray} {l : List V} {A : Option Addr} {len cap : Nat}
    (h : Rd w S (.mk k n s l) (.agg #[.int .i64 k, .int .i64 n, .string s, .slice A len cap])) (i : Nat) (hi : i < l.length) :
    ∃ b off k' n' s' l' A' cap', l[i] = .mk k' n' s' l' ∧ A = some ⟨b, off, none⟩ ∧ S b ∧ Four w b (off + i * 4) (.int .i64 k') (.int .i64 n') (.string s') (.slice A' l'.length cap') ∧
      Rd w S (.mk k' n' s' l') (.agg #[.int .i64 k', .int .i64 n', .string s', .slice A' l'.length cap']) := by
  cases h with
  | mk vs hk hn hs hl hc ha hcells hrec =>
    obtain ⟨b, off, e, hb⟩ := ha (by omega)
    have h4 := hcells i b off hi e
    have hr := hrec i hi
    generalize hv : vs i = v at h4 hr
    generalize l[i] = x at hr
    cases hr with
    | @mk k' n' s' l' A' cap' vs' hk' hn' hs' hl' hc' ha' hcells' hrec' =>
      exact ⟨b, off, k', n', s', l', A', cap', rfl, e, hb, h4, .mk vs' hk' hn' hs' hl' hc' ha' hcells' hrec'⟩

theorem Rd.head {w : World} {S : Nat → Prop} {k n : Int} {s : ByteArray} {l : List V} {v : Value} (h : Rd w S (.mk k n s l) v) :
    ∃ A cap, v = .agg #[.int .i64 k, .int .i64 n, .string s, .slice A l.length cap] ∧ Ok k ∧ Ok n ∧ s.size ≤ 9223372036854775807 ∧ l.length ≤ cap ∧ cap ≤ 9223372036854775807 ∧
      (0 < l.length → ∃ b off, A = some ⟨b, off, none⟩ ∧ S b) := by
  cases h with
  | mk vs hk hn hs hl hc ha hcells hrec => exact ⟨_, _, rfl, hk, hn, hs, hl, hc, ha⟩

mutual
/-- is a value well-formed, and how deep is it -/
def V.fm : V → Option Nat
  | .mk k n s l =>
    if k = 1 then (if s.size = 0 ∧ l.length = 0 then some 0 else none)
    else if k = 2 then (if n = 0 ∧ l.length = 0 then some 0 else none)
    else if k = 3 then (if n = 0 ∧ s.size = 0 then (fmFrom 0 l).map (· + 1) else none)
    else none
def fmFrom (d : Nat) : List V → Option Nat
  | [] => some d
  | x :: l => match x.fm with | none => none | some e => fmFrom (max d e) l
end

end Go.Proofs.YtjhecmmbpmpmgaaDoor
