/- signatoryref01's Reader by its contracts: Value, the plain cases. -/
import Derived.Test.YtjhecmmbpmpmgaaCRefI
namespace Go.Proofs.Ytjhecmmbpmpmgaa
open Go.RowKit Go.Lib

def RValPost (R : Nat) (S : Nat → Prop) (B : List UInt8) (A : Option Addr) (cap : Nat) (y : Option (V × List UInt8)) (w : World) (e : Ending) (w' : World) : Prop :=
  w.grownBy w' (some R) ∧ match y with
    | none => ∃ k n s A' l' c', e = .returned (.agg #[.int .i64 k, .int .i64 n, .string s, .slice A' l' c']) ∧ ∃ j, RB w' R S B A cap j true
    | some (x, r) => ∃ v, e = .returned v ∧ ∃ j, r = B.drop j ∧ RB w' R S B A cap j false ∧ Rd w' (fun b => w.heap.size ≤ b) x v

theorem RValPost.no {R : Nat} {S : Nat → Prop} {B : List UInt8} {A : Option Addr} {cap j : Nat} {y : Option (V × List UInt8)} {w w' : World} {k n : Int} {s : ByteArray} {A' : Option Addr} {l' c' : Nat} (hy : y = none) (hg : w.grownBy w' (some R)) (hr : RB w' R S B A cap j true) :
    RValPost R S B A cap y w (.returned (.agg #[.int .i64 k, .int .i64 n, .string s, .slice A' l' c'])) w' := by
  subst hy; exact ⟨hg, _, _, _, _, _, _, rfl, _, hr⟩

theorem RValPost.yes {R : Nat} {S : Nat → Prop} {B : List UInt8} {A : Option Addr} {cap j : Nat} {y : Option (V × List UInt8)} {w w' : World} {x : V} {v : Value} (hy : y = some (x, B.drop j)) (hg : w.grownBy w' (some R)) (hr : RB w' R S B A cap j false) (hd : Rd w' (fun b => w.heap.size ≤ b) x v) :
    RValPost R S B A cap y w (.returned v) w' := by
  subst hy; exact ⟨hg, _, rfl, _, rfl, hr, hd⟩

/-- the result struct of a call, stored whole -/
theorem RB.four {w w' : World} {R X : Nat} {S : Nat → Prop} {B : List UInt8} {A : Option Addr} {cap i : Nat} {bad : Bool} {x0 x1 x2 x3 c0 c1 c2 c3 : Value} (h : RB w' R S B A cap i bad) (hg : w.grownBy w' (some R)) (hX : w.heap.size ≤ X) (hR : R ≠ X) (hS : ¬ S X)
    (hb : w'.heap[X]? = some (.cells #[x0, x1, x2, x3] 24 (0, 0))) :
    w.grownBy ((((w'.setCell ⟨X, 0, none⟩ c0).setCell ⟨X, 1, none⟩ c1).setCell ⟨X, 2, none⟩ c2).setCell ⟨X, 3, none⟩ c3) (some R) ∧
    RB ((((w'.setCell ⟨X, 0, none⟩ c0).setCell ⟨X, 1, none⟩ c1).setCell ⟨X, 2, none⟩ c2).setCell ⟨X, 3, none⟩ c3) R S B A cap i bad ∧
    ((((w'.setCell ⟨X, 0, none⟩ c0).setCell ⟨X, 1, none⟩ c1).setCell ⟨X, 2, none⟩ c2).setCell ⟨X, 3, none⟩ c3).heap[X]? = some (.cells #[c0, c1, c2, c3] 24 (0, 0)) := by
  refine ⟨grown_own (grown_own (grown_own (grown_own hg hX) hX) hX) hX, (((h.grown (grown_setCell' _ _ _ _) hS hR).grown (grown_setCell' _ _ _ _) hS hR).grown (grown_setCell' _ _ _ _) hS hR).grown (grown_setCell' _ _ _ _) hS hR, ?_⟩
  rw [setCell_heap (setCell_heap (setCell_heap (setCell_heap hb)))]
  rfl

theorem four_new {w w1 : World} {R : Nat} (hR : R < w.heap.size) (hg : (w.alloc (.cells #[.int .i64 0, .int .i64 0, .string ByteArray.empty, .slice none 0 0] 24)).grownBy w1 (some R)) :
    w1.heap[w.heap.size]? = some (.cells #[.int .i64 0, .int .i64 0, .string ByteArray.empty, .slice none 0 0] 24 (0, 0)) ∧ w.grownBy w1 (some R) := by
  refine ⟨?_, grown_trans (grown_below (below1 _)) hg⟩
  rw [hg.block _ (by simp) (by intro e; injection e with e; omega)]; exact heap_alloc_new _ _

theorem four_cells {w : World} {X : Nat} {x0 x1 x2 x3 : Value} (h : w.heap[X]? = some (.cells #[x0, x1, x2, x3] 24 (0, 0))) :
    w.cell? ⟨X, 0, none⟩ = some x0 ∧ w.cell? ⟨X, 1, none⟩ = some x1 ∧ w.cell? ⟨X, 2, none⟩ = some x2 ∧ w.cell? ⟨X, 3, none⟩ = some x3 ∧ ∀ o, w.frozen? ⟨X, o, none⟩ = false :=
  ⟨by rw [cell_of_row w X 0 _ _ _ h]; rfl, by rw [cell_of_row w X 1 _ _ _ h]; rfl, by rw [cell_of_row w X 2 _ _ _ h]; rfl, by rw [cell_of_row w X 3 _ _ _ h]; rfl, fun o => by simp [World.frozen?, h]⟩

set_option maxRecDepth 100000 in
set_option maxHeartbeats 800000 in
theorem rvalue_other {w : World} {R : Nat} {S : Nat → Prop} {B : List UInt8} {A : Option Addr} {cap i : Nat} (d : Nat) (h : RB w R S B A cap i false) (hS : ∀ b, S b → b < w.heap.size) (hi : i < B.length) (hc : ¬ (1 ≤ B[i].toNat ∧ B[i].toNat ≤ 3)) (f : Nat) :
    Calls Try.prog 34 #[.pointer (some ⟨R, 0, none⟩), .int .i64 d] w (RValPost R S B A cap (dec f (B.drop i)) w) := by
  have HN : Hid (∀ w0, Below w.heap.size w w0 → Calls Try.prog 48 #[.pointer (some ⟨R, 0, none⟩)] w0 fun e w' => e = .returned (.int .u8 (B[i].toNat : Int)) ∧ RB w' R S B A cap (i + 1) false ∧ w0.grownBy w' (some R)) := Lib.hid fun w0 h0 => next_some (h.below h0) hi
  have hd : dec f (B.drop i) = none := by rw [drop_cons hi]; exact dec_x _ _ _ hc
  have HD := Lib.hid hd
  have hRs : R < w.heap.size := (Array.getElem?_eq_some_iff.1 h.c).1
  generalize B[i] = c at *
  have t1 : ((c.toNat : Int) == 1) = false := by simp; omega
  have t2 : ((c.toNat : Int) == 2) = false := by simp; omega
  have t3 : ((c.toNat : Int) == 3) = false := by simp; omega
  clear hd hc h
  go_enter Try.func34, Try.ntmps34
  go_wp2_with fail
  refine (HN.out _ (below1 _)).mono ?_
  rintro e w1 ⟨rfl, hr1, hg1⟩
  obtain ⟨n1, n2⟩ := four_new hRs hg1
  obtain ⟨v0, v1, v2, v3, vf⟩ := four_cells n1
  have x2 := hr1.c2
  have xf := hr1.fz
  have Hr1 := Lib.hid hr1; have N1 := Lib.hid n1; have HS := Lib.hid hS
  clear hr1 n1 hg1 hS
  go_wp2_with fail
  have hXR : R ≠ w.heap.size := by omega
  have hXS : ¬ S w.heap.size := fun hs => by have := HS.out _ hs; omega
  have N2 : (w1.setCell ⟨R, 2, none⟩ (.bool true)).heap[w.heap.size]? = _ := (Below.heap_setCell _ _ _ _ (show w.heap.size ≠ R by omega)).trans N1.out
  obtain ⟨g5, r5, h5⟩ := RB.four (c0 := .int .i64 0) (c1 := .int .i64 0) (c2 := .string ByteArray.empty) (c3 := .slice none 0 0) Hr1.out.bad_ (grown_trans n2 (grown_setCell' _ _ _ _)) (Nat.le_refl _) hXR hXS N2
  refine bodyPost_ret (ret_cells (t := 24) rfl _ _ _ _ _ _ rfl h5 Try.underlying24 rfl Try.sizeValue) rfl ?_
  exact RValPost.no HD.out g5 r5

set_option maxRecDepth 100000 in
set_option maxHeartbeats 800000 in
theorem rvalue_end {w : World} {R : Nat} {S : Nat → Prop} {B : List UInt8} {A : Option Addr} {cap i : Nat} (d : Nat) (h : RB w R S B A cap i false) (hS : ∀ b, S b → b < w.heap.size) (hi : i = B.length) (f : Nat) :
    Calls Try.prog 34 #[.pointer (some ⟨R, 0, none⟩), .int .i64 d] w (RValPost R S B A cap (dec f (B.drop i)) w) := by
  have HN : Hid (∀ w0, Below w.heap.size w w0 → Calls Try.prog 48 #[.pointer (some ⟨R, 0, none⟩)] w0 fun e w' => e = .returned (.int .u8 0) ∧ RB w' R S B A cap i true ∧ w0.grownBy w' (some R)) := Lib.hid fun w0 h0 => next_end (h.below h0) hi
  have hd : dec f (B.drop i) = none := by rw [hi, List.drop_length]; cases f <;> rfl
  have HD := Lib.hid hd
  have hRs : R < w.heap.size := (Array.getElem?_eq_some_iff.1 h.c).1
  clear hd h hi
  go_enter Try.func34, Try.ntmps34
  go_wp2_with fail
  refine (HN.out _ (below1 _)).mono ?_
  rintro e w1 ⟨rfl, hr1, hg1⟩
  obtain ⟨n1, n2⟩ := four_new hRs hg1
  obtain ⟨v0, v1, v2, v3, vf⟩ := four_cells n1
  have x2 := hr1.c2
  have xf := hr1.fz
  have Hr1 := Lib.hid hr1; have N1 := Lib.hid n1; have HS := Lib.hid hS
  clear hr1 n1 hg1 hS
  go_wp2_with fail
  have hXR : R ≠ w.heap.size := by omega
  have hXS : ¬ S w.heap.size := fun hs => by have := HS.out _ hs; omega
  have N2 : (w1.setCell ⟨R, 2, none⟩ (.bool true)).heap[w.heap.size]? = _ := (Below.heap_setCell _ _ _ _ (show w.heap.size ≠ R by omega)).trans N1.out
  obtain ⟨g5, r5, h5⟩ := RB.four (c0 := .int .i64 0) (c1 := .int .i64 0) (c2 := .string ByteArray.empty) (c3 := .slice none 0 0) Hr1.out.bad_ (grown_trans n2 (grown_setCell' _ _ _ _)) (Nat.le_refl _) hXR hXS N2
  refine bodyPost_ret (ret_cells (t := 24) rfl _ _ _ _ _ _ rfl h5 Try.underlying24 rfl Try.sizeValue) rfl ?_
  exact RValPost.no HD.out g5 r5

set_option maxRecDepth 100000 in
set_option maxHeartbeats 800000 in
theorem rvalue_int {w : World} {R : Nat} {S : Nat → Prop} {B : List UInt8} {A : Option Addr} {cap i : Nat} (d : Nat) (h : RB w R S B A cap i false) (hS : ∀ b, S b → b < w.heap.size) (hi : i < B.length) (hc : B[i].toNat = 1) (f : Nat) :
    Calls Try.prog 34 #[.pointer (some ⟨R, 0, none⟩), .int .i64 d] w (RValPost R S B A cap (dec f (B.drop i)) w) := by
  have HN : Hid (∀ w0, Below w.heap.size w w0 → Calls Try.prog 48 #[.pointer (some ⟨R, 0, none⟩)] w0 fun e w' => e = .returned (.int .u8 1) ∧ RB w' R S B A cap (i + 1) false ∧ w0.grownBy w' (some R)) := Lib.hid fun w0 h0 => by
    have := next_some (h.below h0) hi; rw [hc] at this; exact this
  have HD : Hid (dec f (B.drop i) = (rn 0 0 (B.drop (i + 1))).map fun x => (.mk 1 (sgn x.1) ByteArray.empty [], x.2)) := Lib.hid (by rw [drop_cons hi]; exact dec_1 _ _ _ hc)
  have hRs : R < w.heap.size := (Array.getElem?_eq_some_iff.1 h.c).1
  clear h hc
  go_enter Try.func34, Try.ntmps34
  go_wp2_with fail
  refine (HN.out _ (below1 _)).mono ?_
  rintro e w1 ⟨rfl, hr1, hg1⟩
  obtain ⟨n1, n2⟩ := four_new hRs hg1
  have N1 := Lib.hid n1; have HS := Lib.hid hS; have N2 := Lib.hid n2
  have HM : Hid (Calls Try.prog 49 #[.pointer (some ⟨R, 0, none⟩)] w1 (RNumPost R S B A cap (i + 1) w1)) := Lib.hid (ref_number hr1)
  clear hr1 n1 n2 hg1 hS
  go_wp2_with fail
  refine HM.out.mono ?_
  rintro e w2 ⟨hg2, he⟩
  have n3 : w2.heap[w.heap.size]? = some (.cells #[.int .i64 0, .int .i64 0, .string ByteArray.empty, .slice none 0 0] 24 (0, 0)) := by
    rw [hg2.block _ (Array.getElem?_eq_some_iff.1 N1.out).1 (by intro e; injection e with e; omega)]; exact N1.out
  have N3 := Lib.hid n3
  obtain ⟨v0, v1, v2, v3, vf⟩ := four_cells n3
  have HG2 := Lib.hid (grown_trans N2.out hg2)
  clear n3 hg2 N2 HM HN
  have hXR : R ≠ w.heap.size := by omega
  have hXS : ¬ S w.heap.size := fun hs => by have := HS.out _ hs; omega
  cases hx : rn 0 0 (B.drop (i + 1)) with
  | none =>
    rw [hx] at he HD
    obtain ⟨rfl, j, hr2⟩ := he
    have Hr2 := Lib.hid hr2; clear hr2 hx
    go_wp2_with fail
    obtain ⟨g5, r5, h5⟩ := RB.four (c0 := .int .i64 1) (c1 := .int .i64 0) (c2 := .string ByteArray.empty) (c3 := .slice none 0 0) Hr2.out HG2.out (Nat.le_refl _) hXR hXS N3.out
    refine bodyPost_ret (ret_cells (t := 24) rfl _ _ _ _ _ _ rfl h5 Try.underlying24 rfl Try.sizeValue) rfl ?_
    exact RValPost.no HD.out g5 r5
  | some y =>
    obtain ⟨u, r⟩ := y
    rw [hx] at he HD
    obtain ⟨rfl, hu, j, rfl, hr2⟩ := he
    have Hr2 := Lib.hid hr2; clear hr2 hx
    by_cases hp : u % 2 = 1
    · have tp : (((u : Int) % 2) == 1) = true := by simp; omega
      have HSG : Hid (-((u : Int) / 2) - 1 = sgn u) := Lib.hid (by unfold sgn; rw [if_neg (by omega)])
      go_wp2_with fail
      obtain ⟨g5, r5, h5⟩ := RB.four (c0 := .int .i64 1) (c1 := .int .i64 (-((u : Int) / 2) - 1)) (c2 := .string ByteArray.empty) (c3 := .slice none 0 0) Hr2.out HG2.out (Nat.le_refl _) hXR hXS N3.out
      rw [HSG.out] at g5 r5 h5 ⊢
      refine bodyPost_ret (ret_cells (t := 24) rfl _ _ _ _ _ _ rfl h5 Try.underlying24 rfl Try.sizeValue) rfl ?_
      refine RValPost.yes HD.out g5 r5 (Rd.leaf _ _ _ _ _ ⟨by omega, by omega⟩ (sgn_ok u hu) (by decide))
    · have tp : (((u : Int) % 2) == 1) = false := by simp; omega
      have HSG : Hid ((u : Int) / 2 = sgn u) := Lib.hid (by unfold sgn; rw [if_pos (by omega)])
      go_wp2_with fail
      obtain ⟨g5, r5, h5⟩ := RB.four (c0 := .int .i64 1) (c1 := .int .i64 ((u : Int) / 2)) (c2 := .string ByteArray.empty) (c3 := .slice none 0 0) Hr2.out HG2.out (Nat.le_refl _) hXR hXS N3.out
      rw [HSG.out] at g5 r5 h5 ⊢
      refine bodyPost_ret (ret_cells (t := 24) rfl _ _ _ _ _ _ rfl h5 Try.underlying24 rfl Try.sizeValue) rfl ?_
      refine RValPost.yes HD.out g5 r5 (Rd.leaf _ _ _ _ _ ⟨by omega, by omega⟩ (sgn_ok u hu) (by decide))

end Go.Proofs.Ytjhecmmbpmpmgaa
