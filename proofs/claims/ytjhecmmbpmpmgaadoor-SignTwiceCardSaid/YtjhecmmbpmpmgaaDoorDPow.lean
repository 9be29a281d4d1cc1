/- group's squares and Pow by their contracts. -/
import Derived.Test.YtjhecmmbpmpmgaaDoorDGrp2
import Derived.Test.YtjhecmmbpmpmgaaDoorDRange
namespace Go.Proofs.YtjhecmmbpmpmgaaDoor
open Go.RowKit Go.Lib Go.Shelf

/-- one square of the row, with its bit -/
structure Sq where
  v : Nat
  b : Bool
  lt : v < 2147483579

def sqF : Nat → Nat → Nat → List Sq
  | 0, _, _ => []
  | f + 1, a, n => if n = 0 then [] else ⟨a % 2147483579, (n : Int) % 2 == 1, Nat.mod_lt _ (by decide)⟩ :: sqF f (a * a % 2147483579) (n / 2)

def powStep (c : Nat) (x : Sq) : Nat := if x.b then c * x.v % 2147483579 else c
def powF (xs : List Sq) : Nat := xs.foldl powStep 1

theorem powF_snoc (xs : List Sq) (x : Sq) : powF (xs ++ [x]) = powStep (powF xs) x := by simp [powF]

theorem powF_lt (xs : List Sq) : powF xs < 2147483579 := by
  have : ∀ (xs : List Sq) (c : Nat), c < 2147483579 → xs.foldl powStep c < 2147483579 := by
    intro xs
    induction xs with
    | nil => intro c h; exact h
    | cons x xs ih =>
      intro c h
      refine ih _ ?_
      unfold powStep
      split
      · exact Nat.mod_lt _ (by decide)
      · exact h
  exact this xs 1 (by decide)

theorem foldl_sq : ∀ (f a : Nat) (_ : a < 2147483579) (n c : Nat), n < 2 ^ f → c < 2147483579 → (sqF f a n).foldl powStep c = c * a ^ n % 2147483579
  | 0, a, ha, n, c, hn, hc => by
    have : n = 0 := by simpa using hn
    subst this
    simp [sqF, Nat.mod_eq_of_lt hc]
  | f + 1, a, ha, n, c, hn, hc => by
    rw [sqF]
    by_cases h0 : n = 0
    · subst h0; simp [Nat.mod_eq_of_lt hc]
    · rw [if_neg h0, List.foldl_cons, foldl_sq f _ (Nat.mod_lt _ (by decide)) (n / 2) _ (by rw [Nat.pow_succ] at hn; omega) (by unfold powStep; split; exact Nat.mod_lt _ (by decide); exact hc)]
      have e1 : (a * a % 2147483579) ^ (n / 2) % 2147483579 = a ^ (2 * (n / 2)) % 2147483579 := by
        rw [← Nat.pow_mod, Nat.pow_mul, Nat.pow_two]
      unfold powStep
      simp only [Nat.mod_eq_of_lt ha]
      have hb : ((n : Int) % 2 == 1) = decide (n % 2 = 1) := by
        by_cases h : n % 2 = 1
        · simp [h]; omega
        · simp [h]; omega
      rw [hb]
      by_cases h : n % 2 = 1
      · simp only [h, decide_true, if_true]
        have e2 : n = 2 * (n / 2) + 1 := by omega
        rw [Nat.mul_mod, e1, Nat.mod_mod, ← Nat.mul_mod]
        conv => rhs; rw [e2, Nat.pow_succ]
        rw [Nat.mul_assoc, Nat.mul_comm a]
      · simp only [h, decide_false]
        have e2 : n = 2 * (n / 2) := by omega
        rw [Nat.mul_mod, e1, ← Nat.mul_mod]
        conv => rhs; rw [e2]
        simp

theorem powF_sq (f a : Nat) (ha : a < 2147483579) (n : Nat) (hn : n < 2 ^ f) : powF (sqF f a n) = a ^ n % 2147483579 := by
  rw [powF, foldl_sq f a ha n 1 hn (by decide), Nat.one_mul]

theorem box_cell {w : World} {B : Nat} {v : Value} {t : TypeId} {fr : Nat × Nat} (h : w.heap[B]? = some (.cells #[v] t fr)) : w.cell? ⟨B, 0, none⟩ = some v := by simp [World.cell?, h]

set_option maxRecDepth 100000 in
set_option maxHeartbeats 1600000 in
theorem squares1_in (F : Fence) (m : Nat) (h77 : F.fn 77) (hro : F.round = none) (hm : 1 ≤ m) (l B f a : Nat) (ha : a < 2147483579) (n : Nat) (hn : n < 2 ^ f) (hn2 : n < 1073741789) (J : List Sq → World → Prop)
    (hst : ∀ s W o v, (o = B ∨ o = B + 1) → J s W → J s (W.setCell ⟨o, 0, none⟩ v))
    (hY : ∀ pre x W1, J pre W1 → pre.length < (sqF f a n).length → YieldAt F (m - 1) Tryd.prog l #[.int .i64 (x.v : Int), .bool x.b] W1 fun e W' => e = .returned (.bool true) ∧ J (pre ++ [x]) W' ∧ W'.heap[B]? = W1.heap[B]? ∧ W'.heap[B + 1]? = W1.heap[B + 1]?)
    (W : World) (hA : W.heap[B]? = some (.cells #[.int .i64 (a : Int)] 3 (0, 0))) (hN : W.heap[B + 1]? = some (.cells #[.int .i64 (n : Int)] 3 (0, 0))) (h0 : J [] W) :
    CallsIn F m Tryd.prog 77 #[.func (.yield l) #[] #[], .pointer (some ⟨B + 1, 0, none⟩), .pointer (some ⟨B, 0, none⟩)] W fun e W' => (∃ v, e = .returned v) ∧ ∃ xs, xs = sqF f a n ∧ J xs W' := by
  obtain ⟨xs, hxs⟩ : ∃ xs, Hid (xs = sqF f a n) := ⟨_, Lib.hid rfl⟩
  rw [← hxs.out] at hY ⊢
  refine callsIn_of_wp Tryd.func77 rfl h77 ?_ hro
  simp only [Tryd.ntmps77, List.size_toArray, List.length_cons, List.length_nil, Nat.reduceAdd, Nat.reduceSub, Array.replicate_succ, Array.replicate_zero, List.push_toArray, List.append_toArray, List.nil_append, List.cons_append]
  gi_wp2
  gi_loopw [4] (fun _ wr => ∃ (pre : List Sq) (f a : Nat) (ha : a < 2147483579) (n : Nat), Hid (xs = pre ++ sqF f a n) ∧ n < 2 ^ f ∧ n < 1073741789 ∧ wr.heap[B]? = some (.cells #[.int .i64 (a : Int)] 3 (0, 0)) ∧ wr.heap[B + 1]? = some (.cells #[.int .i64 (n : Int)] 3 (0, 0)) ∧ J pre wr)
    (fun _ wr => match wr.cell? ⟨B + 1, 0, none⟩ with | some (.int _ z) => z.toNat | _ => 0)
  case atStart => exact ⟨[], f, a, ha, n, Lib.hid (by rw [hxs.out]; rfl), hn, hn2, hA, hN, h0⟩
  case round =>
    clear hA hN h0 hxs hn hn2 ha
    clear a n
    obtain ⟨pre, f, a, ha, n, hx, hn, hn2, hA, hN, hJ⟩ := hrel
    have cA := box_cell hA
    have cN := box_cell hN
    have fA : wr.frozen? ⟨B, 0, none⟩ = false := frozen_at hA
    have fN : wr.frozen? ⟨B + 1, 0, none⟩ = false := frozen_at hN
    by_cases hz : n = 0
    · subst hz
      have hx2 : Hid (pre = xs) := Lib.hid (by rw [hx.out]; cases f <;> simp [sqF])
      clear hn hn2 ha hA hN
      gi_wp2
      go_end0
      exact ⟨⟨_, rfl⟩, pre, hx2.out, hJ⟩
    · obtain ⟨f', rfl⟩ : ∃ f', f = f' + 1 := ⟨f - 1, by
        have : f ≠ 0 := fun e => by subst e; simp at hn; omega
        omega⟩
      obtain ⟨x, hxv, hxb, hx2⟩ : ∃ x : Sq, x.v = a ∧ x.b = ((n : Int) % 2 == 1) ∧ Hid (xs = pre ++ (x :: sqF f' (a * a % 2147483579) (n / 2))) := ⟨⟨a % 2147483579, (n : Int) % 2 == 1, Nat.mod_lt _ (by decide)⟩, Nat.mod_eq_of_lt ha, rfl, Lib.hid (by rw [hx.out, sqF, if_neg hz])⟩
      have hn3 : Hid (n / 2 < 2 ^ f') := Lib.hid (by rw [Nat.pow_succ] at hn; omega)
      obtain ⟨fn, tmps, assign, body, hy, hR⟩ := hY pre x wr hJ (by rw [hx2.out]; simp)
      rw [hxv, hxb] at hy
      have hpos : (n : Int) > 0 := by omega
      have hand : bits .and .i64 (n : Int) 1 = (n : Int) % 2 := by rw [i64_and_one n (by omega)]; simp
      have hb := mul_bound (show 0 ≤ (a : Int) ∧ (a : Int) < 2147483579 from by omega) (show 0 ≤ (a : Int) ∧ (a : Int) < 2147483579 from by omega)
      have HAA := Lib.hid hA; have HNN := Lib.hid hN; have HHA := Lib.hid ha; have Hn2 := Lib.hid hn2
      clear hA hN hn hn2 hx ha hJ hxv hxb
      have hsq : IntKind.i64.wrap ((a : Int) * (a : Int)) = (a : Int) * (a : Int) := by exact IntWalk.i64_in _ (by omega)
      have HB := Lib.hid hb
      clear hb
      gi_wp2
      refine hR.mono ?_
      rintro e W3 ⟨rfl, hJ3, hA3, hB3⟩
      have hA4 := hA3.trans HAA.out
      have hN4 := hB3.trans HNN.out
      have cA3 := box_cell hA4
      have cN3 := box_cell hN4
      have fA3 : W3.frozen? ⟨B, 0, none⟩ = false := frozen_at hA4
      have fN3 : W3.frozen? ⟨B + 1, 0, none⟩ = false := frozen_at hN4
      have HA4 := Lib.hid hA4; have HN4 := Lib.hid hN4
      clear hA4 hN4 hA3 hB3 cA cN fA fN
      have HJ3 := Lib.hid hJ3
      clear hJ3 hY
      gi_wp2
      have hmod : ((a : Int) * (a : Int)).tmod 2147483579 = ((a * a % 2147483579 : Nat) : Int) := by
        rw [Int.tmod_eq_emod_of_nonneg HB.out.1]; simp
      have hdiv : (n : Int) / 2 = ((n / 2 : Nat) : Int) := by simp
      rw [hmod, hdiv]
      have g1 : ((W3.setCell ⟨B, 0, none⟩ (.int .i64 ((a * a % 2147483579 : Nat) : Int))).setCell ⟨B + 1, 0, none⟩ (.int .i64 ((n / 2 : Nat) : Int))).heap[B]? = some (.cells #[.int .i64 ((a * a % 2147483579 : Nat) : Int)] 3 (0, 0)) :=
        (Below.heap_setCell _ _ _ _ (show B ≠ B + 1 by omega)).trans (d_setCell_heap HA4.out)
      have g2 : ((W3.setCell ⟨B, 0, none⟩ (.int .i64 ((a * a % 2147483579 : Nat) : Int))).setCell ⟨B + 1, 0, none⟩ (.int .i64 ((n / 2 : Nat) : Int))).heap[B + 1]? = some (.cells #[.int .i64 ((n / 2 : Nat) : Int)] 3 (0, 0)) :=
        d_setCell_heap ((Below.heap_setCell _ _ _ _ (show B + 1 ≠ B by omega)).trans HN4.out)
      refine ⟨⟨pre ++ [x], f', a * a % 2147483579, Nat.mod_lt _ (by decide), n / 2, Lib.hid (by rw [hx2.out]; simp), hn3.out, by have := Hn2.out; omega, g1, g2, hst _ _ _ _ (.inr rfl) (hst _ _ _ _ (.inl rfl) HJ3.out)⟩, ?_⟩
      rw [box_cell g2, box_cell HNN.out]
      simp
      omega

/-- what a caller asks of squares -/
theorem squares_gives (F : Fence) (m : Nat) (h77 : F.fn 77) (hro : F.round = none) (hm : 1 ≤ m) (B f a : Nat) (ha : a < 2147483579) (n : Nat) (hn : n < 2 ^ f) (hn2 : n < 1073741789) (w : World)
    (hA : w.heap[B]? = some (.cells #[.int .i64 (a : Int)] 3 (0, 0))) (hN : w.heap[B + 1]? = some (.cells #[.int .i64 (n : Int)] 3 (0, 0))) :
    GivesB F m Tryd.prog 77 #[.pointer (some ⟨B + 1, 0, none⟩), .pointer (some ⟨B, 0, none⟩)] (fun x : Sq => #[.int .i64 (x.v : Int), .bool x.b]) B (fun xs => xs = sqF f a n) (sqF f a n).length w := fun l J W hW hst hY h0 =>
  squares1_in F m h77 hro hm l B f a ha n hn hn2 J hst hY W ((hW.block _ (Array.getElem?_eq_some_iff.1 hA).1).trans hA) ((hW.block _ (Array.getElem?_eq_some_iff.1 hN).1).trans hN) h0

set_option maxRecDepth 100000 in
theorem squares_in (F : Fence) (m : Nat) (h56 : F.fn 56) (hro : F.round = none) (a n : Int) (w : World) :
    CallsIn F m Tryd.prog 56 #[.int .i64 a, .int .i64 n] w fun e w' => e = .returned (.func (.func 77) #[] #[.pointer (some ⟨w.heap.size + 1, 0, none⟩), .pointer (some ⟨w.heap.size, 0, none⟩)]) ∧ w' = (w.alloc (.cells #[.int .i64 a] 3)).alloc (.cells #[.int .i64 n] 3) := by
  refine callsIn_of_wp Tryd.func56 rfl h56 ?_ hro
  simp only [Tryd.ntmps56, List.size_toArray, List.length_cons, List.length_nil, Nat.reduceAdd, Nat.reduceSub, Array.replicate_succ, Array.replicate_zero, List.push_toArray, List.append_toArray, List.nil_append, List.cons_append]
  gi_wp2
  go_ret
  exact ⟨rfl, rfl⟩

end Go.Proofs.YtjhecmmbpmpmgaaDoor
