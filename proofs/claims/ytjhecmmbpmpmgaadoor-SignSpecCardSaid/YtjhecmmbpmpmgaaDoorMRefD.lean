/- A region that draws its order, whose first operations are quiet in a class of worlds and whose last ones follow each other: one walk of the text's order serves.
   A region that draws its order, in three parts: a quiet head, a middle in which each operation waits for the one before, a quiet end.
   signatoryref02's numbers and block by their contracts.
   signatoryref02's padded by its contract.
   signatoryref02's Sum by its contract.
   signatoryref02's Tagged and signatoryref10's Hash by their contracts. -/
import Derived.StillTail
import Derived.Deep.QuietTactic
import Derived.BigQuiet
import Derived.Test.YtjhecmmbpmpmgaaDoorMSha
import Derived.Deep.AppendLies
import Derived.Deep.RegionHeld3
import Derived.Test.YtjhecmmbpmpmgaaDoorMGrp
namespace Go.Proofs.YtjhecmmbpmpmgaaDoor
open Go

section
variable {P : Program} {ops : Array Oper} {md : Region.Mode} {C : World → Prop} {n : Nat} {L : Array Bool → Act → Prop}

/-- whatever order the first n operations take, L stands behind them -/
def HeadQ (P : Program) (md : Region.Mode) (ops : Array Oper) (C : World → Prop) (n : Nat) (L : Array Bool → Act → Prop) : Nat → Array Bool → Act → Prop
  | 0, s, a => L s a
  | k + 1, s, a => Region.ready md ops s ≠ [] ∧ ∀ i ∈ Region.ready md ops s, i < n ∧ qOp P ops C i (HeadQ P md ops C n L k (s.setIfInBounds i true)) a

theorem HeadQ.any {g : Nat} {Q : Exit → Act → World → Prop} (hL : ∀ s a w, C w → L s a → wpAny P md ops Q g s a w) : ∀ (k : Nat) (s : Array Bool) (a : Act) (w : World), C w → HeadQ P md ops C n L k s a → wpAny P md ops Q (k + g) s a w := by
  intro k
  induction k with
  | zero => intro s a w hw h; rw [Nat.zero_add]; exact hL s a w hw h
  | succ k ih =>
    intro s a w hw h
    rw [Nat.add_right_comm]
    refine ⟨fun h0 => absurd h0 h.1, fun i hi => ?_⟩
    exact wpOp_of_qOp hw (fun a' w' hw' h' => ih _ a' w' hw' h') (h.2 i hi).2

/-- an operation of the head that may come up may be taken first -/
theorem HeadQ.first {i : Nat} {o : Oper} {v : Value} (hi : ops[i]? = some o) (hsel : ∀ (j : Nat) (o : Oper) cs b, ops[j]? = some o → o.op ≠ .select cs b)
    (hs : Region.sinkB md ops n = true) (hc : Region.chainB md ops n = true) (hn : n < ops.size) (hin : i < n)
    (hL : ∀ s a, L s a → ∀ j ∈ Region.ready md ops s, n ≤ j) :
    ∀ (k : Nat) (s : Array Bool) (a : Act), HeadInv md ops n s →
      (∀ j oj, ops[j]? = some oj → j ≠ i → s.getD j true = false → (∀ e ∈ oj.after, Region.binds md e = true → e.on ≠ i) → o.apart ops oj = true) →
      i ∈ Region.ready md ops s → YieldsIn P ops C o v a →
      HeadQ P md ops C n L k (s.setIfInBounds i true) (a.put o.dst v) → HeadQ P md ops C n L (k + 1) s a := by
  intro k
  induction k with
  | zero =>
    intro s a inv _ hr hy H
    have hun := (mem_ready.1 hr).1
    refine ⟨List.ne_nil_of_mem hr, fun j hj => ?_⟩
    have hjn : j < n := Nat.lt_of_not_le fun h => tail_waits hs hc hn inv _ i rfl hin hun j h hj
    by_cases hji : j = i
    · subst hji; exact ⟨hjn, hy.qOp hi H⟩
    · have := hL _ _ H j (ready_mono hj hji)
      omega
  | succ k ih =>
    intro s a inv hfree hr hy H
    have hun := (mem_ready.1 hr).1
    refine ⟨List.ne_nil_of_mem hr, fun j hj => ?_⟩
    have hjn : j < n := Nat.lt_of_not_le fun h => tail_waits hs hc hn inv _ i rfl hin hun j h hj
    refine ⟨hjn, ?_⟩
    by_cases hji : j = i
    · subst hji; exact hy.qOp hi H
    · obtain ⟨hjun, oj, hoj, hall⟩ := mem_ready.1 hj
      have hnot : ∀ e ∈ oj.after, Region.binds md e = true → e.on ≠ i := fun e he hb heq => by
        have h1 := hall e he hb
        rw [heq, getD_both hun] at h1
        cases h1
      have h2 := qOp_put hoj (hfree j oj hoj hji hjun hnot) (fun cs b => hsel i o cs b hi) (fun cs b => hsel j oj cs b hoj) hy (H.2 j (ready_mono hj hji)).2
      refine qOp_mono (fun a' h3 => ih (s.setIfInBounds j true) a' (inv.set hj hjn) (fun m om hm hmi hmun hno => ?_) (ready_mono hr (Ne.symm hji)) h3.1 ?_) h2
      · refine hfree m om hm hmi ?_ hno
        by_cases hjm : j = m
        · subst hjm; exact hjun
        · rwa [getD_set_ne true hjm] at hmun
      · rw [Array.setIfInBounds_comm _ _ hji]; exact h3.2

theorem HeadQ.lex {g : Nat} {T : Act → Prop} (hsel : Region.noSelect ops = true) (hs : Region.sinkB md ops n = true) (hc : Region.chainB md ops n = true) (hn : n < ops.size) :
    ∀ (l : List Oper) (k : Nat) (s : Array Bool) (a : Act), (∀ j, j < l.length → l[j]? = ops[k + j]?) → k + l.length = n → HeadInv md ops n s →
    Region.lexHead md ops g l.length k s = true → wpQuiet P ops C T l a →
    HeadQ P md ops C n (fun s' a' => Region.seqB md ops g n s' = true ∧ T a') l.length s a := by
  intro l
  induction l with
  | nil =>
    intro k s a _ hk _ hB h
    obtain rfl : k = n := by simpa using hk
    exact ⟨by simpa [Region.lexHead] using hB, h⟩
  | cons o l ih =>
    intro k s a hl hk inv hB h
    have h0 : ops[k]? = some o := by simpa using (hl 0 (by simp)).symm
    simp only [List.length_cons, Region.lexHead, Bool.and_eq_true] at hB
    obtain ⟨⟨hr, hf⟩, hB'⟩ := hB
    have hkn : k < n := by simp only [List.length_cons] at hk; omega
    have hr' : k ∈ Region.ready md ops s := by simpa using hr
    have hq : qOp P ops C k (wpQuiet P ops C T l) a := by unfold qOp; simp only [h0]; exact h
    obtain ⟨v, hy, hK⟩ := yieldsIn_of_qOp h0 hq
    refine HeadQ.first h0 (Region.noSelect_spec hsel) hs hc hn hkn (fun s' a' hL => seqB_ready hL.1) l.length s a inv (Region.free_spec h0 hf) hr' hy ?_
    exact ih (k + 1) _ _ (fun j hj => by have := hl (j + 1) (by simp; omega); simpa [Nat.add_assoc, Nat.add_comm 1 j] using this) (by simp only [List.length_cons] at hk; omega) (inv.set hr' hkn) hB' hK

/-- one walk of the text's order: the head in a class of worlds, the tail as it stands -/
theorem wp_region_quiet_tail {id : Nat} {Q : Exit → Act → World → Prop} {a : Act} {w : World} {l : List Oper} (C : World → Prop) (n : Nat) (hm : P.follows .mixedOrders = true) (hB : Region.lexTailB .any l.toArray n = true) (hC : C w.drew)
    (h : wpQuiet P l.toArray C (fun a' => ∀ w', C w' → wpList P l.toArray Q (l.drop n) a' w') (l.take n) a) : (Code.region id l.toArray true).wp P Q a w := by
  simp only [Region.lexTailB, Bool.and_eq_true, decide_eq_true_eq] at hB
  obtain ⟨⟨⟨⟨hsel, hn⟩, hs⟩, hc⟩, hlex⟩ := hB
  have hn' : n < l.length := by simpa using hn
  have htl : (l.take n).length = n := by simp; omega
  have hdl : (l.drop n).length = l.toArray.size - n := by simp
  have inv0 : HeadInv .any l.toArray n (Array.replicate l.toArray.size false) :=
    ⟨by simp, fun j oj _ hl => (by rw [getD_replicate_false] at hl; cases hl), fun t _ ht => getD_in (by simpa using ht) (getD_replicate_false _ _)⟩
  have H := HeadQ.lex (md := .any) (g := l.toArray.size - n) hsel hs hc hn (l.take n) 0 _ a (fun j hj => by
    have hj' : j < n := by rw [htl] at hj; exact hj
    simp [hj']) (by simpa using htl) inv0 (by rw [htl]; exact hlex) h
  refine wp_region_any hm ?_
  have := HeadQ.any (Q := Q) (g := l.toArray.size - n) (fun s a' w' hw' hL => by
    have := wpAny_of_seq (md := .any) (Q' := Q) (l.drop n) n s a' w' (fun j => by simp [List.getElem?_drop]) (by rw [hdl]; exact hL.1) (hL.2 w' hw')
    rwa [hdl] at this) _ _ _ _ hC H
  rw [htl, show n + (l.toArray.size - n) = l.toArray.size by omega] at this
  exact this

/-- the same where the whole region is quiet -/
theorem wp_region_quiet_in {id : Nat} {Q : Exit → Act → World → Prop} {a : Act} {w : World} {l : List Oper} (C : World → Prop) (hm : P.follows .mixedOrders = true) (hB : Region.lexB .any l.toArray = true) (hC : C w.drew)
    (h : wpQuiet P l.toArray C (fun a' => ∀ w', C w' → Q .normal a' w') l a) : (Code.region id l.toArray true).wp P Q a w :=
  wp_region_quiet hm hB hC (by simpa using h)

/-- an operation without a guard that yields one value in every world of the class -/
theorem quiet_op {Q : Act → Prop} {a : Act} {o : Oper} {rest : List Oper} (hg : o.guard = none) (v : Value) (hv : ∀ w, C w → (execOp a.eval o).run P w = .ok (.value v) w) (h : wpQuiet P ops C Q rest (a.put o.dst v)) : wpQuiet P ops C Q (o :: rest) a := by
  unfold wpQuiet
  rw [if_pos (by unfold Region.wanted; rw [hg])]
  exact ⟨v, fun w hw => by unfold Oper.quietAt; rw [hv w hw]; exact ⟨rfl, rfl⟩, h⟩

/-- a call without a guard that yields one value in every world of the class and leaves the class -/
theorem quiet_enter {Q : Act → Prop} {a : Act} {o : Oper} {rest : List Oper} (hg : o.guard = none) (f : FuncId) (args : Array Value) (v : Value) (hv : ∀ w, C w → (execOp a.eval o).run P w = .ok (.enter f args) w) (hc : ∀ w, C w → Calls P f args w fun e w' => e = .returned v ∧ C w') (h : wpQuiet P ops C Q rest (a.put o.dst v)) : wpQuiet P ops C Q (o :: rest) a := by
  unfold wpQuiet
  rw [if_pos (by unfold Region.wanted; rw [hg])]
  exact ⟨v, fun w hw => by unfold Oper.quietAt; rw [hv w hw]; exact ⟨rfl, hc w hw⟩, h⟩
end

end Go.Proofs.YtjhecmmbpmpmgaaDoor

namespace Go.Proofs.YtjhecmmbpmpmgaaDoor
open Go

section
variable {P : Program} {ops : Array Oper} {md : Region.Mode} {C : World → Prop} {n : Nat} {L : Array Bool → Act → Prop}

/-- every operation behind number n waits for one from n on -/
def reachB (md : Region.Mode) (ops : Array Oper) (n : Nat) : Bool :=
  (List.range ops.size).all fun t => decide (t ≤ n) || (List.range t).any fun j => decide (n ≤ j) && Region.waitsFor md ops t j

/-- m operations, one after the other, then the text's order -/
def midB (md : Region.Mode) (ops : Array Oper) (g : Nat) : Nat → Nat → Array Bool → Bool
  | 0, k, s => Region.lexFrom md ops g k s
  | m + 1, k, s => decide (Region.ready md ops s = [k]) && midB md ops g m (k + 1) (s.setIfInBounds k true)

def headB (md : Region.Mode) (ops : Array Oper) (m g : Nat) : Nat → Nat → Array Bool → Bool
  | 0, k, s => midB md ops g m k s
  | f + 1, k, s => (Region.ready md ops s).contains k && Region.free md ops s k && headB md ops m g f (k + 1) (s.setIfInBounds k true)

theorem waits_in {j i : Nat} {s : Array Bool} (h : Region.waitsFor md ops j i = true) (hr : j ∈ Region.ready md ops s) : s.getD i false = true := by
  obtain ⟨oj, hoj, e, he, hb, hon⟩ := Region.waitsFor_spec h
  obtain ⟨_, o', ho', hall⟩ := mem_ready.1 hr
  obtain rfl : oj = o' := Option.some.inj (hoj.symm.trans ho')
  rw [← hon]; exact hall e he hb

theorem closed_in {j i : Nat} {s : Array Bool} (inv : HeadInv md ops n s) (h : Region.waitsFor md ops j i = true) (hl : s.getD j false = true) : s.getD i false = true := by
  obtain ⟨oj, hoj, e, he, hb, hon⟩ := Region.waitsFor_spec h
  rw [← hon]; exact inv.closed j oj hoj hl e he hb

/-- while an operation of the head is not listed, none behind the head may come up -/
theorem later_waits {s : Array Bool} (hs : Region.sinkB md ops n = true) (hr : reachB md ops n = true) (hn : n < ops.size) (inv : HeadInv md ops n s) :
    ∀ (d i : Nat), n - i = d → i < n → s.getD i true = false → ∀ t, n ≤ t → t ∉ Region.ready md ops s := by
  intro d
  induction d using Nat.strongRecOn with
  | _ d ih =>
    intro i hd hi hun t ht hready
    obtain ⟨_, ot, hot, _⟩ := mem_ready.1 hready
    have htlt : t < ops.size := (Array.getElem?_eq_some_iff.1 hot).1
    by_cases htn : t = n
    · subst htn
      obtain ⟨j, hj, hj2⟩ := List.any_eq_true.1 (List.all_eq_true.1 hs i (List.mem_range.2 hi))
      simp only [Bool.and_eq_true, decide_eq_true_eq] at hj2
      have hjle : j ≤ t := by have := List.mem_range.1 hj; omega
      by_cases hjt : j = t
      · subst hjt
        have := waits_in hj2.2 hready
        rw [getD_both hun] at this; cases this
      · cases hl : s.getD j false with
        | true =>
          have := closed_in inv hj2.2 hl
          rw [getD_both hun] at this; cases this
        | false => exact ih (t - j) (by omega) j rfl (by omega) (getD_in (by rw [inv.size]; omega) hl) t (Nat.le_refl _) hready
    · have h1 := List.all_eq_true.1 hr t (List.mem_range.2 htlt)
      simp only [Bool.or_eq_true, decide_eq_true_eq] at h1
      rcases h1 with h1 | h1
      · omega
      · obtain ⟨j, hj, hj2⟩ := List.any_eq_true.1 h1
        simp only [Bool.and_eq_true, decide_eq_true_eq] at hj2
        have := waits_in hj2.2 hready
        rw [getD_both (inv.tail j hj2.1 (by have := List.mem_range.1 hj; omega))] at this; cases this

theorem HeadQ.first2 {i : Nat} {o : Oper} {v : Value} (hi : ops[i]? = some o) (hsel : ∀ (j : Nat) (o : Oper) cs b, ops[j]? = some o → o.op ≠ .select cs b)
    (hs : Region.sinkB md ops n = true) (hc : reachB md ops n = true) (hn : n < ops.size) (hin : i < n)
    (hL : ∀ s a, L s a → ∀ j ∈ Region.ready md ops s, n ≤ j) :
    ∀ (k : Nat) (s : Array Bool) (a : Act), HeadInv md ops n s →
      (∀ j oj, ops[j]? = some oj → j ≠ i → s.getD j true = false → (∀ e ∈ oj.after, Region.binds md e = true → e.on ≠ i) → o.apart ops oj = true) →
      i ∈ Region.ready md ops s → YieldsIn P ops C o v a →
      HeadQ P md ops C n L k (s.setIfInBounds i true) (a.put o.dst v) → HeadQ P md ops C n L (k + 1) s a := by
  intro k
  induction k with
  | zero =>
    intro s a inv _ hr hy H
    have hun := (mem_ready.1 hr).1
    refine ⟨List.ne_nil_of_mem hr, fun j hj => ?_⟩
    have hjn : j < n := Nat.lt_of_not_le fun h => later_waits hs hc hn inv _ i rfl hin hun j h hj
    by_cases hji : j = i
    · subst hji; exact ⟨hjn, hy.qOp hi H⟩
    · have := hL _ _ H j (ready_mono hj hji)
      omega
  | succ k ih =>
    intro s a inv hfree hr hy H
    have hun := (mem_ready.1 hr).1
    refine ⟨List.ne_nil_of_mem hr, fun j hj => ?_⟩
    have hjn : j < n := Nat.lt_of_not_le fun h => later_waits hs hc hn inv _ i rfl hin hun j h hj
    refine ⟨hjn, ?_⟩
    by_cases hji : j = i
    · subst hji; exact hy.qOp hi H
    · obtain ⟨hjun, oj, hoj, hall⟩ := mem_ready.1 hj
      have hnot : ∀ e ∈ oj.after, Region.binds md e = true → e.on ≠ i := fun e he hb heq => by
        have h1 := hall e he hb
        rw [heq, getD_both hun] at h1
        cases h1
      have h2 := qOp_put hoj (hfree j oj hoj hji hjun hnot) (fun cs b => hsel i o cs b hi) (fun cs b => hsel j oj cs b hoj) hy (H.2 j (ready_mono hj hji)).2
      refine qOp_mono (fun a' h3 => ih (s.setIfInBounds j true) a' (inv.set hj hjn) (fun m om hm hmi hmun hno => ?_) (ready_mono hr (Ne.symm hji)) h3.1 ?_) h2
      · refine hfree m om hm hmi ?_ hno
        by_cases hjm : j = m
        · subst hjm; exact hjun
        · rwa [getD_set_ne true hjm] at hmun
      · rw [Array.setIfInBounds_comm _ _ hji]; exact h3.2

theorem midB_ready {g m k : Nat} {s : Array Bool} (h : midB md ops g (m + 1) k s = true) : ∀ j ∈ Region.ready md ops s, k ≤ j := by
  intro j hj
  simp only [midB, Bool.and_eq_true, decide_eq_true_eq] at h
  rw [h.1] at hj
  have : j = k := by simpa using hj
  omega

theorem HeadQ.lex2 {m g : Nat} {T : Act → Prop} (hsel : Region.noSelect ops = true) (hs : Region.sinkB md ops n = true) (hc : reachB md ops n = true) (hn : n < ops.size) :
    ∀ (l : List Oper) (k : Nat) (s : Array Bool) (a : Act), (∀ j, j < l.length → l[j]? = ops[k + j]?) → k + l.length = n → HeadInv md ops n s →
    headB md ops (m + 1) g l.length k s = true → wpQuiet P ops C T l a →
    HeadQ P md ops C n (fun s' a' => midB md ops g (m + 1) n s' = true ∧ T a') l.length s a := by
  intro l
  induction l with
  | nil =>
    intro k s a _ hk _ hB h
    obtain rfl : k = n := by simpa using hk
    exact ⟨by simpa [headB] using hB, h⟩
  | cons o l ih =>
    intro k s a hl hk inv hB h
    have h0 : ops[k]? = some o := by simpa using (hl 0 (by simp)).symm
    simp only [List.length_cons, headB, Bool.and_eq_true] at hB
    obtain ⟨⟨hr, hf⟩, hB'⟩ := hB
    have hkn : k < n := by simp only [List.length_cons] at hk; omega
    have hr' : k ∈ Region.ready md ops s := by simpa using hr
    have hq : qOp P ops C k (wpQuiet P ops C T l) a := by unfold qOp; simp only [h0]; exact h
    obtain ⟨v, hy, hK⟩ := yieldsIn_of_qOp h0 hq
    refine HeadQ.first2 h0 (Region.noSelect_spec hsel) hs hc hn hkn (fun s' a' hL => midB_ready hL.1) l.length s a inv (Region.free_spec h0 hf) hr' hy ?_
    exact ih (k + 1) _ _ (fun j hj => by have := hl (j + 1) (by simp; omega); simpa [Nat.add_assoc, Nat.add_comm 1 j] using this) (by simp only [List.length_cons] at hk; omega) (inv.set hr' hkn) hB' hK

/-- behind the middle: the quiet end, in the world at hand -/
def EndQ (P : Program) (ops : Array Oper) (Q : Exit → Act → World → Prop) (l : List Oper) : Exit → Act → World → Prop
  | .normal, a, w => wpQuiet P ops (fun w' => w' = w) (fun a' => Q .normal a' w) l a
  | e, a, w => Q e a w

theorem letsOut_end {Q : Exit → Act → World → Prop} {l : List Oper} (h : LetsOut (EndQ P ops Q l)) : LetsOut Q := h

theorem oper_end {Q : Exit → Act → World → Prop} {l : List Oper} {o : Oper} {a : Act} {w : World} {K : Act → World → Prop} (h : o.wp P a w K (EndQ P ops Q l)) : o.wp P a w K Q := by
  unfold Oper.wp at *
  generalize (execOp a.eval o).run P w = r at *
  cases r with
  | ok n w' =>
    cases n <;> simp only [Oper.upon] at h ⊢ <;>
      first
        | exact h
        | exact Calls.mono h (fun e w'' he => by cases e <;> exact he)
  | halt x w' => cases x <;> simp only [Oper.upon] at h ⊢ <;> exact h

theorem mid_any {Q : Exit → Act → World → Prop} {l2 : List Oper} (hsel : Region.noSelect ops = true) : ∀ (l1 : List Oper) (k : Nat) (s : Array Bool) (a : Act) (w : World), (∀ j, j < l1.length → l1[j]? = ops[k + j]?) → (∀ j, l2[j]? = ops[k + l1.length + j]?) →
    midB md ops l2.length l1.length k s = true → wpList P ops (EndQ P ops Q l2) l1 a w → wpAny P md ops Q (l1.length + l2.length) s a w := by
  intro l1
  induction l1 with
  | nil =>
    intro k s a w _ h2 hB h
    have hq := wpAnyQ_lex (P := P) (C := fun w' => w' = w) (md := md) hsel l2 k s a (by simpa using h2) (by simpa [midB] using hB) h
    rw [List.length_nil, Nat.zero_add]
    exact wpAny_of_quiet (C := fun w' => w' = w) (fun a' w' hw' h' => by subst hw'; exact h') _ _ _ _ rfl hq
  | cons o l1 ih =>
    intro k s a w h1 h2 hB h
    have h0 : ops[k]? = some o := by simpa using (h1 0 (by simp)).symm
    simp only [List.length_cons, midB, Bool.and_eq_true, decide_eq_true_eq] at hB
    rw [List.length_cons, Nat.add_right_comm]
    refine ⟨fun hn => (by rw [hB.1] at hn; cases hn), fun i hi => ?_⟩
    rw [hB.1] at hi
    obtain rfl : i = k := by simpa using hi
    have hK : ∀ a' w', wpList P ops (EndQ P ops Q l2) l1 a' w' → wpAny P md ops Q (l1.length + l2.length) (s.setIfInBounds i true) a' w' := fun a' w' h' =>
      ih (i + 1) _ a' w' (fun j hj => by have := h1 (j + 1) (by simp; omega); simpa [Nat.add_assoc, Nat.add_comm 1 j] using this) (fun j => by have := h2 j; simpa [Nat.add_assoc, Nat.add_comm, Nat.add_left_comm] using this) hB.2 h'
    unfold wpOp
    simp only [h0]
    unfold wpList at h
    by_cases hw : Region.wanted o (yielded ops a.tmps) = true
    · rw [if_pos hw] at h ⊢
      rcases h with h | h
      · exact .inl (Oper.wp_mono hK (oper_end h))
      · exact .inr ⟨h.1, letsOut_end h.2⟩
    · rw [if_neg hw] at h ⊢
      exact hK _ _ h

/-- one walk of the text's order: head, middle, end -/
theorem wp_region_three {id : Nat} {Q : Exit → Act → World → Prop} {a : Act} {w : World} {l : List Oper} (C : World → Prop) (n m : Nat) (hm : P.follows .mixedOrders = true)
    (hB : (Region.noSelect l.toArray && decide (n < l.length) && decide (n + (m + 1) ≤ l.length) && Region.sinkB .any l.toArray n && reachB .any l.toArray n && headB .any l.toArray (m + 1) (l.length - (n + (m + 1))) n 0 (Array.replicate l.length false)) = true) (hC : C w.drew)
    (h : wpQuiet P l.toArray C (fun a' => ∀ w', C w' → wpList P l.toArray (EndQ P l.toArray Q (l.drop (n + (m + 1)))) ((l.drop n).take (m + 1)) a' w') (l.take n) a) : (Code.region id l.toArray true).wp P Q a w := by
  simp only [Bool.and_eq_true, decide_eq_true_eq] at hB
  obtain ⟨⟨⟨⟨⟨hsel, hn⟩, hnm⟩, hs⟩, hc⟩, hlex⟩ := hB
  have hsz : l.toArray.size = l.length := by simp
  have htl : (l.take n).length = n := by simp; omega
  have hml : ((l.drop n).take (m + 1)).length = m + 1 := by simp; omega
  have hdl : (l.drop (n + (m + 1))).length = l.length - (n + (m + 1)) := by simp
  have inv0 : HeadInv .any l.toArray n (Array.replicate l.length false) :=
    ⟨by simp, fun j oj _ hl => (by rw [getD_replicate_false] at hl; cases hl), fun t _ ht => getD_in (by simpa using ht) (getD_replicate_false _ _)⟩
  have H := HeadQ.lex2 (md := .any) (m := m) (g := l.length - (n + (m + 1))) hsel hs hc (by rw [hsz]; exact hn) (l.take n) 0 _ a (fun j hj => by
    have hj' : j < n := by rw [htl] at hj; exact hj
    simp [hj']) (by simpa using htl) inv0 (by rw [htl]; exact hlex) h
  refine wp_region_any hm ?_
  have := HeadQ.any (Q := Q) (g := (m + 1) + (l.length - (n + (m + 1)))) (fun s a' w' hw' hL => by
    have := mid_any (md := .any) (Q := Q) (l2 := l.drop (n + (m + 1))) hsel ((l.drop n).take (m + 1)) n s a' w' (fun j hj => by
      rw [hml] at hj
      simp [hj]) (fun j => by rw [hml]; simp) (by rw [hml, hdl]; exact hL.1) (hL.2 w' hw')
    rwa [hml, hdl] at this) _ _ _ _ hC H
  rw [htl, show n + ((m + 1) + (l.length - (n + (m + 1)))) = l.toArray.size by rw [hsz]; omega] at this
  rw [← hsz] at this
  exact this
end

end Go.Proofs.YtjhecmmbpmpmgaaDoor

namespace Go.Proofs.YtjhecmmbpmpmgaaDoor
open Go.RowKit Go.Lib

def z64 : Array Value := #[.int .u32 0, .int .u32 0, .int .u32 0, .int .u32 0, .int .u32 0, .int .u32 0, .int .u32 0, .int .u32 0, .int .u32 0, .int .u32 0, .int .u32 0, .int .u32 0, .int .u32 0, .int .u32 0, .int .u32 0, .int .u32 0, .int .u32 0, .int .u32 0, .int .u32 0, .int .u32 0, .int .u32 0, .int .u32 0, .int .u32 0, .int .u32 0, .int .u32 0, .int .u32 0, .int .u32 0, .int .u32 0, .int .u32 0, .int .u32 0, .int .u32 0, .int .u32 0, .int .u32 0, .int .u32 0, .int .u32 0, .int .u32 0, .int .u32 0, .int .u32 0, .int .u32 0, .int .u32 0, .int .u32 0, .int .u32 0, .int .u32 0, .int .u32 0, .int .u32 0, .int .u32 0, .int .u32 0, .int .u32 0, .int .u32 0, .int .u32 0, .int .u32 0, .int .u32 0, .int .u32 0, .int .u32 0, .int .u32 0, .int .u32 0, .int .u32 0, .int .u32 0, .int .u32 0, .int .u32 0, .int .u32 0, .int .u32 0, .int .u32 0, .int .u32 0]
theorem z64_eq : z64 = wrow (List.replicate 64 0) := by kernel_rfl
def z8 : Array Value := #[.int .u32 0, .int .u32 0, .int .u32 0, .int .u32 0, .int .u32 0, .int .u32 0, .int .u32 0, .int .u32 0]
def w8 (s : St) : Array Value := #[.int .u32 s.a, .int .u32 s.b, .int .u32 s.c, .int .u32 s.d, .int .u32 s.e, .int .u32 s.f, .int .u32 s.g, .int .u32 s.h]
theorem w8_eq (s : St) : w8 s = wrow s.toL := rfl
theorem k_size : (Tryd.prog.info? 127).map (·.size) = some (wrow kTab).size := by kernel_rfl
theorem z_size : (Tryd.prog.info? 127).map (·.size) = some z64.size := by kernel_rfl
theorem z_one : z64.all (·.oneCell') = true := by kernel_rfl
theorem k_one : (wrow kTab).all (·.oneCell') = true := by kernel_rfl
theorem s8_size (s : St) : (Tryd.prog.info? 112).map (·.size) = some (wrow s.toL).size := by kernel_rfl
theorem s8_one (s : St) : (wrow s.toL).all (·.oneCell') = true := by kernel_rfl

set_option maxRecDepth 100000 in
set_option maxHeartbeats 800000 in
theorem numbers_any (w : World) : Calls Tryd.prog 106 #[] w fun e w' => e = .returned (.agg (wrow kTab)) ∧ Below w.heap.size w w' := by
  have hrow : (w.alloc (.cells z64 127)).heap[w.heap.size]? = some (.cells z64 127 (0, 0)) := heap_alloc_new _ _
  go_enter Tryd.func106, Tryd.ntmps106
  go_wp2_with (refine wpList_store_row rfl 127 (.tmp 0) (.tmp 1) rfl w.heap.size (wrow kTab) rfl rfl 127 z64 hrow k_size rfl k_one ?_; rw [World.setRow_alloc_new])
  refine bodyPost_ret (v := .agg (wrow kTab)) ?_ rfl ⟨rfl, (Below.refl _ _).alloc (Nat.le_refl _) _⟩
  exact results_cell_row rfl _ _ w.heap.size 127 (wrow kTab) (0, 0) _ rfl (heap_alloc_new _ _) Tryd.underlying127 rfl k_size

/-- the blocks of a call: the state, the result, the schedule; all else as it was -/
structure Blk (w : World) (s : St) (C : List Nat) (wr : World) : Prop where
  below : Below w.heap.size w wr
  s : wr.heap[w.heap.size]? = some (.cells (wrow s.toL) 112 (0, 0))
  r : wr.heap[w.heap.size + 1]? = some (.cells z8 112 (0, 0))
  a : wr.heap[w.heap.size + 1 + 1]? = some (.cells (wrow C) 127 (0, 0))

theorem Blk.lt {w wr : World} {s : St} {C : List Nat} (h : Blk w s C wr) : w.heap.size + 1 + 1 < wr.heap.size := (Array.getElem?_eq_some_iff.1 h.a).1
theorem Blk.step {w wr w' : World} {s : St} {C : List Nat} (h : Blk w s C wr) (hb : Below wr.heap.size wr w') : Blk w s C w' := by
  have := h.lt
  exact ⟨h.below.trans (hb.mono h.below.size), (hb.block _ (by omega)).trans h.s, (hb.block _ (by omega)).trans h.r, (hb.block _ (by omega)).trans h.a⟩
theorem Blk.drewN {w wr : World} {s : St} {C : List Nat} (h : Blk w s C wr) (n : Nat) : Blk w s C (wr.drewN n) := h.step (below_drewN (Below.refl _ _))
theorem Blk.set {w wr : World} {s : St} {C D : List Nat} (h : Blk w s C wr) (j x : Nat) (hD : C.set j x = D) : Blk w s D (wr.setCell ⟨w.heap.size + 1 + 1, j, none⟩ (.int .u32 (x : Int))) := by
  subst hD
  refine ⟨h.below.setCell (p := ⟨w.heap.size + 1 + 1, j, none⟩) (show w.heap.size ≤ w.heap.size + 1 + 1 by omega) _, ?_, ?_, ?_⟩
  · exact (Below.heap_setCell _ _ _ _ (show w.heap.size ≠ w.heap.size + 1 + 1 by omega)).trans h.s
  · exact (Below.heap_setCell _ _ _ _ (show w.heap.size + 1 ≠ w.heap.size + 1 + 1 by omega)).trans h.r
  · rw [d_setCell_heap h.a, wrow_set]

theorem Blk.start (w : World) (s : St) : Blk w s (List.replicate 64 0) (((w.alloc (.cells (w8 s) 112)).alloc (.cells z8 112)).alloc (.cells z64 127)) := by
  have h1 : (w.alloc (.cells (w8 s) 112)).heap.size = w.heap.size + 1 := by simp
  have h2 : ((w.alloc (.cells (w8 s) 112)).alloc (.cells z8 112)).heap.size = w.heap.size + 1 + 1 := by simp
  refine ⟨(((Below.refl _ _).alloc (Nat.le_refl _) _).alloc (by omega) _).alloc (by omega) _, ?_, ?_, ?_⟩
  · rw [Below.heap_alloc _ _ _ (by omega), Below.heap_alloc _ _ _ (by omega), heap_alloc_new, w8_eq]
  · rw [Below.heap_alloc _ _ _ (by omega), ← h1, heap_alloc_new]
  · rw [← h2, heap_alloc_new, z64_eq]

/-- .. and the numbers -/
structure Blk3 (w : World) (s : St) (C : List Nat) (N : Nat) (wr : World) : Prop where
  b : Blk w s C wr
  k : wr.heap[N]? = some (.cells (wrow kTab) 127 (0, 0))
theorem Blk3.drewN {w wr : World} {s : St} {C : List Nat} {N : Nat} (h : Blk3 w s C N wr) (n : Nat) : Blk3 w s C N (wr.drewN n) := ⟨h.b.drewN n, h.k⟩

theorem not_xor (e : Nat) (he : e < 4294967296) : 4294967295 ^^^ e = 4294967295 - e := by
  apply Nat.eq_of_testBit_eq
  intro i
  have hn : (4294967295 - e).testBit i = (decide (i < 32) && !e.testBit i) := by
    have := Nat.testBit_two_pow_sub_succ (n := 32) he i
    rwa [show (2 : Nat) ^ 32 - (e + 1) = 4294967295 - e from by rw [show (2 : Nat) ^ 32 = 4294967296 from by decide]; omega] at this
  have hm : (4294967295 : Nat).testBit i = decide (i < 32) := by
    have := Nat.testBit_two_pow_sub_one 32 i
    rwa [show (2 : Nat) ^ 32 - 1 = 4294967295 from by decide] at this
  have heb : ¬ i < 32 → e.testBit i = false := fun h => Nat.testBit_lt_two_pow (Nat.lt_of_lt_of_le he (Nat.le_trans (by decide : 4294967296 ≤ 2 ^ 32) (Nat.pow_le_pow_right (by decide) (by omega))))
  rw [Nat.testBit_xor, hn, hm]
  by_cases h : i < 32
  · simp [h]
  · simp [h, heb h]

theorem not_bits (e : Nat) (he : e < 4294967296) : bits .xor .u32 (if IntKind.u32.signed = true then -1 else IntKind.u32.max) (e : Int) = ((4294967295 - e : Nat) : Int) := by
  rw [if_neg (by decide), show IntKind.u32.max = ((4294967295 : Nat) : Int) from by decide, u32_xor_nat _ _ (by omega) he, not_xor e he]

theorem rp_bits (st : St) (k x : Nat) (h : st.ok) :
    ((st.h : Int) + bits .xor .u32 (bits .xor .u32 (rr st.e 6 : Int) (rr st.e 11 : Int)) (rr st.e 25 : Int) + bits .xor .u32 (bits .and .u32 (st.e : Int) (st.f : Int)) (bits .and .u32 (bits .xor .u32 (if IntKind.u32.signed = true then -1 else IntKind.u32.max) (st.e : Int)) (st.g : Int)) + (k : Int) + (x : Int)) % 4294967296 = (((rp st k x + x) % 4294967296 : Nat) : Int) := by
  have e1 : bits .xor .u32 (bits .and .u32 (st.e : Int) (st.f : Int)) (bits .and .u32 (bits .xor .u32 (if IntKind.u32.signed = true then -1 else IntKind.u32.max) (st.e : Int)) (st.g : Int)) = ((chF st.e st.f st.g : Nat) : Int) := by
    have hn : 4294967295 - st.e < 4294967296 := by omega
    rw [not_bits _ h.e, u32_and_nat _ _ h.e h.f, u32_and_nat _ _ hn h.g, u32_xor_nat _ _ (land_lt h.e) (land_lt hn), ch_ref h.e h.g]
  rw [e1, xor3_bits (rr_lt 6 h.e) (rr_lt 11 h.e) (rr_lt 25 h.e), show (rr st.e 6 ^^^ rr st.e 11) ^^^ rr st.e 25 = Sg1 st.e from rfl]
  unfold rp
  generalize Sg1 st.e = A
  generalize chF st.e st.f st.g = B
  omega

theorem rq_bits (st : St) (h : st.ok) :
    (bits .xor .u32 (bits .xor .u32 (rr st.a 2 : Int) (rr st.a 13 : Int)) (rr st.a 22 : Int) + bits .xor .u32 (bits .xor .u32 (bits .and .u32 (st.a : Int) (st.b : Int)) (bits .and .u32 (st.a : Int) (st.c : Int))) (bits .and .u32 (st.b : Int) (st.c : Int))) % 4294967296 = (((Sg0 st.a + mjF st.a st.b st.c) % 4294967296 : Nat) : Int) := by
  rw [xor3_bits (rr_lt 2 h.a) (rr_lt 13 h.a) (rr_lt 22 h.a), u32_and_nat _ _ h.a h.b, u32_and_nat _ _ h.a h.c, u32_and_nat _ _ h.b h.c, xor3_bits (land_lt h.a) (land_lt h.a) (land_lt h.b), mj_ref,
    show (rr st.a 2 ^^^ rr st.a 13) ^^^ rr st.a 22 = Sg0 st.a from rfl]
  omega

def w8e (s t : St) : Array Value := #[.int .u32 (((s.a : Int) + (t.a : Int)) % 4294967296), .int .u32 (((s.b : Int) + (t.b : Int)) % 4294967296), .int .u32 (((s.c : Int) + (t.c : Int)) % 4294967296), .int .u32 (((s.d : Int) + (t.d : Int)) % 4294967296), .int .u32 (((s.e : Int) + (t.e : Int)) % 4294967296), .int .u32 (((s.f : Int) + (t.f : Int)) % 4294967296), .int .u32 (((s.g : Int) + (t.g : Int)) % 4294967296), .int .u32 (((s.h : Int) + (t.h : Int)) % 4294967296)]
theorem add_row (s t : St) : w8e s t = w8 (s.add t) := by
  simp [w8e, w8, St.add]
theorem w8e_size (s t : St) : (Tryd.prog.info? 112).map (·.size) = some (w8e s t).size := by kernel_rfl
theorem w8e_one (s t : St) : (w8e s t).all (·.oneCell') = true := by kernel_rfl

theorem slice_part (D off cap lo : Nat) (hc : 64 ≤ cap) (hcap : cap ≤ 9223372036854775807) (hl : lo + 4 ≤ 64) (w : World) : (Instr.slice 22 (.slice (some ⟨D, off, none⟩) 64 cap) (some (.int .i64 lo)) (some (.int .i64 ((lo : Int) + 4))) none).run Tryd.prog w = .ok (.slice (some ⟨D, off + lo, none⟩) 4 (cap - lo)) w := by
  rw [run_slice_lh w 22 (some ⟨D, off, none⟩) 64 cap (by rw [Tryd.elemU8]; exact Tryd.underlying22) .i64 .i64 (lo : Int) ((lo : Int) + 4) (by omega) (by omega) (by omega), Tryd.elemU8, Tryd.sizeU8]
  simp only [Result.andThen_ok, sliced]
  rw [if_neg (by omega)]
  congr 2
  · simp [Addr.add]
  · omega

set_option maxRecDepth 100000 in
set_option maxHeartbeats 1600000 in
theorem rblock_any (w : World) (D off cap : Nat) (s : St) (hs : s.ok) (blk : List UInt8) (hl : blk.length = 64) (hc : 64 ≤ cap) (hcap : cap ≤ 9223372036854775807) (hD : D < w.heap.size)
    (hb : ∀ i (h : i < 64), w.cell? ⟨D, off + i, none⟩ = some (.int .u8 ((blk[i]'(by omega)).toNat : Int))) :
    Calls Tryd.prog 100 #[.agg (w8 s), .slice (some ⟨D, off, none⟩) 64 cap] w fun e w' => e = .returned (.agg (w8 (compress s blk))) ∧ Below w.heap.size w w' := by
  obtain ⟨ws, hws'⟩ : ∃ ws, Hid (ws = wordsOf blk) := ⟨_, Lib.hid rfl⟩
  have hwl : ws.length = 16 := by rw [hws'.out]; exact wordsOf_length 16 blk hl
  have hwlt : ∀ x ∈ ws, x < 4294967296 := by rw [hws'.out]; exact wordsOf_lt blk
  have HCALL : Hid (∀ w', Below w.heap.size w w' → ∀ k, k < 16 → Calls Tryd.prog 104 #[.slice (some ⟨D, off + 4 * k, none⟩) 4 (cap - 4 * k)] w' fun e w'' => e = .returned (.int .u32 ((ws.getD k 0 : Nat) : Int)) ∧ ∃ j, w'' = w'.drewN j) := Lib.hid fun w' hb' k hk => by
    have cell : ∀ i (h : i < 64), w'.cell? ⟨D, off + i, none⟩ = some (.int .u8 ((blk[i]'(by omega)).toNat : Int)) := fun i hi => by
      rw [World.cell?_of_block (w := w) (a := ⟨D, off + i, none⟩) (hb'.block D hD)]; exact hb i hi
    have e2 : ws.getD k 0 = be32 blk[4 * k] blk[4 * k + 1] blk[4 * k + 2] blk[4 * k + 3] := by
      have hh := hws'.out
      subst hh
      rw [show (wordsOf blk).getD k 0 = (wordsOf blk)[k]'(by omega) from by simp [List.getD, hwl, hk]]
      exact wordsOf_get 16 blk k hl hk
    rw [e2]
    exact rword_any w' D (off + 4 * k) (cap - 4 * k) _ _ _ _ (cell (4 * k) (by omega)) (by rw [Nat.add_assoc]; exact cell (4 * k + 1) (by omega)) (by rw [Nat.add_assoc]; exact cell (4 * k + 2) (by omega)) (by rw [Nat.add_assoc]; exact cell (4 * k + 3) (by omega))
  have HSTART := Lib.hid (Blk.start w s)
  clear hb
  have hrow : (((w.alloc (.cells (w8 s) 112)).alloc (.cells z8 112)).alloc (.cells z64 127)).heap[w.heap.size + 1 + 1]? = some (.cells z64 127 (0, 0)) := by rw [HSTART.out.a, z64_eq]
  go_enter Tryd.func100, Tryd.ntmps100
  go_wp2_with (refine wpList_store_row rfl 127 (.tmp 5) (.tmp 22) rfl (w.heap.size + 1 + 1) z64 rfl rfl 127 z64 hrow z_size rfl z_one ?_; change wpList _ _ _ _ _ ((((w.alloc (.cells (w8 s) 112)).alloc (.cells z8 112)).alloc (.cells z64 127)).setRow (w.heap.size + 1 + 1) z64); rw [setRow_self _ _ _ _ _ hrow])
  have HSTART2 := HSTART.out
  clear HSTART hrow
  generalize ((w.alloc (.cells (w8 s) 112)).alloc (.cells z8 112)).alloc (.cells z64 127) = w0 at *
  go_loopw [6] (fun i wr => ∃ k : Nat, k ≤ 16 ∧ i = .int .i64 k ∧ Blk w s (ws.take k ++ List.replicate (64 - k) 0) wr) (fun i _ => 16 - (intOf i).toNat)
  case atStart => exact ⟨0, by omega, rfl, HSTART2⟩
  case round =>
    clear HSTART2
    obtain ⟨k, hk, rfl, hf⟩ := hrel
    by_cases hlt : k < 16
    · have hsl := fun w => slice_part D off cap (4 * k) hc hcap (by omega) w
      have e4 : ((4 * k : Nat) : Int) = 4 * (k : Int) := by omega
      rw [e4] at hsl
      obtain ⟨x, hx⟩ : ∃ x, Hid (ws.getD k 0 = x) := ⟨_, Lib.hid rfl⟩
      have h1 := HCALL.out wr hf.below k hlt
      rw [hx.out] at h1
      have H1 := Lib.hid h1
      have HF := Lib.hid hf
      have hold := wrow_cell hf.a (j := k) (by simp; omega)
      have hfree : wr.frozen? ⟨w.heap.size + 1 + 1, k, none⟩ = false := frozen_at hf.a
      obtain ⟨y, hy⟩ : ∃ y, Hid ((ws.take k ++ List.replicate (64 - k) 0).getD k 0 = y) := ⟨_, Lib.hid rfl⟩
      rw [hy.out] at hold
      clear e4 h1 hf
      go_wp2_with fail
      refine H1.out.mono ?_
      rintro e w' ⟨rfl, j, rfl⟩
      have HF2 := Lib.hid (HF.out.drewN j)
      go_wp2_with fail
      refine ⟨⟨k + 1, by omega, by go_num, ?_⟩, by simp [intOf]; omega⟩
      exact HF2.out.set k x (by rw [← hx.out]; exact filled_set hwl k hlt)
    · have hk16 : k = 16 := by omega
      subst hk16
      have hf2 := hf
      rw [show ws.take 16 = ws from List.take_of_length_le (by omega)] at hf2
      have HF := Lib.hid hf2
      clear hf hf2
      go_wp2_with fail
      go_loopw [7] (fun i wr => ∃ t : Nat, 16 ≤ t ∧ t ≤ 64 ∧ i = .int .i64 t ∧ Blk w s (sched (t - 16) ws ++ List.replicate (64 - t) 0) wr) (fun i _ => 64 - (intOf i).toNat)
      case atStart => exact ⟨16, by omega, by omega, rfl, HF.out⟩
      case round =>
        clear HF
        obtain ⟨t, ht16, ht64, rfl, hf⟩ := hrel
        by_cases hlt : t < 64
        · have hr := hf.a
          obtain ⟨C, hC⟩ : ∃ C, C = sched (t - 16) ws ++ List.replicate (64 - t) 0 := ⟨_, rfl⟩
          rw [← hC] at hr
          have hsl : (sched (t - 16) ws).length = t := by rw [sched_length, hwl]; omega
          have hCl : C.length = 64 := by rw [hC]; simp; omega
          have hlt4 := sched_lt (t - 16) ws hwlt
          have hC4 : ∀ (j : Nat) (hj : j < 64), C.getD j 0 < 4294967296 := fun j hj => by
            have : C.getD j 0 = C[j] := by simp [List.getD, hCl, hj]
            rw [this]
            subst hC
            rw [List.getElem_append]
            split
            · exact hlt4 _ (List.getElem_mem _)
            · rw [List.getElem_replicate]; decide
          have c15 := wrow_cell hr (j := t - 15) (by omega)
          have c2 := wrow_cell hr (j := t - 2) (by omega)
          obtain ⟨T16, hT16⟩ : ∃ T, T = t - 16 := ⟨_, rfl⟩
          obtain ⟨T7, hT7⟩ : ∃ T, T = t - 7 := ⟨_, rfl⟩
          have c16 := wrow_cell hr (j := T16) (by omega)
          have c7 := wrow_cell hr (j := T7) (by omega)
          have c0 := wrow_cell hr (j := t) (by omega)
          obtain ⟨x15, h15⟩ : ∃ x, x = C.getD (t - 15) 0 := ⟨_, rfl⟩
          obtain ⟨x2, h2⟩ : ∃ x, x = C.getD (t - 2) 0 := ⟨_, rfl⟩
          obtain ⟨x16, h16⟩ : ∃ x, x = C.getD (T16) 0 := ⟨_, rfl⟩
          obtain ⟨x7, h7⟩ : ∃ x, x = C.getD (T7) 0 := ⟨_, rfl⟩
          obtain ⟨x0, h0⟩ : ∃ x, x = C.getD t 0 := ⟨_, rfl⟩
          have b15 : x15 < 4294967296 := by rw [h15]; exact hC4 _ (by omega)
          have b2 : x2 < 4294967296 := by rw [h2]; exact hC4 _ (by omega)
          rw [← h15] at c15; rw [← h2] at c2; rw [← h16] at c16; rw [← h7] at c7; rw [← h0] at c0
          have hfree : wr.frozen? ⟨w.heap.size + 1 + 1, t, none⟩ = false := frozen_at hr
          have b16 : (T16 : Int) < 64 := by omega
          have b7' : (T7 : Int) < 64 := by omega
          have i16 : IntKind.i64.wrap ((t : Int) - 16) = (T16 : Int) := by rw [hT16]; rw [IntWalk.i64_in _ (by omega)]; omega
          have i7 : IntKind.i64.wrap ((t : Int) - 7) = (T7 : Int) := by rw [hT7]; rw [IntWalk.i64_in _ (by clear i16; omega)]; clear i16; omega
          have H15 := Lib.hid h15; have H2 := Lib.hid h2; have HC := Lib.hid hC
          have H16 := Lib.hid h16; have H7 := Lib.hid h7; have HT16 := Lib.hid hT16; have HT7 := Lib.hid hT7
          have HF := Lib.hid hf
          clear hC4 hlt4 h15 h2 hC h16 h7 hT16 hT7 hf hr h0
          go_wp2_with fail
          refine wp_region_quiet_tail (fun w' => ∃ n, w' = wr.drewN n) 29 (by kernel_rfl) (by kernel_rfl) ⟨1, rfl⟩ ?_
          simp only [List.take_succ_cons, List.take_zero, List.drop_succ_cons, List.drop_zero]
          repeat (quiet_step (first | (with_reducible exact Calls.quiet_of (ror_7 x15 b15 _)) | (with_reducible exact Calls.quiet_of (ror_18 x15 b15 _)) | (with_reducible exact Calls.quiet_of (ror_17 x2 b2 _)) | (with_reducible exact Calls.quiet_of (ror_19 x2 b2 _))))
          refine wpQuiet_nil ?_
          rintro w' ⟨nq, rfl⟩
          have HF2 := Lib.hid (HF.out.drewN nq)
          clear c15 c2 c16 c7
          go_wp2_with fail
          refine ⟨?_, by simp [intOf]; omega⟩
          refine ⟨_, _, _, _, _, _, _, _, _, _, _, _, _, _, _, _, _, _, _, _, _, _, _, _, _, _, _, _, _, _, _, _, _, _, _, _, _, _, _, _, _, _, _, _, ?_, rfl⟩
          refine ⟨t + 1, by omega, by omega, by go_num, ?_⟩
          rw [nextF_bits x16 x15 x7 x2 b15 b2]
          refine HF2.out.set t _ ?_
          rw [H15.out, H2.out, H16.out, H7.out, HT16.out, HT7.out, HC.out]
          exact sched_set hwl t ht16 hlt
        · have ht : t = 64 := by omega
          subst ht
          obtain ⟨W, hW⟩ : ∃ W, Hid (W = sched 48 ws) := ⟨_, Lib.hid rfl⟩
          have hf' : Blk w s W wr := by
            have h := hf
            rw [show sched (64 - 16) ws ++ List.replicate (64 - 64) 0 = W from by rw [hW.out]; simp] at h
            exact h
          have HF := Lib.hid hf'
          have hWl : W.length = 64 := by rw [hW.out, sched_length, hwl]
          clear hf hf'
          go_wp2_with fail
          refine (numbers_any _).mono ?_
          rintro e w1 ⟨rfl, hb1⟩
          have HF1 := Lib.hid (HF.out.step hb1)
          clear HF hb1
          have hrowk : (w1.alloc (.cells z64 127)).heap[w1.heap.size]? = some (.cells z64 127 (0, 0)) := heap_alloc_new _ _
          have hB2 : Blk3 w s W w1.heap.size (w1.alloc (.cells (wrow kTab) 127)) := ⟨HF1.out.step ((Below.refl _ _).alloc (Nat.le_refl _) _), heap_alloc_new _ _⟩
          obtain ⟨r0, r1, r2, r3, r4, r5, r6, r7⟩ := eight_cells hB2.b.s
          have HB2 := Lib.hid hB2
          clear hB2
          go_wp2_with (refine wpList_store_row rfl 127 (.tmp 10) (.tmp 78) rfl w1.heap.size (wrow kTab) rfl rfl 127 z64 hrowk k_size rfl k_one ?_; rw [World.setRow_alloc_new])
          clear hrowk
          generalize w1.alloc (.cells (wrow kTab) 127) = w2 at *
          generalize w1.heap.size = N at *
          go_quiet (fail)
          go_wp2_with fail
          have HB3 := Lib.hid (HB2.out.drewN nq)
          clear r0 r1 r2 r3 r4 r5 r6 r7 HB2
          generalize w2.drewN nq = w3 at *
          go_loopw [11, 12, 13, 14, 15, 16, 17, 18, 19] (fun A B C D E F G H i wr => ∃ (t : Nat) (st : St), t ≤ 64 ∧ i = .int .i64 t ∧ Hid (st = rounds s (kTab.take t) (W.take t)) ∧ A = .int .u32 st.a ∧ B = .int .u32 st.b ∧ C = .int .u32 st.c ∧ D = .int .u32 st.d ∧ E = .int .u32 st.e ∧ F = .int .u32 st.f ∧ G = .int .u32 st.g ∧ H = .int .u32 st.h ∧ Blk3 w s W N wr) (fun _ _ _ _ _ _ _ _ i _ => 64 - (intOf i).toNat)
          case atStart => exact ⟨0, s, by omega, rfl, Lib.hid rfl, rfl, rfl, rfl, rfl, rfl, rfl, rfl, rfl, HB3.out⟩
          case round =>
            clear HB3
            obtain ⟨t, st, ht, rfl, hst, rfl, rfl, rfl, rfl, rfl, rfl, rfl, rfl, hf⟩ := hrel
            by_cases hlt : t < 64
            · have hok : st.ok := by rw [hst.out]; exact rounds_ok _ _ hs
              have cK := wrow_cell hf.k (j := t) (by rw [kTab_length]; omega)
              have cW := wrow_cell hf.b.a (j := t) (by omega)
              obtain ⟨kk, hkk⟩ : ∃ x, x = kTab.getD t 0 := ⟨_, rfl⟩
              obtain ⟨xx, hxx⟩ : ∃ x, x = W.getD t 0 := ⟨_, rfl⟩
              rw [← hkk] at cK; rw [← hxx] at cW
              have HK := Lib.hid hkk; have HX := Lib.hid hxx; have HF := Lib.hid hf
              have hae := hok.e; have haa := hok.a
              have HOK := Lib.hid hok
              clear hkk hxx hf hok
              go_wp2_with fail
              go_quiet (first | (with_reducible exact Calls.quiet_of (ror_6 st.e hae _)) | (with_reducible exact Calls.quiet_of (ror_11 st.e hae _)) | (with_reducible exact Calls.quiet_of (ror_25 st.e hae _)))
              clear cK cW
              go_wp2_with (go_at_call 105; first | ((with_reducible refine (ror_2 st.a haa _).mono ?_); rintro e w' ⟨rfl, j2, rfl⟩) | ((with_reducible refine (ror_13 st.a haa _).mono ?_); rintro e w' ⟨rfl, j13, rfl⟩) | ((with_reducible refine (ror_22 st.a haa _).mono ?_); rintro e w' ⟨rfl, j22, rfl⟩))
              rw [rp_bits st kk xx HOK.out, rq_bits st HOK.out]
              refine ⟨⟨t + 1, rnd st kk xx, by omega, by go_num, Lib.hid ?_, ?_, rfl, rfl, rfl, ?_, rfl, rfl, rfl, HF.out.drewN (nq + j2 + j13 + j22)⟩, by simp [intOf]; omega⟩
              · rw [rounds_succ t s kTab W (by rw [kTab_length]; omega) (by omega), ← hst.out,
                  show kTab[t]'(by rw [kTab_length]; omega) = kk from by rw [HK.out]; simp [List.getD, kTab_length, hlt], show W[t]'(by omega) = xx from by rw [HX.out]; simp [List.getD, hWl, hlt]]
              · congr 1
              · congr 1
            · have ht : t = 64 := by omega
              subst ht
              have e2 : kTab.take 64 = kTab := List.take_of_length_le (by rw [kTab_length]; omega)
              have e3 : W.take 64 = W := List.take_of_length_le (by omega)
              have HC : Hid (s.add st = compress s blk) := Lib.hid (by
                rw [hst.out, e2, e3, hW.out, hws'.out]; rfl)
              obtain ⟨r0, r1, r2, r3, r4, r5, r6, r7⟩ := eight_cells hf.b.s
              have hr := hf.b.r
              have hbl := Lib.hid hf.b.below
              clear hf e2 e3 hst
              go_wp2_with (refine wpList_store_row rfl 112 (.tmp 4) (.tmp 190) rfl (w.heap.size + 1) (w8e s st) rfl rfl 112 z8 hr (w8e_size s st) rfl (w8e_one s st) ?_)
              clear r0 r1 r2 r3 r4 r5 r6 r7
              have hr2 := setRow_heap _ _ _ (w8e s st) _ _ hr
              have hb2 := below_setRow hbl.out (show w.heap.size ≤ w.heap.size + 1 by omega) (w8e s st)
              rw [add_row, HC.out] at hr2 hb2 ⊢
              refine bodyPost_ret (v := .agg (w8 (compress s blk))) ?_ rfl ⟨rfl, hb2⟩
              exact results_cell_row rfl _ _ (w.heap.size + 1) 112 (w8 (compress s blk)) (0, 0) _ rfl hr2 Tryd.underlying112 rfl (s8_size _)

end Go.Proofs.YtjhecmmbpmpmgaaDoor

namespace Go.Proofs.YtjhecmmbpmpmgaaDoor
open Go.RowKit Go.Lib

theorem Row.step {w wr w' : World} {xs : List UInt8} {v : Value} (h : Row w xs v wr) (hb : Below wr.heap.size wr w') : Row w xs v w' := by
  refine ⟨?_, h.below.trans (hb.mono h.below.size), h.new⟩
  refine h.own.kept (World.grownBy.mk hb.os hb.tape hb.output hb.size (fun k hk _ => hb.block k hk) : World.grownBy wr w' none) (by cases v.ownBlock <;> simp)

theorem Row.form {w wr : World} {xs : List UInt8} {v : Value} (h : Row w xs v wr) : ∃ A c, v = .slice A xs.length c := by
  rcases h.own.2 with ⟨h1, h0⟩ | ⟨g, cap, cur, h1, _⟩
  · exact ⟨none, 0, by rw [h1, h0]⟩
  · exact ⟨some ⟨g, 0, none⟩, cap, h1⟩

theorem Row.nil (w : World) : Row w [] (.slice (some ⟨w.heap.size, 0, none⟩) 0 0) (w.alloc (.cells #[] 5)) :=
  ⟨World.ownsRow_lit w #[] 0 (Nat.zero_le _) (by decide) rfl, (Below.refl _ _).alloc (Nat.le_refl _) _, fun k hk => by simp [Value.ownBlock] at hk; omega⟩

theorem lenBytes_at (x m : Nat) (hm : m < 8) : (lenBytes x).take (7 - m) ++ [UInt8.ofNat (x / 256 ^ m % 256)] = (lenBytes x).take (7 - m + 1) := by
  match m, hm with
  | 0, _ => simp [lenBytes]
  | 1, _ => simp [lenBytes]
  | 2, _ => simp [lenBytes]
  | 3, _ => simp [lenBytes]
  | 4, _ => simp [lenBytes]
  | 5, _ => simp [lenBytes]
  | 6, _ => simp [lenBytes]
  | 7, _ => simp [lenBytes]

theorem one_byte (c : UInt8) : ∀ u ∈ ([.int .u8 (c.toNat : Int)] : List Value), u.oneCell' = true := by
  intro u hu
  obtain rfl := List.mem_singleton.1 hu
  rfl

set_option maxRecDepth 100000 in
set_option maxHeartbeats 1600000 in
theorem rpadded_any (w : World) (l : List UInt8) (b off cap : Nat) (hl0 : 0 < l.length) (hl : l.length ≤ 1000000000) (hA : At w l b off) :
    Calls Tryd.prog 99 #[.slice (some ⟨b, off, none⟩) l.length cap] w fun e w' => ∃ v, e = .returned v ∧ Row w (padded l) v w' := by
  obtain ⟨i0, hi, hz0, hz1, hz2⟩ := info_parts Tryd.dInfoU8
  obtain ⟨n, hn⟩ : ∃ n, Hid (n = l.length) := ⟨_, Lib.hid rfl⟩
  have R0 := Row.nil w
  have hnews := (hA.below (show Below w.heap.size w (w.alloc (.cells #[] 5)) from (Below.refl _ _).alloc (Nat.le_refl _) _)).news
  have hown := R0.own
  have HR0 := Lib.hid R0
  rw [← hn.out] at hl0 hl ⊢
  clear hA R0
  go_enter Tryd.func99, Tryd.ntmps99
  go_wp2_with (first | (at_builtin; refine wpList_app _ rfl _ _ 22 rfl 5 i0 (.int .u8 0) 1 1 Tryd.underlying22 hi hz0 hz1 hz2 rfl (by decide) _ _ _ rfl hown ⟨b, off, none⟩ n cap (bc l) rfl (by rw [bc_len, Nat.mul_one, hn.out]) hnews d_bc_one (by unfold maxLen; simp; omega) (by simp; omega) ?_; intro v3 w3 hown3 hwr3 _; have R3 := HR0.out.app (ys := l) (by rw [← hn.out]; exact hown3) hwr3; clear hown hown3 hwr3 hnews HR0; have R4 := R3.step ((Below.refl _ _).alloc (Nat.le_refl _) (.cells #[.int .u8 128] 5)); have hown4 := R4.own; rw [List.nil_append, ← hn.out] at hown4; have HR4 := Lib.hid R4; clear R3 R4) | (at_builtin; refine wpList_app _ rfl _ _ 22 rfl 5 i0 (.int .u8 0) 1 1 Tryd.underlying22 hi hz0 hz1 hz2 rfl (by decide) _ _ _ rfl hown4 ⟨w3.heap.size, 0, none⟩ 1 1 (bc [128]) rfl rfl (World.news_of_block (heap_alloc_new w3 _)) d_bc_one (by unfold maxLen; simp; omega) (by simp; omega) ?_; intro v5 w5 hown5 hwr5 _; have R5 := HR4.out.app (ys := [128]) (by rw [List.nil_append, ← hn.out]; exact hown5) hwr5; have HR5 := Lib.hid R5; clear hown4 hown5 hwr5 HR4 R5))
  rw [List.nil_append] at HR5
  obtain ⟨p, hp⟩ : ∃ p, Hid (p = padZ n) := ⟨_, Lib.hid rfl⟩
  have hpz : p < 64 ∧ (n + 1 + p) % 64 = 56 ∧ ∀ j, j < p → (n + 1 + j) % 64 ≠ 56 := by
    rw [hp.out]; unfold padZ; refine ⟨by omega, by omega, fun j hj => by omega⟩
  go_loopw [3] (fun v wr => ∃ j, j ≤ p ∧ Row w (l ++ 128 :: List.replicate j 0) v wr) (fun v _ => match v with | .slice _ k _ => n + 1 + p - k | _ => 0)
  case atStart => exact ⟨0, by omega, HR5.out⟩
  case round =>
    clear HR5
    obtain ⟨j, hj, hR⟩ := hrel
    obtain ⟨A, c, rfl⟩ := hR.form
    have hlen : (l ++ 128 :: List.replicate j 0).length = n + 1 + j := by simp [← hn.out]; omega
    rw [hlen] at hR ⊢
    have HR := Lib.hid hR
    by_cases hlt : j < p
    · have h56 := hpz.2.2 j hlt
      have t1 : (((n + 1 + j : Nat) : Int) % 64 != 56) = true := by simp; omega
      have R2 := hR.step ((Below.refl _ _).alloc (Nat.le_refl _) (.cells #[.int .u8 0] 5))
      have hown := R2.own
      rw [hlen] at hown
      have HR2 := Lib.hid R2
      clear hR R2 h56 HR
      go_wp2_with (at_builtin; refine wpList_app _ rfl _ _ 22 rfl 5 i0 (.int .u8 0) 1 1 Tryd.underlying22 hi hz0 hz1 hz2 rfl (by decide) _ _ _ rfl hown ⟨wr.heap.size, 0, none⟩ 1 1 (bc [0]) rfl rfl (World.news_of_block (heap_alloc_new wr _)) d_bc_one (by unfold maxLen; omega) (by omega) ?_; intro v6 w6 hown6 hwr6 _; have R6 := HR2.out.app (ys := [0]) (by rw [hlen]; exact hown6) hwr6; have HR6 := Lib.hid R6; clear hown hown6 hwr6 R6)
      obtain ⟨A6, c6, rfl⟩ := HR6.out.form
      refine ⟨⟨j + 1, by omega, ?_⟩, by have := hn.out; simp; omega⟩
      have e : (l ++ 128 :: List.replicate j 0) ++ [0] = l ++ 128 :: List.replicate (j + 1) 0 := by
        rw [List.append_assoc, List.cons_append, ← List.replicate_succ']
      rw [← e]; exact HR6.out
    · have hjp : j = p := by omega
      subst hjp
      have t1 : (((n : Int) + 1 + (j : Int)) % 64 != 56) = false := by simp; omega
      obtain ⟨N, hN⟩ : ∃ N, Hid (N = n * 8) := ⟨_, Lib.hid rfl⟩
      have hN2 : (n : Int) * 8 = (N : Int) := by rw [hN.out]; omega
      have hNb : N < 18446744073709551616 := by rw [hN.out]; omega
      have hw : IntKind.u64.wrap ((n : Int) * 8) = (N : Int) := by rw [hN2, IntKind.wrap_u64]; omega
      clear hR
      go_wp2_with fail
      go_loopw [3, 5] (fun v i wr => (∃ m : Nat, m < 8 ∧ i = .int .i64 m ∧ Row w (l ++ 128 :: (List.replicate j 0 ++ (lenBytes N).take (7 - m))) v wr) ∨ (i = .int .i64 (-1) ∧ Row w (l ++ 128 :: (List.replicate j 0 ++ lenBytes N)) v wr)) (fun _ i _ => (intOf i + 1).toNat)
      case atStart => exact .inl ⟨7, by omega, rfl, by simpa using HR.out⟩
      case round =>
        clear HR
        rcases hrel with ⟨m, hm, rfl, hR⟩ | ⟨rfl, hR⟩
        · obtain ⟨A, c, rfl⟩ := hR.form
          have t2 : decide ((m : Int) ≥ 0) = true := by simp
          rename World => w7
          obtain ⟨K, hK⟩ : ∃ K, Hid ((l ++ 128 :: (List.replicate j 0 ++ (lenBytes N).take (7 - m))).length = K) := ⟨_, Lib.hid rfl⟩
          have hKb : K < 2000000000 := by
            have := lenBytes_length N
            rw [← hK.out]; simp [← hn.out]; omega
          rw [hK.out] at hR ⊢
          obtain ⟨cb, hcb⟩ : ∃ cb, Hid (cb = UInt8.ofNat (N / 256 ^ m % 256)) := ⟨_, Lib.hid rfl⟩
          have hb7 : IntKind.u8.wrap ((N : Int) / (2 : Int) ^ (8 * m)) = (cb.toNat : Int) := by rw [hcb.out]; exact byte_shr N m
          have hb8 : (N : Int) / (2 : Int) ^ (8 * m) % 256 = (cb.toNat : Int) := by rw [← hb7, IntKind.wrap_u8]
          have R2 := hR.step ((Below.refl _ _).alloc (Nat.le_refl _) (.cells #[.int .u8 (cb.toNat : Int)] 5))
          have hown := R2.own
          rw [hK.out] at hown
          have HR2 := Lib.hid R2
          clear hR R2
          go_wp2_with (at_builtin; refine wpList_app _ rfl _ _ 22 rfl 5 i0 (.int .u8 0) 1 1 Tryd.underlying22 hi hz0 hz1 hz2 rfl (by decide) _ _ _ rfl hown ⟨w7.heap.size, 0, none⟩ 1 1 (bc [cb]) rfl rfl (World.news_of_block (heap_alloc_new w7 _)) d_bc_one (by unfold maxLen; omega) (by omega) ?_; intro v8 w8' hown8 hwr8 _; have R8 := HR2.out.app (ys := [cb]) (by rw [hK.out]; exact hown8) hwr8; have HR8 := Lib.hid R8; clear hown hown8 hwr8 R8)
          have hat := lenBytes_at N m hm
          rw [← hcb.out] at hat
          have e : (l ++ 128 :: (List.replicate j 0 ++ (lenBytes N).take (7 - m))) ++ [cb] = l ++ 128 :: (List.replicate j 0 ++ (lenBytes N).take (7 - m + 1)) := by
            rw [List.append_assoc, List.cons_append, List.append_assoc, hat]
          have HR9 := HR8.out
          rw [e] at HR9
          go_roundw
          case rel =>
            rcases Nat.eq_zero_or_pos m with h0 | h0
            · subst h0
              refine .inr ⟨by go_num, ?_⟩
              rw [show 7 - 0 + 1 = 8 from rfl, List.take_of_length_le (by rw [lenBytes_length]; omega)] at HR9
              exact HR9
            · refine .inl ⟨m - 1, by omega, by go_num, ?_⟩
              rw [show 7 - (m - 1) = 7 - m + 1 from by omega]
              exact HR9
          case measure => simp [intOf]
        · have HR := Lib.hid hR
          clear hR
          go_wp2_with fail
          go_ret
          refine ⟨_, rfl, ?_⟩
          unfold padded
          rw [← hn.out, ← hp.out, ← hN.out]
          exact HR.out

end Go.Proofs.YtjhecmmbpmpmgaaDoor

namespace Go.Proofs.YtjhecmmbpmpmgaaDoor
open Go.RowKit Go.Lib

/-- the loop's state: the result's block, the state's, the padded bytes -/
structure SumI (w : World) (s : St) (P : List UInt8) (g : Nat) (wr : World) : Prop where
  below : Below w.heap.size w wr
  z : wr.heap[w.heap.size]? = some (.cells zrow 47 (0, 0))
  s : wr.heap[w.heap.size + 1]? = some (.cells (w8 s) 112 (0, 0))
  p : At wr P g 0
  ne : w.heap.size + 1 < g

theorem SumI.step {w wr w' : World} {s : St} {P : List UInt8} {g : Nat} (h : SumI w s P g wr) (hb : Below wr.heap.size wr w') : SumI w s P g w' := by
  have := (Array.getElem?_eq_some_iff.1 h.s).1
  exact ⟨h.below.trans (hb.mono h.below.size), (hb.block _ (by omega)).trans h.z, (hb.block _ (by omega)).trans h.s, h.p.below hb, h.ne⟩

theorem At.frame {w w' : World} {l : List UInt8} {b off : Nat} (h : At w l b off) (hs : w.heap.size ≤ w'.heap.size) (hb : w'.heap[b]? = w.heap[b]?) : At w' l b off :=
  ⟨Nat.lt_of_lt_of_le h.lt hs, fun i hi => by rw [World.cell?_of_block (w := w) (a := ⟨b, off + i, none⟩) hb]; exact h.cell i hi⟩

theorem SumI.put {w wr : World} {s : St} {P : List UInt8} {g : Nat} (h : SumI w s P g wr) (s' : St) : SumI w s' P g (wr.setRow (w.heap.size + 1) (w8 s')) := by
  have hsz : (wr.setRow (w.heap.size + 1) (w8 s')).heap.size = wr.heap.size := by simp [World.setRow]
  have hne := h.ne
  refine ⟨below_setRow h.below (by omega) _, ?_, setRow_heap _ _ _ _ _ _ h.s, h.p.frame (by omega) ?_, h.ne⟩
  · exact (setRow_other _ _ _ _ (by omega)).trans h.z
  · exact setRow_other _ _ _ _ (by omega)

theorem slice_gen (D off len cap lo n : Nat) (hc : len ≤ cap) (hcap : cap ≤ 9223372036854775807) (hl : lo + n ≤ len) (w : World) (hlt : lo < cap := by omega) : (Instr.slice 22 (.slice (some ⟨D, off, none⟩) len cap) (some (.int .i64 lo)) (some (.int .i64 ((lo : Int) + (n : Nat)))) none).run Tryd.prog w = .ok (.slice (some ⟨D, off + lo, none⟩) n (cap - lo)) w := by
  rw [run_slice_lh w 22 (some ⟨D, off, none⟩) len cap (by rw [Tryd.elemU8]; exact Tryd.underlying22) .i64 .i64 (lo : Int) ((lo : Int) + (n : Nat)) (by omega) (by omega) (by omega), Tryd.elemU8, Tryd.sizeU8]
  simp only [Result.andThen_ok, sliced]
  rw [if_neg (by omega)]
  congr 2
  · simp [Addr.add]
  · omega

/-- the second loop's state: the digest's block, its first bytes written -/
structure DigI (w : World) (st : St) (G j : Nat) (wr : World) : Prop where
  below : Below w.heap.size w wr
  z : wr.heap[w.heap.size]? = some (.cells zrow 47 (0, 0))
  s : wr.heap[w.heap.size + 1]? = some (.cells (w8 st) 112 (0, 0))
  d : wr.heap[G]? = some (.cells (brow (st.out.take j ++ List.replicate (32 - j) 0)) 47 (0, 0))
  ne : w.heap.size + 1 < G

theorem dig_cell {w wr : World} {s : St} {G j : Nat} (h : DigI w s G j wr) (hj : j < 32) : wr.cell? ⟨G, j, none⟩ = some (.int .u8 0) := by
  have hl : s.out.length = 32 := rfl
  have := h.d
  simp [World.cell?, this, brow, bv]
  rw [List.getElem?_append_right (by simp [hl]; omega), List.getElem?_replicate, if_pos (by simp [hl]; omega)]

theorem out_at (s : St) : ∀ (j : Nat) (hj : j < 32), s.out[j]'(by rw [out_length]; exact hj) = UInt8.ofNat (s.toL.getD (j / 4) 0 / 2 ^ (24 - 8 * (j % 4)) % 256)
  | 0, _ => rfl
  | 1, _ => rfl
  | 2, _ => rfl
  | 3, _ => by rw [show (24 - 8 * (3 % 4)) = 0 from rfl, Nat.pow_zero, Nat.div_one]; rfl
  | 4, _ => rfl
  | 5, _ => rfl
  | 6, _ => rfl
  | 7, _ => by rw [show (24 - 8 * (7 % 4)) = 0 from rfl, Nat.pow_zero, Nat.div_one]; rfl
  | 8, _ => rfl
  | 9, _ => rfl
  | 10, _ => rfl
  | 11, _ => by rw [show (24 - 8 * (11 % 4)) = 0 from rfl, Nat.pow_zero, Nat.div_one]; rfl
  | 12, _ => rfl
  | 13, _ => rfl
  | 14, _ => rfl
  | 15, _ => by rw [show (24 - 8 * (15 % 4)) = 0 from rfl, Nat.pow_zero, Nat.div_one]; rfl
  | 16, _ => rfl
  | 17, _ => rfl
  | 18, _ => rfl
  | 19, _ => by rw [show (24 - 8 * (19 % 4)) = 0 from rfl, Nat.pow_zero, Nat.div_one]; rfl
  | 20, _ => rfl
  | 21, _ => rfl
  | 22, _ => rfl
  | 23, _ => by rw [show (24 - 8 * (23 % 4)) = 0 from rfl, Nat.pow_zero, Nat.div_one]; rfl
  | 24, _ => rfl
  | 25, _ => rfl
  | 26, _ => rfl
  | 27, _ => by rw [show (24 - 8 * (27 % 4)) = 0 from rfl, Nat.pow_zero, Nat.div_one]; rfl
  | 28, _ => rfl
  | 29, _ => rfl
  | 30, _ => rfl
  | 31, _ => by rw [show (24 - 8 * (31 % 4)) = 0 from rfl, Nat.pow_zero, Nat.div_one]; rfl
  | j + 32, h => absurd h (by omega)

theorem DigI.next {w wr : World} {s : St} {G j : Nat} (h : DigI w s G j wr) (hj : j < 32) : DigI w s G (j + 1) (wr.setCell ⟨G, j, none⟩ (.int .u8 (((s.toL.getD (j / 4) 0 : Nat) : Int) / 2 ^ (24 - 8 * (j % 4)) % 256))) := by
  have hne := h.ne
  have hl : s.out.length = 32 := rfl
  refine ⟨h.below.setCell (p := ⟨G, j, none⟩) (show w.heap.size ≤ G by omega) _, (Below.heap_setCell _ _ _ _ (show w.heap.size ≠ G by omega)).trans h.z, (Below.heap_setCell _ _ _ _ (show w.heap.size + 1 ≠ G by omega)).trans h.s, ?_, h.ne⟩
  rw [d_setCell_heap h.d]
  have e1 : Value.int .u8 (((s.toL.getD (j / 4) 0 : Nat) : Int) / 2 ^ (24 - 8 * (j % 4)) % 256) = bv (s.out[j]'(by omega)) := by
    rw [out_at s j hj, bv]
    congr 1
    rw [UInt8.toNat_ofNat', Nat.mod_mod]
    simp
  have e2 : (s.out.take j ++ List.replicate (32 - j) 0).set j (s.out[j]'(by omega)) = s.out.take (j + 1) ++ List.replicate (32 - (j + 1)) 0 := by
    rw [List.set_append_right _ _ (by simp [hl]; omega), List.length_take, Nat.min_eq_left (by omega), Nat.sub_self, show 32 - j = (32 - (j + 1)) + 1 from by omega, List.replicate_succ, List.set_cons_zero, List.take_succ_eq_append_getElem (by omega), List.append_assoc, List.singleton_append]
  rw [e1, ← e2, brow, brow, List.setIfInBounds_toArray, List.map_set]

theorem w8_row (s : St) : #[Value.int .u32 (s.a : Int), .int .u32 s.b, .int .u32 s.c, .int .u32 s.d, .int .u32 s.e, .int .u32 s.f, .int .u32 s.g, .int .u32 s.h] = w8 s := rfl

set_option maxRecDepth 100000 in
set_option maxHeartbeats 1600000 in
theorem rsum_any (w : World) (l : List UInt8) (b off cap : Nat) (hl0 : 0 < l.length) (hl : l.length ≤ 1000000000) (hA : At w l b off) :
    Calls Tryd.prog 89 #[.slice (some ⟨b, off, none⟩) l.length cap] w fun e w' => e = .returned (dig (sha l)) ∧ Below w.heap.size w w' := by
  have hb0 : Below w.heap.size w ((w.alloc (.cells zrow 47)).alloc (.cells (w8 st0) 112)) := ((Below.refl _ _).alloc (Nat.le_refl _) _).alloc (by simp) _
  have hz0 : ((w.alloc (.cells zrow 47)).alloc (.cells (w8 st0) 112)).heap[w.heap.size]? = some (.cells zrow 47 (0, 0)) := by rw [Below.heap_alloc _ _ _ (by simp), heap_alloc_new]
  have hs0 : ((w.alloc (.cells zrow 47)).alloc (.cells (w8 st0) 112)).heap[w.heap.size + 1]? = some (.cells (w8 st0) 112 (0, 0)) := by
    rw [show w.heap.size + 1 = (w.alloc (.cells zrow 47)).heap.size from by simp, heap_alloc_new]
  have hc0 := rpadded_any ((w.alloc (.cells zrow 47)).alloc (.cells (w8 st0) 112)) l b off cap hl0 hl (hA.below hb0)
  have hsz0 : ((w.alloc (.cells zrow 47)).alloc (.cells (w8 st0) 112)).heap.size = w.heap.size + 2 := by simp
  obtain ⟨n, hn⟩ : ∃ n, Hid (n = l.length) := ⟨_, Lib.hid rfl⟩
  rw [← hn.out] at hc0 ⊢
  have HC := Lib.hid hc0
  have H0 := Lib.hid (And.intro hb0 (And.intro hz0 (And.intro hs0 hsz0)))
  clear hc0 hb0 hz0 hs0 hsz0 hA
  go_enter Tryd.func89, Tryd.ntmps89
  go_wp2_with fail
  change Calls _ _ _ ((w.alloc (.cells zrow 47)).alloc (.cells (w8 st0) 112)) _
  refine HC.out.mono ?_
  rintro e w3 ⟨v3, rfl, hR⟩
  obtain ⟨M, hM⟩ : ∃ M, Hid ((padded l).length = 64 * M) := ⟨l.length / 64 + lastN l.length, Lib.hid (by rw [padded_split, List.length_append, lastB_length, List.length_take, Nat.min_eq_left (by omega)]; omega)⟩
  have hM1 : 0 < M ∧ M < 100000000 := by
    have h1 := hM.out
    rw [padded_split, List.length_append, lastB_length, List.length_take, Nat.min_eq_left (by omega)] at h1
    unfold lastN at h1
    split at h1 <;> omega
  obtain ⟨g, c, hg⟩ : ∃ g c, v3 = .slice (some ⟨g, 0, none⟩) (64 * M) c ∧ 64 * M ≤ c ∧ c ≤ 9223372036854775807 := by
    rcases hR.own.2 with ⟨h1, h2⟩ | ⟨g, cap, cur, h1, _, _, hnc, hcm, _⟩
    · exact absurd h2 (by rw [hM.out]; omega)
    · exact ⟨g, cap, by rw [h1, hM.out], by rw [← hM.out]; exact hnc, by unfold maxLen at hcm; omega⟩
  obtain ⟨rfl, hc1, hc2⟩ := hg
  have hI : SumI w st0 (padded l) g w3 := by
    obtain ⟨h1, h2, h3, h4⟩ := H0.out
    have hb := hR.below
    have hnew := hR.new g rfl
    rw [h4] at hnew hb
    have hcells := hR.own.cells (g := g) rfl
    have hgw : g < w3.heap.size := by
      have h0 : 0 < (padded l).length := by rw [hM.out]; omega
      have := hcells 0 (.int .u8 ((padded l)[0].toNat : Int)) (by simp [bc, List.getElem?_eq_getElem h0])
      exact World.block_lt_of_cell? w3 _ this
    refine ⟨h1.trans (hb.mono (by omega)), (hb.block _ (by omega)).trans h2, (hb.block _ (by omega)).trans h3, ⟨hgw, fun i hi => ?_⟩, by omega⟩
    have := hcells i (.int .u8 ((padded l)[i].toNat : Int)) (by simp [bc, List.getElem?_eq_getElem hi])
    rw [Go.WideShapes.add_plain] at this
    exact this
  have HI := Lib.hid hI
  clear hR hI
  go_wp2_with fail
  go_loopw [5] (fun i wr => ∃ k, k ≤ M ∧ i = .int .i64 (64 * (k : Int)) ∧ SumI w (absorbs k st0 (padded l)) (padded l) g wr) (fun i _ => 64 * M - (intOf i).toNat)
  case atStart => exact ⟨0, by omega, rfl, HI.out⟩
  case round =>
    clear HI
    obtain ⟨k, hk, rfl, hI⟩ := hrel
    by_cases hlt : k < M
    · obtain ⟨s, hs⟩ : ∃ s, Hid (s = absorbs k st0 (padded l)) := ⟨_, Lib.hid rfl⟩
      obtain ⟨s', hs'⟩ : ∃ s, Hid (s = absorbs (k + 1) st0 (padded l)) := ⟨_, Lib.hid rfl⟩
      rw [← hs.out] at hI
      have hok : s.ok := by rw [hs.out]; exact absorbs_ok _ _ _ st0_ok
      have HBK : Hid (∀ wi, SumI w s (padded l) g wi → Calls Tryd.prog 100 #[.agg (w8 s), .slice (some ⟨g, 64 * k, none⟩) 64 (c - 64 * k)] wi fun e w' => e = .returned (.agg (w8 s')) ∧ SumI w s (padded l) g w') := Lib.hid fun wi hi => by
        have hpl := hM.out
        have hb := rblock_any wi g (64 * k) (c - 64 * k) s hok (((padded l).drop (64 * k)).take 64) (by rw [List.length_take, List.length_drop]; omega) (by omega) (by omega) hi.p.lt (fun i hi' => by
          have := hi.p.cell (64 * k + i) (by omega)
          rw [Nat.zero_add] at this
          rw [this]; simp)
        refine hb.mono ?_
        rintro e w' ⟨rfl, hb'⟩
        refine ⟨?_, hi.step hb'⟩
        rw [hs'.out, absorbs_succ', ← hs.out]
      have hsl : ∀ w', (Instr.slice 22 (.slice (some ⟨g, 0, none⟩) (64 * M) c) (some (.int .i64 (64 * (k : Int)))) (some (.int .i64 (64 * (k : Int) + 64))) none).run Tryd.prog w' = .ok (.slice (some ⟨g, 64 * k, none⟩) 64 (c - 64 * k)) w' := fun w' => by
        have h := slice_gen g 0 (64 * M) c (64 * k) 64 hc1 hc2 (by omega) w'
        rw [Nat.zero_add, show ((64 * k : Nat) : Int) = 64 * (k : Int) from by omega, show (((64 : Nat) : Int)) = 64 from rfl] at h
        exact h
      have t0 : decide (64 * (k : Int) < 64 * (M : Int)) = true := by simp; omega
      have SD := Lib.hid (hI.step (Below.refl _ _).drew)
      have HI := Lib.hid hI
      have E8 : Hid (∀ wi, SumI w s (padded l) g wi → wi.cell? ⟨w.heap.size + 1, 0, none⟩ = some (.int .u32 (s.a : Int)) ∧ wi.cell? ⟨w.heap.size + 1, 1, none⟩ = some (.int .u32 (s.b : Int)) ∧ wi.cell? ⟨w.heap.size + 1, 2, none⟩ = some (.int .u32 (s.c : Int)) ∧ wi.cell? ⟨w.heap.size + 1, 3, none⟩ = some (.int .u32 (s.d : Int)) ∧ wi.cell? ⟨w.heap.size + 1, 4, none⟩ = some (.int .u32 (s.e : Int)) ∧ wi.cell? ⟨w.heap.size + 1, 5, none⟩ = some (.int .u32 (s.f : Int)) ∧ wi.cell? ⟨w.heap.size + 1, 6, none⟩ = some (.int .u32 (s.g : Int)) ∧ wi.cell? ⟨w.heap.size + 1, 7, none⟩ = some (.int .u32 (s.h : Int))) := Lib.hid fun wi hi => eight_cells hi.s
      have hw : IntKind.i64.wrap (64 * (k : Int) + 64) = 64 * (k : Int) + 64 := IntWalk.i64_in _ (by omega)
      clear hI hok
      go_wp2_with fail
      refine wp_region_quiet_tail (SumI w s (padded l) g) 7 (by kernel_rfl) (by kernel_rfl) SD.out ?_
      simp only [List.take_succ_cons, List.take_zero, List.drop_succ_cons, List.drop_zero]
      refine quiet_op rfl (.agg (w8 s)) (fun wi hi => ?_) ?_
      · obtain ⟨q0, q1, q2, q3, q4, q5, q6, q7⟩ := eight_cells hi.s
        go_simp
        rfl
      simp only [Act.put, List.setIfInBounds_toArray, List.set_cons_zero, List.set_cons_succ]
      refine quiet_op rfl (.slice (some ⟨g, 0, none⟩) (64 * M) c) (fun wi hi => by go_simp) ?_
      simp only [Act.put, List.setIfInBounds_toArray, List.set_cons_zero, List.set_cons_succ]
      refine quiet_op rfl (.int .i64 (64 * (k : Int))) (fun wi hi => by go_simp) ?_
      simp only [Act.put, List.setIfInBounds_toArray, List.set_cons_zero, List.set_cons_succ]
      refine quiet_op rfl (.int .i64 (64 * (k : Int))) (fun wi hi => by go_simp) ?_
      simp only [Act.put, List.setIfInBounds_toArray, List.set_cons_zero, List.set_cons_succ]
      refine quiet_op rfl (.int .i64 (64 * (k : Int) + 64)) (fun wi hi => by go_simp) ?_
      simp only [Act.put, List.setIfInBounds_toArray, List.set_cons_zero, List.set_cons_succ]
      refine quiet_op rfl (.slice (some ⟨g, 64 * k, none⟩) 64 (c - 64 * k)) (fun wi hi => by go_simp) ?_
      simp only [Act.put, List.setIfInBounds_toArray, List.set_cons_zero, List.set_cons_succ]
      refine quiet_enter rfl 100 #[.agg (w8 s), .slice (some ⟨g, 64 * k, none⟩) 64 (c - 64 * k)] (.agg (w8 s')) (fun wi hi => by go_simp) HBK.out ?_
      simp only [Act.put, List.setIfInBounds_toArray, List.set_cons_zero, List.set_cons_succ]
      refine wpQuiet_nil ?_
      intro w2 hi2
      have hs2 := hi2.s
      have HI2 := Lib.hid (hi2.put s')
      clear hi2
      go_wp2_with (refine wpList_store_row rfl 112 (.tmp 3) (.tmp 23) rfl (w.heap.size + 1) (w8 s') rfl rfl 112 (w8 s) hs2 (s8_size s') rfl (s8_one s') ?_)
      refine ⟨⟨k + 1, by omega, by go_num, by rw [← hs'.out]; exact HI2.out⟩, by simp [intOf]; omega⟩
    · have hkM : k = M := by omega
      subst hkM
      obtain ⟨fin, hfin⟩ : ∃ fin, Hid (fin = absorbs k st0 (padded l)) := ⟨_, Lib.hid rfl⟩
      rw [← hfin.out] at hI
      have HSHA : Hid (sha l = fin.out) := Lib.hid (by unfold sha; rw [hM.out, Nat.mul_div_cancel_left _ (by decide : 0 < 64), hfin.out])
      have hok : fin.ok := by rw [hfin.out]; exact absorbs_ok _ _ _ st0_ok
      have hrow : (wr.alloc (.cells zrow 47)).heap[wr.heap.size]? = some (.cells zrow 47 (0, 0)) := heap_alloc_new _ _
      have hI2 := hI.step (w' := wr.alloc (.cells zrow 47)) ((Below.refl _ _).alloc (Nat.le_refl _) _)
      have hlt := (Array.getElem?_eq_some_iff.1 hI.s).1
      have HI2 := Lib.hid hI2
      have t0 : decide (64 * (k : Int) < 64 * (k : Int)) = false := by simp
      clear hI hI2
      go_wp2_with (refine wpList_store_row rfl 47 (.tmp 6) (.tmp 24) rfl wr.heap.size zrow rfl rfl 47 zrow hrow (by kernel_rfl) rfl (by kernel_rfl) ?_; change wpList _ _ _ _ _ ((wr.alloc (.cells zrow 47)).setRow wr.heap.size zrow); rw [setRow_self _ _ _ _ _ hrow])
      have hD0 : DigI w fin wr.heap.size 0 (wr.alloc (.cells zrow 47)) := ⟨HI2.out.below, HI2.out.z, HI2.out.s, hrow, by omega⟩
      have HD0 := Lib.hid hD0
      clear hrow HI2 hD0
      generalize wr.alloc (.cells zrow 47) = w5 at *
      generalize wr.heap.size = G at *
      go_loopw [7] (fun i wr => ∃ j, j ≤ 32 ∧ i = .int .i64 (j : Nat) ∧ DigI w fin G j wr) (fun i _ => 32 - (intOf i).toNat)
      case atStart => exact ⟨0, by omega, rfl, HD0.out⟩
      case round =>
        clear HD0
        obtain ⟨j, hj, rfl, hD⟩ := hrel
        by_cases hlt2 : j < 32
        · have hDs : wr.heap[w.heap.size + 1]? = some (.cells (wrow fin.toL) 112 (0, 0)) := hD.s
          have hcs := wrow_cell hDs (j := j / 4) (by simp only [St.toL, List.length_cons, List.length_nil]; omega)
          obtain ⟨x, hx⟩ : ∃ x, Hid (x = fin.toL.getD (j / 4) 0) := ⟨_, Lib.hid rfl⟩
          rw [← hx.out] at hcs
          have hc0 := dig_cell hD hlt2
          have hf0 : wr.frozen? ⟨G, j, none⟩ = false := frozen_at hD.d
          have HD := Lib.hid hD
          clear hD
          go_wp2_with fail
          refine ⟨⟨j + 1, by omega, by go_num, ?_⟩, by simp [intOf]; omega⟩
          rw [hx.out]
          exact HD.out.next hlt2
        · have hj32 : j = 32 := by omega
          subst hj32
          have hrd : wr.heap[G]? = some (.cells (brow fin.out) 47 (0, 0)) := by
            have := hD.d
            rw [List.take_of_length_le (by rw [out_length]; omega)] at this
            simpa using this
          have hrz := hD.z
          have hbl := hD.below
          clear hD
          have HB := Lib.hid hbl
          go_wp2_with (first | (refine wpList_load_row rfl 47 (.tmp 6) rfl G rfl 47 (brow fin.out) (0, 0) _ hrd Tryd.underlying47 rfl (dig_size fin) ?_) | (refine wpList_store_row rfl 47 (.tmp 2) (.tmp 41) rfl w.heap.size (brow fin.out) rfl rfl 47 zrow hrz (dig_size fin) rfl (dig_one fin) ?_))
          have hr2 := setRow_heap _ _ _ (brow fin.out) _ _ hrz
          have hb2 := below_setRow HB.out (Nat.le_refl _) (brow fin.out)
          refine bodyPost_ret (v := dig fin.out) ?_ rfl ⟨by rw [HSHA.out], hb2⟩
          exact results_cell_row rfl _ _ w.heap.size 47 (brow fin.out) (0, 0) _ rfl hr2 Tryd.underlying47 rfl (dig_size fin)

end Go.Proofs.YtjhecmmbpmpmgaaDoor

namespace Go.Proofs.YtjhecmmbpmpmgaaDoor
open Go.RowKit Go.Lib

theorem At.ofB0 {w : World} {L : List UInt8} {A : Option Addr} {n cap : Nat} (h : Bb w L (.slice A n cap)) (h0 : 0 < L.length) : ∃ b off, A = some ⟨b, off, none⟩ ∧ At w L b off := by
  obtain ⟨A', cap', e, _, _, hc⟩ := h
  injection e with e1 e2 e3
  subst e1
  obtain ⟨b, off, rfl, hb, hcell⟩ := hc h0
  exact ⟨b, off, rfl, hb, hcell⟩

set_option maxRecDepth 100000 in
set_option maxHeartbeats 1600000 in
theorem rtagged_any (w : World) (t : ByteArray) (ht0 : 0 < t.size) (ht : t.size ≤ 1000000) (l : List UInt8) (b off cap : Nat) (hl0 : 0 < l.length) (hl : l.length ≤ 100000000) (hA : At w l b off) :
    Calls Tryd.prog 63 #[.string t, .slice (some ⟨b, off, none⟩) l.length cap] w fun e w' => e = .returned (dig (tagged t l)) ∧ Below w.heap.size w w' := by
  obtain ⟨i0, hi, hz0, hz1, hz2⟩ := info_parts Tryd.dInfoU8
  have htl : t.data.toList.length = t.size := by simp
  obtain ⟨cap1, w2, hconv, hb2, hBb⟩ := str_bytes_b (w.alloc (.cells zrow 47)) t (by omega)
  rw [World.size_alloc] at hconv hBb
  have hb1 : Below w.heap.size w w2 := ((Below.refl _ _).alloc (Nat.le_refl _) _).trans (hb2.mono (by simp))
  have hz2' : w2.heap[w.heap.size]? = some (.cells zrow 47 (0, 0)) := by
    rw [hb2.block _ (by simp), heap_alloc_new]
  obtain ⟨bb, ob, hbe, hAt⟩ := At.ofB0 hBb (by omega)
  injection hbe with hbe
  have hc := rsum_any w2 t.data.toList bb ob cap1 (by omega) (by omega) hAt
  rw [← hbe, htl] at hc
  obtain ⟨n, hn⟩ : ∃ n, Hid (n = l.length) := ⟨_, Lib.hid rfl⟩
  rw [← hn.out] at hl0 hl ⊢
  have HA := Lib.hid hA
  have H1 := Lib.hid hb1
  have HZ := Lib.hid hz2'
  have HC := Lib.hid hc
  clear hA hb1 hz2' hb2 hBb hc hAt hbe
  unfold zrow at hconv
  go_enter Tryd.func63, Tryd.ntmps63
  go_wp2_with fail
  refine HC.out.mono ?_
  rintro e w3 ⟨rfl, hb3⟩
  have hsz2 : w.heap.size + 1 ≤ w2.heap.size := (Array.getElem?_eq_some_iff.1 HZ.out).1
  have hsz3 := hb3.size
  obtain ⟨T, hTd⟩ : ∃ T, Hid (T = sha t.data.toList) := ⟨_, Lib.hid rfl⟩
  rw [← hTd.out]
  have hTl : T.length = 32 := by rw [hTd.out]; rfl
  have h3 : Hid (Below w.heap.size w w3) := Lib.hid (H1.out.trans (hb3.mono (by omega)))
  have hz3 : Hid (w3.heap[w.heap.size]? = some (.cells zrow 47 (0, 0))) := Lib.hid ((hb3.block _ (by omega)).trans HZ.out)
  clear hb3 hconv
  have hA5 : (w3.alloc (.cells zrow 47)).heap[w3.heap.size]? = some (.cells zrow 47 (0, 0)) := heap_alloc_new _ _
  -- the world behind the literal of no bytes
  have hR0 := Row.nil (w3.alloc (.cells (brow T) 47))
  have hsz4 : (w3.alloc (.cells (brow T) 47)).heap.size = w3.heap.size + 1 := by simp
  rw [hsz4] at hR0
  have hown := hR0.own
  have hT0 : At ((w3.alloc (.cells (brow T) 47)).alloc (.cells #[] 5)) T w3.heap.size 0 := (At.ofRow (heap_alloc_new w3 (.cells (brow T) 47))).below ((Below.refl _ _).alloc (Nat.le_refl _) _)
  have hnews := hT0.news
  have HR0 := Lib.hid hR0
  clear hR0 hT0
  go_wp2_with (first
    | (refine wpList_store_row rfl 47 (.tmp 5) (.tmp 8) rfl w3.heap.size (brow T) rfl rfl 47 zrow hA5 (brow_size hTl) (by simp [brow, hTl, zrow]) (brow_one T) ?_; change wpList _ _ _ _ _ ((w3.alloc (.cells zrow 47)).setRow w3.heap.size (brow T)); rw [World.setRow_alloc_new])
    | (at_builtin; refine wpList_app _ rfl _ _ 22 rfl 5 i0 (.int .u8 0) 1 1 Tryd.underlying22 hi hz0 hz1 hz2 rfl (by decide) _ _ _ rfl hown ⟨w3.heap.size, 0, none⟩ 32 32 (bc T) rfl (by rw [bc_len, hTl]) hnews d_bc_one (by unfold maxLen; simp) (by simp) ?_; intro v5 w5 hown5 hwr5 _; have R5 := HR0.out.app (ys := T) (by rw [hTl]; exact hown5) hwr5; have hB5 := R5.below; rw [hsz4] at hB5; have hown6 := R5.own; have hAb := (HA.out.below h3.out).below (show Below w3.heap.size w3 w5 from ((Below.refl _ _).alloc (Nat.le_refl _) _).trans (hB5.mono (by omega))); have hnews6 := hAb.news; rw [List.nil_append, hTl] at hown6; have HR5 := Lib.hid R5; clear R5 hown hown5 hwr5 hnews hB5 hAb HR0)
    | (at_builtin; refine wpList_app _ rfl _ _ 22 rfl 5 i0 (.int .u8 0) 1 1 Tryd.underlying22 hi hz0 hz1 hz2 rfl (by decide) _ _ _ rfl hown6 ⟨b, off, none⟩ n cap (bc l) rfl (by rw [bc_len, Nat.mul_one, hn.out]) hnews6 d_bc_one (by unfold maxLen; omega) (by omega) ?_; intro v7 w7 hown7 hwr7 _; have R7 := HR5.out.app (ys := l) (by rw [List.nil_append, hTl, ← hn.out]; exact hown7) hwr7; have HR7 := Lib.hid R7; clear R7 hown6 hown7 hwr7 hnews6 HR5))
  have R7 := HR7.out
  rw [List.nil_append] at R7
  have hb7 := h3.out.trans (R7.below.mono (show w.heap.size ≤ (w3.alloc (.cells (brow T) 47)).heap.size by simp; omega) |> fun h => (show Below w.heap.size w3 (w3.alloc (.cells (brow T) 47)) from (Below.refl _ _).alloc (by omega) _).trans h)
  have hz7 : w7.heap[w.heap.size]? = some (.cells zrow 47 (0, 0)) := by
    rw [R7.below.block _ (by simp; omega), Below.heap_alloc _ _ _ (by omega)]; exact hz3.out
  have hBs := own_bs R7.own R7.new
  obtain ⟨A7, c7, rfl⟩ := R7.form
  obtain ⟨b7, o7, rfl, hA7⟩ := At.ofB0 hBs (by rw [List.length_append, hTl]; omega)
  refine (rsum_any w7 (T ++ l) b7 o7 c7 (by rw [List.length_append, hTl]; omega) (by rw [List.length_append, hTl, ← hn.out]; omega) hA7).mono ?_
  rintro e w8 ⟨rfl, hb8⟩
  have hlt7 : w.heap.size < w7.heap.size := (Array.getElem?_eq_some_iff.1 hz7).1
  have hz8 : w8.heap[w.heap.size]? = some (.cells zrow 47 (0, 0)) := (hb8.block _ hlt7).trans hz7
  have H8 := Lib.hid (hb7.trans (hb8.mono (by omega)))
  clear R7 HR7 hb7 hz7 hBs hA7 hb8
  go_wp2_with (refine wpList_store_row rfl 47 (.tmp 4) (.tmp 14) rfl w.heap.size (brow (sha (T ++ l))) rfl rfl 47 zrow hz8 (brow_size (sha_length _)) (by simp [brow, sha_length, zrow]) (brow_one _) ?_)
  have hz9 := setRow_heap _ _ _ (brow (sha (T ++ l))) _ _ hz8
  have hb9 := below_setRow H8.out (Nat.le_refl _) (brow (sha (T ++ l)))
  refine bodyPost_ret (v := dig (sha (T ++ l))) ?_ rfl ⟨by rw [hTd.out]; rfl, hb9⟩
  exact results_cell_row rfl _ _ w.heap.size 47 (brow (sha (T ++ l))) (0, 0) _ rfl hz9 Tryd.underlying47 rfl (brow_size (sha_length _))

theorem struck_at (T : List UInt8) (k : Nat) (hk : k < T.length) (h0 : 0 < k) : (struck T)[k]'(by rw [struck_length]; exact hk) = T[k] := by
  unfold struck
  rw [List.getElem_set_ne (by omega)]

theorem struck_zero (T : List UInt8) (h : 0 < T.length) : wpart (struck T) 1 = (T[0]'h).toNat % 128 := by
  match T, h with
  | a :: r, _ =>
    simp only [struck, List.headD_cons, List.set_cons_zero, wpart, List.take_succ_cons, List.take_zero, List.foldl_cons, List.foldl_nil, List.getElem_cons_zero]
    rw [UInt8.toNat_and, Nat.zero_mul, Nat.zero_add]
    exact Nat.and_two_pow_sub_one_eq_mod a.toNat 7

set_option maxRecDepth 100000 in
set_option maxHeartbeats 1600000 in
theorem rhash_any (w : World) (t : ByteArray) (ht0 : 0 < t.size) (ht : t.size ≤ 1000000) (l : List UInt8) (b off cap : Nat) (hl0 : 0 < l.length) (hl : l.length ≤ 100000000) (hA : At w l b off) :
    Calls Tryd.prog 49 #[.string t, .slice (some ⟨b, off, none⟩) l.length cap] w fun e w' => e = .returned (.int .i64 (hashn t l)) ∧ Below w.heap.size w w' := by
  have hcall := Lib.hid (rtagged_any w t ht0 ht l b off cap hl0 hl hA)
  obtain ⟨n, hn⟩ : ∃ n, Hid (n = l.length) := ⟨_, Lib.hid rfl⟩
  rw [← hn.out] at hcall ⊢
  clear hA
  go_enter Tryd.func49, Tryd.ntmps49
  go_wp2_with fail
  refine hcall.out.mono ?_
  rintro e w1 ⟨rfl, hb1⟩
  obtain ⟨T, hTd⟩ : ∃ T, Hid (T = tagged t l) := ⟨_, Lib.hid rfl⟩
  rw [← hTd.out]
  have hTl : T.length = 32 := by rw [hTd.out]; rfl
  have hA5 : (w1.alloc (.cells zrow 47)).heap[w1.heap.size]? = some (.cells zrow 47 (0, 0)) := heap_alloc_new _ _
  have hs1 := hb1.size
  have hrow : (w1.alloc (.cells (brow T) 47)).heap[w1.heap.size]? = some (.cells (brow T) 47 (0, 0)) := heap_alloc_new _ _
  have hb2 : Below w.heap.size w (w1.alloc (.cells (brow T) 47)) := hb1.alloc hs1 _
  have hcells : ∀ k (h : k < 32), (w1.alloc (.cells (brow T) 47)).cell? ⟨w1.heap.size, k, none⟩ = some (.int .u8 (((T[k]'(by omega)).toNat : Nat) : Int)) := fun k h => by
    have := (At.ofRow hrow).cell k (by omega)
    rw [Nat.zero_add] at this
    exact this
  have c0 := hcells 0 (by omega)
  obtain ⟨U, hU⟩ : ∃ U, Hid (U = struck T) := ⟨_, Lib.hid rfl⟩
  have hUl : U.length = 32 := by rw [hU.out, struck_length, hTl]
  have hU0 : (U[0]'(by omega)).toNat < 128 := by
    have hh := hU.out
    subst hh
    simp only [struck, List.getElem_set_self]
    rw [UInt8.toNat_and]
    exact Nat.lt_of_le_of_lt Nat.and_le_right (by decide)
  have hW1 : Hid (wpart U 1 = (T[0]'(by omega)).toNat % 128) := Lib.hid (by have hh := hU.out; subst hh; exact struck_zero T (by omega))
  have HRES : Hid (((wpart U 8 % 1073741789 : Nat) : Int) = (hashn t l : Nat)) := Lib.hid (by rw [hU.out, hTd.out]; rfl)
  obtain ⟨h0, hh0⟩ : ∃ h : Nat, Hid (h = (T[0]'(by omega)).toNat) := ⟨_, Lib.hid rfl⟩
  have hh1 : h0 < 256 := by rw [hh0.out]; exact UInt8.toNat_lt _
  rw [← hh0.out] at c0
  have HB2 := Lib.hid hb2
  have HCS := Lib.hid hcells
  clear hb1 hb2 hcells hrow
  go_wp2_with (refine wpList_store_row rfl 47 (.tmp 5) (.tmp 10) rfl w1.heap.size (brow T) rfl rfl 47 zrow hA5 (brow_size hTl) (by simp [brow, hTl, zrow]) (brow_one T) ?_; change wpList _ _ _ _ _ ((w1.alloc (.cells zrow 47)).setRow w1.heap.size (brow T)); rw [World.setRow_alloc_new])
  clear hA5 c0
  generalize w1.alloc (.cells (brow T) 47) = w3 at *
  go_loop [6, 7] (fun n i => ∃ k : Nat, 1 ≤ k ∧ k ≤ 8 ∧ i = .int .i64 k ∧ n = .int .i64 (wpart U k)) (fun _ i => 8 - (intOf i).toNat)
  case atStart => exact ⟨1, by omega, by omega, rfl, by rw [hW1.out, ← hh0.out]; rfl⟩
  case round =>
    obtain ⟨k, hk1, hk, rfl, rfl⟩ := hrel
    by_cases hlt : k < 8
    · have hcell := HCS.out k (by omega)
      have HS := Lib.hid (wpart_succ U k (by omega))
      have hUk : Hid ((U[k]'(by omega)).toNat = (T[k]'(by omega)).toNat) := Lib.hid (by
        have hh := hU.out
        subst hh
        rw [struck_at T k (by omega) (by omega)])
      have hb : (T[k]'(by omega)).toNat < 256 := UInt8.toNat_lt _
      have hw : wpart U k < 36028797018963968 := by
        obtain ⟨j, rfl⟩ : ∃ j, k = j + 1 := ⟨k - 1, by omega⟩
        have h1 := wpart_small (by omega) hU0 j
        have h2 : 256 ^ j ≤ 256 ^ 6 := Nat.pow_le_pow_right (by omega) (by omega)
        have h3 : 128 * 256 ^ 6 = 36028797018963968 := by decide
        omega
      obtain ⟨c, hc⟩ : ∃ c, Hid (c = (T[k]'(by omega)).toNat) := ⟨_, Lib.hid rfl⟩
      obtain ⟨m, hm⟩ : ∃ m, Hid (m = wpart U k) := ⟨_, Lib.hid rfl⟩
      rw [← hc.out] at hcell hb
      rw [← hm.out] at hw ⊢
      have HS2 : Hid (wpart U (k + 1) = m * 256 + c) := Lib.hid (by rw [HS.out, hUk.out, hc.out, hm.out])
      clear HS
      go_wp2_with fail
      exact ⟨⟨k + 1, by omega, by omega, by go_num, by rw [HS2.out]; go_num⟩, by simp [intOf]; omega⟩
    · have : k = 8 := by omega
      subst this
      go_wp2_with fail
      go_ret
      exact ⟨by rw [← HRES.out]; rfl, HB2.out⟩

end Go.Proofs.YtjhecmmbpmpmgaaDoor
