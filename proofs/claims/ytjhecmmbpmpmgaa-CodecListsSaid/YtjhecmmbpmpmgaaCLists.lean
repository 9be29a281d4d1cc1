/- What the law on lists keeps in memory: the bytes wanted, the zeros. -/
import Derived.Test.YtjhecmmbpmpmgaaCLawC
import Derived.Test.YtjhecmmbpmpmgaaPLists
namespace Go.Proofs.Ytjhecmmbpmpmgaa
open Go.RowKit Go.Lib

def zv : Value := .agg #[.int .i64 1, .int .i64 0, .string ByteArray.empty, .slice none 0 0]

theorem flat_zv (k : Nat) : flat (List.replicate (k + 1) zv) = flat (List.replicate k zv) ++ [.int .i64 1, .int .i64 0, .string ByteArray.empty, .slice none 0 0] := by
  rw [List.replicate_succ', flat, List.flatMap_append]
  simp [flat, zv, Value.cells]

structure LL (w : World) (l : List V) (kw kz : Nat) (want zeros : Value) (wr : World) : Prop where
  hb : Below w.heap.size w wr
  ow : wr.ownsRow 0 5 1 want (encL (l.take kw)).length (bc (encL (l.take kw)))
  oz : wr.ownsRow 0 24 4 zeros kz (flat (List.replicate kz zv))
  nw : ∀ b, want.ownBlock = some b → w.heap.size ≤ b
  nz : ∀ b, zeros.ownBlock = some b → w.heap.size ≤ b
  ne : ∀ b, zeros.ownBlock = some b → some b ≠ want.ownBlock

section
variable {w wr wj : World} {l : List V} {kw kz : Nat} {want zeros : Value}

theorem LL.later (h : LL w l kw kz want zeros wr) (hb : Below wr.heap.size wr wj) : LL w l kw kz want zeros wj :=
  ⟨Proofs.Ytjhecmmbpmpmgaa.later h.hb hb, own_keep h.ow hb, own_keep h.oz hb, h.nw, h.nz, h.ne⟩

theorem LL.app1 {v5 : Value} {n m : Nat} {xs ys : List Value} (h : LL w l kw kz want zeros wr) (own5 : wj.ownsRow 0 5 1 v5 (n + m) (xs ++ ys)) (hwr : Wr wr want wj v5)
    (hn : n + m = (encL (l.take (kw + 1))).length) (hx : xs ++ ys = bc (encL (l.take (kw + 1)))) : LL w l (kw + 1) kz v5 zeros wj := by
  refine ⟨h.hb.trans (hwr.toBelow h.hb.size h.nw), by rw [← hn, ← hx]; exact own5, h.oz.kept hwr.grown ?_, fun b hb => ?_, h.nz, fun b hb e => ?_⟩
  · cases hq : zeros.ownBlock with
    | none => exact .inl rfl
    | some b => exact .inr (h.ne b hq)
  · rcases hwr.fresh with h1 | h1
    · exact h.nw b (h1 ▸ hb)
    · have := h1 b hb; have := h.hb.size; omega
  · rcases hwr.fresh with h1 | h1
    · exact h.ne b hb (e.trans h1)
    · have := h1 b e.symm; have := (h.oz.lt b hb).2; omega

theorem LL.app2 {v5 : Value} {xs : List Value} (h : LL w l kw kz want zeros wr) (own5 : wj.ownsRow 0 24 4 v5 (kz + 1) xs) (hwr : Wr wr zeros wj v5)
    (hx : xs = flat (List.replicate (kz + 1) zv)) : LL w l kw (kz + 1) want v5 wj := by
  refine ⟨h.hb.trans (hwr.toBelow h.hb.size h.nz), h.ow.kept hwr.grown ?_, by rw [← hx]; exact own5, h.nw, fun b hb => ?_, fun b hb e => ?_⟩
  · cases hq : want.ownBlock with
    | none => exact .inl rfl
    | some b => exact .inr (fun e => h.ne b e.symm hq.symm)
  · rcases hwr.fresh with h1 | h1
    · exact h.nz b (h1 ▸ hb)
    · have := h1 b hb; have := h.hb.size; omega
  · rcases hwr.fresh with h1 | h1
    · exact h.ne b (h1 ▸ hb) e
    · have := h1 b hb; have := (h.ow.lt b e.symm).2; omega

/-- bytes to be appended -/
theorem Bb.news {L : List UInt8} {A : Option Addr} {n cap : Nat} (h : Bb wr L (.slice A n cap)) (h0 : 0 < L.length) : ∃ ad, A = some ad ∧ ∀ j u, (bc L)[j]? = some u → wr.cell? (ad.add j) = some u := by
  obtain ⟨A0, cap0, e, h2, h3, h4⟩ := h
  injection e with e1 e2 e3
  subst e1
  obtain ⟨b, off, rfl, hb, hc⟩ := h4 h0
  refine ⟨⟨b, off, none⟩, rfl, fun j u hj => ?_⟩
  rw [Go.WideShapes.add_plain]
  have hjl : j < L.length := by
    rcases Nat.lt_or_ge j L.length with h | h
    · exact h
    · rw [List.getElem?_eq_none (by rw [bc_len]; exact h)] at hj; cases hj
  rw [hc j hjl]
  simp [bc, List.getElem?_eq_getElem hjl] at hj
  rw [hj]

/-- the zeros, as a list of values -/
theorem LL.zer {k : Nat} (h : LL w l kw k want zeros wr) : ∃ A cap, zeros = .slice A k cap ∧ Rl wr (List.replicate k x0) A cap := by
  have hll : (List.replicate k x0).length = k := by simp
  rcases h.oz.2 with ⟨h1, h0⟩ | ⟨g, cap, cur, h1, _, hg, hnc, hcm, hcs, htk⟩
  · subst h0
    exact ⟨none, 0, h1, Rd.leaf _ _ _ _ _ ⟨by omega, by omega⟩ ⟨by omega, by omega⟩ (by decide)⟩
  · refine ⟨some ⟨g, 0, none⟩, cap, h1, ?_⟩
    have hcells := h.oz.cells (g := g) (by rw [h1]; rfl)
    unfold Rl
    have hgl : g < wr.heap.size := (Array.getElem?_eq_some_iff.1 hg).1
    refine .mk (l := List.replicate k x0) (fun _ => zv) ⟨by omega, by omega⟩ ⟨by omega, by omega⟩ (by decide) (by rw [hll]; exact hnc) (by unfold maxLen at hcm; omega) (fun _ => ⟨g, 0, rfl, hgl⟩) (fun i b off hi e => ?_) (fun i hi => ?_)
    · injection e with e; injection e with e1 e2
      subst e1 e2
      rw [hll] at hi
      obtain ⟨f0, f1, f2, f3⟩ := flat_at (List.replicate k zv) i (.int .i64 1) (.int .i64 0) (.string ByteArray.empty) (.slice none 0 0) (fun v hv => by rw [List.eq_of_mem_replicate hv]; exact ⟨_, _, _, _, rfl⟩) (by rw [List.getElem?_replicate, if_pos hi]; rfl)
      have g0 := hcells _ _ f0
      have g1 := hcells _ _ f1
      have g2 := hcells _ _ f2
      have g3 := hcells _ _ f3
      rw [Go.WideShapes.add_plain] at g0 g1 g2 g3
      exact ⟨g0, g1, g2, g3⟩
    · rw [List.getElem_replicate]
      exact Rd.leaf _ _ _ _ _ ⟨by omega, by omega⟩ ⟨by omega, by omega⟩ (by decide)
end

/-- the bytes from lo on -/
theorem tail_bytes {w : World} {S : Nat → Prop} {B : List UInt8} {A : Option Addr} {cap : Nat} (h : Bs w S B (.slice A B.length cap)) (lo : Nat) (z : Int) (hz : z = lo) (hle : lo ≤ B.length) :
    ∃ A', (∀ w' : World, (Instr.slice 27 (.slice A B.length cap) (some (.int .i64 z)) none none).run Try.prog w' = .ok (.slice A' (B.length - lo) (cap - lo)) w') ∧ Bs w S (B.drop lo) (.slice A' (B.length - lo) (cap - lo)) := by
  subst hz
  obtain ⟨A0, cap0, e, h2, h3, h4⟩ := h
  injection e with e1 e2 e3
  subst e1 e3
  have hlen : (B.drop lo).length = B.length - lo := by simp
  have hr : ∀ w' : World, (Instr.slice 27 (.slice A B.length cap) (some (.int .i64 lo)) none none).run Try.prog w' = .ok (.slice (if cap = lo then A else A.map (·.add (lo * 1))) (B.length - lo) (cap - lo)) w' := by
    intro w'
    rw [run_slice_l w' 27 A B.length cap (by rw [Try.elemU8]; exact Try.underlying27) .i64 (lo : Int) (by omega) (by omega), Try.elemU8, Try.sizeU8]
    simp only [Result.andThen_ok, sliced, Int.toNat_natCast]
  refine ⟨_, hr, _, cap - lo, by rw [hlen], by rw [hlen]; omega, by omega, fun h0 => ?_⟩
  rw [hlen] at h0
  obtain ⟨b, off, rfl, hb, hc⟩ := h4 (by omega)
  rw [if_neg (by omega)]
  refine ⟨b, off + lo, ?_, hb, fun i hi => ?_⟩
  · simp [Addr.add]
  · rw [hlen] at hi
    rw [Nat.add_assoc, hc (lo + i) (by omega)]
    simp

def LLoop (w : World) (l : List V) (want zeros sizes i : Value) (wr : World) : Prop :=
  ∃ k : Nat, k ≤ l.length ∧ i = .int .i64 k ∧ sizes = .int .i64 (encL (l.take k)).length ∧ (∀ j (h : j < l.length), j < k → ckOf l[j].fm = 0) ∧ LL w l k k want zeros wr

theorem LL.start (w w2 : World) (l : List V) (hb : Below w.heap.size w w2) : LL w l 0 0 (.slice none 0 0) (.slice none 0 0) w2 :=
  ⟨hb, World.ownsRow_nil _ _ _ _, World.ownsRow_nil _ _ _ _, fun b h => by simp [Value.ownBlock] at h, fun b h => by simp [Value.ownBlock] at h, fun b h => by simp [Value.ownBlock] at h⟩

end Go.Proofs.Ytjhecmmbpmpmgaa
