/- signatoryref01's Encode and Size, codec's Size by their contracts. -/
import Derived.Test.YtjhecmmbpmpmgaaCRefF
namespace Go.Proofs.Ytjhecmmbpmpmgaa
open Go.RowKit Go.Lib

set_option maxRecDepth 100000 in
set_option maxHeartbeats 800000 in
theorem ref_encode {x : V} {v : Value} {S : Nat → Prop} {w : World} (hx : x.sz ≤ 1000000) (hR : Rd w S x v) (hS : ∀ b, S b → b < w.heap.size) (hlen : x.enc.length < 700000000000) :
    Calls Try.prog 13 #[v] w (EncPost x w) := by
  have HC : Hid (∀ w0, Below w.heap.size w w0 → Calls Try.prog 17 #[v] w0 fun e w' => e = .returned (.int .i64 (ckOf x.fm)) ∧ Below w0.heap.size w0 w') :=
    Lib.hid fun w0 h0 => ref_check hx (hR.frame (fun b hb' => h0.block b (hS b hb')) (fun _ h => h)) (fun b hb' => by have := hS b hb'; have := h0.size; omega)
  have HN : Hid (x.fm ≠ none → ∀ w0, Below w.heap.size w w0 → Calls Try.prog 27 #[v] w0 (NewBytes x.enc w0)) :=
    Lib.hid fun hf w0 h0 => ref_enc_upTo 1000000 (by omega) x v S w0 hx hf (hR.frame (fun b hb' => h0.block b (hS b hb')) (fun _ h => h)) (fun b hb' => by have := hS b hb'; have := h0.size; omega) hlen
  by_cases hck : ckOf x.fm = 0
  · have hf : x.fm ≠ none := fun e => by rw [e] at hck; simp [ckOf] at hck
    have he : encOf x = x.enc := by unfold encOf; rw [if_pos hck]
    have HE : Hid (EncPost x w = fun e w' => Below w.heap.size w w' ∧ ∃ v', e = .returned (.tuple #[v', .int .i64 0]) ∧ w'.ownsRow 0 5 1 v' x.enc.length (bc x.enc) ∧ ∀ k, v'.ownBlock = some k → w.heap.size ≤ k) := by
      unfold EncPost; rw [he, hck]; rfl
    have HN' := Lib.hid (HN.out hf)
    rw [hck] at HC
    rw [HE.out]
    obtain ⟨k, n, s, l⟩ := x
    obtain ⟨A, cap, rfl, hk, hn, hs, hl, hc, ha⟩ := hR.head
    have hbox : (w.alloc (Obj.cells #[Value.int IntKind.i64 k, Value.int IntKind.i64 n, Value.string s, Value.slice A l.length cap] 24)).heap[w.heap.size]? = some (.cells #[Value.int IntKind.i64 k, Value.int IntKind.i64 n, Value.string s, Value.slice A l.length cap] 24 (0, 0)) := heap_alloc_new _ _
    have hb0 := below1 (w := w) (Obj.cells #[Value.int IntKind.i64 k, Value.int IntKind.i64 n, Value.string s, Value.slice A l.length cap] 24)
    have Hbox := Lib.hid hbox; have Hb0 := Lib.hid hb0
    clear hR hx hlen he HE hk hn hs hl hc ha hS HN hf hbox hb0 hck
    generalize (V.mk k n s l).enc = xs at *
    go_enter Try.func13, Try.ntmps13
    go_wp2_with fail
    refine (HC.out _ Hb0.out).mono ?_
    rintro e w1 ⟨rfl, hb1⟩
    have hbx1 : w1.heap[w.heap.size]? = some (.cells #[Value.int IntKind.i64 k, Value.int IntKind.i64 n, Value.string s, Value.slice A l.length cap] 24 (0, 0)) := by rw [hb1.block _ (by simp)]; exact Hbox.out
    have v0 : w1.cell? ⟨w.heap.size, 0, none⟩ = some (.int .i64 k) := by rw [cell_of_row w1 _ 0 _ _ _ hbx1]; rfl
    have v1 : w1.cell? ⟨w.heap.size, 1, none⟩ = some (.int .i64 n) := by rw [cell_of_row w1 _ 1 _ _ _ hbx1]; rfl
    have v2 : w1.cell? ⟨w.heap.size, 2, none⟩ = some (.string s) := by rw [cell_of_row w1 _ 2 _ _ _ hbx1]; rfl
    have v3 : w1.cell? ⟨w.heap.size, 3, none⟩ = some (.slice A l.length cap) := by rw [cell_of_row w1 _ 3 _ _ _ hbx1]; rfl
    have Hb1 := Lib.hid (Hb0.out.trans (hb1.mono (by simp)))
    clear hbx1 hb1
    go_wp2_with fail
    refine (HN'.out _ Hb1.out).mono ?_
    rintro e w2 ⟨v4, rfl, hown4, hb2, hfr⟩
    go_wp2_with fail
    go_ret2
    exact ⟨Hb1.out.trans (hb2.mono Hb1.out.size), v4, rfl, hown4, fun k hk => by have := hfr k hk; have := Hb1.out.size; omega⟩
  · have he : encOf x = [] := by unfold encOf; rw [if_neg hck]
    have HE : Hid (EncPost x w = fun e w' => Below w.heap.size w w' ∧ ∃ v', e = .returned (.tuple #[v', .int .i64 (ckOf x.fm)]) ∧ w'.ownsRow 0 5 1 v' 0 (bc []) ∧ ∀ k, v'.ownBlock = some k → w.heap.size ≤ k) := by
      unfold EncPost; rw [he]; rfl
    rw [HE.out]
    obtain ⟨k, n, s, l⟩ := x
    obtain ⟨A, cap, rfl, hk, hn, hs, hl, hc, ha⟩ := hR.head
    clear hR hx he HE hk hn hs hl hc ha hS HN hlen
    generalize ckOf (V.mk k n s l).fm = c at *
    have hc1 : (c != 0) = true := by simpa using hck
    go_enter Try.func13, Try.ntmps13
    go_wp2_with fail
    refine (HC.out _ (below1 _)).mono ?_
    rintro e w1 ⟨rfl, hb1⟩
    go_wp2_with fail
    go_ret2
    exact ⟨(below1 _).trans (hb1.mono (by simp)), _, rfl, World.ownsRow_nil _ _ _ _, fun k hk => by simp [Value.ownBlock] at hk⟩

/-- what Size returns -/
def SizePost (x : V) (w : World) (e : Ending) (w' : World) : Prop :=
  e = .returned (.tuple #[.int .i64 (encOf x).length, .int .i64 (ckOf x.fm)]) ∧ Below w.heap.size w w'

theorem own_slice {w : World} {t : TypeId} {v : Value} {n : Nat} {cs : List Value} (h : w.ownsRow 0 t 1 v n cs) : ∃ A c, v = .slice A n c := by
  rcases h.2 with ⟨h1, h0⟩ | ⟨g, cap, cur, h1, _⟩
  · exact ⟨none, 0, by rw [h1, h0]⟩
  · exact ⟨_, _, h1⟩

set_option maxRecDepth 100000 in
set_option maxHeartbeats 800000 in
theorem ref_size {x : V} {v : Value} {S : Nat → Prop} {w : World} (hx : x.sz ≤ 1000000) (hR : Rd w S x v) (hS : ∀ b, S b → b < w.heap.size) (hlen : x.enc.length < 700000000000) :
    Calls Try.prog 15 #[v] w (SizePost x w) := by
  have HC : Hid (∀ w0, Below w.heap.size w w0 → Calls Try.prog 13 #[v] w0 (EncPost x w0)) :=
    Lib.hid fun w0 h0 => ref_encode hx (hR.frame (fun b hb' => h0.block b (hS b hb')) (fun _ h => h)) (fun b hb' => by have := hS b hb'; have := h0.size; omega) hlen
  obtain ⟨k, n, s, l⟩ := x
  obtain ⟨A, cap, rfl, hk, hn, hs, hl, hc, ha⟩ := hR.head
  clear hR hx hk hn hs hl hc ha hS hlen
  go_enter Try.func15, Try.ntmps15
  go_wp2_with fail
  refine (HC.out _ (below1 _)).mono ?_
  rintro e w1 ⟨hb1, v', rfl, hown, -⟩
  obtain ⟨A', cap', rfl⟩ := own_slice hown
  clear hown
  go_wp2_with fail
  go_ret2
  exact ⟨rfl, (below1 _).trans (hb1.mono (by simp))⟩

set_option maxRecDepth 100000 in
set_option maxHeartbeats 800000 in
theorem size_any {x : V} {v : Value} {S : Nat → Prop} {w : World} (hx : x.sz ≤ 1000000) (hR : Rd w S x v) (hS : ∀ b, S b → b < w.heap.size) (hlen : x.enc.length < 700000000000) :
    Calls Try.prog 14 #[v] w (SizePost x w) := by
  have HC : Hid (∀ w0, Below w.heap.size w w0 → Calls Try.prog 12 #[v] w0 (EncPost x w0)) :=
    Lib.hid fun w0 h0 => encode_any hx (hR.frame (fun b hb' => h0.block b (hS b hb')) (fun _ h => h)) (fun b hb' => by have := hS b hb'; have := h0.size; omega) hlen
  obtain ⟨k, n, s, l⟩ := x
  obtain ⟨A, cap, rfl, hk, hn, hs, hl, hc, ha⟩ := hR.head
  clear hR hx hk hn hs hl hc ha hS hlen
  go_enter Try.func14, Try.ntmps14
  go_wp2_with fail
  refine (HC.out _ (below1 _)).mono ?_
  rintro e w1 ⟨hb1, v', rfl, hown, -⟩
  obtain ⟨A', cap', rfl⟩ := own_slice hown
  clear hown
  go_wp2_with fail
  go_ret2
  exact ⟨rfl, (below1 _).trans (hb1.mono (by simp))⟩

end Go.Proofs.Ytjhecmmbpmpmgaa
