/- The contracts in the laws' words: a value that reads as x, bytes that read as l, all in old blocks. -/
import Derived.Test.YtjhecmmbpmpmgaaCRefN
import Derived.Test.YtjhecmmbpmpmgaaCRefS
import Derived.Test.YtjhecmmbpmpmgaaCRow
import Derived.Laws.IdiomStrings
namespace Go.Proofs.Ytjhecmmbpmpmgaa
open Go.RowKit Go.Lib

def Rb (w : World) (x : V) (v : Value) : Prop := Rd w (fun b => b < w.heap.size) x v
def Bb (w : World) (l : List UInt8) (v : Value) : Prop := Bs w (fun b => b < w.heap.size) l v

theorem Rb.below {w w' : World} {x : V} {v : Value} (h : Rb w x v) (hb : Below w.heap.size w w') : Rb w' x v := Rd.frame h (fun _ hb' => hb.block _ hb') (fun _ hb' => Nat.lt_of_lt_of_le hb' hb.size)
theorem Bb.below {w w' : World} {l : List UInt8} {v : Value} (h : Bb w l v) (hb : Below w.heap.size w w') : Bb w' l v := Bs.frame h (fun _ hb' => hb.block _ hb') (fun _ hb' => Nat.lt_of_lt_of_le hb' hb.size)
theorem Bb.conv {w : World} {l : List UInt8} {v : Value} (h : Bb w l v) : (convert 27 9 v).run Try.prog w = .ok (.string (strOf l)) w := Bs.conv h

/-- from one world to a later one -/
theorem later {w w1 w2 : World} (h : Below w.heap.size w w1) (g : Below w1.heap.size w1 w2) : Below w.heap.size w w2 := h.trans (g.mono h.size)

def EncB (x : V) (w : World) (e : Ending) (w' : World) : Prop := ∃ A cap, e = .returned (.tuple #[.slice A (encOf x).length cap, .int .i64 (ckOf x.fm)]) ∧ Below w.heap.size w w' ∧ Bb w' (encOf x) (.slice A (encOf x).length cap)

theorem EncPost.toB {x : V} {w : World} {e : Ending} {w' : World} (h : EncPost x w e w') : EncB x w e w' := by
  obtain ⟨hb, v', rfl, hown, hn⟩ := h
  have hB := own_bytes hown hn
  obtain ⟨A, cap, rfl, _⟩ := hB.form
  exact ⟨A, cap, rfl, hb, Bs.frame hB (fun _ _ => rfl) (fun b hb => hb.2)⟩

section
variable {x y : V} {v u : Value} {l : List UInt8} {w : World}

theorem encode_b (hx : x.sz ≤ 1000000) (hl : x.enc.length < 700000000000) (hR : Rb w x v) : Calls Try.prog 12 #[v] w (EncB x w) := (encode_any hx hR (fun _ h => h) hl).mono fun _ _ h => h.toB
theorem rencode_b (hx : x.sz ≤ 1000000) (hl : x.enc.length < 700000000000) (hR : Rb w x v) : Calls Try.prog 13 #[v] w (EncB x w) := (ref_encode hx hR (fun _ h => h) hl).mono fun _ _ h => h.toB
theorem size_b (hx : x.sz ≤ 1000000) (hl : x.enc.length < 700000000000) (hR : Rb w x v) : Calls Try.prog 14 #[v] w (SizePost x w) := size_any hx hR (fun _ h => h) hl
theorem rsize_b (hx : x.sz ≤ 1000000) (hl : x.enc.length < 700000000000) (hR : Rb w x v) : Calls Try.prog 15 #[v] w (SizePost x w) := ref_size hx hR (fun _ h => h) hl
theorem check_b (hx : x.sz ≤ 1000000) (hR : Rb w x v) : Calls Try.prog 16 #[v] w fun e w' => e = .returned (.int .i64 (ckOf x.fm)) ∧ Below w.heap.size w w' := check_any hx hR (fun _ h => h)
theorem rcheck_b (hx : x.sz ≤ 1000000) (hR : Rb w x v) : Calls Try.prog 17 #[v] w fun e w' => e = .returned (.int .i64 (ckOf x.fm)) ∧ Below w.heap.size w w' := ref_check hx hR (fun _ h => h)
theorem same_b (hx : x.sz ≤ 1000000) (hR : Rb w x v) (hR' : Rb w y u) : Calls Try.prog 21 #[v, u] w fun e w' => e = .returned (.bool (x.same y)) ∧ Below w.heap.size w w' := same_any hx hR hR' (fun _ h => h)
theorem rsame_b (hx : x.sz ≤ 1000000) (hR : Rb w x v) (hR' : Rb w y u) : Calls Try.prog 20 #[v, u] w fun e w' => e = .returned (.bool (x.same y)) ∧ Below w.heap.size w w' := rsame_any hx hR hR' (fun _ h => h)
theorem rfew_b (hR : Rb w x v) : Calls Try.prog 25 #[v, .int .i64 20] w fun e w' => e = .returned (.bool (few x)) ∧ Below w.heap.size w w' := ref_few hR (fun _ h => h)

def zeroX : V := .mk 0 0 ByteArray.empty []
/-- what Decode returns -/
def dvOf (l : List UInt8) : V := (decode l).getD zeroX
def dcOf (l : List UInt8) : Int := if (decode l).isSome then 0 else 10

def DecB (l : List UInt8) (w : World) (e : Ending) (w' : World) : Prop :=
  ∃ k n s A len cap, e = .returned (.tuple #[.agg #[.int .i64 k, .int .i64 n, .string s, .slice A len cap], .int .i64 (dcOf l)]) ∧ Below w.heap.size w w' ∧ Rb w' (dvOf l) (.agg #[.int .i64 k, .int .i64 n, .string s, .slice A len cap])

theorem DecodePost.toB {e : Ending} {w' : World} (h : DecodePost l w e w') : DecB l w e w' := by
  obtain ⟨hb, h⟩ := h
  cases hd : decode l with
  | none =>
    rw [hd] at h
    refine ⟨0, 0, ByteArray.empty, none, 0, 0, by rw [h]; unfold dcOf; rw [hd]; rfl, hb, ?_⟩
    unfold dvOf; rw [hd]
    exact Rd.leaf _ _ _ _ _ ⟨by omega, by omega⟩ ⟨by omega, by omega⟩ (by decide)
  | some x =>
    rw [hd] at h
    obtain ⟨v, he, hR⟩ := h
    obtain ⟨k, n, s, l'⟩ := x
    obtain ⟨A, cap, rfl, _⟩ := hR.head
    refine ⟨k, n, s, A, l'.length, cap, by rw [he]; unfold dcOf; rw [hd]; rfl, hb, ?_⟩
    unfold dvOf; rw [hd]
    exact hR.bound.frame (fun _ _ => rfl) (fun b hb => hb.2)

theorem decode_b (hl : l.length ≤ 1000000) (hB : Bb w l v) : Calls Try.prog 18 #[v] w (DecB l w) := (decode_any l v _ w hB (fun _ h => h) (by omega)).mono fun _ _ h => h.toB
theorem rdecode_b (hl : l.length ≤ 1000000) (hB : Bb w l v) : Calls Try.prog 19 #[v] w (DecB l w) := by
  obtain ⟨A, cap, rfl, _⟩ := Bs.form hB
  exact (ref_decode hB (fun _ h => h) hl).mono fun _ _ h => h.toB
end

theorem dv_sz (l : List UInt8) : (dvOf l).sz ≤ l.length + 1 := by
  unfold dvOf
  cases hd : decode l with
  | none => have : zeroX.sz = 1 := rfl; simp only [Option.getD_none]; omega
  | some x =>
    obtain ⟨h1, h2⟩ := decode_some hd
    have hf : x.fm ≠ none := fun e => by rw [e] at h2; simp [ckOf] at h2
    have := sz_enc x hf
    rw [h1] at this
    simp only [Option.getD_some]; omega

theorem few_sz {x : V} (h : few x = true) : x.sz ≤ 200 ∧ x.enc.length ≤ 42000 := by
  unfold few at h
  have h := of_decide_eq_true h
  obtain ⟨h1, h2⟩ := cnt_sz x 21 (by omega)
  omega

def EncL (L : List UInt8) (c : Int) (w : World) (e : Ending) (w' : World) : Prop := ∃ A cap, e = .returned (.tuple #[.slice A L.length cap, .int .i64 c]) ∧ Below w.heap.size w w' ∧ Bb w' L (.slice A L.length cap)

theorem encode_eq {x : V} {v : Value} {w : World} {L : List UInt8} {c : Int} (hE : encOf x = L) (hc : ckOf x.fm = c) (hx : x.sz ≤ 1000000) (hl : x.enc.length < 700000000000) (hR : Rb w x v) : Calls Try.prog 12 #[v] w (EncL L c w) := by
  subst hE hc; exact encode_b hx hl hR

theorem rencode_eq {x : V} {v : Value} {w : World} {L : List UInt8} {c : Int} (hE : encOf x = L) (hc : ckOf x.fm = c) (hx : x.sz ≤ 1000000) (hl : x.enc.length < 700000000000) (hR : Rb w x v) : Calls Try.prog 13 #[v] w (EncL L c w) := by
  subst hE hc; exact rencode_b hx hl hR

theorem size_eq {x : V} {v : Value} {w : World} {n : Nat} {c : Int} (hE : (encOf x).length = n) (hc : ckOf x.fm = c) (hx : x.sz ≤ 1000000) (hl : x.enc.length < 700000000000) (hR : Rb w x v) : Calls Try.prog 14 #[v] w fun e w' => e = .returned (.tuple #[.int .i64 n, .int .i64 c]) ∧ Below w.heap.size w w' := by
  subst hE hc; exact size_b hx hl hR

theorem rsize_eq {x : V} {v : Value} {w : World} {n : Nat} {c : Int} (hE : (encOf x).length = n) (hc : ckOf x.fm = c) (hx : x.sz ≤ 1000000) (hl : x.enc.length < 700000000000) (hR : Rb w x v) : Calls Try.prog 15 #[v] w fun e w' => e = .returned (.tuple #[.int .i64 n, .int .i64 c]) ∧ Below w.heap.size w w' := by
  subst hE hc; exact rsize_b hx hl hR

def DecL (y : V) (c : Int) (w : World) (e : Ending) (w' : World) : Prop :=
  ∃ k n s A len cap, e = .returned (.tuple #[.agg #[.int .i64 k, .int .i64 n, .string s, .slice A len cap], .int .i64 c]) ∧ Below w.heap.size w w' ∧ Rb w' y (.agg #[.int .i64 k, .int .i64 n, .string s, .slice A len cap])

theorem decode_eq {l : List UInt8} {v : Value} {w : World} {y : V} {c : Int} (hv : dvOf l = y) (hc : dcOf l = c) (hl : l.length ≤ 1000000) (hB : Bb w l v) : Calls Try.prog 18 #[v] w (DecL y c w) := by
  subst hv hc; exact decode_b hl hB

theorem rdecode_eq {l : List UInt8} {v : Value} {w : World} {y : V} {c : Int} (hv : dvOf l = y) (hc : dcOf l = c) (hl : l.length ≤ 1000000) (hB : Bb w l v) : Calls Try.prog 19 #[v] w (DecL y c w) := by
  subst hv hc; exact rdecode_b hl hB

theorem same_eq {x y : V} {v u : Value} {w : World} {b : Bool} (hb : x.same y = b) (hx : x.sz ≤ 1000000) (hR : Rb w x v) (hR' : Rb w y u) : Calls Try.prog 21 #[v, u] w fun e w' => e = .returned (.bool b) ∧ Below w.heap.size w w' := by
  subst hb; exact same_b hx hR hR'

theorem rsame_eq {x y : V} {v u : Value} {w : World} {b : Bool} (hb : x.same y = b) (hx : x.sz ≤ 1000000) (hR : Rb w x v) (hR' : Rb w y u) : Calls Try.prog 20 #[v, u] w fun e w' => e = .returned (.bool b) ∧ Below w.heap.size w w' := by
  subst hb; exact rsame_b hx hR hR'

theorem same_self (x : V) : x.same x = true := (V.same_iff x x).2 rfl

/-- []byte(string) -/
theorem str_bytes_b (w : World) (s : ByteArray) (hs : s.size ≤ 9000000000000000000) : ∃ cap w', (convert 9 27 (.string s)).run Try.prog w = .ok (.slice (some ⟨w.heap.size, 0, none⟩) s.size cap) w' ∧ Below w.heap.size w w' ∧ Bb w' s.data.toList (.slice (some ⟨w.heap.size, 0, none⟩) s.size cap) := by
  refine ⟨_, _, run_bytes_of_string w 9 27 5 s Try.underlying9 Try.underlying27 Try.underlying5, ((Below.refl _ _).drew).alloc (Nat.le_refl _) _, some ⟨w.heap.size, 0, none⟩, _, rfl, grownCap_ge _ _ _ _, ?_, fun _ => ⟨w.heap.size, 0, rfl, by simp, fun i hi => ?_⟩⟩
  · have := grownCap_le_maxLen w s.size 0 5 (by unfold maxLen; omega)
    unfold maxLen at this; omega
  · have hi' : i < s.data.size := by simpa using hi
    have hrow := bytesRow_at s (grownCap w s.size 0 5) i hi'
    have hg : (w.drew.alloc (.cells (bytesRow s (grownCap w s.size 0 5)) 5 ((bytesRow s (grownCap w s.size 0 5)).size, (bytesRow s (grownCap w s.size 0 5)).size + 1))).heap[w.heap.size]? = some (.cells (bytesRow s (grownCap w s.size 0 5)) 5 ((bytesRow s (grownCap w s.size 0 5)).size, (bytesRow s (grownCap w s.size 0 5)).size + 1)) := heap_alloc_new w.drew _
    rw [cell_of_row _ w.heap.size (0 + i) _ _ _ hg, Nat.zero_add, hrow]
    simp

theorem leaf_b (w : World) (k n : Int) (s : ByteArray) (hk : Ok k) (hn : Ok n) (hs : s.size ≤ 9223372036854775807) : Rb w (.mk k n s []) (.agg #[.int .i64 k, .int .i64 n, .string s, .slice none 0 0]) := Rd.leaf _ _ _ _ _ hk hn hs

end Go.Proofs.Ytjhecmmbpmpmgaa
