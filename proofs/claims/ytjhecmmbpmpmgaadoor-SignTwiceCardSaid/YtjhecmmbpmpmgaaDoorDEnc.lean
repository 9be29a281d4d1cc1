/- The codec's contracts in the laws' words, for a seat that has Encode alone. -/
import Derived.Test.YtjhecmmbpmpmgaaDoorCEncode
import Derived.Test.YtjhecmmbpmpmgaaDoorDBytes
namespace Go.Proofs.YtjhecmmbpmpmgaaDoor
open Go.RowKit Go.Lib

theorem encode_any {x : V} {v : Value} {S : Nat → Prop} {w : World} (hx : x.sz ≤ 1000000) (hR : Rd w S x v) (hS : ∀ b, S b → b < w.heap.size) (hlen : x.enc.length < 700000000000) :
    Calls Tryd.prog 21 #[v] w (EncPost x w) := by
  by_cases h : ckOf x.fm = 0
  · exact encode_yes x v S w hx hR hS h hlen
  · exact encode_no x v S w hx hR hS h

/-- from one world to a later one -/
theorem later {w w1 w2 : World} (h : Below w.heap.size w w1) (g : Below w1.heap.size w1 w2) : Below w.heap.size w w2 := h.trans (g.mono h.size)

def EncB (x : V) (w : World) (e : Ending) (w' : World) : Prop := ∃ A cap, e = .returned (.tuple #[.slice A (encOf x).length cap, .int .i64 (ckOf x.fm)]) ∧ Below w.heap.size w w' ∧ Bb w' (encOf x) (.slice A (encOf x).length cap)

theorem EncPost.toB {x : V} {w : World} {e : Ending} {w' : World} (h : EncPost x w e w') : EncB x w e w' := by
  obtain ⟨hb, v', rfl, hown, hn⟩ := h
  have hB := own_bytes hown hn
  obtain ⟨A, cap, rfl, _⟩ := hB.form
  exact ⟨A, cap, rfl, hb, Bs.frame hB (fun _ _ => rfl) (fun b hb => hb.2)⟩

theorem encode_b {x : V} {v : Value} {w : World} (hx : x.sz ≤ 1000000) (hl : x.enc.length < 700000000000) (hR : Rb w x v) : Calls Tryd.prog 21 #[v] w (EncB x w) := (encode_any hx hR (fun _ h => h) hl).mono fun _ _ h => h.toB

def EncL (L : List UInt8) (c : Int) (w : World) (e : Ending) (w' : World) : Prop := ∃ A cap, e = .returned (.tuple #[.slice A L.length cap, .int .i64 c]) ∧ Below w.heap.size w w' ∧ Bb w' L (.slice A L.length cap)

theorem encode_eq {x : V} {v : Value} {w : World} {L : List UInt8} {c : Int} (hE : encOf x = L) (hc : ckOf x.fm = c) (hx : x.sz ≤ 1000000) (hl : x.enc.length < 700000000000) (hR : Rb w x v) : Calls Tryd.prog 21 #[v] w (EncL L c w) := by
  subst hE hc; exact encode_b hx hl hR

end Go.Proofs.YtjhecmmbpmpmgaaDoor
