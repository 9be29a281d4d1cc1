/- digest's put by its contract. -/
import Derived.Test.YtjhecmmbpmpmgaaDoorDShaB
namespace Go.Proofs.YtjhecmmbpmpmgaaDoor
open Go.RowKit Go.Lib

/-- a number's last n bytes, the most significant one first -/
def beB : Nat → Nat → List UInt8
  | 0, _ => []
  | n + 1, x => UInt8.ofNat (x / 256 ^ n % 256) :: beB n x

theorem beB_length (n x : Nat) : (beB n x).length = n := by induction n with | zero => rfl | succ n ih => simp [beB, ih]

def bv (c : UInt8) : Value := .int .u8 (c.toNat : Int)

/-- a row with bytes laid over it -/
def over (L : List Value) (off : Nat) (cs : List Value) : List Value := L.take off ++ (cs ++ L.drop (off + cs.length))

theorem over_length {L : List Value} {off : Nat} {cs : List Value} (h : off + cs.length ≤ L.length) : (over L off cs).length = L.length := by
  simp [over]; omega

theorem over_nil {L : List Value} {off : Nat} : over L off [] = L := by simp [over]

theorem over_set {L : List Value} {off : Nat} {c : Value} {cs : List Value} (h : off + 1 + cs.length ≤ L.length) : (over L (off + 1) cs).set off c = over L off (c :: cs) := by
  unfold over
  have h1 : off + 1 + cs.length = off + (c :: cs).length := by rw [List.length_cons]; omega
  have h2 : (L.take (off + 1)).length = off + 1 := by rw [List.length_take]; omega
  have h3 : (L.take off).length = off := by rw [List.length_take]; omega
  rw [h1, List.set_append_left _ _ (by omega), List.take_succ_eq_append_getElem (by omega), List.set_append_right _ _ (by omega), h3, Nat.sub_self]
  simp only [List.set_cons_zero, List.append_assoc, List.cons_append, List.nil_append]

theorem byte_shr (x k : Nat) : IntKind.u8.wrap ((x : Int) / ((2 : Int) ^ (8 * k))) = ((UInt8.ofNat (x / 256 ^ k % 256)).toNat : Int) := by
  have h : ((2 : Int) ^ (8 * k)) = ((256 ^ k : Nat) : Int) := by rw [Int.pow_mul]; simp
  rw [h, show (x : Int) / ((256 ^ k : Nat) : Int) = ((x / 256 ^ k : Nat) : Int) from (by simp), IntKind.wrap_u8]
  simp

theorem cell_at {w : World} {D j : Nat} {L : List Value} {t : TypeId} {fr : Nat × Nat} (h : w.heap[D]? = some (.cells L.toArray t fr)) (hj : j < L.length) : w.cell? ⟨D, j, none⟩ = some L[j] := by
  simp [World.cell?, h, hj]

theorem frozen_at {w : World} {D j : Nat} {cs : Array Value} {t : TypeId} (h : w.heap[D]? = some (.cells cs t (0, 0))) : w.frozen? ⟨D, j, none⟩ = false := by
  simp [World.frozen?, h]

theorem d_grown_trans {w w1 w2 : World} {r : Option Nat} (h : w.grownBy w1 r) (g : w1.grownBy w2 r) : w.grownBy w2 r :=
  ⟨g.os.trans h.os, g.tape.trans h.tape, g.output.trans h.output, Nat.le_trans h.size g.size, fun k hk hne => (g.block k (Nat.lt_of_lt_of_le hk h.size) hne).trans (h.block k hk hne)⟩

theorem d_setCell_heap {w : World} {R o : Nat} {cs : Array Value} {y : Value} {t : TypeId} {fr : Nat × Nat} (hR : w.heap[R]? = some (.cells cs t fr)) : (w.setCell ⟨R, o, none⟩ y).heap[R]? = some (.cells (cs.setIfInBounds o y) t fr) := by
  simp [World.setCell, Array.getElem?_modify, hR]

theorem d_grown_setCell (w : World) (R o : Nat) (y : Value) : w.grownBy (w.setCell ⟨R, o, none⟩ y) (some R) :=
  ⟨rfl, rfl, rfl, by simp [World.setCell], fun k _ hk => Below.heap_setCell _ _ _ _ (fun e => hk (by rw [e]))⟩

structure Putted (w : World) (D : Nat) (L : List Value) (t : TypeId) (off : Nat) (cs : List Value) (w' : World) : Prop where
  grown : w.grownBy w' (some D)
  row : w'.heap[D]? = some (.cells (over L off cs).toArray t (0, 0))

set_option maxRecDepth 100000 in
set_option maxHeartbeats 800000 in
theorem put_any (w : World) (D off n cap x : Nat) (L : List Value) (t : TypeId) (hn8 : n ≤ 8) (hnc : n ≤ cap) (hcap : cap ≤ 9223372036854775807) (_hx : x < 18446744073709551616)
    (hrow : w.heap[D]? = some (.cells L.toArray t (0, 0))) (hfit : off + n ≤ L.length) :
    Calls Tryd.prog 91 #[.slice (some ⟨D, off, none⟩) n cap, .int .u64 x] w fun e w' => e = .returned (.tuple #[]) ∧ Putted w D L t off ((beB n x).map bv) w' := by
  go_enter Tryd.func91, Tryd.ntmps91
  go_wp2_with fail
  go_loopw [7] (fun i wr => ∃ k : Nat, k ≤ n ∧ i = .int .i64 k ∧ Putted w D L t (off + n - k) ((beB k x).map bv) wr) (fun i _ => n - (intOf i).toNat)
  case atStart => exact ⟨0, by omega, rfl, ⟨rfl, rfl, rfl, Nat.le_refl _, fun _ _ _ => rfl⟩, by rw [beB, List.map_nil, over_nil]; exact hrow⟩
  case round =>
    obtain ⟨k, hk, rfl, hp⟩ := hrel
    by_cases hlt : k < n
    · have hg := hp.grown
      have hr := hp.row
      have hlen : (over L (off + n - k) ((beB k x).map bv)).length = L.length := over_length (by simp [beB_length]; omega)
      have hps := Lib.hid hp
      obtain ⟨C, hC⟩ : ∃ C, C = over L (off + n - k) ((beB k x).map bv) := ⟨_, rfl⟩
      rw [← hC] at hr hlen
      have hold : wr.cell? ⟨D, off + (n - 1 - k), none⟩ = some (C[off + (n - 1 - k)]'(by omega)) := cell_at hr (by omega)
      have hfree : wr.frozen? ⟨D, off + (n - 1 - k), none⟩ = false := frozen_at hr
      go_wp2_with fail
      refine ⟨⟨k + 1, by omega, by go_num, ?_⟩, by simp [intOf]; omega⟩
      have hbs : Value.int .u8 ((x : Int) / 2 ^ (8 * k) % 256) = bv (UInt8.ofNat (x / 256 ^ k % 256)) := by
        rw [bv, ← byte_shr x k, IntKind.wrap_u8]
      refine ⟨d_grown_trans hps.out.grown (d_grown_setCell _ _ _ _), ?_⟩
      rw [d_setCell_heap hr, hC, hbs, beB, List.map_cons, ← over_set (by simp [beB_length]; omega)]
      have e1 : off + n - (k + 1) + 1 = off + n - k := by omega
      have e2 : off + n - (k + 1) = off + (n - 1 - k) := by omega
      rw [e1, e2, List.setIfInBounds_toArray]
    · have : k = n := by omega
      subst this
      go_wp2_with fail
      go_end0
      have e0 : off + k - k = off := by omega
      rw [e0] at hp
      exact ⟨rfl, hp⟩

end Go.Proofs.YtjhecmmbpmpmgaaDoor
