/- codec's reader by its contracts: length, take of many, conversion. -/
import Derived.Test.YtjhecmmbpmpmgaaCRead2
import Derived.Laws.BytesArg
namespace Go.Proofs.Ytjhecmmbpmpmgaa
open Go.RowKit Go.Lib

def LengthPost (R D : Nat) (w : World) (x : Option (Nat × List UInt8)) (e : Ending) (w' : World) : Prop :=
  w.grownBy w' (some R) ∧ match x with | none => e = .panicked errChain | some (n, l) => e = .returned (.int .i64 n) ∧ Rst w' R D l ∧ n ≤ l.length

theorem Rst.cellAt {w : World} {R D : Nat} {l : List UInt8} (h : Rst w R D l) : ∃ A cap, w.cell? ⟨R, 0, none⟩ = some (.slice A l.length cap) ∧ l.length ≤ 9223372036854775807 := by
  obtain ⟨off, cap, h1, h2, h3, _⟩ := h
  exact ⟨_, cap, by rw [cell_of_row w R 0 _ _ _ h1]; rfl, by omega⟩

theorem wrap_i64_len (m : Nat) (h : m ≤ 9223372036854775807) : wrap64 (m : Int) = (m : Int) := by unfold wrap64; omega

set_option maxRecDepth 100000 in
set_option maxHeartbeats 800000 in
theorem length_any (R D : Nat) (l : List UInt8) (w : World) (h : Rst w R D l) :
    Calls Try.prog 47 #[.pointer (some ⟨R, 0, none⟩)] w (LengthPost R D w (rlen l)) := by
  have HN : Hid (Calls Try.prog 46 #[.pointer (some ⟨R, 0, none⟩)] w (NumberPost R D w (rn 0 0 l))) := Lib.hid (number_any R D l w h)
  have hrl : rlen l = match rn 0 0 l with | none => none | some (n, r) => if n ≤ r.length then some (n, r) else none := rfl
  have HL := Lib.hid hrl
  clear h hrl
  generalize rn 0 0 l = x at *
  match x, HN, HL with
  | none, HN, HL =>
    go_enter Try.func47, Try.ntmps47
    go_wp2_with fail
    refine HN.out.mono ?_
    rintro e w1 ⟨hg, rfl⟩
    exact ⟨rfl, hg, by rw [HL.out]⟩
  | some (n, r), HN, HL =>
    by_cases hle : n ≤ r.length
    · have HL2 : Hid (rlen l = some (n, r)) := Lib.hid (by rw [HL.out]; simp only; rw [if_pos hle])
      go_enter Try.func47, Try.ntmps47
      go_wp2_with fail
      refine HN.out.mono ?_
      rintro e w1 ⟨hg, rfl, hr, hu⟩
      obtain ⟨A, cap, hc, hrl⟩ := hr.cellAt
      have Hr := Lib.hid hr; clear hr hu
      have hw := wrap_u64_len r.length hrl
      have hw2 := wrap_i64_len n (by omega)
      have ht : decide ((n : Int) ≤ IntKind.u64.wrap (r.length : Int)) = true := by rw [hw]; simpa using hle
      clear hw
      go_wp2_with (go_at_call 33; refine (want_ok _ _).mono ?_; rintro e w' ⟨rfl, rfl⟩)
      go_ret
      exact ⟨hg, by rw [HL2.out]; exact ⟨rfl, Hr.out, hle⟩⟩
    · have HL2 : Hid (rlen l = none) := Lib.hid (by rw [HL.out]; simp only; rw [if_neg hle])
      go_enter Try.func47, Try.ntmps47
      go_wp2_with fail
      refine HN.out.mono ?_
      rintro e w1 ⟨hg, rfl, hr, hu⟩
      obtain ⟨A, cap, hc, hrl⟩ := hr.cellAt
      clear hr hu
      have hw := wrap_u64_len r.length hrl
      have ht : decide ((n : Int) ≤ IntKind.u64.wrap (r.length : Int)) = false := by rw [hw]; simpa using hle
      clear hw
      go_wp2_with (go_at_call 33; refine (want_no _ _).mono ?_; rintro e w' ⟨rfl, rfl⟩)
      exact ⟨rfl, hg, by rw [HL2.out]⟩

theorem take_n (R D n : Nat) (l : List UInt8) (w : World) (h : Rst w R D l) (hn : n ≤ l.length) :
    Calls Try.prog 44 #[.pointer (some ⟨R, 0, none⟩), .int .i64 n] w fun e w' => ∃ off, e = .returned (.slice (some ⟨D, off, none⟩) n n) ∧
      (∀ i (h : i < n), w'.cell? ⟨D, off + i, none⟩ = some (.int .u8 ((l[i]'(by omega)).toNat : Int))) ∧ Rst w' R D (l.drop n) ∧ w.grownBy w' (some R) := by
  obtain ⟨off, cap, h1, h2, h3, h4, h5, h6⟩ := h
  refine (take_yes R D off l.length cap n w h1 hn h2 h3).mono ?_
  rintro e w' ⟨rfl, rfl⟩
  refine ⟨off, rfl, fun i hi => ?_, Rst.step h1 h2 h3 h4 h5 h6 hn, grown_setCell _ _ _⟩
  rw [World.cell?_of_block (w := w) (a := ⟨D, off + i, none⟩) (Below.heap_setCell _ _ _ _ h4)]
  exact h6 i (by omega)

theorem strOfNums_u8 (l : List UInt8) : strOfNums (l.map fun c => (c.toNat : Int)) = strOf l := by
  unfold strOfNums strOf
  congr 2
  induction l with
  | nil => rfl
  | cons c l ih => simpa using ih

/-- string(bytes) -/
theorem conv_take {w : World} {b off n : Nat} {l : List UInt8} (hl : l.length = n) (cap : Nat) (h : ∀ i (h : i < l.length), w.cell? ⟨b, off + i, none⟩ = some (.int .u8 (l[i].toNat : Int))) :
    (convert 27 9 (.slice (some ⟨b, off, none⟩) n cap)).run Try.prog w = .ok (.string (strOf l)) w := by
  rw [← strOfNums_u8]
  refine run_convert_bytes_arg w 27 5 Try.underlying27 Try.underlying5 b off n cap _ (by simpa using hl) (fun i hi => ?_) 9 Try.underlying9
  rw [h i (by omega)]
  simp [List.getD, List.getElem?_eq_getElem (show i < l.length by omega)]

end Go.Proofs.Ytjhecmmbpmpmgaa
