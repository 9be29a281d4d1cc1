/- signatoryref01's numeral, unsigned by their contracts. -/
import Derived.Test.YtjhecmmbpmpmgaaCNum
import Derived.Test.YtjhecmmbpmpmgaaCRefA
namespace Go.Proofs.Ytjhecmmbpmpmgaa
open Go.RowKit Go.Lib

set_option maxHeartbeats 400000 in
theorem ref_unsigned (n : Int) (w : World) (hn : Ok n) :
    Calls Try.prog 43 #[.int .i64 n] w fun e w' => e = .returned (.int .u64 (unsg n)) ∧ w' = w := by
  obtain ⟨h0, h1⟩ := hn
  by_cases h : 0 ≤ n
  · have HU : Hid (unsg n = 2 * n) := Lib.hid (by unfold unsg; rw [if_pos h])
    go_enter Try.func43, Try.ntmps43
    go_wp2
    go_ret
    exact ⟨ret_v (by rw [HU.out]; rfl), rfl⟩
  · have HU : Hid (unsg n = 2 * -(n + 1) + 1) := Lib.hid (by unfold unsg; rw [if_neg h]; omega)
    go_enter Try.func43, Try.ntmps43
    go_wp2
    go_ret
    exact ⟨ret_v (by rw [HU.out]; rfl), rfl⟩

/-- the contract's end of whatever hands back new bytes -/
def NewBytes (xs : List UInt8) (w : World) (e : Ending) (w' : World) : Prop :=
  ∃ v', e = .returned v' ∧ w'.ownsRow 0 5 1 v' xs.length (bc xs) ∧ Below w.heap.size w w' ∧ ∀ k, v'.ownBlock = some k → w.heap.size ≤ k

theorem num_pos (u : Nat) : 0 < (num u).length := by
  unfold num; rw [numF]; split <;> simp

theorem bc_one {l : List UInt8} : ∀ u ∈ bc l, u.oneCell' = true := by
  intro u hu; simp [bc] at hu; obtain ⟨c, _, rfl⟩ := hu; rfl

theorem own_lit1 {w : World} {c : UInt8} {z : Int} (B : Nat) (hz : z = (c.toNat : Int)) (hB : B ≤ w.heap.size := by omega) : (w.alloc (.cells #[.int .u8 z] 5)).ownsRow B 5 1 (.slice (some ⟨w.heap.size, 0, none⟩) 1 1) 1 (bc [c]) := by
  subst hz; exact World.ownsRow_lit w #[.int .u8 (c.toNat : Int)] 1 hB (by decide) rfl

theorem own_lit2 {w : World} {c : UInt8} {z : Int} {g : Nat} (hz : z = (c.toNat : Int)) (hg : w.heap.size = g) : (w.alloc (.cells #[.int .u8 z] 5)).ownsRow 0 5 1 (.slice (some ⟨g, 0, none⟩) 1 1) 1 (bc [c]) := by
  subst hg; exact own_lit1 0 hz (Nat.zero_le _)

set_option maxRecDepth 100000 in
set_option maxHeartbeats 400000 in
theorem ref_numeral (f : Nat) : ∀ (u : Nat) (w : World), u < 128 ^ (f + 1) → u < 18446744073709551616 →
    Calls Try.prog 42 #[.int .u64 u] w (NewBytes (num u) w) := by
  obtain ⟨i0, hi, hz0, hz1, hz2⟩ := info_parts Try.infoU8
  induction f with
  | zero =>
    intro u w hu hu64
    have h128 : u < 128 := by simpa using hu
    clear hu hu64
    go_enter Try.func42, Try.ntmps42
    go_wp2_with fail
    go_ret
    exact ⟨_, rfl, by rw [num_lt h128]; exact own_lit1 _ (by simp; omega), below1 _, fun k hk => by simp [Value.ownBlock] at hk; omega⟩
  | succ f ih =>
    intro u w hu hu64
    by_cases h128 : u < 128
    · clear hu hu64 ih
      go_enter Try.func42, Try.ntmps42
      go_wp2_with fail
      go_ret
      exact ⟨_, rfl, by rw [num_lt h128]; exact own_lit1 _ (by simp; omega), below1 _, fun k hk => by simp [Value.ownBlock] at hk; omega⟩
    · have HN : Hid (num u = UInt8.ofNat (u % 128 + 128) :: num (u / 128)) := Lib.hid (num_ge (by omega) hu64)
      have HI : Hid (∀ w0, Calls Try.prog 42 #[.int .u64 ((u : Int) / 128)] w0 (NewBytes (num (u / 128)) w0)) := Lib.hid fun w0 => by
        have := ih (u / 128) w0 (by rw [Nat.div_lt_iff_lt_mul (by omega)]; rw [Nat.pow_succ] at hu; exact hu) (by omega)
        rwa [show ((u / 128 : Nat) : Int) = (u : Int) / 128 from by omega] at this
      have hnl := num_len (u / 128)
      have hwr : IntKind.u64.wrap ((u : Int) / 128) = (u : Int) / 128 := by rw [IntKind.wrap_u64]; omega
      clear ih hu hu64
      go_enter Try.func42, Try.ntmps42
      go_wp2_with fail
      refine (HI.out _).mono ?_
      rintro e w1 ⟨v1, rfl, hown1, hb1, hnew1⟩
      have ho := (own_lit1 (w := w) (c := UInt8.ofNat (u % 128 + 128)) (z := (u : Int) % 128 + 128) 0 (by simp; omega) (Nat.zero_le _)).kept (World.grownBy.mk hb1.os hb1.tape hb1.output hb1.size (fun k hk _ => hb1.block k hk) : World.grownBy _ w1 none) (.inr (by simp [Value.ownBlock]))
      obtain ⟨g1, c1, rfl⟩ := own_form hown1 (num_pos _)
      have hcs := hown1.cells (g := g1) rfl
      go_wp2_with (at_builtin; refine wpList_app _ rfl _ _ 27 rfl 5 i0 (.int .u8 0) 1 1 Try.underlying27 hi hz0 hz1 hz2 rfl (by decide) _ _ _ rfl ho ⟨g1, 0, none⟩ _ c1 (bc (num (u / 128))) rfl (by rw [bc_len, Nat.mul_one]) hcs bc_one (by unfold maxLen; omega) (by omega) ?_; intro v2 w2 hown2 hwr2 _)
      go_ret
      have hf := hwr2.fresh
      have hs1 : w.heap.size + 1 ≤ w1.heap.size := by have := hb1.size; simpa using this
      refine ⟨v2, rfl, by rw [HN.out]; rw [show bc (UInt8.ofNat (u % 128 + 128) :: num (u / 128)) = bc [UInt8.ofNat (u % 128 + 128)] ++ bc (num (u / 128)) from by simp [bc], List.length_cons, Nat.add_comm]; exact hown2, ?_, fun k hk => ?_⟩
      · exact (below1 _).trans ((hb1.mono (by simp)).trans (hwr2.toBelow (by omega) (fun k hk => by have hk' : some w.heap.size = some k := hk; injection hk' with hk'; omega)))
      · rcases hf with hf | hf
        · have hk' : some w.heap.size = some k := hf.symm.trans hk
          injection hk' with hk'; omega
        · have := hf k hk; omega

theorem ref_numeral_int (z : Int) (w : World) (h0 : 0 ≤ z) (hz : z < 18446744073709551616) : Calls Try.prog 42 #[.int .u64 z] w (NewBytes (num z.toNat) w) := by
  obtain ⟨u, rfl⟩ := Int.eq_ofNat_of_zero_le h0
  rw [Int.toNat_natCast]
  exact ref_numeral 9 u w (by rw [show (128 : Nat) ^ (9 + 1) = 1180591620717411303424 from by decide]; omega) (by omega)

end Go.Proofs.Ytjhecmmbpmpmgaa
