/- signatoryref01's small functions by their contracts: Int, Text, List, count, Few.
   signatoryref01's numeral, unsigned by their contracts.
   signatoryref01.encode by its contract.
   signatoryref01.encode by its contract: lists.
   signatoryref01's Formed, Depth by their contracts.
   signatoryref01's Check, Encode, Size and codec.Size by their contracts.
   signatoryref01's Encode and Size, codec's Size by their contracts. -/
import Derived.Test.YtjhecmmbpmpmgaaDoorMCod
import Derived.Test.YtjhecmmbpmpmgaaDoorMPlain
import Derived.Deep.RegionHeld3
import Derived.StillTactics
import Derived.Test.YtjhecmmbpmpmgaaDoorCEncode
namespace Go.Proofs.YtjhecmmbpmpmgaaDoor
open Go.RowKit Go.Lib

theorem Tryd.sizeValue' : (Tryd.prog.info? 41).map (·.size) = some 4 := by kernel_rfl

theorem ret_new {P : Program} {fn : Func} {p : Tmp} {ty t : TypeId} (h : fn.results = #[.cell p ty]) (tmps : Array Value) (w : World) (cs : Array Value) (d : TypeDesc)
    (hp : tmps.getD p undef = .pointer (some ⟨w.heap.size, 0, none⟩)) (hu : P.underlying ty = some d) (hd : (match d with | .struct _ | .array _ _ => true | _ => false) = true) (hi : (P.info? ty).map (·.size) = some cs.size) :
    (results fn tmps).run P (w.alloc (.cells cs t)) = .ok (.agg cs) (w.alloc (.cells cs t)) := results_cell_row h tmps _ _ t cs (0, 0) d hp (heap_alloc_new w _) hu hd hi

theorem ref_int (n : Int) (w : World) : Calls Tryd.prog 47 #[.int .i64 n] w fun e w' => e = .returned (.agg #[.int .i64 1, .int .i64 n, .string ByteArray.empty, .slice none 0 0]) ∧ Below w.heap.size w w' := by
  go_enter Tryd.func47, Tryd.ntmps47
  go_wp2_with fail
  refine bodyPost_ret (ret_new rfl _ _ _ _ rfl Tryd.underlying41 rfl Tryd.sizeValue') rfl ?_
  exact ⟨rfl, below1 _⟩

theorem ref_text (s : ByteArray) (w : World) : Calls Tryd.prog 48 #[.string s] w fun e w' => e = .returned (.agg #[.int .i64 2, .int .i64 0, .string s, .slice none 0 0]) ∧ Below w.heap.size w w' := by
  go_enter Tryd.func48, Tryd.ntmps48
  go_wp2_with fail
  refine bodyPost_ret (ret_new rfl _ _ _ _ rfl Tryd.underlying41 rfl Tryd.sizeValue') rfl ?_
  exact ⟨rfl, below1 _⟩

theorem ref_list (A : Option Addr) (len cap : Nat) (w : World) : Calls Tryd.prog 46 #[.slice A len cap] w fun e w' => e = .returned (.agg #[.int .i64 3, .int .i64 0, .string ByteArray.empty, .slice A len cap]) ∧ Below w.heap.size w w' := by
  go_enter Tryd.func46, Tryd.ntmps46
  go_wp2_with fail
  refine bodyPost_ret (ret_new rfl _ _ _ _ rfl Tryd.underlying41 rfl Tryd.sizeValue') rfl ?_
  exact ⟨rfl, below1 _⟩

/-- few parts, down to a depth of 20 -/
def few (x : V) : Bool := decide (cnt 21 x ≤ 200)

end Go.Proofs.YtjhecmmbpmpmgaaDoor

namespace Go.Proofs.YtjhecmmbpmpmgaaDoor
open Go.RowKit Go.Lib

set_option maxHeartbeats 400000 in
theorem ref_unsigned (n : Int) (w : World) (hn : Ok n) :
    Calls Tryd.prog 97 #[.int .i64 n] w fun e w' => e = .returned (.int .u64 (unsg n)) ∧ w' = w := by
  obtain ⟨h0, h1⟩ := hn
  by_cases h : 0 ≤ n
  · have HU : Hid (unsg n = 2 * n) := Lib.hid (by unfold unsg; rw [if_pos h])
    go_enter Tryd.func97, Tryd.ntmps97
    go_wp2
    go_ret
    exact ⟨ret_v (by rw [HU.out]; rfl), rfl⟩
  · have HU : Hid (unsg n = 2 * -(n + 1) + 1) := Lib.hid (by unfold unsg; rw [if_neg h]; omega)
    go_enter Tryd.func97, Tryd.ntmps97
    go_wp2
    go_ret
    exact ⟨ret_v (by rw [HU.out]; rfl), rfl⟩

/-- the contract's end of whatever hands back new bytes -/
def NewBytes (xs : List UInt8) (w : World) (e : Ending) (w' : World) : Prop :=
  ∃ v', e = .returned v' ∧ w'.ownsRow 0 5 1 v' xs.length (bc xs) ∧ Below w.heap.size w w' ∧ ∀ k, v'.ownBlock = some k → w.heap.size ≤ k

theorem num_pos (u : Nat) : 0 < (num u).length := by
  unfold num; rw [numF]; split <;> simp

theorem bc_one {l : List UInt8} : ∀ u ∈ bc l, u.oneCell' = true := by
  intro u hu; simp [bc] at hu; obtain ⟨c, _, rfl⟩ := hu; rfl

theorem own_lit1 {w : World} {c : UInt8} {z : Int} (B : Nat) (hz : z = (c.toNat : Int)) (hB : B ≤ w.heap.size := by omega) : (w.alloc (.cells #[.int .u8 z] 5)).ownsRow B 5 1 (.slice (some ⟨w.heap.size, 0, none⟩) 1 1) 1 (bc [c]) := by
  subst hz; exact World.ownsRow_lit w #[.int .u8 (c.toNat : Int)] 1 hB (by decide) rfl

theorem own_lit2 {w : World} {c : UInt8} {z : Int} {g : Nat} (hz : z = (c.toNat : Int)) (hg : w.heap.size = g) : (w.alloc (.cells #[.int .u8 z] 5)).ownsRow 0 5 1 (.slice (some ⟨g, 0, none⟩) 1 1) 1 (bc [c]) := by
  subst hg; exact own_lit1 0 hz (Nat.zero_le _)

set_option maxRecDepth 100000 in
set_option maxHeartbeats 400000 in
theorem ref_numeral (f : Nat) : ∀ (u : Nat) (w : World), u < 128 ^ (f + 1) → u < 18446744073709551616 →
    Calls Tryd.prog 96 #[.int .u64 u] w (NewBytes (num u) w) := by
  obtain ⟨i0, hi, hz0, hz1, hz2⟩ := info_parts Tryd.infoU8
  induction f with
  | zero =>
    intro u w hu hu64
    have h128 : u < 128 := by simpa using hu
    clear hu hu64
    go_enter Tryd.func96, Tryd.ntmps96
    go_wp2_with fail
    go_ret
    exact ⟨_, rfl, by rw [num_lt h128]; exact own_lit1 _ (by simp; omega), below1 _, fun k hk => by simp [Value.ownBlock] at hk; omega⟩
  | succ f ih =>
    intro u w hu hu64
    by_cases h128 : u < 128
    · clear hu hu64 ih
      go_enter Tryd.func96, Tryd.ntmps96
      go_wp2_with fail
      go_ret
      exact ⟨_, rfl, by rw [num_lt h128]; exact own_lit1 _ (by simp; omega), below1 _, fun k hk => by simp [Value.ownBlock] at hk; omega⟩
    · have HN : Hid (num u = UInt8.ofNat (u % 128 + 128) :: num (u / 128)) := Lib.hid (num_ge (by omega) hu64)
      have HI : Hid (∀ w0, Calls Tryd.prog 96 #[.int .u64 ((u : Int) / 128)] w0 (NewBytes (num (u / 128)) w0)) := Lib.hid fun w0 => by
        have := ih (u / 128) w0 (by rw [Nat.div_lt_iff_lt_mul (by omega)]; rw [Nat.pow_succ] at hu; exact hu) (by omega)
        rwa [show ((u / 128 : Nat) : Int) = (u : Int) / 128 from by omega] at this
      have hnl := num_len (u / 128)
      have hwr : IntKind.u64.wrap ((u : Int) / 128) = (u : Int) / 128 := by rw [IntKind.wrap_u64]; omega
      clear ih hu hu64
      go_enter Tryd.func96, Tryd.ntmps96
      go_wp2_with fail
      refine (HI.out _).mono ?_
      rintro e w1 ⟨v1, rfl, hown1, hb1, hnew1⟩
      have ho := (own_lit1 (w := w) (c := UInt8.ofNat (u % 128 + 128)) (z := (u : Int) % 128 + 128) 0 (by simp; omega) (Nat.zero_le _)).kept (World.grownBy.mk hb1.os hb1.tape hb1.output hb1.size (fun k hk _ => hb1.block k hk) : World.grownBy _ w1 none) (.inr (by simp [Value.ownBlock]))
      obtain ⟨g1, c1, rfl⟩ := own_form hown1 (num_pos _)
      have hcs := hown1.cells (g := g1) rfl
      go_wp2_with (at_builtin; refine wpList_app _ rfl _ _ 22 rfl 5 i0 (.int .u8 0) 1 1 Tryd.underlying22 hi hz0 hz1 hz2 rfl (by decide) _ _ _ rfl ho ⟨g1, 0, none⟩ _ c1 (bc (num (u / 128))) rfl (by rw [bc_len, Nat.mul_one]) hcs bc_one (by unfold maxLen; omega) (by omega) ?_; intro v2 w2 hown2 hwr2 _)
      go_ret
      have hf := hwr2.fresh
      have hs1 : w.heap.size + 1 ≤ w1.heap.size := by have := hb1.size; simpa using this
      refine ⟨v2, rfl, by rw [HN.out]; rw [show bc (UInt8.ofNat (u % 128 + 128) :: num (u / 128)) = bc [UInt8.ofNat (u % 128 + 128)] ++ bc (num (u / 128)) from by simp [bc], List.length_cons, Nat.add_comm]; exact hown2, ?_, fun k hk => ?_⟩
      · exact (below1 _).trans ((hb1.mono (by simp)).trans (hwr2.toBelow (by omega) (fun k hk => by have hk' : some w.heap.size = some k := hk; injection hk' with hk'; omega)))
      · rcases hf with hf | hf
        · have hk' : some w.heap.size = some k := hf.symm.trans hk
          injection hk' with hk'; omega
        · have := hf k hk; omega

theorem ref_numeral_int (z : Int) (w : World) (h0 : 0 ≤ z) (hz : z < 18446744073709551616) : Calls Tryd.prog 96 #[.int .u64 z] w (NewBytes (num z.toNat) w) := by
  obtain ⟨u, rfl⟩ := Int.eq_ofNat_of_zero_le h0
  rw [Int.toNat_natCast]
  exact ref_numeral 9 u w (by rw [show (128 : Nat) ^ (9 + 1) = 1180591620717411303424 from by decide]; omega) (by omega)

end Go.Proofs.YtjhecmmbpmpmgaaDoor

namespace Go.Proofs.YtjhecmmbpmpmgaaDoor
open Go.RowKit Go.Lib

theorem own_keep {w w1 : World} {B : Nat} {e : TypeId} {size n : Nat} {v : Value} {xs : List Value} (h : w.ownsRow B e size v n xs) (hb : Below w.heap.size w w1) : w1.ownsRow B e size v n xs :=
  h.kept (World.grownBy.mk hb.os hb.tape hb.output hb.size (fun k hk _ => hb.block k hk) : w.grownBy w1 none) (by cases v.ownBlock <;> simp)

theorem enc_pos (x : V) : 0 < x.enc.length := by
  obtain ⟨k, n, s, l⟩ := x
  rw [V.enc]; split
  · simp
  · split <;> simp

/-- behind append(row, new bytes...) -/
theorem new_after {w w1 w2 : World} {v v2 : Value} {X : Nat} (hb : Below X w w1) (hX : w.heap.size = X) (hv : ∀ k, v.ownBlock = some k → X ≤ k) (hw : Wr w1 v w2 v2) : Below X w w2 ∧ ∀ k, v2.ownBlock = some k → X ≤ k := by
  have hs := hb.size
  refine ⟨hb.trans (hw.toBelow (by omega) hv), fun k hk => ?_⟩
  rcases hw.fresh with h | h
  · exact hv k (h ▸ hk)
  · have := h k hk; omega

set_option maxRecDepth 100000 in
set_option maxHeartbeats 800000 in
theorem ref_enc_int (n : Int) (s : ByteArray) (A : Option Addr) (len cap : Nat) (w : World) (hn : Ok n) :
    Calls Tryd.prog 73 #[.agg #[.int .i64 1, .int .i64 n, .string s, .slice A len cap]] w (NewBytes (1 :: num (unsg n).toNat) w) := by
  obtain ⟨i0, hi, hz0, hz1, hz2⟩ := info_parts Tryd.infoU8
  have hub : 0 ≤ unsg n ∧ unsg n < 18446744073709551616 := by unfold unsg; obtain ⟨h1, h2⟩ := hn; split <;> omega
  have HU := Lib.hid hub; have HN := Lib.hid hn; clear hub hn
  have hnl := num_len (unsg n).toNat
  go_enter Tryd.func73, Tryd.ntmps73
  go_wp2_with (go_at_call 97; refine (ref_unsigned n _ HN.out).mono ?_; rintro e w' ⟨rfl, rfl⟩)
  refine (ref_numeral_int _ _ HU.out.1 HU.out.2).mono ?_
  rintro e w1 ⟨v1, rfl, hown1, hb1, hnew1⟩
  obtain ⟨g1, c1, rfl⟩ := own_form hown1 (num_pos _)
  have hcs := hown1.cells (g := g1) rfl
  have hb0 := below2 (w := w) (Obj.cells #[.int .i64 1, .int .i64 n, .string s, .slice A len cap] 41) (Obj.cells #[.int .u8 1] 5)
  have ho := own_keep (own_lit2 (w := w.alloc (Obj.cells #[.int .i64 1, .int .i64 n, .string s, .slice A len cap] 41)) (c := 1) (z := 1) (g := w.heap.size + 1) rfl (by simp)) hb1
  go_wp2_with (at_builtin; refine wpList_app _ rfl _ _ 22 rfl 5 i0 (.int .u8 0) 1 1 Tryd.underlying22 hi hz0 hz1 hz2 rfl (by decide) _ _ _ rfl ho ⟨g1, 0, none⟩ _ c1 (bc (num (unsg n).toNat)) rfl (by rw [bc_len, Nat.mul_one]) hcs bc_one (by unfold maxLen; omega) (by omega) ?_; intro v2 w2 hown2 hwr2 _)
  go_ret
  have hs1 := hb1.size
  obtain ⟨f1, f2⟩ := new_after (hb0.trans (hb1.mono (by simp; omega))) rfl (fun k hk => by have hk' : some _ = some k := hk; injection hk' with hk'; simp at hk'; omega) hwr2
  exact ⟨v2, rfl, by rw [show bc (1 :: num (unsg n).toNat) = bc [1] ++ bc (num (unsg n).toNat) from by simp [bc], List.length_cons, Nat.add_comm]; exact hown2, f1, f2⟩

theorem second_order {w w1 w3 : World} {B : Nat} {s : ByteArray} (hBw : B < w1.drew.heap.size) (hc1 : w1.cell? ⟨B, 2, none⟩ = some (.string s)) (hb3 : Below w1.drew.heap.size w1.drew w3) (hb0 : Below B w w1) (o : Obj) :
    (w3.alloc o).cell? ⟨B, 2, none⟩ = some (.string s) ∧ some B ≠ (Value.slice (some ⟨w3.heap.size, 0, none⟩) 1 1).ownBlock ∧ (∀ k, (Value.slice (some ⟨w3.heap.size, 0, none⟩) 1 1).ownBlock = some k → B ≤ k) ∧ B < (w3.alloc o).heap.size ∧
    Below B w (w3.alloc o) := by
  have hs := hb3.size
  refine ⟨?_, fun e => ?_, fun k hk => ?_, by simp; omega, ?_⟩
  · rw [World.cell?_alloc_past _ _ _ (show B < w3.heap.size by omega)]
    exact (hb3.cell (p := ⟨B, 2, none⟩) hBw).trans hc1
  · have e' : some B = some w3.heap.size := e
    injection e' with e'; omega
  · have e' : some w3.heap.size = some k := hk
    injection e' with e'; omega
  · exact (hb0.trans ((Below.refl _ w1).drew)).trans ((hb3.mono (by omega)).alloc (by omega) o)

set_option maxRecDepth 100000 in
set_option maxHeartbeats 1600000 in
theorem ref_enc_text (n : Int) (s : ByteArray) (A : Option Addr) (len cap : Nat) (w : World) (hx : s.size < 900000000000) :
    Calls Tryd.prog 73 #[.agg #[.int .i64 2, .int .i64 n, .string s, .slice A len cap]] w (NewBytes (2 :: (num s.size ++ s.data.toList)) w) := by
  obtain ⟨i0, hi, hz0, hz1, hz2⟩ := info_parts Tryd.infoU8
  have hnl := num_len s.size
  have hsl : s.data.toList.length = s.size := rfl
  have HSL := Lib.hid hsl; clear hsl
  go_enter Tryd.func73, Tryd.ntmps73
  go_wp2_with fail
  have hc1 : (w.alloc (Obj.cells #[Value.int IntKind.i64 2, Value.int IntKind.i64 n, Value.string s, Value.slice A len cap] 41)).cell? ⟨w.heap.size, 2, none⟩ = some (.string s) := by
    rw [World.cell?_alloc_at _ _ _ _ rfl]; rfl
  have hb0 := below1 (w := w) (Obj.cells #[Value.int IntKind.i64 2, Value.int IntKind.i64 n, Value.string s, Value.slice A len cap] 41)
  have hsz : (w.alloc (Obj.cells #[Value.int IntKind.i64 2, Value.int IntKind.i64 n, Value.string s, Value.slice A len cap] 41)).heap.size = w.heap.size + 1 := by simp
  generalize hB : w.heap.size = B at *
  generalize (w.alloc (Obj.cells #[Value.int IntKind.i64 2, Value.int IntKind.i64 n, Value.string s, Value.slice A len cap] 41)) = w1 at *
  have ho1 := Lib.hid (own_lit2 (w := w1.drew) (c := 2) (z := 2) (g := B + 1) rfl hsz)
  have hcc : (w1.drew.alloc (Obj.cells #[.int .u8 2] 5)).cell? ⟨B, 2, none⟩ = some (.string s) := by rw [World.cell?_alloc_past _ _ _ (by show B < w1.heap.size; omega)]; exact hc1
  have hBs : B < (w1.drew.alloc (Obj.cells #[.int .u8 2] 5)).heap.size := by show B < (w1.heap.push _).size; simp; omega
  have hBn1 := Lib.hid (show some B ≠ (Value.slice (some ⟨B + 1, 0, none⟩) 1 1).ownBlock from by intro e; have e' : some B = some (B + 1) := e; injection e' with e'; omega)
  have hBw : B < w1.drew.heap.size := by show B < w1.heap.size; omega
  have hvn1 := Lib.hid (show ∀ k, (Value.slice (some ⟨B + 1, 0, none⟩) 1 1).ownBlock = some k → B ≤ k from fun k hk => by have hk' : some (B + 1) = some k := hk; injection hk' with hk'; omega)
  have h20 := Lib.hid (show B ≤ (w1.drew.alloc (Obj.cells #[.int .u8 2] 5)).heap.size by omega)
  have h21 := Lib.hid (hb0.trans (((Below.refl _ w1).drew).trans ((Below.refl _ _).alloc (show B ≤ w1.drew.heap.size by show B ≤ w1.heap.size; omega) (Obj.cells #[.int .u8 2] 5))))
  go_region_held3 (fun w' => w'.cell? ⟨B, 2, none⟩ = some (.string s)) (first | go_keep | (exact hcc) | (exact (hb3.cell (p := ⟨B, 2, none⟩) hBs).trans hcc) | (exact (hb3.cell (p := ⟨B, 2, none⟩) hBw).trans hc1) | (exact hk3) | (exact hwr4.cell hk3 hBn) | (exact hwr5.cell (hwr4.cell hk3 hBn) hBn2))
    (first
     | (refine step_app _ (by rfl) _ _ 22 (by rfl) 5 i0 (.int .u8 0) 1 1 Tryd.underlying22 hi hz0 hz1 hz2 rfl (by decide) _ _ _ (by rfl) ho3.out ⟨g3, 0, none⟩ _ c3 (bc (num s.size)) (by rfl) (by rw [bc_len, Nat.mul_one]) hcs bc_one (by unfold maxLen; omega) (by omega) ?_; intro v4 w4 hown4 hwr4 _; have hBn2 := hwr4.ne (k := B) hB4 hBn; have hf4 := Lib.hid (new_after h22.out hB hvn.out hwr4))
     | (refine step_app_string _ (by rfl) _ _ 22 9 (by rfl) 5 i0 Tryd.underlying22 Tryd.underlying9 hi hz0 hz1 hz2 _ _ _ (by rfl) hown4 s (by rfl) (by unfold maxLen; omega) (by omega) ?_; intro v5 w5 hown5 hwr5)
     | (go_at_call 96; rw [wrap_u64_len s.size (by omega)]; refine (ref_numeral_int _ (w1.drew.alloc (Obj.cells #[.int .u8 2] 5)) (by omega) (by omega)).mono ?_; rintro e w3 ⟨v3, rfl, hown3, hb3, hnew3⟩; rw [Int.toNat_natCast] at hown3; obtain ⟨g3, c3, rfl⟩ := own_form hown3 (num_pos _); have hcs := hown3.cells (g := g3) rfl; have ho3 := Lib.hid (own_keep ho1.out hb3); have hk3 := (hb3.cell (p := ⟨B, 2, none⟩) hBs).trans hcc; have hBn := hBn1.out; have hvn := hvn1; have hB4 := Nat.lt_of_lt_of_le hBs hb3.size; have h22 := Lib.hid (h21.out.trans (hb3.mono h20.out)))
     | (go_at_call 96; rw [wrap_u64_len s.size (by omega)]; refine (ref_numeral_int _ w1.drew (by omega) (by omega)).mono ?_; rintro e w3 ⟨v3, rfl, hown3, hb3, hnew3⟩; rw [Int.toNat_natCast] at hown3; obtain ⟨g3, c3, rfl⟩ := own_form hown3 (num_pos _); have hcs := (hown3.alloc (Obj.cells #[.int .u8 2] 5)).cells (g := g3) rfl; have ho3 := Lib.hid (own_lit2 (w := w3) (c := 2) (z := 2) (g := w3.heap.size) rfl rfl); obtain ⟨hk3, hBn, hvn, hB4, h22⟩ := second_order hBw hc1 hb3 hb0 (Obj.cells #[.int .u8 2] 5); have hvn := Lib.hid hvn; have h22 := Lib.hid h22))
  all_goals
    go_wp2
    go_ret
    obtain ⟨f1, f2⟩ := hf4.out
    obtain ⟨f3, f4⟩ := new_after f1 hB f2 hwr5
    refine ⟨v5, rfl, ?_, by rw [hB]; exact f3, fun k hk => by rw [hB]; exact f4 k hk⟩
    rw [strCells_bc, ← bc_append, ← bc_append, ← HSL.out] at hown5
    simpa [Nat.add_comm, Nat.add_left_comm, Nat.add_assoc] using hown5

end Go.Proofs.YtjhecmmbpmpmgaaDoor

namespace Go.Proofs.YtjhecmmbpmpmgaaDoor
open Go.RowKit Go.Lib

def RefEncUpTo (N : Nat) : Prop := ∀ (x : V) (v : Value) (S : Nat → Prop) (w : World), x.sz ≤ N → x.fm ≠ none → Rd w S x v → (∀ b, S b → b < w.heap.size) → x.enc.length < 700000000000 →
    Calls Tryd.prog 73 #[v] w (NewBytes x.enc w)

set_option maxRecDepth 100000 in
set_option maxHeartbeats 1600000 in
theorem ref_enc_list (N : Nat) (ih : RefEncUpTo N) (hN : N < 1000000) (s : ByteArray) (l : List V) (A : Option Addr) (cap : Nat) (S : Nat → Prop) (w : World) (hsz : (V.mk 3 0 s l).sz ≤ N + 1) (hf : fmFrom 0 l ≠ none)
    (hR : Rd w S (.mk 3 0 s l) (.agg #[.int .i64 3, .int .i64 0, .string s, .slice A l.length cap])) (hS : ∀ b, S b → b < w.heap.size) (hx : (encL l).length < 700000000000) :
    Calls Tryd.prog 73 #[.agg #[.int .i64 3, .int .i64 0, .string s, .slice A l.length cap]] w (NewBytes (3 :: (num l.length ++ encL l)) w) := by
  obtain ⟨i0, hi, hz0, hz1, hz2⟩ := info_parts Tryd.infoU8
  have hnl := num_len l.length
  have hlen : l.length < 1000001 := by have := V.sz_len (k := 3) (n := 0) (s := s) (l := l); omega
  have hIH := Lib.hid ih; clear ih
  have hwl := wrap_u64_len l.length (by omega)
  go_enter Tryd.func73, Tryd.ntmps73
  go_wp2_with fail
  refine (ref_numeral_int _ _ (by omega) (by omega)).mono ?_
  rintro e w1 ⟨v1, rfl, hown1, hb1, hnew1⟩
  rw [Int.toNat_natCast] at hown1
  obtain ⟨g1, c1, rfl⟩ := own_form hown1 (num_pos _)
  have hcs := hown1.cells (g := g1) rfl
  have hb0 := below2 (w := w) (Obj.cells #[.int .i64 3, .int .i64 0, .string s, .slice A l.length cap] 41) (Obj.cells #[.int .u8 3] 5)
  have ho := own_keep (own_lit2 (w := w.alloc (Obj.cells #[.int .i64 3, .int .i64 0, .string s, .slice A l.length cap] 41)) (c := 3) (z := 3) (g := w.heap.size + 1) rfl (by simp)) hb1
  have hbox : w1.heap[w.heap.size]? = some (.cells #[.int .i64 3, .int .i64 0, .string s, .slice A l.length cap] 41 (0, 0)) := by
    rw [hb1.block _ (by simp; omega), Below.heap_alloc _ _ _ (by simp)]; exact heap_alloc_new _ _
  have hb01 := hb0.trans (hb1.mono (by simp; omega))
  have hsz1 : w.heap.size + 2 ≤ w1.heap.size := by have := hb1.size; simpa using this
  clear hb0 hb1 hown1 hnew1
  go_wp2_with (at_builtin; refine wpList_app _ rfl _ _ 22 rfl 5 i0 (.int .u8 0) 1 1 Tryd.underlying22 hi hz0 hz1 hz2 rfl (by decide) _ _ _ rfl ho ⟨g1, 0, none⟩ _ c1 (bc (num l.length)) rfl (by rw [bc_len, Nat.mul_one]) hcs bc_one (by unfold maxLen; omega) (by omega) ?_; intro v2 w2 hown2 hwr2 _)
  have hbox2 : w2.heap[w.heap.size]? = some (.cells #[.int .i64 3, .int .i64 0, .string s, .slice A l.length cap] 41 (0, 0)) := by
    rw [hwr2.grown.block _ (by omega) (by intro e; have e' : some w.heap.size = some (w.heap.size + 1) := e; injection e' with e'; omega)]; exact hbox
  have hvn : ∀ k, (Value.slice (some ⟨w.heap.size + 1, 0, none⟩) 1 1).ownBlock = some k → w.heap.size + 1 ≤ k := fun k hk => by have hk' : some (w.heap.size + 1) = some k := hk; injection hk' with hk'; omega
  have hn2 : ∀ k, v2.ownBlock = some k → w.heap.size + 1 ≤ k := fun k hk => by
    rcases hwr2.fresh with h | h
    · exact hvn k (h ▸ hk)
    · have := h k hk; omega
  have hb02 := hb01.trans (hwr2.toBelow (by omega) (fun k hk => by have := hvn k hk; omega))
  have ho2 : w2.ownsRow 0 5 1 v2 (3 :: (num l.length ++ encL (l.take 0))).length (bc (3 :: (num l.length ++ encL (l.take 0)))) := by
    rw [show bc (3 :: (num l.length ++ encL (l.take 0))) = bc [3] ++ bc (num l.length) from by simp [bc, encL]]
    simpa [encL, Nat.add_comm] using hown2
  clear hbox hb01 hwr2 hown2 ho hcs hvn
  go_loopw [3, 4] (fun b i wr => ∃ (k : Nat) (ys : List UInt8), k ≤ l.length ∧ i = .int .i64 k ∧ wr.ownsRow 0 5 1 b ys.length (bc ys) ∧ ys = 3 :: (num l.length ++ encL (l.take k)) ∧ Below w.heap.size w wr ∧ (∀ k, b.ownBlock = some k → w.heap.size + 1 ≤ k) ∧
      wr.heap[w.heap.size]? = some (.cells #[.int .i64 3, .int .i64 0, .string s, .slice A l.length cap] 41 (0, 0))) (fun _ i _ => l.length - (intOf i).toNat)
  case atStart => exact ⟨0, _, by omega, rfl, ho2, rfl, hb02, hn2, hbox2⟩
  case round =>
    obtain ⟨k, ys, hk, rfl, ho, hys, hb, hnb, hbx⟩ := hrel
    have v3 : wr.cell? ⟨w.heap.size, 3, none⟩ = some (Value.slice A l.length cap) := by rw [cell_of_row wr _ 3 _ _ _ hbx]; rfl
    have hws : w.heap.size < wr.heap.size := (Array.getElem?_eq_some_iff.1 hbx).1
    by_cases hlt : k < l.length
    · have t1 : decide (k < l.length) = true := by simpa using hlt
      obtain ⟨b, off, k', n', s', l', A', cap', hxk, rfl, hbS, h4, hR'⟩ := hR.at k hlt
      have hbB : b < w.heap.size := hS b hbS
      have hml := enc_mem_le l k hlt
      have HC : Hid (Calls Tryd.prog 73 #[.agg #[.int .i64 k', .int .i64 n', .string s', .slice A' l'.length cap']] wr (NewBytes l[k].enc wr)) :=
        Lib.hid (hIH.out l[k] _ S wr (by have := V.sz_mem (k := 3) (n := 0) (s := s) (List.getElem_mem hlt); omega) (fmFrom_mem l 0 k hlt hf) (by rw [hxk]; exact hR'.frame (fun b hb' => hb.block b (hS b hb')) (fun _ h => h)) (fun b hb' => by have := hS b hb'; omega) (by omega))
      have hep := enc_pos l[k]
      have hys' : ys ++ l[k].enc = 3 :: (num l.length ++ encL (l.take (k + 1))) := by rw [hys, encL_take_succ l k hlt]; simp
      have hyl : ys.length + l[k].enc.length < 800000000000 := by
        have := congrArg List.length hys'; simp at this ⊢
        have := encL_take_le l (k + 1); omega
      have Hys' := Lib.hid hys'
      obtain ⟨c0, c1, c2, c3⟩ := h4
      rw [← hb.cell (p := ⟨b, off + k * 4, none⟩) hbB] at c0
      rw [← hb.cell (p := ⟨b, off + k * 4 + 1, none⟩) hbB] at c1
      rw [← hb.cell (p := ⟨b, off + k * 4 + 2, none⟩) hbB] at c2
      rw [← hb.cell (p := ⟨b, off + k * 4 + 3, none⟩) hbB] at c3
      have Hb := Lib.hid hb; have Hnb := Lib.hid hnb; have Hbx := Lib.hid hbx; have Ho := Lib.hid ho
      generalize l[k].enc = xe at *
      clear hxk hR' hys hys' hb hnb hbx ho ho2 hb02 hn2 hbox2
      go_wp2_with fail
      refine HC.out.mono ?_
      rintro e w4 ⟨v4, rfl, hown4, hb4, hnew4⟩
      obtain ⟨g4, c4, rfl⟩ := own_form hown4 hep
      have hcs := hown4.cells (g := g4) rfl
      have ho4 := own_keep Ho.out hb4
      have Hb4 := Lib.hid hb4
      clear hb4 hown4
      go_wp2_with (at_builtin; refine wpList_app _ rfl _ _ 22 rfl 5 i0 (.int .u8 0) 1 1 Tryd.underlying22 hi hz0 hz1 hz2 rfl (by decide) _ _ _ rfl ho4 ⟨g4, 0, none⟩ _ c4 (bc xe) rfl (by rw [bc_len, Nat.mul_one]) hcs bc_one (by unfold maxLen; omega) (by omega) ?_; intro v5 w5 hown5 hwr5 _)
      have Hown5 := Lib.hid hown5; have Hwr5 := Lib.hid hwr5
      clear hown5 hwr5 hcs ho4
      go_wp2_with fail
      go_roundw
      case rel =>
        have h4s := Hb4.out.size
        have hg5 : w5.heap[w.heap.size]? = w4.heap[w.heap.size]? := Hwr5.out.grown.block _ (by omega) (by intro e; have := Hnb.out _ e.symm; omega)
        refine ⟨k + 1, _, by omega, by go_num, by rw [← Hys'.out, bc_append, List.length_append]; exact Hown5.out, rfl, Hb.out.trans ((Hb4.out.mono (by omega)).trans (Hwr5.out.toBelow (by omega) (fun k hk => by have := Hnb.out k hk; omega))), fun k hk => ?_, ?_⟩
        · rcases Hwr5.out.fresh with h | h
          · exact Hnb.out k (h ▸ hk)
          · have := h k hk; omega
        · rw [hg5, Hb4.out.block _ hws]; exact Hbx.out
      case measure => simp [intOf]; omega
    · have hkl : k = l.length := by omega
      have t1 : decide (k < l.length) = false := by simpa using hlt
      subst hkl
      rw [List.take_length] at hys
      subst hys
      have Hb := Lib.hid hb
      clear hb
      go_wp2_with fail
      go_ret
      exact ⟨_, rfl, ho, Hb.out, fun k hk => by have := hnb k hk; omega⟩

end Go.Proofs.YtjhecmmbpmpmgaaDoor

namespace Go.Proofs.YtjhecmmbpmpmgaaDoor
open Go.RowKit Go.Lib

def rf3 (n : Int) (s : ByteArray) (l : List V) : Bool := okL l && (decide (n = 0) && decide (s.size = 0))

def RefFormedUpTo (N : Nat) : Prop := ∀ (x : V) (v : Value) (S : Nat → Prop) (w : World), x.sz ≤ N → Rd w S x v → (∀ b, S b → b < w.heap.size) →
    Calls Tryd.prog 94 #[v] w fun e w' => e = .returned (.bool x.fm.isSome) ∧ Below w.heap.size w w'

set_option maxRecDepth 100000 in
set_option maxHeartbeats 800000 in
theorem rformed_1 (n : Int) (s : ByteArray) (l : List V) (A : Option Addr) (cap : Nat) (w : World) :
    Calls Tryd.prog 94 #[.agg #[.int .i64 1, .int .i64 n, .string s, .slice A l.length cap]] w fun e w' =>
      e = .returned (.bool (V.mk 1 n s l).fm.isSome) ∧ Below w.heap.size w w' := by
  by_cases hs : s.size = 0
  · have h1 : s.toList = [] := (toList_nil_iff s).2 hs
    have HF : Hid ((V.mk 1 n s l).fm.isSome = decide (l.length = 0)) := Lib.hid (by rw [V.fm, if_pos rfl]; by_cases h : l.length = 0 <;> simp [hs, h])
    rw [HF.out]
    by_cases hl : l.length = 0
    · have q : ((l.length : Int) == 0) = true := by simpa using hl
      have HL := Lib.hid hl
      clear hs hl
      go_enter Tryd.func94, Tryd.ntmps94
      go_wp2_with fail
      go_ret
      exact ⟨ret_v (by rw [HL.out]; rfl), below1 _⟩
    · have q : ((l.length : Int) == 0) = false := by rw [beq_eq_false_iff_ne]; omega
      have HL := Lib.hid hl
      clear hs hl
      go_enter Tryd.func94, Tryd.ntmps94
      go_wp2_with fail
      go_ret
      exact ⟨ret_v (by rw [decide_eq_false HL.out]; rfl), below1 _⟩
  · have h1 : ¬ s.toList = [] := fun e => hs ((toList_nil_iff s).1 e)
    have HF : Hid ((V.mk 1 n s l).fm.isSome = false) := Lib.hid (by rw [V.fm, if_pos rfl, if_neg (fun h => hs h.1)]; rfl)
    rw [HF.out]
    clear hs
    go_enter Tryd.func94, Tryd.ntmps94
    go_wp2_with fail
    go_ret
    exact ⟨rfl, below1 _⟩

set_option maxRecDepth 100000 in
set_option maxHeartbeats 800000 in
theorem rformed_2 (n : Int) (s : ByteArray) (l : List V) (A : Option Addr) (cap : Nat) (w : World) :
    Calls Tryd.prog 94 #[.agg #[.int .i64 2, .int .i64 n, .string s, .slice A l.length cap]] w fun e w' =>
      e = .returned (.bool (V.mk 2 n s l).fm.isSome) ∧ Below w.heap.size w w' := by
  by_cases hn : n = 0
  · subst hn
    have HF : Hid ((V.mk 2 0 s l).fm.isSome = decide (l.length = 0)) := Lib.hid (by rw [V.fm, if_neg (by decide), if_pos rfl]; by_cases h : l.length = 0 <;> simp [h])
    rw [HF.out]
    by_cases hl : l.length = 0
    · have q : ((l.length : Int) == 0) = true := by simpa using hl
      have HL := Lib.hid hl
      clear hl
      go_enter Tryd.func94, Tryd.ntmps94
      go_wp2_with fail
      go_ret
      exact ⟨ret_v (by rw [HL.out]; rfl), below1 _⟩
    · have q : ((l.length : Int) == 0) = false := by rw [beq_eq_false_iff_ne]; omega
      have HL := Lib.hid hl
      clear hl
      go_enter Tryd.func94, Tryd.ntmps94
      go_wp2_with fail
      go_ret
      exact ⟨ret_v (by rw [decide_eq_false HL.out]; rfl), below1 _⟩
  · have q : (n == 0) = false := by simpa using hn
    have HF : Hid ((V.mk 2 n s l).fm.isSome = false) := Lib.hid (by rw [V.fm, if_neg (by decide), if_pos rfl, if_neg (fun h => hn h.1)]; rfl)
    rw [HF.out]
    clear hn
    go_enter Tryd.func94, Tryd.ntmps94
    go_wp2_with fail
    go_ret
    exact ⟨rfl, below1 _⟩

set_option maxRecDepth 100000 in
set_option maxHeartbeats 800000 in
theorem rformed_0 (k n : Int) (s : ByteArray) (l : List V) (A : Option Addr) (cap : Nat) (w : World) (h1 : ¬ k = 1) (h2 : ¬ k = 2) (h3 : ¬ k = 3) :
    Calls Tryd.prog 94 #[.agg #[.int .i64 k, .int .i64 n, .string s, .slice A l.length cap]] w fun e w' =>
      e = .returned (.bool (V.mk k n s l).fm.isSome) ∧ Below w.heap.size w w' := by
  have q1 : (k == 1) = false := by simpa using h1
  have q2 : (k == 2) = false := by simpa using h2
  have q3 : (k == 3) = false := by simpa using h3
  have HF : Hid ((V.mk k n s l).fm.isSome = false) := Lib.hid (by rw [V.fm, if_neg h1, if_neg h2, if_neg h3]; rfl)
  rw [HF.out]
  clear h1 h2 h3
  go_enter Tryd.func94, Tryd.ntmps94
  go_wp2_with fail
  go_ret
  exact ⟨rfl, below1 _⟩

set_option maxRecDepth 100000 in
set_option maxHeartbeats 1600000 in
theorem rformed_3 (N : Nat) (ih : RefFormedUpTo N) (n : Int) (s : ByteArray) (l : List V) (A : Option Addr) (cap : Nat) (S : Nat → Prop) (w : World) (hsz : (V.mk 3 n s l).sz ≤ N + 1) (hN : N < 1000000)
    (hR : Rd w S (.mk 3 n s l) (.agg #[.int .i64 3, .int .i64 n, .string s, .slice A l.length cap])) (hS : ∀ b, S b → b < w.heap.size) :
    Calls Tryd.prog 94 #[.agg #[.int .i64 3, .int .i64 n, .string s, .slice A l.length cap]] w fun e w' =>
      e = .returned (.bool (rf3 n s l)) ∧ Below w.heap.size w w' := by
  have hlen : l.length < 1000001 := by have := V.sz_len (k := 3) (n := n) (s := s) (l := l); omega
  have hIH := Lib.hid ih
  clear ih
  go_enter Tryd.func94, Tryd.ntmps94
  go_wp2_with fail
  have hbox : (w.alloc (Obj.cells #[Value.int IntKind.i64 3, Value.int IntKind.i64 n, Value.string s, Value.slice A l.length cap] 41)).heap[w.heap.size]? = some (.cells #[Value.int IntKind.i64 3, Value.int IntKind.i64 n, Value.string s, Value.slice A l.length cap] 41 (0, 0)) := heap_alloc_new _ _
  have hb0 := below1 (w := w) (Obj.cells #[Value.int IntKind.i64 3, Value.int IntKind.i64 n, Value.string s, Value.slice A l.length cap] 41)
  generalize w.alloc (Obj.cells #[Value.int IntKind.i64 3, Value.int IntKind.i64 n, Value.string s, Value.slice A l.length cap] 41) = w1 at *
  go_loopw [3] (fun i wr => ∃ k : Nat, k ≤ l.length ∧ i = .int .i64 k ∧ okL l = okL (l.drop k) ∧ Below w.heap.size w wr ∧
      wr.heap[w.heap.size]? = some (.cells #[Value.int IntKind.i64 3, Value.int IntKind.i64 n, Value.string s, Value.slice A l.length cap] 41 (0, 0))) (fun i _ => l.length - (intOf i).toNat)
  case atStart => exact ⟨0, by omega, rfl, rfl, hb0, hbox⟩
  case round =>
    obtain ⟨k, hk, rfl, he, hb, hbx⟩ := hrel
    have v1 : wr.cell? ⟨w.heap.size, 1, none⟩ = some (Value.int .i64 n) := by rw [cell_of_row wr _ 1 _ _ _ hbx]; rfl
    have v2 : wr.cell? ⟨w.heap.size, 2, none⟩ = some (Value.string s) := by rw [cell_of_row wr _ 2 _ _ _ hbx]; rfl
    have v3 : wr.cell? ⟨w.heap.size, 3, none⟩ = some (Value.slice A l.length cap) := by rw [cell_of_row wr _ 3 _ _ _ hbx]; rfl
    have hws : w.heap.size < wr.heap.size := (Array.getElem?_eq_some_iff.1 hbx).1
    have He := Lib.hid he; have Hbx := Lib.hid hbx
    clear he hbx hbox hb0
    by_cases hlt : k < l.length
    · have t1 : decide (k < l.length) = true := by simpa using hlt
      obtain ⟨b, off, k', n', s', l', A', cap', hxk, rfl, hbS, h4, hR'⟩ := hR.at k hlt
      have hbB : b < w.heap.size := hS b hbS
      have hst := okL_step l k hlt
      have HC : Hid (Calls Tryd.prog 94 #[.agg #[.int .i64 k', .int .i64 n', .string s', .slice A' l'.length cap']] wr fun e w' => e = .returned (.bool l[k].fm.isSome) ∧ Below wr.heap.size wr w') :=
        Lib.hid (hIH.out l[k] _ S wr (by have := V.sz_mem (k := 3) (n := n) (s := s) (List.getElem_mem hlt); omega) (by rw [hxk]; exact hR'.frame (fun b hb' => hb.block b (hS b hb')) (fun _ h => h)) (fun b hb' => by have := hS b hb'; omega))
      obtain ⟨c0, c1, c2, c3⟩ := h4
      rw [← hb.cell (p := ⟨b, off + k * 4, none⟩) hbB] at c0
      rw [← hb.cell (p := ⟨b, off + k * 4 + 1, none⟩) hbB] at c1
      rw [← hb.cell (p := ⟨b, off + k * 4 + 2, none⟩) hbB] at c2
      rw [← hb.cell (p := ⟨b, off + k * 4 + 3, none⟩) hbB] at c3
      have Hst := Lib.hid (He.out.trans hst)
      have Hb := Lib.hid hb
      clear hst hxk hR' hb hR
      generalize l[k].fm.isSome = bb at *
      cases bb
      · go_wp2_with fail
        refine HC.out.mono ?_
        rintro e w4 ⟨rfl, hb4⟩
        go_wp2_with fail
        go_ret
        exact ⟨ret_v (by unfold rf3; rw [Hst.out]; rfl), Hb.out.trans (hb4.mono (by omega))⟩
      · go_wp2_with fail
        refine HC.out.mono ?_
        rintro e w4 ⟨rfl, hb4⟩
        go_wp2_with fail
        go_roundw
        case rel => exact ⟨k + 1, by omega, by go_num, by rw [Hst.out]; rfl, Hb.out.trans (hb4.mono (by omega)), by rw [hb4.block _ hws]; exact Hbx.out⟩
        case measure => simp [intOf]; omega
    · have t1 : decide (k < l.length) = false := by simpa using hlt
      have Hst : Hid (okL l = true) := Lib.hid (by rw [He.out, List.drop_of_length_le (by omega)]; rfl)
      have Hb := Lib.hid hb
      clear hb hR hsz
      by_cases hn : n = 0
      · subst hn
        by_cases hs : s.size = 0
        · have q : s.toList = [] := (toList_nil_iff s).2 hs
          have HS : Hid (rf3 0 s l = true) := Lib.hid (by unfold rf3; rw [Hst.out, decide_eq_true hs]; rfl)
          clear hs
          go_wp2_with fail
          go_ret
          exact ⟨ret_v (by rw [HS.out]; rfl), Hb.out⟩
        · have q : ¬ s.toList = [] := fun e => hs ((toList_nil_iff s).1 e)
          have q2 : s.toList.isEmpty = false := by simpa using q
          have HS : Hid (rf3 0 s l = false) := Lib.hid (by unfold rf3; rw [Hst.out, decide_eq_false hs]; rfl)
          clear hs
          go_wp2_with fail
          go_ret
          exact ⟨ret_v (by rw [HS.out]; rfl), Hb.out⟩
      · have q : (n == 0) = false := by simpa using hn
        have HS : Hid (rf3 n s l = false) := Lib.hid (by unfold rf3; rw [Hst.out, decide_eq_false hn]; rfl)
        clear hn
        go_wp2_with fail
        go_ret
        exact ⟨ret_v (by rw [HS.out]; rfl), Hb.out⟩

theorem rformed_upTo (N : Nat) (hN : N ≤ 1000000) : RefFormedUpTo N := by
  induction N with
  | zero => intro x v S w hx; cases x; rw [V.sz_mk] at hx; omega
  | succ N ih =>
    intro x v S w hx hR hS
    obtain ⟨k, n, s, l⟩ := x
    obtain ⟨A, cap, rfl, hk, hn, hs, hl, hc, ha⟩ := hR.head
    by_cases h1 : k = 1
    · subst h1; exact rformed_1 n s l A cap w
    · by_cases h2 : k = 2
      · subst h2; exact rformed_2 n s l A cap w
      · by_cases h3 : k = 3
        · subst h3; rw [fm3]; exact rformed_3 N (ih (by omega)) n s l A cap S w hx (by omega) hR hS
        · exact rformed_0 k n s l A cap w h1 h2 h3

def RefDepthUpTo (N : Nat) : Prop := ∀ (x : V) (v : Value) (S : Nat → Prop) (w : World), x.sz ≤ N → Rd w S x v → (∀ b, S b → b < w.heap.size) →
    Calls Tryd.prog 95 #[v] w fun e w' => e = .returned (.int .i64 x.dep) ∧ Below w.heap.size w w'

set_option maxRecDepth 100000 in
set_option maxHeartbeats 800000 in
theorem rdepth_0 (k n : Int) (s : ByteArray) (A : Option Addr) (len cap : Nat) (w : World) (h3 : ¬ k = 3) :
    Calls Tryd.prog 95 #[.agg #[.int .i64 k, .int .i64 n, .string s, .slice A len cap]] w fun e w' => e = .returned (.int .i64 0) ∧ Below w.heap.size w w' := by
  have q3 : (k != 3) = true := by simpa using h3
  clear h3
  go_enter Tryd.func95, Tryd.ntmps95
  go_wp2_with fail
  go_ret
  exact ⟨rfl, below1 _⟩

set_option maxRecDepth 100000 in
set_option maxHeartbeats 1600000 in
theorem rdepth_3 (N : Nat) (ih : RefDepthUpTo N) (n : Int) (s : ByteArray) (l : List V) (A : Option Addr) (cap : Nat) (S : Nat → Prop) (w : World) (hsz : (V.mk 3 n s l).sz ≤ N + 1) (hN : N < 1000000)
    (hR : Rd w S (.mk 3 n s l) (.agg #[.int .i64 3, .int .i64 n, .string s, .slice A l.length cap])) (hS : ∀ b, S b → b < w.heap.size) :
    Calls Tryd.prog 95 #[.agg #[.int .i64 3, .int .i64 n, .string s, .slice A l.length cap]] w fun e w' =>
      e = .returned (.int .i64 ((depFrom 0 l + 1 : Nat) : Int)) ∧ Below w.heap.size w w' := by
  have hlen : l.length < 1000001 := by have := V.sz_len (k := 3) (n := n) (s := s) (l := l); omega
  have hIH := Lib.hid ih
  clear ih
  go_enter Tryd.func95, Tryd.ntmps95
  go_wp2_with fail
  have hbox : (w.alloc (Obj.cells #[Value.int IntKind.i64 3, Value.int IntKind.i64 n, Value.string s, Value.slice A l.length cap] 41)).heap[w.heap.size]? = some (.cells #[Value.int IntKind.i64 3, Value.int IntKind.i64 n, Value.string s, Value.slice A l.length cap] 41 (0, 0)) := heap_alloc_new _ _
  have hb0 := below1 (w := w) (Obj.cells #[Value.int IntKind.i64 3, Value.int IntKind.i64 n, Value.string s, Value.slice A l.length cap] 41)
  generalize w.alloc (Obj.cells #[Value.int IntKind.i64 3, Value.int IntKind.i64 n, Value.string s, Value.slice A l.length cap] 41) = w1 at *
  go_loopw [3, 4] (fun m i wr => ∃ k c : Nat, k ≤ l.length ∧ i = .int .i64 k ∧ m = .int .i64 c ∧ c ≤ 1000000 ∧ depFrom 0 l = depFrom c (l.drop k) ∧ Below w.heap.size w wr ∧
      wr.heap[w.heap.size]? = some (.cells #[Value.int IntKind.i64 3, Value.int IntKind.i64 n, Value.string s, Value.slice A l.length cap] 41 (0, 0))) (fun _ i _ => l.length - (intOf i).toNat)
  case atStart => exact ⟨0, 0, by omega, rfl, rfl, by omega, rfl, hb0, hbox⟩
  case round =>
    obtain ⟨k, c, hk, rfl, rfl, hc, he, hb, hbx⟩ := hrel
    have v3 : wr.cell? ⟨w.heap.size, 3, none⟩ = some (Value.slice A l.length cap) := by rw [cell_of_row wr _ 3 _ _ _ hbx]; rfl
    have hws : w.heap.size < wr.heap.size := (Array.getElem?_eq_some_iff.1 hbx).1
    have He := Lib.hid he; have Hbx := Lib.hid hbx
    clear he hbx hbox hb0
    by_cases hlt : k < l.length
    · have t1 : decide (k < l.length) = true := by simpa using hlt
      obtain ⟨b, off, k', n', s', l', A', cap', hxk, rfl, hbS, h4, hR'⟩ := hR.at k hlt
      have hbB : b < w.heap.size := hS b hbS
      have hst := depFrom_step c k l hlt
      have hxs : l[k].sz ≤ N := by have := V.sz_mem (k := 3) (n := n) (s := s) (List.getElem_mem hlt); omega
      have hdl := dep_le l[k]
      have HC : Hid (Calls Tryd.prog 95 #[.agg #[.int .i64 k', .int .i64 n', .string s', .slice A' l'.length cap']] wr fun e w' => e = .returned (.int .i64 l[k].dep) ∧ Below wr.heap.size wr w') :=
        Lib.hid (hIH.out l[k] _ S wr hxs (by rw [hxk]; exact hR'.frame (fun b hb' => hb.block b (hS b hb')) (fun _ h => h)) (fun b hb' => by have := hS b hb'; omega))
      obtain ⟨c0, c1, c2, c3⟩ := h4
      rw [← hb.cell (p := ⟨b, off + k * 4, none⟩) hbB] at c0
      rw [← hb.cell (p := ⟨b, off + k * 4 + 1, none⟩) hbB] at c1
      rw [← hb.cell (p := ⟨b, off + k * 4 + 2, none⟩) hbB] at c2
      rw [← hb.cell (p := ⟨b, off + k * 4 + 3, none⟩) hbB] at c3
      have hde : l[k].dep ≤ 1000000 := by omega
      have Hst := Lib.hid (He.out.trans hst)
      have Hb := Lib.hid hb
      clear hst hxk hR' hb hR hdl hxs
      generalize l[k].dep = dx at *
      go_wp2_with fail
      refine HC.out.mono ?_
      rintro e w4 ⟨rfl, hb4⟩
      go_wp2_with fail
      go_roundw
      case rel => exact ⟨k + 1, max c dx, by omega, by go_num, by split <;> congr 2 <;> omega, by omega, Hst.out, Hb.out.trans (hb4.mono (by omega)), by rw [hb4.block _ hws]; exact Hbx.out⟩
      case measure => simp [intOf]; omega
    · have t1 : decide (k < l.length) = false := by simpa using hlt
      have Hst : Hid (depFrom 0 l = c) := Lib.hid (by rw [He.out, List.drop_of_length_le (by omega), depFrom])
      have Hb := Lib.hid hb
      clear hb hR hsz
      go_wp2_with fail
      go_ret
      exact ⟨ret_v (by rw [Hst.out]; go_num), Hb.out⟩

theorem rdepth_upTo (N : Nat) (hN : N ≤ 1000000) : RefDepthUpTo N := by
  induction N with
  | zero => intro x v S w hx; cases x; rw [V.sz_mk] at hx; omega
  | succ N ih =>
    intro x v S w hx hR hS
    obtain ⟨k, n, s, l⟩ := x
    obtain ⟨A, cap, rfl, hk, hn, hs, hl, hc, ha⟩ := hR.head
    rw [V.dep]
    by_cases h3 : k = 3
    · subst h3; rw [if_pos rfl]; exact rdepth_3 N (ih (by omega)) n s l A cap S w hx (by omega) hR hS
    · rw [if_neg h3]; exact rdepth_0 k n s A _ cap w h3

end Go.Proofs.YtjhecmmbpmpmgaaDoor

namespace Go.Proofs.YtjhecmmbpmpmgaaDoor
open Go.RowKit Go.Lib

theorem ck_dep {x : V} {d : Nat} (h : x.fm = some d) : ckOf x.fm = if x.dep > 16 then 2 else 0 := by rw [dep_fm x d h, h]; rfl

set_option maxRecDepth 100000 in
set_option maxHeartbeats 800000 in
theorem ref_check {x : V} {v : Value} {S : Nat → Prop} {w : World} (hx : x.sz ≤ 1000000) (hR : Rd w S x v) (hS : ∀ b, S b → b < w.heap.size) :
    Calls Tryd.prog 72 #[v] w fun e w' => e = .returned (.int .i64 (ckOf x.fm)) ∧ Below w.heap.size w w' := by
  obtain ⟨k, n, s, l⟩ := x
  obtain ⟨A, cap, rfl, hk, hn, hs, hl, hc, ha⟩ := hR.head
  have fr : ∀ w0, Below w.heap.size w w0 → Rd w0 S (.mk k n s l) (.agg #[.int .i64 k, .int .i64 n, .string s, .slice A l.length cap]) ∧ ∀ b, S b → b < w0.heap.size := fun w0 h0 => ⟨hR.frame (fun b hb' => h0.block b (hS b hb')) (fun _ h => h), fun b hb' => by have := hS b hb'; have := h0.size; omega⟩
  have HF : Hid (∀ w0, Below w.heap.size w w0 → Calls Tryd.prog 94 #[.agg #[.int .i64 k, .int .i64 n, .string s, .slice A l.length cap]] w0 fun e w' => e = .returned (.bool (V.mk k n s l).fm.isSome) ∧ Below w0.heap.size w0 w') :=
    Lib.hid fun w0 h0 => rformed_upTo 1000000 (by omega) _ _ S w0 hx (fr w0 h0).1 (fr w0 h0).2
  have HD : Hid (∀ w0, Below w.heap.size w w0 → Calls Tryd.prog 95 #[.agg #[.int .i64 k, .int .i64 n, .string s, .slice A l.length cap]] w0 fun e w' => e = .returned (.int .i64 (V.mk k n s l).dep) ∧ Below w0.heap.size w0 w') :=
    Lib.hid fun w0 h0 => rdepth_upTo 1000000 (by omega) _ _ S w0 hx (fr w0 h0).1 (fr w0 h0).2
  have hbox : (w.alloc (Obj.cells #[Value.int IntKind.i64 k, Value.int IntKind.i64 n, Value.string s, Value.slice A l.length cap] 41)).heap[w.heap.size]? = some (.cells #[Value.int IntKind.i64 k, Value.int IntKind.i64 n, Value.string s, Value.slice A l.length cap] 41 (0, 0)) := heap_alloc_new _ _
  have hb0 := below1 (w := w) (Obj.cells #[Value.int IntKind.i64 k, Value.int IntKind.i64 n, Value.string s, Value.slice A l.length cap] 41)
  have hcd : ∀ d, (V.mk k n s l).fm = some d → ckOf (V.mk k n s l).fm = if (V.mk k n s l).dep > 16 then 2 else 0 := fun d h => ck_dep h
  clear hR fr hx hs hl hc ha
  generalize (V.mk k n s l).fm = r at *
  generalize (V.mk k n s l).dep = dd at *
  cases r with
  | none =>
    clear hcd
    go_enter Tryd.func72, Tryd.ntmps72
    go_wp2_with fail
    refine (HF.out _ hb0).mono ?_
    rintro e w1 ⟨rfl, hb1⟩
    simp only [Option.isSome]
    go_wp2_with fail
    go_ret
    exact ⟨rfl, hb0.trans (hb1.mono (by simp))⟩
  | some d =>
    have hcc := hcd d rfl
    have HCC := Lib.hid hcc
    clear hcd hcc
    rw [HCC.out]
    have Hbox := Lib.hid hbox; have Hb0 := Lib.hid hb0; clear hbox hb0
    by_cases h16 : dd > 16
    · have t16 : decide ((dd : Int) > 16) = true := by simp; omega
      go_enter Tryd.func72, Tryd.ntmps72
      go_wp2_with fail
      refine (HF.out _ Hb0.out).mono ?_
      rintro e w1 ⟨rfl, hb1⟩
      simp only [Option.isSome]
      have hbx1 : w1.heap[w.heap.size]? = some (.cells #[Value.int IntKind.i64 k, Value.int IntKind.i64 n, Value.string s, Value.slice A l.length cap] 41 (0, 0)) := by rw [hb1.block _ (by simp)]; exact Hbox.out
      have v0 : w1.cell? ⟨w.heap.size, 0, none⟩ = some (.int .i64 k) := by rw [cell_of_row w1 _ 0 _ _ _ hbx1]; rfl
      have v1 : w1.cell? ⟨w.heap.size, 1, none⟩ = some (.int .i64 n) := by rw [cell_of_row w1 _ 1 _ _ _ hbx1]; rfl
      have v2 : w1.cell? ⟨w.heap.size, 2, none⟩ = some (.string s) := by rw [cell_of_row w1 _ 2 _ _ _ hbx1]; rfl
      have v3 : w1.cell? ⟨w.heap.size, 3, none⟩ = some (.slice A l.length cap) := by rw [cell_of_row w1 _ 3 _ _ _ hbx1]; rfl
      have Hb1 := Lib.hid (Hb0.out.trans (hb1.mono (by simp)))
      clear hbx1 hb1
      go_wp2_with fail
      refine (HD.out _ Hb1.out).mono ?_
      rintro e w2 ⟨rfl, hb2⟩
      go_wp2_with fail
      go_ret
      exact ⟨rfl, Hb1.out.trans (hb2.mono Hb1.out.size)⟩
    · have t16 : decide ((dd : Int) > 16) = false := by simp; omega
      go_enter Tryd.func72, Tryd.ntmps72
      go_wp2_with fail
      refine (HF.out _ Hb0.out).mono ?_
      rintro e w1 ⟨rfl, hb1⟩
      simp only [Option.isSome]
      have hbx1 : w1.heap[w.heap.size]? = some (.cells #[Value.int IntKind.i64 k, Value.int IntKind.i64 n, Value.string s, Value.slice A l.length cap] 41 (0, 0)) := by rw [hb1.block _ (by simp)]; exact Hbox.out
      have v0 : w1.cell? ⟨w.heap.size, 0, none⟩ = some (.int .i64 k) := by rw [cell_of_row w1 _ 0 _ _ _ hbx1]; rfl
      have v1 : w1.cell? ⟨w.heap.size, 1, none⟩ = some (.int .i64 n) := by rw [cell_of_row w1 _ 1 _ _ _ hbx1]; rfl
      have v2 : w1.cell? ⟨w.heap.size, 2, none⟩ = some (.string s) := by rw [cell_of_row w1 _ 2 _ _ _ hbx1]; rfl
      have v3 : w1.cell? ⟨w.heap.size, 3, none⟩ = some (.slice A l.length cap) := by rw [cell_of_row w1 _ 3 _ _ _ hbx1]; rfl
      have Hb1 := Lib.hid (Hb0.out.trans (hb1.mono (by simp)))
      clear hbx1 hb1
      go_wp2_with fail
      refine (HD.out _ Hb1.out).mono ?_
      rintro e w2 ⟨rfl, hb2⟩
      go_wp2_with fail
      go_ret
      exact ⟨rfl, Hb1.out.trans (hb2.mono Hb1.out.size)⟩

theorem ref_enc_upTo (N : Nat) (hN : N ≤ 1000000) : RefEncUpTo N := by
  induction N with
  | zero => intro x v S w hx; cases x; rw [V.sz_mk] at hx; omega
  | succ N ih =>
    intro x v S w hx hf hR hS hl
    obtain ⟨k, n, s, l⟩ := x
    obtain ⟨A, cap, rfl, hk, hn, hs, _, hc, ha⟩ := hR.head
    rcases fm_kind hf with hkind | hkind | hkind
    · obtain ⟨rfl, -, -⟩ := hkind
      have he : (V.mk 1 n s l).enc = 1 :: num (unsg n).toNat := by rw [V.enc, if_pos rfl]
      rw [he]; exact ref_enc_int n s A _ cap w hn
    · obtain ⟨rfl, -, -⟩ := hkind
      have he : (V.mk 2 n s l).enc = 2 :: (num s.size ++ s.data.toList) := by rw [V.enc, if_neg (by decide), if_pos rfl]
      have hsl : s.data.toList.length = s.size := rfl
      rw [he]; exact ref_enc_text n s A _ cap w (by rw [he] at hl; simp only [List.length_cons, List.length_append, hsl] at hl; omega)
    · obtain ⟨rfl, rfl, hs0, hfl⟩ := hkind
      have he : (V.mk 3 0 s l).enc = 3 :: (num l.length ++ encL l) := by rw [V.enc, if_neg (by decide), if_neg (by decide)]
      rw [he]; exact ref_enc_list N (ih (by omega)) (by omega) s l A cap S w hx hfl hR hS (by rw [he] at hl; simp only [List.length_cons, List.length_append] at hl; omega)

theorem encode_any {x : V} {v : Value} {S : Nat → Prop} {w : World} (hx : x.sz ≤ 1000000) (hR : Rd w S x v) (hS : ∀ b, S b → b < w.heap.size) (hlen : x.enc.length < 700000000000) :
    Calls Tryd.prog 21 #[v] w (EncPost x w) := by
  by_cases h : ckOf x.fm = 0
  · exact encode_yes x v S w hx hR hS h hlen
  · exact encode_no x v S w hx hR hS h

end Go.Proofs.YtjhecmmbpmpmgaaDoor

namespace Go.Proofs.YtjhecmmbpmpmgaaDoor
open Go.RowKit Go.Lib

set_option maxRecDepth 100000 in
set_option maxHeartbeats 800000 in
theorem ref_encode {x : V} {v : Value} {S : Nat → Prop} {w : World} (hx : x.sz ≤ 1000000) (hR : Rd w S x v) (hS : ∀ b, S b → b < w.heap.size) (hlen : x.enc.length < 700000000000) :
    Calls Tryd.prog 45 #[v] w (EncPost x w) := by
  have HC : Hid (∀ w0, Below w.heap.size w w0 → Calls Tryd.prog 72 #[v] w0 fun e w' => e = .returned (.int .i64 (ckOf x.fm)) ∧ Below w0.heap.size w0 w') :=
    Lib.hid fun w0 h0 => ref_check hx (hR.frame (fun b hb' => h0.block b (hS b hb')) (fun _ h => h)) (fun b hb' => by have := hS b hb'; have := h0.size; omega)
  have HN : Hid (x.fm ≠ none → ∀ w0, Below w.heap.size w w0 → Calls Tryd.prog 73 #[v] w0 (NewBytes x.enc w0)) :=
    Lib.hid fun hf w0 h0 => ref_enc_upTo 1000000 (by omega) x v S w0 hx hf (hR.frame (fun b hb' => h0.block b (hS b hb')) (fun _ h => h)) (fun b hb' => by have := hS b hb'; have := h0.size; omega) hlen
  by_cases hck : ckOf x.fm = 0
  · have hf : x.fm ≠ none := fun e => by rw [e] at hck; simp [ckOf] at hck
    have he : encOf x = x.enc := by unfold encOf; rw [if_pos hck]
    have HE : Hid (EncPost x w = fun e w' => Below w.heap.size w w' ∧ ∃ v', e = .returned (.tuple #[v', .int .i64 0]) ∧ w'.ownsRow 0 5 1 v' x.enc.length (bc x.enc) ∧ ∀ k, v'.ownBlock = some k → w.heap.size ≤ k) := by
      unfold EncPost; rw [he, hck]; rfl
    have HN' := Lib.hid (HN.out hf)
    rw [hck] at HC
    rw [HE.out]
    obtain ⟨k, n, s, l⟩ := x
    obtain ⟨A, cap, rfl, hk, hn, hs, hl, hc, ha⟩ := hR.head
    have hbox : (w.alloc (Obj.cells #[Value.int IntKind.i64 k, Value.int IntKind.i64 n, Value.string s, Value.slice A l.length cap] 41)).heap[w.heap.size]? = some (.cells #[Value.int IntKind.i64 k, Value.int IntKind.i64 n, Value.string s, Value.slice A l.length cap] 41 (0, 0)) := heap_alloc_new _ _
    have hb0 := below1 (w := w) (Obj.cells #[Value.int IntKind.i64 k, Value.int IntKind.i64 n, Value.string s, Value.slice A l.length cap] 41)
    have Hbox := Lib.hid hbox; have Hb0 := Lib.hid hb0
    clear hR hx hlen he HE hk hn hs hl hc ha hS HN hf hbox hb0 hck
    generalize (V.mk k n s l).enc = xs at *
    go_enter Tryd.func45, Tryd.ntmps45
    go_wp2_with fail
    refine (HC.out _ Hb0.out).mono ?_
    rintro e w1 ⟨rfl, hb1⟩
    have hbx1 : w1.heap[w.heap.size]? = some (.cells #[Value.int IntKind.i64 k, Value.int IntKind.i64 n, Value.string s, Value.slice A l.length cap] 41 (0, 0)) := by rw [hb1.block _ (by simp)]; exact Hbox.out
    have v0 : w1.cell? ⟨w.heap.size, 0, none⟩ = some (.int .i64 k) := by rw [cell_of_row w1 _ 0 _ _ _ hbx1]; rfl
    have v1 : w1.cell? ⟨w.heap.size, 1, none⟩ = some (.int .i64 n) := by rw [cell_of_row w1 _ 1 _ _ _ hbx1]; rfl
    have v2 : w1.cell? ⟨w.heap.size, 2, none⟩ = some (.string s) := by rw [cell_of_row w1 _ 2 _ _ _ hbx1]; rfl
    have v3 : w1.cell? ⟨w.heap.size, 3, none⟩ = some (.slice A l.length cap) := by rw [cell_of_row w1 _ 3 _ _ _ hbx1]; rfl
    have Hb1 := Lib.hid (Hb0.out.trans (hb1.mono (by simp)))
    clear hbx1 hb1
    go_wp2_with fail
    refine (HN'.out _ Hb1.out).mono ?_
    rintro e w2 ⟨v4, rfl, hown4, hb2, hfr⟩
    go_wp2_with fail
    go_ret2
    exact ⟨Hb1.out.trans (hb2.mono Hb1.out.size), v4, rfl, hown4, fun k hk => by have := hfr k hk; have := Hb1.out.size; omega⟩
  · have he : encOf x = [] := by unfold encOf; rw [if_neg hck]
    have HE : Hid (EncPost x w = fun e w' => Below w.heap.size w w' ∧ ∃ v', e = .returned (.tuple #[v', .int .i64 (ckOf x.fm)]) ∧ w'.ownsRow 0 5 1 v' 0 (bc []) ∧ ∀ k, v'.ownBlock = some k → w.heap.size ≤ k) := by
      unfold EncPost; rw [he]; rfl
    rw [HE.out]
    obtain ⟨k, n, s, l⟩ := x
    obtain ⟨A, cap, rfl, hk, hn, hs, hl, hc, ha⟩ := hR.head
    clear hR hx he HE hk hn hs hl hc ha hS HN hlen
    generalize ckOf (V.mk k n s l).fm = c at *
    have hc1 : (c != 0) = true := by simpa using hck
    go_enter Tryd.func45, Tryd.ntmps45
    go_wp2_with fail
    refine (HC.out _ (below1 _)).mono ?_
    rintro e w1 ⟨rfl, hb1⟩
    go_wp2_with fail
    go_ret2
    exact ⟨(below1 _).trans (hb1.mono (by simp)), _, rfl, World.ownsRow_nil _ _ _ _, fun k hk => by simp [Value.ownBlock] at hk⟩

/-- what Size returns -/
def SizePost (x : V) (w : World) (e : Ending) (w' : World) : Prop :=
  e = .returned (.tuple #[.int .i64 (encOf x).length, .int .i64 (ckOf x.fm)]) ∧ Below w.heap.size w w'

theorem own_slice {w : World} {t : TypeId} {v : Value} {n : Nat} {cs : List Value} (h : w.ownsRow 0 t 1 v n cs) : ∃ A c, v = .slice A n c := by
  rcases h.2 with ⟨h1, h0⟩ | ⟨g, cap, cur, h1, _⟩
  · exact ⟨none, 0, by rw [h1, h0]⟩
  · exact ⟨_, _, h1⟩
end Go.Proofs.YtjhecmmbpmpmgaaDoor
