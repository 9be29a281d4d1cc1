/- signatoryref01's Reader by its contracts: Value, lists. -/
import Derived.Test.YtjhecmmbpmpmgaaCRefL
import Derived.Deep.AppendLies
import Derived.Deep.RegionLaw
namespace Go.Proofs.Ytjhecmmbpmpmgaa
open Go.RowKit Go.Lib

def RValueAt (d : Nat) : Prop := ∀ (R : Nat) (S : Nat → Prop) (B : List UInt8) (A : Option Addr) (cap i : Nat) (w : World), RB w R S B A cap i false → (∀ b, S b → b < w.heap.size) → B.length ≤ 1000000000 →
    Calls Try.prog 34 #[.pointer (some ⟨R, 0, none⟩), .int .i64 d] w (RValPost R S B A cap (dec (16 - d) (B.drop i)) w)

def RLoop (R : Nat) (S : Nat → Prop) (B : List UInt8) (A : Option Addr) (cap X Y n : Nat) (r1 : List UInt8) (f : List UInt8 → Option (V × List UInt8)) (w : World) (i : Value) (wr : World) : Prop :=
  ∃ (k : Nat) (row : Value), k ≤ n ∧ i = .int .u64 k ∧ ((∃ j vs xs, RListed R S B A cap X Y n r1 f w k row wr j vs xs) ∨ (decS f n r1 = none ∧ ∃ j, RBad R S B A cap X Y w row wr j))

set_option maxRecDepth 100000 in
set_option maxHeartbeats 1600000 in
theorem rlist_short {w : World} {R : Nat} {S : Nat → Prop} {B : List UInt8} {A : Option Addr} {cap i : Nat} (d : Nat) (_hd : d ≤ 16) (h : RB w R S B A cap i false) (hS : ∀ b, S b → b < w.heap.size) (hi : i < B.length) (hc : B[i].toNat = 3) (hB : B.length ≤ 1000000000) (hno : rlen (B.drop (i + 1)) = none) :
    Calls Try.prog 34 #[.pointer (some ⟨R, 0, none⟩), .int .i64 d] w (RValPost R S B A cap none w) := by
  have HNO := Lib.hid hno
  clear hno
  have HN : Hid (∀ w0, Below w.heap.size w w0 → Calls Try.prog 48 #[.pointer (some ⟨R, 0, none⟩)] w0 fun e w' => e = .returned (.int .u8 3) ∧ RB w' R S B A cap (i + 1) false ∧ w0.grownBy w' (some R)) := Lib.hid fun w0 h0 => by
    have := next_some (h.below h0) hi; rw [hc] at this; exact this
  have hrl : Hid (rlen (B.drop (i + 1)) = match rn 0 0 (B.drop (i + 1)) with | none => none | some (n, r) => if n ≤ r.length then some (n, r) else none) := Lib.hid rfl
  have hRs : R < w.heap.size := (Array.getElem?_eq_some_iff.1 h.c).1
  clear h hc
  go_enter Try.func34, Try.ntmps34
  go_wp2_with fail
  refine (HN.out _ (below1 _)).mono ?_
  rintro e w1 ⟨rfl, hr1, hg1⟩
  obtain ⟨n1, n2⟩ := four_new hRs hg1
  have N1 := Lib.hid n1; have HS := Lib.hid hS; have N2 := Lib.hid n2
  have HM : Hid (Calls Try.prog 49 #[.pointer (some ⟨R, 0, none⟩)] w1 (RNumPost R S B A cap (i + 1) w1)) := Lib.hid (ref_number hr1)
  clear hr1 n1 n2 hg1 hS
  go_wp2_with fail
  refine HM.out.mono ?_
  rintro e w2 ⟨hg2, he⟩
  have n3 : w2.heap[w.heap.size]? = some (.cells #[.int .i64 0, .int .i64 0, .string ByteArray.empty, .slice none 0 0] 24 (0, 0)) := by
    rw [hg2.block _ (Array.getElem?_eq_some_iff.1 N1.out).1 (by intro e; injection e with e; omega)]; exact N1.out
  have N3 := Lib.hid n3
  obtain ⟨v0, v1, v2, v3, vf⟩ := four_cells n3
  have HG2 := Lib.hid (grown_trans N2.out hg2)
  clear n3 hg2 N2 HM HN N1
  have hXR : R ≠ w.heap.size := by omega
  have hXS : ¬ S w.heap.size := fun hs => by have := HS.out _ hs; omega
  cases hx : rn 0 0 (B.drop (i + 1)) with
  | none =>
    rw [hx] at he hrl
    obtain ⟨rfl, j, hr2⟩ := he
    have x0 := hr2.c0; have x1 := hr2.c1; have x2 := hr2.c2; have xf := hr2.fz
    have Hr2 := Lib.hid hr2; clear hr2 hx
    go_wp2_with fail
    go_quiet (fail)
    all_goals
      go_wp2_with fail
      obtain ⟨p5, h5⟩ := rbad_end (nq := nq) (y := (none : Option (V × List UInt8))) rfl Hr2.out HG2.out hXR hXS N3.out
      refine bodyPost_ret (ret_cells (t := 24) rfl _ _ _ _ _ _ rfl h5 Try.underlying24 rfl Try.sizeValue) rfl ?_
      exact p5
  | some y =>
    obtain ⟨u, r⟩ := y
    rw [hx] at he hrl
    obtain ⟨rfl, hu, j, rfl, hr2⟩ := he
    have x0 := hr2.c0; have x1 := hr2.c1; have x2 := hr2.c2; have xf := hr2.fz
    have hj := hr2.le
    have hin := Lib.hid hr2
    have ho1 : -9223372036854775808 ≤ (B.length : Int) - (j : Int) ∧ (B.length : Int) - (j : Int) ≤ 9223372036854775807 := by omega
    have ho2 : ((B.length : Int) - (j : Int)) % 18446744073709551616 = (B.length : Int) - (j : Int) := by omega
    have hle : ¬ u ≤ B.length - j := fun hle => by
      have := hrl.out; rw [HNO.out] at this; simp only [List.length_drop] at this; rw [if_pos hle] at this; cases this
    have tp : decide ((u : Int) > (B.length : Int) - (j : Int)) = true := by simp; omega
    have hw1 : IntKind.i64.wrap ((B.length : Int) - (j : Int)) = (B.length : Int) - (j : Int) := IntWalk.i64_in _ ho1
    have hw2 : IntKind.u64.wrap ((B.length : Int) - (j : Int)) = (B.length : Int) - (j : Int) := by rw [IntKind.wrap_u64, ho2]
    clear ho1 ho2 hr2 hx
    go_wp2_with fail
    go_quiet (fail)
    all_goals
      go_wp2_with fail
      obtain ⟨p5, h5⟩ := rbad_end (nq := nq) (y := (none : Option (V × List UInt8))) rfl hin.out HG2.out hXR hXS N3.out
      refine bodyPost_ret (ret_cells (t := 24) rfl _ _ _ _ _ _ rfl h5 Try.underlying24 rfl Try.sizeValue) rfl ?_
      exact p5

set_option maxRecDepth 100000 in
set_option maxHeartbeats 1600000 in
theorem rlist_deep {w : World} {R : Nat} {S : Nat → Prop} {B : List UInt8} {A : Option Addr} {cap i : Nat} (d : Nat) (hd : d = 16) (h : RB w R S B A cap i false) (hS : ∀ b, S b → b < w.heap.size) (hi : i < B.length) (hc : B[i].toNat = 3) (hB : B.length ≤ 1000000000) {u : Nat} {r : List UInt8} (hno : rlen (B.drop (i + 1)) = some (u, r)) :
    Calls Try.prog 34 #[.pointer (some ⟨R, 0, none⟩), .int .i64 d] w (RValPost R S B A cap none w) := by
  have HNO := Lib.hid hno
  have hdd : ((d : Int) == 16) = true := by simp; omega
  clear hno
  have HN : Hid (∀ w0, Below w.heap.size w w0 → Calls Try.prog 48 #[.pointer (some ⟨R, 0, none⟩)] w0 fun e w' => e = .returned (.int .u8 3) ∧ RB w' R S B A cap (i + 1) false ∧ w0.grownBy w' (some R)) := Lib.hid fun w0 h0 => by
    have := next_some (h.below h0) hi; rw [hc] at this; exact this
  have hrl : Hid (rlen (B.drop (i + 1)) = match rn 0 0 (B.drop (i + 1)) with | none => none | some (n, r) => if n ≤ r.length then some (n, r) else none) := Lib.hid rfl
  have hRs : R < w.heap.size := (Array.getElem?_eq_some_iff.1 h.c).1
  clear h hc
  go_enter Try.func34, Try.ntmps34
  go_wp2_with fail
  refine (HN.out _ (below1 _)).mono ?_
  rintro e w1 ⟨rfl, hr1, hg1⟩
  obtain ⟨n1, n2⟩ := four_new hRs hg1
  have N1 := Lib.hid n1; have HS := Lib.hid hS; have N2 := Lib.hid n2
  have HM : Hid (Calls Try.prog 49 #[.pointer (some ⟨R, 0, none⟩)] w1 (RNumPost R S B A cap (i + 1) w1)) := Lib.hid (ref_number hr1)
  clear hr1 n1 n2 hg1 hS
  go_wp2_with fail
  refine HM.out.mono ?_
  rintro e w2 ⟨hg2, he⟩
  have n3 : w2.heap[w.heap.size]? = some (.cells #[.int .i64 0, .int .i64 0, .string ByteArray.empty, .slice none 0 0] 24 (0, 0)) := by
    rw [hg2.block _ (Array.getElem?_eq_some_iff.1 N1.out).1 (by intro e; injection e with e; omega)]; exact N1.out
  have N3 := Lib.hid n3
  obtain ⟨v0, v1, v2, v3, vf⟩ := four_cells n3
  have HG2 := Lib.hid (grown_trans N2.out hg2)
  clear n3 hg2 N2 HM HN N1
  have hXR : R ≠ w.heap.size := by omega
  have hXS : ¬ S w.heap.size := fun hs => by have := HS.out _ hs; omega
  cases hx : rn 0 0 (B.drop (i + 1)) with
  | none => rw [hx] at hrl; rw [HNO.out] at hrl; cases hrl.out
  | some y =>
    obtain ⟨u, r⟩ := y
    rw [hx] at he hrl
    obtain ⟨rfl, hu, j, rfl, hr2⟩ := he
    have x0 := hr2.c0; have x1 := hr2.c1; have x2 := hr2.c2; have xf := hr2.fz
    have hj := hr2.le
    have hin := Lib.hid hr2
    have ho1 : -9223372036854775808 ≤ (B.length : Int) - (j : Int) ∧ (B.length : Int) - (j : Int) ≤ 9223372036854775807 := by omega
    have ho2 : ((B.length : Int) - (j : Int)) % 18446744073709551616 = (B.length : Int) - (j : Int) := by omega
    have hle : u ≤ B.length - j := by
      have := hrl.out; rw [HNO.out] at this; simp only [List.length_drop] at this
      split at this
      · assumption
      · cases this
    have tp : decide ((u : Int) > (B.length : Int) - (j : Int)) = false := by simp; omega
    have hw1 : IntKind.i64.wrap ((B.length : Int) - (j : Int)) = (B.length : Int) - (j : Int) := IntWalk.i64_in _ ho1
    have hw2 : IntKind.u64.wrap ((B.length : Int) - (j : Int)) = (B.length : Int) - (j : Int) := by rw [IntKind.wrap_u64, ho2]
    clear ho1 ho2 hr2 hx
    go_wp2_with fail
    go_quiet (fail)
    all_goals
      go_wp2_with fail
      obtain ⟨p5, h5⟩ := rbad_end (nq := nq) (y := (none : Option (V × List UInt8))) rfl hin.out HG2.out hXR hXS N3.out
      refine bodyPost_ret (ret_cells (t := 24) rfl _ _ _ _ _ _ rfl h5 Try.underlying24 rfl Try.sizeValue) rfl ?_
      exact p5

set_option maxRecDepth 100000 in
set_option maxHeartbeats 3200000 in
theorem rlist_go {w : World} {R : Nat} {S : Nat → Prop} {B : List UInt8} {A : Option Addr} {cap i : Nat} (d : Nat) (hd : d < 16) (ih : RValueAt (d + 1)) (h : RB w R S B A cap i false) (hS : ∀ b, S b → b < w.heap.size) (hi : i < B.length) (hc : B[i].toNat = 3) (hB : B.length ≤ 1000000000) {n : Nat} {r1 : List UInt8} (hno : rlen (B.drop (i + 1)) = some (n, r1)) :
    Calls Try.prog 34 #[.pointer (some ⟨R, 0, none⟩), .int .i64 d] w (RValPost R S B A cap ((decS (dec (15 - d)) n r1).map fun y => (.mk 3 0 ByteArray.empty y.1, y.2)) w) := by
  obtain ⟨i0, hi', hz0, hz1, hz2⟩ := info_parts Try.infoValue
  have hIH := Lib.hid ih; clear ih
  have HNO := Lib.hid hno
  have hdd : ((d : Int) == 16) = false := by simp; omega
  clear hno
  have HN : Hid (∀ w0, Below w.heap.size w w0 → Calls Try.prog 48 #[.pointer (some ⟨R, 0, none⟩)] w0 fun e w' => e = .returned (.int .u8 3) ∧ RB w' R S B A cap (i + 1) false ∧ w0.grownBy w' (some R)) := Lib.hid fun w0 h0 => by
    have := next_some (h.below h0) hi; rw [hc] at this; exact this
  have hrl : Hid (rlen (B.drop (i + 1)) = match rn 0 0 (B.drop (i + 1)) with | none => none | some (n, r) => if n ≤ r.length then some (n, r) else none) := Lib.hid rfl
  have hRs : R < w.heap.size := (Array.getElem?_eq_some_iff.1 h.c).1
  clear h hc
  go_enter Try.func34, Try.ntmps34
  go_wp2_with fail
  refine (HN.out _ (below1 _)).mono ?_
  rintro e w1 ⟨rfl, hr1, hg1⟩
  obtain ⟨n1, n2⟩ := four_new hRs hg1
  have N1 := Lib.hid n1; have HS := Lib.hid hS; have N2 := Lib.hid n2
  have HM : Hid (Calls Try.prog 49 #[.pointer (some ⟨R, 0, none⟩)] w1 (RNumPost R S B A cap (i + 1) w1)) := Lib.hid (ref_number hr1)
  clear hr1 n1 n2 hg1 hS
  go_wp2_with fail
  refine HM.out.mono ?_
  rintro e w2 ⟨hg2, he⟩
  have n3 : w2.heap[w.heap.size]? = some (.cells #[.int .i64 0, .int .i64 0, .string ByteArray.empty, .slice none 0 0] 24 (0, 0)) := by
    rw [hg2.block _ (Array.getElem?_eq_some_iff.1 N1.out).1 (by intro e; injection e with e; omega)]; exact N1.out
  have N3 := Lib.hid n3
  obtain ⟨v0, v1, v2, v3, vf⟩ := four_cells n3
  have HG2 := Lib.hid (grown_trans N2.out hg2)
  clear n3 hg2 N2 HM HN N1
  have hXR : R ≠ w.heap.size := by omega
  have hXS : ¬ S w.heap.size := fun hs => by have := HS.out _ hs; omega
  cases hx : rn 0 0 (B.drop (i + 1)) with
  | none => rw [hx] at hrl; rw [HNO.out] at hrl; cases hrl.out
  | some y =>
    obtain ⟨u, r⟩ := y
    rw [hx] at he hrl
    obtain ⟨rfl, hu, j, rfl, hr2⟩ := he
    have hle : u ≤ B.length - j ∧ n = u ∧ r1 = B.drop j := by
      have := hrl.out; rw [HNO.out] at this; simp only [List.length_drop] at this
      split at this
      · simp at this; exact ⟨by assumption, this.1, this.2⟩
      · cases this
    obtain ⟨hle, rfl, rfl⟩ := hle
    have x0 := hr2.c0; have x1 := hr2.c1; have x2 := hr2.c2; have xf := hr2.fz
    have hj := hr2.le
    have hin := Lib.hid hr2
    have ho1 : -9223372036854775808 ≤ (B.length : Int) - (j : Int) ∧ (B.length : Int) - (j : Int) ≤ 9223372036854775807 := by omega
    have ho2 : ((B.length : Int) - (j : Int)) % 18446744073709551616 = (B.length : Int) - (j : Int) := by omega
    have tp : decide ((n : Int) > (B.length : Int) - (j : Int)) = false := by simp; omega
    have hn9 : n ≤ 1000000000 := by omega
    have hw1 : IntKind.i64.wrap ((B.length : Int) - (j : Int)) = (B.length : Int) - (j : Int) := IntWalk.i64_in _ ho1
    have hw2 : IntKind.u64.wrap ((B.length : Int) - (j : Int)) = (B.length : Int) - (j : Int) := by rw [IntKind.wrap_u64, ho2]
    clear ho1 ho2 hr2 hx
    go_wp2_with fail
    go_quiet (fail)
    clear hw1 hw2 tp
    have HR3 : Hid (RB (w2.drewN nq) R S B A cap j false) := Lib.hid (hin.out.drewN nq)
    have N4 : Hid ((w2.drewN nq).heap[w.heap.size]? = some (.cells #[.int .i64 0, .int .i64 0, .string ByteArray.empty, .slice none 0 0] 24 (0, 0))) := Lib.hid N3.out
    have HG3 : Hid (w.grownBy (w2.drewN nq) (some R)) := Lib.hid (grown_drewN HG2.out nq)
    clear v0 v1 v2 v3 vf x0 x1 x2 xf HG2 N3 hin
    generalize w2.drewN nq = w3 at *
    go_wp2_with fail
    generalize hYY : w3.heap.size = Y at *
    generalize hXX : w.heap.size = X at *
    have hXY : X < Y := by have := (Array.getElem?_eq_some_iff.1 N4.out).1; omega
    have hRY : R < X := by omega
    have hst : RLoop R S B A cap X Y n (B.drop j) (dec (15 - d)) w (.int .u64 0) (w3.alloc (.cells #[.int .i64 3, .int .i64 0, .string ByteArray.empty, .slice none 0 0] 24)) := by
      refine ⟨0, .slice none 0 0, by omega, rfl, .inl ⟨j, [], [], ?_⟩⟩
      refine ⟨World.ownsRow_nil _ _ _ _, HR3.out.below (below1 _), by rw [← hYY]; exact heap_alloc_new _ _, ?_, rfl, rfl, fun i h => absurd h (by omega), by simp, grown_trans HG3.out (grown_below (below1 _)), fun b h => by simp [Value.ownBlock] at h⟩
      rw [Below.heap_alloc _ _ _ (by omega)]; exact N4.out
    clear HR3 N4 HG3 hYY
    go_loopw [9] (fun i wr => RLoop R S B A cap X Y n (B.drop j) (dec (15 - d)) w i wr) (fun i _ => n - (intOf i).toNat)
    case atStart => exact hst
    case round =>
      obtain ⟨k, row, hk, rfl, hL⟩ := hrel
      clear hst
      rcases hL with ⟨jj, vs, xs, hL⟩ | ⟨hD, jj, hL⟩
      · have v3 : wr.cell? ⟨Y, 3, none⟩ = some row := by rw [cell_of_row wr _ 3 _ _ _ hL.v]; rfl
        have x2 := hL.rb.c2; have xf := hL.rb.fz
        have hYr : Y < wr.heap.size := (Array.getElem?_eq_some_iff.1 hL.v).1
        have HL := Lib.hid hL; clear hL
        by_cases hlt : k < n
        · have t1 : decide (k < n) = true := by simpa using hlt
          have t2 : decide ((k : Int) < (n : Int)) = true := by simpa using hlt
          have HC : Hid (∀ w0, Below wr.heap.size wr w0 → Calls Try.prog 34 #[.pointer (some ⟨R, 0, none⟩), .int .i64 ((d : Int) + 1)] w0 (RValPost R S B A cap (dec (15 - d) (B.drop jj)) w0)) := Lib.hid fun w0 h0 => by
            have := hIH.out R S B A cap jj w0 (HL.out.rb.below h0) (fun b hb => by have := HS.out b hb; have := h0.size; omega) hB
            rwa [show 16 - (d + 1) = 15 - d from by omega, show (((d + 1 : Nat)) : Int) = (d : Int) + 1 from by omega] at this
          have hs1 : Hid (IntKind.i64.wrap ((d : Int) + 1) = (d : Int) + 1) := Lib.hid (IntWalk.i64_in _ (by omega))
          have hSX : Hid (∀ b, S b → b < X) := Lib.hid HS.out
          cases hdx : dec (15 - d) (B.drop jj) with
          | none =>
            rw [hdx] at HC
            have HD : Hid (decS (dec (15 - d)) n (B.drop j) = none) := Lib.hid (by rw [HL.out.eq, show n - k = (n - k - 1) + 1 from by omega, decS_step, hdx]; rfl)
            clear hdx
            have hs1 := hs1.out
            go_wp2_with fail
            go_region_law (first
              | (refine step_app _ (by rfl) _ _ 22 (by rfl) 24 i0 (.agg #[.int .i64 0, .int .i64 0, .string ByteArray.empty, .slice none 0 0]) 4 56 Try.underlying22 hi' hz0 hz1 hz2 rfl (by decide) row k (flat vs) (by rfl) (hown4.out.alloc _) ⟨w4.heap.size, 0, none⟩ 1 1 [.int .i64 k', .int .i64 n', .string s', .slice A' l' c'] (by rfl) (by rfl) (World.news_of_block (heap_alloc_new w4 _)) four1 (by unfold maxLen; omega) (by omega) ?_; intro row5 w5 hown5 hwr5 _; have hf5 := hfr5.out row5 w5 hwr5; obtain ⟨g5, cap5, rfl⟩ := own_form hown5 (Nat.succ_pos _))
              | (go_simp; go_at_call 34; refine (HC.out _ ((Below.refl _ _).drew)).mono ?_; rintro e w4 ⟨hg4, k', n', s', A', l', c', rfl, j4, hr4⟩; have hown4 := Lib.hid (HL.out.own4 (by omega) hg4); have v34 := HL.out.cell4 (by omega) hg4; have v35 := HL.out.cell4a (by omega) hg4; have hfr5 := Lib.hid (HL.out.frozen5 (by omega) hg4 (o := Obj.cells #[.int .i64 k', .int .i64 n', .string s', .slice A' l' c'] 24))))
            all_goals
              go_wp2
              go_roundw
              case rel =>
                have hst5 := Stored.of (by have := (Array.getElem?_eq_some_iff.1 (HL.out.block4 (by omega) hg4)).1; omega) hwr5
                exact ⟨k + 1, _, by omega, by go_num, .inr ⟨HD.out, j4, HL.out.fail hRY hXY (by omega) hSX.out hg4 hr4 hst5 (set_row HL.out (by omega) hg4 hwr5) ⟨_, _, _, rfl⟩⟩⟩
              case measure => simp [intOf]; omega
          | some y =>
            obtain ⟨⟨k', n', s', l'⟩, r2⟩ := y
            rw [hdx] at HC
            have HDX := Lib.hid hdx
            clear hdx
            have hs1 := hs1.out
            go_wp2_with fail
            go_region_law (first
              | (refine step_app _ (by rfl) _ _ 22 (by rfl) 24 i0 (.agg #[.int .i64 0, .int .i64 0, .string ByteArray.empty, .slice none 0 0]) 4 56 Try.underlying22 hi' hz0 hz1 hz2 rfl (by decide) row k (flat vs) (by rfl) (hown4.out.alloc _) ⟨w4.heap.size, 0, none⟩ 1 1 [.int .i64 k', .int .i64 n', .string s', .slice A' l'.length cap'] (by rfl) (by rfl) (World.news_of_block (heap_alloc_new w4 _)) four1 (by unfold maxLen; omega) (by omega) ?_; intro row5 w5 hown5 hwr5 _; have hf5 := hfr5.out row5 w5 hwr5; obtain ⟨g5, cap5, rfl⟩ := own_form hown5 (Nat.succ_pos _))
              | (go_simp; go_at_call 34; refine (HC.out _ ((Below.refl _ _).drew)).mono ?_; rintro e w4 ⟨hg4, v4, rfl, j4, hj4, hr4, hRd4⟩; obtain ⟨A', cap', rfl, hq⟩ := hRd4.head; have hown4 := Lib.hid (HL.out.own4 (by omega) hg4); have v34 := HL.out.cell4 (by omega) hg4; have v35 := HL.out.cell4a (by omega) hg4; have HJ4 := Lib.hid hj4; clear hj4; have hfr5 := Lib.hid (HL.out.frozen5 (by omega) hg4 (o := Obj.cells #[.int .i64 k', .int .i64 n', .string s', .slice A' l'.length cap'] 24))))
            all_goals
              go_wp2
              go_roundw
              case rel =>
                have hst5 := Stored.of (by have := (Array.getElem?_eq_some_iff.1 (HL.out.block4 (by omega) hg4)).1; omega) hwr5
                have hD : decS (dec (15 - d)) n (B.drop j) = (decS (dec (15 - d)) (n - (k + 1)) (B.drop j4)).map fun y => ((xs ++ [.mk k' n' s' l']) ++ y.1, y.2) := by
                  rw [HL.out.eq, show n - k = (n - (k + 1)) + 1 from by omega, decS_step, HDX.out, HJ4.out]
                  simp only [Option.bind_some, Option.map_map]
                  congr 1
                  funext z
                  simp
                exact ⟨k + 1, _, by omega, by go_num, .inl ⟨j4, _, _, HL.out.next hRY hXY (by omega) hSX.out hg4 hr4 hRd4 hD hst5 (own_set hown5 (hst5.new HL.out.new)) (set_row HL.out (by omega) hg4 hwr5)⟩⟩
              case measure => simp [intOf]; omega
        · have t1 : decide (k < n) = false := by simpa using hlt
          have t2 : decide ((k : Int) < (n : Int)) = false := by simpa using hlt
          have hkn : k = n := by omega
          subst hkn
          have V4 := HL.out.v
          have v0 : wr.cell? ⟨Y, 0, none⟩ = some (.int .i64 3) := by rw [cell_of_row wr _ 0 _ _ _ V4]; rfl
          have v1 : wr.cell? ⟨Y, 1, none⟩ = some (.int .i64 0) := by rw [cell_of_row wr _ 1 _ _ _ V4]; rfl
          have v2 : wr.cell? ⟨Y, 2, none⟩ = some (.string ByteArray.empty) := by rw [cell_of_row wr _ 2 _ _ _ V4]; rfl
          obtain ⟨y0, y1, y2, y3, yf⟩ := four_cells HL.out.x
          have HD : Hid ((decS (dec (15 - d)) k (B.drop j)).map (fun y => (V.mk 3 0 ByteArray.empty y.1, y.2)) = some (V.mk 3 0 ByteArray.empty xs, B.drop jj)) := Lib.hid (by
            rw [HL.out.eq, Nat.sub_self, decS]; simp)
          clear V4
          have hrow : ∃ A l c, row = .slice A l c := by
            rcases HL.out.own.2 with ⟨h1, _⟩ | ⟨g, cap, cur, h1, _⟩
            · exact ⟨_, _, _, h1⟩
            · exact ⟨_, _, _, h1⟩
          obtain ⟨rA, rl, rc, rfl⟩ := hrow
          have hSX : ¬ S X := hXS
          go_wp2_with fail
          obtain ⟨g5, r5, h5⟩ := RB.four (c0 := .int .i64 3) (c1 := .int .i64 0) (c2 := .string ByteArray.empty) (c3 := .slice rA rl rc) HL.out.rb HL.out.g (by omega) (by omega) hSX HL.out.x
          refine bodyPost_ret (ret_cells (t := 24) rfl _ _ _ _ _ _ rfl h5 Try.underlying24 rfl Try.sizeValue) rfl ?_
          exact RValPost.yes HD.out g5 r5 (HL.out.final.frame (fun b hb => by
            rw [Below.heap_setCell _ _ _ _ (show b ≠ X by omega), Below.heap_setCell _ _ _ _ (show b ≠ X by omega), Below.heap_setCell _ _ _ _ (show b ≠ X by omega), Below.heap_setCell _ _ _ _ (show b ≠ X by omega)]) (fun b hb => by omega))
      · have v3 : wr.cell? ⟨Y, 3, none⟩ = some row := by rw [cell_of_row wr _ 3 _ _ _ hL.v]; rfl
        have v0 : wr.cell? ⟨Y, 0, none⟩ = some (.int .i64 3) := by rw [cell_of_row wr _ 0 _ _ _ hL.v]; rfl
        have v1 : wr.cell? ⟨Y, 1, none⟩ = some (.int .i64 0) := by rw [cell_of_row wr _ 1 _ _ _ hL.v]; rfl
        have v2 : wr.cell? ⟨Y, 2, none⟩ = some (.string ByteArray.empty) := by rw [cell_of_row wr _ 2 _ _ _ hL.v]; rfl
        have x2 := hL.rb.c2; have xf := hL.rb.fz
        obtain ⟨y0, y1, y2, y3, yf⟩ := four_cells hL.x
        have hD' : (decS (dec (15 - d)) n (B.drop j)).map (fun y => (V.mk 3 0 ByteArray.empty y.1, y.2)) = none := by rw [hD]; rfl
        have HD := Lib.hid hD'
        have HL := Lib.hid hL; clear hL hD hD'
        have hrow := HL.out.sl
        obtain ⟨rA, rl, rc, rfl⟩ := hrow
        by_cases hlt : k < n
        · have t1 : decide (k < n) = true := by simpa using hlt
          have t2 : decide ((k : Int) < (n : Int)) = true := by simpa using hlt
          go_wp2_with fail
          obtain ⟨g5, r5, h5⟩ := RB.four (c0 := .int .i64 3) (c1 := .int .i64 0) (c2 := .string ByteArray.empty) (c3 := .slice rA rl rc) HL.out.rb HL.out.g (by omega) (by omega) hXS HL.out.x
          refine bodyPost_ret (ret_cells (t := 24) rfl _ _ _ _ _ _ rfl h5 Try.underlying24 rfl Try.sizeValue) rfl ?_
          exact RValPost.no HD.out g5 r5
        · have t1 : decide (k < n) = false := by simpa using hlt
          have t2 : decide ((k : Int) < (n : Int)) = false := by simpa using hlt
          go_wp2_with fail
          obtain ⟨g5, r5, h5⟩ := RB.four (c0 := .int .i64 3) (c1 := .int .i64 0) (c2 := .string ByteArray.empty) (c3 := .slice rA rl rc) HL.out.rb HL.out.g (by omega) (by omega) hXS HL.out.x
          refine bodyPost_ret (ret_cells (t := 24) rfl _ _ _ _ _ _ rfl h5 Try.underlying24 rfl Try.sizeValue) rfl ?_
          exact RValPost.no HD.out g5 r5

end Go.Proofs.Ytjhecmmbpmpmgaa
