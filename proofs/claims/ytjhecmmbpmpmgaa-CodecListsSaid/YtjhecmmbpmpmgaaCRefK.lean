/- signatoryref01's Reader by its contracts: Value, texts. -/
import Derived.Test.YtjhecmmbpmpmgaaCRefJ
import Derived.Test.YtjhecmmbpmpmgaaCBytes
import Derived.BigQuiet
import Derived.Deep.QuietTactic
import Derived.StillTailTactics
namespace Go.Proofs.Ytjhecmmbpmpmgaa
open Go.RowKit Go.Lib

theorem RB.drewN {w : World} {R : Nat} {S : Nat → Prop} {B : List UInt8} {A : Option Addr} {cap i : Nat} {bad : Bool} (h : RB w R S B A cap i bad) (n : Nat) : RB (w.drewN n) R S B A cap i bad :=
  h.below (below_drewN (Below.refl _ _) n)

theorem grown_drewN {w w' : World} {r : Option Nat} (h : w.grownBy w' r) (n : Nat) : w.grownBy (w'.drewN n) r := grown_trans h (grown_below (below_drewN (Below.refl _ _) n))

/-- a bad end: the flag set, the zero value stored -/
theorem rbad_end {w w2 : World} {R j nq : Nat} {S : Nat → Prop} {B : List UInt8} {A : Option Addr} {cap : Nat} {bad : Bool} {x0 x1 x2 x3 : Value} {y : Option (V × List UInt8)} (hy : y = none) (hr : RB w2 R S B A cap j bad) (hg : w.grownBy w2 (some R)) (hXR : R ≠ w.heap.size) (hXS : ¬ S w.heap.size)
    (n3 : w2.heap[w.heap.size]? = some (.cells #[x0, x1, x2, x3] 24 (0, 0))) :
    RValPost R S B A cap y w (.returned (.agg #[.int .i64 0, .int .i64 0, .string ByteArray.empty, .slice none 0 0]))
      ((((((w2.drewN nq).setCell ⟨R, 2, none⟩ (.bool true)).setCell ⟨w.heap.size, 0, none⟩ (.int .i64 0)).setCell ⟨w.heap.size, 1, none⟩ (.int .i64 0)).setCell ⟨w.heap.size, 2, none⟩ (.string ByteArray.empty)).setCell ⟨w.heap.size, 3, none⟩ (.slice none 0 0)) ∧
    ((((((w2.drewN nq).setCell ⟨R, 2, none⟩ (.bool true)).setCell ⟨w.heap.size, 0, none⟩ (.int .i64 0)).setCell ⟨w.heap.size, 1, none⟩ (.int .i64 0)).setCell ⟨w.heap.size, 2, none⟩ (.string ByteArray.empty)).setCell ⟨w.heap.size, 3, none⟩ (.slice none 0 0)).heap[w.heap.size]? = some (.cells #[.int .i64 0, .int .i64 0, .string ByteArray.empty, .slice none 0 0] 24 (0, 0)) := by
  have N2 : ((w2.drewN nq).setCell ⟨R, 2, none⟩ (.bool true)).heap[w.heap.size]? = _ := (Below.heap_setCell _ _ _ _ (show w.heap.size ≠ R by omega)).trans n3
  obtain ⟨g5, r5, h5⟩ := RB.four (c0 := .int .i64 0) (c1 := .int .i64 0) (c2 := .string ByteArray.empty) (c3 := .slice none 0 0) (hr.drewN nq).bad_ (grown_trans (grown_drewN hg nq) (grown_setCell' _ _ _ _)) (Nat.le_refl _) hXR hXS N2
  exact ⟨RValPost.no hy g5 r5, h5⟩

set_option maxRecDepth 100000 in
set_option maxHeartbeats 1600000 in
theorem rvalue_text {w : World} {R : Nat} {S : Nat → Prop} {B : List UInt8} {A : Option Addr} {cap i : Nat} (d : Nat) (h : RB w R S B A cap i false) (hS : ∀ b, S b → b < w.heap.size) (hi : i < B.length) (hc : B[i].toNat = 2) (hB : B.length ≤ 1000000000) (f : Nat) :
    Calls Try.prog 34 #[.pointer (some ⟨R, 0, none⟩), .int .i64 d] w (RValPost R S B A cap (dec f (B.drop i)) w) := by
  have HN : Hid (∀ w0, Below w.heap.size w w0 → Calls Try.prog 48 #[.pointer (some ⟨R, 0, none⟩)] w0 fun e w' => e = .returned (.int .u8 2) ∧ RB w' R S B A cap (i + 1) false ∧ w0.grownBy w' (some R)) := Lib.hid fun w0 h0 => by
    have := next_some (h.below h0) hi; rw [hc] at this; exact this
  have HD : Hid (dec f (B.drop i) = (rlen (B.drop (i + 1))).map fun x => (.mk 2 0 (strOf (x.2.take x.1)) [], x.2.drop x.1)) := Lib.hid (by rw [drop_cons hi]; exact dec_2 _ _ _ hc)
  have hrl : Hid (rlen (B.drop (i + 1)) = match rn 0 0 (B.drop (i + 1)) with | none => none | some (n, r) => if n ≤ r.length then some (n, r) else none) := Lib.hid rfl
  have hRs : R < w.heap.size := (Array.getElem?_eq_some_iff.1 h.c).1
  clear h hc
  go_enter Try.func34, Try.ntmps34
  go_wp2_with fail
  refine (HN.out _ (below1 _)).mono ?_
  rintro e w1 ⟨rfl, hr1, hg1⟩
  obtain ⟨n1, n2⟩ := four_new hRs hg1
  have N1 := Lib.hid n1; have HS := Lib.hid hS; have N2 := Lib.hid n2
  have HM : Hid (Calls Try.prog 49 #[.pointer (some ⟨R, 0, none⟩)] w1 (RNumPost R S B A cap (i + 1) w1)) := Lib.hid (ref_number hr1)
  clear hr1 n1 n2 hg1 hS
  go_wp2_with fail
  refine HM.out.mono ?_
  rintro e w2 ⟨hg2, he⟩
  have n3 : w2.heap[w.heap.size]? = some (.cells #[.int .i64 0, .int .i64 0, .string ByteArray.empty, .slice none 0 0] 24 (0, 0)) := by
    rw [hg2.block _ (Array.getElem?_eq_some_iff.1 N1.out).1 (by intro e; injection e with e; omega)]; exact N1.out
  have N3 := Lib.hid n3
  obtain ⟨v0, v1, v2, v3, vf⟩ := four_cells n3
  have HG2 := Lib.hid (grown_trans N2.out hg2)
  clear n3 hg2 N2 HM HN N1
  have hXR : R ≠ w.heap.size := by omega
  have hXS : ¬ S w.heap.size := fun hs => by have := HS.out _ hs; omega
  cases hx : rn 0 0 (B.drop (i + 1)) with
  | none =>
    rw [hx] at he hrl
    rw [hrl.out] at HD
    obtain ⟨rfl, j, hr2⟩ := he
    have x0 := hr2.c0; have x1 := hr2.c1; have x2 := hr2.c2; have xf := hr2.fz
    have Hr2 := Lib.hid hr2; clear hr2 hx
    go_wp2_with fail
    go_quiet (fail)
    all_goals
      go_wp2_with fail
      obtain ⟨p5, h5⟩ := rbad_end (nq := nq) HD.out Hr2.out HG2.out hXR hXS N3.out
      refine bodyPost_ret (ret_cells (t := 24) rfl _ _ _ _ _ _ rfl h5 Try.underlying24 rfl Try.sizeValue) rfl ?_
      exact p5
  | some y =>
    obtain ⟨u, r⟩ := y
    rw [hx] at he hrl
    obtain ⟨rfl, hu, j, rfl, hr2⟩ := he
    have x0 := hr2.c0; have x1 := hr2.c1; have x2 := hr2.c2; have xf := hr2.fz
    have hj := hr2.le
    have hin := Lib.hid hr2
    have ho1 : -9223372036854775808 ≤ (B.length : Int) - (j : Int) ∧ (B.length : Int) - (j : Int) ≤ 9223372036854775807 := by omega
    have ho2 : ((B.length : Int) - (j : Int)) % 18446744073709551616 = (B.length : Int) - (j : Int) := by omega
    by_cases hle : u ≤ B.length - j
    · have tp : decide ((u : Int) > (B.length : Int) - (j : Int)) = false := by simp; omega
      have ho3 : -9223372036854775808 ≤ (u : Int) ∧ (u : Int) ≤ 9223372036854775807 := by omega
      have ho4 : -9223372036854775808 ≤ (j : Int) + u ∧ (j : Int) + u ≤ 9223372036854775807 := by omega
      have ho5 : -9223372036854775808 ≤ (j : Int) ∧ (j : Int) ≤ 9223372036854775807 := by omega
      have ho6 : j + u ≤ B.length := by omega
      have ho7 : (strOf ((B.drop j).take u)).size ≤ 9223372036854775807 := by rw [strOf_size, List.length_take]; omega
      have hw1 : IntKind.i64.wrap ((B.length : Int) - (j : Int)) = (B.length : Int) - (j : Int) := IntWalk.i64_in _ ho1
      have hw2 : IntKind.u64.wrap ((B.length : Int) - (j : Int)) = (B.length : Int) - (j : Int) := by rw [IntKind.wrap_u64, ho2]
      have hu1 : IntKind.i64.wrap (u : Int) = (u : Int) := IntWalk.i64_in _ ho3
      have hu2 : wrap64 (u : Int) = (u : Int) := wrap_i64_len u (by omega)
      have hu3 : IntKind.i64.wrap ((j : Int) + u) = (j : Int) + u := IntWalk.i64_in _ ho4
      have hu4 : IntKind.i64.wrap (j : Int) = (j : Int) := IntWalk.i64_in _ ho5
      clear ho1 ho2 ho3 ho4 ho5 hr2 hx
      have Hr2 := hin
      go_wp2_with fail
      go_quiet (fail)
      go_wp2_with fail
      have HR3 : Hid (RB ((w2.drewN nq).setCell ⟨R, 1, none⟩ (.int .i64 ((j : Int) + u))) R S B A cap (j + u) false) := Lib.hid ((Hr2.out.drewN nq).at_ (j + u) ho6)
      have N4 : Hid (((w2.drewN nq).setCell ⟨R, 1, none⟩ (.int .i64 ((j : Int) + u))).heap[w.heap.size]? = some (.cells #[.int .i64 0, .int .i64 0, .string ByteArray.empty, .slice none 0 0] 24 (0, 0))) := Lib.hid ((Below.heap_setCell _ _ _ _ (show w.heap.size ≠ R by omega)).trans N3.out)
      have HG3 : Hid (w.grownBy ((w2.drewN nq).setCell ⟨R, 1, none⟩ (.int .i64 ((j : Int) + u))) (some R)) := Lib.hid (grown_trans (grown_drewN HG2.out nq) (grown_setCell' _ _ _ _))
      clear v0 v1 v2 v3 vf x0 x1 x2 xf HG2 N3 Hr2 hin tp
      generalize (w2.drewN nq).setCell ⟨R, 1, none⟩ (.int .i64 ((j : Int) + u)) = w3 at *
      have x0 := HR3.out.c0; have x1 := HR3.out.c1; have xf := HR3.out.fz
      rw [Int.natCast_add] at x1
      obtain ⟨A', hsl, hbs⟩ := sub_bytes HR3.out.b j u ho6
      have hcv : (convert 27 9 (.slice A' u (cap - j))).run Try.prog w3.drew = .ok (.string (strOf ((B.drop j).take u))) w3.drew := Bs.conv (hbs.frame (w' := w3.drew) (fun _ _ => rfl) (fun _ h => h))
      have hcv' : (convert 27 9 (.slice A' u (cap - j))).run Try.prog w3 = .ok (.string (strOf ((B.drop j).take u))) w3 := Bs.conv hbs
      clear hbs
      have HX := four_cells N4.out
      obtain ⟨v0, v1, v2, v3, vf⟩ := HX
      have HDY : Hid (dec f (B.drop i) = some (.mk 2 0 (strOf ((B.drop j).take u)) [], B.drop (j + u))) := Lib.hid (by rw [HD.out, hrl.out, if_pos (by rw [List.length_drop]; exact hle), Option.map_some, List.drop_drop])
      go_still_tail 18, (by kernel_rfl)
      change wpList _ _ _ _ _ w3.drew
      go_wp2_with fail
      obtain ⟨g5, r5, h5⟩ := RB.four (c0 := .int .i64 2) (c1 := .int .i64 0) (c2 := .string (strOf ((B.drop j).take u))) (c3 := .slice none 0 0) HR3.out.drew (grown_drew HG3.out) (Nat.le_refl _) hXR hXS N4.out
      refine bodyPost_ret (ret_cells (t := 24) rfl _ _ _ _ _ _ rfl h5 Try.underlying24 rfl Try.sizeValue) rfl ?_
      exact RValPost.yes HDY.out g5 r5 (Rd.leaf _ _ _ _ _ ⟨by omega, by omega⟩ ⟨by omega, by omega⟩ ho7)
    · have tp : decide ((u : Int) > (B.length : Int) - (j : Int)) = true := by simp; omega
      have hw1 : IntKind.i64.wrap ((B.length : Int) - (j : Int)) = (B.length : Int) - (j : Int) := IntWalk.i64_in _ ho1
      have hw2 : IntKind.u64.wrap ((B.length : Int) - (j : Int)) = (B.length : Int) - (j : Int) := by rw [IntKind.wrap_u64, ho2]
      clear ho1 ho2 hr2 hx
      have Hr2 := hin
      have HDN : Hid (dec f (B.drop i) = none) := Lib.hid (by rw [HD.out, hrl.out]; simp only [List.length_drop]; rw [if_neg hle]; rfl)
      go_wp2_with fail
      go_quiet (fail)
      all_goals
        go_wp2_with fail
        obtain ⟨p5, h5⟩ := rbad_end (nq := nq) HDN.out Hr2.out HG2.out hXR hXS N3.out
        refine bodyPost_ret (ret_cells (t := 24) rfl _ _ _ _ _ _ rfl h5 Try.underlying24 rfl Try.sizeValue) rfl ?_
        exact p5

end Go.Proofs.Ytjhecmmbpmpmgaa
