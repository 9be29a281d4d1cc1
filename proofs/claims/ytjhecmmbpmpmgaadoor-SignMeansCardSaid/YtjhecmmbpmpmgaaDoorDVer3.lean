/- sign's Verify by its contract. -/
import Derived.Test.YtjhecmmbpmpmgaaDoorDVer2
import Derived.Deep.RegionHeld3
namespace Go.Proofs.YtjhecmmbpmpmgaaDoor
open Go.RowKit Go.Lib

set_option maxRecDepth 100000 in
set_option maxHeartbeats 1600000 in
theorem verify_any (key E S : Int) (b : List UInt8) (v : Value) (w : World) (hB : Bb w b v) (hb : b.length ≤ 1000000) (hT : Tabs w) (hE : 0 ≤ E ∧ E < 1073741789) (hS : 0 ≤ S ∧ S < 1073741789) (hk : valid key = true) :
    Calls Tryd.prog 16 #[.int .i64 key, v, .agg #[.int .i64 E, .int .i64 S]] w fun e w' => e = .returned (.bool (E == (eOf (pointOf key E S) key b : Int))) ∧ Below w.heap.size w w' := by
  obtain ⟨A, cap, rfl, _⟩ := hB.form
  obtain ⟨n, hn⟩ : ∃ n, Hid (n = b.length) := ⟨_, Lib.hid rfl⟩
  have HBb := Lib.hid hB
  have HT := Lib.hid hT
  rw [← hn.out] at HBb ⊢
  have S0 := Lib.hid (show SG w #[.int .i64 E, .int .i64 S] 24 (w.alloc (.cells #[.int .i64 E, .int .i64 S] 24)) from ⟨(Below.refl _ _).alloc (Nat.le_refl _) _, heap_alloc_new _ _⟩)
  have hc := Lib.hid (valid_any key (w.alloc (.cells #[.int .i64 E, .int .i64 S] 24)))
  rw [hk] at hc
  have HE := Lib.hid hE
  have HS := Lib.hid hS
  have HK := Lib.hid hk
  clear hB hT hk
  have e1 : decide (E < 0) = false := by simp; omega
  have e2 : decide (S < 0) = false := by simp; omega
  have e3 : decide (E ≥ 1073741789) = false := by simp; omega
  have e4 : decide (S ≥ 1073741789) = false := by simp; omega
  clear hE hS
  have C0 : Hid (∀ wi, SG w #[.int .i64 E, .int .i64 S] 24 wi → wi.cell? ⟨w.heap.size, 0, none⟩ = some (.int .i64 E) ∧ wi.cell? ⟨w.heap.size, 1, none⟩ = some (.int .i64 S)) := Lib.hid fun wi hi => ⟨hi.cells2.1, hi.cells2.2.1⟩
  obtain ⟨pa, hpa⟩ : ∃ pa, Hid (pa = spow 4 S) := ⟨_, Lib.hid rfl⟩
  obtain ⟨pb, hpb⟩ : ∃ pb, Hid (pb = spow key (-E)) := ⟨_, Lib.hid rfl⟩
  have P1 : Hid (∀ wi, SG w #[.int .i64 E, .int .i64 S] 24 wi → Calls Tryd.prog 42 #[.int .i64 4, .int .i64 S] wi fun e w' => e = .returned (.int .i64 pa) ∧ SG w #[.int .i64 E, .int .i64 S] 24 w') := Lib.hid fun wi hi => by
    rw [hpa.out]
    exact (power_any 4 S (by have := HS.out; omega) wi).mono fun e w' h => ⟨h.1, hi.step h.2⟩
  have P2 : Hid (∀ wi, SG w #[.int .i64 E, .int .i64 S] 24 wi → Calls Tryd.prog 42 #[.int .i64 key, .int .i64 (-E)] wi fun e w' => e = .returned (.int .i64 pb) ∧ SG w #[.int .i64 E, .int .i64 S] 24 w') := Lib.hid fun wi hi => by
    rw [hpb.out]
    exact (power_any key (-E) (by have := HE.out; omega) wi).mono fun e w' h => ⟨h.1, hi.step h.2⟩
  obtain ⟨pc, pe, hpc, PM⟩ : ∃ pc pe, Hid (pc = pointOf key E S) ∧ Hid (∀ wi, SG w #[.int .i64 E, .int .i64 S] 24 wi → Calls Tryd.prog 53 #[.int .i64 pa, .int .i64 pb] wi fun e w' => e = .returned (.tuple #[.int .i64 pc, .int .i64 pe]) ∧ SG w #[.int .i64 E, .int .i64 S] 24 w') := by
    refine ⟨pointOf key E S, if valid pa && valid pb then 0 else 100, Lib.hid rfl, Lib.hid fun wi hi => (mul_any pa pb wi).mono fun e w' h => ⟨?_, by rw [h.2]; exact hi⟩⟩
    rw [h.1]
    unfold pointOf
    rw [← hpa.out, ← hpb.out]
    cases valid pa && valid pb <;> rfl
  have SD := Lib.hid (S0.out.step (Below.refl _ _).drew)
  have h3 : E < S ∨ (E ≤ S ∧ S ≤ E) ∨ S < E := by omega
  rcases h3 with h | ⟨h, h'⟩ | h
  all_goals
    go_enter Tryd.func16, Tryd.ntmps16
    go_wp2_with (go_at_call 19; refine hc.out.mono ?_; clear hc; rintro e w' ⟨rfl, rfl⟩)
    have hneg : IntKind.i64.wrap (-E) = -E := IntWalk.i64_in _ (by have := HE.out; omega)
    go_region_held3 (fun w' => w'.cell? ⟨w.heap.size, 0, none⟩ = some (.int .i64 E) ∧ w'.cell? ⟨w.heap.size, 1, none⟩ = some (.int .i64 S))
      (first | exact (C0.out _ SD.out) | exact (C0.out _ SA.out) | exact (C0.out _ SB.out) | exact (C0.out _ SC.out))
      (first
        | (go_at_call 42; (with_reducible refine (P2.out _ SA.out).mono ?_); rintro e wb ⟨rfl, hb2⟩; have SB := Lib.hid hb2; clear hb2)
        | (go_at_call 42; (with_reducible refine (P1.out _ SD.out).mono ?_); rintro e wa ⟨rfl, ha2⟩; have SA := Lib.hid ha2; clear ha2)
        | (go_at_call 53; (with_reducible refine (PM.out _ SB.out).mono ?_); rintro e wc ⟨rfl, hc2⟩; have SC := Lib.hid hc2; clear hc2))
    have SE := Lib.hid (SC.out.step (Below.refl _ _).drew)
    have hpcr : 0 ≤ pc ∧ pc < 2147483579 := by
      rw [hpc.out]
      unfold pointOf gmul
      split <;> omega
    have hok3 := Lib.hid (three_ok (x := pc) (y := key) (b := b) (by omega) (by have := valid_range HK.out; omega) hb)
    clear hpcr
    have SF := Lib.hid ((SC.out.alloc (.cells #[.iface 3 (.int .i64 pc), .iface 3 (.int .i64 key), .iface 22 (.slice A n cap)] 20)).step (Below.refl _ _).drew)
    have hI3 := Lib.hid (items3 (x := .n pc) (y := .n key) (z := .b b) (w := (wc.alloc (.cells #[.iface 3 (.int .i64 pc), .iface 3 (.int .i64 key), .iface 22 (.slice A n cap)] 20)).drew) (heap_alloc_new wc (.cells #[.iface 3 (.int .i64 pc), .iface 3 (.int .i64 key), .iface 22 (.slice A n cap)] 20)) rfl rfl ⟨_, rfl, HBb.out.below SF.out.below⟩)
    obtain ⟨L6, hL6⟩ : ∃ L, Hid (L = encOf (listV [.n pc, .n key, .b b])) := ⟨_, Lib.hid rfl⟩
    have hp6 : 0 < L6.length := by rw [hL6.out]; exact enc_items_pos _
    have hl6 : L6.length ≤ 100000000 := by rw [hL6.out]; exact items_len hok3.out (by simp)
    have HLI := Lib.hid (list_any _ wc.heap.size [.n pc, .n key, .b b] hI3.out hok3.out (by simp) (by simp))
    rw [← hL6.out] at HLI
    go_wp2_with fail
    go_region_held3 (fun w' => w'.cell? ⟨w.heap.size, 0, none⟩ = some (.int .i64 E) ∧ w'.cell? ⟨w.heap.size, 1, none⟩ = some (.int .i64 S))
      (first | exact (C0.out _ SE.out) | exact (C0.out _ SF.out) | exact (C0.out _ SG6.out) | exact (C0.out _ SH.out))
      (first
        | (go_at_call 41; refine HLI.out.mono ?_; rintro e w6 ⟨A6, cap6, rfl, hb6, hB6⟩; have SG6 := Lib.hid (SF.out.step hb6); obtain ⟨b6, o6, rfl, hA6⟩ := At.ofB hB6 hp6; have HA6 := Lib.hid hA6; clear hA6 hB6 hb6)
        | (go_at_call 22; refine (hash_any w6 signS (by decide) L6 b6 o6 cap6 hp6 hl6 HA6.out (HT.out.below SG6.out.below)).mono ?_; rintro e w7 ⟨rfl, hb7⟩; have SH := Lib.hid (SG6.out.step hb7); clear hb7))
    go_wp2_with fail
    go_ret
    exact ⟨by rw [hL6.out, hpc.out]; rfl, SH.out.below⟩

end Go.Proofs.YtjhecmmbpmpmgaaDoor
