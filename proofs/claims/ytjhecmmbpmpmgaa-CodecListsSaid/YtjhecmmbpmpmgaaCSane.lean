/- signatorylaw01.sane by its contract. -/
import Derived.Test.YtjhecmmbpmpmgaaCLaws
namespace Go.Proofs.Ytjhecmmbpmpmgaa
open Go.RowKit Go.Lib

def xm3 : V := .mk 1 (-3) ByteArray.empty []
def sab : ByteArray := { data := #[97, 98] }
def xl : V := .mk 3 0 ByteArray.empty [.mk 1 100 ByteArray.empty [], .mk 2 0 sab []]

theorem xm3_enc : encOf xm3 = [1, 5] := by kernel_rfl
theorem xm3_ck : ckOf xm3.fm = 0 := by kernel_rfl
theorem xl_enc : encOf xl = [3, 2, 1, 200, 1, 2, 2, 97, 98] := by kernel_rfl
theorem xl_ck : ckOf xl.fm = 0 := by kernel_rfl

/-- the list of the chapter's example, as it lies -/
theorem xl_rd {w : World} {b cap : Nat} (h : w.heap[b]? = some (.cells #[.int .i64 1, .int .i64 100, .string ByteArray.empty, .slice none 0 0, .int .i64 2, .int .i64 0, .string sab, .slice none 0 0] 24 (0, 0))) (hc : 2 ≤ cap ∧ cap ≤ 9223372036854775807) :
    Rb w xl (.agg #[.int .i64 3, .int .i64 0, .string ByteArray.empty, .slice (some ⟨b, 0, none⟩) 2 cap]) := by
  have hb : b < w.heap.size := (Array.getElem?_eq_some_iff.1 h).1
  refine .mk (l := [.mk 1 100 ByteArray.empty [], .mk 2 0 sab []]) (fun i => if i = 0 then .agg #[.int .i64 1, .int .i64 100, .string ByteArray.empty, .slice none 0 0] else .agg #[.int .i64 2, .int .i64 0, .string sab, .slice none 0 0]) ⟨by omega, by omega⟩ ⟨by omega, by omega⟩ (by decide) hc.1 hc.2 (fun _ => ⟨b, 0, rfl, hb⟩) (fun i b' off hi e => ?_) (fun i hi => ?_)
  · injection e with e; injection e with e1 e2
    subst e1 e2
    have hc : ∀ o, w.cell? ⟨b, o, none⟩ = (#[Value.int .i64 1, .int .i64 100, .string ByteArray.empty, .slice none 0 0, .int .i64 2, .int .i64 0, .string sab, .slice none 0 0] : Array Value)[o]? := fun o => cell_of_row w b o _ _ _ h
    match i, hi with
    | 0, _ => exact ⟨by rw [hc]; rfl, by rw [hc]; rfl, by rw [hc]; rfl, by rw [hc]; rfl⟩
    | 1, _ => exact ⟨by rw [hc]; rfl, by rw [hc]; rfl, by rw [hc]; rfl, by rw [hc]; rfl⟩
  · match i, hi with
    | 0, _ => exact Rd.leaf _ _ _ _ _ ⟨by omega, by omega⟩ ⟨by omega, by omega⟩ (by decide)
    | 1, _ => exact Rd.leaf _ _ _ _ _ ⟨by omega, by omega⟩ ⟨by omega, by omega⟩ (by decide)

/-- the chapter's strings that are no encodings -/
def badS (k : Nat) : ByteArray := match k with | 0 => { data := #[] } | 1 => { data := #[1, 128, 0] } | 2 => { data := #[1, 5, 0] } | _ => { data := #[2, 3, 97] }
theorem badS_cell (k : Nat) (h : k < 4) : (#[.string { data := #[] }, .string { data := #[1, 128, 0] }, .string { data := #[1, 5, 0] }, .string { data := #[2, 3, 97] }] : Array Value)[k]? = some (.string (badS k)) := by
  match k, h with
  | 0, _ => rfl
  | 1, _ => rfl
  | 2, _ => rfl
  | 3, _ => rfl
theorem badS_size (k : Nat) : (badS k).size ≤ 9000000000000000000 := by unfold badS; split <;> decide
theorem badS_len (k : Nat) : (badS k).data.toList.length ≤ 1000000 := by unfold badS; split <;> decide
theorem badS_dv (k : Nat) : dvOf (badS k).data.toList = zeroX := by unfold badS; split <;> kernel_rfl
theorem badS_dc (k : Nat) : dcOf (badS k).data.toList = 10 := by unfold badS; split <;> kernel_rfl

theorem check_eq {x : V} {v : Value} {w : World} {c : Int} (hc : ckOf x.fm = c) (hx : x.sz ≤ 1000000) (hR : Rb w x v) : Calls Try.prog 16 #[v] w fun e w' => e = .returned (.int .i64 c) ∧ Below w.heap.size w w' := by subst hc; exact check_b hx hR

set_option maxRecDepth 100000 in
set_option maxHeartbeats 1600000 in
theorem sane_any (w : World) : Calls Try.prog 10 #[] w fun e w' => e = .returned (.bool true) ∧ Below w.heap.size w w' := by
  go_enter Try.func10, Try.ntmps10
  go_wp2_with fail
  refine (ref_int (-3) _).mono ?_
  rintro e w1 ⟨rfl, hb1⟩
  go_wp2_with fail
  refine (encode_eq xm3_enc xm3_ck (by decide) (by decide) (leaf_b w1 1 (-3) _ ⟨by omega, by omega⟩ ⟨by omega, by omega⟩ (by decide))).mono ?_
  rintro e w2 ⟨A2, cap2, rfl, hb2, hB2⟩
  have HB2 := Lib.hid hB2; have H2 := Lib.hid (later hb1 hb2)
  clear hB2 hb1 hb2
  go_wp2_with fail
  refine (ref_int 100 _).mono ?_
  rintro e w3 ⟨rfl, hb3⟩
  go_wp2_with fail
  refine (ref_text sab _).mono ?_
  rintro e w4 ⟨rfl, hb4⟩
  have H4 := Lib.hid (later (later H2.out hb3) hb4)
  have HB4 := Lib.hid ((HB2.out.below hb3).below hb4)
  clear hb3 hb4 HB2 H2
  go_wp2_with fail
  have g5 : (w4.alloc (.cells #[.int .i64 1, .int .i64 100, .string ByteArray.empty, .slice none 0 0, .int .i64 2, .int .i64 0, .string sab, .slice none 0 0] 24)).heap[w4.heap.size]? = some (.cells #[.int .i64 1, .int .i64 100, .string ByteArray.empty, .slice none 0 0, .int .i64 2, .int .i64 0, .string sab, .slice none 0 0] 24 (0, 0)) := heap_alloc_new _ _
  have hb5 := below1 (w := w4) (.cells #[.int .i64 1, .int .i64 100, .string ByteArray.empty, .slice none 0 0, .int .i64 2, .int .i64 0, .string sab, .slice none 0 0] 24)
  generalize (w4.alloc (.cells #[.int .i64 1, .int .i64 100, .string ByteArray.empty, .slice none 0 0, .int .i64 2, .int .i64 0, .string sab, .slice none 0 0] 24)) = w5 at *
  refine (ref_list _ 2 2 _).mono ?_
  rintro e w6 ⟨rfl, hb6⟩
  have HL := Lib.hid (xl_rd (w := w6) (b := w4.heap.size) (cap := 2) (by rw [hb6.block _ (Array.getElem?_eq_some_iff.1 g5).1]; exact g5) (by omega))
  have H6 := Lib.hid (later (later H4.out hb5) hb6)
  have HB6 := Lib.hid ((HB4.out.below hb5).below hb6)
  clear g5 hb5 hb6 H4 HB4
  go_wp2_with fail
  have g7 : (w6.alloc (.cells #[.int .i64 3, .int .i64 0, .string ByteArray.empty, .slice (some ⟨w4.heap.size, 0, none⟩) 2 2] 24)).heap[w6.heap.size]? = some (.cells #[.int .i64 3, .int .i64 0, .string ByteArray.empty, .slice (some ⟨w4.heap.size, 0, none⟩) 2 2] 24 (0, 0)) := heap_alloc_new _ _
  have hb7 := below1 (w := w6) (.cells #[.int .i64 3, .int .i64 0, .string ByteArray.empty, .slice (some ⟨w4.heap.size, 0, none⟩) 2 2] 24)
  generalize (w6.alloc (.cells #[.int .i64 3, .int .i64 0, .string ByteArray.empty, .slice (some ⟨w4.heap.size, 0, none⟩) 2 2] 24)) = w7 at *
  refine (encode_eq xl_enc xl_ck (by decide) (by decide) (HL.out.below hb7)).mono ?_
  rintro e w8 ⟨A8, cap8, rfl, hb8, hB8⟩
  have G8 : Hid (w8.heap[w6.heap.size]? = some (.cells #[.int .i64 3, .int .i64 0, .string ByteArray.empty, .slice (some ⟨w4.heap.size, 0, none⟩) 2 2] 24 (0, 0))) := Lib.hid (by rw [hb8.block _ (Array.getElem?_eq_some_iff.1 g7).1]; exact g7)
  have HL8 := Lib.hid ((HL.out.below hb7).below hb8)
  have H8 := Lib.hid (later (later H6.out hb7) hb8)
  have HA8 := Lib.hid ((HB6.out.below hb7).below hb8)
  have HB8 := Lib.hid hB8
  clear g7 hb7 hb8 hB8 HL H6 HB6
  go_wp2_with fail
  refine (decode_eq (y := xl) (c := 0) (by kernel_rfl) (by kernel_rfl) (by decide) HB8.out).mono ?_
  rintro e w9 ⟨k9, n9, s9, A9, len9, cap9, rfl, hb9, hR9⟩
  have G9 : Hid (w9.heap[w6.heap.size]? = some (.cells #[.int .i64 3, .int .i64 0, .string ByteArray.empty, .slice (some ⟨w4.heap.size, 0, none⟩) 2 2] 24 (0, 0))) := Lib.hid (by rw [hb9.block _ (Array.getElem?_eq_some_iff.1 G8.out).1]; exact G8.out)
  have HL9 := Lib.hid (HL8.out.below hb9)
  have H9 := Lib.hid (later H8.out hb9)
  have HA9 := Lib.hid (HA8.out.below hb9)
  have HB9 := Lib.hid (HB8.out.below hb9)
  have HR9 := Lib.hid hR9
  clear hb9 hR9 G8 HL8 H8 HA8 HB8
  obtain ⟨v0, v1, v2, v3, vf⟩ := four_cells G9.out
  have hlt9 : w6.heap.size < w9.heap.size := (Array.getElem?_eq_some_iff.1 G9.out).1
  go_wp2_with fail
  have g10 : (w9.alloc (.cells #[.int .i64 k9, .int .i64 n9, .string s9, .slice A9 len9 cap9] 24)).heap[w9.heap.size]? = some (.cells #[.int .i64 k9, .int .i64 n9, .string s9, .slice A9 len9 cap9] 24 (0, 0)) := heap_alloc_new _ _
  have hb10 := below1 (w := w9) (.cells #[.int .i64 k9, .int .i64 n9, .string s9, .slice A9 len9 cap9] 24)
  clear v0 v1 v2 v3 vf
  generalize (w9.alloc (.cells #[.int .i64 k9, .int .i64 n9, .string s9, .slice A9 len9 cap9] 24)) = w10 at *
  refine (size_eq (n := 9) (by rw [xl_enc]; rfl) xl_ck (by decide) (by decide) (HL9.out.below hb10)).mono ?_
  rintro e w11 ⟨rfl, hb11⟩
  have hbb := later hb10 hb11
  have G11 : Hid (w11.heap[w6.heap.size]? = some (.cells #[.int .i64 3, .int .i64 0, .string ByteArray.empty, .slice (some ⟨w4.heap.size, 0, none⟩) 2 2] 24 (0, 0))) := Lib.hid (by rw [hbb.block _ hlt9]; exact G9.out)
  have GG11 : Hid (w11.heap[w9.heap.size]? = some (.cells #[.int .i64 k9, .int .i64 n9, .string s9, .slice A9 len9 cap9] 24 (0, 0))) := Lib.hid (by rw [hb11.block _ (Array.getElem?_eq_some_iff.1 g10).1]; exact g10)
  have HL11 := Lib.hid (HL9.out.below hbb)
  have H11 := Lib.hid (later H9.out hbb)
  have HR11 := Lib.hid (HR9.out.below hbb)
  have ca : (convert 27 9 (.slice A2 2 cap2)).run Try.prog w11 = .ok (.string { data := #[1, 5] }) w11 := Bb.conv (HA9.out.below hbb)
  have cb : (convert 27 9 (.slice A8 9 cap8)).run Try.prog w11 = .ok (.string { data := #[3, 2, 1, 200, 1, 2, 2, 97, 98] }) w11 := Bb.conv (HB9.out.below hbb)
  clear hb10 hb11 g10 hbb G9 HL9 H9 HA9 HB9 HR9 hlt9
  obtain ⟨v0, v1, v2, v3, vf⟩ := four_cells G11.out
  obtain ⟨u0, u1, u2, u3, uf⟩ := four_cells GG11.out
  clear vf uf
  go_wp2_with fail
  refine (same_eq (same_self xl) (by decide) HL11.out HR11.out).mono ?_
  rintro e w12 ⟨rfl, hb12⟩
  have H12 := Lib.hid (later H11.out hb12)
  clear hb12 ca cb v0 v1 v2 v3 u0 u1 u2 u3 H11 G11 GG11 HL11 HR11
  go_wp2_with fail
  refine (ref_text { data := #[] } _).mono ?_
  rintro e w13 ⟨rfl, hb13⟩
  go_wp2_with fail
  refine (ref_list none 0 0 _).mono ?_
  rintro e w14 ⟨rfl, hb14⟩
  go_wp2_with fail
  refine (same_eq (x := .mk 2 0 ByteArray.empty []) (y := .mk 3 0 ByteArray.empty []) (b := false) (by kernel_rfl) (by decide) (leaf_b _ _ _ _ ⟨by omega, by omega⟩ ⟨by omega, by omega⟩ (by decide)) (leaf_b _ _ _ _ ⟨by omega, by omega⟩ ⟨by omega, by omega⟩ (by decide))).mono ?_
  rintro e w15 ⟨rfl, hb15⟩
  have H15 := Lib.hid (later (later (later H12.out hb13) hb14) hb15)
  clear hb13 hb14 hb15 H12
  go_wp2_with fail
  have g16 : (w15.alloc (.cells #[.string { data := #[] }, .string { data := #[1, 128, 0] }, .string { data := #[1, 5, 0] }, .string { data := #[2, 3, 97] }] 9)).heap[w15.heap.size]? = some (.cells #[.string { data := #[] }, .string { data := #[1, 128, 0] }, .string { data := #[1, 5, 0] }, .string { data := #[2, 3, 97] }] 9 (0, 0)) := heap_alloc_new _ _
  have hb16 := later H15.out (below1 (w := w15) (.cells #[.string { data := #[] }, .string { data := #[1, 128, 0] }, .string { data := #[1, 5, 0] }, .string { data := #[2, 3, 97] }] 9))
  generalize (w15.alloc (.cells #[.string { data := #[] }, .string { data := #[1, 128, 0] }, .string { data := #[1, 5, 0] }, .string { data := #[2, 3, 97] }] 9)) = w16 at *
  clear H15
  go_loopw [79] (fun i wr => ∃ k : Nat, k ≤ 4 ∧ i = .int .i64 k ∧ Below w.heap.size w wr ∧ wr.heap[w15.heap.size]? = some (.cells #[.string { data := #[] }, .string { data := #[1, 128, 0] }, .string { data := #[1, 5, 0] }, .string { data := #[2, 3, 97] }] 9 (0, 0))) (fun i _ => 4 - (intOf i).toNat)
  case atStart => exact ⟨0, by omega, rfl, hb16, g16⟩
  case round =>
    obtain ⟨k, hk, rfl, hb, hg⟩ := hrel
    clear g16 hb16
    by_cases hlt : k < 4
    · have hcell : wr.cell? ⟨w15.heap.size, k, none⟩ = some (.string (badS k)) := by rw [cell_of_row wr _ k _ _ _ hg]; exact badS_cell k hlt
      obtain ⟨capB, wB, hcv, hbB, hBB⟩ := str_bytes_b wr (badS k) (badS_size k)
      have HB := Lib.hid hBB; have Hb := Lib.hid hb; have Hg := Lib.hid hg; have HbB := Lib.hid hbB
      have hws : Hid (w15.heap.size < wr.heap.size) := Lib.hid (Array.getElem?_eq_some_iff.1 hg).1
      clear hBB hb hg hbB
      go_wp2_with fail
      refine (decode_eq (y := zeroX) (c := 10) (badS_dv k) (badS_dc k) (badS_len k) HB.out).mono ?_
      rintro e w17 ⟨k9, n9, s9, A9, len9, cap9, rfl, hb17, -⟩
      have H17 := Lib.hid hb17; clear hb17
      go_wp2_with fail
      go_roundw
      case rel =>
        have hbb := later HbB.out H17.out
        have hbc := hbb.trans ((below1 (w := w17) (.cells #[.int .i64 k9, .int .i64 n9, .string s9, .slice A9 len9 cap9] 24)).mono hbb.size)
        exact ⟨k + 1, by omega, by go_num, Hb.out.trans (hbc.mono Hb.out.size), by rw [hbc.block _ hws.out]; exact Hg.out⟩
      case measure => simp [intOf]; omega
    · have hk4 : k = 4 := by omega
      subst hk4
      have Hb := Lib.hid hb
      clear hb hg
      go_wp2_with fail
      refine (check_eq (x := zeroX) (c := 1) (by kernel_rfl) (by decide) (leaf_b wr 0 0 _ ⟨by omega, by omega⟩ ⟨by omega, by omega⟩ (by decide))).mono ?_
      rintro e w17 ⟨rfl, hb17⟩
      go_wp2_with fail
      go_ret
      exact ⟨rfl, later Hb.out hb17⟩

end Go.Proofs.Ytjhecmmbpmpmgaa
