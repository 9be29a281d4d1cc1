/- signatorylaw01.CodecDecodeSpec returns true. -/
import Derived.Test.YtjhecmmbpmpmgaaCSane
import Derived.Test.YtjhecmmbpmpmgaaCFew
namespace Go.Proofs.Ytjhecmmbpmpmgaa
open Go.RowKit Go.Lib

def Yes (w : World) (e : Ending) (w' : World) : Prop := e = .returned (.bool true) ∧ Below w.heap.size w w'

set_option maxRecDepth 100000 in
set_option maxHeartbeats 800000 in
theorem law_decode (w : World) (l : List UInt8) (A : Option Addr) (cap : Nat) (hl : l.length ≤ 9223372036854775807) (hB : Bb w l (.slice A l.length cap)) : Calls Try.prog 4 #[.slice A l.length cap] w (Yes w) := by
  have HB := Lib.hid hB; clear hB
  by_cases hbig : l.length > 2000
  · go_enter Try.func4, Try.ntmps4
    go_wp2_with fail
    refine (sane_any _).mono ?_
    rintro e w1 ⟨rfl, hb1⟩
    go_wp2_with fail
    go_ret
    exact ⟨rfl, hb1⟩
  · go_enter Try.func4, Try.ntmps4
    go_wp2_with fail
    refine (sane_any _).mono ?_
    rintro e w1 ⟨rfl, hb1⟩
    have HB1 := Lib.hid (HB.out.below hb1); have H1 := Lib.hid hb1; clear hb1 HB
    go_wp2_with fail
    obtain ⟨dc, hdc⟩ : ∃ dc, Hid (dcOf l = dc) := ⟨_, Lib.hid rfl⟩
    refine (decode_eq (y := dvOf l) (c := dc) rfl hdc.out (by omega) HB1.out).mono ?_
    rintro e w2 ⟨k2, n2, s2, A2, len2, cap2, rfl, hb2, hR2⟩
    have HB2 := Lib.hid (HB1.out.below hb2); have H2 := Lib.hid (later H1.out hb2); have HR2 := Lib.hid hR2; clear hb2 hR2 HB1 H1
    have hdsz := dv_sz l
    go_wp2_with fail
    have g3 : (w2.alloc (.cells #[.int .i64 k2, .int .i64 n2, .string s2, .slice A2 len2 cap2] 24)).heap[w2.heap.size]? = some (.cells #[.int .i64 k2, .int .i64 n2, .string s2, .slice A2 len2 cap2] 24 (0, 0)) := heap_alloc_new _ _
    have hb3 := below1 (w := w2) (.cells #[.int .i64 k2, .int .i64 n2, .string s2, .slice A2 len2 cap2] 24)
    generalize (w2.alloc (.cells #[.int .i64 k2, .int .i64 n2, .string s2, .slice A2 len2 cap2] 24)) = w3 at *
    refine (rdecode_eq (y := dvOf l) (c := dc) rfl hdc.out (by omega) (HB2.out.below hb3)).mono ?_
    rintro e w4 ⟨k4, n4, s4, A4, len4, cap4, rfl, hb4, hR4⟩
    have H4 := Lib.hid (later (later H2.out hb3) hb4)
    have g4 : w4.heap[w2.heap.size]? = some (.cells #[.int .i64 k2, .int .i64 n2, .string s2, .slice A2 len2 cap2] 24 (0, 0)) := by rw [hb4.block _ (Array.getElem?_eq_some_iff.1 g3).1]; exact g3
    have HR24 := Lib.hid ((HR2.out.below hb3).below hb4)
    have HR4 := Lib.hid hR4
    obtain ⟨v0, v1, v2, v3, vf⟩ := four_cells g4
    have hlt : w2.heap.size < w4.heap.size := (Array.getElem?_eq_some_iff.1 g4).1
    clear hb4 hR4 hb3 g3 g4 vf
    go_wp2_with fail
    refine (rsame_eq (same_self (dvOf l)) (by omega) (HR24.out.below (below1 _)) (HR4.out.below (below1 _))).mono ?_
    rintro e w5 ⟨rfl, hb5⟩
    go_wp2_with fail
    go_ret
    exact ⟨rfl, later H4.out (later (below1 _) hb5)⟩

end Go.Proofs.Ytjhecmmbpmpmgaa
