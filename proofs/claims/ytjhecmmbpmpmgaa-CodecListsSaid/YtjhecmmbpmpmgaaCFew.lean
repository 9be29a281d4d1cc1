/- signatorylaw01.few by its contract. -/
import Derived.Test.YtjhecmmbpmpmgaaCLaws
namespace Go.Proofs.Ytjhecmmbpmpmgaa
open Go.RowKit Go.Lib

/-- values one after the other, as a slice -/
def Rl (w : World) (l : List V) (A : Option Addr) (cap : Nat) : Prop := Rb w (.mk 3 0 ByteArray.empty l) (.agg #[.int .i64 3, .int .i64 0, .string ByteArray.empty, .slice A l.length cap])

theorem Rl.below {w w' : World} {l : List V} {A : Option Addr} {cap : Nat} (h : Rl w l A cap) (hb : Below w.heap.size w w') : Rl w' l A cap := Rb.below h hb

theorem rl_one {w : World} {b : Nat} {x : V} {c0 c1 c2 c3 : Value} {t : TypeId} {fr : Nat × Nat} (h : w.heap[b]? = some (.cells #[c0, c1, c2, c3] t fr)) (hx : Rb w x (.agg #[c0, c1, c2, c3])) : Rl w [x] (some ⟨b, 0, none⟩) 1 := by
  have hb : b < w.heap.size := (Array.getElem?_eq_some_iff.1 h).1
  refine .mk (l := [x]) (fun _ => .agg #[c0, c1, c2, c3]) ⟨by omega, by omega⟩ ⟨by omega, by omega⟩ (by decide) (by simp) (by omega) (fun _ => ⟨b, 0, rfl, hb⟩) (fun i b' off hi e => ?_) (fun i hi => ?_)
  · injection e with e; injection e with e1 e2
    subst e1 e2
    have hc : ∀ o, w.cell? ⟨b, o, none⟩ = (#[c0, c1, c2, c3] : Array Value)[o]? := fun o => cell_of_row w b o _ _ _ h
    match i, hi with
    | 0, _ => exact ⟨by rw [hc]; rfl, by rw [hc]; rfl, by rw [hc]; rfl, by rw [hc]; rfl⟩
  · match i, hi with
    | 0, _ => exact hx

theorem rl_two {w : World} {b : Nat} {x y : V} {c0 c1 c2 c3 d0 d1 d2 d3 : Value} {t : TypeId} {fr : Nat × Nat} (h : w.heap[b]? = some (.cells #[c0, c1, c2, c3, d0, d1, d2, d3] t fr)) (hx : Rb w x (.agg #[c0, c1, c2, c3])) (hy : Rb w y (.agg #[d0, d1, d2, d3])) : Rl w [x, y] (some ⟨b, 0, none⟩) 2 := by
  have hb : b < w.heap.size := (Array.getElem?_eq_some_iff.1 h).1
  refine .mk (l := [x, y]) (fun i => if i = 0 then .agg #[c0, c1, c2, c3] else .agg #[d0, d1, d2, d3]) ⟨by omega, by omega⟩ ⟨by omega, by omega⟩ (by decide) (by simp) (by omega) (fun _ => ⟨b, 0, rfl, hb⟩) (fun i b' off hi e => ?_) (fun i hi => ?_)
  · injection e with e; injection e with e1 e2
    subst e1 e2
    have hc : ∀ o, w.cell? ⟨b, o, none⟩ = (#[c0, c1, c2, c3, d0, d1, d2, d3] : Array Value)[o]? := fun o => cell_of_row w b o _ _ _ h
    match i, hi with
    | 0, _ => exact ⟨by rw [hc]; rfl, by rw [hc]; rfl, by rw [hc]; rfl, by rw [hc]; rfl⟩
    | 1, _ => exact ⟨by rw [hc]; rfl, by rw [hc]; rfl, by rw [hc]; rfl, by rw [hc]; rfl⟩
  · match i, hi with
    | 0, _ => exact hx
    | 1, _ => exact hy

theorem all_step (l : List V) (k : Nat) (hk : k < l.length) : (l.drop k).all few = (few l[k] && (l.drop (k + 1)).all few) := by
  rw [List.drop_eq_getElem_cons hk, List.all_cons]

set_option maxRecDepth 100000 in
set_option maxHeartbeats 800000 in
theorem few_any (w : World) (l : List V) (A : Option Addr) (cap : Nat) (hl : l.length ≤ 9223372036854775807) (hR : Rl w l A cap) :
    Calls Try.prog 11 #[.slice A l.length cap] w fun e w' => e = .returned (.bool (l.all few)) ∧ Below w.heap.size w w' := by
  have HR := Lib.hid hR; clear hR
  go_enter Try.func11, Try.ntmps11
  go_wp2_with fail
  go_loopw [7] (fun i wr => ∃ k : Nat, k ≤ l.length ∧ i = .int .i64 k ∧ l.all few = (l.drop k).all few ∧ Below w.heap.size w wr) (fun i _ => l.length - (intOf i).toNat)
  case atStart => exact ⟨0, by omega, rfl, rfl, Below.refl _ _⟩
  case round =>
    obtain ⟨k, hk, rfl, he, hb⟩ := hrel
    have He := Lib.hid he; have Hb := Lib.hid hb; clear he hb
    by_cases hlt : k < l.length
    · have hR := HR.out.below Hb.out
      obtain ⟨b, off, k', n', s', l', A', cap', hxk, rfl, hbS, h4, hR'⟩ := Rd.at hR k hlt
      have Hst := Lib.hid (He.out.trans (all_step l k hlt))
      have HX : Hid (Rb wr l[k] (.agg #[.int .i64 k', .int .i64 n', .string s', .slice A' l'.length cap'])) := Lib.hid (by rw [hxk]; exact hR')
      obtain ⟨c0, c1, c2, c3⟩ := h4
      clear hR hxk hR'
      have HC : Hid (∀ w0, Below wr.heap.size wr w0 → Calls Try.prog 25 #[.agg #[.int .i64 k', .int .i64 n', .string s', .slice A' l'.length cap'], .int .i64 20] w0 fun e w' => e = .returned (.bool (few l[k])) ∧ Below w0.heap.size w0 w') := Lib.hid fun w0 h0 => rfew_b (HX.out.below h0)
      generalize few l[k] = bb at *
      cases bb
      · go_wp2_with fail
        refine (HC.out _ (below1 _)).mono ?_
        rintro e w4 ⟨rfl, hb4⟩
        go_wp2_with fail
        go_ret
        exact ⟨ret_v (by rw [Hst.out]; rfl), later Hb.out (later (below1 _) hb4)⟩
      · go_wp2_with fail
        refine (HC.out _ (below1 _)).mono ?_
        rintro e w4 ⟨rfl, hb4⟩
        go_wp2_with fail
        go_roundw
        case rel => exact ⟨k + 1, by omega, by go_num, by rw [Hst.out]; rfl, later Hb.out (later (below1 _) hb4)⟩
        case measure => simp [intOf]; omega
    · have hf : l.all few = true := by rw [He.out, List.drop_of_length_le (by omega)]; rfl
      have Hf := Lib.hid hf; clear hf
      go_wp2_with fail
      go_ret
      exact ⟨ret_v (by rw [Hf.out]; rfl), Hb.out⟩

end Go.Proofs.Ytjhecmmbpmpmgaa
