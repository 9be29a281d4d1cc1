/- signatoryref01's Reader.Value and Decode by their contracts. -/
import Derived.Test.YtjhecmmbpmpmgaaCRefM
import Derived.Test.YtjhecmmbpmpmgaaCRefF
import Derived.Deep.RegionWith
namespace Go.Proofs.Ytjhecmmbpmpmgaa
open Go.RowKit Go.Lib

theorem rvalue_upTo (m : Nat) : ∀ d, 16 ≤ d + m → d ≤ 16 → RValueAt d := by
  induction m with
  | zero =>
    intro d hd hd2 R S B A cap i w h hS hB
    have : d = 16 := by omega
    subst this
    by_cases hi : i = B.length
    · exact rvalue_end 16 h hS hi _
    · have hi' : i < B.length := by have := h.le; omega
      by_cases h1 : B[i].toNat = 1
      · exact rvalue_int 16 h hS hi' h1 _
      · by_cases h2 : B[i].toNat = 2
        · exact rvalue_text 16 h hS hi' h2 hB _
        · by_cases h3 : B[i].toNat = 3
          · rw [show 16 - 16 = 0 from rfl, drop_cons hi', dec_30 _ _ h3]
            cases hno : rlen (B.drop (i + 1)) with
            | none => exact rlist_short 16 (by omega) h hS hi' h3 hB hno
            | some y => obtain ⟨u, r⟩ := y; exact rlist_deep 16 rfl h hS hi' h3 hB hno
          · exact rvalue_other 16 h hS hi' (by omega) _
  | succ m ih =>
    intro d hd hd2
    by_cases hd16 : d = 16
    · exact ih d (by omega) hd2
    intro R S B A cap i w h hS hB
    by_cases hi : i = B.length
    · exact rvalue_end d h hS hi _
    · have hi' : i < B.length := by have := h.le; omega
      by_cases h1 : B[i].toNat = 1
      · exact rvalue_int d h hS hi' h1 _
      · by_cases h2 : B[i].toNat = 2
        · exact rvalue_text d h hS hi' h2 hB _
        · by_cases h3 : B[i].toNat = 3
          · rw [show 16 - d = (15 - d) + 1 from by omega, drop_cons hi', dec_3 _ _ _ h3]
            cases hno : rlen (B.drop (i + 1)) with
            | none => exact rlist_short d (by omega) h hS hi' h3 hB hno
            | some y => obtain ⟨u, r⟩ := y; exact rlist_go d (by omega) (ih (d + 1) (by omega) (by omega)) h hS hi' h3 hB hno
          · exact rvalue_other d h hS hi' (by omega) _

theorem rvalue_any : RValueAt 0 := rvalue_upTo 16 0 (by omega) (by omega)

mutual
theorem sz_enc : ∀ (x : V), x.fm ≠ none → x.sz ≤ x.enc.length
  | .mk k n s l, h => by
    rw [V.sz, V.enc]
    rcases fm_kind h with ⟨rfl, _, rfl⟩ | ⟨rfl, _, rfl⟩ | ⟨rfl, _, _, hl⟩
    · rw [if_pos rfl]; simp [szL]
    · rw [if_neg (by decide), if_pos rfl]; simp [szL]
    · have := szL_enc l 0 hl
      rw [if_neg (by decide), if_neg (by decide)]; simp; omega
theorem szL_enc : ∀ (l : List V) (a : Nat), fmFrom a l ≠ none → szL l ≤ (encL l).length
  | [], _, _ => by simp [szL, encL]
  | x :: l, a, h => by
    rw [fmFrom] at h
    cases hx : x.fm with
    | none => simp [hx] at h
    | some e =>
      simp only [hx] at h
      have h1 := sz_enc x (by rw [hx]; simp)
      have h2 := szL_enc l _ h
      rw [szL, encL, List.length_append]; omega
end

/-- The world in which Decode calls Value. -/
def Rw (w : World) (A : Option Addr) (len cap : Nat) : World :=
  (w.alloc (.cells #[.int .i64 0, .int .i64 0, .string ByteArray.empty, .slice none 0 0] 24)).alloc (.cells #[.slice A len cap, .int .i64 0, .bool false] 62)

structure RwOk (w w1 : World) (S : Nat → Prop) (l : List UInt8) (A : Option Addr) (cap : Nat) : Prop where
  rb : RB w1 (w.heap.size + 1) S l A cap 0 false
  x : w1.heap[w.heap.size]? = some (.cells #[.int .i64 0, .int .i64 0, .string ByteArray.empty, .slice none 0 0] 24 (0, 0))
  b : Below w.heap.size w w1
  sz : w1.heap.size = w.heap.size + 2

theorem Rw.ok {w : World} {S : Nat → Prop} {l : List UInt8} {A : Option Addr} {cap : Nat} (h : Bs w S l (.slice A l.length cap)) (hS : ∀ b, S b → b < w.heap.size) : RwOk w (Rw w A l.length cap) S l A cap := by
  have hb := below2 (w := w) (.cells #[.int .i64 0, .int .i64 0, .string ByteArray.empty, .slice none 0 0] 24) (.cells #[.slice A l.length cap, .int .i64 0, .bool false] 62)
  refine ⟨⟨heap_alloc2_new _ _ _, h.frame (fun b hb' => hb.block b (hS b hb')) (fun _ h => h), fun b hb' => ⟨by have := hS b hb'; omega, by have := hS b hb'; have := hb.size; exact Nat.lt_of_lt_of_le (hS b hb') hb.size⟩, by omega⟩, ?_, hb, by simp [Rw]⟩
  unfold Rw
  rw [Below.heap_alloc _ _ _ (by simp)]; exact heap_alloc_new _ _

theorem ret_pair {P : Program} {fn : Func} {p u : Tmp} {ty : TypeId} (h : fn.results = #[.cell p ty, .tmp u]) (tmps : Array Value) (w : World) (g : Nat) (t : TypeId) (cs : Array Value) (fr : Nat × Nat) (d : TypeDesc) (v : Value)
    (hp : tmps.getD p undef = .pointer (some ⟨g, 0, none⟩)) (hg : w.heap[g]? = some (.cells cs t fr)) (hv : tmps.getD u undef = v)
    (hu : P.underlying ty = some d) (hd : (match d with | .struct _ | .array _ _ => true | _ => false) = true) (hi : (P.info? ty).map (·.size) = some cs.size) :
    (results fn tmps).run P w = .ok (.tuple #[.agg cs, v]) w := by
  have hp' : tmps[p]?.getD undef = .pointer (some ⟨g, 0, none⟩) := by simpa using hp
  have hv' : tmps[u]?.getD undef = v := by simpa using hv
  simp [results, h, hp', hv', asAddr, run_loadVar_row w g t ty cs fr d hg hu hd hi]

theorem below_four {w W : World} {X : Nat} {c0 c1 c2 c3 : Value} (h : Below X w W) : Below X w ((((W.setCell ⟨X, 0, none⟩ c0).setCell ⟨X, 1, none⟩ c1).setCell ⟨X, 2, none⟩ c2).setCell ⟨X, 3, none⟩ c3) :=
  (((h.setCell (p := ⟨X, 0, none⟩) (Nat.le_refl _) _).setCell (p := ⟨X, 1, none⟩) (Nat.le_refl _) _).setCell (p := ⟨X, 2, none⟩) (Nat.le_refl _) _).setCell (p := ⟨X, 3, none⟩) (Nat.le_refl _) _

theorem DecodePost.yes {l : List UInt8} {w w' : World} {x : V} {v : Value} (hb : Below w.heap.size w w') (hd : decode l = some x) (hr : Rd w' (fun b => w.heap.size ≤ b) x v) : DecodePost l w (.returned (.tuple #[v, .int .i64 0])) w' := by
  refine ⟨hb, ?_⟩; rw [hd]; exact ⟨v, rfl, hr⟩

set_option maxRecDepth 100000 in
set_option maxHeartbeats 1600000 in
theorem ref_decode {w : World} {S : Nat → Prop} {l : List UInt8} {A : Option Addr} {cap : Nat} (h : Bs w S l (.slice A l.length cap)) (hS : ∀ b, S b → b < w.heap.size) (hl : l.length ≤ 1000000) :
    Calls Try.prog 19 #[.slice A l.length cap] w (DecodePost l w) := by
  have HW := Lib.hid (Rw.ok h hS)
  have HH := Lib.hid h; have HS := Lib.hid hS
  have HC : Hid (Calls Try.prog 34 #[.pointer (some ⟨w.heap.size + 1, 0, none⟩), .int .i64 0] (Rw w A l.length cap) (RValPost (w.heap.size + 1) S l A cap (dec 16 l) (Rw w A l.length cap))) :=
    Lib.hid (rvalue_any _ S l A cap 0 _ HW.out.rb (fun b hb => by have := HS.out b hb; have := HW.out.sz; omega) (by omega))
  clear h hS
  go_enter Try.func19, Try.ntmps19
  go_wp2_with fail
  refine HC.out.mono ?_
  rintro e w2 ⟨hg, he⟩
  generalize Rw w A l.length cap = w1 at *
  have hx2 : w2.heap[w.heap.size]? = some (.cells #[.int .i64 0, .int .i64 0, .string ByteArray.empty, .slice none 0 0] 24 (0, 0)) := by
    rw [hg.block _ (by have := HW.out.sz; omega) (by intro e; injection e with e; omega)]; exact HW.out.x
  have hb2 : Below w.heap.size w w2 := HW.out.b.trans ⟨hg.os, hg.tape, hg.output, hg.size, fun k hk => hg.block k (by have := HW.out.sz; omega) (by intro e; injection e with e; omega)⟩
  have HX2 := Lib.hid hx2; have HB2 := Lib.hid hb2
  clear hx2 hb2 hg HC
  cases hd : dec 16 l with
  | none =>
    rw [hd] at he
    obtain ⟨k', n', s', A', l', c', rfl, j, hr⟩ := he
    have HD : Hid (decode l = none) := Lib.hid (by unfold decode; rw [hd])
    have x2 := hr.c2
    have hsz2 : w.heap.size + 1 < w2.heap.size := (Array.getElem?_eq_some_iff.1 hr.c).1
    have hsz3 : w.heap.size < w2.heap.size := by omega
    obtain ⟨y0, y1, y2, y3, yf⟩ := four_cells HX2.out
    clear hd hr
    go_wp2_with fail
    go_quiet (fail)
    all_goals
      go_wp2_with fail
      obtain ⟨h4, k4, s4⟩ := four_plain (w := (w2.alloc (.cells #[.int .i64 k', .int .i64 n', .string s', .slice A' l' c'] 24)).drewN nq) (c0 := .int .i64 0) (c1 := .int .i64 0) (c2 := .string ByteArray.empty) (c3 := .slice none 0 0) ((Below.heap_alloc w2 _ _ hsz3).trans HX2.out)
      refine bodyPost_ret (ret_pair (t := 24) rfl _ _ _ _ _ _ _ rfl h4 rfl Try.underlying24 rfl Try.sizeValue) rfl ?_
      exact DecodePost.no (below_four ((HB2.out.alloc HB2.out.size _).trans (below_drewN (Below.refl _ _) nq))) HD.out
  | some y =>
    obtain ⟨x, r⟩ := y
    rw [hd] at he
    obtain ⟨v, rfl, j, rfl, hr, hRd⟩ := he
    obtain ⟨k', n', s', l'⟩ := x
    obtain ⟨A', cap', rfl, hq⟩ := hRd.head
    have x0 := hr.c0; have x1 := hr.c1; have x2 := hr.c2; have xf := hr.fz
    have hsz2 : w.heap.size + 1 < w2.heap.size := (Array.getElem?_eq_some_iff.1 hr.c).1
    have hsz3 : w.heap.size < w2.heap.size := by omega
    obtain ⟨y0, y1, y2, y3, yf⟩ := four_cells HX2.out
    obtain ⟨he1, he2⟩ := enc_dec _ _ _ _ hd
    have hj := hr.le
    have HR := Lib.hid hr; have HRD := Lib.hid hRd; have HQ := Lib.hid hq
    clear hr hRd hq
    by_cases hjl : j = l.length
    · have tj : ((j : Int) != (l.length : Int)) = false := by simp [hjl]
      have HJ := Lib.hid hjl
      have hdrop : l.drop j = [] := by rw [hjl]; exact List.drop_length
      rw [hdrop] at hd he1
      rw [List.append_nil] at he1
      have HE1 := Lib.hid he1
      have hck : ckOf (V.mk k' n' s' l').fm = 0 := ckOf_zero.2 he2
      have hfm : (V.mk k' n' s' l').fm ≠ none := fun e => by rw [e] at hck; simp [ckOf] at hck
      have hsz : (V.mk k' n' s' l').sz ≤ 1000000 := by have := sz_enc _ hfm; rw [← he1] at this; omega
      have HD : Hid (decode l = some (V.mk k' n' s' l')) := Lib.hid (by unfold decode; rw [hd])
      have hb3 := HB2.out.alloc HB2.out.size (.cells #[.int .i64 k', .int .i64 n', .string s', .slice A' l'.length cap'] 24)
      have hbox : (w2.alloc (.cells #[.int .i64 k', .int .i64 n', .string s', .slice A' l'.length cap'] 24)).heap[w2.heap.size]? = some (.cells #[.int .i64 k', .int .i64 n', .string s', .slice A' l'.length cap'] 24 (0, 0)) := heap_alloc_new _ _
      have fr : ∀ w0, Below w2.heap.size w2 w0 → Rd w0 (fun b => w.heap.size ≤ b ∧ b < w2.heap.size) (V.mk k' n' s' l') (.agg #[.int .i64 k', .int .i64 n', .string s', .slice A' l'.length cap']) ∧ ∀ b, (w.heap.size ≤ b ∧ b < w2.heap.size) → b < w0.heap.size := fun w0 h0 =>
        ⟨HRD.out.bound.frame (fun b hb' => h0.block b hb'.2) (fun b hb => ⟨by have := HW.out.sz; have := hb.1; omega, hb.2⟩), fun b hb' => by have := hb'.2; have := h0.size; omega⟩
      have HK : Hid (∀ w0, Below w2.heap.size w2 w0 → Calls Try.prog 17 #[.agg #[.int .i64 k', .int .i64 n', .string s', .slice A' l'.length cap']] w0 fun e w' => e = .returned (.int .i64 0) ∧ Below w0.heap.size w0 w') :=
        Lib.hid fun w0 h0 => by have := ref_check hsz (fr w0 h0).1 (fr w0 h0).2; rw [hck] at this; exact this
      have HN : Hid (∀ w0, Below w2.heap.size w2 w0 → Calls Try.prog 27 #[.agg #[.int .i64 k', .int .i64 n', .string s', .slice A' l'.length cap']] w0 (NewBytes l w0)) :=
        Lib.hid fun w0 h0 => by have := ref_enc_upTo 1000000 (by omega) _ _ _ w0 hsz hfm (fr w0 h0).1 (fr w0 h0).2 (by rw [← he1]; omega); rw [← he1] at this; exact this
      have fb : ∀ w0, Below w2.heap.size w2 w0 → Bs w0 S l (.slice A l.length cap) := fun w0 h0 => HH.out.frame (fun b hb => by have := HS.out b hb; rw [h0.block b (by omega), HB2.out.block b this]) (fun _ h => h)
      have HA4 : Hid (∀ w4, Below (w2.alloc (.cells #[.int .i64 k', .int .i64 n', .string s', .slice A' l'.length cap'] 24)).drew.heap.size (w2.alloc (.cells #[.int .i64 k', .int .i64 n', .string s', .slice A' l'.length cap'] 24)).drew w4 →
          Below w2.heap.size w2 w4 ∧ w4.heap[w2.heap.size]? = some (.cells #[.int .i64 k', .int .i64 n', .string s', .slice A' l'.length cap'] 24 (0, 0)) ∧ (convert 27 9 (.slice A l.length cap)).run Try.prog w4 = .ok (.string (strOf l)) w4) := Lib.hid fun w4 h4 => by
        have h24 : Below w2.heap.size w2 w4 := (((Below.refl _ _).alloc (Nat.le_refl _) _).drew).trans (h4.mono (by simp))
        exact ⟨h24, by rw [h4.block _ (by simp)]; exact hbox, (fb w4 h24).conv⟩
      have HA5 : Hid (∀ w4 w5 v5, Below w2.heap.size w2 w4 → w4.heap[w2.heap.size]? = some (.cells #[.int .i64 k', .int .i64 n', .string s', .slice A' l'.length cap'] 24 (0, 0)) → w5.ownsRow 0 5 1 v5 l.length (bc l) → Below w4.heap.size w4 w5 → (∀ k, v5.ownBlock = some k → w4.heap.size ≤ k) →
          Below w2.heap.size w2 w5 ∧ w5.heap[w2.heap.size]? = some (.cells #[.int .i64 k', .int .i64 n', .string s', .slice A' l'.length cap'] 24 (0, 0)) ∧ w5.heap[w.heap.size]? = some (.cells #[.int .i64 0, .int .i64 0, .string ByteArray.empty, .slice none 0 0] 24 (0, 0)) ∧
          (convert 27 9 (.slice A l.length cap)).run Try.prog w5 = .ok (.string (strOf l)) w5 ∧ (convert 27 9 v5).run Try.prog w5 = .ok (.string (strOf l)) w5) := Lib.hid fun w4 w5 v5 h24 g4 ho h45 hn => by
        have h25 : Below w2.heap.size w2 w5 := h24.trans (h45.mono h24.size)
        exact ⟨h25, by rw [h45.block _ (Array.getElem?_eq_some_iff.1 g4).1]; exact g4, by rw [h25.block _ (by omega)]; exact HX2.out, (fb w5 h25).conv, (own_bytes ho hn).conv⟩
      have v0 := (four_cells hbox).1; have v1 := (four_cells hbox).2.1; have v2 := (four_cells hbox).2.2.1; have v3 := (four_cells hbox).2.2.2.1
      clear hd he1 he2 hb3 hbox fr fb hck hfm hsz hdrop
      go_wp2_with fail
      go_region_with (first
        | (go_at_call 17; refine (HK.out _ (((Below.refl _ _).alloc (Nat.le_refl _) _).drew)).mono ?_; rintro e w4 ⟨rfl, hb4⟩; obtain ⟨h24, g4, cb4⟩ := HA4.out w4 hb4; obtain ⟨z0, z1, z2, z3, zf⟩ := four_cells g4; have H24 := Lib.hid h24; have G4 := Lib.hid g4; clear h24 g4 hb4)
        | (go_at_call 27; refine (HN.out _ H24.out).mono ?_; rintro e w5 ⟨v5, rfl, hown5, hb5, hnew5⟩; obtain ⟨h25, g5, gx5, cb5, ce5⟩ := HA5.out w4 w5 v5 H24.out G4.out hown5 hb5 hnew5; obtain ⟨u0, u1, u2, u3, uf⟩ := four_cells g5; obtain ⟨q0, q1, q2, q3, qf⟩ := four_cells gx5; have H25 := Lib.hid h25; have GX5 := Lib.hid gx5; clear h25 g5 gx5 hb5 hown5 hnew5))
      all_goals
        go_wp2_with fail
        obtain ⟨h4, k4, s4⟩ := four_plain (w := w5) (c0 := .int .i64 k') (c1 := .int .i64 n') (c2 := .string s') (c3 := .slice A' l'.length cap') GX5.out
        refine bodyPost_ret (ret_pair (t := 24) rfl _ _ _ _ _ _ _ rfl h4 rfl Try.underlying24 rfl Try.sizeValue) rfl ?_
        exact DecodePost.yes (below_four (HB2.out.trans (H25.out.mono HB2.out.size))) HD.out (HRD.out.bound.frame (fun b hb => by have := hb.1; have := HW.out.sz; rw [k4 b (by omega), H25.out.block b hb.2]) (fun b hb => by have := hb.1; have := HW.out.sz; omega))
    · have tj : ((j : Int) != (l.length : Int)) = true := by simp; omega
      have HD : Hid (decode l = none) := Lib.hid (by
        unfold decode; rw [hd]
        cases hdr : l.drop j with
        | nil => exfalso; have := congrArg List.length hdr; simp at this; omega
        | cons _ _ => rfl)
      clear hd he1 he2
      go_wp2_with fail
      go_quiet (fail)
      all_goals
        go_wp2_with fail
        obtain ⟨h4, k4, s4⟩ := four_plain (w := (w2.alloc (.cells #[.int .i64 k', .int .i64 n', .string s', .slice A' l'.length cap'] 24)).drewN nq) (c0 := .int .i64 0) (c1 := .int .i64 0) (c2 := .string ByteArray.empty) (c3 := .slice none 0 0) ((Below.heap_alloc w2 _ _ hsz3).trans HX2.out)
        refine bodyPost_ret (ret_pair (t := 24) rfl _ _ _ _ _ _ _ rfl h4 rfl Try.underlying24 rfl Try.sizeValue) rfl ?_
        exact DecodePost.no (below_four ((HB2.out.alloc HB2.out.size _).trans (below_drewN (Below.refl _ _) nq))) HD.out

end Go.Proofs.Ytjhecmmbpmpmgaa
