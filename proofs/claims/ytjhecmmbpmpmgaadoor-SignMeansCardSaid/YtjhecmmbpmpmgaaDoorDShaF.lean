/- slices.Grow of nil, slices.Concat of two, digest.Tagged by their contracts. -/
import Derived.Test.YtjhecmmbpmpmgaaDoorDShaE
import Derived.Lib.AppendZeros
import Derived.Deep.WholeRow
namespace Go.Proofs.YtjhecmmbpmpmgaaDoor
open Go.RowKit Go.Lib

theorem Tryd.dInfoU8 : (Tryd.prog.info? 5).map (fun i => (i.zero, i.size, i.bytes)) = some (some (.int .u8 0), 1, 1) := by kernel_rfl

theorem own_of_zeros (w : World) (n : Nat) (hn : n ≤ 1000000000000) : (w.drew.alloc (.cells (Builtin.zeroCells (Value.int .u8 0).cells n ++ Builtin.zeroCells (Value.int .u8 0).cells (grownCap w n 0 5 - n)) 5)).ownsRow 0 5 1 (.slice (some ⟨w.heap.size, 0, none⟩) 0 (grownCap w n 0 5)) 0 [] := by
  have hge := grownCap_ge w n 0 5
  refine ⟨rfl, .inr ⟨w.heap.size, grownCap w n 0 5, _, rfl, Nat.zero_le _, heap_alloc_new w.drew _, Nat.zero_le _, grownCap_le_maxLen w n 0 5 (by unfold maxLen; omega), ?_, rfl⟩⟩
  simp [Builtin.zeroCells, Value.cells]
  omega

set_option maxRecDepth 100000 in
set_option maxHeartbeats 800000 in
theorem grow_nil (w : World) (n : Nat) (h0 : 0 < n) (hn : n ≤ 1000000000000) :
    Calls Tryd.prog 92 #[.slice none 0 0, .int .i64 n] w fun e w' => ∃ v, e = .returned v ∧ w'.ownsRow 0 5 1 v 0 [] ∧ Below w.heap.size w w' ∧ ∀ k, v.ownBlock = some k → w.heap.size ≤ k := by
  obtain ⟨i0, hi, hz0, hz1, hz2⟩ := info_parts Tryd.dInfoU8
  have hrun := fun ty => run_append_nil_zeros (P := Tryd.prog) w 22 3 ty 5 i0 (.int .u8 0) .i64 .i64 Tryd.underlying22 Tryd.underlying3 hi hz0 n h0 (by omega) (by omega) (by rw [hz2]; omega)
  have hown := Lib.hid (own_of_zeros w n hn)
  have hge := grownCap_ge w n 0 5
  have hle : grownCap w n 0 5 ≤ 9223372036854775807 := by have := grownCap_le_maxLen w n 0 5 (by unfold maxLen; omega); unfold maxLen at this; omega
  obtain ⟨G, hG⟩ : ∃ G, G = grownCap w n 0 5 := ⟨_, rfl⟩
  rw [← hG] at hge hle hrun hown
  obtain ⟨W1, hW1⟩ : ∃ W1, W1 = w.drew.alloc (.cells (Builtin.zeroCells (Value.int .u8 0).cells n ++ Builtin.zeroCells (Value.int .u8 0).cells (G - n)) 5) := ⟨_, rfl⟩
  have hb : Below w.heap.size w W1 := by rw [hW1]; exact ((Below.refl _ _).drew).alloc (Nat.le_refl _) _
  rw [← hW1] at hrun hown
  have HB := Lib.hid hb
  have HR := Lib.hid hrun
  clear hG hW1 hb hrun hz0 hz1 hz2 hi
  have n1 : ¬ ((n : Int) < 0) := by omega
  have n2 : (0 : Int) < n := by omega
  go_enter Tryd.func92, Tryd.ntmps92
  go_wp2_with (with_reducible refine wpList_append_run _ rfl (.tmp 20) (.tmp 21) 22 3 rfl _ _ rfl rfl _ _ (HR.out _) ?_)
  go_ret
  exact ⟨_, rfl, hown.out, HB.out, fun k hk => by simp [Value.ownBlock] at hk; omega⟩

/-- bytes at a place -/
structure At (w : World) (l : List UInt8) (b off : Nat) : Prop where
  lt : b < w.heap.size
  cell : ∀ i (h : i < l.length), w.cell? ⟨b, off + i, none⟩ = some (.int .u8 (l[i].toNat : Int))

theorem At.below {w w' : World} {l : List UInt8} {b off : Nat} (h : At w l b off) (hb : Below w.heap.size w w') : At w' l b off :=
  ⟨Nat.lt_of_lt_of_le h.lt hb.size, fun i hi => by rw [World.cell?_of_block (w := w) (a := ⟨b, off + i, none⟩) (hb.block _ h.lt)]; exact h.cell i hi⟩

theorem At.news {w : World} {l : List UInt8} {b off : Nat} (h : At w l b off) : ∀ j u, (bc l)[j]? = some u → w.cell? ((⟨b, off, none⟩ : Addr).add j) = some u := by
  intro j u hu
  rw [bc, List.getElem?_map, Option.map_eq_some_iff] at hu
  obtain ⟨c, hc, rfl⟩ := hu
  obtain ⟨hj, hc⟩ := List.getElem?_eq_some_iff.1 hc
  rw [Addr.add_lit, h.cell j hj, hc]

theorem d_bc_one {l : List UInt8} : ∀ u ∈ bc l, u.oneCell' = true := by
  intro u hu; simp [bc] at hu; obtain ⟨c, _, rfl⟩ := hu; rfl

/-- a row of one's own, its bytes so far -/
structure Row (w : World) (xs : List UInt8) (v : Value) (wr : World) : Prop where
  own : wr.ownsRow 0 5 1 v xs.length (bc xs)
  below : Below w.heap.size w wr
  new : ∀ k, v.ownBlock = some k → w.heap.size ≤ k

theorem Row.app {w : World} {xs ys : List UInt8} {v v' : Value} {wr w' : World} (h : Row w xs v wr) (ho : w'.ownsRow 0 5 1 v' (xs.length + ys.length) (bc xs ++ bc ys)) (hw : Wr wr v w' v') : Row w (xs ++ ys) v' w' := by
  refine ⟨by rw [List.length_append, show bc (xs ++ ys) = bc xs ++ bc ys from by simp [bc]]; exact ho, h.below.trans (hw.toBelow h.below.size h.new), fun k hk => ?_⟩
  rcases hw.fresh with h1 | h1
  · exact h.new k (h1 ▸ hk)
  · exact Nat.le_trans h.below.size (h1 k hk)

set_option maxRecDepth 100000 in
set_option maxHeartbeats 1600000 in
theorem concat_two (w : World) (B b1 o1 c1 b2 o2 c2 : Nat) (l1 l2 : List UInt8) (h1 : 0 < l1.length) (hl1 : l1.length ≤ 1000000000) (hl2 : l2.length ≤ 1000000000) (hA1 : At w l1 b1 o1) (hA2 : At w l2 b2 o2)
    (hc1 : w.cell? ⟨B, 0, none⟩ = some (.slice (some ⟨b1, o1, none⟩) l1.length c1)) (hc2 : w.cell? ⟨B, 1, none⟩ = some (.slice (some ⟨b2, o2, none⟩) l2.length c2)) :
    Calls Tryd.prog 67 #[.slice (some ⟨B, 0, none⟩) 2 2] w fun e w' => ∃ v, e = .returned v ∧ Row w (l1 ++ l2) v w' := by
  obtain ⟨i0, hi, hz0, hz1, hz2⟩ := info_parts Tryd.dInfoU8
  have hBw : B < w.heap.size := World.block_lt_of_cell? w _ hc1
  obtain ⟨n1, hn1⟩ : ∃ n, n = l1.length := ⟨_, rfl⟩
  obtain ⟨n2, hn2⟩ : ∃ n, n = l2.length := ⟨_, rfl⟩
  rw [← hn1] at hc1 h1 hl1; rw [← hn2] at hc2 hl2
  have HN1 := Lib.hid hn1; have HN2 := Lib.hid hn2; have HA1 := Lib.hid hA1; have HA2 := Lib.hid hA2
  clear hn1 hn2 hA1 hA2
  go_enter Tryd.func67, Tryd.ntmps67
  go_wp2_with fail
  go_loopw [3, 11] (fun s i wr => wr = w ∧ ((i = .int .i64 0 ∧ s = .int .i64 0) ∨ (i = .int .i64 1 ∧ s = .int .i64 n1) ∨ (i = .int .i64 2 ∧ s = .int .i64 (n1 + n2 : Nat)))) (fun _ i _ => 2 - (intOf i).toNat)
  case atStart => exact ⟨rfl, .inl ⟨rfl, rfl⟩⟩
  case round =>
    obtain ⟨rfl, hrel⟩ := hrel
    rcases hrel with ⟨rfl, rfl⟩ | ⟨rfl, rfl⟩ | ⟨rfl, rfl⟩
    · go_wp2_with fail
      exact ⟨⟨trivial, .inr (.inl ⟨rfl, rfl⟩)⟩, by simp [intOf]⟩
    · go_wp2_with fail
      exact ⟨⟨trivial, .inr (.inr ⟨rfl, by go_num⟩)⟩, by simp [intOf]⟩
    · go_wp2_with fail
      rw [show ((n1 : Int) + (n2 : Int)) = ((n1 + n2 : Nat) : Int) from by omega]
      refine (grow_nil _ (n1 + n2) (by omega) (by omega)).mono ?_
      rintro e w1 ⟨v1, rfl, hown, hb, hnew⟩
      have hR0 : Row wr [] v1 w1 := ⟨hown, hb, hnew⟩
      clear hown hb hnew
      have HR0 := Lib.hid hR0
      clear hR0
      go_wp2_with fail
      go_loopw [6, 27] (fun r i wr' => (i = .int .i64 0 ∧ Row wr [] r wr') ∨ (i = .int .i64 1 ∧ Row wr l1 r wr') ∨ (i = .int .i64 2 ∧ Row wr (l1 ++ l2) r wr')) (fun _ i _ => 2 - (intOf i).toNat)
      case atStart => exact .inl ⟨rfl, HR0.out⟩
      case round =>
        clear HR0
        rename World => w2
        rcases hrel with ⟨rfl, hR⟩ | ⟨rfl, hR⟩ | ⟨rfl, hR⟩
        · have hcB := (hR.below.cell (p := ⟨B, 0, none⟩) hBw).trans hc1
          have hnews := (HA1.out.below hR.below).news
          have hown := hR.own
          have HR := Lib.hid hR
          clear hR
          go_wp2_with (at_builtin; refine wpList_app _ rfl _ _ 22 rfl 5 i0 (.int .u8 0) 1 1 Tryd.underlying22 hi hz0 hz1 hz2 rfl (by decide) _ _ _ rfl hown ⟨b1, o1, none⟩ n1 c1 (bc l1) rfl (by rw [bc_len, Nat.mul_one, HN1.out]) hnews d_bc_one (by have := HN1.out; have := HN2.out; unfold maxLen; simp; omega) (by have := HN1.out; have := HN2.out; simp; omega) ?_; intro v3 w3 hown3 hwr3 _)
          have hR3 := HR.out.app (by rw [← HN1.out]; exact hown3) hwr3
          exact ⟨.inr (.inl ⟨rfl, hR3⟩), by simp [intOf]⟩
        · have hcB := (hR.below.cell (p := ⟨B, 1, none⟩) hBw).trans hc2
          have hnews := (HA2.out.below hR.below).news
          have hown := hR.own
          have HR := Lib.hid hR
          clear hR
          go_wp2_with (at_builtin; refine wpList_app _ rfl _ _ 22 rfl 5 i0 (.int .u8 0) 1 1 Tryd.underlying22 hi hz0 hz1 hz2 rfl (by decide) _ _ _ rfl hown ⟨b2, o2, none⟩ n2 c2 (bc l2) rfl (by rw [bc_len, Nat.mul_one, HN2.out]) hnews d_bc_one (by have := HN1.out; have := HN2.out; unfold maxLen; simp; omega) (by have := HN1.out; have := HN2.out; simp; omega) ?_; intro v3 w3 hown3 hwr3 _)
          have hR3 := HR.out.app (by rw [← HN2.out]; exact hown3) hwr3
          exact ⟨.inr (.inr ⟨rfl, hR3⟩), by simp [intOf]⟩
        · have HR := Lib.hid hR
          clear hR
          go_wp2_with fail
          go_ret
          exact ⟨_, rfl, HR.out⟩

theorem own_bs {w : World} {l : List UInt8} {v : Value} {B : Nat} (h : w.ownsRow 0 5 1 v l.length (bc l)) (hn : ∀ k, v.ownBlock = some k → B ≤ k) : Bs w (fun b => b < w.heap.size) l v :=
  Bs.frame (own_bytes h hn) (fun _ _ => rfl) (fun _ h => h.2)

theorem Tabs.below {w w' : World} (h : Tabs w) (hb : Below w.heap.size w w') : Tabs w' :=
  ⟨h.s.imp fun _ e => (hb.block 0 (Array.getElem?_eq_some_iff.1 e).1).trans e, h.k.imp fun _ e => (hb.block 1 (Array.getElem?_eq_some_iff.1 e).1).trans e⟩

/-- the hash under a tag -/
def tagged (t : ByteArray) (l : List UInt8) : List UInt8 := sha (sha t.data.toList ++ l)

/-- a world with a digest's zero value -/
def zrow : Array Value := #[.int .u8 0, .int .u8 0, .int .u8 0, .int .u8 0, .int .u8 0, .int .u8 0, .int .u8 0, .int .u8 0, .int .u8 0, .int .u8 0, .int .u8 0, .int .u8 0, .int .u8 0, .int .u8 0, .int .u8 0, .int .u8 0, .int .u8 0, .int .u8 0, .int .u8 0, .int .u8 0, .int .u8 0, .int .u8 0, .int .u8 0, .int .u8 0, .int .u8 0, .int .u8 0, .int .u8 0, .int .u8 0, .int .u8 0, .int .u8 0, .int .u8 0, .int .u8 0]

theorem brow_size {l : List UInt8} (h : l.length = 32) : (Tryd.prog.info? 47).map (·.size) = some (brow l).size := by
  have : (brow l).size = 32 := by simp [brow, h]
  rw [this]
  exact (show (Tryd.prog.info? 47).map (·.size) = some 32 from by kernel_rfl)
theorem brow_one (l : List UInt8) : (brow l).all (·.oneCell') = true := by
  rw [Array.all_eq_true_iff_forall_mem]
  intro v hv
  simp only [brow, List.mem_toArray, List.mem_map] at hv
  obtain ⟨c, _, rfl⟩ := hv; rfl

theorem At.ofRow {w : World} {l : List UInt8} {b : Nat} {t : TypeId} {fr : Nat × Nat} (h : w.heap[b]? = some (.cells (brow l) t fr)) : At w l b 0 :=
  ⟨(Array.getElem?_eq_some_iff.1 h).1, fun i hi => by rw [Nat.zero_add]; simp [World.cell?, h, brow, hi, bv]⟩

set_option maxRecDepth 100000 in
set_option maxHeartbeats 1600000 in
theorem tagged_any (w : World) (t : ByteArray) (ht : t.size ≤ 1000000) (l : List UInt8) (b off cap : Nat) (hl0 : 0 < l.length) (hl : l.length ≤ 100000000) (hA : At w l b off) (hT : Tabs w) :
    Calls Tryd.prog 34 #[.string t, .slice (some ⟨b, off, none⟩) l.length cap] w fun e w' => e = .returned (dig (tagged t l)) ∧ Below w.heap.size w w' := by
  have htl : t.data.toList.length ≤ 1000000000 := by
    have : t.data.toList.length = t.size := by simp
    omega
  obtain ⟨cap1, w2, hconv, hb2, hBb⟩ := str_bytes_b (w.alloc (.cells #[.int .u8 0, .int .u8 0, .int .u8 0, .int .u8 0, .int .u8 0, .int .u8 0, .int .u8 0, .int .u8 0, .int .u8 0, .int .u8 0, .int .u8 0, .int .u8 0, .int .u8 0, .int .u8 0, .int .u8 0, .int .u8 0, .int .u8 0, .int .u8 0, .int .u8 0, .int .u8 0, .int .u8 0, .int .u8 0, .int .u8 0, .int .u8 0, .int .u8 0, .int .u8 0, .int .u8 0, .int .u8 0, .int .u8 0, .int .u8 0, .int .u8 0, .int .u8 0] 47)) t (by omega)
  rw [World.size_alloc] at hconv hBb
  have hb1 : Below w.heap.size w w2 := ((Below.refl _ _).alloc (Nat.le_refl _) _).trans (hb2.mono (by simp))
  have hz2 : w2.heap[w.heap.size]? = some (.cells (brow (List.replicate 32 0)) 47 (0, 0)) := by
    rw [hb2.block _ (by simp), heap_alloc_new]; rfl
  obtain ⟨n, hn⟩ : ∃ n, Hid (n = l.length) := ⟨_, Lib.hid rfl⟩
  rw [← hn.out] at hl0 hl ⊢
  have HA := Lib.hid hA
  have HT := Lib.hid hT
  have H1 := Lib.hid hb1
  have HZ := Lib.hid hz2
  have HB := Lib.hid hBb
  clear hA hT hb1 hz2 hb2 hBb
  go_enter Tryd.func34, Tryd.ntmps34
  go_wp2_with fail
  refine (sum_any w2 _ (fun _ h => h) t.data.toList _ HB.out htl (HT.out.below H1.out)).mono ?_
  rintro e w3 ⟨rfl, hb3⟩
  have hw2 := H1.out.size
  have hsz2 : w.heap.size + 1 ≤ w2.heap.size := (Array.getElem?_eq_some_iff.1 HZ.out).1
  have hsz3 := hb3.size
  obtain ⟨T, hTd⟩ : ∃ T, Hid (T = sha t.data.toList) := ⟨_, Lib.hid rfl⟩
  rw [← hTd.out]
  have hTl : T.length = 32 := by rw [hTd.out]; rfl
  have h3 : Hid (Below w.heap.size w w3) := Lib.hid (H1.out.trans (hb3.mono (by omega)))
  have hz3 : Hid (w3.heap[w.heap.size]? = some (.cells (brow (List.replicate 32 0)) 47 (0, 0))) := Lib.hid ((hb3.block _ (by omega)).trans HZ.out)
  clear hb3 hconv
  have hA5 : (w3.alloc (.cells zrow 47)).heap[w3.heap.size]? = some (.cells zrow 47 (0, 0)) := heap_alloc_new _ _
  go_wp2_with (refine wpList_store_row rfl 47 (.tmp 5) (.tmp 8) rfl w3.heap.size (brow T) rfl rfl 47 zrow hA5 (brow_size hTl) (by simp [brow, hTl, zrow]) (brow_one T) ?_)
  rw [World.setRow_alloc_new]
  have hw3 := hz3.out
  have hw3s : w.heap.size < w3.heap.size := (Array.getElem?_eq_some_iff.1 hw3).1
  have hb5 : Below (w.heap.size + 1) w3 ((w3.alloc (.cells (brow T) 47)).alloc (.cells #[.slice (some ⟨w3.heap.size, 0, none⟩) 32 32, .slice (some ⟨b, off, none⟩) n cap] 22)) := ((Below.refl _ _).alloc (by omega) _).alloc (by simp; omega) _
  have hT5 : ((w3.alloc (.cells (brow T) 47)).alloc (.cells #[.slice (some ⟨w3.heap.size, 0, none⟩) 32 32, .slice (some ⟨b, off, none⟩) n cap] 22)).heap[w3.heap.size]? = some (.cells (brow T) 47 (0, 0)) := by
    rw [Below.heap_alloc _ _ _ (by simp), heap_alloc_new]
  have hP5 : ((w3.alloc (.cells (brow T) 47)).alloc (.cells #[.slice (some ⟨w3.heap.size, 0, none⟩) 32 32, .slice (some ⟨b, off, none⟩) n cap] 22)).heap[w3.heap.size + 1]? = some (.cells #[.slice (some ⟨w3.heap.size, 0, none⟩) 32 32, .slice (some ⟨b, off, none⟩) n cap] 22 (0, 0)) := by
    rw [show w3.heap.size + 1 = (w3.alloc (.cells (brow T) 47)).heap.size from by simp, heap_alloc_new]
  generalize (w3.alloc (.cells (brow T) 47)).alloc (.cells #[.slice (some ⟨w3.heap.size, 0, none⟩) 32 32, .slice (some ⟨b, off, none⟩) n cap] 22) = w5 at *
  have hb5' : Below w.heap.size w w5 := h3.out.trans (hb5.mono (by omega))
  have hz5 : Hid (w5.heap[w.heap.size]? = some (.cells (brow (List.replicate 32 0)) 47 (0, 0))) := Lib.hid ((hb5.block _ (by omega)).trans hw3)
  have H5 := Lib.hid hb5'
  refine (concat_two w5 (w3.heap.size + 1) w3.heap.size 0 32 b off cap T l (by omega) (by omega) (by rw [← hn.out]; omega) (At.ofRow hT5) (HA.out.below hb5') (by rw [hTl]; simp [World.cell?, hP5]) (by rw [← hn.out]; simp [World.cell?, hP5])).mono ?_
  rintro e w6 ⟨v6, rfl, hR⟩
  have hw5s : w.heap.size < w5.heap.size := (Array.getElem?_eq_some_iff.1 hz5.out).1
  have hB6 := hR.below
  have hb6 := H5.out.trans (hB6.mono (by omega))
  have hz6 : Hid (w6.heap[w.heap.size]? = some (.cells (brow (List.replicate 32 0)) 47 (0, 0))) := Lib.hid ((hB6.block _ hw5s).trans hz5.out)
  have H6 := Lib.hid hb6
  have HBs := Lib.hid (own_bs hR.own hR.new)
  clear hR hB6 hb6 hb5 hT5 hP5 hb5' hw3 hA5
  go_wp2_with fail
  refine (sum_any w6 _ (fun _ h => h) (T ++ l) v6 HBs.out (by rw [List.length_append, ← hn.out]; omega) (HT.out.below H6.out)).mono ?_
  rintro e w7 ⟨rfl, hb7⟩
  have hw6s : w.heap.size < w6.heap.size := (Array.getElem?_eq_some_iff.1 hz6.out).1
  have hz7 : w7.heap[w.heap.size]? = some (.cells (brow (List.replicate 32 0)) 47 (0, 0)) := (hb7.block _ hw6s).trans hz6.out
  have H7 := Lib.hid (H6.out.trans (hb7.mono (by omega)))
  clear hb7
  go_wp2_with (refine wpList_store_row rfl 47 (.tmp 4) (.tmp 13) rfl w.heap.size (brow (sha (T ++ l))) rfl rfl 47 (brow (List.replicate 32 0)) hz7 (brow_size (sha_length _)) (by simp [brow, sha_length]) (brow_one _) ?_)
  have hz8 := setRow_heap _ _ _ (brow (sha (T ++ l))) _ _ hz7
  have hb8 := below_setRow H7.out (Nat.le_refl _) (brow (sha (T ++ l)))
  refine bodyPost_ret (v := dig (sha (T ++ l))) ?_ rfl ⟨by rw [hTd.out]; rfl, hb8⟩
  exact results_cell_row rfl _ _ w.heap.size 47 (brow (sha (T ++ l))) (0, 0) _ rfl hz8 Tryd.underlying47 rfl (brow_size (sha_length _))

end Go.Proofs.YtjhecmmbpmpmgaaDoor
