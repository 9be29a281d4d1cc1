/- group's Mul, least, Hash by their contracts. -/
import Derived.Test.YtjhecmmbpmpmgaaDoorDGrp
import Derived.Test.YtjhecmmbpmpmgaaDoorDShaF
namespace Go.Proofs.YtjhecmmbpmpmgaaDoor
open Go.RowKit Go.Lib

/-- a product in the group -/
def gmul (a b : Int) : Int := a * b % 2147483579

theorem valid_range {x : Int} (h : valid x = true) : 1 ≤ x ∧ x < 2147483579 := ⟨((valid_iff x).1 h).1, ((valid_iff x).1 h).2.1⟩

theorem mul_bound {a b : Int} (ha : 0 ≤ a ∧ a < 2147483579) (hb : 0 ≤ b ∧ b < 2147483579) : 0 ≤ a * b ∧ a * b ≤ 4611685756639249241 := by
  refine ⟨Int.mul_nonneg ha.1 hb.1, ?_⟩
  have h1 : a * b ≤ 2147483578 * b := Int.mul_le_mul_of_nonneg_right (by omega) hb.1
  omega

set_option maxRecDepth 100000 in
set_option maxHeartbeats 800000 in
theorem mul_any (a b : Int) (w : World) : Calls Tryd.prog 53 #[.int .i64 a, .int .i64 b] w fun e w' => e = .returned (if valid a && valid b then .tuple #[.int .i64 (gmul a b), .int .i64 0] else .tuple #[.int .i64 0, .int .i64 100]) ∧ w' = w := by
  cases ha : valid a
  · have HA := Lib.hid ha
    have hc := Lib.hid (valid_any a w)
    rw [ha] at hc
    clear ha
    go_enter Tryd.func53, Tryd.ntmps53
    go_wp2_with (go_at_call 19; refine hc.out.mono ?_; rintro e w' ⟨rfl, rfl⟩)
    go_ret2
    exact ⟨rfl, rfl⟩
  · cases hb : valid b
    · have hc := Lib.hid (valid_any a w)
      have hd := Lib.hid (valid_any b w)
      rw [ha] at hc
      rw [hb] at hd
      clear ha hb
      go_enter Tryd.func53, Tryd.ntmps53
      go_wp2_with (go_at_call 19; first | (refine hc.out.mono ?_; clear hc; rintro e w' ⟨rfl, rfl⟩) | (refine hd.out.mono ?_; rintro e w' ⟨rfl, rfl⟩))
      go_ret2
      exact ⟨rfl, rfl⟩
    · have hbd := mul_bound (show 0 ≤ a ∧ a < 2147483579 from by have := valid_range ha; omega) (show 0 ≤ b ∧ b < 2147483579 from by have := valid_range hb; omega)
      have hc := Lib.hid (valid_any a w)
      have hd := Lib.hid (valid_any b w)
      rw [ha] at hc
      rw [hb] at hd
      obtain ⟨z, hz⟩ : ∃ z, z = a * b := ⟨_, rfl⟩
      rw [← hz] at hbd
      have hw : IntKind.i64.wrap (a * b) = z := by rw [← hz]; exact IntWalk.i64_in _ (by omega)
      have HZ := Lib.hid hz
      clear ha hb hz
      go_enter Tryd.func53, Tryd.ntmps53
      go_wp2_with (go_at_call 19; first | (refine hc.out.mono ?_; clear hc; rintro e w' ⟨rfl, rfl⟩) | (refine hd.out.mono ?_; rintro e w' ⟨rfl, rfl⟩))
      go_ret2
      exact ⟨by rw [gmul, ← HZ.out]; rfl, rfl⟩

/-- an exponent, made small -/
def ex (x : Int) : Int := x % 1073741789

set_option maxRecDepth 100000 in
set_option maxHeartbeats 800000 in
theorem least_any (w : World) (B : Nat) (x : Int) (_hx : -9223372036854775808 ≤ x ∧ x ≤ 9223372036854775807) (hc : w.cell? ⟨B, 0, none⟩ = some (.int .i64 x)) :
    Calls Tryd.prog 57 #[.slice (some ⟨B, 0, none⟩) 1 1] w fun e w' => e = .returned (.int .i64 (ex x)) ∧ w' = w := by
  have hr1 := Int.tmod_lt_of_pos x (show (0 : Int) < 1073741789 by omega)
  have hr2 : -1073741789 < x.tmod 1073741789 := by
    have := Int.lt_tmod_of_pos x (show (0 : Int) < 1073741789 by omega)
    omega
  have hex : (x.tmod 1073741789 + 1073741789) % 1073741789 = ex x := by
    unfold ex
    have := Int.mul_tdiv_add_tmod x 1073741789
    omega
  obtain ⟨r, hr⟩ : ∃ r, x.tmod 1073741789 = r := ⟨_, rfl⟩
  rw [hr] at hr1 hr2 hex
  have HEX := Lib.hid hex
  clear hex
  go_enter Tryd.func57, Tryd.ntmps57
  go_wp2_with fail
  go_loop [3, 8] (fun n i => (i = .int .i64 0 ∧ n = .int .i64 1) ∨ (i = .int .i64 1 ∧ n = .int .i64 (ex x))) (fun _ i => 1 - (intOf i).toNat)
  case atStart => exact .inl ⟨rfl, rfl⟩
  case round =>
    rcases hrel with ⟨rfl, rfl⟩ | ⟨rfl, rfl⟩
    · go_wp2_with fail
      exact ⟨.inr ⟨rfl, by rw [HEX.out]⟩, by simp [intOf]⟩
    · go_wp2_with fail
      go_ret
      exact ⟨rfl, rfl⟩

theorem i64_or_byte (n c : Nat) (hn : n < 36028797018963968) (hc : c < 256) : bits .or .i64 ((n : Int) * 256) (c : Int) = ((n * 256 + c : Nat) : Int) := by
  have e1 : (n : Int) * 256 = ((n * 256 : Nat) : Int) := by simp
  have hor := or_shift n c 8 (by simpa using hc) 256 (by simp)
  rw [e1]
  show IntKind.i64.wrap ((BitVec.ofInt 64 ((n * 256 : Nat) : Int) ||| BitVec.ofInt 64 (c : Int)).toNat : Int) = _
  rw [BitVec.toNat_or, ofInt_u64 _ (by omega), ofInt_u64 _ (by omega), hor, IntKind.wrap_i64]
  omega

theorem i64_and_one (n : Nat) (hn : n < 9223372036854775808) : bits .and .i64 (n : Int) 1 = ((n % 2 : Nat) : Int) := by
  show IntKind.i64.wrap ((BitVec.ofInt 64 (n : Int) &&& BitVec.ofInt 64 ((1 : Nat) : Int)).toNat : Int) = _
  rw [BitVec.toNat_and, ofInt_u64 _ (by omega), ofInt_u64 _ (by omega), Nat.and_one_is_mod, IntKind.wrap_i64]
  omega

/-- a digest's first bytes, its first bit struck -/
def struck (d : List UInt8) : List UInt8 := d.set 0 (d.headD 0 &&& 127)
/-- a number from a hash -/
def hashn (t : ByteArray) (l : List UInt8) : Nat := wpart (struck (tagged t l)) 8 % 1073741789

theorem struck_length (d : List UInt8) : (struck d).length = d.length := by simp [struck]

theorem wpart_small {l : List UInt8} (h0 : 0 < l.length) (h : l[0].toNat < 128) : ∀ k, wpart l (k + 1) < 128 * 256 ^ k := by
  intro k
  induction k with
  | zero =>
    rw [wpart_succ l 0 h0]
    simp [wpart]; exact h
  | succ k ih =>
    by_cases hk : k + 1 < l.length
    · rw [wpart_succ l (k + 1) hk, Nat.pow_succ]
      have := l[k + 1].toNat_lt
      omega
    · have : wpart l (k + 1 + 1) = wpart l (k + 1) := by unfold wpart; rw [List.take_of_length_le (by omega), List.take_of_length_le (by omega)]
      rw [this, Nat.pow_succ]; omega

theorem dig_head {w : World} {V : Nat} {T : List UInt8} {t : TypeId} {fr : Nat × Nat} (h : w.heap[V]? = some (.cells (brow T) t fr)) (hT : T.length = 32) : w.cell? ⟨V, 0, none⟩ = some (.int .u8 ((T.headD 0).toNat : Int)) := by
  match T, hT with
  | a :: l, _ => simp [World.cell?, h, brow, bv]

theorem struck_row (T : List UInt8) : (brow T).setIfInBounds 0 (.int .u8 (bits .and .u8 ((T.headD 0).toNat : Int) 127)) = brow (struck T) := by
  have e : Value.int .u8 (bits .and .u8 ((T.headD 0).toNat : Int) 127) = bv (T.headD 0 &&& 127) := by
    rw [bv]
    congr 1
    have := u8_and_nat (T.headD 0).toNat 127 (T.headD 0).toNat_lt (by omega)
    rw [UInt8.toNat_and]
    exact this
  rw [e, brow, struck, brow, List.setIfInBounds_toArray, List.map_set]

set_option maxRecDepth 100000 in
set_option maxHeartbeats 1600000 in
theorem hash_any (w : World) (t : ByteArray) (ht : t.size ≤ 1000000) (l : List UInt8) (b off cap : Nat) (hl0 : 0 < l.length) (hl : l.length ≤ 100000000) (hA : At w l b off) (hT : Tabs w) :
    Calls Tryd.prog 22 #[.string t, .slice (some ⟨b, off, none⟩) l.length cap] w fun e w' => e = .returned (.int .i64 (hashn t l)) ∧ Below w.heap.size w w' := by
  have hcall := Lib.hid (tagged_any w t ht l b off cap hl0 hl hA hT)
  obtain ⟨n, hn⟩ : ∃ n, Hid (n = l.length) := ⟨_, Lib.hid rfl⟩
  rw [← hn.out] at hcall ⊢
  clear hA hT
  go_enter Tryd.func22, Tryd.ntmps22
  go_wp2_with fail
  refine hcall.out.mono ?_
  rintro e w1 ⟨rfl, hb1⟩
  obtain ⟨T, hTd⟩ : ∃ T, Hid (T = tagged t l) := ⟨_, Lib.hid rfl⟩
  rw [← hTd.out]
  have hTl : T.length = 32 := by rw [hTd.out]; rfl
  have hA5 : (w1.alloc (.cells zrow 47)).heap[w1.heap.size]? = some (.cells zrow 47 (0, 0)) := heap_alloc_new _ _
  have hs1 := hb1.size
  obtain ⟨H, hH⟩ : ∃ H : UInt8, Hid (H = T.headD 0) := ⟨_, Lib.hid rfl⟩
  have HB1 := Lib.hid hb1
  clear hb1
  go_wp2_with (refine wpList_store_row rfl 47 (.tmp 5) (.tmp 9) rfl w1.heap.size (brow T) rfl rfl 47 zrow hA5 (brow_size hTl) (by simp [brow, hTl, zrow]) (brow_one T) ?_; rw [World.setRow_alloc_new]; have hrow2 : (w1.alloc (.cells (brow T) 47)).heap[w1.heap.size]? = some (.cells (brow T) 47 (0, 0)) := heap_alloc_new _ _; have hb2 : Below w.heap.size w (w1.alloc (.cells (brow T) 47)) := HB1.out.alloc hs1 _; generalize w1.alloc (.cells (brow T) 47) = w2 at *; have c0 : w2.cell? ⟨w1.heap.size, 0, none⟩ = some (.int .u8 (H.toNat : Int)) := (by rw [hH.out]; exact dig_head hrow2 hTl); have f0 : w2.frozen? ⟨w1.heap.size, 0, none⟩ = false := frozen_at hrow2; have HR2 := Lib.hid hrow2; have HB2 := Lib.hid hb2; clear hrow2 hb2)
  have hrow3 : (w2.setCell ⟨w1.heap.size, 0, none⟩ (.int .u8 (bits .and .u8 (H.toNat : Int) 127))).heap[w1.heap.size]? = some (.cells (brow (struck T)) 47 (0, 0)) := by
    rw [d_setCell_heap HR2.out]
    rw [hH.out, struck_row T]
  have hb3 : Below w.heap.size w (w2.setCell ⟨w1.heap.size, 0, none⟩ (.int .u8 (bits .and .u8 (H.toNat : Int) 127))) := HB2.out.setCell hs1 _
  generalize w2.setCell ⟨w1.heap.size, 0, none⟩ (.int .u8 (bits .and .u8 (H.toNat : Int) 127)) = w3 at *
  obtain ⟨U, hU⟩ : ∃ U, Hid (U = struck T) := ⟨_, Lib.hid rfl⟩
  rw [← hU.out] at hrow3
  have hUl : U.length = 32 := by rw [hU.out, struck_length, hTl]
  have hU0 : (U[0]'(by omega)).toNat < 128 := by
    have hh := hU.out
    subst hh
    simp only [struck, List.getElem_set_self]
    rw [UInt8.toNat_and]
    exact Nat.lt_of_le_of_lt Nat.and_le_right (by decide)
  have HR3 := Lib.hid hrow3
  have HB3 := Lib.hid hb3
  have HRES : Hid (((wpart U 8 % 1073741789 : Nat) : Int) = (hashn t l : Nat)) := Lib.hid (by rw [hU.out, hTd.out]; rfl)
  clear hrow3 hb3 hA5
  go_loop [4, 14] (fun n i => ∃ k : Nat, k ≤ 8 ∧ i = .int .i64 k ∧ n = .int .i64 (wpart U k)) (fun _ i => 8 - (intOf i).toNat)
  case atStart => exact ⟨0, by omega, rfl, rfl⟩
  case round =>
    obtain ⟨k, hk, rfl, rfl⟩ := hrel
    by_cases hlt : k < 8
    · have hcell : w3.cell? ⟨w1.heap.size, k, none⟩ = some (.int .u8 (((U[k]'(by omega)).toNat : Nat) : Int)) := by
        have := HR3.out
        simp [World.cell?, this, brow, bv, show k < U.length by omega]
      have HS := Lib.hid (wpart_succ U k (by omega))
      have hb : (U[k]'(by omega)).toNat < 256 := UInt8.toNat_lt _
      have hw : wpart U k < 36028797018963968 := by
        rcases Nat.eq_zero_or_pos k with h0 | h0
        · subst h0; simp [wpart]
        · obtain ⟨j, rfl⟩ : ∃ j, k = j + 1 := ⟨k - 1, by omega⟩
          have h1 := wpart_small (by omega) hU0 j
          have h2 : 256 ^ j ≤ 256 ^ 6 := Nat.pow_le_pow_right (by omega) (by omega)
          have h3 : 128 * 256 ^ 6 = 36028797018963968 := by decide
          omega
      have HO := Lib.hid (i64_or_byte (wpart U k) (U[k]'(by omega)).toNat hw hb)
      obtain ⟨c, hc⟩ : ∃ c, Hid (c = (U[k]'(by omega)).toNat) := ⟨_, Lib.hid rfl⟩
      obtain ⟨m, hm⟩ : ∃ m, Hid (m = wpart U k) := ⟨_, Lib.hid rfl⟩
      rw [← hc.out] at hcell hb HS HO
      rw [← hm.out] at hw HS HO ⊢
      go_wp2_with fail
      exact ⟨⟨k + 1, by omega, by go_num, by rw [HS.out, ← HO.out]⟩, by simp [intOf]; omega⟩
    · have : k = 8 := by omega
      subst this
      go_wp2_with fail
      go_ret
      exact ⟨by rw [← HRES.out]; rfl, HB3.out⟩

end Go.Proofs.YtjhecmmbpmpmgaaDoor
