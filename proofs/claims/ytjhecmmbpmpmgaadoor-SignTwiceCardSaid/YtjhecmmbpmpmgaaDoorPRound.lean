/- Plain: decoding undoes encoding, and what is decoded is an encoding. -/
import Derived.Test.YtjhecmmbpmpmgaaDoorPRead
namespace Go.Proofs.YtjhecmmbpmpmgaaDoor
open Go.RowKit

theorem rn_num : ∀ (f u k m : Nat) (r : List UInt8), (k = 0 ∨ u ≠ 0) → k ≤ 9 → u < 128 ^ (f + 1) → u * 128 ^ k < 18446744073709551616 → rn k m (numF f u ++ r) = some (m + u * 128 ^ k, r) := by
  have base : ∀ (u k m : Nat) (r : List UInt8), (k = 0 ∨ u ≠ 0) → k ≤ 9 → u < 128 → u * 128 ^ k < 18446744073709551616 → rn k m ([UInt8.ofNat u] ++ r) = some (m + u * 128 ^ k, r) := by
    intro u k m r h0 hk hu h64
    have ht : (UInt8.ofNat u).toNat = u := by rw [UInt8.toNat_ofNat']; omega
    rw [List.singleton_append, rn, ht, if_pos, if_pos hu, Nat.mod_eq_of_lt hu]
    refine ⟨h0, ?_⟩
    by_cases h9 : k < 9
    · exact .inl h9
    · have : k = 9 := by omega
      subst this
      rw [show (128 : Nat) ^ 9 = 9223372036854775808 from by decide] at h64
      exact .inr (by omega)
  intro f
  induction f with
  | zero => intro u k m r h0 hk hu h64; exact base u k m r h0 hk (by simpa using hu) h64
  | succ f ih =>
    intro u k m r h0 hk hu h64
    rw [numF]
    split
    · rename_i hlt; exact base u k m r h0 hk hlt h64
    · rename_i hge
      have ht : (UInt8.ofNat (u % 128 + 128)).toNat = u % 128 + 128 := by rw [UInt8.toNat_ofNat']; omega
      have hk9 : k < 9 := by
        by_cases h9 : k < 9
        · exact h9
        · have : k = 9 := by omega
          subst this
          rw [show (128 : Nat) ^ 9 = 9223372036854775808 from by decide] at h64
          omega
      have e1 : u / 128 * 128 ^ (k + 1) ≤ u * 128 ^ k := by
        rw [Nat.pow_succ, Nat.mul_comm (128 ^ k) 128, ← Nat.mul_assoc]
        exact Nat.mul_le_mul_right _ (by omega)
      have e2 : m + u % 128 * 128 ^ k + u / 128 * 128 ^ (k + 1) = m + u * 128 ^ k := by
        rw [Nat.pow_succ, Nat.mul_comm (128 ^ k) 128, ← Nat.mul_assoc, Nat.add_assoc, ← Nat.add_mul]
        congr 2; omega
      rw [List.cons_append, rn, ht, if_pos ⟨.inr (by omega), .inl hk9⟩, if_neg (by omega), show (u % 128 + 128) % 128 = u % 128 from by omega,
        ih (u / 128) (k + 1) _ r (.inr (by omega)) (by omega) (by rw [Nat.div_lt_iff_lt_mul (by omega)]; rw [Nat.pow_succ] at hu; exact hu) (by omega), e2]

theorem rn0_num (u : Nat) (r : List UInt8) (h : u < 18446744073709551616) : rn 0 0 (num u ++ r) = some (u, r) := by
  have := rn_num 9 u 0 0 r (.inl rfl) (by omega) (by rw [show (128 : Nat) ^ (9 + 1) = 1180591620717411303424 from by decide]; omega) (by simpa using h)
  simpa [num] using this

theorem rlen_num (n : Nat) (r : List UInt8) (h : n < 18446744073709551616) (hn : n ≤ r.length) : rlen (num n ++ r) = some (n, r) := by
  unfold rlen; rw [rn0_num n r h]; simp only; rw [if_pos hn]

theorem rn_inv : ∀ (l : List UInt8) (k m v : Nat) (r : List UInt8), k ≤ 9 → rn k m l = some (v, r) → ∃ u, v = m + u * 128 ^ k ∧ (k = 0 ∨ u ≠ 0) ∧ l = numF (9 - k) u ++ r
  | [], k, m, v, r, _, h => by simp [rn] at h
  | c :: l, k, m, v, r, hk, h => by
    rw [rn] at h
    have hc256 : c.toNat < 256 := c.toNat_lt
    split at h
    · rename_i hc
      split at h
      · rename_i hlt
        simp at h
        refine ⟨c.toNat, by rw [← h.1, Nat.mod_eq_of_lt hlt], hc.1, ?_⟩
        rw [numF_lt _ _ hlt, h.2]; simp
      · rename_i hge
        have hk9 : k < 9 := by rcases hc.2 with h | h <;> omega
        obtain ⟨u, hv, hu, hl⟩ := rn_inv l (k + 1) _ v r (by omega) h
        have hu' : u ≠ 0 := by rcases hu with h | h <;> omega
        refine ⟨c.toNat % 128 + 128 * u, ?_, .inr (by omega), ?_⟩
        · rw [hv, Nat.pow_succ, Nat.add_mul, Nat.mul_comm (128 ^ k) 128, ← Nat.mul_assoc, Nat.mul_comm u 128, Nat.add_assoc]
        · rw [show 9 - k = (9 - (k + 1)) + 1 from by omega, numF, if_neg (by omega), show (c.toNat % 128 + 128 * u) / 128 = u from by omega, show (c.toNat % 128 + 128 * u) % 128 + 128 = c.toNat from by omega, UInt8.ofNat_toNat, List.cons_append, ← hl]
    · simp at h

theorem rn0_inv {l r : List UInt8} {v : Nat} (h : rn 0 0 l = some (v, r)) : l = num v ++ r := by
  obtain ⟨u, hv, _, hl⟩ := rn_inv l 0 0 v r (by omega) h
  have : v = u := by simpa using hv
  subst this; exact hl

theorem rlen_inv {l r : List UInt8} {n : Nat} (h : rlen l = some (n, r)) : l = num n ++ r ∧ n ≤ r.length := by
  refine ⟨?_, (rlen_len h).2⟩
  unfold rlen at h
  cases hx : rn 0 0 l with
  | none => simp [hx] at h
  | some y =>
    obtain ⟨u, r'⟩ := y
    simp only [hx] at h
    split at h
    · simp at h; obtain ⟨rfl, rfl⟩ := h; exact rn0_inv hx
    · simp at h

mutual
/-- numbers and sizes that Go can hold -/
def V.good : V → Prop
  | .mk _ n s l => Ok n ∧ s.size ≤ 9223372036854775807 ∧ l.length ≤ 9223372036854775807 ∧ goodL l
def goodL : List V → Prop
  | [] => True
  | x :: l => x.good ∧ goodL l
end

theorem goodL_iff : ∀ (l : List V), goodL l ↔ ∀ i (h : i < l.length), l[i].good
  | [] => by simp [goodL]
  | x :: l => by
    rw [goodL, goodL_iff l]
    constructor
    · rintro ⟨h1, h2⟩ i hi
      cases i with
      | zero => exact h1
      | succ i => exact h2 i (by simpa using hi)
    · intro h
      exact ⟨h 0 (by simp), fun i hi => h (i + 1) (by simpa using hi)⟩

theorem Rd.good {w : World} {S : Nat → Prop} {x : V} {v : Value} (h : Rd w S x v) : x.good := by
  induction h with
  | mk vs hk hn hs hl hc ha hcells hrec ih => rw [V.good]; exact ⟨hn, hs, by omega, (goodL_iff _).2 ih⟩

theorem unsg_lt (n : Int) (h : Ok n) : 0 ≤ unsg n ∧ unsg n < 18446744073709551616 := by
  unfold Ok at h; unfold unsg; split <;> omega

theorem enc_pos' (x : V) : 1 ≤ x.enc.length := by
  obtain ⟨k, n, s, l⟩ := x
  rw [V.enc]; split
  · simp
  · split <;> simp

theorem encL_len : ∀ (l : List V), l.length ≤ (encL l).length
  | [] => by simp
  | x :: l => by have := encL_len l; have := enc_pos' x; simp [encL]; omega

theorem ba_empty : ∀ {s : ByteArray}, s.size = 0 → s = ByteArray.empty := by
  intro s h
  cases s with
  | mk a => have : a = #[] := Array.eq_empty_of_size_eq_zero h
            subst this; rfl
theorem ba_len : ∀ (s : ByteArray), s.data.toList.length = s.size := fun _ => rfl
theorem fmFrom_ge : ∀ (l : List V) (a e : Nat), fmFrom a l = some e → a ≤ e
  | [], a, e, h => by simp [fmFrom] at h; omega
  | x :: l, a, e, h => by
    rw [fmFrom] at h
    cases hx : x.fm with
    | none => simp [hx] at h
    | some e1 => simp only [hx] at h; have := fmFrom_ge l _ _ h; omega

mutual
theorem dec_enc : ∀ (x : V) (d e : Nat) (r : List UInt8), x.fm = some e → e ≤ d → x.good → dec d (x.enc ++ r) = some (x, r)
  | .mk k n s l, d, e, r, hf, he, hg => by
    rw [V.good] at hg
    obtain ⟨hn, hs, hl, hgl⟩ := hg
    rcases fm_kind (by rw [hf]; simp) with ⟨rfl, h2, rfl⟩ | ⟨rfl, rfl, rfl⟩ | ⟨rfl, rfl, h0, h4⟩
    · have hu := unsg_lt n hn
      rw [V.enc, if_pos rfl, List.cons_append, dec_1 _ _ _ (by rfl), rn0_num _ _ (by omega)]
      simp only [Option.map_some]
      rw [Int.toNat_of_nonneg hu.1, sgn_unsg, ba_empty h2]
    · rw [V.enc, if_neg (by decide), if_pos rfl, List.cons_append, dec_2 _ _ _ (by rfl), List.append_assoc, rlen_num _ _ (by omega) (by simp)]
      simp only [Option.map_some]
      rw [List.take_left' (by rfl), List.drop_left' (by rfl)]
      rfl
    · rw [V.fm, if_neg (by decide), if_neg (by decide), if_pos rfl, if_pos ⟨rfl, h0⟩] at hf
      cases hf' : fmFrom 0 l with
      | none => exact absurd hf' h4
      | some e' =>
        rw [hf'] at hf
        simp at hf
        obtain ⟨d, rfl⟩ : ∃ d', d = d' + 1 := ⟨d - 1, by omega⟩
        have hll := encL_len l
        rw [V.enc, if_neg (by decide), if_neg (by decide), List.cons_append, dec_3 _ _ _ (by rfl), List.append_assoc, rlen_num _ _ (by omega) (by simp; omega)]
        simp only [Option.bind_some]
        rw [decS_enc l d 0 e' r hf' (by omega) hgl, ba_empty h0]
        rfl
theorem decS_enc : ∀ (l : List V) (d a e : Nat) (r : List UInt8), fmFrom a l = some e → e ≤ d → goodL l → decS (dec d) l.length (encL l ++ r) = some (l, r)
  | [], d, a, e, r, _, _, _ => by simp [decS, encL]
  | x :: l, d, a, e, r, hf, he, hg => by
    rw [goodL] at hg
    rw [fmFrom] at hf
    cases hx : x.fm with
    | none => simp [hx] at hf
    | some e1 =>
      simp only [hx] at hf
      have hle := fmFrom_ge l _ _ hf
      rw [List.length_cons, decS_step, encL, List.append_assoc, dec_enc x d e1 (encL l ++ r) hx (by omega) hg.1]
      simp only [Option.bind_some]
      rw [decS_enc l d _ e r hf he hg.2]
      rfl
end

theorem fmFrom_all (d : Nat) : ∀ (l : List V) (a : Nat), (∀ x ∈ l, ∃ e, x.fm = some e ∧ e ≤ d) → a ≤ d → ∃ e, fmFrom a l = some e ∧ e ≤ d
  | [], a, _, ha => ⟨a, rfl, ha⟩
  | x :: l, a, h, ha => by
    obtain ⟨e, he, hd⟩ := h x (by simp)
    rw [fmFrom, he]
    exact fmFrom_all d l _ (fun y hy => h y (by simp [hy])) (by omega)

theorem decS_inv {f : List UInt8 → Option (V × List UInt8)} {P : V → Prop} (hf : ∀ l x r, f l = some (x, r) → l = x.enc ++ r ∧ P x) : ∀ (n : Nat) (l : List UInt8) (xs : List V) (r : List UInt8), decS f n l = some (xs, r) → l = encL xs ++ r ∧ xs.length = n ∧ ∀ x ∈ xs, P x
  | 0, l, xs, r, h => by simp [decS] at h; obtain ⟨rfl, rfl⟩ := h; simp [encL]
  | n + 1, l, xs, r, h => by
    rw [decS] at h
    cases hx : f l with
    | none => simp [hx] at h
    | some y =>
      obtain ⟨x, r1⟩ := y
      simp only [hx] at h
      cases hy : decS f n r1 with
      | none => simp [hy] at h
      | some z =>
        obtain ⟨ys, r2⟩ := z
        simp only [hy] at h
        simp at h
        obtain ⟨rfl, rfl⟩ := h
        obtain ⟨h1, h2⟩ := hf l x r1 hx
        obtain ⟨h3, h4, h5⟩ := decS_inv hf n r1 ys r2 hy
        refine ⟨by rw [encL, List.append_assoc, ← h3, ← h1], by simp [h4], fun z hz => ?_⟩
        rcases List.mem_cons.1 hz with rfl | hz
        · exact h2
        · exact h5 z hz

theorem strOf_size (l : List UInt8) : (strOf l).size = l.length := by show l.toArray.size = _; simp
theorem strOf_list (l : List UInt8) : (strOf l).data.toList = l := rfl

theorem enc_dec_num {u : Nat} {r r' : List UInt8} (h : rn 0 0 r = some (u, r')) : 1 :: r = (V.mk 1 (sgn u) ByteArray.empty []).enc ++ r' := by
  rw [V.enc, if_pos rfl, unsg_sgn _ (by omega), Int.toNat_natCast, rn0_inv h]; rfl
theorem enc_dec_txt {n : Nat} {r r' : List UInt8} (h : rlen r = some (n, r')) : 2 :: r = (V.mk 2 0 (strOf (r'.take n)) []).enc ++ r'.drop n := by
  obtain ⟨h1, h2⟩ := rlen_inv h
  rw [V.enc, if_neg (by decide), if_pos rfl, strOf_size, strOf_list, List.length_take, Nat.min_eq_left h2, List.cons_append, List.append_assoc, List.take_append_drop, h1]

def Canon (d : Nat) (x : V) : Prop := ∃ e, x.fm = some e ∧ e ≤ d

theorem byte_eq {c : UInt8} {n : Nat} (h : c.toNat = n) : c = UInt8.ofNat n := by rw [← h]; simp

theorem canon_1 (n : Int) (d : Nat) : Canon d (.mk 1 n ByteArray.empty []) := ⟨0, by rw [V.fm, if_pos rfl, if_pos ⟨rfl, rfl⟩], by omega⟩
theorem canon_2 (s : ByteArray) (d : Nat) : Canon d (.mk 2 0 s []) := ⟨0, by rw [V.fm, if_neg (by decide), if_pos rfl, if_pos ⟨rfl, rfl⟩], by omega⟩

theorem enc_dec : ∀ (d : Nat) (l : List UInt8) (x : V) (r : List UInt8), dec d l = some (x, r) → l = x.enc ++ r ∧ Canon d x := by
  intro d
  induction d with
  | zero =>
    intro l x r h
    cases l with
    | nil => simp [dec] at h
    | cons c l =>
      simp only [dec] at h
      split at h
      · rename_i hc
        cases hx : rn 0 0 l with
        | none => simp [hx] at h
        | some y => obtain ⟨u, r'⟩ := y; simp [hx] at h; obtain ⟨rfl, rfl⟩ := h; rw [byte_eq hc]; exact ⟨enc_dec_num hx, canon_1 _ _⟩
      · split at h
        · rename_i hc
          cases hx : rlen l with
          | none => simp [hx] at h
          | some y => obtain ⟨u, r'⟩ := y; simp [hx] at h; obtain ⟨rfl, rfl⟩ := h; rw [byte_eq hc]; exact ⟨enc_dec_txt hx, canon_2 _ _⟩
        · simp at h
  | succ d ih =>
    intro l x r h
    cases l with
    | nil => simp [dec] at h
    | cons c l =>
      simp only [dec] at h
      split at h
      · rename_i hc
        cases hx : rn 0 0 l with
        | none => simp [hx] at h
        | some y => obtain ⟨u, r'⟩ := y; simp [hx] at h; obtain ⟨rfl, rfl⟩ := h; rw [byte_eq hc]; exact ⟨enc_dec_num hx, canon_1 _ _⟩
      · split at h
        · rename_i hc
          cases hx : rlen l with
          | none => simp [hx] at h
          | some y => obtain ⟨u, r'⟩ := y; simp [hx] at h; obtain ⟨rfl, rfl⟩ := h; rw [byte_eq hc]; exact ⟨enc_dec_txt hx, canon_2 _ _⟩
        · split at h
          · rename_i hc
            cases hx : rlen l with
            | none => simp [hx] at h
            | some y =>
              obtain ⟨u, r'⟩ := y
              simp only [hx, Option.bind_some] at h
              cases hy : decS (dec d) u r' with
              | none => simp [hy] at h
              | some z =>
                obtain ⟨ys, r2⟩ := z
                simp [hy] at h
                obtain ⟨rfl, rfl⟩ := h
                obtain ⟨h1, h2⟩ := rlen_inv hx
                obtain ⟨h3, h4, h5⟩ := decS_inv ih u r' ys r2 hy
                obtain ⟨e, he, hd⟩ := fmFrom_all d ys 0 h5 (by omega)
                refine ⟨?_, e + 1, ?_, by omega⟩
                · rw [byte_eq hc, V.enc, if_neg (by decide), if_neg (by decide), h4, List.cons_append, List.append_assoc, ← h3, ← h1]; rfl
                · rw [V.fm, if_neg (by decide), if_neg (by decide), if_pos rfl, if_pos ⟨rfl, rfl⟩, he]; rfl
          · simp at h

/-- what Decode comes to -/
def decode (l : List UInt8) : Option V := match dec 16 l with | some (x, []) => some x | _ => none

/-- what Check returns -/
def ckOf (x : Option Nat) : Int := match x with | none => 1 | some d => if d > 16 then 2 else 0
theorem ckOf_none : ckOf none = 1 := rfl
theorem ckOf_zero {x : V} : ckOf x.fm = 0 ↔ Canon 16 x := by
  unfold ckOf Canon
  cases x.fm with
  | none => simp
  | some d => simp

theorem decode_enc {x : V} (hk : ckOf x.fm = 0) (hg : x.good) : decode x.enc = some x := by
  obtain ⟨e, he, hd⟩ := ckOf_zero.1 hk
  unfold decode
  have := dec_enc x 16 e [] he hd hg
  rw [List.append_nil] at this
  rw [this]

theorem decode_some {l : List UInt8} {x : V} (h : decode l = some x) : x.enc = l ∧ ckOf x.fm = 0 := by
  unfold decode at h
  split at h
  · rename_i y hy
    injection h with h; subst h
    obtain ⟨h1, h2⟩ := enc_dec _ _ _ _ hy
    exact ⟨by rw [h1, List.append_nil], ckOf_zero.2 h2⟩
  · cases h

theorem enc_inj {x y : V} {r r' : List UInt8} (hx : ckOf x.fm = 0) (hy : ckOf y.fm = 0) (gx : x.good) (gy : y.good) (h : x.enc ++ r = y.enc ++ r') : x = y := by
  obtain ⟨e, he, hd⟩ := ckOf_zero.1 hx
  obtain ⟨e', he', hd'⟩ := ckOf_zero.1 hy
  have h1 := dec_enc x 16 e r he hd gx
  have h2 := dec_enc y 16 e' r' he' hd' gy
  rw [h, h2] at h1
  injection h1 with h1; injection h1 with h1; exact h1.symm

/-- no encoding is the beginning of another one -/
theorem enc_prefix {x y : V} (hx : ckOf x.fm = 0) (hy : ckOf y.fm = 0) (gx : x.good) (gy : y.good) (n : Nat) (hn : n = min x.enc.length y.enc.length) (h : x.enc.take n = y.enc.take n) : x = y := by
  by_cases hle : x.enc.length ≤ y.enc.length
  · rw [hn, Nat.min_eq_left hle, List.take_length] at h
    refine enc_inj (r := y.enc.drop x.enc.length) (r' := []) hx hy gx gy ?_
    rw [List.append_nil]
    conv => lhs; lhs; rw [h]
    exact List.take_append_drop _ _
  · rw [hn, Nat.min_eq_right (by omega), List.take_length] at h
    refine enc_inj (r := []) (r' := x.enc.drop y.enc.length) hx hy gx gy ?_
    rw [List.append_nil]
    conv => rhs; lhs; rw [← h]
    exact (List.take_append_drop _ _).symm

theorem numF_mono : ∀ (f u v : Nat), u ≤ v → (numF f u).length ≤ (numF f v).length
  | 0, u, v, _ => by simp [numF]
  | f + 1, u, v, h => by
    rw [numF, numF]
    by_cases hv : v < 128
    · rw [if_pos (by omega), if_pos hv]; simp
    · rw [if_neg hv]
      split
      · simp
      · have := numF_mono f (u / 128) (v / 128) (Nat.div_le_div_right h)
        simpa using this

theorem num_mono {u v : Nat} (h : u ≤ v) : (num u).length ≤ (num v).length := numF_mono 9 u v h

theorem num_pos' (u : Nat) : 0 < (num u).length := by
  unfold num; rw [numF]; split <;> simp

theorem enc_int (n : Int) : (V.mk 1 n ByteArray.empty []).enc = 1 :: num (unsg n).toNat := by rw [V.enc, if_pos rfl]
theorem ck_int (n : Int) : ckOf (V.mk 1 n ByteArray.empty []).fm = 0 := ckOf_zero.2 (canon_1 n 16)

theorem size_int_mono {a b : Int} (h : 0 ≤ a ∧ a ≤ b ∨ a < 0 ∧ b ≤ a) : (num (unsg a).toNat).length ≤ (num (unsg b).toNat).length := by
  refine num_mono ?_
  unfold unsg
  rcases h with h | h
  · rw [if_pos h.1, if_pos (by omega)]; omega
  · rw [if_neg (by omega), if_neg (by omega)]; omega

end Go.Proofs.YtjhecmmbpmpmgaaDoor
