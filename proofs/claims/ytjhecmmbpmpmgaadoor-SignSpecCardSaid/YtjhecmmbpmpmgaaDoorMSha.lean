/- Plain: SHA-256 over natural numbers. No program in sight.
   Plain: laws of the schedule and of the rounds.
   Plain: the hash in the order in which a program takes it: whole blocks first, then one or two more.
   digest's small functions by their contracts: rotations, words.
   digest's rotated, word and put, and the reference's word, by their contracts.
   digest's put by its contract.
   digest's absorb by its contract.
   Bytes in memory (this seat's copy of CBytes: without the functions that the seat lacks).
   digest's Sum by its contract.
   slices.Grow of nil, slices.Concat of two, digest.Tagged by their contracts. -/
import Derived.WalkKit
import Derived.Laws.BitsAllLaws
import Derived.KernelRfl
import Derived.Test.YtjhecmmbpmpmgaaDoorProg
import Derived.WalkSpells
import Derived.WalkLawsBesides
import Derived.Lib.Hide
import Derived.BigQuiet
import Derived.Deep.QuietTactic
import Derived.Test.YtjhecmmbpmpmgaaDoorMPlain
import Derived.IntWalk
import Derived.StillTailTactics
import Derived.Laws.CopyOwn
import Derived.Laws.IdiomStrings
import Derived.WideShapes
import Derived.Laws.BytesArg
import Derived.ProofKit
import Derived.OpenShut
import Derived.Laws.Rows
import Derived.Laws.Tables
import Derived.Lib.AppendZeros
import Derived.Deep.WholeRow
namespace Go.Proofs.YtjhecmmbpmpmgaaDoor

def M32 : Nat := 4294967296

/-- rotation to the right -/
def rr (x n : Nat) : Nat := (x / 2 ^ n) ||| (x * 2 ^ (32 - n) % 4294967296)
def sg0 (x : Nat) : Nat := (rr x 7 ^^^ rr x 18) ^^^ x / 8
def sg1 (x : Nat) : Nat := (rr x 17 ^^^ rr x 19) ^^^ x / 1024
def Sg0 (x : Nat) : Nat := (rr x 2 ^^^ rr x 13) ^^^ rr x 22
def Sg1 (x : Nat) : Nat := (rr x 6 ^^^ rr x 11) ^^^ rr x 25
def chF (e f g : Nat) : Nat := g ^^^ (e &&& (f ^^^ g))
def mjF (a b c : Nat) : Nat := (a &&& b) ||| (c &&& (a ||| b))

theorem lor_lt {a b : Nat} (ha : a < 4294967296) (hb : b < 4294967296) : a ||| b < 4294967296 := Nat.or_lt_two_pow (n := 32) ha hb
theorem land_lt {a b : Nat} (ha : a < 4294967296) : a &&& b < 4294967296 := Nat.lt_of_le_of_lt Nat.and_le_left ha
theorem xor_lt {a b : Nat} (ha : a < 4294967296) (hb : b < 4294967296) : a ^^^ b < 4294967296 := Nat.xor_lt_two_pow (n := 32) ha hb

theorem rr_lt {x : Nat} (n : Nat) (h : x < 4294967296) : rr x n < 4294967296 :=
  lor_lt (Nat.lt_of_le_of_lt (Nat.div_le_self _ _) h) (Nat.mod_lt _ (by decide))
theorem sg0_lt {x : Nat} (h : x < 4294967296) : sg0 x < 4294967296 := xor_lt (xor_lt (rr_lt _ h) (rr_lt _ h)) (Nat.lt_of_le_of_lt (Nat.div_le_self _ _) h)
theorem sg1_lt {x : Nat} (h : x < 4294967296) : sg1 x < 4294967296 := xor_lt (xor_lt (rr_lt _ h) (rr_lt _ h)) (Nat.lt_of_le_of_lt (Nat.div_le_self _ _) h)
theorem Sg0_lt {x : Nat} (h : x < 4294967296) : Sg0 x < 4294967296 := xor_lt (xor_lt (rr_lt _ h) (rr_lt _ h)) (rr_lt _ h)
theorem Sg1_lt {x : Nat} (h : x < 4294967296) : Sg1 x < 4294967296 := xor_lt (xor_lt (rr_lt _ h) (rr_lt _ h)) (rr_lt _ h)
theorem chF_lt {e f g : Nat} (he : e < 4294967296) (hg : g < 4294967296) : chF e f g < 4294967296 := xor_lt hg (land_lt he)
theorem mjF_lt {a b c : Nat} (ha : a < 4294967296) (hc : c < 4294967296) : mjF a b c < 4294967296 := lor_lt (land_lt ha) (land_lt hc)

theorem ch_ref {e f g : Nat} (he : e < 4294967296) (hg : g < 4294967296) : (e &&& f) ^^^ ((4294967295 - e) &&& g) = chF e f g := by
  apply Nat.eq_of_testBit_eq
  intro i
  have hn : (4294967295 - e).testBit i = (decide (i < 32) && !e.testBit i) := by
    have := Nat.testBit_two_pow_sub_succ (n := 32) he i
    rwa [show (2 : Nat) ^ 32 - (e + 1) = 4294967295 - e from by rw [show (2 : Nat) ^ 32 = 4294967296 from by decide]; omega] at this
  have hgb : ¬ i < 32 → g.testBit i = false := fun h => Nat.testBit_lt_two_pow (Nat.lt_of_lt_of_le hg (Nat.le_trans (by decide : 4294967296 ≤ 2 ^ 32) (Nat.pow_le_pow_right (by decide) (by omega))))
  unfold chF
  simp only [Nat.testBit_xor, Nat.testBit_and, hn]
  by_cases h : i < 32
  · simp only [h, decide_true, Bool.true_and]
    cases e.testBit i <;> cases f.testBit i <;> cases g.testBit i <;> rfl
  · rw [hgb h]
    cases e.testBit i <;> cases f.testBit i <;> simp [h]

theorem mj_ref (a b c : Nat) : ((a &&& b) ^^^ (a &&& c)) ^^^ (b &&& c) = mjF a b c := by
  apply Nat.eq_of_testBit_eq
  intro i
  unfold mjF
  simp only [Nat.testBit_xor, Nat.testBit_and, Nat.testBit_or]
  cases a.testBit i <;> cases b.testBit i <;> cases c.testBit i <;> rfl

/-- the numbers K -/
def kTab : List Nat := [1116352408, 1899447441, 3049323471, 3921009573, 961987163, 1508970993, 2453635748, 2870763221, 3624381080, 310598401, 607225278, 1426881987, 1925078388, 2162078206, 2614888103, 3248222580,
  3835390401, 4022224774, 264347078, 604807628, 770255983, 1249150122, 1555081692, 1996064986, 2554220882, 2821834349, 2952996808, 3210313671, 3336571891, 3584528711, 113926993, 338241895,
  666307205, 773529912, 1294757372, 1396182291, 1695183700, 1986661051, 2177026350, 2456956037, 2730485921, 2820302411, 3259730800, 3345764771, 3516065817, 3600352804, 4094571909, 275423344,
  430227734, 506948616, 659060556, 883997877, 958139571, 1322822218, 1537002063, 1747873779, 1955562222, 2024104815, 2227730452, 2361852424, 2428436474, 2756734187, 3204031479, 3329325298]

/-- the next word of a schedule -/
def nextW (l : List Nat) : Nat := (((l.getD (l.length - 16) 0 + sg0 (l.getD (l.length - 15) 0)) % 4294967296 + l.getD (l.length - 7) 0) % 4294967296 + sg1 (l.getD (l.length - 2) 0)) % 4294967296
def sched : Nat → List Nat → List Nat
  | 0, l => l
  | n + 1, l => sched n (l ++ [nextW l])

/-- a word of four bytes -/
def be32 (a b c d : UInt8) : Nat := ((a.toNat * 256 + b.toNat) * 256 + c.toNat) * 256 + d.toNat
def wordsOf : List UInt8 → List Nat
  | a :: b :: c :: d :: l => be32 a b c d :: wordsOf l
  | _ => []

structure St where
  (a b c d e f g h : Nat)

def St.toL (s : St) : List Nat := [s.a, s.b, s.c, s.d, s.e, s.f, s.g, s.h]

def rp (s : St) (k _w : Nat) : Nat := (((s.h + Sg1 s.e) % 4294967296 + chF s.e s.f s.g) % 4294967296 + k) % 4294967296
def rnd (s : St) (k w : Nat) : St :=
  let p := (rp s k w + w) % 4294967296
  let q := (Sg0 s.a + mjF s.a s.b s.c) % 4294967296
  ⟨(p + q) % 4294967296, s.a, s.b, s.c, (s.d + p) % 4294967296, s.e, s.f, s.g⟩

def rounds : St → List Nat → List Nat → St
  | s, k :: ks, w :: ws => rounds (rnd s k w) ks ws
  | s, _, _ => s

def St.add (s t : St) : St := ⟨(s.a + t.a) % 4294967296, (s.b + t.b) % 4294967296, (s.c + t.c) % 4294967296, (s.d + t.d) % 4294967296, (s.e + t.e) % 4294967296, (s.f + t.f) % 4294967296, (s.g + t.g) % 4294967296, (s.h + t.h) % 4294967296⟩

def compress (s : St) (blk : List UInt8) : St := s.add (rounds s kTab (sched 48 (wordsOf blk)))

def st0 : St := ⟨1779033703, 3144134277, 1013904242, 2773480762, 1359893119, 2600822924, 528734635, 1541459225⟩

def absorbs : Nat → St → List UInt8 → St
  | 0, s, _ => s
  | n + 1, s, l => absorbs n (compress s (l.take 64)) (l.drop 64)

/-- the number of bits, as eight bytes -/
def lenBytes (n : Nat) : List UInt8 := [UInt8.ofNat (n / 72057594037927936 % 256), UInt8.ofNat (n / 281474976710656 % 256), UInt8.ofNat (n / 1099511627776 % 256), UInt8.ofNat (n / 4294967296 % 256), UInt8.ofNat (n / 16777216 % 256), UInt8.ofNat (n / 65536 % 256), UInt8.ofNat (n / 256 % 256), UInt8.ofNat (n % 256)]

/-- zeros behind the mark -/
def padZ (n : Nat) : Nat := (119 - n % 64) % 64
def padded (l : List UInt8) : List UInt8 := l ++ 128 :: (List.replicate (padZ l.length) 0 ++ lenBytes (l.length * 8))

def be4 (x : Nat) : List UInt8 := [UInt8.ofNat (x / 16777216 % 256), UInt8.ofNat (x / 65536 % 256), UInt8.ofNat (x / 256 % 256), UInt8.ofNat (x % 256)]
def St.out (s : St) : List UInt8 := be4 s.a ++ (be4 s.b ++ (be4 s.c ++ (be4 s.d ++ (be4 s.e ++ (be4 s.f ++ (be4 s.g ++ be4 s.h))))))

def sha (l : List UInt8) : List UInt8 := (absorbs ((padded l).length / 64) st0 (padded l)).out

theorem sha_empty : sha [] = [227, 176, 196, 66, 152, 252, 28, 20, 154, 251, 244, 200, 153, 111, 185, 36, 39, 174, 65, 228, 100, 155, 147, 76, 164, 149, 153, 27, 120, 82, 184, 85] := by kernel_rfl

end Go.Proofs.YtjhecmmbpmpmgaaDoor

namespace Go.Proofs.YtjhecmmbpmpmgaaDoor

def nextF (x16 x15 x7 x2 : Nat) : Nat := (((x16 + sg0 x15) % 4294967296 + x7) % 4294967296 + sg1 x2) % 4294967296

theorem sched_length (n : Nat) : ∀ l, (sched n l).length = l.length + n := by
  induction n with
  | zero => intro l; rfl
  | succ n ih => intro l; rw [sched, ih]; simp; omega

theorem sched_succ (n : Nat) : ∀ l, sched (n + 1) l = sched n l ++ [nextW (sched n l)] := by
  induction n with
  | zero => intro l; rfl
  | succ n ih => intro l; rw [sched, ih (l ++ [nextW l]), sched]

theorem nextW_lt (l : List Nat) : nextW l < 4294967296 := Nat.mod_lt _ (by decide)

theorem sched_lt (n : Nat) : ∀ l : List Nat, (∀ x ∈ l, x < 4294967296) → ∀ x ∈ sched n l, x < 4294967296 := by
  induction n with
  | zero => intro l h; exact h
  | succ n ih =>
    intro l h
    refine ih _ fun x hx => ?_
    rcases List.mem_append.1 hx with hx | hx
    · exact h x hx
    · rw [List.mem_singleton] at hx; rw [hx]; exact nextW_lt l

theorem nextW_eq {l : List Nat} (h : 16 ≤ l.length) : nextW l = nextF (l[l.length - 16]'(by omega)) (l[l.length - 15]'(by omega)) (l[l.length - 7]'(by omega)) (l[l.length - 2]'(by omega)) := by
  have g : ∀ (j : Nat) (hj : j < l.length), l.getD j 0 = l[j] := fun j hj => by simp [List.getD, hj]
  unfold nextW nextF
  rw [g (l.length - 16) (by omega), g (l.length - 15) (by omega), g (l.length - 7) (by omega), g (l.length - 2) (by omega)]

theorem be32_lt (a b c d : UInt8) : be32 a b c d < 4294967296 := by
  have := a.toNat_lt; have := b.toNat_lt; have := c.toNat_lt; have := d.toNat_lt
  unfold be32; omega

theorem wordsOf_length : ∀ (n : Nat) (l : List UInt8), l.length = 4 * n → (wordsOf l).length = n
  | 0, l, h => by
    have : l = [] := List.eq_nil_of_length_eq_zero (by omega)
    rw [this]; rfl
  | n + 1, a :: b :: c :: d :: l, h => by rw [wordsOf, List.length_cons, wordsOf_length n l (by simp at h; omega)]
  | n + 1, [], h => by simp at h
  | n + 1, [a], h => by simp at h; omega
  | n + 1, [a, b], h => by simp at h; omega
  | n + 1, [a, b, c], h => by simp at h; omega

theorem wordsOf_lt : ∀ (l : List UInt8), ∀ x ∈ wordsOf l, x < 4294967296
  | [], x, h => by simp [wordsOf] at h
  | [a], x, h => by simp [wordsOf] at h
  | [a, b], x, h => by simp [wordsOf] at h
  | [a, b, c], x, h => by simp [wordsOf] at h
  | a :: b :: c :: d :: l, x, h => by
    rw [wordsOf] at h
    rcases List.mem_cons.1 h with h | h
    · rw [h]; exact be32_lt a b c d
    · exact wordsOf_lt l x h

theorem wordsOf_get : ∀ (n : Nat) (l : List UInt8) (k : Nat) (hl : l.length = 4 * n) (hk : k < n),
    (wordsOf l)[k]'(by rw [wordsOf_length n l hl]; exact hk) = be32 (l[4 * k]'(by omega)) (l[4 * k + 1]'(by omega)) (l[4 * k + 2]'(by omega)) (l[4 * k + 3]'(by omega))
  | n + 1, a :: b :: c :: d :: l, 0, h, hk => by simp [wordsOf]
  | n + 1, a :: b :: c :: d :: l, k + 1, h, hk => by
    have := wordsOf_get n l k (by simp at h; omega) (by omega)
    simp only [wordsOf, List.getElem_cons_succ]
    rw [this]
    have e0 : 4 * (k + 1) = 4 * k + 1 + 1 + 1 + 1 := by omega
    simp only [e0, List.getElem_cons_succ]
  | n + 1, [], _, h, _ => by simp at h
  | n + 1, [a], _, h, _ => by simp at h; omega
  | n + 1, [a, b], _, h, _ => by simp at h; omega
  | n + 1, [a, b, c], _, h, _ => by simp at h; omega

theorem rounds_succ : ∀ (t : Nat) (s : St) (ks ws : List Nat) (h1 : t < ks.length) (h2 : t < ws.length),
    rounds s (ks.take (t + 1)) (ws.take (t + 1)) = rnd (rounds s (ks.take t) (ws.take t)) ks[t] ws[t]
  | 0, s, k :: ks, w :: ws, _, _ => by simp [rounds]
  | t + 1, s, k :: ks, w :: ws, h1, h2 => by
    rw [List.take_succ_cons, List.take_succ_cons, rounds, rounds_succ t _ ks ws (by simpa using h1) (by simpa using h2), List.take_succ_cons, List.take_succ_cons, rounds]
    simp
  | t, s, [], ws, h1, _ => by simp at h1
  | t, s, k :: ks, [], _, h2 => by simp at h2

/-- all eight below 2^32 -/
structure St.ok (s : St) : Prop where
  a : s.a < 4294967296
  b : s.b < 4294967296
  c : s.c < 4294967296
  d : s.d < 4294967296
  e : s.e < 4294967296
  f : s.f < 4294967296
  g : s.g < 4294967296
  h : s.h < 4294967296

theorem rnd_ok {s : St} (h : s.ok) (k w : Nat) : (rnd s k w).ok :=
  ⟨Nat.mod_lt _ (by decide), h.a, h.b, h.c, Nat.mod_lt _ (by decide), h.e, h.f, h.g⟩
theorem rounds_ok : ∀ (ks ws : List Nat) {s : St}, s.ok → (rounds s ks ws).ok
  | [], _, s, h => by rw [rounds.eq_def]; exact h
  | k :: ks, [], s, h => by rw [rounds.eq_def]; exact h
  | k :: ks, w :: ws, s, h => rounds_ok ks ws (rnd_ok h k w)
theorem add_ok (s t : St) : (s.add t).ok :=
  ⟨Nat.mod_lt _ (by decide), Nat.mod_lt _ (by decide), Nat.mod_lt _ (by decide), Nat.mod_lt _ (by decide), Nat.mod_lt _ (by decide), Nat.mod_lt _ (by decide), Nat.mod_lt _ (by decide), Nat.mod_lt _ (by decide)⟩
theorem compress_ok (s : St) (b : List UInt8) : (compress s b).ok := add_ok _ _
theorem st0_ok : st0.ok := ⟨by decide, by decide, by decide, by decide, by decide, by decide, by decide, by decide⟩
theorem absorbs_ok : ∀ (n : Nat) (s : St) (l : List UInt8), s.ok → (absorbs n s l).ok
  | 0, _, _, h => h
  | n + 1, s, _, _ => absorbs_ok n _ _ (compress_ok s _)
theorem toL_lt {s : St} (h : s.ok) : ∀ x ∈ s.toL, x < 4294967296 := by
  intro x hx
  simp only [St.toL, List.mem_cons, List.not_mem_nil, or_false] at hx
  have := h.a; have := h.b; have := h.c; have := h.d; have := h.e; have := h.f; have := h.g; have := h.h
  rcases hx with h1 | h1 | h1 | h1 | h1 | h1 | h1 | h1 <;> rw [h1] <;> assumption

theorem add_get (s t : St) (k : Nat) (h : k < 8) : (s.add t).toL[k]'(by simpa [St.toL] using h) = (s.toL[k]'(by simpa [St.toL] using h) + t.toL[k]'(by simpa [St.toL] using h)) % 4294967296 := by
  match k, h with
  | 0, _ => rfl | 1, _ => rfl | 2, _ => rfl | 3, _ => rfl | 4, _ => rfl | 5, _ => rfl | 6, _ => rfl | 7, _ => rfl

theorem kTab_lt : ∀ x ∈ kTab, x < 4294967296 := by decide
theorem kTab_length : kTab.length = 64 := by kernel_rfl

end Go.Proofs.YtjhecmmbpmpmgaaDoor

namespace Go.Proofs.YtjhecmmbpmpmgaaDoor

theorem absorbs_succ' : ∀ (k : Nat) (s : St) (l : List UInt8), absorbs (k + 1) s l = compress (absorbs k s l) ((l.drop (64 * k)).take 64)
  | 0, s, l => by simp [absorbs]
  | k + 1, s, l => by
    rw [absorbs, absorbs_succ' k, absorbs, List.drop_drop]
    rw [show 64 + 64 * k = 64 * (k + 1) from by omega]

theorem absorbs_add (m : Nat) : ∀ (n : Nat) (s : St) (l : List UInt8), absorbs (n + m) s l = absorbs m (absorbs n s l) (l.drop (64 * n))
  | 0, s, l => by simp [absorbs]
  | n + 1, s, l => by
    rw [show n + 1 + m = (n + m) + 1 from by omega, absorbs, absorbs_add m n, absorbs, List.drop_drop]
    rw [show 64 + 64 * n = 64 * (n + 1) from by omega]

theorem absorbs_append : ∀ (n : Nat) (s : St) (l l' : List UInt8), 64 * n ≤ l.length → absorbs n s (l ++ l') = absorbs n s l
  | 0, _, _, _, _ => rfl
  | n + 1, s, l, l', h => by
    rw [absorbs, absorbs, List.take_append_of_le_length (by omega), List.drop_append_of_le_length (by omega), absorbs_append n _ _ _ (by rw [List.length_drop]; omega)]

/-- the blocks that stand behind the whole ones: their number -/
def lastN (n : Nat) : Nat := if n % 64 ≤ 55 then 1 else 2
/-- .. and their bytes -/
def lastB (l : List UInt8) : List UInt8 := l.drop (64 * (l.length / 64)) ++ 128 :: (List.replicate (64 * lastN l.length - 9 - l.length % 64) 0 ++ lenBytes (l.length * 8))

theorem lenBytes_length (n : Nat) : (lenBytes n).length = 8 := rfl

theorem lastB_length (l : List UInt8) : (lastB l).length = 64 * lastN l.length := by
  have h1 : (l.drop (64 * (l.length / 64))).length = l.length % 64 := by rw [List.length_drop]; omega
  rw [lastB, List.length_append, h1, List.length_cons, List.length_append, List.length_replicate, lenBytes_length]
  unfold lastN
  split <;> omega

theorem padZ_eq (n : Nat) : padZ n = 64 * lastN n - 9 - n % 64 := by
  unfold padZ lastN
  split <;> omega

theorem padded_split (l : List UInt8) : padded l = l.take (64 * (l.length / 64)) ++ lastB l := by
  unfold padded lastB
  rw [← List.append_assoc, List.take_append_drop, padZ_eq]

theorem sha_split (l : List UInt8) : sha l = (absorbs (lastN l.length) (absorbs (l.length / 64) st0 l) (lastB l)).out := by
  have h0 : (l.take (64 * (l.length / 64))).length = 64 * (l.length / 64) := by rw [List.length_take]; omega
  have h1 : (padded l).length = 64 * (l.length / 64 + lastN l.length) := by
    rw [padded_split, List.length_append, h0, lastB_length]; omega
  have e1 : absorbs (l.length / 64) st0 (l.take (64 * (l.length / 64))) = absorbs (l.length / 64) st0 l := by
    have := absorbs_append (l.length / 64) st0 (l.take (64 * (l.length / 64))) (l.drop (64 * (l.length / 64))) (by omega)
    rw [List.take_append_drop] at this
    exact this.symm
  unfold sha
  rw [h1, Nat.mul_div_cancel_left _ (by decide : 0 < 64), absorbs_add, padded_split, absorbs_append _ _ _ _ (by omega), e1, List.drop_left' h0]

theorem out_length (s : St) : s.out.length = 32 := rfl
theorem sha_length (l : List UInt8) : (sha l).length = 32 := rfl

/-- the last row, as a program lays it: zeros, the rest, the mark, the length -/
theorem last_row (l : List UInt8) (rest : List UInt8) (hr : rest = l.drop (64 * (l.length / 64))) (r m : Nat) (hrl : r = l.length % 64) (hm : m = lastN l.length) :
    (((rest ++ List.replicate (128 - r) 0).set r 128).take (64 * m - 8)) ++ (lenBytes (l.length * 8) ++ ((rest ++ List.replicate (128 - r) 0).set r 128).drop (64 * m)) = lastB l ++ List.replicate (128 - 64 * m) 0 := by
  have hlen : rest.length = r := by rw [hr, List.length_drop]; omega
  have hm1 : r + 9 ≤ 64 * m ∧ m ≤ 2 := by rw [hm]; unfold lastN; split <;> omega
  have e1 : 128 - r = (127 - r) + 1 := by omega
  have e2 : (rest ++ List.replicate (128 - r) 0).set r 128 = rest ++ 128 :: List.replicate (127 - r) 0 := by
    rw [List.set_append_right _ _ (by omega), hlen, Nat.sub_self, e1, List.replicate_succ, List.set_cons_zero]
  have e3 : 64 * m - 8 - r = (64 * m - 9 - r) + 1 := by omega
  have e4 : 64 * m - r = (64 * m - 1 - r) + 1 := by omega
  rw [e2, List.take_append, hlen, List.take_of_length_le (by omega : rest.length ≤ 64 * m - 8), e3, List.take_succ_cons, List.take_replicate,
    List.drop_append, hlen, List.drop_of_length_le (by omega : rest.length ≤ 64 * m), e4, List.drop_succ_cons, List.drop_replicate, List.nil_append]
  unfold lastB
  rw [← hr, ← hm, ← hrl, show min (64 * m - 9 - r) (127 - r) = 64 * m - 9 - r from by omega, show 127 - r - (64 * m - 1 - r) = 128 - 64 * m from by omega]
  simp

end Go.Proofs.YtjhecmmbpmpmgaaDoor

namespace Go.Proofs.YtjhecmmbpmpmgaaDoor
open Go.RowKit

theorem ret_eq {a b : Value} (h : a = b) : Ending.returned a = .returned b := by rw [h]

/-- the two shifts of a rotation, in the walk's words -/
theorem rr_bits (x n : Nat) (hx : x < 4294967296) (P Q : Int) (hP : P = ((2 ^ (32 - n) : Nat) : Int)) (hQ : Q = ((2 ^ n : Nat) : Int)) :
    bits .or .u32 (IntKind.u32.wrap ((x : Int) * P)) ((x : Int) / Q) = ((rr x n : Nat) : Int) := by
  subst hP hQ
  have e1 : IntKind.u32.wrap ((x : Int) * ((2 ^ (32 - n) : Nat) : Int)) = ((x * 2 ^ (32 - n) % 4294967296 : Nat) : Int) := by
    rw [IntKind.wrap_u32]; simp
  have e2 : (x : Int) / ((2 ^ n : Nat) : Int) = ((x / 2 ^ n : Nat) : Int) := by simp
  rw [e1, e2, u32_or_nat _ _ (Nat.mod_lt _ (by decide)) (Nat.lt_of_le_of_lt (Nat.div_le_self _ _) hx), Nat.or_comm]
  rfl

theorem rr_bits' (x n : Nat) (hx : x < 4294967296) (P Q : Int) (hP : P = ((2 ^ (32 - n) : Nat) : Int)) (hQ : Q = ((2 ^ n : Nat) : Int)) :
    bits .or .u32 ((x : Int) / Q) (IntKind.u32.wrap ((x : Int) * P)) = ((rr x n : Nat) : Int) := by
  subst hP hQ
  have e1 : IntKind.u32.wrap ((x : Int) * ((2 ^ (32 - n) : Nat) : Int)) = ((x * 2 ^ (32 - n) % 4294967296 : Nat) : Int) := by
    rw [IntKind.wrap_u32]; simp
  have e2 : (x : Int) / ((2 ^ n : Nat) : Int) = ((x / 2 ^ n : Nat) : Int) := by simp
  rw [e1, e2, u32_or_nat _ _ (Nat.lt_of_le_of_lt (Nat.div_le_self _ _) hx) (Nat.mod_lt _ (by decide))]
  rfl

theorem rotl_2 (x : Nat) (hx : x < 4294967296) (w : World) : Calls Tryd.prog 102 #[.int .u32 x, .int .i64 (-2)] w fun e w' => e = .returned (.int .u32 (rr x 2)) ∧ w = w' := by
  have hb : bits .and .u64 (IntKind.u64.wrap (-2)) 31 = 30 := by kernel_rfl
  have HR := Lib.hid (rr_bits x 2 hx 1073741824 4 (by decide) (by decide))
  go_enter Tryd.func102, Tryd.ntmps102
  go_wp2
  go_ret
  exact ⟨ret_eq (by rw [← HR.out]; rfl), rfl⟩

theorem ror_2 (x : Nat) (hx : x < 4294967296) (w : World) : Calls Tryd.prog 105 #[.int .u32 x, .int .i64 2] w fun e w' => e = .returned (.int .u32 (rr x 2)) ∧ ∃ j, w' = w.drewN j := by
  have HR := Lib.hid (rr_bits' x 2 hx 1073741824 4 (by decide) (by decide))
  go_enter Tryd.func105, Tryd.ntmps105
  go_wp2_with fail
  go_quiet (fail)
  all_goals
    go_wp2_with fail
    go_ret
    exact ⟨ret_eq (by rw [← HR.out]; rfl), nq, rfl⟩

theorem rotl_6 (x : Nat) (hx : x < 4294967296) (w : World) : Calls Tryd.prog 102 #[.int .u32 x, .int .i64 (-6)] w fun e w' => e = .returned (.int .u32 (rr x 6)) ∧ w = w' := by
  have hb : bits .and .u64 (IntKind.u64.wrap (-6)) 31 = 26 := by kernel_rfl
  have HR := Lib.hid (rr_bits x 6 hx 67108864 64 (by decide) (by decide))
  go_enter Tryd.func102, Tryd.ntmps102
  go_wp2
  go_ret
  exact ⟨ret_eq (by rw [← HR.out]; rfl), rfl⟩

theorem ror_6 (x : Nat) (hx : x < 4294967296) (w : World) : Calls Tryd.prog 105 #[.int .u32 x, .int .i64 6] w fun e w' => e = .returned (.int .u32 (rr x 6)) ∧ ∃ j, w' = w.drewN j := by
  have HR := Lib.hid (rr_bits' x 6 hx 67108864 64 (by decide) (by decide))
  go_enter Tryd.func105, Tryd.ntmps105
  go_wp2_with fail
  go_quiet (fail)
  all_goals
    go_wp2_with fail
    go_ret
    exact ⟨ret_eq (by rw [← HR.out]; rfl), nq, rfl⟩

theorem rotl_7 (x : Nat) (hx : x < 4294967296) (w : World) : Calls Tryd.prog 102 #[.int .u32 x, .int .i64 (-7)] w fun e w' => e = .returned (.int .u32 (rr x 7)) ∧ w = w' := by
  have hb : bits .and .u64 (IntKind.u64.wrap (-7)) 31 = 25 := by kernel_rfl
  have HR := Lib.hid (rr_bits x 7 hx 33554432 128 (by decide) (by decide))
  go_enter Tryd.func102, Tryd.ntmps102
  go_wp2
  go_ret
  exact ⟨ret_eq (by rw [← HR.out]; rfl), rfl⟩

theorem ror_7 (x : Nat) (hx : x < 4294967296) (w : World) : Calls Tryd.prog 105 #[.int .u32 x, .int .i64 7] w fun e w' => e = .returned (.int .u32 (rr x 7)) ∧ ∃ j, w' = w.drewN j := by
  have HR := Lib.hid (rr_bits' x 7 hx 33554432 128 (by decide) (by decide))
  go_enter Tryd.func105, Tryd.ntmps105
  go_wp2_with fail
  go_quiet (fail)
  all_goals
    go_wp2_with fail
    go_ret
    exact ⟨ret_eq (by rw [← HR.out]; rfl), nq, rfl⟩

theorem rotl_11 (x : Nat) (hx : x < 4294967296) (w : World) : Calls Tryd.prog 102 #[.int .u32 x, .int .i64 (-11)] w fun e w' => e = .returned (.int .u32 (rr x 11)) ∧ w = w' := by
  have hb : bits .and .u64 (IntKind.u64.wrap (-11)) 31 = 21 := by kernel_rfl
  have HR := Lib.hid (rr_bits x 11 hx 2097152 2048 (by decide) (by decide))
  go_enter Tryd.func102, Tryd.ntmps102
  go_wp2
  go_ret
  exact ⟨ret_eq (by rw [← HR.out]; rfl), rfl⟩

theorem ror_11 (x : Nat) (hx : x < 4294967296) (w : World) : Calls Tryd.prog 105 #[.int .u32 x, .int .i64 11] w fun e w' => e = .returned (.int .u32 (rr x 11)) ∧ ∃ j, w' = w.drewN j := by
  have HR := Lib.hid (rr_bits' x 11 hx 2097152 2048 (by decide) (by decide))
  go_enter Tryd.func105, Tryd.ntmps105
  go_wp2_with fail
  go_quiet (fail)
  all_goals
    go_wp2_with fail
    go_ret
    exact ⟨ret_eq (by rw [← HR.out]; rfl), nq, rfl⟩

theorem rotl_13 (x : Nat) (hx : x < 4294967296) (w : World) : Calls Tryd.prog 102 #[.int .u32 x, .int .i64 (-13)] w fun e w' => e = .returned (.int .u32 (rr x 13)) ∧ w = w' := by
  have hb : bits .and .u64 (IntKind.u64.wrap (-13)) 31 = 19 := by kernel_rfl
  have HR := Lib.hid (rr_bits x 13 hx 524288 8192 (by decide) (by decide))
  go_enter Tryd.func102, Tryd.ntmps102
  go_wp2
  go_ret
  exact ⟨ret_eq (by rw [← HR.out]; rfl), rfl⟩

theorem ror_13 (x : Nat) (hx : x < 4294967296) (w : World) : Calls Tryd.prog 105 #[.int .u32 x, .int .i64 13] w fun e w' => e = .returned (.int .u32 (rr x 13)) ∧ ∃ j, w' = w.drewN j := by
  have HR := Lib.hid (rr_bits' x 13 hx 524288 8192 (by decide) (by decide))
  go_enter Tryd.func105, Tryd.ntmps105
  go_wp2_with fail
  go_quiet (fail)
  all_goals
    go_wp2_with fail
    go_ret
    exact ⟨ret_eq (by rw [← HR.out]; rfl), nq, rfl⟩

theorem rotl_17 (x : Nat) (hx : x < 4294967296) (w : World) : Calls Tryd.prog 102 #[.int .u32 x, .int .i64 (-17)] w fun e w' => e = .returned (.int .u32 (rr x 17)) ∧ w = w' := by
  have hb : bits .and .u64 (IntKind.u64.wrap (-17)) 31 = 15 := by kernel_rfl
  have HR := Lib.hid (rr_bits x 17 hx 32768 131072 (by decide) (by decide))
  go_enter Tryd.func102, Tryd.ntmps102
  go_wp2
  go_ret
  exact ⟨ret_eq (by rw [← HR.out]; rfl), rfl⟩

theorem ror_17 (x : Nat) (hx : x < 4294967296) (w : World) : Calls Tryd.prog 105 #[.int .u32 x, .int .i64 17] w fun e w' => e = .returned (.int .u32 (rr x 17)) ∧ ∃ j, w' = w.drewN j := by
  have HR := Lib.hid (rr_bits' x 17 hx 32768 131072 (by decide) (by decide))
  go_enter Tryd.func105, Tryd.ntmps105
  go_wp2_with fail
  go_quiet (fail)
  all_goals
    go_wp2_with fail
    go_ret
    exact ⟨ret_eq (by rw [← HR.out]; rfl), nq, rfl⟩

theorem rotl_18 (x : Nat) (hx : x < 4294967296) (w : World) : Calls Tryd.prog 102 #[.int .u32 x, .int .i64 (-18)] w fun e w' => e = .returned (.int .u32 (rr x 18)) ∧ w = w' := by
  have hb : bits .and .u64 (IntKind.u64.wrap (-18)) 31 = 14 := by kernel_rfl
  have HR := Lib.hid (rr_bits x 18 hx 16384 262144 (by decide) (by decide))
  go_enter Tryd.func102, Tryd.ntmps102
  go_wp2
  go_ret
  exact ⟨ret_eq (by rw [← HR.out]; rfl), rfl⟩

theorem ror_18 (x : Nat) (hx : x < 4294967296) (w : World) : Calls Tryd.prog 105 #[.int .u32 x, .int .i64 18] w fun e w' => e = .returned (.int .u32 (rr x 18)) ∧ ∃ j, w' = w.drewN j := by
  have HR := Lib.hid (rr_bits' x 18 hx 16384 262144 (by decide) (by decide))
  go_enter Tryd.func105, Tryd.ntmps105
  go_wp2_with fail
  go_quiet (fail)
  all_goals
    go_wp2_with fail
    go_ret
    exact ⟨ret_eq (by rw [← HR.out]; rfl), nq, rfl⟩

theorem rotl_19 (x : Nat) (hx : x < 4294967296) (w : World) : Calls Tryd.prog 102 #[.int .u32 x, .int .i64 (-19)] w fun e w' => e = .returned (.int .u32 (rr x 19)) ∧ w = w' := by
  have hb : bits .and .u64 (IntKind.u64.wrap (-19)) 31 = 13 := by kernel_rfl
  have HR := Lib.hid (rr_bits x 19 hx 8192 524288 (by decide) (by decide))
  go_enter Tryd.func102, Tryd.ntmps102
  go_wp2
  go_ret
  exact ⟨ret_eq (by rw [← HR.out]; rfl), rfl⟩

theorem ror_19 (x : Nat) (hx : x < 4294967296) (w : World) : Calls Tryd.prog 105 #[.int .u32 x, .int .i64 19] w fun e w' => e = .returned (.int .u32 (rr x 19)) ∧ ∃ j, w' = w.drewN j := by
  have HR := Lib.hid (rr_bits' x 19 hx 8192 524288 (by decide) (by decide))
  go_enter Tryd.func105, Tryd.ntmps105
  go_wp2_with fail
  go_quiet (fail)
  all_goals
    go_wp2_with fail
    go_ret
    exact ⟨ret_eq (by rw [← HR.out]; rfl), nq, rfl⟩

theorem rotl_22 (x : Nat) (hx : x < 4294967296) (w : World) : Calls Tryd.prog 102 #[.int .u32 x, .int .i64 (-22)] w fun e w' => e = .returned (.int .u32 (rr x 22)) ∧ w = w' := by
  have hb : bits .and .u64 (IntKind.u64.wrap (-22)) 31 = 10 := by kernel_rfl
  have HR := Lib.hid (rr_bits x 22 hx 1024 4194304 (by decide) (by decide))
  go_enter Tryd.func102, Tryd.ntmps102
  go_wp2
  go_ret
  exact ⟨ret_eq (by rw [← HR.out]; rfl), rfl⟩

theorem ror_22 (x : Nat) (hx : x < 4294967296) (w : World) : Calls Tryd.prog 105 #[.int .u32 x, .int .i64 22] w fun e w' => e = .returned (.int .u32 (rr x 22)) ∧ ∃ j, w' = w.drewN j := by
  have HR := Lib.hid (rr_bits' x 22 hx 1024 4194304 (by decide) (by decide))
  go_enter Tryd.func105, Tryd.ntmps105
  go_wp2_with fail
  go_quiet (fail)
  all_goals
    go_wp2_with fail
    go_ret
    exact ⟨ret_eq (by rw [← HR.out]; rfl), nq, rfl⟩

theorem rotl_25 (x : Nat) (hx : x < 4294967296) (w : World) : Calls Tryd.prog 102 #[.int .u32 x, .int .i64 (-25)] w fun e w' => e = .returned (.int .u32 (rr x 25)) ∧ w = w' := by
  have hb : bits .and .u64 (IntKind.u64.wrap (-25)) 31 = 7 := by kernel_rfl
  have HR := Lib.hid (rr_bits x 25 hx 128 33554432 (by decide) (by decide))
  go_enter Tryd.func102, Tryd.ntmps102
  go_wp2
  go_ret
  exact ⟨ret_eq (by rw [← HR.out]; rfl), rfl⟩

theorem ror_25 (x : Nat) (hx : x < 4294967296) (w : World) : Calls Tryd.prog 105 #[.int .u32 x, .int .i64 25] w fun e w' => e = .returned (.int .u32 (rr x 25)) ∧ ∃ j, w' = w.drewN j := by
  have HR := Lib.hid (rr_bits' x 25 hx 128 33554432 (by decide) (by decide))
  go_enter Tryd.func105, Tryd.ntmps105
  go_wp2_with fail
  go_quiet (fail)
  all_goals
    go_wp2_with fail
    go_ret
    exact ⟨ret_eq (by rw [← HR.out]; rfl), nq, rfl⟩

end Go.Proofs.YtjhecmmbpmpmgaaDoor

namespace Go.Proofs.YtjhecmmbpmpmgaaDoor
open Go.RowKit Go.Lib

theorem xor3_bits {a b c : Nat} (ha : a < 4294967296) (hb : b < 4294967296) (hc : c < 4294967296) : bits .xor .u32 (bits .xor .u32 (a : Int) (b : Int)) (c : Int) = (((a ^^^ b) ^^^ c : Nat) : Int) := by
  rw [u32_xor_nat _ _ ha hb, u32_xor_nat _ _ (xor_lt ha hb) hc]

theorem rotated_e (x : Nat) (hx : x < 4294967296) (w : World) : Calls Tryd.prog 103 #[.int .u32 x, .int .i64 6, .int .i64 11, .int .i64 25] w fun e w' => e = .returned (.int .u32 (Sg1 x)) ∧ w = w' := by
  have HR := Lib.hid (xor3_bits (rr_lt 6 hx) (rr_lt 11 hx) (rr_lt 25 hx))
  go_enter Tryd.func103, Tryd.ntmps103
  go_wp2_with fail
  refine (rotl_6 x hx _).mono ?_
  rintro e w' ⟨rfl, rfl⟩
  go_wp2_with fail
  refine (rotl_11 x hx _).mono ?_
  rintro e w' ⟨rfl, rfl⟩
  go_wp2_with fail
  refine (rotl_25 x hx _).mono ?_
  rintro e w' ⟨rfl, rfl⟩
  go_wp2_with fail
  go_ret
  exact ⟨ret_eq (by unfold Sg1; rw [← HR.out]; rfl), rfl⟩

theorem rotated_a (x : Nat) (hx : x < 4294967296) (w : World) : Calls Tryd.prog 103 #[.int .u32 x, .int .i64 2, .int .i64 13, .int .i64 22] w fun e w' => e = .returned (.int .u32 (Sg0 x)) ∧ w = w' := by
  have HR := Lib.hid (xor3_bits (rr_lt 2 hx) (rr_lt 13 hx) (rr_lt 22 hx))
  go_enter Tryd.func103, Tryd.ntmps103
  go_wp2_with fail
  refine (rotl_2 x hx _).mono ?_
  rintro e w' ⟨rfl, rfl⟩
  go_wp2_with fail
  refine (rotl_13 x hx _).mono ?_
  rintro e w' ⟨rfl, rfl⟩
  go_wp2_with fail
  refine (rotl_22 x hx _).mono ?_
  rintro e w' ⟨rfl, rfl⟩
  go_wp2_with fail
  go_ret
  exact ⟨ret_eq (by unfold Sg0; rw [← HR.out]; rfl), rfl⟩

/-- the first k bytes of a word -/
def wpart (l : List UInt8) (k : Nat) : Nat := (l.take k).foldl (fun n c => n * 256 + c.toNat) 0

theorem wpart_succ (l : List UInt8) (k : Nat) (h : k < l.length) : wpart l (k + 1) = wpart l k * 256 + l[k].toNat := by
  unfold wpart
  rw [List.take_succ_eq_append_getElem h, List.foldl_append]; rfl

theorem wpart_lt (l : List UInt8) : ∀ k, wpart l k < 256 ^ k := by
  intro k
  induction k with
  | zero => simp [wpart]
  | succ k ih =>
    by_cases h : k < l.length
    · rw [wpart_succ l k h, Nat.pow_succ]
      have := l[k].toNat_lt
      omega
    · have : wpart l (k + 1) = wpart l k := by unfold wpart; rw [List.take_of_length_le (by omega), List.take_of_length_le (by omega)]
      rw [this, Nat.pow_succ]; omega

theorem or_byte (n c : Nat) (hn : n < 16777216) (hc : c < 256) : bits .or .u32 (IntKind.u32.wrap ((n : Int) * 256)) (c : Int) = ((n * 256 + c : Nat) : Int) := by
  have e1 : IntKind.u32.wrap ((n : Int) * 256) = ((n * 256 : Nat) : Int) := by rw [IntKind.wrap_u32]; omega
  rw [e1, u32_or_nat _ _ (by omega) (by omega)]
  congr 1
  have := Nat.shiftLeft_add_eq_or_of_lt (i := 8) (b := c) (by omega : c < 2 ^ 8) n
  rw [Nat.shiftLeft_eq] at this
  exact this.symm

set_option maxHeartbeats 400000 in
theorem word_any (w : World) (D off len cap : Nat) (l : List UInt8) (hl : l.length = 4) (hc4 : 4 ≤ cap) (hcap : cap ≤ 9223372036854775807) (hcs : ∀ i (h : i < 4), w.cell? ⟨D, off + i, none⟩ = some (.int .u8 ((l[i]'(by omega)).toNat : Int))) :
    Calls Tryd.prog 101 #[.slice (some ⟨D, off, none⟩) len cap] w fun e w' => e = .returned (.int .u32 (wpart l 4)) ∧ w = w' := by
  have hc0 : (cap == 0) = false := by simp; omega
  go_enter Tryd.func101, Tryd.ntmps101
  go_wp2_with fail
  go_loop [2, 8] (fun n i => ∃ k : Nat, k ≤ 4 ∧ i = .int .i64 k ∧ n = .int .u32 (wpart l k)) (fun _ i => 4 - (intOf i).toNat)
  case atStart => exact ⟨0, by omega, rfl, rfl⟩
  case round =>
    obtain ⟨k, hk, rfl, rfl⟩ := hrel
    by_cases hlt : k < 4
    · have hcell := hcs k hlt
      have HS := Lib.hid (wpart_succ l k (by omega))
      have hb : l[k].toNat < 256 := l[k].toNat_lt
      have hw := wpart_lt l k
      have hp : (256 : Nat) ^ k ≤ 256 ^ 3 := Nat.pow_le_pow_right (by omega) (by omega)
      have hw2 : wpart l k < 16777216 := by rw [show (256 : Nat) ^ 3 = 16777216 from by decide] at hp; omega
      have HO := Lib.hid (or_byte (wpart l k) l[k].toNat hw2 hb)
      clear hw hp hw2 hcs
      go_wp2_with fail
      go_round
      case rel => exact ⟨k + 1, by omega, by go_num, by rw [HS.out, ← HO.out, IntKind.wrap_u32]⟩
      case measure => simp [intOf]; omega
    · have : k = 4 := by omega
      subst this
      clear hcs
      go_wp2_with fail
      go_ret
      exact ⟨rfl, rfl⟩

theorem wpart_be (a b c d : UInt8) : wpart [a, b, c, d] 4 = be32 a b c d := by
  unfold wpart be32
  simp

theorem or_shift (x y k : Nat) (hy : y < 2 ^ k) (P : Nat) (hP : P = 2 ^ k) : x * P ||| y = x * P + y := by
  subst hP
  have := Nat.shiftLeft_add_eq_or_of_lt (i := k) hy x
  rw [Nat.shiftLeft_eq] at this
  exact this.symm

theorem or_lt {a b : Nat} (ha : a < 4294967296) (hb : b < 4294967296) : a ||| b < 4294967296 := Nat.or_lt_two_pow (n := 32) ha hb

theorem word_or (a b c d : Nat) (hb : b < 256) (hc : c < 256) (hd : d < 256) :
    ((a * 16777216 ||| b * 65536) ||| c * 256) ||| d = ((a * 256 + b) * 256 + c) * 256 + d := by
  have f1 : a * 16777216 + b * 65536 = (a * 256 + b) * 65536 := by rw [Nat.add_mul, Nat.mul_assoc]
  have f2 : (a * 256 + b) * 65536 + c * 256 = ((a * 256 + b) * 256 + c) * 256 := by rw [Nat.add_mul _ c 256, Nat.mul_assoc _ 256 256]
  have o1 := or_shift a (b * 65536) 24 (by simp; omega) 16777216 (by simp)
  have o2 := or_shift (a * 256 + b) (c * 256) 16 (by simp; omega) 65536 (by simp)
  have o3 := or_shift ((a * 256 + b) * 256 + c) d 8 (by simp; omega) 256 (by simp)
  rw [o1, f1, o2, f2, o3]

theorem bits_or3 (A B C D : Nat) (hA : A < 4294967296) (hB : B < 4294967296) (hC : C < 4294967296) (hD : D < 4294967296) :
    bits .or .u32 (bits .or .u32 (bits .or .u32 (A : Int) (B : Int)) (C : Int)) (D : Int) = ((((A ||| B) ||| C) ||| D : Nat) : Int) := by
  rw [u32_or_nat A B hA hB, u32_or_nat (A ||| B) C (or_lt hA hB) hC, u32_or_nat ((A ||| B) ||| C) D (or_lt (or_lt hA hB) hC) hD]

theorem word_bits (a b c d : Nat) (ha : a < 256) (hb : b < 256) (hc : c < 256) (hd : d < 256) :
    bits .or .u32 (bits .or .u32 (bits .or .u32 ((a : Int) * 16777216) ((b : Int) * 65536)) ((c : Int) * 256)) (d : Int) = ((((a * 256 + b) * 256 + c) * 256 + d : Nat) : Int) := by
  have e1 : ((a : Int) * 16777216) = ((a * 16777216 : Nat) : Int) := by simp
  have e2 : ((b : Int) * 65536) = ((b * 65536 : Nat) : Int) := by simp
  have e3 : ((c : Int) * 256) = ((c * 256 : Nat) : Int) := by simp
  rw [e1, e2, e3, bits_or3 _ _ _ _ (by omega) (by omega) (by omega) (by omega), word_or a b c d hb hc hd]

set_option maxHeartbeats 800000 in
theorem rword_any (w : World) (D off cap : Nat) (a b c d : UInt8)
    (c0 : w.cell? ⟨D, off, none⟩ = some (.int .u8 (a.toNat : Int))) (c1 : w.cell? ⟨D, off + 1, none⟩ = some (.int .u8 (b.toNat : Int))) (c2 : w.cell? ⟨D, off + 2, none⟩ = some (.int .u8 (c.toNat : Int))) (c3 : w.cell? ⟨D, off + 3, none⟩ = some (.int .u8 (d.toNat : Int))) :
    Calls Tryd.prog 104 #[.slice (some ⟨D, off, none⟩) 4 cap] w fun e w' => e = .returned (.int .u32 (be32 a b c d)) ∧ ∃ j, w' = w.drewN j := by
  have h1 := a.toNat_lt; have h2 := b.toNat_lt; have h3 := c.toNat_lt; have h5 := d.toNat_lt
  have HB := Lib.hid (word_bits a.toNat b.toNat c.toNat d.toNat (by omega) (by omega) (by omega) (by omega))
  go_enter Tryd.func104, Tryd.ntmps104
  go_wp2_with fail
  go_quiet (fail)
  all_goals
    go_wp2_with fail
    go_ret
    exact ⟨ret_eq (by unfold be32; rw [← HB.out]; rfl), nq, rfl⟩

end Go.Proofs.YtjhecmmbpmpmgaaDoor

namespace Go.Proofs.YtjhecmmbpmpmgaaDoor
open Go.RowKit Go.Lib

/-- a number's last n bytes, the most significant one first -/
def beB : Nat → Nat → List UInt8
  | 0, _ => []
  | n + 1, x => UInt8.ofNat (x / 256 ^ n % 256) :: beB n x

theorem beB_length (n x : Nat) : (beB n x).length = n := by induction n with | zero => rfl | succ n ih => simp [beB, ih]

def bv (c : UInt8) : Value := .int .u8 (c.toNat : Int)

/-- a row with bytes laid over it -/
def over (L : List Value) (off : Nat) (cs : List Value) : List Value := L.take off ++ (cs ++ L.drop (off + cs.length))

theorem over_length {L : List Value} {off : Nat} {cs : List Value} (h : off + cs.length ≤ L.length) : (over L off cs).length = L.length := by
  simp [over]; omega

theorem over_nil {L : List Value} {off : Nat} : over L off [] = L := by simp [over]

theorem over_set {L : List Value} {off : Nat} {c : Value} {cs : List Value} (h : off + 1 + cs.length ≤ L.length) : (over L (off + 1) cs).set off c = over L off (c :: cs) := by
  unfold over
  have h1 : off + 1 + cs.length = off + (c :: cs).length := by rw [List.length_cons]; omega
  have h2 : (L.take (off + 1)).length = off + 1 := by rw [List.length_take]; omega
  have h3 : (L.take off).length = off := by rw [List.length_take]; omega
  rw [h1, List.set_append_left _ _ (by omega), List.take_succ_eq_append_getElem (by omega), List.set_append_right _ _ (by omega), h3, Nat.sub_self]
  simp only [List.set_cons_zero, List.append_assoc, List.cons_append, List.nil_append]

theorem byte_shr (x k : Nat) : IntKind.u8.wrap ((x : Int) / ((2 : Int) ^ (8 * k))) = ((UInt8.ofNat (x / 256 ^ k % 256)).toNat : Int) := by
  have h : ((2 : Int) ^ (8 * k)) = ((256 ^ k : Nat) : Int) := by rw [Int.pow_mul]; simp
  rw [h, show (x : Int) / ((256 ^ k : Nat) : Int) = ((x / 256 ^ k : Nat) : Int) from (by simp), IntKind.wrap_u8]
  simp

theorem cell_at {w : World} {D j : Nat} {L : List Value} {t : TypeId} {fr : Nat × Nat} (h : w.heap[D]? = some (.cells L.toArray t fr)) (hj : j < L.length) : w.cell? ⟨D, j, none⟩ = some L[j] := by
  simp [World.cell?, h, hj]

theorem frozen_at {w : World} {D j : Nat} {cs : Array Value} {t : TypeId} (h : w.heap[D]? = some (.cells cs t (0, 0))) : w.frozen? ⟨D, j, none⟩ = false := by
  simp [World.frozen?, h]

theorem d_grown_trans {w w1 w2 : World} {r : Option Nat} (h : w.grownBy w1 r) (g : w1.grownBy w2 r) : w.grownBy w2 r :=
  ⟨g.os.trans h.os, g.tape.trans h.tape, g.output.trans h.output, Nat.le_trans h.size g.size, fun k hk hne => (g.block k (Nat.lt_of_lt_of_le hk h.size) hne).trans (h.block k hk hne)⟩

theorem d_setCell_heap {w : World} {R o : Nat} {cs : Array Value} {y : Value} {t : TypeId} {fr : Nat × Nat} (hR : w.heap[R]? = some (.cells cs t fr)) : (w.setCell ⟨R, o, none⟩ y).heap[R]? = some (.cells (cs.setIfInBounds o y) t fr) := by
  simp [World.setCell, Array.getElem?_modify, hR]

theorem d_grown_setCell (w : World) (R o : Nat) (y : Value) : w.grownBy (w.setCell ⟨R, o, none⟩ y) (some R) :=
  ⟨rfl, rfl, rfl, by simp [World.setCell], fun k _ hk => Below.heap_setCell _ _ _ _ (fun e => hk (by rw [e]))⟩

structure Putted (w : World) (D : Nat) (L : List Value) (t : TypeId) (off : Nat) (cs : List Value) (w' : World) : Prop where
  grown : w.grownBy w' (some D)
  row : w'.heap[D]? = some (.cells (over L off cs).toArray t (0, 0))

set_option maxRecDepth 100000 in
set_option maxHeartbeats 800000 in
theorem put_any (w : World) (D off n cap x : Nat) (L : List Value) (t : TypeId) (hn8 : n ≤ 8) (hnc : n ≤ cap) (hcap : cap ≤ 9223372036854775807) (_hx : x < 18446744073709551616)
    (hrow : w.heap[D]? = some (.cells L.toArray t (0, 0))) (hfit : off + n ≤ L.length) :
    Calls Tryd.prog 91 #[.slice (some ⟨D, off, none⟩) n cap, .int .u64 x] w fun e w' => e = .returned (.tuple #[]) ∧ Putted w D L t off ((beB n x).map bv) w' := by
  go_enter Tryd.func91, Tryd.ntmps91
  go_wp2_with fail
  go_loopw [7] (fun i wr => ∃ k : Nat, k ≤ n ∧ i = .int .i64 k ∧ Putted w D L t (off + n - k) ((beB k x).map bv) wr) (fun i _ => n - (intOf i).toNat)
  case atStart => exact ⟨0, by omega, rfl, ⟨rfl, rfl, rfl, Nat.le_refl _, fun _ _ _ => rfl⟩, by rw [beB, List.map_nil, over_nil]; exact hrow⟩
  case round =>
    obtain ⟨k, hk, rfl, hp⟩ := hrel
    by_cases hlt : k < n
    · have hg := hp.grown
      have hr := hp.row
      have hlen : (over L (off + n - k) ((beB k x).map bv)).length = L.length := over_length (by simp [beB_length]; omega)
      have hps := Lib.hid hp
      obtain ⟨C, hC⟩ : ∃ C, C = over L (off + n - k) ((beB k x).map bv) := ⟨_, rfl⟩
      rw [← hC] at hr hlen
      have hold : wr.cell? ⟨D, off + (n - 1 - k), none⟩ = some (C[off + (n - 1 - k)]'(by omega)) := cell_at hr (by omega)
      have hfree : wr.frozen? ⟨D, off + (n - 1 - k), none⟩ = false := frozen_at hr
      go_wp2_with fail
      refine ⟨⟨k + 1, by omega, by go_num, ?_⟩, by simp [intOf]; omega⟩
      have hbs : Value.int .u8 ((x : Int) / 2 ^ (8 * k) % 256) = bv (UInt8.ofNat (x / 256 ^ k % 256)) := by
        rw [bv, ← byte_shr x k, IntKind.wrap_u8]
      refine ⟨d_grown_trans hps.out.grown (d_grown_setCell _ _ _ _), ?_⟩
      rw [d_setCell_heap hr, hC, hbs, beB, List.map_cons, ← over_set (by simp [beB_length]; omega)]
      have e1 : off + n - (k + 1) + 1 = off + n - k := by omega
      have e2 : off + n - (k + 1) = off + (n - 1 - k) := by omega
      rw [e1, e2, List.setIfInBounds_toArray]
    · have : k = n := by omega
      subst this
      go_wp2_with fail
      go_end0
      have e0 : off + k - k = off := by omega
      rw [e0] at hp
      exact ⟨rfl, hp⟩

end Go.Proofs.YtjhecmmbpmpmgaaDoor

namespace Go.Proofs.YtjhecmmbpmpmgaaDoor
open Go.RowKit Go.Lib

def wv (x : Nat) : Value := .int .u32 (x : Int)
def wrow (l : List Nat) : Array Value := (l.map wv).toArray

theorem wrow_cell {w : World} {D j : Nat} {l : List Nat} {t : TypeId} {fr : Nat × Nat} (h : w.heap[D]? = some (.cells (wrow l) t fr)) (hj : j < l.length) : w.cell? ⟨D, j, none⟩ = some (.int .u32 ((l.getD j 0 : Nat) : Int)) := by
  simp [World.cell?, wrow, h, hj, wv, List.getD]

theorem wrow_set (l : List Nat) (j x : Nat) : (wrow l).setIfInBounds j (.int .u32 (x : Int)) = wrow (l.set j x) := by
  simp [wrow, wv, List.map_set]

theorem nextF_bits (x y z u : Nat) (hy : y < 4294967296) (hu : u < 4294967296) :
    ((x : Int) + bits .xor .u32 (bits .xor .u32 ((rr y 7 : Nat) : Int) ((rr y 18 : Nat) : Int)) ((y : Int) / 8) + (z : Int) + bits .xor .u32 (bits .xor .u32 ((rr u 17 : Nat) : Int) ((rr u 19 : Nat) : Int)) ((u : Int) / 1024)) % 4294967296
      = (nextF x y z u : Nat) := by
  have e1 : (y : Int) / 8 = ((y / 8 : Nat) : Int) := by simp
  have e2 : (u : Int) / 1024 = ((u / 1024 : Nat) : Int) := by simp
  rw [e1, e2, xor3_bits (rr_lt 7 hy) (rr_lt 18 hy) (Nat.lt_of_le_of_lt (Nat.div_le_self _ _) hy), xor3_bits (rr_lt 17 hu) (rr_lt 19 hu) (Nat.lt_of_le_of_lt (Nat.div_le_self _ _) hu)]
  have e3 : (rr y 7 ^^^ rr y 18) ^^^ y / 8 = sg0 y := rfl
  have e4 : (rr u 17 ^^^ rr u 19) ^^^ u / 1024 = sg1 u := rfl
  rw [e3, e4]
  unfold nextF
  generalize sg0 y = A
  generalize sg1 u = B
  omega

theorem p_bits (st : St) (k x : Nat) (h : st.ok) :
    ((st.h : Int) + (Sg1 st.e : Nat) + bits .xor .u32 (st.g : Int) (bits .and .u32 (st.e : Int) (bits .xor .u32 (st.f : Int) (st.g : Int))) + (k : Int) + (x : Int)) % 4294967296 = (((rp st k x + x) % 4294967296 : Nat) : Int) := by
  have e1 : bits .xor .u32 (st.g : Int) (bits .and .u32 (st.e : Int) (bits .xor .u32 (st.f : Int) (st.g : Int))) = ((chF st.e st.f st.g : Nat) : Int) := by
    rw [u32_xor_nat _ _ h.f h.g, u32_and_nat _ _ h.e (xor_lt h.f h.g), u32_xor_nat _ _ h.g (land_lt h.e)]; rfl
  rw [e1]
  unfold rp
  generalize Sg1 st.e = A
  generalize chF st.e st.f st.g = B
  omega

theorem q_bits (st : St) (h : st.ok) :
    ((Sg0 st.a : Nat) + bits .or .u32 (bits .and .u32 (st.a : Int) (st.b : Int)) (bits .and .u32 (st.c : Int) (bits .or .u32 (st.a : Int) (st.b : Int)))) % 4294967296 = (((Sg0 st.a + mjF st.a st.b st.c) % 4294967296 : Nat) : Int) := by
  rw [u32_and_nat _ _ h.a h.b, u32_or_nat _ _ h.a h.b, u32_and_nat _ _ h.c (lor_lt h.a h.b), u32_or_nat _ _ (land_lt h.a) (land_lt h.c)]
  unfold mjF
  simp

theorem new_d (st : St) (k x : Nat) (h : st.ok) : ((st.d : Int) + (↑st.h + ↑(Sg1 st.e) + bits BinOp.xor IntKind.u32 (↑st.g) (bits BinOp.and IntKind.u32 (↑st.e) (bits BinOp.xor IntKind.u32 ↑st.f ↑st.g)) + ↑k + ↑x : Int)) % 4294967296 = (((st.d + (rp st k x + x) % 4294967296) % 4294967296 : Nat) : Int) := by
  have hp := p_bits st k x h
  generalize (↑st.h + ↑(Sg1 st.e) + bits BinOp.xor IntKind.u32 (↑st.g) (bits BinOp.and IntKind.u32 (↑st.e) (bits BinOp.xor IntKind.u32 ↑st.f ↑st.g)) + ↑k + ↑x : Int) = P at *
  omega

theorem new_a (st : St) (k x : Nat) (h : st.ok) : ((↑st.h + ↑(Sg1 st.e) + bits BinOp.xor IntKind.u32 (↑st.g) (bits BinOp.and IntKind.u32 (↑st.e) (bits BinOp.xor IntKind.u32 ↑st.f ↑st.g)) + ↑k + ↑x : Int) + (↑(Sg0 st.a) + bits BinOp.or IntKind.u32 (bits BinOp.and IntKind.u32 ↑st.a ↑st.b) (bits BinOp.and IntKind.u32 (↑st.c) (bits BinOp.or IntKind.u32 ↑st.a ↑st.b)) : Int)) % 4294967296 = ((((rp st k x + x) % 4294967296 + (Sg0 st.a + mjF st.a st.b st.c) % 4294967296) % 4294967296 : Nat) : Int) := by
  have hp := p_bits st k x h
  have hq := q_bits st h
  generalize (↑st.h + ↑(Sg1 st.e) + bits BinOp.xor IntKind.u32 (↑st.g) (bits BinOp.and IntKind.u32 (↑st.e) (bits BinOp.xor IntKind.u32 ↑st.f ↑st.g)) + ↑k + ↑x : Int) = P at *
  generalize (↑(Sg0 st.a) + bits BinOp.or IntKind.u32 (bits BinOp.and IntKind.u32 ↑st.a ↑st.b) (bits BinOp.and IntKind.u32 (↑st.c) (bits BinOp.or IntKind.u32 ↑st.a ↑st.b)) : Int) = Q at *
  omega

theorem d_grown_below {w w1 : World} {r : Option Nat} (h : Below w.heap.size w w1) : w.grownBy w1 r := ⟨h.os, h.tape, h.output, h.size, fun k hk _ => h.block k hk⟩

theorem Calls.same {P : Program} {f : FuncId} {args : Array Value} {w : World} {v : Value} (h : Calls P f args w fun e w' => e = .returned v ∧ w = w') : Calls P f args w fun e w' => e = .returned v ∧ w' = w :=
  h.mono fun _ _ ⟨he, hw⟩ => ⟨he, hw.symm⟩

theorem eight_cells {w : World} {R : Nat} {s : St} {t : TypeId} {fr : Nat × Nat} (h : w.heap[R]? = some (.cells (wrow s.toL) t fr)) :
    w.cell? ⟨R, 0, none⟩ = some (.int .u32 (s.a : Int)) ∧ w.cell? ⟨R, 1, none⟩ = some (.int .u32 (s.b : Int)) ∧ w.cell? ⟨R, 2, none⟩ = some (.int .u32 (s.c : Int)) ∧ w.cell? ⟨R, 3, none⟩ = some (.int .u32 (s.d : Int)) ∧
    w.cell? ⟨R, 4, none⟩ = some (.int .u32 (s.e : Int)) ∧ w.cell? ⟨R, 5, none⟩ = some (.int .u32 (s.f : Int)) ∧ w.cell? ⟨R, 6, none⟩ = some (.int .u32 (s.g : Int)) ∧ w.cell? ⟨R, 7, none⟩ = some (.int .u32 (s.h : Int)) :=
  ⟨wrow_cell (j := 0) h (by simp [St.toL]), wrow_cell (j := 1) h (by simp [St.toL]), wrow_cell (j := 2) h (by simp [St.toL]), wrow_cell (j := 3) h (by simp [St.toL]), wrow_cell (j := 4) h (by simp [St.toL]), wrow_cell (j := 5) h (by simp [St.toL]), wrow_cell (j := 6) h (by simp [St.toL]), wrow_cell (j := 7) h (by simp [St.toL])⟩

structure Filled (w : World) (N : Nat) (ws : List Nat) (k : Nat) (wr : World) : Prop where
  below : Below N w wr
  row : wr.heap[N]? = some (.cells (wrow (ws.take k ++ List.replicate (64 - k) 0)) 127 (0, 0))

structure Sched (w : World) (N : Nat) (ws : List Nat) (t : Nat) (wr : World) : Prop where
  below : Below N w wr
  row : wr.heap[N]? = some (.cells (wrow (sched (t - 16) ws ++ List.replicate (64 - t) 0)) 127 (0, 0))

theorem below_drewN {B n : Nat} {a w : World} (h : Below B a w) : Below B a (w.drewN n) := ⟨h.os, h.tape, h.output, h.size, h.block⟩

theorem src7 {w : World} {V : Nat} {s : St} {t : TypeId} {fr : Nat × Nat} (h : w.heap[V]? = some (.cells (wrow s.toL) t fr)) :
    ∀ j v, ([.int .u32 s.a, .int .u32 s.b, .int .u32 s.c, .int .u32 s.d, .int .u32 s.e, .int .u32 s.f, .int .u32 s.g] : List Value)[j]? = some v → w.cell? ((⟨V, 0, none⟩ : Addr).add j) = some v := by
  intro j v hv
  obtain ⟨r0, r1, r2, r3, r4, r5, r6, r7⟩ := eight_cells h
  rw [Addr.add_lit, Nat.zero_add]
  match j, hv with
  | 0, hv => injection hv with hv; subst hv; exact r0
  | 1, hv => injection hv with hv; subst hv; exact r1
  | 2, hv => injection hv with hv; subst hv; exact r2
  | 3, hv => injection hv with hv; subst hv; exact r3
  | 4, hv => injection hv with hv; subst hv; exact r4
  | 5, hv => injection hv with hv; subst hv; exact r5
  | 6, hv => injection hv with hv; subst hv; exact r6
  | j + 7, hv => simp at hv

theorem one7 (a b c d e f g : Int) : ∀ v ∈ ([.int .u32 a, .int .u32 b, .int .u32 c, .int .u32 d, .int .u32 e, .int .u32 f, .int .u32 g] : List Value), v.oneCell' = true := by
  intro v hv
  simp only [List.mem_cons, List.not_mem_nil, or_false] at hv
  rcases hv with h | h | h | h | h | h | h <;> subst h <;> rfl

/-- s with its first k words raised by fin's -/
structure Added (w : World) (R V : Nat) (s fin : St) (k : Nat) (wr : World) : Prop where
  grown : w.grownBy wr (some R)
  row : wr.heap[R]? = some (.cells (wrow ((s.add fin).toL.take k ++ s.toL.drop k)) 113 (0, 0))
  other : wr.heap[V]? = some (.cells (wrow fin.toL) 113 (0, 0))

theorem added_get (s fin : St) (k : Nat) (h : k < 8) : ((s.add fin).toL.take k ++ s.toL.drop k).getD k 0 = s.toL.getD k 0 := by
  match k, h with
  | 0, _ => rfl | 1, _ => rfl | 2, _ => rfl | 3, _ => rfl | 4, _ => rfl | 5, _ => rfl | 6, _ => rfl | 7, _ => rfl

theorem added_set (s fin : St) (k : Nat) (h : k < 8) : ((s.add fin).toL.take k ++ s.toL.drop k).set k ((s.toL.getD k 0 + fin.toL.getD k 0) % 4294967296) = (s.add fin).toL.take (k + 1) ++ s.toL.drop (k + 1) := by
  match k, h with
  | 0, _ => rfl | 1, _ => rfl | 2, _ => rfl | 3, _ => rfl | 4, _ => rfl | 5, _ => rfl | 6, _ => rfl | 7, _ => rfl

structure Mixed (w : World) (V : Nat) (s : St) (wr : World) : Prop where
  below : Below V w wr
  row : wr.heap[V]? = some (.cells (wrow s.toL) 113 (0, 0))

theorem filled_set {ws : List Nat} (h : ws.length = 16) (k : Nat) (hk : k < 16) : (ws.take k ++ List.replicate (64 - k) 0).set k (ws.getD k 0) = ws.take (k + 1) ++ List.replicate (64 - (k + 1)) 0 := by
  have h3 : (ws.take k).length = k := by rw [List.length_take]; omega
  have e1 : 64 - k = (64 - (k + 1)) + 1 := by omega
  have e2 : ws.getD k 0 = ws[k] := by simp [List.getD, h, hk]
  rw [List.set_append_right _ _ (by omega), h3, Nat.sub_self, e1, List.replicate_succ, List.set_cons_zero, List.take_succ_eq_append_getElem (by omega), e2, List.append_assoc, List.singleton_append]

theorem sched_set {ws : List Nat} (h : ws.length = 16) (t : Nat) (h16 : 16 ≤ t) (ht : t < 64) :
    (sched (t - 16) ws ++ List.replicate (64 - t) 0).set t (nextF ((sched (t - 16) ws ++ List.replicate (64 - t) 0).getD (t - 16) 0) ((sched (t - 16) ws ++ List.replicate (64 - t) 0).getD (t - 15) 0) ((sched (t - 16) ws ++ List.replicate (64 - t) 0).getD (t - 7) 0) ((sched (t - 16) ws ++ List.replicate (64 - t) 0).getD (t - 2) 0)) =
    sched (t + 1 - 16) ws ++ List.replicate (64 - (t + 1)) 0 := by
  have hl : (sched (t - 16) ws).length = t := by rw [sched_length, h]; omega
  have e1 : 64 - t = (64 - (t + 1)) + 1 := by omega
  have e2 : t + 1 - 16 = (t - 16) + 1 := by omega
  have g : ∀ j, j < t → (sched (t - 16) ws ++ List.replicate (64 - t) 0).getD j 0 = (sched (t - 16) ws).getD j 0 := fun j hj => by
    simp only [List.getD]
    rw [List.getElem?_append_left (by omega)]
  rw [g _ (by omega), g _ (by omega), g _ (by omega), g _ (by omega), e2, sched_succ, List.set_append_right _ _ (by omega), hl, Nat.sub_self, e1, List.replicate_succ, List.set_cons_zero, List.append_assoc, List.singleton_append]
  congr 2
  unfold nextW nextF
  rw [hl]

theorem wpart4 (l : List UInt8) (h : l.length = 4) : wpart l 4 = be32 (l[0]'(by omega)) (l[1]'(by omega)) (l[2]'(by omega)) (l[3]'(by omega)) := by
  match l, h with
  | [a, b, c, d], _ => exact wpart_be a b c d

set_option maxRecDepth 100000 in
set_option maxHeartbeats 1600000 in
theorem absorb_any {tk : TypeId} (w : World) (R D off cap : Nat) (s : St) (hs : s.ok) (blk : List UInt8) (hl : blk.length = 64) (hc : 64 ≤ cap) (hcap : cap ≤ 9223372036854775807)
    (hR : R < w.heap.size) (hD : D < w.heap.size) (_hDR : D ≠ R) (_hR1 : R ≠ 1)
    (hS : w.heap[R]? = some (.cells (wrow s.toL) 113 (0, 0)))
    (hK : w.heap[1]? = some (.cells (wrow kTab) tk (0, 0)))
    (hb : ∀ i (h : i < 64), w.cell? ⟨D, off + i, none⟩ = some (.int .u8 ((blk[i]'(by omega)).toNat : Int))) :
    Calls Tryd.prog 90 #[.pointer (some ⟨R, 0, none⟩), .slice (some ⟨D, off, none⟩) 64 cap] w fun e w' => e = .returned (.tuple #[]) ∧ w.grownBy w' (some R) ∧ w'.heap[R]? = some (.cells (wrow (compress s blk).toL) 113 (0, 0)) := by
  have h1w : 1 < w.heap.size := (Array.getElem?_eq_some_iff.1 hK).1
  obtain ⟨ws, hws'⟩ : ∃ ws, Hid (ws = wordsOf blk) := ⟨_, Lib.hid rfl⟩
  have hws := hws'.out
  have hwl : ws.length = 16 := by rw [hws]; exact wordsOf_length 16 blk hl
  have hblk : Hid (∀ w', Below w.heap.size w w' → ∀ k, k < 16 → ∃ l : List UInt8, ∃ hl4 : l.length = 4, wpart l 4 = ws.getD k 0 ∧ ∀ i (h : i < 4), w'.cell? ⟨D, off + 4 * k + i, none⟩ = some (.int .u8 ((l[i]'(by omega)).toNat : Int))) := Lib.hid fun w' hb' k hk => by
    refine ⟨[blk[4 * k], blk[4 * k + 1], blk[4 * k + 2], blk[4 * k + 3]], rfl, ?_, fun i hi => ?_⟩
    · rw [wpart_be]
      have e2 : ws.getD k 0 = ws[k] := by simp [List.getD, hwl, hk]
      rw [e2]
      subst hws
      exact (wordsOf_get 16 blk k hl hk).symm
    · rw [World.cell?_of_block (w := w) (a := ⟨D, off + 4 * k + i, none⟩) (hb'.block D hD), Nat.add_assoc, hb (4 * k + i) (by omega)]
      match i, hi with
      | 0, _ => rfl
      | 1, _ => rfl
      | 2, _ => rfl
      | 3, _ => rfl
  have hwlt : ∀ x ∈ ws, x < 4294967296 := by rw [hws]; exact wordsOf_lt blk
  clear hb hws
  go_enter Tryd.func90, Tryd.ntmps90
  go_wp2_with fail
  go_loopw [14] (fun i wr => ∃ k : Nat, k ≤ 16 ∧ i = .int .i64 k ∧ Filled w w.heap.size ws k wr) (fun i _ => 16 - (intOf i).toNat)
  case atStart =>
    refine ⟨0, by omega, rfl, (Below.refl _ _).alloc (Nat.le_refl _) _, ?_⟩
    rw [heap_alloc_new]; kernel_rfl
  case round =>
    obtain ⟨k, hk, rfl, hf⟩ := hrel
    by_cases hlt : k < 16
    · obtain ⟨l, hl4, hlw, hlc⟩ := hblk.out wr hf.below k hlt
      have HLW := Lib.hid hlw
      clear hlw
      have hr := hf.row
      obtain ⟨C, hC⟩ : ∃ C, C = ws.take k ++ List.replicate (64 - k) 0 := ⟨_, rfl⟩
      rw [← hC] at hr
      have hCl : C.length = 64 := by rw [hC]; simp; omega
      have hold := wrow_cell hr (j := k) (by omega)
      have hfree : wr.frozen? ⟨w.heap.size, k, none⟩ = false := frozen_at hr
      go_wp2_with fail
      refine (word_any wr D (off + 4 * k) (64 - 4 * k) (cap - 4 * k) l hl4 (by omega) (by omega) hlc).mono ?_
      rintro e w' ⟨rfl, rfl⟩
      go_wp2_with fail
      refine ⟨⟨k + 1, by omega, by go_num, hf.below.setCell (Nat.le_refl _) _, ?_⟩, by simp [intOf]; omega⟩
      rw [HLW.out, d_setCell_heap hr, wrow_set, hC]
      congr 3
      rw [filled_set hwl k hlt]
    · have hk16 : k = 16 := by omega
      subst hk16
      have hbel := hf.below
      have hrow := hf.row
      clear hf
      go_wp2_with fail
      rw [show ws.take 16 = ws from List.take_of_length_le (by omega)] at hrow
      go_loopw [6] (fun i wr => ∃ t : Nat, 16 ≤ t ∧ t ≤ 64 ∧ i = .int .i64 t ∧ Sched w w.heap.size ws t wr) (fun i _ => 64 - (intOf i).toNat)
      case atStart => exact ⟨16, by omega, by omega, rfl, hbel, hrow⟩
      case round =>
        clear hbel hrow
        obtain ⟨t, ht16, ht64, rfl, hf⟩ := hrel
        by_cases hlt : t < 64
        · have hr := hf.row
          obtain ⟨C, hC⟩ : ∃ C, C = sched (t - 16) ws ++ List.replicate (64 - t) 0 := ⟨_, rfl⟩
          rw [← hC] at hr
          have hsl : (sched (t - 16) ws).length = t := by rw [sched_length, hwl]; omega
          have hCl : C.length = 64 := by rw [hC]; simp; omega
          have hlt4 := sched_lt (t - 16) ws hwlt
          have hC4 : ∀ (j : Nat) (hj : j < 64), C.getD j 0 < 4294967296 := fun j hj => by
            have : C.getD j 0 = C[j] := by simp [List.getD, hCl, hj]
            rw [this]
            subst hC
            rw [List.getElem_append]
            split
            · exact hlt4 _ (List.getElem_mem _)
            · rw [List.getElem_replicate]; decide
          have c15 := wrow_cell hr (j := t - 15) (by omega)
          have c2 := wrow_cell hr (j := t - 2) (by omega)
          obtain ⟨x15, h15⟩ : ∃ x, x = C.getD (t - 15) 0 := ⟨_, rfl⟩
          obtain ⟨x2, h2⟩ : ∃ x, x = C.getD (t - 2) 0 := ⟨_, rfl⟩
          have b15 : x15 < 4294967296 := by rw [h15]; exact hC4 _ (by omega)
          have b2 : x2 < 4294967296 := by rw [h2]; exact hC4 _ (by omega)
          rw [← h15] at c15; rw [← h2] at c2
          have H15 := Lib.hid h15; have H2 := Lib.hid h2; have HC := Lib.hid hC
          clear hC4 hlt4 h15 h2 hC
          go_wp2_with fail
          go_quiet (fail)
          go_wp2_with fail
          have row2 : (wr.drewN nq).heap[w.heap.size]? = some (.cells (wrow C) 127 (0, 0)) := hr
          have bel2 : Below w.heap.size w (wr.drewN nq) := below_drewN hf.below
          clear hr hf c15 c2
          generalize wr.drewN nq = w2 at *
          have hr : w2.drew.heap[w.heap.size]? = some (.cells (wrow C) 127 (0, 0)) := row2
          obtain ⟨T16, hT16⟩ : ∃ T, T = t - 16 := ⟨_, rfl⟩
          obtain ⟨T7, hT7⟩ : ∃ T, T = t - 7 := ⟨_, rfl⟩
          have c16 := wrow_cell hr (j := T16) (by omega)
          have c7 := wrow_cell hr (j := T7) (by omega)
          have c0 := wrow_cell hr (j := t) (by omega)
          obtain ⟨x16, h16⟩ : ∃ x, x = C.getD (T16) 0 := ⟨_, rfl⟩
          obtain ⟨x7, h7⟩ : ∃ x, x = C.getD (T7) 0 := ⟨_, rfl⟩
          rw [← h16] at c16; rw [← h7] at c7
          have hfree : w2.drew.frozen? ⟨w.heap.size, t, none⟩ = false := frozen_at hr
          have b16 : (T16 : Int) < 64 := by omega
          have b7' : (T7 : Int) < 64 := by omega
          have i16 : IntKind.i64.wrap ((t : Int) - 16) = (T16 : Int) := by rw [hT16]; rw [IntWalk.i64_in _ (by omega)]; omega
          have i7 : IntKind.i64.wrap ((t : Int) - 7) = (T7 : Int) := by rw [hT7]; rw [IntWalk.i64_in _ (by clear i16; omega)]; clear i16; omega
          have H16 := Lib.hid h16; have H7 := Lib.hid h7; have HT16 := Lib.hid hT16; have HT7 := Lib.hid hT7
          clear h16 h7 row2 hT16 hT7
          refine wp_region_still_tail 29 (by kernel_rfl) (by kernel_rfl) ?_
          simp only [List.take_succ_cons, List.take_zero, List.drop_succ_cons, List.drop_zero]
          repeat still_step
          still_call (Calls.same (rotl_7 x15 b15 _))
          repeat still_step
          still_call (Calls.same (rotl_18 x15 b15 _))
          repeat still_step
          still_call (Calls.same (rotl_17 x2 b2 _))
          repeat still_step
          still_call (Calls.same (rotl_19 x2 b2 _))
          repeat still_step
          refine wpStill_nil ?_
          change wpList _ _ _ _ _ w2.drew
          have bel3 : Below w.heap.size w w2.drew := bel2.drew
          have row3 := hr
          clear hr bel2 i16 i7 c16 c7
          generalize w2.drew = w3 at *
          go_wp2_with fail
          refine ⟨?_, by simp [intOf]; omega⟩
          refine ⟨_, _, _, _, _, _, _, _, _, _, _, _, _, _, _, _, _, _, _, _, _, _, _, _, _, _, _, _, _, _, _, _, _, _, _, _, _, _, _, _, _, _, _, _, ?_, rfl⟩
          refine ⟨t + 1, by omega, by omega, by go_num, bel3.setCell (Nat.le_refl _) _, ?_⟩
          rw [nextF_bits x16 x15 x7 x2 b15 b2, d_setCell_heap row3, wrow_set, HC.out]
          congr 3
          rw [H15.out, H2.out, H16.out, H7.out, HT16.out, HT7.out, HC.out]
          exact sched_set hwl t ht16 hlt
        · have ht : t = 64 := by omega
          subst ht
          have hbel := hf.below
          have hrow := hf.row
          obtain ⟨r0, r1, r2, r3, r4, r5, r6, r7⟩ := eight_cells (hf.below.block R hR ▸ hS)
          clear hf
          go_wp2_with fail
          rename World => w1
          obtain ⟨W, hW⟩ : ∃ W, Hid (W = sched 48 ws) := ⟨_, Lib.hid rfl⟩
          have hWl : W.length = 64 := by rw [hW.out, sched_length, hwl]
          have hWlt : ∀ x ∈ W, x < 4294967296 := by rw [hW.out]; exact sched_lt 48 ws hwlt
          have hrW : w1.heap[w.heap.size]? = some (.cells (wrow W) 127 (0, 0)) := by rw [hrow, hW.out]; simp
          have hNV : w.heap.size < w1.heap.size := (Array.getElem?_eq_some_iff.1 hrow).1
          have hKr : w1.heap[1]? = some (.cells (wrow kTab) tk (0, 0)) := (hbel.block 1 h1w).trans hK
          have hSr : w1.heap[R]? = some (.cells (wrow s.toL) 113 (0, 0)) := (hbel.block R hR).trans hS
          clear r0 r1 r2 r3 r4 r5 r6 r7 hrow
          go_loopw [69] (fun i wr2 => ∃ t : Nat, t ≤ 64 ∧ i = .int .i64 t ∧ Mixed w1 w1.heap.size (rounds s (kTab.take t) (W.take t)) wr2) (fun i _ => 64 - (intOf i).toNat)
          case atStart =>
            refine ⟨0, by omega, rfl, (Below.refl _ _).alloc (Nat.le_refl _) _, ?_⟩
            rw [heap_alloc_new]; rfl
          case round =>
            obtain ⟨t, ht, rfl, hf⟩ := hrel
            by_cases hlt : t < 64
            · obtain ⟨st, hst⟩ : ∃ st, st = rounds s (kTab.take t) (W.take t) := ⟨_, rfl⟩
              have hok : st.ok := by rw [hst]; exact rounds_ok _ _ hs
              have hr := hf.row
              rw [← hst] at hr
              obtain ⟨r0, r1, r2, r3, r4, r5, r6, r7⟩ := eight_cells hr
              have hrK : wr.heap[1]? = some (.cells (wrow kTab) tk (0, 0)) := (hf.below.block 1 (by omega)).trans hKr
              have hrN : wr.heap[w.heap.size]? = some (.cells (wrow W) 127 (0, 0)) := (hf.below.block _ hNV).trans hrW
              have cK := wrow_cell hrK (j := t) (by rw [kTab_length]; omega)
              have cW := wrow_cell hrN (j := t) (by omega)
              obtain ⟨kk, hkk⟩ : ∃ x, x = kTab.getD t 0 := ⟨_, rfl⟩
              obtain ⟨xx, hxx⟩ : ∃ x, x = W.getD t 0 := ⟨_, rfl⟩
              rw [← hkk] at cK; rw [← hxx] at cW
              have HK := Lib.hid hkk; have HX := Lib.hid hxx; have HST := Lib.hid hst
              clear hkk hxx hst
              go_wp2_with fail
              go_quiet ((go_at_call 103; refine Calls.quiet_of_same (Calls.same (rotated_e st.e hok.e _))))
              have row2 : (wr.drewN nq).heap[w1.heap.size]? = some (.cells (wrow st.toL) 113 (0, 0)) := hr
              have bel2 : Below w1.heap.size w1 (wr.drewN nq) := below_drewN hf.below
              clear hr hf r0 r1 r2 r3 r4 r5 r6 r7 cK cW hrK hrN
              generalize wr.drewN nq = w2 at *
              clear nq
              obtain ⟨r0, r1, r2, r3, r4, r5, r6, r7⟩ := eight_cells row2
              go_wp2_with fail
              go_quiet ((go_at_call 103; refine Calls.quiet_of_same (Calls.same (rotated_a st.a hok.a _))))
              have row3 : (w2.drewN nq).heap[w1.heap.size]? = some (.cells (wrow st.toL) 113 (0, 0)) := row2
              have bel3 : Below w1.heap.size w1 (w2.drewN nq) := below_drewN bel2
              clear row2 bel2 r0 r1 r2 r3 r4 r5 r6 r7
              generalize w2.drewN nq = w3 at *
              go_wp2_with fail
              go_still_tail 2, (by kernel_rfl)
              change wpList _ _ _ _ _ w3.drew
              have row4 : w3.drew.heap[w1.heap.size]? = some (.cells (wrow st.toL) 113 (0, 0)) := row3
              have bel4 : Below w1.heap.size w1 w3.drew := bel3.drew
              clear row3 bel3
              generalize w3.drew = w4 at *
              refine wpList_copy_own rfl (.tmp 116) (.tmp 117) 131 131 rfl 111 rfl rfl w1.heap.size 1 7 7 ⟨w1.heap.size, 0, none⟩ 7 8 rfl rfl (wrow st.toL) 113 row4 [.int .u32 st.a, .int .u32 st.b, .int .u32 st.c, .int .u32 st.d, .int .u32 st.e, .int .u32 st.f, .int .u32 st.g] rfl ?_ (by simp [wrow, St.toL]) ?_ ?_
              · exact src7 row4
              · exact one7 _ _ _ _ _ _ _
              · have row5 : (w4.setRow w1.heap.size #[.int .u32 st.a, .int .u32 st.a, .int .u32 st.b, .int .u32 st.c, .int .u32 st.d, .int .u32 st.e, .int .u32 st.f, .int .u32 st.g]).heap[w1.heap.size]? = some (.cells #[.int .u32 st.a, .int .u32 st.a, .int .u32 st.b, .int .u32 st.c, .int .u32 st.d, .int .u32 st.e, .int .u32 st.f, .int .u32 st.g] 113 (0, 0)) := setRow_heap _ _ _ _ _ _ row4
                have bel5 := below_setRow bel4 (Nat.le_refl _) #[.int .u32 st.a, .int .u32 st.a, .int .u32 st.b, .int .u32 st.c, .int .u32 st.d, .int .u32 st.e, .int .u32 st.f, .int .u32 st.g]
                change wpList _ _ _ _ _ (w4.setRow w1.heap.size #[.int .u32 st.a, .int .u32 st.a, .int .u32 st.b, .int .u32 st.c, .int .u32 st.d, .int .u32 st.e, .int .u32 st.f, .int .u32 st.g])
                clear row4 bel4
                generalize w4.setRow w1.heap.size #[.int .u32 st.a, .int .u32 st.a, .int .u32 st.b, .int .u32 st.c, .int .u32 st.d, .int .u32 st.e, .int .u32 st.f, .int .u32 st.g] = w5 at *
                have v4 : w5.cell? ⟨w1.heap.size, 4, none⟩ = some (.int .u32 st.d) := by simp [World.cell?, row5]
                have v0 : w5.cell? ⟨w1.heap.size, 0, none⟩ = some (.int .u32 st.a) := by simp [World.cell?, row5]
                have f4 : w5.frozen? ⟨w1.heap.size, 4, none⟩ = false := frozen_at row5
                have f0 : w5.frozen? ⟨w1.heap.size, 0, none⟩ = false := frozen_at row5
                go_wp2_with fail
                refine ⟨?_, by simp [intOf]; omega⟩
                refine ⟨_, _, _, _, _, _, _, _, _, _, _, _, _, _, _, _, _, _, _, _, _, _, _, _, _, _, _, _, _, _, _, _, _, _, _, _, _, _, _, _, _, _, _, _, _, _, _, _, _, _, _, _, _, _, _, _, _, _, _, _, _, _, _, ?_, rfl⟩
                refine ⟨t + 1, by omega, by go_num, (bel5.setCell (Nat.le_refl _) _).setCell (Nat.le_refl _) _, ?_⟩
                rw [d_setCell_heap (d_setCell_heap row5), new_d st kk xx hok, new_a st kk xx hok, rounds_succ t s kTab W (by rw [kTab_length]; omega) (by omega), ← HST.out,
                  show kTab[t]'(by rw [kTab_length]; omega) = kk from by rw [HK.out]; simp [List.getD, kTab_length, hlt], show W[t]'(by omega) = xx from by rw [HX.out]; simp [List.getD, hWl, hlt]]
                rfl
            · have ht : t = 64 := by omega
              subst ht
              obtain ⟨fin, hfin⟩ : ∃ fin, Hid (fin = rounds s (kTab.take 64) (W.take 64)) := ⟨_, Lib.hid rfl⟩
              have hrV := hf.row
              rw [← hfin.out] at hrV
              have hbV := hf.below
              have hRr := (hbV.block R (by omega)).trans hSr
              have hVw := (Array.getElem?_eq_some_iff.1 hrV).1
              clear hf
              go_wp2_with fail
              rename World => w6
              go_loopw [129] (fun i wr => ∃ k : Nat, k ≤ 8 ∧ i = .int .i64 k ∧ Added w1 R w1.heap.size s fin k wr) (fun i _ => 8 - (intOf i).toNat)
              case atStart => exact ⟨0, by omega, rfl, d_grown_below hbV, by simpa using hRr, hrV⟩
              case round =>
                obtain ⟨k, hk, rfl, hf⟩ := hrel
                by_cases hlt : k < 8
                · have hr := hf.row
                  have hv := hf.other
                  go_wp2_with fail
                  have hr2 : wr.drew.heap[R]? = _ := hr
                  have hv2 : wr.drew.heap[w1.heap.size]? = _ := hv
                  have cR := wrow_cell hr2 (j := k) (by simp [St.toL]; omega)
                  have cV := wrow_cell hv2 (j := k) (by simp [St.toL]; omega)
                  have hfree : wr.drew.frozen? ⟨R, k, none⟩ = false := frozen_at hr2
                  have e1 : ((s.add fin).toL.take k ++ s.toL.drop k).getD k 0 = s.toL.getD k 0 := added_get _ _ _ hlt
                  rw [e1] at cR
                  obtain ⟨x, hx⟩ : ∃ x, Hid (x = s.toL.getD k 0) := ⟨_, Lib.hid rfl⟩
                  obtain ⟨y, hy⟩ : ∃ x, Hid (x = fin.toL.getD k 0) := ⟨_, Lib.hid rfl⟩
                  rw [← hx.out] at cR
                  rw [← hy.out] at cV
                  have k0 : (0 : Int) ≤ (k : Int) := by omega
                  have k8 : (k : Int) < 8 := by omega
                  clear hr hv e1
                  have hgr := hf.grown
                  clear hf
                  go_still_tail 11, (by kernel_rfl)
                  change wpList _ _ _ _ _ wr.drew
                  have hgr2 : w1.grownBy wr.drew (some R) := ⟨hgr.os, hgr.tape, hgr.output, hgr.size, hgr.block⟩
                  clear hgr
                  generalize wr.drew = w7 at *
                  go_wp2_with fail
                  refine ⟨?_, by simp [intOf]; omega⟩
                  refine ⟨_, _, _, _, _, _, _, _, _, _, _, _, _, _, _, _, ?_, rfl⟩
                  refine ⟨k + 1, by omega, by go_num, d_grown_trans hgr2 (d_grown_setCell _ _ _ _), ?_, ?_⟩
                  · rw [d_setCell_heap hr2, show ((x : Int) + (y : Int)) % 4294967296 = (((x + y) % 4294967296 : Nat) : Int) from by omega, wrow_set, hx.out, hy.out, added_set s fin k hlt]
                  · exact (Below.heap_setCell _ _ _ _ (show w1.heap.size ≠ R by omega)).trans hv2
                · have hk8 : k = 8 := by omega
                  subst hk8
                  go_wp2_with fail
                  go_end0
                  refine ⟨rfl, d_grown_trans (d_grown_below hbel) hf.grown, ?_⟩
                  rw [hf.row]
                  have e1 : (s.add fin).toL.take 8 ++ s.toL.drop 8 = (compress s blk).toL := by
                    have e2 : kTab.take 64 = kTab := List.take_of_length_le (by rw [kTab_length]; omega)
                    have e3 : W.take 64 = W := List.take_of_length_le (by omega)
                    rw [e2, e3, hW.out, hws'.out] at hfin
                    unfold compress
                    rw [← hfin.out]
                    rfl
                  rw [e1]

end Go.Proofs.YtjhecmmbpmpmgaaDoor

namespace Go.Proofs.YtjhecmmbpmpmgaaDoor
open Go.RowKit Go.Lib

/-- The value v reads as the bytes l; they lie in a block of S. -/
def Bs (w : World) (S : Nat → Prop) (l : List UInt8) (v : Value) : Prop :=
  ∃ A cap, v = .slice A l.length cap ∧ l.length ≤ cap ∧ cap ≤ 9223372036854775807 ∧
    (0 < l.length → ∃ b off, A = some ⟨b, off, none⟩ ∧ S b ∧ ∀ i (h : i < l.length), w.cell? ⟨b, off + i, none⟩ = some (.int .u8 (l[i].toNat : Int)))

theorem Bs.frame {w w' : World} {S S' : Nat → Prop} {l : List UInt8} {v : Value} (h : Bs w S l v) (hw : ∀ b, S b → w'.heap[b]? = w.heap[b]?) (hS : ∀ b, S b → S' b) : Bs w' S' l v := by
  obtain ⟨A, cap, h1, h2, h3, h4⟩ := h
  refine ⟨A, cap, h1, h2, h3, fun h0 => ?_⟩
  obtain ⟨b, off, e, hb, hc⟩ := h4 h0
  exact ⟨b, off, e, hS b hb, fun i hi => by rw [World.cell?_of_block (w := w) (a := ⟨b, off + i, none⟩) (hw b hb)]; exact hc i hi⟩

theorem strOfNums_u8 (l : List UInt8) : strOfNums (l.map fun c => (c.toNat : Int)) = strOf l := by
  unfold strOfNums strOf
  congr 2
  induction l with
  | nil => rfl
  | cons c l ih => simpa using ih

/-- string(bytes) -/
theorem conv_take {w : World} {b off n : Nat} {l : List UInt8} (hl : l.length = n) (cap : Nat) (h : ∀ i (h : i < l.length), w.cell? ⟨b, off + i, none⟩ = some (.int .u8 (l[i].toNat : Int))) :
    (convert 22 9 (.slice (some ⟨b, off, none⟩) n cap)).run Tryd.prog w = .ok (.string (strOf l)) w := by
  rw [← strOfNums_u8]
  refine run_convert_bytes_arg w 22 5 Tryd.underlying22 Tryd.underlying5 b off n cap _ (by simpa using hl) (fun i hi => ?_) 9 Tryd.underlying9
  rw [h i (by omega)]
  simp [List.getD, List.getElem?_eq_getElem (show i < l.length by omega)]

theorem conv_none (w : World) (A : Option Addr) (cap : Nat) : (convert 22 9 (.slice A 0 cap)).run Tryd.prog w = .ok (.string (strOf [])) w := by
  cases A with
  | none => exact run_convert_bytes_nil w 22 5 Tryd.underlying22 Tryd.underlying5 0 cap 9 Tryd.underlying9
  | some a =>
    rw [run_convert_bytes_string w 22 9 5 (some a) 0 cap Tryd.underlying22 Tryd.underlying5 Tryd.underlying9, run_bytesToString w a 0 cap [] rfl]
    rfl

theorem Bs.form {w : World} {S : Nat → Prop} {l : List UInt8} {v : Value} (h : Bs w S l v) : ∃ A cap, v = .slice A l.length cap ∧ l.length ≤ cap ∧ cap ≤ 9223372036854775807 := by
  obtain ⟨A, cap, h1, h2, h3, _⟩ := h
  exact ⟨A, cap, h1, h2, h3⟩

/-- string(bytes) -/
theorem Bs.conv {w : World} {S : Nat → Prop} {l : List UInt8} {v : Value} (h : Bs w S l v) : (convert 22 9 v).run Tryd.prog w = .ok (.string (strOf l)) w := by
  obtain ⟨A, cap, rfl, h2, h3, h4⟩ := h
  by_cases h0 : 0 < l.length
  · obtain ⟨b, off, rfl, _, hc⟩ := h4 h0
    exact conv_take rfl cap hc
  · have : l = [] := List.eq_nil_of_length_eq_zero (by omega)
    subst this
    exact conv_none w A cap

theorem Tryd.elemU8 : Tryd.prog.elem 22 = 5 := by kernel_rfl
theorem Tryd.sizeU8 (w : World) : (sizeOf 5).run Tryd.prog w = .ok 1 w := by kernel_rfl

/-- a part of bytes -/
theorem sub_bytes {w : World} {S : Nat → Prop} {B : List UInt8} {A : Option Addr} {cap : Nat} (h : Bs w S B (.slice A B.length cap)) (lo n : Nat) (hle : lo + n ≤ B.length) :
    ∃ A', (∀ w' : World, (Instr.slice 22 (.slice A B.length cap) (some (.int .i64 lo)) (some (.int .i64 ((lo : Int) + n))) none).run Tryd.prog w' = .ok (.slice A' n (cap - lo)) w') ∧ Bs w S ((B.drop lo).take n) (.slice A' n (cap - lo)) := by
  obtain ⟨A0, cap0, e, h2, h3, h4⟩ := h
  injection e with e1 e2 e3
  subst e1 e3
  have hlen : ((B.drop lo).take n).length = n := by simp; omega
  have hr : ∀ w' : World, (Instr.slice 22 (.slice A B.length cap) (some (.int .i64 lo)) (some (.int .i64 ((lo : Int) + n))) none).run Tryd.prog w' = .ok (.slice (if cap = lo then A else A.map (·.add (lo * 1))) n (cap - lo)) w' := by
    intro w'
    rw [run_slice_lh w' 22 A B.length cap (by rw [Tryd.elemU8]; exact Tryd.underlying22) .i64 .i64 (lo : Int) ((lo : Int) + n) (by omega) (by omega) (by omega), Tryd.elemU8, Tryd.sizeU8]
    simp only [Result.andThen_ok, sliced]
    congr 2 <;> omega
  refine ⟨_, hr, _, cap - lo, by rw [hlen], by rw [hlen]; omega, by omega, fun h0 => ?_⟩
  rw [hlen] at h0
  obtain ⟨b, off, rfl, hb, hc⟩ := h4 (by omega)
  rw [if_neg (by omega)]
  refine ⟨b, off + lo, ?_, hb, fun i hi => ?_⟩
  · simp [Addr.add]
  · rw [hlen] at hi
    rw [Nat.add_assoc, hc (lo + i) (by omega)]
    simp

/-- a row of the call's own, as bytes -/
theorem own_bytes {w : World} {l : List UInt8} {v : Value} {B : Nat} (h : w.ownsRow 0 5 1 v l.length (bc l)) (hn : ∀ k, v.ownBlock = some k → B ≤ k) : Bs w (fun b => B ≤ b ∧ b < w.heap.size) l v := by
  rcases h.2 with ⟨h1, h0⟩ | ⟨g, cap, cur, h1, _, hg, hnc, hcm, hcs, htk⟩
  · exact ⟨none, 0, by rw [h1, h0], by omega, by omega, fun h => by omega⟩
  · have hcells := h.cells (g := g) (by rw [h1]; rfl)
    refine ⟨some ⟨g, 0, none⟩, cap, h1, hnc, by unfold maxLen at hcm; omega, fun h0 => ⟨g, 0, rfl, ⟨hn g (by rw [h1]; rfl), (Array.getElem?_eq_some_iff.1 hg).1⟩, fun i hi => ?_⟩⟩
    have := hcells i (.int .u8 (l[i].toNat : Int)) (by simp [bc, List.getElem?_eq_getElem hi])
    rw [Go.WideShapes.add_plain] at this
    exact this

theorem Bs.bound {w : World} {S : Nat → Prop} {l : List UInt8} {v : Value} (h : Bs w S l v) : Bs w (fun b => S b ∧ b < w.heap.size) l v := by
  obtain ⟨A, cap, h1, h2, h3, h4⟩ := h
  refine ⟨A, cap, h1, h2, h3, fun h0 => ?_⟩
  obtain ⟨b, off, e, hb, hc⟩ := h4 h0
  exact ⟨b, off, e, ⟨hb, World.block_lt_of_cell? w _ (hc 0 h0)⟩, hc⟩

def Rb (w : World) (x : V) (v : Value) : Prop := Rd w (fun b => b < w.heap.size) x v
def Bb (w : World) (l : List UInt8) (v : Value) : Prop := Bs w (fun b => b < w.heap.size) l v

theorem Rb.below {w w' : World} {x : V} {v : Value} (h : Rb w x v) (hb : Below w.heap.size w w') : Rb w' x v := Rd.frame h (fun _ hb' => hb.block _ hb') (fun _ hb' => Nat.lt_of_lt_of_le hb' hb.size)
theorem Bb.below {w w' : World} {l : List UInt8} {v : Value} (h : Bb w l v) (hb : Below w.heap.size w w') : Bb w' l v := Bs.frame h (fun _ hb' => hb.block _ hb') (fun _ hb' => Nat.lt_of_lt_of_le hb' hb.size)
theorem Bb.conv {w : World} {l : List UInt8} {v : Value} (h : Bb w l v) : (convert 22 9 v).run Tryd.prog w = .ok (.string (strOf l)) w := Bs.conv h

/-- []byte(string) -/
theorem str_bytes_b (w : World) (s : ByteArray) (hs : s.size ≤ 9000000000000000000) : ∃ cap w', (convert 9 22 (.string s)).run Tryd.prog w = .ok (.slice (some ⟨w.heap.size, 0, none⟩) s.size cap) w' ∧ Below w.heap.size w w' ∧ Bb w' s.data.toList (.slice (some ⟨w.heap.size, 0, none⟩) s.size cap) := by
  refine ⟨_, _, run_bytes_of_string w 9 22 5 s Tryd.underlying9 Tryd.underlying22 Tryd.underlying5, ((Below.refl _ _).drew).alloc (Nat.le_refl _) _, some ⟨w.heap.size, 0, none⟩, _, rfl, grownCap_ge _ _ _ _, ?_, fun _ => ⟨w.heap.size, 0, rfl, by simp, fun i hi => ?_⟩⟩
  · have := grownCap_le_maxLen w s.size 0 5 (by unfold maxLen; omega)
    unfold maxLen at this; omega
  · have hi' : i < s.data.size := by simpa using hi
    have hrow := bytesRow_at s (grownCap w s.size 0 5) i hi'
    have hg : (w.drew.alloc (.cells (bytesRow s (grownCap w s.size 0 5)) 5 ((bytesRow s (grownCap w s.size 0 5)).size, (bytesRow s (grownCap w s.size 0 5)).size + 1))).heap[w.heap.size]? = some (.cells (bytesRow s (grownCap w s.size 0 5)) 5 ((bytesRow s (grownCap w s.size 0 5)).size, (bytesRow s (grownCap w s.size 0 5)).size + 1)) := heap_alloc_new w.drew _
    rw [cell_of_row _ w.heap.size (0 + i) _ _ _ hg, Nat.zero_add, hrow]
    simp

end Go.Proofs.YtjhecmmbpmpmgaaDoor

namespace Go.Proofs.YtjhecmmbpmpmgaaDoor
open Go.RowKit Go.Lib

/-- the digest's tables, as they are laid -/
structure Tabs (w : World) : Prop where
  s : ∃ t, w.heap[0]? = some (.cells (wrow st0.toL) t (0, 0))
  k : ∃ t, w.heap[1]? = some (.cells (wrow kTab) t (0, 0))

def brow (l : List UInt8) : Array Value := (l.map bv).toArray
/-- a digest as a value -/
def dig (l : List UInt8) : Value := .agg (brow l)

/-- the loops' state: the state's block, the result's, all else as it was -/
structure Abs (w : World) (s : St) (wr : World) : Prop where
  below : Below w.heap.size w wr
  row : wr.heap[w.heap.size + 1]? = some (.cells (wrow s.toL) 113 (0, 0))
  out : wr.heap[w.heap.size]? = some (.cells (brow (List.replicate 32 0)) 47 (0, 0))

theorem Abs.step {w : World} {s s' : St} {wr w' : World} (h : Abs w s wr) (hg : wr.grownBy w' (some (w.heap.size + 1))) (hr : w'.heap[w.heap.size + 1]? = some (.cells (wrow s'.toL) 113 (0, 0))) : Abs w s' w' := by
  have hlt : w.heap.size + 1 < wr.heap.size := (Array.getElem?_eq_some_iff.1 h.row).1
  refine ⟨⟨hg.os.trans h.below.os, hg.tape.trans h.below.tape, hg.output.trans h.below.output, Nat.le_trans h.below.size hg.size, fun k hk => ?_⟩, hr, ?_⟩
  · rw [hg.block k (by have := h.below.size; omega) (by intro e; injection e with e; omega)]; exact h.below.block k hk
  · rw [hg.block _ (by omega) (by intro e; injection e with e; omega)]; exact h.out

theorem Abs.tabs {w : World} {s : St} {wr : World} (h : Abs w s wr) (hT : Tabs w) : Tabs wr :=
  ⟨hT.s.imp fun _ e => (h.below.block 0 (Array.getElem?_eq_some_iff.1 e).1).trans e, hT.k.imp fun _ e => (h.below.block 1 (Array.getElem?_eq_some_iff.1 e).1).trans e⟩

/-- new blocks, and the loops' own, alone turn -/
theorem Abs.then {w : World} {s : St} {wr w' : World} (h : Abs w s wr) (hb : Below (w.heap.size + 2) wr w') : Abs w s w' :=
  have hlt : w.heap.size + 1 < wr.heap.size := (Array.getElem?_eq_some_iff.1 h.row).1
  ⟨h.below.trans (hb.mono (by omega)), (hb.block _ (by omega)).trans h.row, (hb.block _ (by omega)).trans h.out⟩

theorem over_map (X cs : List UInt8) (off : Nat) : over (X.map bv) off (cs.map bv) = (X.take off ++ (cs ++ X.drop (off + cs.length))).map bv := by
  simp [over, List.map_take, List.map_drop]

theorem beB8 (x : Nat) : beB 8 x = lenBytes x := by
  simp [beB, lenBytes]

/-- the row behind the loop over whole blocks -/
structure Last (w : World) (E : Nat) (s : St) (LB : List UInt8) (wr : World) : Prop where
  abs : Abs w s wr
  new : w.heap.size + 2 ≤ E
  row : wr.heap[E]? = some (.cells (LB.map bv).toArray 5 (0, 0))

theorem last_step {w : World} {E : Nat} {s : St} {LB : List UInt8} {wr : World} (h : Last w E s LB wr) (hs : s.ok) (hT : Tabs w) (off cap : Nat) (hoff : off + 64 ≤ LB.length) (hc : 64 ≤ cap) (hcap : cap ≤ 128) :
    Calls Tryd.prog 90 #[.pointer (some ⟨w.heap.size + 1, 0, none⟩), .slice (some ⟨E, off, none⟩) 64 cap] wr fun e w' => e = .returned (.tuple #[]) ∧ Last w E (compress s ((LB.drop off).take 64)) LB w' := by
  have hlt : w.heap.size + 1 < wr.heap.size := (Array.getElem?_eq_some_iff.1 h.abs.row).1
  have hE : E < wr.heap.size := (Array.getElem?_eq_some_iff.1 h.row).1
  have hnew := h.new
  obtain ⟨tk, hk⟩ := hT.k
  obtain ⟨tk', hk'⟩ := (h.abs.tabs hT).k
  refine (absorb_any wr (w.heap.size + 1) E off cap s hs ((LB.drop off).take 64) (by rw [List.length_take, List.length_drop]; omega) hc (by omega) hlt hE (by omega) (by have := (Array.getElem?_eq_some_iff.1 hk).1; omega) h.abs.row hk' (fun i hi => ?_)).mono ?_
  · rw [cell_at h.row (by rw [List.length_map]; omega)]
    simp [bv]
  · rintro e w' ⟨rfl, hg, hr⟩
    exact ⟨rfl, h.abs.step hg hr, hnew, (hg.block E hE (by intro e; injection e with e; omega)).trans h.row⟩

theorem beB4 (x : Nat) : beB 4 x = be4 x := by
  simp [beB, be4]

/-- the result, its first words written -/
structure OutR (w : World) (s : St) (i : Nat) (wr : World) : Prop where
  below : Below w.heap.size w wr
  out : wr.heap[w.heap.size]? = some (.cells (brow (s.out.take (4 * i) ++ List.replicate (32 - 4 * i) 0)) 47 (0, 0))

theorem out_row (s : St) (i : Nat) (hi : i < 8) : (s.out.take (4 * i) ++ List.replicate (32 - 4 * i) 0).take (4 * i) ++ (be4 (s.toL.getD i 0) ++ (s.out.take (4 * i) ++ List.replicate (32 - 4 * i) 0).drop (4 * i + (be4 (s.toL.getD i 0)).length)) = s.out.take (4 * (i + 1)) ++ List.replicate (32 - 4 * (i + 1)) 0 := by
  match i, hi with
  | 0, _ => show _ = _; kernel_rfl
  | 1, _ => show _ = _; kernel_rfl
  | 2, _ => show _ = _; kernel_rfl
  | 3, _ => show _ = _; kernel_rfl
  | 4, _ => show _ = _; kernel_rfl
  | 5, _ => show _ = _; kernel_rfl
  | 6, _ => show _ = _; kernel_rfl
  | 7, _ => show _ = _; kernel_rfl

theorem out_put {w : World} {s : St} {i : Nat} {wr : World} (h : OutR w s i wr) (hi : i < 8) (x : Nat) (hx : x = s.toL.getD i 0) (hx2 : x < 4294967296) (off cap : Nat) (ho : off = 4 * i) (hc : cap = 32 - 4 * i) :
    Calls Tryd.prog 91 #[.slice (some ⟨w.heap.size, off, none⟩) 4 cap, .int .u64 x] wr fun e w' => e = .returned (.tuple #[]) ∧ OutR w s (i + 1) w' := by
  subst ho hc
  refine (put_any wr w.heap.size (4 * i) 4 (32 - 4 * i) x _ 47 (by omega) (by omega) (by omega) (by omega) h.out (by simp [out_length]; omega)).mono ?_
  rintro e w' ⟨rfl, hp⟩
  refine ⟨rfl, h.below.grown hp.grown h.below.size (fun k e => by injection e with e; omega), ?_⟩
  rw [hp.row, beB4, over_map, hx, out_row s i hi]
  rfl

theorem slice_dig (N i : Nat) (hi : i < 8) (w : World) : (Instr.sliceAt 47 (.pointer (some ⟨N, 0, none⟩)) (some (.int .i64 (4 * (i : Int)))) (some (.int .i64 (4 * (i : Int) + 4))) none).run Tryd.prog w = .ok (.slice (some ⟨N, 4 * i, none⟩) 4 (32 - 4 * i)) w := by
  match i, hi with
  | 0, _ => show _ = _; kernel_rfl
  | 1, _ => show _ = _; kernel_rfl
  | 2, _ => show _ = _; kernel_rfl
  | 3, _ => show _ = _; kernel_rfl
  | 4, _ => show _ = _; kernel_rfl
  | 5, _ => show _ = _; kernel_rfl
  | 6, _ => show _ = _; kernel_rfl
  | 7, _ => show _ = _; kernel_rfl

theorem dig_size (s : St) : (Tryd.prog.info? 47).map (·.size) = some (brow s.out).size := by kernel_rfl
theorem dig_one (s : St) : (brow s.out).all (·.oneCell') = true := by kernel_rfl

theorem index_st (s : St) (i : Nat) (hi : i < 8) (w : World) : (Instr.index 113 (.agg #[.int .u32 s.a, .int .u32 s.b, .int .u32 s.c, .int .u32 s.d, .int .u32 s.e, .int .u32 s.f, .int .u32 s.g, .int .u32 s.h]) (.int .i64 i)).run Tryd.prog w = .ok (.int .u32 ((s.toL.getD i 0 : Nat) : Int)) w := by
  match i, hi with
  | 0, _ => show _ = _; kernel_rfl
  | 1, _ => show _ = _; kernel_rfl
  | 2, _ => show _ = _; kernel_rfl
  | 3, _ => show _ = _; kernel_rfl
  | 4, _ => show _ = _; kernel_rfl
  | 5, _ => show _ = _; kernel_rfl
  | 6, _ => show _ = _; kernel_rfl
  | 7, _ => show _ = _; kernel_rfl

set_option maxRecDepth 100000 in
set_option maxHeartbeats 1600000 in
theorem sum_any (w : World) (S : Nat → Prop) (hS : ∀ k, S k → k < w.heap.size) (b : List UInt8) (v : Value) (hB : Bs w S b v) (hlen : b.length ≤ 1000000000) (hT : Tabs w) :
    Calls Tryd.prog 66 #[v] w fun e w' => e = .returned (dig (sha b)) ∧ Below w.heap.size w w' := by
  obtain ⟨tk, hk⟩ := hT.k
  have h1w : 1 < w.heap.size := (Array.getElem?_eq_some_iff.1 hk).1
  obtain ⟨ts, hs⟩ := hT.s
  clear hk
  have h0w : 0 < w.heap.size := by omega
  obtain ⟨A, cap, rfl, hlc, hcap, hcells⟩ := hB
  obtain ⟨z0, z1, z2, z3, z4, z5, z6, z7⟩ := eight_cells hs
  clear hs
  obtain ⟨n, hn⟩ : ∃ n, n = b.length := ⟨_, rfl⟩
  have HC := Lib.hid hcells
  clear hcells
  rw [← hn] at hlc hlen ⊢
  have HN := Lib.hid hn
  have HT := Lib.hid hT
  clear hn hT
  go_enter Tryd.func66, Tryd.ntmps66
  go_wp2_with fail
  go_loopw [5] (fun r wr => ∃ (k : Nat) (A' : Option Addr), 64 * k ≤ n ∧ r = .slice A' (n - 64 * k) (cap - 64 * k) ∧ (64 * k < n → ∃ bb off, A = some ⟨bb, off, none⟩ ∧ A' = some ⟨bb, off + 64 * k, none⟩) ∧ Abs w (absorbs k st0 b) wr) (fun r _ => match r with | .slice _ l _ => l | _ => 0)
  case atStart =>
    refine ⟨0, A, by omega, rfl, fun h => ?_, ?_⟩
    · obtain ⟨bb, off, e, _⟩ := HC.out (by rw [← HN.out]; omega)
      exact ⟨bb, off, e, by rw [e]; rfl⟩
    · refine ⟨((Below.refl _ _).alloc (Nat.le_refl _) _).alloc (by simp) _, ?_, ?_⟩
      · rw [show w.heap.size + 1 = (w.alloc _).heap.size from by simp, heap_alloc_new]; rfl
      · rw [Below.heap_alloc _ _ _ (by simp), heap_alloc_new]; rfl
  case round =>
    obtain ⟨k, A', hk, rfl, hA, hf⟩ := hrel
    by_cases hlt : 64 ≤ n - 64 * k
    · obtain ⟨bb, off, hA1, rfl⟩ := hA (by omega)
      have hge : ((n - 64 * k : Nat) : Int) ≥ 64 := by omega
      have hlt2 : w.heap.size + 1 < wr.heap.size := (Array.getElem?_eq_some_iff.1 hf.row).1
      have hn' := HN.out
      obtain ⟨bb', off', e', hSb, hcb⟩ := HC.out (by rw [← hn']; omega)
      rw [hA1] at e'
      injection e' with e'
      injection e' with e1 e2 e3
      subst e1 e2
      have hbb := hS _ hSb
      have hcall := Lib.hid (absorb_any wr (w.heap.size + 1) bb (off + 64 * k) (cap - 64 * k) (absorbs k st0 b) (absorbs_ok _ _ _ st0_ok) ((b.drop (64 * k)).take 64) (by rw [List.length_take, List.length_drop]; omega) (by omega) (by omega)
        hlt2 (by omega) (by omega) (by omega) hf.row (hf.tabs HT.out).k.choose_spec (fun i hi => by
          rw [World.cell?_of_block (w := w) (a := ⟨bb, off + 64 * k + i, none⟩) (hf.below.block _ hbb), Nat.add_assoc, hcb (64 * k + i) (by omega)]
          simp))
      have HA1 := Lib.hid hA1
      clear hcb hn' hA1
      rcases Nat.lt_or_ge 64 (cap - 64 * k) with hcz | hcz
      · go_wp2_with fail
        refine hcall.out.mono ?_
        rintro e w' ⟨rfl, hg, hr⟩
        have hf' := hf.step hg (by rw [hr, ← absorbs_succ'])
        clear hg hr hcall
        go_wp2_with fail
        refine ⟨⟨k + 1, some ⟨bb, off + 64 * (k + 1), none⟩, by omega, ?_, fun _ => ⟨bb, off, HA1.out, rfl⟩, hf'⟩, ?_⟩
        · rw [show n - 64 * (k + 1) = n - 64 * k - 64 from by omega, show cap - 64 * (k + 1) = cap - 64 * k - 64 from by omega, show off + 64 * (k + 1) = off + 64 * k + 64 from by omega]
        · simp; omega
      · go_wp2_with fail
        refine hcall.out.mono ?_
        rintro e w' ⟨rfl, hg, hr⟩
        have hf' := hf.step hg (by rw [hr, ← absorbs_succ'])
        clear hg hr hcall
        have z1 : n - 64 * (k + 1) = n - 64 * k - 64 := by omega
        have z2 : cap - 64 * (k + 1) = 0 := by omega
        have z3 := Lib.hid z1
        have z4 := Lib.hid z2
        clear z1 z2
        go_wp2_with fail
        all_goals
          refine ⟨⟨k + 1, some ⟨bb, off + 64 * k, none⟩, by omega, ?_, fun h => absurd h (by omega), hf'⟩, ?_⟩
          · rw [z3.out, z4.out]
          · simp; omega
    · have hge : ¬ ((n - 64 * k : Nat) : Int) ≥ 64 := by omega
      have hkn : k = b.length / 64 := by have := HN.out; omega
      have HKN := Lib.hid hkn
      obtain ⟨rest, hrest⟩ : ∃ rest, Hid (rest = b.drop (64 * k)) := ⟨_, Lib.hid rfl⟩
      have hrl : rest.length = n - 64 * k := by rw [hrest.out, List.length_drop, ← HN.out]
      obtain ⟨Z, hZ⟩ : ∃ Z : List Value, Hid (Z = (List.replicate 128 0).map bv) := ⟨_, Lib.hid rfl⟩
      have hZl : Z.length = 128 := by rw [hZ.out]; simp
      have hmk : ∀ w, (Instr.makeSlice 22 (.int .i64 64) (.int .i64 128)).run Tryd.prog w = .ok (.slice (some ⟨w.heap.size, 0, none⟩) 64 128) (w.alloc (.cells Z.toArray 5)) := fun w => by rw [hZ.out]; kernel_rfl
      have hE : (wr.alloc (.cells Z.toArray 5)).heap[wr.heap.size]? = some (.cells Z.toArray 5 (0, 0)) := heap_alloc_new _ _
      have hfa : Abs w (absorbs k st0 b) (wr.alloc (.cells Z.toArray 5)) := hf.then ((Below.refl _ _).alloc (Array.getElem?_eq_some_iff.1 hf.row).1 _)
      have hpos : 0 < (rest.map bv).length → (some (⟨wr.heap.size, 0, none⟩ : Addr) = some ⟨wr.heap.size, 0, none⟩) ∧ ∃ ad, A' = some ad ∧ ∀ j v, (rest.map bv)[j]? = some v → (wr.alloc (.cells Z.toArray 5)).cell? (ad.add j) = some v := fun hpos => by
        rw [List.length_map, hrl] at hpos
        obtain ⟨bb, off, hA1, hA2⟩ := hA (by omega)
        obtain ⟨bb', off', e', hSb, hcb⟩ := HC.out (by rw [← HN.out]; omega)
        rw [hA1] at e'
        injection e' with e'
        injection e' with e1 e2 e3
        subst e1 e2
        refine ⟨rfl, _, hA2, fun j v hv => ?_⟩
        rw [List.getElem?_map, Option.map_eq_some_iff] at hv
        obtain ⟨c, hc, rfl⟩ := hv
        obtain ⟨hj, hc⟩ := List.getElem?_eq_some_iff.1 hc
        rw [Addr.add_lit, World.cell?_of_block (w := w) (a := ⟨bb, off + 64 * k + j, none⟩) (hfa.below.block _ (hS _ hSb)), Nat.add_assoc, hcb (64 * k + j) (by have := HN.out; omega), ← hc]
        have hr := hrest.out
        subst hr
        simp [bv]
      have hmin : (rest.map bv).length = Nat.min (n - 64 * k) 64 := by rw [List.length_map, hrl]; exact (Nat.min_eq_left (by omega)).symm
      have hfit : 0 + (rest.map bv).length ≤ Z.length := by rw [List.length_map, hrl, hZl]; omega
      have hone : ∀ v ∈ rest.map bv, v.oneCell' = true := fun v hv => by obtain ⟨c, _, rfl⟩ := List.mem_map.1 hv; rfl
      obtain ⟨L1, hL1⟩ : ∃ L1, Hid (L1 = splice Z 0 (rest.map bv)) := ⟨_, Lib.hid rfl⟩
      have hL1l : L1.length = 128 := by rw [hL1.out, length_splice _ _ _ hfit, hZl]
      have P1 := Lib.hid hpos; have P2 := Lib.hid hmin; have P3 := Lib.hid hfit; have P4 := Lib.hid hone
      clear hkn hpos hmin hfit hone
      have hEs : w.heap.size + 2 ≤ wr.heap.size := (Array.getElem?_eq_some_iff.1 hf.row).1
      have HF := Lib.hid hfa
      clear hfa hf hA
      have hL1e : Hid (L1 = (rest ++ List.replicate (128 - (n - 64 * k)) 0).map bv) := Lib.hid (by rw [hL1.out, hZ.out, splice, List.length_map, hrl, List.take_zero, List.nil_append, Nat.zero_add, List.map_append, ← List.map_drop, List.drop_replicate])
      have k5 : 0 ≤ ((n - 64 * k : Nat) : Int) := by omega
      have k6 : ((n - 64 * k : Nat) : Int) < 64 := by omega
      rcases Nat.lt_or_ge 55 (n - 64 * k) with h55 | h55
      · go_wp2_with (with_reducible refine wpList_copy_splice rfl (.tmp 22) (.tmp 23) 22 22 rfl 5 rfl rfl (some ⟨wr.heap.size, 0, none⟩) A' 64 128 (n - 64 * k) (cap - 64 * k) rfl rfl wr.heap.size 0 Z 5 hE (rest.map bv) P2.out P1.out P3.out P4.out (w.heap.size + 2) _ (Below.refl _ _) hEs ?_; intro w4 hg4 hb4; have hb4' := Lib.hid hb4; have hg5 : w4.heap[wr.heap.size]? = some (.cells L1.toArray 5 (0, 0)) := (by rw [hL1.out]; exact hg4.out); have hold : w4.cell? ⟨wr.heap.size, n - 64 * k, none⟩ = some (L1[n - 64 * k]'(by omega)) := cell_at hg5 (by omega); have hfree : w4.frozen? ⟨wr.heap.size, n - 64 * k, none⟩ = false := frozen_at hg5; have HG5 := Lib.hid hg5; clear hg5 hg4 hb4)
        have hrow6 : (w4.setCell ⟨wr.heap.size, n - 64 * k, none⟩ (.int .u8 128)).heap[wr.heap.size]? = some (.cells (L1.set (n - 64 * k) (.int .u8 128)).toArray 5 (0, 0)) := by
          rw [d_setCell_heap HG5.out, List.setIfInBounds_toArray]
        have hE4 : wr.heap.size < w4.heap.size := (Array.getElem?_eq_some_iff.1 HG5.out).1
        have hb6 : Below (w.heap.size + 2) (wr.alloc (.cells Z.toArray 5)) (w4.setCell ⟨wr.heap.size, n - 64 * k, none⟩ (.int .u8 128)) := hb4'.out.setCell hEs _
        have hsz6 : (w4.setCell ⟨wr.heap.size, n - 64 * k, none⟩ (.int .u8 128)).heap.size = w4.heap.size := by simp [World.setCell]
        rw [show ((n : Int) * 8) = ((n * 8 : Nat) : Int) from by omega]
        refine (put_any _ wr.heap.size 120 8 8 (n * 8) _ 5 (by omega) (by omega) (by omega) (by omega) hrow6 (by rw [List.length_set]; omega)).mono ?_
        rintro e w5 ⟨rfl, hp⟩
        have hm : 2 = lastN b.length := by have := HN.out; have := HKN.out; unfold lastN; split <;> omega
        have hLast : Last w wr.heap.size (absorbs k st0 b) (lastB b ++ List.replicate (128 - 64 * 2) 0) w5 := by
          refine ⟨HF.out.then (hb6.grown hp.grown (by rw [hsz6]; omega) (fun k e => by injection e with e; omega)), hEs, ?_⟩
          rw [hp.row, hL1e.out, ← last_row b rest (by rw [hrest.out, HKN.out]) (n - 64 * k) 2 (by have := HN.out; have := HKN.out; omega) hm, beB8, HN.out]
          rw [show Value.int .u8 128 = bv 128 from rfl, ← List.map_set, over_map]
          rfl
        have HL := Lib.hid hLast
        have hm' := Lib.hid hm
        clear hrow6 hb6 hsz6 hp hLast hm hold hfree
        go_wp2_with fail
        obtain ⟨LB, hLB⟩ : ∃ LB, Hid (LB = lastB b ++ List.replicate (128 - 64 * 2) 0) := ⟨_, Lib.hid rfl⟩
        have hLBl : LB.length = 128 := by rw [hLB.out, List.length_append, lastB_length, ← hm'.out, List.length_replicate]
        rw [← hLB.out] at HL
        obtain ⟨s1, hs1⟩ : ∃ s1, Hid (s1 = compress (absorbs k st0 b) ((LB.drop 0).take 64)) := ⟨_, Lib.hid rfl⟩
        obtain ⟨fin, hfin⟩ : ∃ s2, Hid (s2 = compress s1 ((LB.drop 64).take 64)) := ⟨_, Lib.hid rfl⟩
        go_loopw [6] (fun e wr' => (e = .slice (some ⟨wr.heap.size, 0, none⟩) 128 128 ∧ Last w wr.heap.size (absorbs k st0 b) LB wr') ∨ (e = .slice (some ⟨wr.heap.size, 64, none⟩) 64 64 ∧ Last w wr.heap.size s1 LB wr') ∨ (∃ A2 c, e = .slice A2 0 c ∧ Last w wr.heap.size fin LB wr')) (fun e _ => match e with | .slice _ l _ => l | _ => 0)
        case atStart => exact .inl ⟨rfl, HL.out⟩
        case round =>
          rename World => w7
          rcases hrel with ⟨rfl, hl⟩ | ⟨rfl, hl⟩ | ⟨A2, c2, rfl, hl⟩
          · have hl' := Lib.hid hl
            clear hl
            go_wp2_with fail
            refine (last_step hl'.out (absorbs_ok _ _ _ st0_ok) HT.out 0 128 (by rw [hLBl]; omega) (by omega) (by omega)).mono ?_
            rintro e w8 ⟨rfl, hl⟩
            rw [← hs1.out] at hl
            go_wp2_with fail
            exact ⟨.inr (.inl ⟨rfl, hl⟩), by simp⟩
          · have hl' := Lib.hid hl
            clear hl
            go_wp2_with fail
            refine (last_step hl'.out (by rw [hs1.out]; exact compress_ok _ _) HT.out 64 64 (by rw [hLBl]; omega) (by omega) (by omega)).mono ?_
            rintro e w8 ⟨rfl, hl⟩
            rw [← hfin.out] at hl
            go_wp2_with fail
            exact ⟨.inr (.inr ⟨_, _, rfl, hl⟩), by simp⟩
          · have hfs : fin = absorbs 2 (absorbs k st0 b) (lastB b) := by
              rw [hfin.out, hs1.out, hLB.out]
              have hll := lastB_length b
              rw [← hm'.out] at hll
              simp only [absorbs]
              rw [List.drop_zero, List.take_append_of_le_length (by omega), List.drop_append_of_le_length (by omega), List.take_append_of_le_length (by rw [List.length_drop]; omega)]
            have HFS : Hid (sha b = fin.out) := Lib.hid (by rw [hfs, HKN.out, sha_split, ← hm'.out])
            have hok : fin.ok := by rw [hfs]; exact absorbs_ok _ _ _ (absorbs_ok _ _ _ st0_ok)
            clear hfs
            obtain ⟨r0, r1, r2, r3, r4, r5, r6, r7⟩ := eight_cells hl.abs.row
            have hbel := Lib.hid hl.abs.below
            have hout := Lib.hid hl.abs.out
            clear hl
            go_wp2_with fail
            go_loopw [54] (fun i wr' => ∃ i' : Nat, i' ≤ 8 ∧ i = .int .i64 i' ∧ OutR w fin i' wr') (fun i _ => 8 - (intOf i).toNat)
            case atStart => exact ⟨0, by omega, rfl, hbel.out, hout.out⟩
            case round =>
              rename World => w9
              obtain ⟨i, hi, rfl, ho⟩ := hrel
              by_cases hlt : i < 8
              · have ho' := Lib.hid ho
                obtain ⟨x, hx⟩ : ∃ x, Hid (x = fin.toL.getD i 0) := ⟨_, Lib.hid rfl⟩
                have hxl : x < 4294967296 := by
                  rw [hx.out, show fin.toL.getD i 0 = fin.toL[i]'(by simp [St.toL]; omega) from by simp [List.getD, St.toL, hlt]]
                  exact toL_lt hok _ (List.getElem_mem _)
                have hidx : ∀ w', (Instr.index 113 (.agg #[.int .u32 fin.a, .int .u32 fin.b, .int .u32 fin.c, .int .u32 fin.d, .int .u32 fin.e, .int .u32 fin.f, .int .u32 fin.g, .int .u32 fin.h]) (.int .i64 i)).run Tryd.prog w' = .ok (.int .u32 (x : Int)) w' := fun w' => by rw [hx.out]; exact index_st fin i hlt w'
                have hsl : ∀ w', (Instr.sliceAt 47 (.pointer (some ⟨w.heap.size, 0, none⟩)) (some (.int .i64 (4 * (i : Int)))) (some (.int .i64 (4 * (i : Int) + 4))) none).run Tryd.prog w' = .ok (.slice (some ⟨w.heap.size, 4 * i, none⟩) 4 (32 - 4 * i)) w' := fun w' => slice_dig w.heap.size i hlt w'
                clear ho
                go_wp2_with fail
                refine (out_put ho'.out hlt x hx.out hxl (4 * i) (32 - 4 * i) rfl rfl).mono ?_
                rintro e w10 ⟨rfl, ho2⟩
                go_wp2_with fail
                exact ⟨⟨i + 1, by omega, by go_num, ho2⟩, by simp [intOf]; omega⟩
              · have h8 : i = 8 := by omega
                subst h8
                have hO : w9.heap[w.heap.size]? = some (.cells (brow fin.out) 47 (0, 0)) := by rw [ho.out, List.take_of_length_le (by rw [out_length]; omega)]; simp
                have hb9 := ho.below
                clear ho
                go_wp2_with (first | (refine wpList_load_row rfl 47 (.tmp 2) rfl w.heap.size rfl 47 (brow fin.out) (0, 0) _ hO Tryd.underlying47 rfl (dig_size fin) ?_) | (refine wpList_store_row rfl 47 (.tmp 2) (.tmp 68) rfl w.heap.size (brow fin.out) rfl rfl 47 (brow fin.out) hO (dig_size fin) rfl (dig_one fin) ?_; rw [setRow_self _ _ _ _ _ hO]))
                refine bodyPost_ret (v := dig fin.out) ?_ rfl ⟨by rw [HFS.out], hb9⟩
                exact results_cell_row rfl _ _ w.heap.size 47 (brow fin.out) (0, 0) _ rfl hO Tryd.underlying47 rfl (dig_size fin)

      · go_wp2_with (with_reducible refine wpList_copy_splice rfl (.tmp 22) (.tmp 23) 22 22 rfl 5 rfl rfl (some ⟨wr.heap.size, 0, none⟩) A' 64 128 (n - 64 * k) (cap - 64 * k) rfl rfl wr.heap.size 0 Z 5 hE (rest.map bv) P2.out P1.out P3.out P4.out (w.heap.size + 2) _ (Below.refl _ _) hEs ?_; intro w4 hg4 hb4; have hb4' := Lib.hid hb4; have hg5 : w4.heap[wr.heap.size]? = some (.cells L1.toArray 5 (0, 0)) := (by rw [hL1.out]; exact hg4.out); have hold : w4.cell? ⟨wr.heap.size, n - 64 * k, none⟩ = some (L1[n - 64 * k]'(by omega)) := cell_at hg5 (by omega); have hfree : w4.frozen? ⟨wr.heap.size, n - 64 * k, none⟩ = false := frozen_at hg5; have HG5 := Lib.hid hg5; clear hg5 hg4 hb4)
        have hrow6 : (w4.setCell ⟨wr.heap.size, n - 64 * k, none⟩ (.int .u8 128)).heap[wr.heap.size]? = some (.cells (L1.set (n - 64 * k) (.int .u8 128)).toArray 5 (0, 0)) := by
          rw [d_setCell_heap HG5.out, List.setIfInBounds_toArray]
        have hE4 : wr.heap.size < w4.heap.size := (Array.getElem?_eq_some_iff.1 HG5.out).1
        have hb6 : Below (w.heap.size + 2) (wr.alloc (.cells Z.toArray 5)) (w4.setCell ⟨wr.heap.size, n - 64 * k, none⟩ (.int .u8 128)) := hb4'.out.setCell hEs _
        have hsz6 : (w4.setCell ⟨wr.heap.size, n - 64 * k, none⟩ (.int .u8 128)).heap.size = w4.heap.size := by simp [World.setCell]
        rw [show ((n : Int) * 8) = ((n * 8 : Nat) : Int) from by omega]
        refine (put_any _ wr.heap.size 56 8 72 (n * 8) _ 5 (by omega) (by omega) (by omega) (by omega) hrow6 (by rw [List.length_set]; omega)).mono ?_
        rintro e w5 ⟨rfl, hp⟩
        have hm : 1 = lastN b.length := by have := HN.out; have := HKN.out; unfold lastN; split <;> omega
        have hLast : Last w wr.heap.size (absorbs k st0 b) (lastB b ++ List.replicate (128 - 64 * 1) 0) w5 := by
          refine ⟨HF.out.then (hb6.grown hp.grown (by rw [hsz6]; omega) (fun k e => by injection e with e; omega)), hEs, ?_⟩
          rw [hp.row, hL1e.out, ← last_row b rest (by rw [hrest.out, HKN.out]) (n - 64 * k) 1 (by have := HN.out; have := HKN.out; omega) hm, beB8, HN.out]
          rw [show Value.int .u8 128 = bv 128 from rfl, ← List.map_set, over_map]
          rfl
        have HL := Lib.hid hLast
        have hm' := Lib.hid hm
        clear hrow6 hb6 hsz6 hp hLast hm hold hfree
        go_wp2_with fail
        obtain ⟨LB, hLB⟩ : ∃ LB, Hid (LB = lastB b ++ List.replicate (128 - 64 * 1) 0) := ⟨_, Lib.hid rfl⟩
        have hLBl : LB.length = 128 := by rw [hLB.out, List.length_append, lastB_length, ← hm'.out, List.length_replicate]
        rw [← hLB.out] at HL
        obtain ⟨fin, hfin⟩ : ∃ s2, Hid (s2 = compress (absorbs k st0 b) ((LB.drop 0).take 64)) := ⟨_, Lib.hid rfl⟩
        go_loopw [6] (fun e wr' => (e = .slice (some ⟨wr.heap.size, 0, none⟩) 64 128 ∧ Last w wr.heap.size (absorbs k st0 b) LB wr') ∨ (∃ A2 c, e = .slice A2 0 c ∧ Last w wr.heap.size fin LB wr')) (fun e _ => match e with | .slice _ l _ => l | _ => 0)
        case atStart => exact .inl ⟨rfl, HL.out⟩
        case round =>
          rename World => w7
          rcases hrel with ⟨rfl, hl⟩ | ⟨A2, c2, rfl, hl⟩
          · have hl' := Lib.hid hl
            clear hl
            go_wp2_with fail
            refine (last_step hl'.out (absorbs_ok _ _ _ st0_ok) HT.out 0 128 (by rw [hLBl]; omega) (by omega) (by omega)).mono ?_
            rintro e w8 ⟨rfl, hl⟩
            rw [← hfin.out] at hl
            go_wp2_with fail
            exact ⟨.inr ⟨_, _, rfl, hl⟩, by simp⟩
          · have hfs : fin = absorbs 1 (absorbs k st0 b) (lastB b) := by
              rw [hfin.out, hLB.out]
              have hll := lastB_length b
              rw [← hm'.out] at hll
              simp only [absorbs]
              rw [List.drop_zero, List.take_append_of_le_length (by omega)]
            have HFS : Hid (sha b = fin.out) := Lib.hid (by rw [hfs, HKN.out, sha_split, ← hm'.out])
            have hok : fin.ok := by rw [hfs]; exact absorbs_ok _ _ _ (absorbs_ok _ _ _ st0_ok)
            clear hfs
            obtain ⟨r0, r1, r2, r3, r4, r5, r6, r7⟩ := eight_cells hl.abs.row
            have hbel := Lib.hid hl.abs.below
            have hout := Lib.hid hl.abs.out
            clear hl
            go_wp2_with fail
            go_loopw [54] (fun i wr' => ∃ i' : Nat, i' ≤ 8 ∧ i = .int .i64 i' ∧ OutR w fin i' wr') (fun i _ => 8 - (intOf i).toNat)
            case atStart => exact ⟨0, by omega, rfl, hbel.out, hout.out⟩
            case round =>
              rename World => w9
              obtain ⟨i, hi, rfl, ho⟩ := hrel
              by_cases hlt : i < 8
              · have ho' := Lib.hid ho
                obtain ⟨x, hx⟩ : ∃ x, Hid (x = fin.toL.getD i 0) := ⟨_, Lib.hid rfl⟩
                have hxl : x < 4294967296 := by
                  rw [hx.out, show fin.toL.getD i 0 = fin.toL[i]'(by simp [St.toL]; omega) from by simp [List.getD, St.toL, hlt]]
                  exact toL_lt hok _ (List.getElem_mem _)
                have hidx : ∀ w', (Instr.index 113 (.agg #[.int .u32 fin.a, .int .u32 fin.b, .int .u32 fin.c, .int .u32 fin.d, .int .u32 fin.e, .int .u32 fin.f, .int .u32 fin.g, .int .u32 fin.h]) (.int .i64 i)).run Tryd.prog w' = .ok (.int .u32 (x : Int)) w' := fun w' => by rw [hx.out]; exact index_st fin i hlt w'
                have hsl : ∀ w', (Instr.sliceAt 47 (.pointer (some ⟨w.heap.size, 0, none⟩)) (some (.int .i64 (4 * (i : Int)))) (some (.int .i64 (4 * (i : Int) + 4))) none).run Tryd.prog w' = .ok (.slice (some ⟨w.heap.size, 4 * i, none⟩) 4 (32 - 4 * i)) w' := fun w' => slice_dig w.heap.size i hlt w'
                clear ho
                go_wp2_with fail
                refine (out_put ho'.out hlt x hx.out hxl (4 * i) (32 - 4 * i) rfl rfl).mono ?_
                rintro e w10 ⟨rfl, ho2⟩
                go_wp2_with fail
                exact ⟨⟨i + 1, by omega, by go_num, ho2⟩, by simp [intOf]; omega⟩
              · have h8 : i = 8 := by omega
                subst h8
                have hO : w9.heap[w.heap.size]? = some (.cells (brow fin.out) 47 (0, 0)) := by rw [ho.out, List.take_of_length_le (by rw [out_length]; omega)]; simp
                have hb9 := ho.below
                clear ho
                go_wp2_with (first | (refine wpList_load_row rfl 47 (.tmp 2) rfl w.heap.size rfl 47 (brow fin.out) (0, 0) _ hO Tryd.underlying47 rfl (dig_size fin) ?_) | (refine wpList_store_row rfl 47 (.tmp 2) (.tmp 68) rfl w.heap.size (brow fin.out) rfl rfl 47 (brow fin.out) hO (dig_size fin) rfl (dig_one fin) ?_; rw [setRow_self _ _ _ _ _ hO]))
                refine bodyPost_ret (v := dig fin.out) ?_ rfl ⟨by rw [HFS.out], hb9⟩
                exact results_cell_row rfl _ _ w.heap.size 47 (brow fin.out) (0, 0) _ rfl hO Tryd.underlying47 rfl (dig_size fin)


end Go.Proofs.YtjhecmmbpmpmgaaDoor

namespace Go.Proofs.YtjhecmmbpmpmgaaDoor
open Go.RowKit Go.Lib

theorem Tryd.dInfoU8 : (Tryd.prog.info? 5).map (fun i => (i.zero, i.size, i.bytes)) = some (some (.int .u8 0), 1, 1) := by kernel_rfl

theorem own_of_zeros (w : World) (n : Nat) (hn : n ≤ 1000000000000) : (w.drew.alloc (.cells (Builtin.zeroCells (Value.int .u8 0).cells n ++ Builtin.zeroCells (Value.int .u8 0).cells (grownCap w n 0 5 - n)) 5)).ownsRow 0 5 1 (.slice (some ⟨w.heap.size, 0, none⟩) 0 (grownCap w n 0 5)) 0 [] := by
  have hge := grownCap_ge w n 0 5
  refine ⟨rfl, .inr ⟨w.heap.size, grownCap w n 0 5, _, rfl, Nat.zero_le _, heap_alloc_new w.drew _, Nat.zero_le _, grownCap_le_maxLen w n 0 5 (by unfold maxLen; omega), ?_, rfl⟩⟩
  simp [Builtin.zeroCells, Value.cells]
  omega

set_option maxRecDepth 100000 in
set_option maxHeartbeats 800000 in
theorem grow_nil (w : World) (n : Nat) (h0 : 0 < n) (hn : n ≤ 1000000000000) :
    Calls Tryd.prog 92 #[.slice none 0 0, .int .i64 n] w fun e w' => ∃ v, e = .returned v ∧ w'.ownsRow 0 5 1 v 0 [] ∧ Below w.heap.size w w' ∧ ∀ k, v.ownBlock = some k → w.heap.size ≤ k := by
  obtain ⟨i0, hi, hz0, hz1, hz2⟩ := info_parts Tryd.dInfoU8
  have hrun := fun ty => run_append_nil_zeros (P := Tryd.prog) w 22 3 ty 5 i0 (.int .u8 0) .i64 .i64 Tryd.underlying22 Tryd.underlying3 hi hz0 n h0 (by omega) (by omega) (by rw [hz2]; omega)
  have hown := Lib.hid (own_of_zeros w n hn)
  have hge := grownCap_ge w n 0 5
  have hle : grownCap w n 0 5 ≤ 9223372036854775807 := by have := grownCap_le_maxLen w n 0 5 (by unfold maxLen; omega); unfold maxLen at this; omega
  obtain ⟨G, hG⟩ : ∃ G, G = grownCap w n 0 5 := ⟨_, rfl⟩
  rw [← hG] at hge hle hrun hown
  obtain ⟨W1, hW1⟩ : ∃ W1, W1 = w.drew.alloc (.cells (Builtin.zeroCells (Value.int .u8 0).cells n ++ Builtin.zeroCells (Value.int .u8 0).cells (G - n)) 5) := ⟨_, rfl⟩
  have hb : Below w.heap.size w W1 := by rw [hW1]; exact ((Below.refl _ _).drew).alloc (Nat.le_refl _) _
  rw [← hW1] at hrun hown
  have HB := Lib.hid hb
  have HR := Lib.hid hrun
  clear hG hW1 hb hrun hz0 hz1 hz2 hi
  have n1 : ¬ ((n : Int) < 0) := by omega
  have n2 : (0 : Int) < n := by omega
  go_enter Tryd.func92, Tryd.ntmps92
  go_wp2_with (with_reducible refine wpList_append_run _ rfl (.tmp 20) (.tmp 21) 22 3 rfl _ _ rfl rfl _ _ (HR.out _) ?_)
  go_ret
  exact ⟨_, rfl, hown.out, HB.out, fun k hk => by simp [Value.ownBlock] at hk; omega⟩

/-- bytes at a place -/
structure At (w : World) (l : List UInt8) (b off : Nat) : Prop where
  lt : b < w.heap.size
  cell : ∀ i (h : i < l.length), w.cell? ⟨b, off + i, none⟩ = some (.int .u8 (l[i].toNat : Int))

theorem At.below {w w' : World} {l : List UInt8} {b off : Nat} (h : At w l b off) (hb : Below w.heap.size w w') : At w' l b off :=
  ⟨Nat.lt_of_lt_of_le h.lt hb.size, fun i hi => by rw [World.cell?_of_block (w := w) (a := ⟨b, off + i, none⟩) (hb.block _ h.lt)]; exact h.cell i hi⟩

theorem At.news {w : World} {l : List UInt8} {b off : Nat} (h : At w l b off) : ∀ j u, (bc l)[j]? = some u → w.cell? ((⟨b, off, none⟩ : Addr).add j) = some u := by
  intro j u hu
  rw [bc, List.getElem?_map, Option.map_eq_some_iff] at hu
  obtain ⟨c, hc, rfl⟩ := hu
  obtain ⟨hj, hc⟩ := List.getElem?_eq_some_iff.1 hc
  rw [Addr.add_lit, h.cell j hj, hc]

theorem d_bc_one {l : List UInt8} : ∀ u ∈ bc l, u.oneCell' = true := by
  intro u hu; simp [bc] at hu; obtain ⟨c, _, rfl⟩ := hu; rfl

/-- a row of one's own, its bytes so far -/
structure Row (w : World) (xs : List UInt8) (v : Value) (wr : World) : Prop where
  own : wr.ownsRow 0 5 1 v xs.length (bc xs)
  below : Below w.heap.size w wr
  new : ∀ k, v.ownBlock = some k → w.heap.size ≤ k

theorem Row.app {w : World} {xs ys : List UInt8} {v v' : Value} {wr w' : World} (h : Row w xs v wr) (ho : w'.ownsRow 0 5 1 v' (xs.length + ys.length) (bc xs ++ bc ys)) (hw : Wr wr v w' v') : Row w (xs ++ ys) v' w' := by
  refine ⟨by rw [List.length_append, show bc (xs ++ ys) = bc xs ++ bc ys from by simp [bc]]; exact ho, h.below.trans (hw.toBelow h.below.size h.new), fun k hk => ?_⟩
  rcases hw.fresh with h1 | h1
  · exact h.new k (h1 ▸ hk)
  · exact Nat.le_trans h.below.size (h1 k hk)

set_option maxRecDepth 100000 in
set_option maxHeartbeats 1600000 in
theorem concat_two (w : World) (B b1 o1 c1 b2 o2 c2 : Nat) (l1 l2 : List UInt8) (h1 : 0 < l1.length) (hl1 : l1.length ≤ 1000000000) (hl2 : l2.length ≤ 1000000000) (hA1 : At w l1 b1 o1) (hA2 : At w l2 b2 o2)
    (hc1 : w.cell? ⟨B, 0, none⟩ = some (.slice (some ⟨b1, o1, none⟩) l1.length c1)) (hc2 : w.cell? ⟨B, 1, none⟩ = some (.slice (some ⟨b2, o2, none⟩) l2.length c2)) :
    Calls Tryd.prog 67 #[.slice (some ⟨B, 0, none⟩) 2 2] w fun e w' => ∃ v, e = .returned v ∧ Row w (l1 ++ l2) v w' := by
  obtain ⟨i0, hi, hz0, hz1, hz2⟩ := info_parts Tryd.dInfoU8
  have hBw : B < w.heap.size := World.block_lt_of_cell? w _ hc1
  obtain ⟨n1, hn1⟩ : ∃ n, n = l1.length := ⟨_, rfl⟩
  obtain ⟨n2, hn2⟩ : ∃ n, n = l2.length := ⟨_, rfl⟩
  rw [← hn1] at hc1 h1 hl1; rw [← hn2] at hc2 hl2
  have HN1 := Lib.hid hn1; have HN2 := Lib.hid hn2; have HA1 := Lib.hid hA1; have HA2 := Lib.hid hA2
  clear hn1 hn2 hA1 hA2
  go_enter Tryd.func67, Tryd.ntmps67
  go_wp2_with fail
  go_loopw [3, 11] (fun s i wr => wr = w ∧ ((i = .int .i64 0 ∧ s = .int .i64 0) ∨ (i = .int .i64 1 ∧ s = .int .i64 n1) ∨ (i = .int .i64 2 ∧ s = .int .i64 (n1 + n2 : Nat)))) (fun _ i _ => 2 - (intOf i).toNat)
  case atStart => exact ⟨rfl, .inl ⟨rfl, rfl⟩⟩
  case round =>
    obtain ⟨rfl, hrel⟩ := hrel
    rcases hrel with ⟨rfl, rfl⟩ | ⟨rfl, rfl⟩ | ⟨rfl, rfl⟩
    · go_wp2_with fail
      exact ⟨⟨trivial, .inr (.inl ⟨rfl, rfl⟩)⟩, by simp [intOf]⟩
    · go_wp2_with fail
      exact ⟨⟨trivial, .inr (.inr ⟨rfl, by go_num⟩)⟩, by simp [intOf]⟩
    · go_wp2_with fail
      rw [show ((n1 : Int) + (n2 : Int)) = ((n1 + n2 : Nat) : Int) from by omega]
      refine (grow_nil _ (n1 + n2) (by omega) (by omega)).mono ?_
      rintro e w1 ⟨v1, rfl, hown, hb, hnew⟩
      have hR0 : Row wr [] v1 w1 := ⟨hown, hb, hnew⟩
      clear hown hb hnew
      have HR0 := Lib.hid hR0
      clear hR0
      go_wp2_with fail
      go_loopw [6, 27] (fun r i wr' => (i = .int .i64 0 ∧ Row wr [] r wr') ∨ (i = .int .i64 1 ∧ Row wr l1 r wr') ∨ (i = .int .i64 2 ∧ Row wr (l1 ++ l2) r wr')) (fun _ i _ => 2 - (intOf i).toNat)
      case atStart => exact .inl ⟨rfl, HR0.out⟩
      case round =>
        clear HR0
        rename World => w2
        rcases hrel with ⟨rfl, hR⟩ | ⟨rfl, hR⟩ | ⟨rfl, hR⟩
        · have hcB := (hR.below.cell (p := ⟨B, 0, none⟩) hBw).trans hc1
          have hnews := (HA1.out.below hR.below).news
          have hown := hR.own
          have HR := Lib.hid hR
          clear hR
          go_wp2_with (at_builtin; refine wpList_app _ rfl _ _ 22 rfl 5 i0 (.int .u8 0) 1 1 Tryd.underlying22 hi hz0 hz1 hz2 rfl (by decide) _ _ _ rfl hown ⟨b1, o1, none⟩ n1 c1 (bc l1) rfl (by rw [bc_len, Nat.mul_one, HN1.out]) hnews d_bc_one (by have := HN1.out; have := HN2.out; unfold maxLen; simp; omega) (by have := HN1.out; have := HN2.out; simp; omega) ?_; intro v3 w3 hown3 hwr3 _)
          have hR3 := HR.out.app (by rw [← HN1.out]; exact hown3) hwr3
          exact ⟨.inr (.inl ⟨rfl, hR3⟩), by simp [intOf]⟩
        · have hcB := (hR.below.cell (p := ⟨B, 1, none⟩) hBw).trans hc2
          have hnews := (HA2.out.below hR.below).news
          have hown := hR.own
          have HR := Lib.hid hR
          clear hR
          go_wp2_with (at_builtin; refine wpList_app _ rfl _ _ 22 rfl 5 i0 (.int .u8 0) 1 1 Tryd.underlying22 hi hz0 hz1 hz2 rfl (by decide) _ _ _ rfl hown ⟨b2, o2, none⟩ n2 c2 (bc l2) rfl (by rw [bc_len, Nat.mul_one, HN2.out]) hnews d_bc_one (by have := HN1.out; have := HN2.out; unfold maxLen; simp; omega) (by have := HN1.out; have := HN2.out; simp; omega) ?_; intro v3 w3 hown3 hwr3 _)
          have hR3 := HR.out.app (by rw [← HN2.out]; exact hown3) hwr3
          exact ⟨.inr (.inr ⟨rfl, hR3⟩), by simp [intOf]⟩
        · have HR := Lib.hid hR
          clear hR
          go_wp2_with fail
          go_ret
          exact ⟨_, rfl, HR.out⟩

theorem own_bs {w : World} {l : List UInt8} {v : Value} {B : Nat} (h : w.ownsRow 0 5 1 v l.length (bc l)) (hn : ∀ k, v.ownBlock = some k → B ≤ k) : Bs w (fun b => b < w.heap.size) l v :=
  Bs.frame (own_bytes h hn) (fun _ _ => rfl) (fun _ h => h.2)

theorem Tabs.below {w w' : World} (h : Tabs w) (hb : Below w.heap.size w w') : Tabs w' :=
  ⟨h.s.imp fun _ e => (hb.block 0 (Array.getElem?_eq_some_iff.1 e).1).trans e, h.k.imp fun _ e => (hb.block 1 (Array.getElem?_eq_some_iff.1 e).1).trans e⟩

/-- the hash under a tag -/
def tagged (t : ByteArray) (l : List UInt8) : List UInt8 := sha (sha t.data.toList ++ l)

/-- a world with a digest's zero value -/
def zrow : Array Value := #[.int .u8 0, .int .u8 0, .int .u8 0, .int .u8 0, .int .u8 0, .int .u8 0, .int .u8 0, .int .u8 0, .int .u8 0, .int .u8 0, .int .u8 0, .int .u8 0, .int .u8 0, .int .u8 0, .int .u8 0, .int .u8 0, .int .u8 0, .int .u8 0, .int .u8 0, .int .u8 0, .int .u8 0, .int .u8 0, .int .u8 0, .int .u8 0, .int .u8 0, .int .u8 0, .int .u8 0, .int .u8 0, .int .u8 0, .int .u8 0, .int .u8 0, .int .u8 0]

theorem brow_size {l : List UInt8} (h : l.length = 32) : (Tryd.prog.info? 47).map (·.size) = some (brow l).size := by
  have : (brow l).size = 32 := by simp [brow, h]
  rw [this]
  exact (show (Tryd.prog.info? 47).map (·.size) = some 32 from by kernel_rfl)
theorem brow_one (l : List UInt8) : (brow l).all (·.oneCell') = true := by
  rw [Array.all_eq_true_iff_forall_mem]
  intro v hv
  simp only [brow, List.mem_toArray, List.mem_map] at hv
  obtain ⟨c, _, rfl⟩ := hv; rfl

theorem At.ofRow {w : World} {l : List UInt8} {b : Nat} {t : TypeId} {fr : Nat × Nat} (h : w.heap[b]? = some (.cells (brow l) t fr)) : At w l b 0 :=
  ⟨(Array.getElem?_eq_some_iff.1 h).1, fun i hi => by rw [Nat.zero_add]; simp [World.cell?, h, brow, hi, bv]⟩

set_option maxRecDepth 100000 in
set_option maxHeartbeats 1600000 in
theorem tagged_any (w : World) (t : ByteArray) (ht : t.size ≤ 1000000) (l : List UInt8) (b off cap : Nat) (hl0 : 0 < l.length) (hl : l.length ≤ 100000000) (hA : At w l b off) (hT : Tabs w) :
    Calls Tryd.prog 34 #[.string t, .slice (some ⟨b, off, none⟩) l.length cap] w fun e w' => e = .returned (dig (tagged t l)) ∧ Below w.heap.size w w' := by
  have htl : t.data.toList.length ≤ 1000000000 := by
    have : t.data.toList.length = t.size := by simp
    omega
  obtain ⟨cap1, w2, hconv, hb2, hBb⟩ := str_bytes_b (w.alloc (.cells #[.int .u8 0, .int .u8 0, .int .u8 0, .int .u8 0, .int .u8 0, .int .u8 0, .int .u8 0, .int .u8 0, .int .u8 0, .int .u8 0, .int .u8 0, .int .u8 0, .int .u8 0, .int .u8 0, .int .u8 0, .int .u8 0, .int .u8 0, .int .u8 0, .int .u8 0, .int .u8 0, .int .u8 0, .int .u8 0, .int .u8 0, .int .u8 0, .int .u8 0, .int .u8 0, .int .u8 0, .int .u8 0, .int .u8 0, .int .u8 0, .int .u8 0, .int .u8 0] 47)) t (by omega)
  rw [World.size_alloc] at hconv hBb
  have hb1 : Below w.heap.size w w2 := ((Below.refl _ _).alloc (Nat.le_refl _) _).trans (hb2.mono (by simp))
  have hz2 : w2.heap[w.heap.size]? = some (.cells (brow (List.replicate 32 0)) 47 (0, 0)) := by
    rw [hb2.block _ (by simp), heap_alloc_new]; rfl
  obtain ⟨n, hn⟩ : ∃ n, Hid (n = l.length) := ⟨_, Lib.hid rfl⟩
  rw [← hn.out] at hl0 hl ⊢
  have HA := Lib.hid hA
  have HT := Lib.hid hT
  have H1 := Lib.hid hb1
  have HZ := Lib.hid hz2
  have HB := Lib.hid hBb
  clear hA hT hb1 hz2 hb2 hBb
  go_enter Tryd.func34, Tryd.ntmps34
  go_wp2_with fail
  refine (sum_any w2 _ (fun _ h => h) t.data.toList _ HB.out htl (HT.out.below H1.out)).mono ?_
  rintro e w3 ⟨rfl, hb3⟩
  have hw2 := H1.out.size
  have hsz2 : w.heap.size + 1 ≤ w2.heap.size := (Array.getElem?_eq_some_iff.1 HZ.out).1
  have hsz3 := hb3.size
  obtain ⟨T, hTd⟩ : ∃ T, Hid (T = sha t.data.toList) := ⟨_, Lib.hid rfl⟩
  rw [← hTd.out]
  have hTl : T.length = 32 := by rw [hTd.out]; rfl
  have h3 : Hid (Below w.heap.size w w3) := Lib.hid (H1.out.trans (hb3.mono (by omega)))
  have hz3 : Hid (w3.heap[w.heap.size]? = some (.cells (brow (List.replicate 32 0)) 47 (0, 0))) := Lib.hid ((hb3.block _ (by omega)).trans HZ.out)
  clear hb3 hconv
  have hA5 : (w3.alloc (.cells zrow 47)).heap[w3.heap.size]? = some (.cells zrow 47 (0, 0)) := heap_alloc_new _ _
  go_wp2_with (refine wpList_store_row rfl 47 (.tmp 5) (.tmp 8) rfl w3.heap.size (brow T) rfl rfl 47 zrow hA5 (brow_size hTl) (by simp [brow, hTl, zrow]) (brow_one T) ?_)
  rw [World.setRow_alloc_new]
  have hw3 := hz3.out
  have hw3s : w.heap.size < w3.heap.size := (Array.getElem?_eq_some_iff.1 hw3).1
  have hb5 : Below (w.heap.size + 1) w3 ((w3.alloc (.cells (brow T) 47)).alloc (.cells #[.slice (some ⟨w3.heap.size, 0, none⟩) 32 32, .slice (some ⟨b, off, none⟩) n cap] 22)) := ((Below.refl _ _).alloc (by omega) _).alloc (by simp; omega) _
  have hT5 : ((w3.alloc (.cells (brow T) 47)).alloc (.cells #[.slice (some ⟨w3.heap.size, 0, none⟩) 32 32, .slice (some ⟨b, off, none⟩) n cap] 22)).heap[w3.heap.size]? = some (.cells (brow T) 47 (0, 0)) := by
    rw [Below.heap_alloc _ _ _ (by simp), heap_alloc_new]
  have hP5 : ((w3.alloc (.cells (brow T) 47)).alloc (.cells #[.slice (some ⟨w3.heap.size, 0, none⟩) 32 32, .slice (some ⟨b, off, none⟩) n cap] 22)).heap[w3.heap.size + 1]? = some (.cells #[.slice (some ⟨w3.heap.size, 0, none⟩) 32 32, .slice (some ⟨b, off, none⟩) n cap] 22 (0, 0)) := by
    rw [show w3.heap.size + 1 = (w3.alloc (.cells (brow T) 47)).heap.size from by simp, heap_alloc_new]
  generalize (w3.alloc (.cells (brow T) 47)).alloc (.cells #[.slice (some ⟨w3.heap.size, 0, none⟩) 32 32, .slice (some ⟨b, off, none⟩) n cap] 22) = w5 at *
  have hb5' : Below w.heap.size w w5 := h3.out.trans (hb5.mono (by omega))
  have hz5 : Hid (w5.heap[w.heap.size]? = some (.cells (brow (List.replicate 32 0)) 47 (0, 0))) := Lib.hid ((hb5.block _ (by omega)).trans hw3)
  have H5 := Lib.hid hb5'
  refine (concat_two w5 (w3.heap.size + 1) w3.heap.size 0 32 b off cap T l (by omega) (by omega) (by rw [← hn.out]; omega) (At.ofRow hT5) (HA.out.below hb5') (by rw [hTl]; simp [World.cell?, hP5]) (by rw [← hn.out]; simp [World.cell?, hP5])).mono ?_
  rintro e w6 ⟨v6, rfl, hR⟩
  have hw5s : w.heap.size < w5.heap.size := (Array.getElem?_eq_some_iff.1 hz5.out).1
  have hB6 := hR.below
  have hb6 := H5.out.trans (hB6.mono (by omega))
  have hz6 : Hid (w6.heap[w.heap.size]? = some (.cells (brow (List.replicate 32 0)) 47 (0, 0))) := Lib.hid ((hB6.block _ hw5s).trans hz5.out)
  have H6 := Lib.hid hb6
  have HBs := Lib.hid (own_bs hR.own hR.new)
  clear hR hB6 hb6 hb5 hT5 hP5 hb5' hw3 hA5
  go_wp2_with fail
  refine (sum_any w6 _ (fun _ h => h) (T ++ l) v6 HBs.out (by rw [List.length_append, ← hn.out]; omega) (HT.out.below H6.out)).mono ?_
  rintro e w7 ⟨rfl, hb7⟩
  have hw6s : w.heap.size < w6.heap.size := (Array.getElem?_eq_some_iff.1 hz6.out).1
  have hz7 : w7.heap[w.heap.size]? = some (.cells (brow (List.replicate 32 0)) 47 (0, 0)) := (hb7.block _ hw6s).trans hz6.out
  have H7 := Lib.hid (H6.out.trans (hb7.mono (by omega)))
  clear hb7
  go_wp2_with (refine wpList_store_row rfl 47 (.tmp 4) (.tmp 13) rfl w.heap.size (brow (sha (T ++ l))) rfl rfl 47 (brow (List.replicate 32 0)) hz7 (brow_size (sha_length _)) (by simp [brow, sha_length]) (brow_one _) ?_)
  have hz8 := setRow_heap _ _ _ (brow (sha (T ++ l))) _ _ hz7
  have hb8 := below_setRow H7.out (Nat.le_refl _) (brow (sha (T ++ l)))
  refine bodyPost_ret (v := dig (sha (T ++ l))) ?_ rfl ⟨by rw [hTd.out]; rfl, hb8⟩
  exact results_cell_row rfl _ _ w.heap.size 47 (brow (sha (T ++ l))) (0, 0) _ rfl hz8 Tryd.underlying47 rfl (brow_size (sha_length _))

end Go.Proofs.YtjhecmmbpmpmgaaDoor
