/- Plain: SHA-256 over natural numbers. No program in sight. -/
import Derived.WalkKit
import Derived.Laws.BitsAllLaws
import Derived.KernelRfl
namespace Go.Proofs.YtjhecmmbpmpmgaaDoor

def M32 : Nat := 4294967296

/-- rotation to the right -/
def rr (x n : Nat) : Nat := (x / 2 ^ n) ||| (x * 2 ^ (32 - n) % 4294967296)
def sg0 (x : Nat) : Nat := (rr x 7 ^^^ rr x 18) ^^^ x / 8
def sg1 (x : Nat) : Nat := (rr x 17 ^^^ rr x 19) ^^^ x / 1024
def Sg0 (x : Nat) : Nat := (rr x 2 ^^^ rr x 13) ^^^ rr x 22
def Sg1 (x : Nat) : Nat := (rr x 6 ^^^ rr x 11) ^^^ rr x 25
def chF (e f g : Nat) : Nat := g ^^^ (e &&& (f ^^^ g))
def mjF (a b c : Nat) : Nat := (a &&& b) ||| (c &&& (a ||| b))

theorem lor_lt {a b : Nat} (ha : a < 4294967296) (hb : b < 4294967296) : a ||| b < 4294967296 := Nat.or_lt_two_pow (n := 32) ha hb
theorem land_lt {a b : Nat} (ha : a < 4294967296) : a &&& b < 4294967296 := Nat.lt_of_le_of_lt Nat.and_le_left ha
theorem xor_lt {a b : Nat} (ha : a < 4294967296) (hb : b < 4294967296) : a ^^^ b < 4294967296 := Nat.xor_lt_two_pow (n := 32) ha hb

theorem rr_lt {x : Nat} (n : Nat) (h : x < 4294967296) : rr x n < 4294967296 :=
  lor_lt (Nat.lt_of_le_of_lt (Nat.div_le_self _ _) h) (Nat.mod_lt _ (by decide))
theorem sg0_lt {x : Nat} (h : x < 4294967296) : sg0 x < 4294967296 := xor_lt (xor_lt (rr_lt _ h) (rr_lt _ h)) (Nat.lt_of_le_of_lt (Nat.div_le_self _ _) h)
theorem sg1_lt {x : Nat} (h : x < 4294967296) : sg1 x < 4294967296 := xor_lt (xor_lt (rr_lt _ h) (rr_lt _ h)) (Nat.lt_of_le_of_lt (Nat.div_le_self _ _) h)
theorem Sg0_lt {x : Nat} (h : x < 4294967296) : Sg0 x < 4294967296 := xor_lt (xor_lt (rr_lt _ h) (rr_lt _ h)) (rr_lt _ h)
theorem Sg1_lt {x : Nat} (h : x < 4294967296) : Sg1 x < 4294967296 := xor_lt (xor_lt (rr_lt _ h) (rr_lt _ h)) (rr_lt _ h)
theorem chF_lt {e f g : Nat} (he : e < 4294967296) (hg : g < 4294967296) : chF e f g < 4294967296 := xor_lt hg (land_lt he)
theorem mjF_lt {a b c : Nat} (ha : a < 4294967296) (hc : c < 4294967296) : mjF a b c < 4294967296 := lor_lt (land_lt ha) (land_lt hc)

theorem ch_ref {e f g : Nat} (he : e < 4294967296) (hg : g < 4294967296) : (e &&& f) ^^^ ((4294967295 - e) &&& g) = chF e f g := by
  apply Nat.eq_of_testBit_eq
  intro i
  have hn : (4294967295 - e).testBit i = (decide (i < 32) && !e.testBit i) := by
    have := Nat.testBit_two_pow_sub_succ (n := 32) he i
    rwa [show (2 : Nat) ^ 32 - (e + 1) = 4294967295 - e from by rw [show (2 : Nat) ^ 32 = 4294967296 from by decide]; omega] at this
  have hgb : ¬ i < 32 → g.testBit i = false := fun h => Nat.testBit_lt_two_pow (Nat.lt_of_lt_of_le hg (Nat.le_trans (by decide : 4294967296 ≤ 2 ^ 32) (Nat.pow_le_pow_right (by decide) (by omega))))
  unfold chF
  simp only [Nat.testBit_xor, Nat.testBit_and, hn]
  by_cases h : i < 32
  · simp only [h, decide_true, Bool.true_and]
    cases e.testBit i <;> cases f.testBit i <;> cases g.testBit i <;> rfl
  · rw [hgb h]
    cases e.testBit i <;> cases f.testBit i <;> simp [h]

theorem mj_ref (a b c : Nat) : ((a &&& b) ^^^ (a &&& c)) ^^^ (b &&& c) = mjF a b c := by
  apply Nat.eq_of_testBit_eq
  intro i
  unfold mjF
  simp only [Nat.testBit_xor, Nat.testBit_and, Nat.testBit_or]
  cases a.testBit i <;> cases b.testBit i <;> cases c.testBit i <;> rfl

/-- the numbers K -/
def kTab : List Nat := [1116352408, 1899447441, 3049323471, 3921009573, 961987163, 1508970993, 2453635748, 2870763221, 3624381080, 310598401, 607225278, 1426881987, 1925078388, 2162078206, 2614888103, 3248222580,
  3835390401, 4022224774, 264347078, 604807628, 770255983, 1249150122, 1555081692, 1996064986, 2554220882, 2821834349, 2952996808, 3210313671, 3336571891, 3584528711, 113926993, 338241895,
  666307205, 773529912, 1294757372, 1396182291, 1695183700, 1986661051, 2177026350, 2456956037, 2730485921, 2820302411, 3259730800, 3345764771, 3516065817, 3600352804, 4094571909, 275423344,
  430227734, 506948616, 659060556, 883997877, 958139571, 1322822218, 1537002063, 1747873779, 1955562222, 2024104815, 2227730452, 2361852424, 2428436474, 2756734187, 3204031479, 3329325298]

/-- the next word of a schedule -/
def nextW (l : List Nat) : Nat := (((l.getD (l.length - 16) 0 + sg0 (l.getD (l.length - 15) 0)) % 4294967296 + l.getD (l.length - 7) 0) % 4294967296 + sg1 (l.getD (l.length - 2) 0)) % 4294967296
def sched : Nat → List Nat → List Nat
  | 0, l => l
  | n + 1, l => sched n (l ++ [nextW l])

/-- a word of four bytes -/
def be32 (a b c d : UInt8) : Nat := ((a.toNat * 256 + b.toNat) * 256 + c.toNat) * 256 + d.toNat
def wordsOf : List UInt8 → List Nat
  | a :: b :: c :: d :: l => be32 a b c d :: wordsOf l
  | _ => []

structure St where
  (a b c d e f g h : Nat)

def St.toL (s : St) : List Nat := [s.a, s.b, s.c, s.d, s.e, s.f, s.g, s.h]

def rp (s : St) (k _w : Nat) : Nat := (((s.h + Sg1 s.e) % 4294967296 + chF s.e s.f s.g) % 4294967296 + k) % 4294967296
def rnd (s : St) (k w : Nat) : St :=
  let p := (rp s k w + w) % 4294967296
  let q := (Sg0 s.a + mjF s.a s.b s.c) % 4294967296
  ⟨(p + q) % 4294967296, s.a, s.b, s.c, (s.d + p) % 4294967296, s.e, s.f, s.g⟩

def rounds : St → List Nat → List Nat → St
  | s, k :: ks, w :: ws => rounds (rnd s k w) ks ws
  | s, _, _ => s

def St.add (s t : St) : St := ⟨(s.a + t.a) % 4294967296, (s.b + t.b) % 4294967296, (s.c + t.c) % 4294967296, (s.d + t.d) % 4294967296, (s.e + t.e) % 4294967296, (s.f + t.f) % 4294967296, (s.g + t.g) % 4294967296, (s.h + t.h) % 4294967296⟩

def compress (s : St) (blk : List UInt8) : St := s.add (rounds s kTab (sched 48 (wordsOf blk)))

def st0 : St := ⟨1779033703, 3144134277, 1013904242, 2773480762, 1359893119, 2600822924, 528734635, 1541459225⟩

def absorbs : Nat → St → List UInt8 → St
  | 0, s, _ => s
  | n + 1, s, l => absorbs n (compress s (l.take 64)) (l.drop 64)

/-- the number of bits, as eight bytes -/
def lenBytes (n : Nat) : List UInt8 := [UInt8.ofNat (n / 72057594037927936 % 256), UInt8.ofNat (n / 281474976710656 % 256), UInt8.ofNat (n / 1099511627776 % 256), UInt8.ofNat (n / 4294967296 % 256), UInt8.ofNat (n / 16777216 % 256), UInt8.ofNat (n / 65536 % 256), UInt8.ofNat (n / 256 % 256), UInt8.ofNat (n % 256)]

/-- zeros behind the mark -/
def padZ (n : Nat) : Nat := (119 - n % 64) % 64
def padded (l : List UInt8) : List UInt8 := l ++ 128 :: (List.replicate (padZ l.length) 0 ++ lenBytes (l.length * 8))

def be4 (x : Nat) : List UInt8 := [UInt8.ofNat (x / 16777216 % 256), UInt8.ofNat (x / 65536 % 256), UInt8.ofNat (x / 256 % 256), UInt8.ofNat (x % 256)]
def St.out (s : St) : List UInt8 := be4 s.a ++ (be4 s.b ++ (be4 s.c ++ (be4 s.d ++ (be4 s.e ++ (be4 s.f ++ (be4 s.g ++ be4 s.h))))))

def sha (l : List UInt8) : List UInt8 := (absorbs ((padded l).length / 64) st0 (padded l)).out

theorem sha_empty : sha [] = [227, 176, 196, 66, 152, 252, 28, 20, 154, 251, 244, 200, 153, 111, 185, 36, 39, 174, 65, 228, 100, 155, 147, 76, 164, 149, 153, 27, 120, 82, 184, 85] := by kernel_rfl

end Go.Proofs.YtjhecmmbpmpmgaaDoor
