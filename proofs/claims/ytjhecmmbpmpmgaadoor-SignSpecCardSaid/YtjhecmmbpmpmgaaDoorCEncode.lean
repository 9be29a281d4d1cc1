/- codec.newWriter, Encode, Size by their contracts. -/
import Derived.Test.YtjhecmmbpmpmgaaDoorMCod
import Derived.Laws.EntriesVeiled
namespace Go.Proofs.YtjhecmmbpmpmgaaDoor
open Go.RowKit Go.Lib

def NewWriterPost (w : World) (e : Ending) (w' : World) : Prop :=
  ∃ C G, e = .returned (.pointer (some ⟨G, 0, none⟩)) ∧ Wtr w' C G ∧ w.heap.size ≤ C ∧ w.heap.size ≤ G ∧ C < w'.heap.size ∧ G < w'.heap.size ∧ Below w.heap.size w w'

set_option maxRecDepth 100000 in
set_option maxHeartbeats 800000 in
theorem newWriter_any (w : World) : Calls Tryd.prog 59 #[] w (NewWriterPost w) := by
  have hmf : ∀ (fn : Fn) (first cap : Array Value) (w : World), (Instr.makeFunc fn first cap).run Tryd.prog w = .ok (.func fn first cap) w := fun _ _ _ _ => rfl
  go_enter Tryd.func59, Tryd.ntmps59
  go_wp2_with fail
  go_ret
  refine ⟨w.heap.size + 1, w.heap.size, rfl, ⟨?_, ?_, ?_, ?_⟩, by omega, by omega, by simp, by simp; omega, below2 _ _⟩
  · rw [World.cell?_alloc_at _ _ _ _ (by simp)]; rfl
  all_goals rw [World.cell?_alloc_past _ _ _ (by simp), World.cell?_alloc_at _ _ _ _ rfl]; rfl

/-- what Encode returns -/
def encOf (x : V) : List UInt8 := if ckOf x.fm = 0 then x.enc else []

def EncPost (x : V) (w : World) (e : Ending) (w' : World) : Prop :=
  Below w.heap.size w w' ∧ ∃ v', e = .returned (.tuple #[v', .int .i64 (ckOf x.fm)]) ∧ w'.ownsRow 0 5 1 v' (encOf x).length (bc (encOf x)) ∧ ∀ k, v'.ownBlock = some k → w.heap.size ≤ k

set_option maxRecDepth 100000 in
set_option maxHeartbeats 800000 in
theorem encode_no (x : V) (v : Value) (S : Nat → Prop) (w : World) (hx : x.sz ≤ 1000000) (hR : Rd w S x v) (hS : ∀ b, S b → b < w.heap.size) (hck : ckOf x.fm ≠ 0) :
    Calls Tryd.prog 21 #[v] w (EncPost x w) := by
  have HC : Hid (∀ w0, Below w.heap.size w w0 → Calls Tryd.prog 58 #[v] w0 fun e w' => e = .returned (.int .i64 (ckOf x.fm)) ∧ Below w0.heap.size w0 w') :=
    Lib.hid fun w0 h0 => check_any hx (hR.frame (fun b hb' => h0.block b (hS b hb')) (fun _ h => h)) (fun b hb' => by have := hS b hb'; have := h0.size; omega)
  have he : encOf x = [] := by unfold encOf; rw [if_neg hck]
  have HE : Hid (EncPost x w = fun e w' => Below w.heap.size w w' ∧ ∃ v', e = .returned (.tuple #[v', .int .i64 (ckOf x.fm)]) ∧ w'.ownsRow 0 5 1 v' 0 (bc []) ∧ ∀ k, v'.ownBlock = some k → w.heap.size ≤ k) := by
    unfold EncPost; rw [he]; rfl
  rw [HE.out]
  obtain ⟨k, n, s, l⟩ := x
  obtain ⟨A, cap, rfl, hk, hn, hs, hl, hc, ha⟩ := hR.head
  clear hR hx he HE hk hn hs hl hc ha hS
  generalize ckOf (V.mk k n s l).fm = c at *
  have hc1 : (c != 0) = true := by simpa using hck
  go_enter Tryd.func21, Tryd.ntmps21
  go_wp2_with fail
  refine (HC.out _ (below1 _)).mono ?_
  rintro e w1 ⟨rfl, hb1⟩
  go_wp2_with fail
  go_ret2
  exact ⟨(below1 _).trans (hb1.mono (by simp)), _, rfl, World.ownsRow_nil _ _ _ _, fun k hk => by simp [Value.ownBlock] at hk⟩

theorem enc_fin {w w1 w3 w4 : World} {v4 : Value} {X : Nat} (h1 : Below X w w1) (hs : X + 1 ≤ w1.heap.size) (b2 : Below w1.drew.heap.size w1.drew w3) (hwr : Wr w3 (.slice none 0 0) w4 v4) :
    Below X w w4 ∧ ∀ k, v4.ownBlock = some k → X ≤ k := by
  have hs3 : w1.heap.size ≤ w3.heap.size := b2.size
  refine ⟨h1.trans (((Below.refl _ _).drew).trans ((b2.mono (show X ≤ w1.heap.size by omega)).trans (hwr.toBelow (by omega) (fun k hk => by simp [Value.ownBlock] at hk)))), fun k hk => ?_⟩
  rcases hwr.fresh with h | h
  · rw [h] at hk; simp [Value.ownBlock] at hk
  · have := h k hk; omega

set_option maxRecDepth 100000 in
set_option maxHeartbeats 3200000 in
theorem encode_yes (x : V) (v : Value) (S : Nat → Prop) (w : World) (hx : x.sz ≤ 1000000) (hR : Rd w S x v) (hS : ∀ b, S b → b < w.heap.size) (hck : ckOf x.fm = 0) (hlen : x.enc.length < 700000000000) :
    Calls Tryd.prog 21 #[v] w (EncPost x w) := by
  have HC : Hid (∀ w0, Below w.heap.size w w0 → Calls Tryd.prog 58 #[v] w0 fun e w' => e = .returned (.int .i64 (ckOf x.fm)) ∧ Below w0.heap.size w0 w') :=
    Lib.hid fun w0 h0 => check_any hx (hR.frame (fun b hb' => h0.block b (hS b hb')) (fun _ h => h)) (fun b hb' => by have := hS b hb'; have := h0.size; omega)
  have he : encOf x = x.enc := by unfold encOf; rw [if_pos hck]
  have HE : Hid (EncPost x w = fun e w' => Below w.heap.size w w' ∧ ∃ v', e = .returned (.tuple #[v', .int .i64 0]) ∧ w'.ownsRow 0 5 1 v' x.enc.length (bc x.enc) ∧ ∀ k, v'.ownBlock = some k → w.heap.size ≤ k) := by
    unfold EncPost; rw [he, hck]; rfl
  rw [hck] at HC
  rw [HE.out]
  obtain ⟨k, n, s, l⟩ := x
  obtain ⟨A, cap, rfl, hk, hn, hs, hl, hc, ha⟩ := hR.head
  have hf : (V.mk k n s l).fm ≠ none := fun e => by rw [e] at hck; simp [ckOf] at hck
  have HN := Lib.hid hn
  clear hn HE hck hk hs hl hc ha he
  rcases fm_kind hf with hkind | hkind | hkind
  · obtain ⟨rfl, -, -⟩ := hkind
    clear hf hx
    go_enter Tryd.func21, Tryd.ntmps21
    go_wp2_with fail
    have hX : (w.alloc (Obj.cells #[Value.int IntKind.i64 1, Value.int IntKind.i64 n, Value.string s, Value.slice A l.length cap] 41)).heap[w.heap.size]? = some (.cells #[Value.int IntKind.i64 1, Value.int IntKind.i64 n, Value.string s, Value.slice A l.length cap] 41) := heap_alloc_new _ _
    have hbl := below1 (w := w) (Obj.cells #[Value.int IntKind.i64 1, Value.int IntKind.i64 n, Value.string s, Value.slice A l.length cap] 41)
    have hszb : (w.alloc (Obj.cells #[Value.int IntKind.i64 1, Value.int IntKind.i64 n, Value.string s, Value.slice A l.length cap] 41)).heap.size = w.heap.size + 1 := by simp
    generalize (w.alloc (Obj.cells #[Value.int IntKind.i64 1, Value.int IntKind.i64 n, Value.string s, Value.slice A l.length cap] 41)) = wb at *
    refine (HC.out _ hbl).mono ?_
    rintro e w1 ⟨rfl, hb1⟩
    have hX1 : w1.heap[w.heap.size]? = some (.cells #[Value.int IntKind.i64 1, Value.int IntKind.i64 n, Value.string s, Value.slice A l.length cap] 41) := by rw [hb1.block _ (by omega)]; exact hX
    have hbl1 := hbl.trans (hb1.mono (by omega))
    have hsz1 : w.heap.size + 1 ≤ w1.heap.size := by have := hb1.size; omega
    clear hX hb1 hbl hszb
    generalize hXX : w.heap.size = X at *
    have x0 : w1.cell? ⟨X, 0, none⟩ = some (Value.int IntKind.i64 1) := by rw [cell_of_row w1 X 0 _ _ _ hX1]; rfl
    have x1 : w1.cell? ⟨X, 1, none⟩ = some (Value.int IntKind.i64 n) := by rw [cell_of_row w1 X 1 _ _ _ hX1]; rfl
    have x2 : w1.cell? ⟨X, 2, none⟩ = some (Value.string s) := by rw [cell_of_row w1 X 2 _ _ _ hX1]; rfl
    have x3 : w1.cell? ⟨X, 3, none⟩ = some (Value.slice A l.length cap) := by rw [cell_of_row w1 X 3 _ _ _ hX1]; rfl
    clear hX1
    go_wp2_with fail
    go_region_with (first
        | (go_at_call 59; refine (newWriter_any _).mono ?_; rintro e w3 ⟨C, G, rfl, ⟨q0, q1, q2, q3⟩, hC, hG, hC1, hG1, b2⟩; have hXs : X < w1.drew.heap.size := hsz1; have y0 := (b2.cell (p := ⟨X, 0, none⟩) hXs).trans x0; have y1 := (b2.cell (p := ⟨X, 1, none⟩) hXs).trans x1; have y2 := (b2.cell (p := ⟨X, 2, none⟩) hXs).trans x2; have y3 := (b2.cell (p := ⟨X, 3, none⟩) hXs).trans x3)
        | (go_at_call 79; refine (write_int [] (.slice none 0 0) _ n s A _ cap _ (World.ownsRow_nil _ _ _ _) HN.out (by simp)).mono ?_; rintro e w4 ⟨v4, rfl, hown4, hwr4⟩))
    all_goals
      obtain ⟨f1, f2⟩ := enc_fin hbl1 hsz1 b2 hwr4
      go_wp2
      go_ret2
      exact ⟨by rw [hXX]; exact f1, v4, rfl, hown4, by rw [hXX]; exact f2⟩
  · obtain ⟨rfl, -, -⟩ := hkind
    have hbd : ([] : List UInt8).length + s.size < 900000000000 := by simp [V.enc] at hlen; simp; omega
    clear hf hx
    go_enter Tryd.func21, Tryd.ntmps21
    go_wp2_with fail
    have hX : (w.alloc (Obj.cells #[Value.int IntKind.i64 2, Value.int IntKind.i64 n, Value.string s, Value.slice A l.length cap] 41)).heap[w.heap.size]? = some (.cells #[Value.int IntKind.i64 2, Value.int IntKind.i64 n, Value.string s, Value.slice A l.length cap] 41) := heap_alloc_new _ _
    have hbl := below1 (w := w) (Obj.cells #[Value.int IntKind.i64 2, Value.int IntKind.i64 n, Value.string s, Value.slice A l.length cap] 41)
    have hszb : (w.alloc (Obj.cells #[Value.int IntKind.i64 2, Value.int IntKind.i64 n, Value.string s, Value.slice A l.length cap] 41)).heap.size = w.heap.size + 1 := by simp
    generalize (w.alloc (Obj.cells #[Value.int IntKind.i64 2, Value.int IntKind.i64 n, Value.string s, Value.slice A l.length cap] 41)) = wb at *
    refine (HC.out _ hbl).mono ?_
    rintro e w1 ⟨rfl, hb1⟩
    have hX1 : w1.heap[w.heap.size]? = some (.cells #[Value.int IntKind.i64 2, Value.int IntKind.i64 n, Value.string s, Value.slice A l.length cap] 41) := by rw [hb1.block _ (by omega)]; exact hX
    have hbl1 := hbl.trans (hb1.mono (by omega))
    have hsz1 : w.heap.size + 1 ≤ w1.heap.size := by have := hb1.size; omega
    clear hX hb1 hbl hszb
    generalize hXX : w.heap.size = X at *
    have x0 : w1.cell? ⟨X, 0, none⟩ = some (Value.int IntKind.i64 2) := by rw [cell_of_row w1 X 0 _ _ _ hX1]; rfl
    have x1 : w1.cell? ⟨X, 1, none⟩ = some (Value.int IntKind.i64 n) := by rw [cell_of_row w1 X 1 _ _ _ hX1]; rfl
    have x2 : w1.cell? ⟨X, 2, none⟩ = some (Value.string s) := by rw [cell_of_row w1 X 2 _ _ _ hX1]; rfl
    have x3 : w1.cell? ⟨X, 3, none⟩ = some (Value.slice A l.length cap) := by rw [cell_of_row w1 X 3 _ _ _ hX1]; rfl
    clear hX1
    go_wp2_with fail
    go_region_with (first
        | (go_at_call 59; refine (newWriter_any _).mono ?_; rintro e w3 ⟨C, G, rfl, ⟨q0, q1, q2, q3⟩, hC, hG, hC1, hG1, b2⟩; have hXs : X < w1.drew.heap.size := hsz1; have y0 := (b2.cell (p := ⟨X, 0, none⟩) hXs).trans x0; have y1 := (b2.cell (p := ⟨X, 1, none⟩) hXs).trans x1; have y2 := (b2.cell (p := ⟨X, 2, none⟩) hXs).trans x2; have y3 := (b2.cell (p := ⟨X, 3, none⟩) hXs).trans x3)
        | (go_at_call 82; refine (write_text [] (.slice none 0 0) _ n s A _ cap _ (World.ownsRow_nil _ _ _ _) hbd).mono ?_; rintro e w4 ⟨v4, rfl, hown4, hwr4⟩))
    all_goals
      obtain ⟨f1, f2⟩ := enc_fin hbl1 hsz1 b2 hwr4
      go_wp2
      go_ret2
      exact ⟨by rw [hXX]; exact f1, v4, rfl, hown4, by rw [hXX]; exact f2⟩
  · obtain ⟨rfl, rfl, hs0, hfl⟩ := hkind
    have hbd : ([] : List UInt8).length + (num l.length).length + (encL l).length < 800000000000 := by simp [V.enc] at hlen; simp; omega
    have HF : Hid (∀ w3 C G, w.heap.size ≤ w3.heap.size → Below w.heap.size w w3 → Wtr w3 C G → C < w3.heap.size → G < w3.heap.size → Calls Tryd.prog 83 #[.slice none 0 0, .agg #[.int .i64 3, .int .i64 0, .string s, .slice A l.length cap], .pointer (some ⟨C, 0, none⟩)] w3 (RowPost ([] ++ 3 :: (num l.length ++ encL l)) (.slice none 0 0) w3)) :=
      Lib.hid fun w3 C G h0 h1 h2 h3 h4 => write_upTo 1000000 (by omega) s l A cap (fun b => S b ∨ b = C ∨ b = G) C G [] _ w3 hx hfl (hR.frame (fun b hb' => h1.block b (hS b hb')) (fun b hb' => .inl hb'))
        (fun b hb' => ⟨by rcases hb' with h | rfl | rfl <;> first | (have := hS b h; omega) | assumption, by simp [Value.ownBlock]⟩) (.inr (.inl rfl)) (.inr (.inr rfl)) h2 (World.ownsRow_nil _ _ _ _) hbd
    clear hf hx hfl hs0
    go_enter Tryd.func21, Tryd.ntmps21
    go_wp2_with fail
    have hX : (w.alloc (Obj.cells #[Value.int IntKind.i64 3, Value.int IntKind.i64 0, Value.string s, Value.slice A l.length cap] 41)).heap[w.heap.size]? = some (.cells #[Value.int IntKind.i64 3, Value.int IntKind.i64 0, Value.string s, Value.slice A l.length cap] 41) := heap_alloc_new _ _
    have hbl := below1 (w := w) (Obj.cells #[Value.int IntKind.i64 3, Value.int IntKind.i64 0, Value.string s, Value.slice A l.length cap] 41)
    have hszb : (w.alloc (Obj.cells #[Value.int IntKind.i64 3, Value.int IntKind.i64 0, Value.string s, Value.slice A l.length cap] 41)).heap.size = w.heap.size + 1 := by simp
    generalize (w.alloc (Obj.cells #[Value.int IntKind.i64 3, Value.int IntKind.i64 0, Value.string s, Value.slice A l.length cap] 41)) = wb at *
    refine (HC.out _ hbl).mono ?_
    rintro e w1 ⟨rfl, hb1⟩
    have hX1 : w1.heap[w.heap.size]? = some (.cells #[Value.int IntKind.i64 3, Value.int IntKind.i64 0, Value.string s, Value.slice A l.length cap] 41) := by rw [hb1.block _ (by omega)]; exact hX
    have hbl1 := hbl.trans (hb1.mono (by omega))
    have hsz1 : w.heap.size + 1 ≤ w1.heap.size := by have := hb1.size; omega
    clear hX hb1 hbl hszb
    generalize hXX : w.heap.size = X at *
    have x0 : w1.cell? ⟨X, 0, none⟩ = some (Value.int IntKind.i64 3) := by rw [cell_of_row w1 X 0 _ _ _ hX1]; rfl
    have x1 : w1.cell? ⟨X, 1, none⟩ = some (Value.int IntKind.i64 0) := by rw [cell_of_row w1 X 1 _ _ _ hX1]; rfl
    have x2 : w1.cell? ⟨X, 2, none⟩ = some (Value.string s) := by rw [cell_of_row w1 X 2 _ _ _ hX1]; rfl
    have x3 : w1.cell? ⟨X, 3, none⟩ = some (Value.slice A l.length cap) := by rw [cell_of_row w1 X 3 _ _ _ hX1]; rfl
    clear hX1
    go_wp2_with fail
    go_region_with (first
        | (go_at_call 59; refine (newWriter_any _).mono ?_; rintro e w3 ⟨C, G, rfl, ⟨q0, q1, q2, q3⟩, hC, hG, hC1, hG1, b2⟩; have hXs : X < w1.drew.heap.size := hsz1; have y0 := (b2.cell (p := ⟨X, 0, none⟩) hXs).trans x0; have y1 := (b2.cell (p := ⟨X, 1, none⟩) hXs).trans x1; have y2 := (b2.cell (p := ⟨X, 2, none⟩) hXs).trans x2; have y3 := (b2.cell (p := ⟨X, 3, none⟩) hXs).trans x3)
        | (go_at_call 83; refine (HF.out _ C G (by have := b2.size; simp at this; omega) (hbl1.trans (((Below.refl _ _).drew).trans (b2.mono (by simp; omega)))) ⟨q0, q1, q2, q3⟩ hC1 hG1).mono ?_; rintro e w4 ⟨v4, rfl, hown4, hwr4⟩))
    all_goals
      obtain ⟨f1, f2⟩ := enc_fin hbl1 hsz1 b2 hwr4
      go_wp2
      go_ret2
      exact ⟨by rw [hXX]; exact f1, v4, rfl, hown4, by rw [hXX]; exact f2⟩

end Go.Proofs.YtjhecmmbpmpmgaaDoor
