/-
  Words for all walks of this seat: a block that is known whole, and a world that has changed at some blocks alone. No condition. Words for memory: a slice that reads as a list of cells, a row that a call owns. No condition. A row that a call owns, behind a store of a whole element. No condition. Which layouts may be, in plain words. No program here.
-/
import Derived.WalkKit
import Derived.ProofKit
import Derived.Lib.Hide
import Derived.OpenShut
import Derived.Deep.Slices
import Derived.Deep.Draws
namespace Go.Proofs.YtkplgggdidhnoaaGreatDoor
open Go.RowKit

/-- Block b holds just these cells, none of them frozen. -/
def Blk (w : World) (b : Nat) (T : TypeId) (cs : Array Value) : Prop := w.heap[b]? = some (.cells cs T (0, 0))

theorem Blk.lt {w : World} {b : Nat} {T : TypeId} {cs : Array Value} (h : Blk w b T cs) : b < w.heap.size := by
  unfold Blk at h
  rcases Nat.lt_or_ge b w.heap.size with h' | h'
  · exact h'
  · simp [Array.getElem?_eq_none h'] at h

theorem Blk.cell {w : World} {b : Nat} {T : TypeId} {cs : Array Value} (h : Blk w b T cs) (i : Nat) : w.cell? ⟨b, i, none⟩ = cs[i]? := by
  unfold Blk at h
  simp [World.cell?, h]

theorem Blk.free {w : World} {b : Nat} {T : TypeId} {cs : Array Value} (h : Blk w b T cs) (i : Nat) : w.frozen? ⟨b, i, none⟩ = false := by
  unfold Blk at h
  simp [World.frozen?, h]

theorem Blk.alloc {w : World} {b : Nat} {T : TypeId} {cs : Array Value} (h : Blk w b T cs) (o : Obj) : Blk (w.alloc o) b T cs := by
  have := h.lt
  unfold Blk at *
  rw [Below.heap_alloc _ _ _ this]; exact h

theorem Blk.new (w : World) (T : TypeId) (cs : Array Value) : Blk (w.alloc (.cells cs T)) w.heap.size T cs := by
  show (w.heap.push _)[w.heap.size]? = _
  simp

theorem Blk.drew {w : World} {b : Nat} {T : TypeId} {cs : Array Value} (h : Blk w b T cs) : Blk w.drew b T cs := h

theorem Blk.set {w : World} {b : Nat} {T : TypeId} {cs : Array Value} (h : Blk w b T cs) (i : Nat) (v : Value) : Blk (w.setCell ⟨b, i, none⟩ v) b T (cs.setIfInBounds i v) := by
  unfold Blk at *
  simp [World.setCell, Array.getElem?_modify, h]

theorem Blk.other {w : World} {b c : Nat} {T : TypeId} {cs : Array Value} (h : Blk w b T cs) (hb : b ≠ c) (i : Nat) (v : Value) : Blk (w.setCell ⟨c, i, none⟩ v) b T cs := by
  unfold Blk at *
  rw [Below.heap_setCell _ _ _ _ hb]; exact h

/-- The world has new blocks, and has turned at the blocks of S alone. -/
structure Ch (S : Nat → Prop) (w w' : World) : Prop where
  os : w'.os = w.os
  tape : w'.tape = w.tape
  output : w'.output = w.output
  size : w.heap.size ≤ w'.heap.size
  block : ∀ k, k < w.heap.size → ¬ S k → w'.heap[k]? = w.heap[k]?

theorem Ch.refl (S : Nat → Prop) (w : World) : Ch S w w := ⟨rfl, rfl, rfl, Nat.le_refl _, fun _ _ _ => rfl⟩
theorem Ch.trans {S : Nat → Prop} {a b c : World} (h : Ch S a b) (k : Ch S b c) : Ch S a c :=
  ⟨k.os.trans h.os, k.tape.trans h.tape, k.output.trans h.output, Nat.le_trans h.size k.size, fun i hi hn => (k.block i (Nat.lt_of_lt_of_le hi h.size) hn).trans (h.block i hi hn)⟩
theorem Ch.mono {S S' : Nat → Prop} {w w' : World} (h : Ch S w w') (hS : ∀ k, k < w.heap.size → S k → S' k) : Ch S' w w' :=
  ⟨h.os, h.tape, h.output, h.size, fun k hk hn => h.block k hk fun hs => hn (hS k hk hs)⟩
theorem Ch.drew {S : Nat → Prop} {a w : World} (h : Ch S a w) : Ch S a w.drew := ⟨h.os, h.tape, h.output, h.size, h.block⟩
theorem Ch.drewN {S : Nat → Prop} {a w : World} (h : Ch S a w) (n : Nat) : Ch S a (w.drewN n) := ⟨h.os, h.tape, h.output, h.size, h.block⟩
theorem Ch.alloc {S : Nat → Prop} {a w : World} (h : Ch S a w) (o : Obj) : Ch S a (w.alloc o) :=
  h.trans ⟨rfl, rfl, rfl, by simp, fun k hk _ => Below.heap_alloc _ _ _ hk⟩
theorem Ch.set {S : Nat → Prop} {a w : World} (h : Ch S a w) {b : Nat} (hb : b < a.heap.size → S b) (i : Nat) (v : Value) : Ch S a (w.setCell ⟨b, i, none⟩ v) :=
  ⟨h.os, h.tape, h.output, by simp [World.setCell]; exact h.size, fun k hk hn => by
    have hkb : k ≠ b := fun e => by subst e; exact hn (hb hk)
    rw [Below.heap_setCell _ _ _ _ hkb]; exact h.block k hk hn⟩
theorem Ch.set1 {a w : World} {b : Nat} (h : Ch (fun k => k = b) a w) (i : Nat) (v : Value) : Ch (fun k => k = b) a (w.setCell ⟨b, i, none⟩ v) := h.set (fun _ => rfl) i v
/-- Behind a step that turned at blocks of S' alone, each of which is new or of S. -/
theorem Ch.then {S S' : Nat → Prop} {a b c : World} (h : Ch S a b) (k : Ch S' b c) (hs : ∀ i, i < a.heap.size → S' i → S i) : Ch S a c :=
  ⟨k.os.trans h.os, k.tape.trans h.tape, k.output.trans h.output, Nat.le_trans h.size k.size, fun i hi hn => (k.block i (Nat.lt_of_lt_of_le hi h.size) fun hs' => hn (hs i hi hs')).trans (h.block i hi hn)⟩
theorem Ch.blk {S : Nat → Prop} {w w' : World} (h : Ch S w w') {b : Nat} {T : TypeId} {cs : Array Value} (hb : Blk w b T cs) (hn : ¬ S b) : Blk w' b T cs := by
  have := hb.lt
  unfold Blk at *
  rw [h.block b this hn]; exact hb
theorem Ch.below {S : Nat → Prop} {B : Nat} {w w' : World} (h : Ch S w w') (hB : B ≤ w.heap.size) (hS : ∀ k, k < B → ¬ S k) : Below B w w' :=
  ⟨h.os, h.tape, h.output, h.size, fun k hk => h.block k (by omega) (hS k hk)⟩

/-! ### What an argument that is a slice gives to a walk -/

/-- The cells from an address on hold these values. -/
def Cells (w : World) (ao : Option Addr) (vs : List Value) : Prop :=
  vs ≠ [] → ∃ b off, ao = some ⟨b, off, none⟩ ∧ b < w.heap.size ∧ ∀ i, i < vs.length → w.cell? ⟨b, off + i, none⟩ = vs[i]?

theorem Cells.below {B : Nat} {w w' : World} {ao : Option Addr} {vs : List Value} (h : Cells w ao vs) (hb : Below B w w') (hB : w.heap.size ≤ B) : Cells w' ao vs := by
  intro hn
  obtain ⟨b, off, e, hlt, hc⟩ := h hn
  exact ⟨b, off, e, Nat.lt_of_lt_of_le hlt hb.size, fun i hi => (hb.cell (p := ⟨b, off + i, none⟩) (by show b < B; omega)).trans (hc i hi)⟩

/-- Element i's cell j, of a row of elements of C cells each. -/
theorem flat_at {α : Type} (f : α → List Value) (C : Nat) (hf : ∀ x, (f x).length = C) : ∀ (l : List α) (i j : Nat) (h : i < l.length), j < C → (l.flatMap f)[i * C + j]? = (f l[i])[j]?
  | x :: l, 0, j, _, hj => by
    simp only [List.flatMap_cons, Nat.zero_mul, Nat.zero_add, List.getElem_cons_zero]
    rw [List.getElem?_append_left (by rw [hf]; exact hj)]
  | x :: l, i + 1, j, h, hj => by
    simp only [List.flatMap_cons, List.getElem_cons_succ]
    rw [List.getElem?_append_right (by rw [hf, Nat.succ_mul]; omega), hf]
    have e : (i + 1) * C + j - C = i * C + j := by rw [Nat.succ_mul]; omega
    rw [e]
    exact flat_at f C hf l i j (by simpa using h) hj
theorem flat_length {α : Type} (f : α → List Value) (C : Nat) (hf : ∀ x, (f x).length = C) (l : List α) : (l.flatMap f).length = l.length * C := by
  induction l with
  | nil => simp
  | cons x l ih => simp only [List.flatMap_cons, List.length_append, hf, ih, List.length_cons, Nat.succ_mul]; omega

/-- The cells of a number, of a truth, of a struct of three numbers. -/
def fInt (n : Int) : List Value := [.int .i64 n]
def fBool (b : Bool) : List Value := [.bool b]
def fAct (a : Int × Int × Int) : List Value := [.int .i64 a.1, .int .i64 a.2.1, .int .i64 a.2.2]

section
variable {H : Type} {enc : TypeId × Value → H} {P : Program} {w : World} {base : Nat} {spare : Nat → Bool} {held : Bool}
/-- A slice whose elements are each of C cells, and tell something (alpha). -/
theorem open_flat {α : Type} (f : α → List Value) (R : α → Prop) {t e : TypeId} {fuel C : Nat} {ao : Option Addr} {len cap : Nat} {x : DataW H × List MemPlace}
    (ht : P.underlying t = some (.slice e)) (hC : P.cellsOf e = C) (h0 : 0 < C) (hf : ∀ x, (f x).length = C)
    (hR : ∀ (n : Nat) (cs : List Value) (y : DataW H × List MemPlace), DataW.trod enc P w base spare held n e cs = some y → ∃ a, cs = f a ∧ R a)
    (h : DataW.trod enc P w base spare held fuel t [.slice ao len cap] = some x) :
    ∃ l : List α, l.length = len ∧ len ≤ cap ∧ cap ≤ maxLen ∧ (∀ a ∈ l, R a) ∧ Cells w ao (l.flatMap f) := by
  rcases Go.Deep.open_slice ht h with ⟨h1, _⟩ | ⟨a, len', cap', m, n, D, Pl, hcs, hb, hl, hm, hmm, hx, hi⟩
  · simp at h1
    obtain ⟨rfl, rfl, rfl⟩ := h1
    exact ⟨[], rfl, Nat.le_refl _, by unfold maxLen; omega, by simp, fun hn => absurd rfl hn⟩
  · simp at hcs
    obtain ⟨rfl, rfl, rfl⟩ := hcs
    have hlm : len ≤ m := by subst hmm; split <;> omega
    rw [hC] at hi
    have key : ∀ k, k ≤ len → ∃ l : List α, l.length = k ∧ (∀ a ∈ l, R a) ∧ ∀ i (hi : i < l.length) j, j < C → w.cell? (a.add (i * C + j)) = (f l[i])[j]? := by
      intro k
      induction k with
      | zero => exact fun _ => ⟨[], rfl, by simp, by simp⟩
      | succ k ih =>
        intro hk
        obtain ⟨l, hl1, hl2, hl3⟩ := ih (by omega)
        obtain ⟨cs', hc1, hc2⟩ := hi k (by omega)
        obtain ⟨y, rfl, hy⟩ := hR _ _ _ hc2
        obtain ⟨_, hcl, hat⟩ := World.cells?_some hc1
        refine ⟨l ++ [y], by simp [hl1], fun z hz => ?_, fun i hi j hj => ?_⟩
        · rcases List.mem_append.1 hz with hz | hz
          · exact hl2 z hz
          · simp at hz; subst hz; exact hy
        · by_cases hik : i < l.length
          · rw [List.getElem_append_left hik]; exact hl3 i hik j hj
          · have : i = k := by simp at hi; omega
            subst this
            have h2 := hat j hj
            rw [Go.Deep.add_add] at h2
            rw [h2]
            simp [hl1]
    obtain ⟨l, hl1, hl2, hl3⟩ := key len (Nat.le_refl _)
    refine ⟨l, hl1, hl, hm, hl2, fun hn => ?_⟩
    have hpos : 0 < l.length := by
      rcases l with _ | ⟨z, l⟩
      · simp at hn
      · simp
    have h00 := hl3 0 hpos 0 h0
    have hfl : 0 < (f l[0]).length := by rw [hf]; exact h0
    have e0 : a.add (0 * C + 0) = a := by simp [Addr.add]
    rw [e0, List.getElem?_eq_getElem hfl] at h00
    have hblk := World.block_lt_of_cell? _ _ h00
    obtain ⟨b, off, spot⟩ := a
    have hsp : spot = none := by
      cases spot with
      | none => rfl
      | some s =>
        unfold World.cell? at h00
        split at h00 <;> simp at h00
    subst hsp
    refine ⟨b, off, rfl, hblk, fun i hi => ?_⟩
    rw [flat_length f C hf] at hi
    have hdiv : i / C < l.length := Nat.div_lt_of_lt_mul (by rw [Nat.mul_comm]; exact hi)
    have hmod : i % C < C := Nat.mod_lt _ h0
    have h3 := hl3 (i / C) hdiv (i % C) hmod
    have hie : i / C * C + i % C = i := Nat.div_add_mod' i C
    rw [hie] at h3
    rw [show (l.flatMap f)[i]? = (l.flatMap f)[i / C * C + i % C]? by rw [hie], flat_at f C hf l _ _ hdiv hmod, ← h3]
    congr 1
    unfold Addr.add
    split
    · subst_vars; rfl
    · rfl
theorem tell_int {e : TypeId} {k : IntKind} (he : P.underlying e = some (.int k)) (n : Nat) (cs : List Value) (y : DataW H × List MemPlace) (h : DataW.trod enc P w base spare held n e cs = some y) :
    ∃ a : Int, cs = [.int k a] ∧ (Lit.int k a).wf = true := by
  obtain ⟨a, h1, _, h2⟩ := DataW.trod_int he h
  exact ⟨a, h1, h2⟩
theorem tell_bool {e : TypeId} (he : P.underlying e = some .bool) (n : Nat) (cs : List Value) (y : DataW H × List MemPlace) (h : DataW.trod enc P w base spare held n e cs = some y) :
    ∃ a : Bool, cs = [.bool a] ∧ True := by
  obtain ⟨a, h1, _⟩ := DataW.trod_bool he h
  exact ⟨a, h1, trivial⟩
theorem tell_int3 {e : TypeId} {f0 f1 f2 : Field} (he : P.underlying e = some (.struct #[f0, f1, f2])) (hC : P.cellsOf e = 3)
    (h0 : P.underlying f0.type = some (.int .i64)) (h1 : P.underlying f1.type = some (.int .i64)) (h2 : P.underlying f2.type = some (.int .i64))
    (o0 : f0.offset = 0) (o1 : f1.offset = 1) (o2 : f2.offset = 2) (c0 : P.cellsOf f0.type = 1) (c1 : P.cellsOf f1.type = 1) (c2 : P.cellsOf f2.type = 1)
    (n : Nat) (cs : List Value) (y : DataW H × List MemPlace) (h : DataW.trod enc P w base spare held n e cs = some y) :
    ∃ a : Int × Int × Int, cs = [.int .i64 a.1, .int .i64 a.2.1, .int .i64 a.2.2] ∧ ((Lit.int .i64 a.1).wf = true ∧ (Lit.int .i64 a.2.1).wf = true ∧ (Lit.int .i64 a.2.2).wf = true) := by
  obtain ⟨xs, m, _, _, hl, hxl, hf⟩ := DataW.trod_struct he h
  rw [hC] at hl
  match cs, hl with
  | [u, v, z], _ =>
    have g0 := hf 0 f0 rfl
    have g1 := hf 1 f1 rfl
    have g2 := hf 2 f2 rfl
    rw [o0, c0] at g0
    rw [o1, c1] at g1
    rw [o2, c2] at g2
    have x0 : xs[0]? = some (xs[0]'(by rw [hxl]; simp)) := List.getElem?_eq_getElem _
    have x1 : xs[1]? = some (xs[1]'(by rw [hxl]; simp)) := List.getElem?_eq_getElem _
    have x2 : xs[2]? = some (xs[2]'(by rw [hxl]; simp)) := List.getElem?_eq_getElem _
    obtain ⟨a, ea, wa⟩ := tell_int h0 _ _ _ (g0.trans x0)
    obtain ⟨b, eb, wb⟩ := tell_int h1 _ _ _ (g1.trans x1)
    obtain ⟨c, ec, wc⟩ := tell_int h2 _ _ _ (g2.trans x2)
    simp at ea eb ec
    exact ⟨(a, b, c), by simp [ea, eb, ec], wa, wb, wc⟩
end
end Go.Proofs.YtkplgggdidhnoaaGreatDoor

namespace Go.Proofs.YtkplgggdidhnoaaGreatDoor
open Go.RowKit

/-- Nobody's block. -/
def Noone : Nat → Prop := fun _ => False
/-- A block from N on. -/
def New (N : Nat) : Nat → Prop := fun g => N ≤ g

/-- v is a slice of n elements whose cells hold vs; its block is one of B. -/
def Sl (B : Nat → Prop) (w : World) (v : Value) (n : Nat) (vs : List Value) : Prop :=
  ∃ ao cap, v = .slice ao n cap ∧ n ≤ cap ∧ cap ≤ 9223372036854775807 ∧ (ao = none → n = 0 ∧ cap = 0) ∧
    (vs ≠ [] → ∃ b off, ao = some ⟨b, off, none⟩ ∧ B b ∧ b < w.heap.size ∧ ∀ i, i < vs.length → w.cell? ⟨b, off + i, none⟩ = vs[i]?)

theorem Sl.nil (B : Nat → Prop) (w : World) : Sl B w (.slice none 0 0) 0 [] := ⟨none, 0, rfl, Nat.le_refl _, by omega, fun _ => ⟨rfl, rfl⟩, fun h => absurd rfl h⟩
theorem Sl.ch {B S : Nat → Prop} {w w' : World} {v : Value} {n : Nat} {vs : List Value} (h : Sl B w v n vs) (c : Ch S w w') (hs : ∀ b, B b → b < w.heap.size → ¬ S b) : Sl B w' v n vs := by
  obtain ⟨ao, cap, h1, h2, h3, h4, h5⟩ := h
  refine ⟨ao, cap, h1, h2, h3, h4, fun hn => ?_⟩
  obtain ⟨b, off, e, hB, hlt, hc⟩ := h5 hn
  exact ⟨b, off, e, hB, Nat.lt_of_lt_of_le hlt c.size, fun i hi => (World.cell?_of_block (w := w) (a := ⟨b, off + i, none⟩) (c.block b hlt (hs b hB hlt))).trans (hc i hi)⟩
theorem Sl.ch0 {B : Nat → Prop} {w w' : World} {v : Value} {n : Nat} {vs : List Value} (h : Sl B w v n vs) (c : Ch Noone w w') : Sl B w' v n vs := h.ch c fun _ _ _ h => h
theorem Sl.drew {B : Nat → Prop} {w : World} {v : Value} {n : Nat} {vs : List Value} (h : Sl B w v n vs) : Sl B w.drew v n vs := h
theorem Sl.mono {B B' : Nat → Prop} {w : World} {v : Value} {n : Nat} {vs : List Value} (h : Sl B w v n vs) (hb : ∀ b, B b → b < w.heap.size → B' b) : Sl B' w v n vs := by
  obtain ⟨ao, cap, h1, h2, h3, h4, h5⟩ := h
  refine ⟨ao, cap, h1, h2, h3, h4, fun hn => ?_⟩
  obtain ⟨b, off, e, hB, hlt, hc⟩ := h5 hn
  exact ⟨b, off, e, hb b hB hlt, hlt, hc⟩

/-- Element i of a slice: where its cells lie, and what they hold. -/
theorem Sl.at {α : Type} {f : α → List Value} {C : Nat} (hf : ∀ x, (f x).length = C) (h0 : 0 < C) {B : Nat → Prop} {w : World} {ao : Option Addr} {n cap : Nat} {xs : List α}
    (h : Sl B w (.slice ao n cap) n (xs.flatMap f)) {i : Nat} (hi : i < xs.length) :
    ∃ b off, ao = some ⟨b, off, none⟩ ∧ B b ∧ b < w.heap.size ∧ ∀ j, j < C → w.cell? ⟨b, off + i * C + j, none⟩ = (f xs[i])[j]? := by
  obtain ⟨ao', cap', h1, _, _, _, h5⟩ := h
  simp only [Value.slice.injEq] at h1
  obtain ⟨rfl, _, rfl⟩ := h1
  have hlen := flat_length f C hf xs
  have hpos : 0 < xs.length * C := Nat.mul_pos (by omega) h0
  obtain ⟨b, off, e, hB, hlt, hc⟩ := h5 (by intro hn; rw [hn, List.length_nil] at hlen; omega)
  refine ⟨b, off, e, hB, hlt, fun j hj => ?_⟩
  have h6 := flat_at f C hf xs i j hi hj
  have hle : i * C + j < xs.length * C := by
    have : (i + 1) * C ≤ xs.length * C := Nat.mul_le_mul_right _ hi
    rw [Nat.succ_mul] at this
    omega
  have h7 := hc (i * C + j) (by rw [hlen]; exact hle)
  rw [← h6, ← h7, Nat.add_assoc]

/-- v is a slice of n elements of type e (C cells each) that hold xs, at the head of a block of O that may be written. -/
def Own (O : Nat → Prop) (w : World) (e C : Nat) (v : Value) (n : Nat) (xs : List Value) : Prop :=
  xs.length = n * C ∧ ((v = .slice none 0 0 ∧ n = 0) ∨
    ∃ g cap cur, v = .slice (some ⟨g, 0, none⟩) n cap ∧ O g ∧ w.heap[g]? = some (.cells cur e (0, 0)) ∧ n ≤ cap ∧ cap ≤ maxLen ∧ cur.size = cap * C ∧ cur.toList.take (n * C) = xs)

theorem Own.of {w : World} {base e C : Nat} {v : Value} {n : Nat} {xs : List Value} (h : w.ownsRow base e C v n xs) : Own (New base) w e C v n xs := h
theorem Own.row {w : World} {base e C : Nat} {v : Value} {n : Nat} {xs : List Value} (h : Own (New base) w e C v n xs) : w.ownsRow base e C v n xs := h
theorem lt_of_heap {w : World} {g : Nat} {o : Obj} (h : w.heap[g]? = some o) : g < w.heap.size := by
  rcases Nat.lt_or_ge g w.heap.size with h' | h'
  · exact h'
  · simp [Array.getElem?_eq_none h'] at h
theorem Own.mono {O O' : Nat → Prop} {w : World} {e C : Nat} {v : Value} {n : Nat} {xs : List Value} (h : Own O w e C v n xs) (ho : ∀ b, O b → b < w.heap.size → O' b) : Own O' w e C v n xs := by
  obtain ⟨h1, h2⟩ := h
  refine ⟨h1, ?_⟩
  rcases h2 with h2 | ⟨g, cap, cur, hv, hg, hh, r⟩
  · exact .inl h2
  · exact .inr ⟨g, cap, cur, hv, ho g hg (lt_of_heap hh), hh, r⟩
theorem Own.ch {O S : Nat → Prop} {w w' : World} {e C : Nat} {v : Value} {n : Nat} {xs : List Value} (h : Own O w e C v n xs) (c : Ch S w w') (hs : ∀ b, O b → b < w.heap.size → ¬ S b) : Own O w' e C v n xs := by
  obtain ⟨h1, h2⟩ := h
  refine ⟨h1, ?_⟩
  rcases h2 with h2 | ⟨g, cap, cur, hv, hg, hh, r⟩
  · exact .inl h2
  · have hlt := lt_of_heap hh
    exact .inr ⟨g, cap, cur, hv, hg, (c.block g hlt (hs g hg hlt)).trans hh, r⟩
theorem Own.drew {O : Nat → Prop} {w : World} {e C : Nat} {v : Value} {n : Nat} {xs : List Value} (h : Own O w e C v n xs) : Own O w.drew e C v n xs := h
theorem Own.sl {O : Nat → Prop} {w : World} {e C : Nat} {v : Value} {n : Nat} {xs : List Value} (h : Own O w e C v n xs) : Sl O w v n xs := by
  obtain ⟨h1, h2⟩ := h
  rcases h2 with ⟨rfl, rfl⟩ | ⟨g, cap, cur, rfl, hg, hh, hn, hc, hs, ht⟩
  · have : xs = [] := List.eq_nil_of_length_eq_zero (by simpa using h1)
    subst this
    exact Sl.nil _ _
  · refine ⟨_, cap, rfl, hn, by unfold maxLen at hc; omega, (fun h => by cases h), fun _ => ⟨g, 0, rfl, hg, lt_of_heap hh, fun i hi => ?_⟩⟩
    rw [Nat.zero_add]
    have : w.cell? ⟨g, i, none⟩ = cur[i]? := by simp [World.cell?, hh]
    rw [this, ← ht, List.getElem?_take, if_pos (by omega)]
    simp
theorem Ch.grown {w w' : World} (h : w.grownBy w' none) : Ch Noone w w' := ⟨h.os, h.tape, h.output, h.size, fun k hk _ => h.block k hk (by simp)⟩
theorem Ch.grownAt {w w' : World} {g : Nat} (h : w.grownBy w' (some g)) : Ch (fun k => k = g) w w' := ⟨h.os, h.tape, h.output, h.size, fun k hk hn => h.block k hk (by simpa using hn)⟩
theorem Ch.of_below {w w' : World} (h : Below w.heap.size w w') : Ch Noone w w' := ⟨h.os, h.tape, h.output, h.size, fun k hk _ => h.block k hk⟩

/-! ### The data -/
structure Need where
  pt : Int
  rev : Bool
structure Route where
  name : ByteArray
  frm : Int
  to : Int
  path : List Int
  pts : List Need
  flank : List Need
structure Pnt where
  name : ByteArray
  sec : Int
structure Lay where
  secs : List ByteArray
  pts : List Pnt
  sigs : List ByteArray
  routes : List Route
structure RS where
  mode : Int
  timer : Int
  gone : Int
  seen : Bool
structure Ev where
  kind : Int
  unit : Int
  n : Int
  ck : Int
  cr : Int
structure Cmd where
  kind : Int
  route : Int
structure Pt where
  lies : Int
  to : Int
  steps : Int
def fStr (s : ByteArray) : List Value := [.string s]
def fNeed (n : Need) : List Value := [.int .i64 n.pt, .bool n.rev]
def fPnt (p : Pnt) : List Value := [.string p.name, .int .i64 p.sec]
def fRS (x : RS) : List Value := [.int .i64 x.mode, .int .i64 x.timer, .int .i64 x.gone, .bool x.seen]
def fEv (e : Ev) : List Value := [.int .i64 e.kind, .int .i64 e.unit, .int .i64 e.n, .int .i64 e.ck, .int .i64 e.cr]
def fCmd (c : Cmd) : List Value := [.int .i64 c.kind, .int .i64 c.route]
def fPt (p : Pt) : List Value := [.int .i64 p.lies, .int .i64 p.to, .int .i64 p.steps]
def fByte (b : UInt8) : List Value := [.int .u8 b.toNat]
/-- A route, and the three slices in it. -/
def fRoute (x : Route × Value × Value × Value) : List Value := [.string x.1.name, .int .i64 x.1.frm, .int .i64 x.1.to, x.2.1, x.2.2.1, x.2.2.2]
def SlR (B : Nat → Prop) (w : World) (x : Route × Value × Value × Value) : Prop :=
  Sl B w x.2.1 x.1.path.length (x.1.path.flatMap fInt) ∧ Sl B w x.2.2.1 x.1.pts.length (x.1.pts.flatMap fNeed) ∧ Sl B w x.2.2.2 x.1.flank.length (x.1.flank.flatMap fNeed)
/-- v is the layout L, all its blocks of B. -/
def LayAt (B : Nat → Prop) (w : World) (v : Value) (L : Lay) : Prop :=
  ∃ (v1 v2 v3 v4 : Value) (rs : List (Route × Value × Value × Value)), v = .agg #[v1, v2, v3, v4] ∧ Sl B w v1 L.secs.length (L.secs.flatMap fStr) ∧ Sl B w v2 L.pts.length (L.pts.flatMap fPnt) ∧ Sl B w v3 L.sigs.length (L.sigs.flatMap fStr) ∧
    rs.map (·.1) = L.routes ∧ Sl B w v4 rs.length (rs.flatMap fRoute) ∧ ∀ x ∈ rs, SlR B w x
theorem SlR.ch {B S : Nat → Prop} {w w' : World} {x : Route × Value × Value × Value} (h : SlR B w x) (c : Ch S w w') (hs : ∀ b, B b → b < w.heap.size → ¬ S b) : SlR B w' x := ⟨h.1.ch c hs, h.2.1.ch c hs, h.2.2.ch c hs⟩
theorem LayAt.ch {B S : Nat → Prop} {w w' : World} {v : Value} {L : Lay} (h : LayAt B w v L) (c : Ch S w w') (hs : ∀ b, B b → b < w.heap.size → ¬ S b) : LayAt B w' v L := by
  obtain ⟨v1, v2, v3, v4, rs, e, h1, h2, h3, h4, h5, h6⟩ := h
  exact ⟨v1, v2, v3, v4, rs, e, h1.ch c hs, h2.ch c hs, h3.ch c hs, h4, h5.ch c hs, fun x hx => (h6 x hx).ch c hs⟩
theorem LayAt.ch0 {B : Nat → Prop} {w w' : World} {v : Value} {L : Lay} (h : LayAt B w v L) (c : Ch Noone w w') : LayAt B w' v L := h.ch c fun _ _ _ h => h
theorem LayAt.mono {B B' : Nat → Prop} {w : World} {v : Value} {L : Lay} (h : LayAt B w v L) (hb : ∀ b, B b → b < w.heap.size → B' b) : LayAt B' w v L := by
  obtain ⟨v1, v2, v3, v4, rs, e, h1, h2, h3, h4, h5, h6⟩ := h
  exact ⟨v1, v2, v3, v4, rs, e, h1.mono hb, h2.mono hb, h3.mono hb, h4, h5.mono hb, fun x hx => ⟨(h6 x hx).1.mono hb, (h6 x hx).2.1.mono hb, (h6 x hx).2.2.mono hb⟩⟩
end Go.Proofs.YtkplgggdidhnoaaGreatDoor

namespace Go.Proofs.YtkplgggdidhnoaaGreatDoor
open Go.RowKit
set_option linter.unusedVariables false

theorem flat_ext {α : Type} (f : α → List Value) (C : Nat) (hf : ∀ x, (f x).length = C) (h0 : 0 < C) (l : List α) (vs : List Value) (hl : vs.length = l.length * C)
    (h : ∀ (i : Nat) (hi : i < l.length) (j : Nat), j < C → vs[i * C + j]? = (f l[i])[j]?) : vs = l.flatMap f := by
  refine List.ext_getElem? fun p => ?_
  by_cases hp : p < l.length * C
  · have hd : p / C < l.length := Nat.div_lt_of_lt_mul (by rw [Nat.mul_comm]; exact hp)
    have hm : p % C < C := Nat.mod_lt _ h0
    have he : p / C * C + p % C = p := Nat.div_add_mod' p C
    have h1 := h (p / C) hd (p % C) hm
    have h2 := flat_at f C hf l (p / C) (p % C) hd hm
    rw [he] at h1 h2
    rw [h1, h2]
  · rw [List.getElem?_eq_none (by omega), List.getElem?_eq_none (by rw [flat_length f C hf]; omega)]

/-- The world behind stores of the cells of vs from an offset on. -/
def putRow (w : World) (g : Nat) : Nat → List Value → World
  | _, [] => w
  | o, v :: vs => putRow (w.setCell ⟨g, o, none⟩ v) g (o + 1) vs
def putArr (cur : Array Value) : Nat → List Value → Array Value
  | _, [] => cur
  | o, v :: vs => putArr (cur.setIfInBounds o v) (o + 1) vs
theorem putRow_heap (g : Nat) (T : TypeId) : ∀ (vs : List Value) (w : World) (o : Nat) (cur : Array Value), w.heap[g]? = some (.cells cur T (0, 0)) → (putRow w g o vs).heap[g]? = some (.cells (putArr cur o vs) T (0, 0))
  | [], _, _, _, h => h
  | v :: vs, w, o, cur, h => putRow_heap g T vs _ (o + 1) _ (by simp [World.setCell, Array.getElem?_modify, h])
theorem putArr_size : ∀ (vs : List Value) (o : Nat) (cur : Array Value), (putArr cur o vs).size = cur.size
  | [], _, _ => rfl
  | v :: vs, o, cur => by rw [putArr, putArr_size vs]; simp
theorem putArr_get : ∀ (vs : List Value) (o : Nat) (cur : Array Value) (p : Nat), o + vs.length ≤ cur.size → (putArr cur o vs)[p]? = if o ≤ p ∧ p < o + vs.length then vs[p - o]? else cur[p]?
  | [], o, cur, p, _ => by rw [putArr, if_neg (by simp)]
  | v :: vs, o, cur, p, h => by
    simp only [List.length_cons] at h
    rw [putArr, putArr_get vs (o + 1) _ p (by simp; omega), Array.getElem?_setIfInBounds]
    by_cases hp : p = o
    · subst hp
      rw [if_neg (by omega), if_pos rfl]
      have hlt : p < cur.size := by omega
      simp [hlt]
    · rw [if_neg (Ne.symm hp)]
      by_cases h2 : o + 1 ≤ p ∧ p < o + 1 + vs.length
      · rw [if_pos h2, if_pos (by simp; omega), show p - o = (p - (o + 1)) + 1 by omega, List.getElem?_cons_succ]
      · rw [if_neg h2, if_neg (by simp; omega)]
theorem putRow_ch (g : Nat) : ∀ (vs : List Value) (w : World) (o : Nat), Ch (fun b => b = g) w (putRow w g o vs)
  | [], w, _ => Ch.refl _ _
  | v :: vs, w, o => ((Ch.refl _ w).set1 o v).trans (putRow_ch g vs _ (o + 1))

/-- A row that is owned, behind the store of its element k. -/
theorem Own.put {α : Type} {f : α → List Value} {C : Nat} (hf : ∀ x, (f x).length = C) (h0 : 0 < C) {O : Nat → Prop} {w : World} {e g n cap : Nat} {l : List α}
    (h : Own O w e C (.slice (some ⟨g, 0, none⟩) n cap) n (l.flatMap f)) (hl : l.length = n) {k : Nat} (hk : k < n) (y : α) :
    Own O (putRow w g (k * C) (f y)) e C (.slice (some ⟨g, 0, none⟩) n cap) n ((l.set k y).flatMap f) := by
  obtain ⟨h1, h2⟩ := h
  rcases h2 with ⟨h2, _⟩ | ⟨g', cap', cur, h2, h3, h4, h5, h6, h7, h8⟩
  · cases h2
  simp only [Value.slice.injEq, Option.some.injEq, Addr.mk.injEq, and_true, true_and] at h2
  obtain ⟨rfl, rfl⟩ := h2
  have hkC : k * C + C ≤ n * C := by have := Nat.mul_le_mul_right C hk; rw [Nat.succ_mul] at this; exact this
  have hnC : n * C ≤ cap * C := Nat.mul_le_mul_right C h5
  refine ⟨by rw [flat_length f C hf]; simp [hl], .inr ⟨g, cap, _, rfl, h3, putRow_heap g e (f y) w (k * C) cur h4, h5, h6, by rw [putArr_size]; exact h7, ?_⟩⟩
  refine flat_ext f C hf h0 _ _ (by rw [List.length_take, Array.length_toList, putArr_size, h7, List.length_set, hl]; exact Nat.min_eq_left hnC) fun i hi j hj => ?_
  have hi' : i < l.length := by simpa using hi
  have hp : i * C + j < n * C := by
    have := Nat.mul_le_mul_right C (show i + 1 ≤ n by omega)
    rw [Nat.succ_mul] at this
    omega
  rw [List.getElem?_take, if_pos hp, Array.getElem?_toList, putArr_get (f y) (k * C) cur (i * C + j) (by rw [hf, h7]; omega), hf]
  by_cases hik : i = k
  · subst hik
    rw [if_pos (by omega)]
    simp
  · have hne : ¬ (k * C ≤ i * C + j ∧ i * C + j < k * C + C) := by
      rintro ⟨a1, a2⟩
      rcases Nat.lt_or_gt_of_ne hik with h | h
      · have := Nat.mul_le_mul_right C (show i + 1 ≤ k from h)
        rw [Nat.succ_mul] at this
        omega
      · have := Nat.mul_le_mul_right C (show k + 1 ≤ i from h)
        rw [Nat.succ_mul] at this
        omega
    rw [if_neg hne, List.getElem_set_ne (Ne.symm hik)]
    have h9 := flat_at f C hf l i j hi' hj
    rw [← h8, List.getElem?_take, if_pos hp, Array.getElem?_toList] at h9
    exact h9
end Go.Proofs.YtkplgggdidhnoaaGreatDoor

namespace Go.Proofs.YtkplgggdidhnoaaGreatDoor

/-- The runes of a text from a byte on: where each begins, the rune, its width. -/
def runes (s : ByteArray) : Nat → Nat → List (Nat × Nat × Nat)
  | 0, _ => []
  | f + 1, pos => if pos < s.size then (pos, (Utf8.decode s pos).1, (Utf8.decode s pos).2) :: runes s f (pos + (Utf8.decode s pos).2) else []
/-- A letter. -/
def letterB (r : Int) : Bool := (decide (97 ≤ r) && decide (r ≤ 122)) || (decide (65 ≤ r) && decide (r ≤ 90)) || (decide (192 ≤ r) && decide (r ≤ 591) && !(r == 215) && !(r == 247))
/-- A rune that may stand at a place of a name. -/
def okRune (x : Nat × Nat × Nat) : Bool := !(x.2.1 == 65533 && x.2.2 == 1) && (letterB x.2.1 || (decide (0 < x.1) && decide (48 ≤ x.2.1) && decide (x.2.1 ≤ 57)))
def NameOk (s : ByteArray) : Prop := (runes s s.size 0).all okRune = true ∧ 1 ≤ (runes s s.size 0).length ∧ (runes s s.size 0).length ≤ 8
def NamesOk (l : List ByteArray) : Prop :=
  (∀ s ∈ l, NameOk s ∧ (s.toList == [115, 101, 116]) = false ∧ (s.toList == [102, 108, 97, 110, 107]) = false) ∧
  ∀ (i j : Nat) (hi : i < l.length) (hj : j < l.length), i < j → (l[j].toList == l[i].toList) = false

def hasB (p : List Int) (x : Int) : Bool := p.any (fun y => x == y)
def PathOk (L : Lay) (p : List Int) : Prop :=
  (∀ x ∈ p, 0 ≤ x ∧ x < L.secs.length) ∧ (∀ (i j : Nat) (hi : i < p.length) (hj : j < p.length), i < j → (p[j] == p[i]) = false) ∧ 1 ≤ p.length ∧ p.length ≤ 5
def secOf (L : Lay) (n : Int) : Int := ((L.pts[n.toNat]?).map (·.sec)).getD 0
def NeedsOk (L : Lay) (ns : List Need) (p : List Int) (inn : Bool) : Prop :=
  (∀ n ∈ ns, 0 ≤ n.pt ∧ n.pt < L.pts.length ∧ hasB p (secOf L n.pt) = inn) ∧ ∀ (i : Nat) (h : i + 1 < ns.length), (ns[i]'(by omega)).pt < ns[i + 1].pt
def countB (ps : List Pnt) (p : List Int) : Nat := (ps.filter fun q => hasB p q.sec).length
structure RouteOk (L : Lay) (r : Route) : Prop where
  f0 : 0 ≤ r.frm
  f1 : r.frm < L.sigs.length
  t0 : 0 ≤ r.to
  t1 : r.to < L.sigs.length
  ne : r.frm ≠ r.to
  path : PathOk L r.path
  pts : NeedsOk L r.pts r.path true
  flank : NeedsOk L r.flank r.path false
  count : countB L.pts r.path = r.pts.length
structure LayOk (L : Lay) : Prop where
  s0 : 1 ≤ L.secs.length
  s1 : L.secs.length ≤ 10
  g0 : 1 ≤ L.sigs.length
  g1 : L.sigs.length ≤ 6
  p1 : L.pts.length ≤ 5
  r1 : L.routes.length ≤ 6
  sec : ∀ p ∈ L.pts, 0 ≤ p.sec ∧ p.sec < L.secs.length
  route : ∀ r ∈ L.routes, RouteOk L r
  nsec : NamesOk L.secs
  nsig : NamesOk L.sigs
  npts : NamesOk (L.pts.map (·.name))
  nroutes : NamesOk (L.routes.map (·.name))

theorem needs_le {L : Lay} {ns : List Need} {p : List Int} {b : Bool} (h : NeedsOk L ns p b) : ns.length ≤ L.pts.length := by
  have key : ∀ (i : Nat) (hi : i < ns.length), (i : Int) ≤ ns[i].pt := by
    intro i
    induction i with
    | zero => intro hi; have := (h.1 ns[0] (List.getElem_mem hi)).1; omega
    | succ i ih => intro hi; have h1 := ih (by omega); have h2 := h.2 i hi; omega
  rcases Nat.lt_or_ge 0 ns.length with h0 | h0
  · have h1 := key (ns.length - 1) (by omega)
    have h2 := (h.1 ns[ns.length - 1] (List.getElem_mem _)).2.1
    omega
  · omega
end Go.Proofs.YtkplgggdidhnoaaGreatDoor
