/-
  Words for all walks of this seat: a block that is known whole, and a world that has changed at some blocks alone. No condition.
-/
import Derived.WalkKit
import Derived.ProofKit
import Derived.Lib.Hide
import Derived.OpenShut
import Derived.Deep.Slices
import Derived.Deep.Draws
namespace Go.Proofs.Ytnolhpblhndomaa
open Go.RowKit

/-- Block b holds just these cells, none of them frozen. -/
def Blk (w : World) (b : Nat) (T : TypeId) (cs : Array Value) : Prop := w.heap[b]? = some (.cells cs T (0, 0))

theorem Blk.lt {w : World} {b : Nat} {T : TypeId} {cs : Array Value} (h : Blk w b T cs) : b < w.heap.size := by
  unfold Blk at h
  rcases Nat.lt_or_ge b w.heap.size with h' | h'
  · exact h'
  · simp [Array.getElem?_eq_none h'] at h

theorem Blk.cell {w : World} {b : Nat} {T : TypeId} {cs : Array Value} (h : Blk w b T cs) (i : Nat) : w.cell? ⟨b, i, none⟩ = cs[i]? := by
  unfold Blk at h
  simp [World.cell?, h]

theorem Blk.free {w : World} {b : Nat} {T : TypeId} {cs : Array Value} (h : Blk w b T cs) (i : Nat) : w.frozen? ⟨b, i, none⟩ = false := by
  unfold Blk at h
  simp [World.frozen?, h]

theorem Blk.alloc {w : World} {b : Nat} {T : TypeId} {cs : Array Value} (h : Blk w b T cs) (o : Obj) : Blk (w.alloc o) b T cs := by
  have := h.lt
  unfold Blk at *
  rw [Below.heap_alloc _ _ _ this]; exact h

theorem Blk.new (w : World) (T : TypeId) (cs : Array Value) : Blk (w.alloc (.cells cs T)) w.heap.size T cs := by
  show (w.heap.push _)[w.heap.size]? = _
  simp

theorem Blk.drew {w : World} {b : Nat} {T : TypeId} {cs : Array Value} (h : Blk w b T cs) : Blk w.drew b T cs := h

theorem Blk.set {w : World} {b : Nat} {T : TypeId} {cs : Array Value} (h : Blk w b T cs) (i : Nat) (v : Value) : Blk (w.setCell ⟨b, i, none⟩ v) b T (cs.setIfInBounds i v) := by
  unfold Blk at *
  simp [World.setCell, Array.getElem?_modify, h]

theorem Blk.other {w : World} {b c : Nat} {T : TypeId} {cs : Array Value} (h : Blk w b T cs) (hb : b ≠ c) (i : Nat) (v : Value) : Blk (w.setCell ⟨c, i, none⟩ v) b T cs := by
  unfold Blk at *
  rw [Below.heap_setCell _ _ _ _ hb]; exact h

/-- The world has new blocks, and has turned at the blocks of S alone. -/
structure Ch (S : Nat → Prop) (w w' : World) : Prop where
  os : w'.os = w.os
  tape : w'.tape = w.tape
  output : w'.output = w.output
  size : w.heap.size ≤ w'.heap.size
  block : ∀ k, k < w.heap.size → ¬ S k → w'.heap[k]? = w.heap[k]?

theorem Ch.refl (S : Nat → Prop) (w : World) : Ch S w w := ⟨rfl, rfl, rfl, Nat.le_refl _, fun _ _ _ => rfl⟩
theorem Ch.trans {S : Nat → Prop} {a b c : World} (h : Ch S a b) (k : Ch S b c) : Ch S a c :=
  ⟨k.os.trans h.os, k.tape.trans h.tape, k.output.trans h.output, Nat.le_trans h.size k.size, fun i hi hn => (k.block i (Nat.lt_of_lt_of_le hi h.size) hn).trans (h.block i hi hn)⟩
theorem Ch.mono {S S' : Nat → Prop} {w w' : World} (h : Ch S w w') (hS : ∀ k, k < w.heap.size → S k → S' k) : Ch S' w w' :=
  ⟨h.os, h.tape, h.output, h.size, fun k hk hn => h.block k hk fun hs => hn (hS k hk hs)⟩
theorem Ch.drew {S : Nat → Prop} {a w : World} (h : Ch S a w) : Ch S a w.drew := ⟨h.os, h.tape, h.output, h.size, h.block⟩
theorem Ch.drewN {S : Nat → Prop} {a w : World} (h : Ch S a w) (n : Nat) : Ch S a (w.drewN n) := ⟨h.os, h.tape, h.output, h.size, h.block⟩
theorem Ch.alloc {S : Nat → Prop} {a w : World} (h : Ch S a w) (o : Obj) : Ch S a (w.alloc o) :=
  h.trans ⟨rfl, rfl, rfl, by simp, fun k hk _ => Below.heap_alloc _ _ _ hk⟩
theorem Ch.set {S : Nat → Prop} {a w : World} (h : Ch S a w) {b : Nat} (hb : b < a.heap.size → S b) (i : Nat) (v : Value) : Ch S a (w.setCell ⟨b, i, none⟩ v) :=
  ⟨h.os, h.tape, h.output, by simp [World.setCell]; exact h.size, fun k hk hn => by
    have hkb : k ≠ b := fun e => by subst e; exact hn (hb hk)
    rw [Below.heap_setCell _ _ _ _ hkb]; exact h.block k hk hn⟩
theorem Ch.set1 {a w : World} {b : Nat} (h : Ch (fun k => k = b) a w) (i : Nat) (v : Value) : Ch (fun k => k = b) a (w.setCell ⟨b, i, none⟩ v) := h.set (fun _ => rfl) i v
/-- Behind a step that turned at blocks of S' alone, each of which is new or of S. -/
theorem Ch.then {S S' : Nat → Prop} {a b c : World} (h : Ch S a b) (k : Ch S' b c) (hs : ∀ i, i < a.heap.size → S' i → S i) : Ch S a c :=
  ⟨k.os.trans h.os, k.tape.trans h.tape, k.output.trans h.output, Nat.le_trans h.size k.size, fun i hi hn => (k.block i (Nat.lt_of_lt_of_le hi h.size) fun hs' => hn (hs i hi hs')).trans (h.block i hi hn)⟩
theorem Ch.blk {S : Nat → Prop} {w w' : World} (h : Ch S w w') {b : Nat} {T : TypeId} {cs : Array Value} (hb : Blk w b T cs) (hn : ¬ S b) : Blk w' b T cs := by
  have := hb.lt
  unfold Blk at *
  rw [h.block b this hn]; exact hb
theorem Ch.below {S : Nat → Prop} {B : Nat} {w w' : World} (h : Ch S w w') (hB : B ≤ w.heap.size) (hS : ∀ k, k < B → ¬ S k) : Below B w w' :=
  ⟨h.os, h.tape, h.output, h.size, fun k hk => h.block k (by omega) (hS k hk)⟩

/-! ### What an argument that is a slice gives to a walk -/

/-- The cells from an address on hold these values. -/
def Cells (w : World) (ao : Option Addr) (vs : List Value) : Prop :=
  vs ≠ [] → ∃ b off, ao = some ⟨b, off, none⟩ ∧ b < w.heap.size ∧ ∀ i, i < vs.length → w.cell? ⟨b, off + i, none⟩ = vs[i]?

theorem Cells.below {B : Nat} {w w' : World} {ao : Option Addr} {vs : List Value} (h : Cells w ao vs) (hb : Below B w w') (hB : w.heap.size ≤ B) : Cells w' ao vs := by
  intro hn
  obtain ⟨b, off, e, hlt, hc⟩ := h hn
  exact ⟨b, off, e, Nat.lt_of_lt_of_le hlt hb.size, fun i hi => (hb.cell (p := ⟨b, off + i, none⟩) (by show b < B; omega)).trans (hc i hi)⟩

/-- Element i's cell j, of a row of elements of C cells each. -/
theorem flat_at {α : Type} (f : α → List Value) (C : Nat) (hf : ∀ x, (f x).length = C) : ∀ (l : List α) (i j : Nat) (h : i < l.length), j < C → (l.flatMap f)[i * C + j]? = (f l[i])[j]?
  | x :: l, 0, j, _, hj => by
    simp only [List.flatMap_cons, Nat.zero_mul, Nat.zero_add, List.getElem_cons_zero]
    rw [List.getElem?_append_left (by rw [hf]; exact hj)]
  | x :: l, i + 1, j, h, hj => by
    simp only [List.flatMap_cons, List.getElem_cons_succ]
    rw [List.getElem?_append_right (by rw [hf, Nat.succ_mul]; omega), hf]
    have e : (i + 1) * C + j - C = i * C + j := by rw [Nat.succ_mul]; omega
    rw [e]
    exact flat_at f C hf l i j (by simpa using h) hj
theorem flat_length {α : Type} (f : α → List Value) (C : Nat) (hf : ∀ x, (f x).length = C) (l : List α) : (l.flatMap f).length = l.length * C := by
  induction l with
  | nil => simp
  | cons x l ih => simp only [List.flatMap_cons, List.length_append, hf, ih, List.length_cons, Nat.succ_mul]; omega

/-- The cells of a number, of a truth, of a struct of three numbers. -/
def fInt (n : Int) : List Value := [.int .i64 n]
def fBool (b : Bool) : List Value := [.bool b]
def fAct (a : Int × Int × Int) : List Value := [.int .i64 a.1, .int .i64 a.2.1, .int .i64 a.2.2]

section
variable {H : Type} {enc : TypeId × Value → H} {P : Program} {w : World} {base : Nat} {spare : Nat → Bool} {held : Bool}
/-- A slice whose elements are each of C cells, and tell something (alpha). -/
theorem open_flat {α : Type} (f : α → List Value) (R : α → Prop) {t e : TypeId} {fuel C : Nat} {ao : Option Addr} {len cap : Nat} {x : DataW H × List MemPlace}
    (ht : P.underlying t = some (.slice e)) (hC : P.cellsOf e = C) (h0 : 0 < C) (hf : ∀ x, (f x).length = C)
    (hR : ∀ (n : Nat) (cs : List Value) (y : DataW H × List MemPlace), DataW.trod enc P w base spare held n e cs = some y → ∃ a, cs = f a ∧ R a)
    (h : DataW.trod enc P w base spare held fuel t [.slice ao len cap] = some x) :
    ∃ l : List α, l.length = len ∧ len ≤ cap ∧ cap ≤ maxLen ∧ (∀ a ∈ l, R a) ∧ Cells w ao (l.flatMap f) := by
  rcases Go.Deep.open_slice ht h with ⟨h1, _⟩ | ⟨a, len', cap', m, n, D, Pl, hcs, hb, hl, hm, hmm, hx, hi⟩
  · simp at h1
    obtain ⟨rfl, rfl, rfl⟩ := h1
    exact ⟨[], rfl, Nat.le_refl _, by unfold maxLen; omega, by simp, fun hn => absurd rfl hn⟩
  · simp at hcs
    obtain ⟨rfl, rfl, rfl⟩ := hcs
    have hlm : len ≤ m := by subst hmm; split <;> omega
    rw [hC] at hi
    have key : ∀ k, k ≤ len → ∃ l : List α, l.length = k ∧ (∀ a ∈ l, R a) ∧ ∀ i (hi : i < l.length) j, j < C → w.cell? (a.add (i * C + j)) = (f l[i])[j]? := by
      intro k
      induction k with
      | zero => exact fun _ => ⟨[], rfl, by simp, by simp⟩
      | succ k ih =>
        intro hk
        obtain ⟨l, hl1, hl2, hl3⟩ := ih (by omega)
        obtain ⟨cs', hc1, hc2⟩ := hi k (by omega)
        obtain ⟨y, rfl, hy⟩ := hR _ _ _ hc2
        obtain ⟨_, hcl, hat⟩ := World.cells?_some hc1
        refine ⟨l ++ [y], by simp [hl1], fun z hz => ?_, fun i hi j hj => ?_⟩
        · rcases List.mem_append.1 hz with hz | hz
          · exact hl2 z hz
          · simp at hz; subst hz; exact hy
        · by_cases hik : i < l.length
          · rw [List.getElem_append_left hik]; exact hl3 i hik j hj
          · have : i = k := by simp at hi; omega
            subst this
            have h2 := hat j hj
            rw [Go.Deep.add_add] at h2
            rw [h2]
            simp [hl1]
    obtain ⟨l, hl1, hl2, hl3⟩ := key len (Nat.le_refl _)
    refine ⟨l, hl1, hl, hm, hl2, fun hn => ?_⟩
    have hpos : 0 < l.length := by
      rcases l with _ | ⟨z, l⟩
      · simp at hn
      · simp
    have h00 := hl3 0 hpos 0 h0
    have hfl : 0 < (f l[0]).length := by rw [hf]; exact h0
    have e0 : a.add (0 * C + 0) = a := by simp [Addr.add]
    rw [e0, List.getElem?_eq_getElem hfl] at h00
    have hblk := World.block_lt_of_cell? _ _ h00
    obtain ⟨b, off, spot⟩ := a
    have hsp : spot = none := by
      cases spot with
      | none => rfl
      | some s =>
        unfold World.cell? at h00
        split at h00 <;> simp at h00
    subst hsp
    refine ⟨b, off, rfl, hblk, fun i hi => ?_⟩
    rw [flat_length f C hf] at hi
    have hdiv : i / C < l.length := Nat.div_lt_of_lt_mul (by rw [Nat.mul_comm]; exact hi)
    have hmod : i % C < C := Nat.mod_lt _ h0
    have h3 := hl3 (i / C) hdiv (i % C) hmod
    have hie : i / C * C + i % C = i := Nat.div_add_mod' i C
    rw [hie] at h3
    rw [show (l.flatMap f)[i]? = (l.flatMap f)[i / C * C + i % C]? by rw [hie], flat_at f C hf l _ _ hdiv hmod, ← h3]
    congr 1
    unfold Addr.add
    split
    · subst_vars; rfl
    · rfl
theorem tell_int {e : TypeId} {k : IntKind} (he : P.underlying e = some (.int k)) (n : Nat) (cs : List Value) (y : DataW H × List MemPlace) (h : DataW.trod enc P w base spare held n e cs = some y) :
    ∃ a : Int, cs = [.int k a] ∧ (Lit.int k a).wf = true := by
  obtain ⟨a, h1, _, h2⟩ := DataW.trod_int he h
  exact ⟨a, h1, h2⟩
theorem tell_bool {e : TypeId} (he : P.underlying e = some .bool) (n : Nat) (cs : List Value) (y : DataW H × List MemPlace) (h : DataW.trod enc P w base spare held n e cs = some y) :
    ∃ a : Bool, cs = [.bool a] ∧ True := by
  obtain ⟨a, h1, _⟩ := DataW.trod_bool he h
  exact ⟨a, h1, trivial⟩
theorem tell_int3 {e : TypeId} {f0 f1 f2 : Field} (he : P.underlying e = some (.struct #[f0, f1, f2])) (hC : P.cellsOf e = 3)
    (h0 : P.underlying f0.type = some (.int .i64)) (h1 : P.underlying f1.type = some (.int .i64)) (h2 : P.underlying f2.type = some (.int .i64))
    (o0 : f0.offset = 0) (o1 : f1.offset = 1) (o2 : f2.offset = 2) (c0 : P.cellsOf f0.type = 1) (c1 : P.cellsOf f1.type = 1) (c2 : P.cellsOf f2.type = 1)
    (n : Nat) (cs : List Value) (y : DataW H × List MemPlace) (h : DataW.trod enc P w base spare held n e cs = some y) :
    ∃ a : Int × Int × Int, cs = [.int .i64 a.1, .int .i64 a.2.1, .int .i64 a.2.2] ∧ ((Lit.int .i64 a.1).wf = true ∧ (Lit.int .i64 a.2.1).wf = true ∧ (Lit.int .i64 a.2.2).wf = true) := by
  obtain ⟨xs, m, _, _, hl, hxl, hf⟩ := DataW.trod_struct he h
  rw [hC] at hl
  match cs, hl with
  | [u, v, z], _ =>
    have g0 := hf 0 f0 rfl
    have g1 := hf 1 f1 rfl
    have g2 := hf 2 f2 rfl
    rw [o0, c0] at g0
    rw [o1, c1] at g1
    rw [o2, c2] at g2
    have x0 : xs[0]? = some (xs[0]'(by rw [hxl]; simp)) := List.getElem?_eq_getElem _
    have x1 : xs[1]? = some (xs[1]'(by rw [hxl]; simp)) := List.getElem?_eq_getElem _
    have x2 : xs[2]? = some (xs[2]'(by rw [hxl]; simp)) := List.getElem?_eq_getElem _
    obtain ⟨a, ea, wa⟩ := tell_int h0 _ _ _ (g0.trans x0)
    obtain ⟨b, eb, wb⟩ := tell_int h1 _ _ _ (g1.trans x1)
    obtain ⟨c, ec, wc⟩ := tell_int h2 _ _ _ (g2.trans x2)
    simp at ea eb ec
    exact ⟨(a, b, c), by simp [ea, eb, ec], wa, wb, wc⟩
end
end Go.Proofs.Ytnolhpblhndomaa
