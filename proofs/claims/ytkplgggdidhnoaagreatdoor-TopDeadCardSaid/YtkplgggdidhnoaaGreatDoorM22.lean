/-
  What the arguments of the laws of pointsmantop give to a walk: a layout, rows of events; and their bulk. No condition. What the arguments of the laws of pointsmantop give to a walk: a layout, rows of events. No condition. What the arguments of the laws of pointsmantop give to a walk where each string and each slice of them is of a real machine's size. No condition. What the rows of this seat list ('laid') gives to a walk, and a world that holds it. No condition.
-/
import Derived.Test.YtkplgggdidhnoaaGreatDoorRows
import Derived.Test.YtkplgggdidhnoaaGreatDoorM11
import Derived.Test.YtkplgggdidhnoaaGreatDoorM12
import Derived.SizedLaws
import Derived.Test.YtkplgggdidhnoaaGreatDoorCards
import Derived.Test.YtkplgggdidhnoaaGreatDoorTie
import Derived.Lib.LaidIn
import Derived.Lib.LaidU8T
import Derived.PinnedBridge
import Derived.Deep.DeepHandedRow
import Derived.Deep.DeepWitnessRowRef
import Derived.ProofKit
import Derived.Below
namespace Go.Proofs.YtkplgggdidhnoaaGreatDoor
open Go.ChangeShapes Go.WideShapes Go.ChangeAt Go.RowKit
set_option linter.unusedVariables false

section
variable {H : Type} {enc : TypeId × Value → H} {P : Program} {w : World} {base : Nat} {spare : Nat → Bool} {held : Bool}
theorem bulk_one {H : Type} (d : DataW H) : 1 ≤ Rows.uptoBulk d := by
  cases d with
  | lit l => cases l <;> simp [Rows.uptoBulk]
  | _ => simp [Rows.uptoBulk]
theorem bulk_part {H : Type} {d : DataW H} {l : List (DataW H)} (h : d ∈ l) : Rows.uptoBulk d ≤ Rows.uptoBulkAll l := by
  induction l with
  | nil => cases h
  | cons x r ih =>
    simp only [Rows.uptoBulkAll]
    rcases List.mem_cons.1 h with h | h
    · subst h; omega
    · have := ih h; omega
theorem bulk_len {H : Type} (l : List (DataW H)) : l.length ≤ Rows.uptoBulkAll l := by
  induction l with
  | nil => simp [Rows.uptoBulkAll]
  | cons x r ih => have := bulk_one x; simp only [Rows.uptoBulkAll, List.length_cons]; omega

/-- A slice whose elements are each of C cells, and tell something of a bulk. -/
theorem open_sl {α : Type} (f : α → List Value) (R : α → Nat → Prop) {t e : TypeId} {fuel C : Nat} {cs : List Value} {x : DataW H × List MemPlace}
    (ht : P.underlying t = some (.slice e)) (hC : P.cellsOf e = C) (h0 : 0 < C) (hf : ∀ x, (f x).length = C)
    (hR : ∀ (n : Nat) (cs : List Value) (y : DataW H × List MemPlace), DataW.trod enc P w base spare held n e cs = some y → ∃ a, cs = f a ∧ R a (Rows.uptoBulk y.1))
    (h : DataW.trod enc P w base spare held fuel t cs = some x) :
    ∃ (v : Value) (l : List α), cs = [v] ∧ Sl (fun g => g < w.heap.size) w v l.length (l.flatMap f) ∧ (∀ a ∈ l, ∃ k, R a k ∧ k ≤ Rows.uptoBulk x.1) ∧ l.length ≤ Rows.uptoBulk x.1 := by
  rcases Go.Deep.open_slice ht h with ⟨h1, _⟩ | ⟨a, len', cap', m, n, D, Pl, hcs, hb, hl, hm, hmm, hx, hi⟩
  · exact ⟨_, [], h1, Sl.nil _ _, by simp, by simp⟩
  · have hlm : len' ≤ m := by subst hmm; split <;> omega
    rw [hC] at hi
    have hx1 : x.1 = .slice ((List.range len').map D) ((List.range (m - len')).map fun j => D (len' + j)) := by rw [hx]
    have hbk : ∀ i, i < len' → Rows.uptoBulk (D i) ≤ Rows.uptoBulk x.1 := fun i hi' => by
      have h1 : D i ∈ (List.range len').map D := List.mem_map.2 ⟨i, List.mem_range.2 hi', rfl⟩
      have h2 := bulk_part h1
      rw [hx1]
      simp only [Rows.uptoBulk]
      omega
    have hln : len' ≤ Rows.uptoBulk x.1 := by
      have h1 := bulk_len ((List.range len').map D)
      rw [hx1]
      simp only [Rows.uptoBulk]
      simp at h1
      omega
    have key : ∀ k, k ≤ len' → ∃ l : List α, l.length = k ∧ (∀ a ∈ l, ∃ k, R a k ∧ k ≤ Rows.uptoBulk x.1) ∧ ∀ i (hi : i < l.length) j, j < C → w.cell? (a.add (i * C + j)) = (f l[i])[j]? := by
      intro k
      induction k with
      | zero => exact fun _ => ⟨[], rfl, by simp, by simp⟩
      | succ k ih =>
        intro hk
        obtain ⟨l, hl1, hl2, hl3⟩ := ih (by omega)
        obtain ⟨cs', hc1, hc2⟩ := hi k (by omega)
        obtain ⟨y, rfl, hy⟩ := hR _ _ _ hc2
        obtain ⟨_, hcl, hat⟩ := World.cells?_some hc1
        refine ⟨l ++ [y], by simp [hl1], fun z hz => ?_, fun i hi j hj => ?_⟩
        · rcases List.mem_append.1 hz with hz | hz
          · exact hl2 z hz
          · simp at hz; subst hz; exact ⟨_, hy, hbk k (by omega)⟩
        · by_cases hik : i < l.length
          · rw [List.getElem_append_left hik]; exact hl3 i hik j hj
          · have : i = k := by simp at hi; omega
            subst this
            have h2 := hat j hj
            rw [Go.Deep.add_add] at h2
            rw [h2]
            simp [hl1]
    obtain ⟨l, hl1, hl2, hl3⟩ := key len' (Nat.le_refl _)
    refine ⟨_, l, hcs, ⟨some a, cap', by rw [hl1], by omega, by unfold maxLen at hm; omega, (fun h => by cases h), fun hn => ?_⟩, hl2, by omega⟩
    have hpos : 0 < l.length := by
      rcases l with _ | ⟨z, l⟩
      · simp at hn
      · simp
    have h00 := hl3 0 hpos 0 h0
    have hfl : 0 < (f l[0]).length := by rw [hf]; exact h0
    have e0 : a.add (0 * C + 0) = a := by simp [Addr.add]
    rw [e0, List.getElem?_eq_getElem hfl] at h00
    have hblk := World.block_lt_of_cell? _ _ h00
    obtain ⟨b, off, spot⟩ := a
    have hsp : spot = none := by
      cases spot with
      | none => rfl
      | some s =>
        unfold World.cell? at h00
        split at h00 <;> simp at h00
    subst hsp
    refine ⟨b, off, rfl, hblk, hblk, fun i hi => ?_⟩
    rw [flat_length f C hf] at hi
    have hdiv : i / C < l.length := Nat.div_lt_of_lt_mul (by rw [Nat.mul_comm]; exact hi)
    have hmod : i % C < C := Nat.mod_lt _ h0
    have h3 := hl3 (i / C) hdiv (i % C) hmod
    have hie : i / C * C + i % C = i := Nat.div_add_mod' i C
    rw [hie] at h3
    rw [show (l.flatMap f)[i]? = (l.flatMap f)[i / C * C + i % C]? by rw [hie], flat_at f C hf l _ _ hdiv hmod, ← h3]
    congr 1
    unfold Addr.add
    split
    · subst_vars; rfl
    · rfl
end
end Go.Proofs.YtkplgggdidhnoaaGreatDoor

namespace Go.Proofs.YtkplgggdidhnoaaGreatDoor
open Go.ChangeShapes Go.WideShapes Go.ChangeAt Go.RowKit
set_option linter.unusedVariables false

theorem len2 : ∀ {l : List Value}, l.length = 2 → ∃ u v, l = [u, v]
  | [u, v], _ => ⟨_, _, rfl⟩
theorem len4 : ∀ {l : List Value}, l.length = 4 → ∃ u0 u1 u2 u3, l = [u0, u1, u2, u3]
  | [u0, u1, u2, u3], _ => ⟨_, _, _, _, rfl⟩
theorem len5 : ∀ {l : List Value}, l.length = 5 → ∃ u0 u1 u2 u3 u4, l = [u0, u1, u2, u3, u4]
  | [u0, u1, u2, u3, u4], _ => ⟨_, _, _, _, _, rfl⟩
theorem len6 : ∀ {l : List Value}, l.length = 6 → ∃ u0 u1 u2 u3 u4 u5, l = [u0, u1, u2, u3, u4, u5]
  | [u0, u1, u2, u3, u4, u5], _ => ⟨_, _, _, _, _, _, rfl⟩

section
variable {H : Type} {enc : TypeId × Value → H} {w : World} {base : Nat} {spare : Nat → Bool} {held : Bool}
theorem agg_part {xs : List (DataW H × List MemPlace)} {y : DataW H × List MemPlace} (hy : y = (.agg (xs.map (·.1)), xs.flatMap (·.2))) (i : Nat) (hi : i < xs.length) : Rows.uptoBulk (xs[i]).1 ≤ Rows.uptoBulk y.1 := by
  rw [hy]
  simp only [Rows.uptoBulk]
  have h : (xs[i]).1 ∈ xs.map (·.1) := List.mem_map.2 ⟨_, List.getElem_mem hi, rfl⟩
  have := bulk_part h
  omega
theorem open_str {n : Nat} {cs : List Value} {y : DataW H × List MemPlace} (h : DataW.trod enc Tryz.prog w base spare held n 9 cs = some y) : ∃ s : ByteArray, cs = fStr s ∧ s.size ≤ Rows.uptoBulk y.1 := by
  obtain ⟨s, rfl, rfl, _⟩ := DataW.trod_string Tryz.underlying9 h
  refine ⟨s, rfl, ?_⟩
  simp only [Rows.uptoBulk]
  simp
theorem open_int1 {n : Nat} {cs : List Value} {y : DataW H × List MemPlace} (h : DataW.trod enc Tryz.prog w base spare held n 3 cs = some y) : ∃ a : Int, cs = fInt a := by
  obtain ⟨a, rfl, _, _⟩ := DataW.trod_int Tryz.underlying3 h
  exact ⟨a, rfl⟩
theorem open_bool1 {n : Nat} {cs : List Value} {y : DataW H × List MemPlace} (h : DataW.trod enc Tryz.prog w base spare held n 4 cs = some y) : ∃ a : Bool, cs = [.bool a] := by
  obtain ⟨a, rfl, _⟩ := DataW.trod_bool Tryz.underlying4 h
  exact ⟨a, rfl⟩
theorem cStr : Tryz.prog.cellsOf 9 = 1 := by kernel_rfl
theorem cInt : Tryz.prog.cellsOf 3 = 1 := by kernel_rfl
theorem cBool : Tryz.prog.cellsOf 4 = 1 := by kernel_rfl
theorem cPnt : Tryz.prog.cellsOf 88 = 2 := by kernel_rfl
theorem cNeed : Tryz.prog.cellsOf 48 = 2 := by kernel_rfl
theorem cRoute : Tryz.prog.cellsOf 54 = 6 := by kernel_rfl
theorem cLay : Tryz.prog.cellsOf 26 = 4 := by kernel_rfl
theorem cEv : Tryz.prog.cellsOf 52 = 5 := by kernel_rfl
theorem cCmd : Tryz.prog.cellsOf 50 = 2 := by kernel_rfl
theorem cInts : Tryz.prog.cellsOf 33 = 1 := by kernel_rfl
theorem cNeeds : Tryz.prog.cellsOf 45 = 1 := by kernel_rfl
theorem cStrs : Tryz.prog.cellsOf 22 = 1 := by kernel_rfl
theorem cPnts : Tryz.prog.cellsOf 23 = 1 := by kernel_rfl
theorem cRoutes : Tryz.prog.cellsOf 24 = 1 := by kernel_rfl
theorem cEvs : Tryz.prog.cellsOf 38 = 1 := by kernel_rfl

theorem open_pnt (n : Nat) (cs : List Value) (y : DataW H × List MemPlace) (h : DataW.trod enc Tryz.prog w base spare held n 88 cs = some y) : ∃ p : Pnt, cs = fPnt p ∧ p.name.size ≤ Rows.uptoBulk y.1 := by
  obtain ⟨xs, m, _, hy, hl, hxl, hf⟩ := DataW.trod_struct Tryz.underlying88 h
  rw [cPnt] at hl
  obtain ⟨u, v, rfl⟩ := len2 hl
  have hxl' : xs.length = 2 := hxl
  have g0 : DataW.trod enc Tryz.prog w base spare held m 9 ((List.drop 0 [u, v]).take (Tryz.prog.cellsOf 9)) = some (xs[0]'(by omega)) := (hf 0 _ rfl).trans (List.getElem?_eq_getElem (by omega))
  have g1 : DataW.trod enc Tryz.prog w base spare held m 3 ((List.drop 1 [u, v]).take (Tryz.prog.cellsOf 3)) = some (xs[1]'(by omega)) := (hf 1 _ rfl).trans (List.getElem?_eq_getElem (by omega))
  simp only [cStr, cInt, List.drop_zero, List.take_succ_cons, List.take_zero, List.drop_succ_cons] at g0 g1
  obtain ⟨s, es, hs⟩ := open_str g0
  obtain ⟨a, ea⟩ := open_int1 g1
  simp only [fStr, fInt, List.cons.injEq, and_true] at es ea
  subst es ea
  exact ⟨⟨s, a⟩, rfl, Nat.le_trans hs (agg_part hy 0 (by omega))⟩
theorem open_need (n : Nat) (cs : List Value) (y : DataW H × List MemPlace) (h : DataW.trod enc Tryz.prog w base spare held n 48 cs = some y) : ∃ p : Need, cs = fNeed p ∧ True := by
  obtain ⟨xs, m, _, hy, hl, hxl, hf⟩ := DataW.trod_struct Tryz.underlying48 h
  rw [cNeed] at hl
  obtain ⟨u, v, rfl⟩ := len2 hl
  have hxl' : xs.length = 2 := hxl
  have g0 : DataW.trod enc Tryz.prog w base spare held m 3 ((List.drop 0 [u, v]).take (Tryz.prog.cellsOf 3)) = some (xs[0]'(by omega)) := (hf 0 _ rfl).trans (List.getElem?_eq_getElem (by omega))
  have g1 : DataW.trod enc Tryz.prog w base spare held m 4 ((List.drop 1 [u, v]).take (Tryz.prog.cellsOf 4)) = some (xs[1]'(by omega)) := (hf 1 _ rfl).trans (List.getElem?_eq_getElem (by omega))
  simp only [cBool, cInt, List.drop_zero, List.take_succ_cons, List.take_zero, List.drop_succ_cons] at g0 g1
  obtain ⟨a, ea⟩ := open_int1 g0
  obtain ⟨b, eb⟩ := open_bool1 g1
  simp only [fInt, List.cons.injEq, and_true] at ea eb
  subst ea eb
  exact ⟨⟨a, b⟩, rfl, trivial⟩
/-- A route, and what is read of it. -/
def RouteR (w : World) (x : Route × Value × Value × Value) (k : Nat) : Prop :=
  SlR (fun g => g < w.heap.size) w x ∧ x.1.name.size ≤ k ∧ x.1.path.length ≤ k ∧ x.1.pts.length ≤ k ∧ x.1.flank.length ≤ k
theorem open_route (n : Nat) (cs : List Value) (y : DataW H × List MemPlace) (h : DataW.trod enc Tryz.prog w base spare held n 54 cs = some y) : ∃ x, cs = fRoute x ∧ RouteR w x (Rows.uptoBulk y.1) := by
  obtain ⟨xs, m, _, hy, hl, hxl, hf⟩ := DataW.trod_struct Tryz.underlying54 h
  rw [cRoute] at hl
  obtain ⟨u0, u1, u2, u3, u4, u5, rfl⟩ := len6 hl
  have hxl' : xs.length = 6 := hxl
  have g0 : DataW.trod enc Tryz.prog w base spare held m 9 ((List.drop 0 [u0, u1, u2, u3, u4, u5]).take (Tryz.prog.cellsOf 9)) = some (xs[0]'(by omega)) := (hf 0 _ rfl).trans (List.getElem?_eq_getElem (by omega))
  have g1 : DataW.trod enc Tryz.prog w base spare held m 3 ((List.drop 1 [u0, u1, u2, u3, u4, u5]).take (Tryz.prog.cellsOf 3)) = some (xs[1]'(by omega)) := (hf 1 _ rfl).trans (List.getElem?_eq_getElem (by omega))
  have g2 : DataW.trod enc Tryz.prog w base spare held m 3 ((List.drop 2 [u0, u1, u2, u3, u4, u5]).take (Tryz.prog.cellsOf 3)) = some (xs[2]'(by omega)) := (hf 2 _ rfl).trans (List.getElem?_eq_getElem (by omega))
  have g3 : DataW.trod enc Tryz.prog w base spare held m 33 ((List.drop 3 [u0, u1, u2, u3, u4, u5]).take (Tryz.prog.cellsOf 33)) = some (xs[3]'(by omega)) := (hf 3 _ rfl).trans (List.getElem?_eq_getElem (by omega))
  have g4 : DataW.trod enc Tryz.prog w base spare held m 45 ((List.drop 4 [u0, u1, u2, u3, u4, u5]).take (Tryz.prog.cellsOf 45)) = some (xs[4]'(by omega)) := (hf 4 _ rfl).trans (List.getElem?_eq_getElem (by omega))
  have g5 : DataW.trod enc Tryz.prog w base spare held m 45 ((List.drop 5 [u0, u1, u2, u3, u4, u5]).take (Tryz.prog.cellsOf 45)) = some (xs[5]'(by omega)) := (hf 5 _ rfl).trans (List.getElem?_eq_getElem (by omega))
  simp only [cStr, cInt, cInts, cNeeds, List.drop_zero, List.take_succ_cons, List.take_zero, List.drop_succ_cons] at g0 g1 g2 g3 g4 g5
  obtain ⟨s, es, hs⟩ := open_str g0
  obtain ⟨a1, ea1⟩ := open_int1 g1
  obtain ⟨a2, ea2⟩ := open_int1 g2
  obtain ⟨v3, l3, e3, s3, _, b3⟩ := open_sl (C := 1) fInt (fun _ _ => True) Tryz.underlying33 cInt (by omega) (fun _ => rfl) (fun n cs y h => by obtain ⟨a, ea⟩ := open_int1 h; exact ⟨a, ea, trivial⟩) g3
  obtain ⟨v4, l4, e4, s4, _, b4⟩ := open_sl (C := 2) fNeed (fun _ _ => True) Tryz.underlying45 cNeed (by omega) (fun _ => rfl) (fun n cs y h => open_need n cs y h) g4
  obtain ⟨v5, l5, e5, s5, _, b5⟩ := open_sl (C := 2) fNeed (fun _ _ => True) Tryz.underlying45 cNeed (by omega) (fun _ => rfl) (fun n cs y h => open_need n cs y h) g5
  simp only [fStr, fInt, List.cons.injEq, and_true] at es ea1 ea2 e3 e4 e5
  subst es ea1 ea2 e3 e4 e5
  exact ⟨(⟨s, a1, a2, l3, l4, l5⟩, _, _, _), rfl, ⟨s3, s4, s5⟩, Nat.le_trans hs (agg_part hy 0 (by omega)), Nat.le_trans b3 (agg_part hy 3 (by omega)), Nat.le_trans b4 (agg_part hy 4 (by omega)), Nat.le_trans b5 (agg_part hy 5 (by omega))⟩

theorem open_lay (n : Nat) (cs : List Value) (y : DataW H × List MemPlace) (h : DataW.trod enc Tryz.prog w base spare held n 26 cs = some y) : ∃ L : Lay, LayAt (fun g => g < w.heap.size) w (.agg cs.toArray) L ∧ L.Small (Rows.uptoBulk y.1) := by
  obtain ⟨xs, m, _, hy, hl, hxl, hf⟩ := DataW.trod_struct Tryz.underlying26 h
  rw [cLay] at hl
  obtain ⟨u0, u1, u2, u3, rfl⟩ := len4 hl
  have hxl' : xs.length = 4 := hxl
  have g0 : DataW.trod enc Tryz.prog w base spare held m 22 ((List.drop 0 [u0, u1, u2, u3]).take (Tryz.prog.cellsOf 22)) = some (xs[0]'(by omega)) := (hf 0 _ rfl).trans (List.getElem?_eq_getElem (by omega))
  have g1 : DataW.trod enc Tryz.prog w base spare held m 23 ((List.drop 1 [u0, u1, u2, u3]).take (Tryz.prog.cellsOf 23)) = some (xs[1]'(by omega)) := (hf 1 _ rfl).trans (List.getElem?_eq_getElem (by omega))
  have g2 : DataW.trod enc Tryz.prog w base spare held m 22 ((List.drop 2 [u0, u1, u2, u3]).take (Tryz.prog.cellsOf 22)) = some (xs[2]'(by omega)) := (hf 2 _ rfl).trans (List.getElem?_eq_getElem (by omega))
  have g3 : DataW.trod enc Tryz.prog w base spare held m 24 ((List.drop 3 [u0, u1, u2, u3]).take (Tryz.prog.cellsOf 24)) = some (xs[3]'(by omega)) := (hf 3 _ rfl).trans (List.getElem?_eq_getElem (by omega))
  simp only [cStrs, cPnts, cRoutes, List.drop_zero, List.take_succ_cons, List.take_zero, List.drop_succ_cons] at g0 g1 g2 g3
  obtain ⟨v0, l0, e0, s0, r0, b0⟩ := open_sl (C := 1) fStr (fun s k => s.size ≤ k) Tryz.underlying22 cStr (by omega) (fun _ => rfl) (fun n cs y h => open_str h) g0
  obtain ⟨v1, l1, e1, s1, r1, b1⟩ := open_sl (C := 2) fPnt (fun s k => s.name.size ≤ k) Tryz.underlying23 cPnt (by omega) (fun _ => rfl) (fun n cs y h => open_pnt n cs y h) g1
  obtain ⟨v2, l2, e2, s2, r2, b2⟩ := open_sl (C := 1) fStr (fun s k => s.size ≤ k) Tryz.underlying22 cStr (by omega) (fun _ => rfl) (fun n cs y h => open_str h) g2
  obtain ⟨v3, l3, e3, s3, r3, b3⟩ := open_sl (C := 6) fRoute (RouteR w) Tryz.underlying24 cRoute (by omega) (fun _ => rfl) (fun n cs y h => open_route n cs y h) g3
  simp only [List.cons.injEq, and_true] at e0 e1 e2 e3
  subst e0 e1 e2 e3
  have t0 := agg_part hy 0 (by omega)
  have t1 := agg_part hy 1 (by omega)
  have t2 := agg_part hy 2 (by omega)
  have t3 := agg_part hy 3 (by omega)
  refine ⟨⟨l0, l1, l2, l3.map (·.1)⟩, ⟨_, _, _, _, l3, rfl, s0, s1, s2, rfl, s3, fun x hx => (r3 x hx).choose_spec.1.1⟩, ?_⟩
  refine ⟨Nat.le_trans b0 t0, Nat.le_trans b1 t1, Nat.le_trans b2 t2, by dsimp only; rw [List.length_map]; exact Nat.le_trans b3 t3, fun s hs => ?_, fun s hs => ?_, fun s hs => ?_, fun x hx => ?_⟩
  · obtain ⟨k, h1, h2⟩ := r0 s hs; omega
  · obtain ⟨k, h1, h2⟩ := r1 s hs; omega
  · obtain ⟨k, h1, h2⟩ := r2 s hs; omega
  · obtain ⟨z, hz, rfl⟩ := List.mem_map.1 hx
    obtain ⟨k, ⟨_, h1, h2, h3, h4⟩, h5⟩ := r3 z hz
    exact ⟨by omega, by omega, by omega, by omega⟩

theorem open_cmd (n : Nat) (cs : List Value) (y : DataW H × List MemPlace) (h : DataW.trod enc Tryz.prog w base spare held n 50 cs = some y) : ∃ a b : Int, cs = [.int .i64 a, .int .i64 b] := by
  obtain ⟨xs, m, _, hy, hl, hxl, hf⟩ := DataW.trod_struct Tryz.underlying50 h
  rw [cCmd] at hl
  obtain ⟨u, v, rfl⟩ := len2 hl
  have hxl' : xs.length = 2 := hxl
  have g0 : DataW.trod enc Tryz.prog w base spare held m 3 ((List.drop 0 [u, v]).take (Tryz.prog.cellsOf 3)) = some (xs[0]'(by omega)) := (hf 0 _ rfl).trans (List.getElem?_eq_getElem (by omega))
  have g1 : DataW.trod enc Tryz.prog w base spare held m 3 ((List.drop 1 [u, v]).take (Tryz.prog.cellsOf 3)) = some (xs[1]'(by omega)) := (hf 1 _ rfl).trans (List.getElem?_eq_getElem (by omega))
  simp only [cInt, List.drop_zero, List.take_succ_cons, List.take_zero, List.drop_succ_cons] at g0 g1
  obtain ⟨a, ea⟩ := open_int1 g0
  obtain ⟨b, eb⟩ := open_int1 g1
  simp only [fInt, List.cons.injEq, and_true] at ea eb
  subst ea eb
  exact ⟨a, b, rfl⟩
theorem open_ev (n : Nat) (cs : List Value) (y : DataW H × List MemPlace) (h : DataW.trod enc Tryz.prog w base spare held n 52 cs = some y) : ∃ e : Ev, cs = fEv e ∧ True := by
  obtain ⟨xs, m, _, hy, hl, hxl, hf⟩ := DataW.trod_struct Tryz.underlying52 h
  rw [cEv] at hl
  obtain ⟨u0, u1, u2, u3, u4, rfl⟩ := len5 hl
  have hxl' : xs.length = 4 := hxl
  have g0 : DataW.trod enc Tryz.prog w base spare held m 3 ((List.drop 0 [u0, u1, u2, u3, u4]).take (Tryz.prog.cellsOf 3)) = some (xs[0]'(by omega)) := (hf 0 _ rfl).trans (List.getElem?_eq_getElem (by omega))
  have g1 : DataW.trod enc Tryz.prog w base spare held m 3 ((List.drop 1 [u0, u1, u2, u3, u4]).take (Tryz.prog.cellsOf 3)) = some (xs[1]'(by omega)) := (hf 1 _ rfl).trans (List.getElem?_eq_getElem (by omega))
  have g2 : DataW.trod enc Tryz.prog w base spare held m 3 ((List.drop 2 [u0, u1, u2, u3, u4]).take (Tryz.prog.cellsOf 3)) = some (xs[2]'(by omega)) := (hf 2 _ rfl).trans (List.getElem?_eq_getElem (by omega))
  have g3 : DataW.trod enc Tryz.prog w base spare held m 50 ((List.drop 3 [u0, u1, u2, u3, u4]).take (Tryz.prog.cellsOf 50)) = some (xs[3]'(by omega)) := (hf 3 _ rfl).trans (List.getElem?_eq_getElem (by omega))
  simp only [cInt, cCmd, List.drop_zero, List.take_succ_cons, List.take_zero, List.drop_succ_cons] at g0 g1 g2 g3
  obtain ⟨a0, ea0⟩ := open_int1 g0
  obtain ⟨a1, ea1⟩ := open_int1 g1
  obtain ⟨a2, ea2⟩ := open_int1 g2
  obtain ⟨a3, a4, ea3⟩ := open_cmd _ _ _ g3
  simp only [fInt, List.cons.injEq, and_true] at ea0 ea1 ea2 ea3
  obtain ⟨e3, e4⟩ := ea3
  subst ea0 ea1 ea2 e3 e4
  exact ⟨⟨a0, a1, a2, a3, a4⟩, rfl, trivial⟩
theorem open_evs (n : Nat) (cs : List Value) (y : DataW H × List MemPlace) (h : DataW.trod enc Tryz.prog w base spare held n 27 cs = some y) : ∃ v es, cs = [v] ∧ EvsAt (fun g => g < w.heap.size) w v es := by
  obtain ⟨v, l, e, s, r, _⟩ := open_sl (C := 1) fEvs (fun x _ => Sl (fun g => g < w.heap.size) w x.2 x.1.length (x.1.flatMap fEv)) Tryz.underlying27 cEvs (by omega) (fun _ => rfl) (fun n cs y h => by
    obtain ⟨v, l, e, s, _, _⟩ := open_sl (C := 5) fEv (fun _ _ => True) Tryz.underlying38 cEv (by omega) (fun _ => rfl) (fun n cs y h => open_ev n cs y h) h
    exact ⟨(l, v), e, s⟩) h
  exact ⟨v, l, e, s, fun x hx => (r x hx).choose_spec.1⟩
end
theorem Lay.Small.mono {L : Lay} {n m : Nat} (h : L.Small n) (hn : n ≤ m) : L.Small m :=
  ⟨Nat.le_trans h.l1 hn, Nat.le_trans h.l2 hn, Nat.le_trans h.l3 hn, Nat.le_trans h.l4 hn, fun s hs => Nat.le_trans (h.s1 s hs) hn, fun s hs => Nat.le_trans (h.s2 s hs) hn, fun s hs => Nat.le_trans (h.s3 s hs) hn, fun s hs => ⟨Nat.le_trans (h.s4 s hs).1 hn, Nat.le_trans (h.s4 s hs).2.1 hn, Nat.le_trans (h.s4 s hs).2.2.1 hn, Nat.le_trans (h.s4 s hs).2.2.2 hn⟩⟩
end Go.Proofs.YtkplgggdidhnoaaGreatDoor

namespace Go.Proofs.YtkplgggdidhnoaaGreatDoor
open Go.ChangeShapes Go.WideShapes Go.ChangeAt Go.RowKit
set_option linter.unusedVariables false

section
variable {H : Type} {enc : TypeId × Value → H} {w : World} {base : Nat} {spare : Nat → Bool} {held : Bool}
/-- Each string, each slice that is met weighs no more than a machine's addresses. -/
def Wt (t : TypeId) (d : DataW H) : Prop := ∀ n ∈ d.weights Tryz.prog t, n ≤ 281474976710656
theorem weights_all {e : TypeId} {d : DataW H} : ∀ {l : List (DataW H)}, d ∈ l → ∀ n ∈ d.weights Tryz.prog e, n ∈ DataW.weightsAll Tryz.prog e l
  | x :: r, h, n, hn => by
    simp only [DataW.weightsAll, List.mem_append]
    rcases List.mem_cons.1 h with h | h
    · subst h; exact .inl hn
    · exact .inr (weights_all h n hn)
theorem Wt.elem {t e : TypeId} {elems rest : List (DataW H)} {d : DataW H} (ht : Tryz.prog.underlying t = some (.slice e)) (h : Wt t (.slice elems rest)) (hd : d ∈ elems) : Wt e d := fun n hn =>
  h n (by simp only [DataW.weights, ht, List.mem_cons, List.mem_append]; exact .inr (.inl (weights_all hd n hn)))
theorem Wt.len {t e : TypeId} {elems rest : List (DataW H)} (ht : Tryz.prog.underlying t = some (.slice e)) (hb : 1 ≤ Tryz.prog.bytesOf e) (h : Wt t (.slice elems rest)) : elems.length ≤ 281474976710656 := by
  have h1 := h ((elems.length + rest.length) * Tryz.prog.bytesOf e) (by simp only [DataW.weights, ht]; exact List.mem_cons_self ..)
  have h2 : elems.length * 1 ≤ (elems.length + rest.length) * Tryz.prog.bytesOf e := Nat.mul_le_mul (Nat.le_add_right _ _) hb
  omega
theorem Wt.part {t : TypeId} {fs : Array Field} {xs : List (DataW H × List MemPlace)} {y : DataW H × List MemPlace} (ht : Tryz.prog.underlying t = some (.struct fs)) (hy : y = (.agg (xs.map (·.1)), xs.flatMap (·.2))) (h : Wt t y.1) {u : TypeId} (i : Nat) (hi : i < xs.length) (hu : (fs.toList.map (·.type))[i]? = some u) : Wt u (xs[i]).1 := fun n hn => by
  rw [hy] at h
  refine h n ?_
  simp only [DataW.weights, ht]
  exact DataW.weights_mem_each hu (by rw [List.getElem?_map, List.getElem?_eq_getElem hi]; rfl) n hn
theorem open_strw {n : Nat} {cs : List Value} {y : DataW H × List MemPlace} (h : DataW.trod enc Tryz.prog w base spare held n 9 cs = some y) (hw : Wt 9 y.1) : ∃ s : ByteArray, cs = fStr s ∧ s.size ≤ 281474976710656 := by
  obtain ⟨s, rfl, rfl, _⟩ := DataW.trod_string Tryz.underlying9 h
  refine ⟨s, rfl, ?_⟩
  have := hw _ (by simp only [DataW.weights]; exact List.mem_cons_self ..)
  simpa using this
theorem byStr : 1 ≤ Tryz.prog.bytesOf 9 := of_decide_eq_true (by kernel_rfl)
theorem byInt : 1 ≤ Tryz.prog.bytesOf 3 := of_decide_eq_true (by kernel_rfl)
theorem byNeed : 1 ≤ Tryz.prog.bytesOf 48 := of_decide_eq_true (by kernel_rfl)
theorem byPnt : 1 ≤ Tryz.prog.bytesOf 88 := of_decide_eq_true (by kernel_rfl)
theorem byRoute : 1 ≤ Tryz.prog.bytesOf 54 := of_decide_eq_true (by kernel_rfl)
set_option maxRecDepth 100000 in
/-- A slice whose elements are each of C cells, and tell something of a bulk. -/
theorem open_slw {α : Type} (f : α → List Value) (R : α → Prop) {t e : TypeId} {fuel C : Nat} {cs : List Value} {x : DataW H × List MemPlace}
    (ht : Tryz.prog.underlying t = some (.slice e)) (hC : Tryz.prog.cellsOf e = C) (h0 : 0 < C) (hf : ∀ x, (f x).length = C) (hby : 1 ≤ Tryz.prog.bytesOf e)
    (hR : ∀ (n : Nat) (cs : List Value) (y : DataW H × List MemPlace), DataW.trod enc Tryz.prog w base spare held n e cs = some y → Wt e y.1 → ∃ a, cs = f a ∧ R a)
    (h : DataW.trod enc Tryz.prog w base spare held fuel t cs = some x) (hw : Wt t x.1) :
    ∃ (v : Value) (l : List α), cs = [v] ∧ Sl (fun g => g < w.heap.size) w v l.length (l.flatMap f) ∧ (∀ a ∈ l, R a) ∧ l.length ≤ 281474976710656 := by
  rcases Go.Deep.open_slice ht h with ⟨h1, _⟩ | ⟨a, len', cap', m, n, D, Pl, hcs, hb, hl, hm, hmm, hx, hi⟩
  · exact ⟨_, [], h1, Sl.nil _ _, by simp, by simp⟩
  · have hlm : len' ≤ m := by subst hmm; split <;> omega
    rw [hC] at hi
    have hx1 : x.1 = .slice ((List.range len').map D) ((List.range (m - len')).map fun j => D (len' + j)) := by rw [hx]
    rw [hx1] at hw
    have hbk : ∀ i, i < len' → Wt e (D i) := fun i hi' => Wt.elem ht hw (List.mem_map.2 ⟨i, List.mem_range.2 hi', rfl⟩)
    have hln : len' ≤ 281474976710656 := by
      have h1 := Wt.len ht hby hw
      simpa using h1
    have key : ∀ k, k ≤ len' → ∃ l : List α, l.length = k ∧ (∀ a ∈ l, R a) ∧ ∀ i (hi : i < l.length) j, j < C → w.cell? (a.add (i * C + j)) = (f l[i])[j]? := by
      intro k
      induction k with
      | zero => exact fun _ => ⟨[], rfl, by simp, by simp⟩
      | succ k ih =>
        intro hk
        obtain ⟨l, hl1, hl2, hl3⟩ := ih (by omega)
        obtain ⟨cs', hc1, hc2⟩ := hi k (by omega)
        obtain ⟨y, rfl, hy⟩ := hR _ _ _ hc2 (hbk k (by omega))
        obtain ⟨_, hcl, hat⟩ := World.cells?_some hc1
        refine ⟨l ++ [y], by simp [hl1], fun z hz => ?_, fun i hi j hj => ?_⟩
        · rcases List.mem_append.1 hz with hz | hz
          · exact hl2 z hz
          · simp at hz; subst hz; exact hy
        · by_cases hik : i < l.length
          · rw [List.getElem_append_left hik]; exact hl3 i hik j hj
          · have : i = k := by simp at hi; omega
            subst this
            have h2 := hat j hj
            rw [Go.Deep.add_add] at h2
            rw [h2]
            simp [hl1]
    obtain ⟨l, hl1, hl2, hl3⟩ := key len' (Nat.le_refl _)
    have hll : l.length ≤ 281474976710656 := by rw [hl1]; exact hln
    refine ⟨_, l, hcs, ⟨some a, cap', by rw [hl1], by omega, by unfold maxLen at hm; omega, (fun h => by cases h), fun hn => ?_⟩, hl2, hll⟩
    have hpos : 0 < l.length := by
      rcases l with _ | ⟨z, l⟩
      · simp at hn
      · simp
    have h00 := hl3 0 hpos 0 h0
    have hfl : 0 < (f l[0]).length := by rw [hf]; exact h0
    have e0 : a.add (0 * C + 0) = a := by simp [Addr.add]
    rw [e0, List.getElem?_eq_getElem hfl] at h00
    have hblk := World.block_lt_of_cell? _ _ h00
    obtain ⟨b, off, spot⟩ := a
    have hsp : spot = none := by
      cases spot with
      | none => rfl
      | some s =>
        unfold World.cell? at h00
        split at h00 <;> simp at h00
    subst hsp
    refine ⟨b, off, rfl, hblk, hblk, fun i hi => ?_⟩
    rw [flat_length f C hf] at hi
    have hdiv : i / C < l.length := Nat.div_lt_of_lt_mul (by rw [Nat.mul_comm]; exact hi)
    have hmod : i % C < C := Nat.mod_lt _ h0
    have h3 := hl3 (i / C) hdiv (i % C) hmod
    have hie : i / C * C + i % C = i := Nat.div_add_mod' i C
    rw [hie] at h3
    rw [show (l.flatMap f)[i]? = (l.flatMap f)[i / C * C + i % C]? by rw [hie], flat_at f C hf l _ _ hdiv hmod, ← h3]
    congr 1
    unfold Addr.add
    split
    · subst_vars; rfl
    · rfl

theorem open_pntw (n : Nat) (cs : List Value) (y : DataW H × List MemPlace) (h : DataW.trod enc Tryz.prog w base spare held n 88 cs = some y) (hw : Wt 88 y.1) : ∃ p : Pnt, cs = fPnt p ∧ p.name.size ≤ 281474976710656 := by
  obtain ⟨xs, m, _, hy, hl, hxl, hf⟩ := DataW.trod_struct Tryz.underlying88 h
  rw [cPnt] at hl
  obtain ⟨u, v, rfl⟩ := len2 hl
  have hxl' : xs.length = 2 := hxl
  have g0 : DataW.trod enc Tryz.prog w base spare held m 9 ((List.drop 0 [u, v]).take (Tryz.prog.cellsOf 9)) = some (xs[0]'(by omega)) := (hf 0 _ rfl).trans (List.getElem?_eq_getElem (by omega))
  have g1 : DataW.trod enc Tryz.prog w base spare held m 3 ((List.drop 1 [u, v]).take (Tryz.prog.cellsOf 3)) = some (xs[1]'(by omega)) := (hf 1 _ rfl).trans (List.getElem?_eq_getElem (by omega))
  simp only [cStr, cInt, List.drop_zero, List.take_succ_cons, List.take_zero, List.drop_succ_cons] at g0 g1
  obtain ⟨s, es, hs⟩ := open_strw g0 (Wt.part Tryz.underlying88 hy hw 0 (by omega) rfl)
  obtain ⟨a, ea⟩ := open_int1 g1
  simp only [fStr, fInt, List.cons.injEq, and_true] at es ea
  subst es ea
  exact ⟨⟨s, a⟩, rfl, hs⟩
/-- A route, and what is read of it. -/
def RouteW (w : World) (x : Route × Value × Value × Value) : Prop :=
  SlR (fun g => g < w.heap.size) w x ∧ x.1.name.size ≤ 281474976710656 ∧ x.1.path.length ≤ 281474976710656 ∧ x.1.pts.length ≤ 281474976710656 ∧ x.1.flank.length ≤ 281474976710656
theorem open_routew (n : Nat) (cs : List Value) (y : DataW H × List MemPlace) (h : DataW.trod enc Tryz.prog w base spare held n 54 cs = some y) (hw : Wt 54 y.1) : ∃ x, cs = fRoute x ∧ RouteW w x := by
  obtain ⟨xs, m, _, hy, hl, hxl, hf⟩ := DataW.trod_struct Tryz.underlying54 h
  rw [cRoute] at hl
  obtain ⟨u0, u1, u2, u3, u4, u5, rfl⟩ := len6 hl
  have hxl' : xs.length = 6 := hxl
  have g0 : DataW.trod enc Tryz.prog w base spare held m 9 ((List.drop 0 [u0, u1, u2, u3, u4, u5]).take (Tryz.prog.cellsOf 9)) = some (xs[0]'(by omega)) := (hf 0 _ rfl).trans (List.getElem?_eq_getElem (by omega))
  have g1 : DataW.trod enc Tryz.prog w base spare held m 3 ((List.drop 1 [u0, u1, u2, u3, u4, u5]).take (Tryz.prog.cellsOf 3)) = some (xs[1]'(by omega)) := (hf 1 _ rfl).trans (List.getElem?_eq_getElem (by omega))
  have g2 : DataW.trod enc Tryz.prog w base spare held m 3 ((List.drop 2 [u0, u1, u2, u3, u4, u5]).take (Tryz.prog.cellsOf 3)) = some (xs[2]'(by omega)) := (hf 2 _ rfl).trans (List.getElem?_eq_getElem (by omega))
  have g3 : DataW.trod enc Tryz.prog w base spare held m 33 ((List.drop 3 [u0, u1, u2, u3, u4, u5]).take (Tryz.prog.cellsOf 33)) = some (xs[3]'(by omega)) := (hf 3 _ rfl).trans (List.getElem?_eq_getElem (by omega))
  have g4 : DataW.trod enc Tryz.prog w base spare held m 45 ((List.drop 4 [u0, u1, u2, u3, u4, u5]).take (Tryz.prog.cellsOf 45)) = some (xs[4]'(by omega)) := (hf 4 _ rfl).trans (List.getElem?_eq_getElem (by omega))
  have g5 : DataW.trod enc Tryz.prog w base spare held m 45 ((List.drop 5 [u0, u1, u2, u3, u4, u5]).take (Tryz.prog.cellsOf 45)) = some (xs[5]'(by omega)) := (hf 5 _ rfl).trans (List.getElem?_eq_getElem (by omega))
  simp only [cStr, cInt, cInts, cNeeds, List.drop_zero, List.take_succ_cons, List.take_zero, List.drop_succ_cons] at g0 g1 g2 g3 g4 g5
  obtain ⟨s, es, hs⟩ := open_strw g0 (Wt.part Tryz.underlying54 hy hw 0 (by omega) rfl)
  obtain ⟨a1, ea1⟩ := open_int1 g1
  obtain ⟨a2, ea2⟩ := open_int1 g2
  obtain ⟨v3, l3, e3, s3, _, b3⟩ := open_slw (C := 1) fInt (fun _ => True) Tryz.underlying33 cInt (by omega) (fun _ => rfl) byInt (fun n cs y h _ => by obtain ⟨a, ea⟩ := open_int1 h; exact ⟨a, ea, trivial⟩) g3 (Wt.part Tryz.underlying54 hy hw 3 (by omega) rfl)
  obtain ⟨v4, l4, e4, s4, _, b4⟩ := open_slw (C := 2) fNeed (fun _ => True) Tryz.underlying45 cNeed (by omega) (fun _ => rfl) byNeed (fun n cs y h _ => open_need n cs y h) g4 (Wt.part Tryz.underlying54 hy hw 4 (by omega) rfl)
  obtain ⟨v5, l5, e5, s5, _, b5⟩ := open_slw (C := 2) fNeed (fun _ => True) Tryz.underlying45 cNeed (by omega) (fun _ => rfl) byNeed (fun n cs y h _ => open_need n cs y h) g5 (Wt.part Tryz.underlying54 hy hw 5 (by omega) rfl)
  simp only [fStr, fInt, List.cons.injEq, and_true] at es ea1 ea2 e3 e4 e5
  subst es ea1 ea2 e3 e4 e5
  exact ⟨(⟨s, a1, a2, l3, l4, l5⟩, _, _, _), rfl, ⟨s3, s4, s5⟩, hs, b3, b4, b5⟩

theorem open_layw (n : Nat) (cs : List Value) (y : DataW H × List MemPlace) (h : DataW.trod enc Tryz.prog w base spare held n 26 cs = some y) (hw : Wt 26 y.1) : ∃ L : Lay, LayAt (fun g => g < w.heap.size) w (.agg cs.toArray) L ∧ L.Small 281474976710656 := by
  obtain ⟨xs, m, _, hy, hl, hxl, hf⟩ := DataW.trod_struct Tryz.underlying26 h
  rw [cLay] at hl
  obtain ⟨u0, u1, u2, u3, rfl⟩ := len4 hl
  have hxl' : xs.length = 4 := hxl
  have g0 : DataW.trod enc Tryz.prog w base spare held m 22 ((List.drop 0 [u0, u1, u2, u3]).take (Tryz.prog.cellsOf 22)) = some (xs[0]'(by omega)) := (hf 0 _ rfl).trans (List.getElem?_eq_getElem (by omega))
  have g1 : DataW.trod enc Tryz.prog w base spare held m 23 ((List.drop 1 [u0, u1, u2, u3]).take (Tryz.prog.cellsOf 23)) = some (xs[1]'(by omega)) := (hf 1 _ rfl).trans (List.getElem?_eq_getElem (by omega))
  have g2 : DataW.trod enc Tryz.prog w base spare held m 22 ((List.drop 2 [u0, u1, u2, u3]).take (Tryz.prog.cellsOf 22)) = some (xs[2]'(by omega)) := (hf 2 _ rfl).trans (List.getElem?_eq_getElem (by omega))
  have g3 : DataW.trod enc Tryz.prog w base spare held m 24 ((List.drop 3 [u0, u1, u2, u3]).take (Tryz.prog.cellsOf 24)) = some (xs[3]'(by omega)) := (hf 3 _ rfl).trans (List.getElem?_eq_getElem (by omega))
  simp only [cStrs, cPnts, cRoutes, List.drop_zero, List.take_succ_cons, List.take_zero, List.drop_succ_cons] at g0 g1 g2 g3
  obtain ⟨v0, l0, e0, s0, r0, b0⟩ := open_slw (C := 1) fStr (fun s => s.size ≤ 281474976710656) Tryz.underlying22 cStr (by omega) (fun _ => rfl) byStr (fun n cs y h hw => open_strw h hw) g0 (Wt.part Tryz.underlying26 hy hw 0 (by omega) rfl)
  obtain ⟨v1, l1, e1, s1, r1, b1⟩ := open_slw (C := 2) fPnt (fun s => s.name.size ≤ 281474976710656) Tryz.underlying23 cPnt (by omega) (fun _ => rfl) byPnt (fun n cs y h hw => open_pntw n cs y h hw) g1 (Wt.part Tryz.underlying26 hy hw 1 (by omega) rfl)
  obtain ⟨v2, l2, e2, s2, r2, b2⟩ := open_slw (C := 1) fStr (fun s => s.size ≤ 281474976710656) Tryz.underlying22 cStr (by omega) (fun _ => rfl) byStr (fun n cs y h hw => open_strw h hw) g2 (Wt.part Tryz.underlying26 hy hw 2 (by omega) rfl)
  obtain ⟨v3, l3, e3, s3, r3, b3⟩ := open_slw (C := 6) fRoute (RouteW w) Tryz.underlying24 cRoute (by omega) (fun _ => rfl) byRoute (fun n cs y h hw => open_routew n cs y h hw) g3 (Wt.part Tryz.underlying26 hy hw 3 (by omega) rfl)
  simp only [List.cons.injEq, and_true] at e0 e1 e2 e3
  subst e0 e1 e2 e3
  refine ⟨⟨l0, l1, l2, l3.map (·.1)⟩, ⟨_, _, _, _, l3, rfl, s0, s1, s2, rfl, s3, fun x hx => (r3 x hx).1⟩, ?_⟩
  refine ⟨b0, b1, b2, by dsimp only; rw [List.length_map]; exact b3, r0, r1, r2, fun x hx => ?_⟩
  obtain ⟨z, hz, rfl⟩ := List.mem_map.1 hx
  obtain ⟨_, h1, h2, h3, h4⟩ := r3 z hz
  exact ⟨h1, h2, h3, h4⟩
end
end Go.Proofs.YtkplgggdidhnoaaGreatDoor

namespace Go.Proofs.YtkplgggdidhnoaaGreatDoor.laid
open Go.ChangeShapes Go.WideShapes Go.ChangeAt Go.RowKit
set_option linter.unusedVariables false

theorem own : ownKnob Tryz.prog.godebug = none := by kernel_rfl
theorem laidOut : laidOutB Tryz.prog = true := by kernel_rfl
theorem acc_eq : (Rows.laid_unicode_utf8_acceptRanges : DataW Unit) = Lib.acceptData := by kernel_rfl
theorem first_eq : Rows.laid_unicode_utf8_first = Lib.firstData := Pinned.utf8First_eq
def lst : List (String × DataW Unit) := [("unicode/utf8.acceptRanges", Rows.laid_unicode_utf8_acceptRanges), ("unicode/utf8.first", Rows.laid_unicode_utf8_first)]
theorem laid_eq : lst = [("unicode/utf8.acceptRanges", Lib.acceptData), ("unicode/utf8.first", Lib.firstData)] := by
  unfold lst
  rw [acc_eq, first_eq]
theorem u8 : U8Types Tryz.prog Tryz.lays197_ren := ⟨Tryz.lays197.t5, Tryz.lays197.t119, Tryz.lays197.t138, Tryz.lays197.t139⟩
theorem tabs {W : World} (h : laidMet Tryz.prog lst W) : Tabs W := by
  rw [laid_eq] at h
  exact utf8Tabs_of_readsT u8 ⟨by kernel_rfl, by kernel_rfl, by kernel_rfl, by kernel_rfl, by kernel_rfl, by kernel_rfl, by kernel_rfl⟩ (Lib.laidMet.reads h (.tail _ (.head _))) (Lib.laidMet.reads h (.head _))

/-- The world of the witness: the two tables lie in it. -/
noncomputable def laidWorld (os : Os) : World :=
  let w0 := World.holding Tryz.prog os ⟨#[], #[], []⟩
  let put (h : Array Obj) (g : Nat) (cs : Array Value) : Array Obj := h.modify g fun
    | .cells _ t frozen => .cells cs t frozen
    | o => o
  let h1 := put w0.heap 0 (Lib.firstTab.map fun z => Value.int .u8 z).toArray
  let h2 := put h1 1 ((List.range 16).flatMap fun i => [Value.int .u8 (Lib.accLo i), Value.int .u8 (Lib.accHi i)]).toArray
  { w0 with heap := h2 }
theorem laid_met (os : Os) (args : Array Value) : laidMet Tryz.prog lst ((laidWorld os).forCall (fun _ _ => 0) ⟨#[], args, []⟩).memory := by
  rw [laid_eq]
  exact (LaidIn.of_run (l := [("unicode/utf8.acceptRanges", Lib.acceptData), ("unicode/utf8.first", Lib.firstData)]) [1, 0] 8 (by kernel_rfl) (by kernel_rfl) (by kernel_rfl) (by kernel_rfl)).met
end Go.Proofs.YtkplgggdidhnoaaGreatDoor.laid
