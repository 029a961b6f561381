/-
  The contracts of field: what each function does to the blocks that hold the Field. Conditions: sizes. The contracts of field: Train, Stick. Conditions: sizes. The contracts of field: Stick, Step. Conditions: sizes. The contracts of field: New. Conditions: sizes. The contracts of field: In. Conditions: sizes.
-/
import Derived.Test.YtkplgggdidhnoaaGreatDoorM06
import Derived.Test.YtkplgggdidhnoaaGreatDoorM03
import Derived.Test.YtkplgggdidhnoaaGreatDoorM11
import Derived.StillTailTactics
import Derived.Deep.RegionHeld3
namespace Go.Proofs.YtkplgggdidhnoaaGreatDoor
open Go.ChangeShapes Go.WideShapes Go.ChangeAt Go.RowKit
set_option linter.unusedVariables false

/-- The Field at block b: its blocks are of O. -/
def FieldAt (O : Nat → Prop) (w : World) (b : Nat) (occ : List Bool) (pts : List Pt) : Prop :=
  O b ∧ ∃ v1 v2, Blk w b 98 #[v1, v2] ∧ Own (fun g => O g ∧ g ≠ b) w 4 1 v1 occ.length (occ.flatMap fB) ∧
    Own (fun g => O g ∧ g ≠ b ∧ v1.ownBlock ≠ some g) w 100 3 v2 pts.length (pts.flatMap fPt)

theorem FieldAt.ch {O S : Nat → Prop} {w w' : World} {b : Nat} {occ : List Bool} {pts : List Pt} (h : FieldAt O w b occ pts) (c : Ch S w w') (hs : ∀ g, O g → g < w.heap.size → ¬ S g) : FieldAt O w' b occ pts := by
  obtain ⟨h0, v1, v2, h1, h2, h3⟩ := h
  exact ⟨h0, v1, v2, c.blk h1 (hs b h0 h1.lt), h2.ch c (fun g hg => hs g hg.1), h3.ch c (fun g hg => hs g hg.1)⟩

/-- A point that is driven. -/
def Pt.drive (p : Pt) (to : Int) : Pt :=
  if to = 0 ∨ to = p.lies then ⟨p.lies, 0, 0⟩
  else if 3 ≤ (if to ≠ p.to then 0 else p.steps) + 1 then ⟨to, 0, 0⟩ else ⟨0, to, (if to ≠ p.to then 0 else p.steps) + 1⟩

def Pt.agg (p : Pt) : Value := .agg #[.int .i64 p.lies, .int .i64 p.to, .int .i64 p.steps]

set_option maxHeartbeats 1000000 in
theorem driven_any (w : World) (p : Pt) (to : Int) (h0 : 0 ≤ p.steps) (h1 : p.steps ≤ 1000) :
    Calls Tryz.prog 71 #[p.agg, .int .i64 to] w fun r w' => r = .returned (p.drive to).agg ∧ Ch Noone w w' := by
  obtain ⟨l, t, s⟩ := p
  dsimp only at *
  by_cases e0 : to = 0
  · have HD : Hid ((Pt.mk l t s).drive to = ⟨l, 0, 0⟩) := by unfold Hid Pt.drive; rw [if_pos (.inl e0)]
    rw [HD.out]
    subst e0
    unfold Pt.agg
    go_enter Tryz.func71, Tryz.ntmps71
    go_wp2_with fail
    refine bodyPost_ret (results_cell_row (P := Tryz.prog) rfl _ _ (w.heap.size + 1) _ _ _ _ rfl (Blk.new2 _ _ _ _) Tryz.underlying100 rfl (by kernel_rfl)) rfl ?_
    exact ⟨rfl, ((Ch.refl _ _).alloc _).alloc _⟩
  · have e0' : (to == 0) = false := by simpa using e0
    by_cases e1 : to = l
    · have HD : Hid ((Pt.mk l t s).drive to = ⟨l, 0, 0⟩) := by unfold Hid Pt.drive; rw [if_pos (.inr e1)]
      rw [HD.out]
      have e1' : (to == l) = true := by simpa using e1
      clear e0 e1
      unfold Pt.agg
      go_enter Tryz.func71, Tryz.ntmps71
      go_wp2_with fail
      refine bodyPost_ret (results_cell_row (P := Tryz.prog) rfl _ _ (w.heap.size + 1) _ _ _ _ rfl (Blk.new2 _ _ _ _) Tryz.underlying100 rfl (by kernel_rfl)) rfl ?_
      exact ⟨rfl, ((Ch.refl _ _).alloc _).alloc _⟩
    · have e1' : (to == l) = false := by simpa using e1
      by_cases e2 : to = t
      · have HD : Hid ((Pt.mk l t s).drive to = if 3 ≤ s + 1 then ⟨to, 0, 0⟩ else ⟨0, to, s + 1⟩) := by unfold Hid Pt.drive; rw [if_neg (by simp only [not_or]; exact ⟨e0, e1⟩)]; simp [e2]
        rw [HD.out]
        have e2' : (to != t) = false := by simpa using e2
        clear e0 e1 e2
        by_cases e3 : 3 ≤ s + 1
        · rw [if_pos e3]
          unfold Pt.agg
          go_enter Tryz.func71, Tryz.ntmps71
          go_wp2_with fail
          refine bodyPost_ret (results_cell_row (P := Tryz.prog) rfl _ _ (w.heap.size + 1) _ _ _ _ rfl (Blk.new2 _ _ _ _) Tryz.underlying100 rfl (by kernel_rfl)) rfl ?_
          exact ⟨rfl, ((Ch.refl _ _).alloc _).alloc _⟩
        · rw [if_neg e3]
          have e3' : s + 1 < 3 := by omega
          clear e3
          unfold Pt.agg
          go_enter Tryz.func71, Tryz.ntmps71
          go_wp2_with fail
          refine bodyPost_ret (results_cell_row (P := Tryz.prog) rfl _ _ (w.heap.size + 1) _ _ _ _ rfl (Blk.new2 _ _ _ _) Tryz.underlying100 rfl (by kernel_rfl)) rfl ?_
          exact ⟨rfl, ((Ch.refl _ _).alloc _).alloc _⟩
      · have HD : Hid ((Pt.mk l t s).drive to = ⟨0, to, 1⟩) := by unfold Hid Pt.drive; rw [if_neg (by simp only [not_or]; exact ⟨e0, e1⟩)]; simp [e2]
        rw [HD.out]
        have e2' : (to != t) = true := by simpa using e2
        clear e0 e1 e2
        unfold Pt.agg
        go_enter Tryz.func71, Tryz.ntmps71
        go_wp2_with fail
        refine bodyPost_ret (results_cell_row (P := Tryz.prog) rfl _ _ (w.heap.size + 1) _ _ _ _ rfl (Blk.new2 _ _ _ _) Tryz.underlying100 rfl (by kernel_rfl)) rfl ?_
        exact ⟨rfl, ((Ch.refl _ _).alloc _).alloc _⟩
end Go.Proofs.YtkplgggdidhnoaaGreatDoor

namespace Go.Proofs.YtkplgggdidhnoaaGreatDoor
open Go.ChangeShapes Go.WideShapes Go.ChangeAt Go.RowKit
set_option linter.unusedVariables false

theorem FieldAt.mono {O O' : Nat → Prop} {w : World} {b : Nat} {occ : List Bool} {pts : List Pt} (h : FieldAt O w b occ pts) (ho : ∀ g, O g → g < w.heap.size → O' g) : FieldAt O' w b occ pts := by
  obtain ⟨h0, v1, v2, h1, h2, h3⟩ := h
  exact ⟨ho b h0 h1.lt, v1, v2, h1, h2.mono fun g hg hl => ⟨ho g hg.1 hl, hg.2⟩, h3.mono fun g hg hl => ⟨ho g hg.1 hl, hg.2⟩⟩
theorem FieldAt.lt {O : Nat → Prop} {w : World} {b : Nat} {occ : List Bool} {pts : List Pt} (h : FieldAt O w b occ pts) : b < w.heap.size := by
  obtain ⟨h0, v1, v2, h1, h2, h3⟩ := h
  exact h1.lt
/-- An element of a row that is owned: its block. -/
theorem Own.elem {α : Type} {f : α → List Value} {C : Nat} (hf : ∀ x, (f x).length = C) (h0 : 0 < C) {O : Nat → Prop} {w : World} {e n : Nat} {v : Value} {l : List α}
    (h : Own O w e C v n (l.flatMap f)) (hl : l.length = n) {k : Nat} (hk : k < l.length) :
    ∃ g cap, v = .slice (some ⟨g, 0, none⟩) n cap ∧ O g ∧ g < w.heap.size ∧ n ≤ cap ∧ cap ≤ 9223372036854775807 ∧ (∀ j, j < C → w.cell? ⟨g, k * C + j, none⟩ = (f l[k])[j]?) ∧ ∀ j, w.frozen? ⟨g, j, none⟩ = false := by
  have hs := h.sl
  obtain ⟨h1, h2⟩ := h
  rcases h2 with ⟨rfl, rfl⟩ | ⟨g, cap, cur, rfl, hg, hh, h5, h6, h7, h8⟩
  · omega
  · have hb : Blk w g e cur := hh
    obtain ⟨b, off, e1, _, _, hat⟩ := hs.at (f := f) hf h0 hk
    simp only [Option.some.injEq, Addr.mk.injEq, and_true] at e1
    obtain ⟨rfl, rfl⟩ := e1
    refine ⟨g, cap, rfl, hg, hb.lt, h5, by unfold maxLen at h6; omega, fun j hj => ?_, fun j => hb.free j⟩
    have := hat j hj
    rwa [Nat.zero_add] at this

theorem Own.blk {O : Nat → Prop} {w : World} {e C n n' cap : Nat} {g : Nat} {xs : List Value} (h : Own O w e C (.slice (some ⟨g, 0, none⟩) n' cap) n xs) : ∃ cur, Blk w g e cur := by
  obtain ⟨h1, h2⟩ := h
  rcases h2 with ⟨h2, _⟩ | ⟨g', cap', cur, h2, hg, hh, _⟩
  · cases h2
  · simp only [Value.slice.injEq, Option.some.injEq, Addr.mk.injEq, and_true] at h2
    obtain ⟨rfl, _, _⟩ := h2
    exact ⟨cur, hh⟩
theorem Ch.rds {S : Nat → Prop} {w w' : World} (h : Ch S w w') {b : Nat} (hb : b < w.heap.size) (hn : ¬ S b) (i : Nat) : w'.cell? ⟨b, i, none⟩ = w.cell? ⟨b, i, none⟩ := World.cell?_of_block (w := w) (a := ⟨b, i, none⟩) (h.block b hb hn)

set_option maxRecDepth 100000 in
set_option maxHeartbeats 2000000 in
theorem field_train (O : Nat → Prop) (w : World) (b : Nat) (occ : List Bool) (pts : List Pt) (n : Int) (h : FieldAt O w b occ pts) (hl : occ.length ≤ 100) :
    Calls Tryz.prog 50 #[.pointer (some ⟨b, 0, none⟩), .int .i64 n] w fun r w' => (∃ e : Int, r = .returned (.int .i64 e)) ∧ (∃ occ', occ'.length = occ.length ∧ FieldAt O w' b occ' pts) ∧ Ch O w w' := by
  have HF := Lib.hid h
  obtain ⟨h0, v1, v2, b0, h2, h3⟩ := h
  have l0 : w.cell? ⟨b, 0, none⟩ = some v1 := b0.cell 0
  by_cases hn : 0 ≤ n ∧ n < occ.length
  · obtain ⟨k, rfl⟩ : ∃ k : Nat, n = k := ⟨n.toNat, by omega⟩
    have hk : k < occ.length := by omega
    obtain ⟨g, cap, rfl, hg, hgl, hc1, hc2, hat, hfr⟩ := h2.elem (f := fB) (C := 1) (fun _ => rfl) (by omega) rfl hk
    have y0 : w.cell? ⟨g, k, none⟩ = some (.bool occ[k]) := by have := hat 0 (by omega); rw [Nat.mul_one] at this; exact this
    have g0 := hfr k
    have HP := Lib.hid (h2.put (f := fB) (C := 1) (fun _ => rfl) (by omega) rfl hk (!occ[k]))
    have H3 := Lib.hid h3
    have H0 := Lib.hid h0
    have HB := Lib.hid b0
    have HG := Lib.hid hg
    have HC := Lib.hid hc2
    have hk0 : (0 : Int) ≤ k := by omega
    have hk1 : (k : Int) < occ.length := by omega
    clear hat hfr h2 h3 h0 hg hc2 hn
    go_enter Tryz.func50, Tryz.ntmps50
    go_wp2_with fail
    go_still_tail 14, (by kernel_rfl)
    change wpList _ _ _ _ _ w.drew
    go_wp2_with fail
    go_ret
    have cc : Ch (fun x => x = g) w (w.drew.setCell ⟨g, k, none⟩ (.bool !occ[k])) := (Ch.refl _ w).drew.set1 _ _
    refine ⟨⟨_, rfl⟩, ⟨occ.set k (!occ[k]), by simp, H0.out, _, v2, cc.blk HB.out (fun e => HG.out.2 e.symm), ?_, H3.out.ch cc fun x hx _ e => ?_⟩, cc.mono fun x _ e => e ▸ HG.out.1⟩
    · rw [List.length_set]
      have := HP.out
      simp only [fB, putRow, Nat.mul_one] at this
      exact this
    · subst e; exact hx.2.2 rfl
  · obtain ⟨a1, c1, rfl, -, -, -, -⟩ := h2.sl
    have hlt : n < 0 ∨ (0 ≤ n ∧ (occ.length : Int) ≤ n) := by omega
    clear hn h0 b0 h2 h3
    rcases hlt with hn | ⟨hn, hn'⟩
    all_goals
      go_enter Tryz.func50, Tryz.ntmps50
      go_wp2_with fail
      go_ret
      exact ⟨⟨_, rfl⟩, ⟨occ, rfl, HF.out⟩, Ch.refl _ _⟩
end Go.Proofs.YtkplgggdidhnoaaGreatDoor

namespace Go.Proofs.YtkplgggdidhnoaaGreatDoor
open Go.ChangeShapes Go.WideShapes Go.ChangeAt Go.RowKit
set_option linter.unusedVariables false

theorem Own.tight {O : Nat → Prop} {w : World} {e C : Nat} {v : Value} {n : Nat} {xs : List Value} (h : Own O w e C v n xs) : Own (fun g => O g ∧ v.ownBlock = some g) w e C v n xs := by
  obtain ⟨h1, h2⟩ := h
  refine ⟨h1, ?_⟩
  rcases h2 with h2 | ⟨g, cap, cur, rfl, hg, r⟩
  · exact .inl h2
  · exact .inr ⟨g, cap, cur, rfl, ⟨hg, rfl⟩, r⟩

set_option maxRecDepth 100000 in
set_option maxHeartbeats 2000000 in
theorem field_stick (O : Nat → Prop) (w : World) (b : Nat) (occ : List Bool) (pts : List Pt) (n : Int) (h : FieldAt O w b occ pts) (hl : pts.length ≤ 100) :
    Calls Tryz.prog 51 #[.pointer (some ⟨b, 0, none⟩), .int .i64 n] w fun r w' => (∃ e : Int, r = .returned (.int .i64 e)) ∧ (∃ pts' : List Pt, pts'.length = pts.length ∧ (∀ p ∈ pts', p ∈ pts ∨ p = ⟨0, 0, 0⟩) ∧ FieldAt O w' b occ pts') ∧ Ch O w w' := by
  have HF := Lib.hid h
  obtain ⟨h0, v1, v2, b0, h2, h3⟩ := h
  have l1 : w.cell? ⟨b, 1, none⟩ = some v2 := b0.cell 1
  by_cases hn : 0 ≤ n ∧ n < pts.length
  · obtain ⟨k, rfl⟩ : ∃ k : Nat, n = k := ⟨n.toNat, by omega⟩
    have hk : k < pts.length := by omega
    obtain ⟨g, cap, rfl, hg, hgl, hc1, hc2, hat, hfr⟩ := h3.elem (f := fPt) (C := 3) (fun _ => rfl) (by omega) rfl hk
    have y0 : w.cell? ⟨g, k * 3, none⟩ = some (.int .i64 pts[k].lies) := hat 0 (by omega)
    have y1 : w.cell? ⟨g, k * 3 + 1, none⟩ = some (.int .i64 pts[k].to) := hat 1 (by omega)
    have y2 : w.cell? ⟨g, k * 3 + 2, none⟩ = some (.int .i64 pts[k].steps) := hat 2 (by omega)
    have g0 := hfr (k * 3)
    have g1 := hfr (k * 3 + 1)
    have g2 := hfr (k * 3 + 2)
    have HP := Lib.hid (h3.put (f := fPt) (C := 3) (fun _ => rfl) (by omega) rfl hk ⟨0, 0, 0⟩)
    have H2 := Lib.hid h2
    have H0 := Lib.hid h0
    have HB := Lib.hid b0
    have HG := Lib.hid hg
    have HC := Lib.hid hc2
    have hk0 : (0 : Int) ≤ k := by omega
    have hk1 : (k : Int) < pts.length := by omega
    clear hat hfr h2 h3 h0 hg hc2 hn
    go_enter Tryz.func51, Tryz.ntmps51
    go_wp2_with fail
    go_ret
    have cc : Ch (fun x => x = g) w (((w.setCell ⟨g, k * 3, none⟩ (.int .i64 0)).setCell ⟨g, k * 3 + 1, none⟩ (.int .i64 0)).setCell ⟨g, k * 3 + 2, none⟩ (.int .i64 0)) := (((Ch.refl _ w).set1 _ _).set1 _ _).set1 _ _
    refine ⟨⟨_, rfl⟩, ⟨pts.set k ⟨0, 0, 0⟩, by simp, fun p hp => List.mem_or_eq_of_mem_set hp, H0.out, v1, _, cc.blk HB.out (fun e => HG.out.2.1 e.symm), (H2.out.tight.ch cc fun x hx _ e => HG.out.2.2 (e ▸ hx.2)).mono fun _ h _ => h.1, ?_⟩, cc.mono fun x _ e => e ▸ HG.out.1⟩
    · rw [List.length_set]
      have := HP.out
      simp only [fPt, putRow] at this
      exact this
  · obtain ⟨a1, c1, rfl, -, -, -, -⟩ := h3.sl
    have hlt : n < 0 ∨ (0 ≤ n ∧ (pts.length : Int) ≤ n) := by omega
    clear hn h0 b0 h2 h3
    rcases hlt with hn | ⟨hn, hn'⟩
    all_goals
      go_enter Tryz.func51, Tryz.ntmps51
      go_wp2_with fail
      go_ret
      exact ⟨⟨_, rfl⟩, ⟨pts, rfl, fun _ h => .inl h, HF.out⟩, Ch.refl _ _⟩
/-- A step of the field: how its points stand next. -/
def Stepped (dr : List Int) (pts pts' : List Pt) : Prop :=
  pts'.length = pts.length ∧ ∀ (i : Nat) (h : i < pts.length) (h' : i < pts'.length), pts'[i] = if hd : i < dr.length then (pts[i]).drive dr[i] else pts[i]

set_option maxRecDepth 100000 in
set_option maxHeartbeats 4000000 in
theorem field_step (O B : Nat → Prop) (w : World) (b : Nat) (occ : List Bool) (pts : List Pt) (vd : Value) (dr : List Int) (h : FieldAt O w b occ pts) (hl : pts.length ≤ 100) (hp : ∀ p ∈ pts, 0 ≤ p.steps ∧ p.steps ≤ 1000)
    (hd : Sl B w vd dr.length (dr.flatMap fInt)) (hB : ∀ g, B g → ¬ O g) :
    Calls Tryz.prog 35 #[.pointer (some ⟨b, 0, none⟩), vd] w fun r w' => r = .returned (.tuple #[]) ∧ (∃ pts', Stepped dr pts pts' ∧ FieldAt O w' b occ pts') ∧ Ch O w w' := by
  have HD := Lib.hid hd
  have HP := Lib.hid hp
  have HBO := Lib.hid hB
  obtain ⟨ad, cd, rfl, -, -, -, -⟩ := hd
  obtain ⟨h0, v1, v2, b0, h2, h3⟩ := h
  obtain ⟨a2, cp2, rfl, k1, k2, -, -⟩ := h3.sl
  have KC := Lib.hid k2
  have H0 := Lib.hid h0
  have HBk := Lib.hid b0
  have H2 := Lib.hid h2
  have H3 := Lib.hid h3
  have l1 : w.cell? ⟨b, 1, none⟩ = some (.slice a2 pts.length cp2) := b0.cell 1
  clear hp hB k2 h0 b0 h2 h3
  go_enter Tryz.func35, Tryz.ntmps35
  go_wp2_with fail
  clear l1
  go_loopw [13] (fun i wr => ∃ (k : Nat) (qs : List Pt), k ≤ pts.length ∧ i = .int .i64 k ∧ Ch O w wr ∧ qs.length = pts.length ∧ (∀ (i : Nat) (h : i < pts.length) (h' : i < qs.length), i < k → qs[i] = if hd : i < dr.length then (pts[i]).drive dr[i] else pts[i]) ∧ (∀ (i : Nat) (h : i < pts.length) (h' : i < qs.length), k ≤ i → qs[i] = pts[i]) ∧
    Blk wr b 98 #[v1, .slice a2 pts.length cp2] ∧ Own (fun g => O g ∧ g ≠ b ∧ v1.ownBlock ≠ some g) wr 100 3 (.slice a2 pts.length cp2) pts.length (qs.flatMap fPt) ∧ Own (fun g => O g ∧ g ≠ b) wr 4 1 v1 occ.length (occ.flatMap fB)) (fun i _ => (pts.length - intOf i).toNat)
  case atStart => exact ⟨0, pts, by omega, rfl, Ch.refl _ _, rfl, fun _ _ _ h => by omega, fun _ _ _ _ => rfl, HBk.out, H3.out, H2.out⟩
  case round =>
    obtain ⟨k, qs, hk, rfl, hch, hq, hqa, hqb, hb, how, hoc⟩ := hrel
    have HQa := Lib.hid hqa
    have HQb := Lib.hid hqb
    have HBb := Lib.hid hb
    have HOw := Lib.hid how
    have HOc := Lib.hid hoc
    have HQ := Lib.hid hq
    have l1 : wr.cell? ⟨b, 1, none⟩ = some (.slice a2 pts.length cp2) := hb.cell 1
    clear hqa hqb hb how hoc hq
    by_cases hkl : k < pts.length
    · obtain ⟨g, cap, e1, hg, hgl, hc1, hc2, hat, hfr⟩ := HOw.out.elem (f := fPt) (C := 3) (fun _ => rfl) (by omega) HQ.out (by rw [HQ.out]; exact hkl)
      simp only [Value.slice.injEq] at e1
      obtain ⟨rfl, -, rfl⟩ := e1
      rw [HQb.out k hkl (by rw [HQ.out]; exact hkl) (Nat.le_refl _)] at hat
      have y0 : wr.cell? ⟨g, k * 3, none⟩ = some (.int .i64 pts[k].lies) := hat 0 (by omega)
      have y1 : wr.cell? ⟨g, k * 3 + 1, none⟩ = some (.int .i64 pts[k].to) := hat 1 (by omega)
      have y2 : wr.cell? ⟨g, k * 3 + 2, none⟩ = some (.int .i64 pts[k].steps) := hat 2 (by omega)
      have g0 := hfr (k * 3)
      have g1 := hfr (k * 3 + 1)
      have g2 := hfr (k * 3 + 2)
      have HG := Lib.hid hg
      have HS := Lib.hid (HP.out pts[k] (List.getElem_mem hkl))
      clear hat hfr hg hc2
      by_cases hkd : k < dr.length
      · have hbW := Lib.hid (HBb.out.lt)
        obtain ⟨bd, od, rfl, hbd, hdl, hdat⟩ := HD.out.at (f := fInt) (C := 1) (fun _ => rfl) (by omega) hkd
        have z0 : wr.cell? ⟨bd, od + k, none⟩ = some (.int .i64 dr[k]) := by
          have h := hdat 0 (by omega)
          rw [Nat.mul_one] at h
          exact (hch.rds hdl (HBO.out bd hbd) _).trans h
        have hdl' : bd < wr.heap.size := Nat.lt_of_lt_of_le hdl hch.size
        have ngd : bd ≠ g := fun e => HBO.out bd hbd (e ▸ HG.out.1)
        have ngb : b ≠ g := fun e => HG.out.2.1 e.symm
        have ngw : wr.heap.size ≠ g := by omega
        obtain ⟨pk, hpk⟩ : ∃ p, p = pts[k] := ⟨_, rfl⟩
        obtain ⟨dk, hdk⟩ : ∃ d, d = dr[k] := ⟨_, rfl⟩
        rw [← hdk] at z0
        rw [← hpk] at y0 y1 y2 HS
        have HPK := Lib.hid hpk
        have HDK := Lib.hid hdk
        clear hpk hdk
        obtain ⟨cur, hcur⟩ := HOw.out.blk
        have HCur := Lib.hid hcur
        have HSg := Lib.hid (HOw.out.put (f := fPt) (C := 3) (fun _ => rfl) (by omega) HQ.out hkl ((pk).drive dk))
        have HS0 : Hid (∀ W, Ch (fun x => x = g) (wr.alloc (.cells #[.int .i64 pk.lies, .int .i64 pk.to, .int .i64 pk.steps] 100)) W →
            W.cell? ⟨b, 1, none⟩ = some (.slice (some ⟨g, 0, none⟩) pts.length cp2) ∧ W.cell? ⟨wr.heap.size, 0, none⟩ = some (.int .i64 pk.lies) ∧ W.cell? ⟨wr.heap.size, 1, none⟩ = some (.int .i64 pk.to) ∧ W.cell? ⟨wr.heap.size, 2, none⟩ = some (.int .i64 pk.steps) ∧ W.cell? ⟨bd, od + k, none⟩ = some (.int .i64 dk)) := fun W c => by
          have hn := Blk.new wr 100 #[.int .i64 pk.lies, .int .i64 pk.to, .int .i64 pk.steps]
          have hn' := c.blk hn ngw
          have hb' := c.blk (HBb.out.alloc _) ngb
          refine ⟨hb'.cell 1, hn'.cell 0, hn'.cell 1, hn'.cell 2, ?_⟩
          have c' : Ch (fun x => x = g) wr W := ((Ch.refl _ _).alloc _).trans c
          exact (c'.rds hdl' ngd _).trans z0
        have HDrv : Hid (∀ W, Calls Tryz.prog 71 #[.agg #[.int .i64 pk.lies, .int .i64 pk.to, .int .i64 pk.steps], .int .i64 dk] W fun r w' => r = .returned (.agg #[.int .i64 ((pk).drive dk).lies, .int .i64 ((pk).drive dk).to, .int .i64 ((pk).drive dk).steps]) ∧ Ch Noone W w') := fun W => driven_any W pk dk HS.out.1 HS.out.2
        have HDr := Lib.hid hkd
        have hkd0 : (k : Int) < dr.length := by omega
        have hk0 : (0 : Int) ≤ k := by omega
        have hk1 : (k : Int) < pts.length := by omega
        clear hdat hcur
        go_wp2_with fail
        go_region_held3 (fun W => W.cell? ⟨b, 1, none⟩ = some (.slice (some ⟨g, 0, none⟩) pts.length cp2) ∧ W.cell? ⟨wr.heap.size, 0, none⟩ = some (.int .i64 pk.lies) ∧ W.cell? ⟨wr.heap.size, 1, none⟩ = some (.int .i64 pk.to) ∧ W.cell? ⟨wr.heap.size, 2, none⟩ = some (.int .i64 pk.steps) ∧ W.cell? ⟨bd, od + k, none⟩ = some (.int .i64 dk)) (first | exact HS0.out _ (Ch.refl _ _).drew | exact HS0.out _ ((Ch.refl _ _).drew.trans (c2.mono fun _ _ h => h.elim)) | exact HS0.out _ (((((Ch.refl _ _).drew.trans (c2.mono fun _ _ h => h.elim)).set1 _ _).set1 _ _).set1 _ _))
          (first | (go_at_call 71; refine (HDrv.out _).mono ?_; rintro e w2 ⟨rfl, c2⟩; have cW : Ch Noone wr w2 := ((Ch.refl Noone _).alloc _).drew.trans c2; have y0' := (cW.rd hgl _).trans y0; have y1' := (cW.rd hgl _).trans y1; have y2' := (cW.rd hgl _).trans y2; have hc' := cW.blk HCur.out (fun h => h); have g0' := hc'.free (k * 3); have g1' := hc'.free (k * 3 + 1); have g2' := hc'.free (k * 3 + 2)))
        go_wp2_with fail
        go_roundw
        case rel =>
          have hq := HQ.out
          have cS : Ch (fun x => x = g) w2 (((w2.setCell ⟨g, k * 3, none⟩ (.int .i64 (pk.drive dk).lies)).setCell ⟨g, k * 3 + 1, none⟩ (.int .i64 (pk.drive dk).to)).setCell ⟨g, k * 3 + 2, none⟩ (.int .i64 (pk.drive dk).steps)) := (((Ch.refl _ _).set1 _ _).set1 _ _).set1 _ _
          have how2 := (HOw.out.ch cW (fun _ _ _ h => h)).put (f := fPt) (C := 3) (fun _ => rfl) (by omega) hq hkl (pk.drive dk)
          refine ⟨k + 1, qs.set k (pk.drive dk), by omega, by go_num, (hch.then cW fun _ _ h => h.elim).then cS fun i _ e => e ▸ HG.out.1, by simp [hq], fun i h h' hi => ?_, fun i h h' hi => ?_, cS.blk (cW.blk HBb.out (fun h => h)) ngb, how2, ((HOc.out.ch cW (fun _ _ _ h => h)).tight.ch cS fun x hx _ e => HG.out.2.2 (e ▸ hx.2)).mono fun _ h _ => h.1⟩
          · by_cases e : i = k
            · subst e
              rw [List.getElem_set_self, dif_pos HDr.out, HPK.out, HDK.out]
            · rw [List.getElem_set_ne (Ne.symm e)]
              exact HQa.out i h (by rw [hq]; exact h) (by omega)
          · rw [List.getElem_set_ne (by omega)]
            exact HQb.out i h (by rw [hq]; exact h) (by omega)
        case measure => simp [intOf]; omega
      · go_wp2_with fail
        go_roundw
        case rel => exact ⟨k + 1, qs, by omega, by go_num, hch.alloc _, HQ.out, fun i h h' hi => by
          by_cases e : i < k
          · exact HQa.out i h h' e
          · have : i = k := by omega
            subst this
            rw [HQb.out i h h' (Nat.le_refl _), dif_neg hkd], fun i h h' hi => HQb.out i h h' (by omega), HBb.out.alloc _, HOw.out.ch ((Ch.refl Noone _).alloc _) (fun _ _ _ h => h), HOc.out.ch ((Ch.refl Noone _).alloc _) (fun _ _ _ h => h)⟩
        case measure => simp [intOf]; omega
    · go_wp2_with fail
      go_end0
      exact ⟨rfl, ⟨qs, ⟨HQ.out, fun i h h' => HQa.out i h h' (by omega)⟩, H0.out, v1, _, HBb.out, HOc.out, by rw [HQ.out]; exact HOw.out⟩, hch⟩
end Go.Proofs.YtkplgggdidhnoaaGreatDoor

namespace Go.Proofs.YtkplgggdidhnoaaGreatDoor
open Go.ChangeShapes Go.WideShapes Go.ChangeAt Go.RowKit
set_option linter.unusedVariables false

theorem info_pt : (Tryz.prog.info? 100).map (fun i => (i.zero, i.size, i.bytes)) = some (some (.agg #[.int .i64 0, .int .i64 0, .int .i64 0]), 3, 24) := by kernel_rfl
theorem one_int3 (a b c : Int) : ∀ u ∈ [Value.int .i64 a, .int .i64 b, .int .i64 c], u.oneCell' = true := by intro u hu; simp at hu; rcases hu with rfl | rfl | rfl <;> rfl
theorem one_int1 (a : Int) : ∀ u ∈ [Value.int .i64 a], u.oneCell' = true := by intro u hu; simp at hu; subst hu; rfl

def Pt.start : Pt := ⟨1, 0, 0⟩

set_option maxRecDepth 100000 in
set_option maxHeartbeats 4000000 in
theorem field_new (B : Nat → Prop) (w : World) (v : Value) (L : Lay) (hL : LayAt B w v L) (ok : LayOk L) (hT : Tabs w) :
    Calls Tryz.prog 22 #[v] w fun r w' => ∃ b, r = .returned (.tuple #[.pointer (some ⟨b, 0, none⟩), .int .i64 0]) ∧ FieldAt (New w.heap.size) w' b (List.replicate L.secs.length false) (List.replicate L.pts.length Pt.start) ∧ Ch Noone w w' := by
  have HL := Lib.hid hL
  have HT := Lib.hid hT
  have OK := Lib.hid ok
  have s1 := ok.s1
  have p1 := ok.p1
  clear hT ok
  obtain ⟨q1, q2, q3, q4, rs, rfl, h1, h2, -, -, -, -⟩ := hL
  obtain ⟨a1, c1, rfl, -, -, -, -⟩ := h1
  obtain ⟨a2, c2, rfl, -, -, -, -⟩ := h2
  have hmk := fun (w : World) => made_bool w L.secs.length (by omega)
  have b0 := Blk.new w 26 #[.slice a1 L.secs.length c1, .slice a2 L.pts.length c2, q3, q4]
  have C0 : Ch Noone w (w.alloc (.cells #[.slice a1 L.secs.length c1, .slice a2 L.pts.length c2, q3, q4] 26)) := (Ch.refl _ _).alloc _
  obtain ⟨i0, hi0, hz0, hz1, hz2⟩ := info_parts info_pt
  go_enter Tryz.func22, Tryz.ntmps22
  go_wp2_with fail
  refine (table_yes B _ _ L (HL.out.ch0 C0) OK.out (HT.out.ch0 C0)).mono ?_
  rintro e w1 ⟨rfl, k1⟩
  have C1 := C0.trans k1
  have b1 := k1.blk b0 (fun h => h)
  have l0 := b1.cell 0
  have l1 := b1.cell 1
  simp only [List.getElem?_toArray, List.getElem?_cons_zero, List.getElem?_cons_succ] at l0 l1
  have hz := C1.size
  have hlt1 : w.heap.size < w1.heap.size := b1.lt
  have hlt2 : w.heap.size < w1.heap.size + 1 := Nat.lt_succ_of_lt hlt1
  go_wp2_with fail
  have e0 : Hid (Own (fun g => New w.heap.size g ∧ g = w1.heap.size) (w1.alloc (.cells (madeCells #[.bool false] L.secs.length) 4)) 4 1 (.slice (some ⟨w1.heap.size, 0, none⟩) L.secs.length L.secs.length) L.secs.length ((List.replicate L.secs.length false).flatMap fB)) :=
    Own.made1 fB (fun _ => rfl) false _ rfl _ _ _ (by omega) _ _ (Blk.new _ _ _) ⟨hz, rfl⟩
  clear l0
  go_loopw [17] (fun i wr => ∃ (k : Nat) (v2 : Value), k ≤ L.pts.length ∧ i = .int .i64 k ∧ Ch Noone w1 wr ∧ Blk wr (w1.heap.size + 1) 98 #[.slice (some ⟨w1.heap.size, 0, none⟩) L.secs.length L.secs.length, v2] ∧
    Own (fun g => New w.heap.size g ∧ g = w1.heap.size) wr 4 1 (.slice (some ⟨w1.heap.size, 0, none⟩) L.secs.length L.secs.length) L.secs.length ((List.replicate L.secs.length false).flatMap fB) ∧ Own (New (w1.heap.size + 2)) wr 100 3 v2 k ((List.replicate k Pt.start).flatMap fPt)) (fun i _ => (L.pts.length - intOf i).toNat)
  case atStart => exact ⟨0, _, by omega, rfl, ((Ch.refl _ _).alloc _).alloc _, Blk.new2 _ _ _ _, e0.out.ch ((Ch.refl Noone _).alloc _) (fun _ _ _ h => h), rfl, .inl ⟨rfl, rfl⟩⟩
  case round =>
    clear l1 b1 k1
    obtain ⟨k, v2, hk, rfl, hch, hb, ho1, ho2⟩ := hrel
    have HO1 := Lib.hid ho1
    have HO2 := Lib.hid ho2
    have HB := Lib.hid hb
    have l1 : wr.cell? ⟨w1.heap.size + 1, 1, none⟩ = some v2 := hb.cell 1
    have hlt := hb.lt
    clear ho1 ho2 hb
    by_cases hkl : k < L.pts.length
    · go_wp2_with (at_builtin; refine And.right (a := True) ?_)
      refine ⟨trivial, ?_⟩
      refine wpList_append_own _ rfl _ _ 96 rfl (w1.heap.size + 2) 100 i0 _ 3 24 Tryz.underlying96 hi0 hz0 hz1 hz2 rfl (by decide) _ k ((List.replicate k Pt.start).flatMap fPt) (by exact rfl) (by exact (HO2.out.ch ((Ch.refl Noone wr).alloc _) (fun _ _ _ h => h)).row) _ 1 1 [.int .i64 1, .int .i64 0, .int .i64 0] (by exact rfl) rfl (by exact fresh_at _ _ (by simp) _ [.int .i64 1, .int .i64 0, .int .i64 0]) (one_int3 _ _ _) (by unfold maxLen; omega) (by omega) (by simp; omega) ?_
      intro v' w2 hown hgrow _
      have cc := Ch.own HO2.out hgrow
      have ho := Own.of hown
      obtain ⟨a', c', rfl, -, -, -, -⟩ := ho.sl
      have hb2 := cc.blk (HB.out.alloc (.cells #[.int .i64 1, .int .i64 0, .int .i64 0] 100)) (fun h => by have := h.1; omega)
      have f1 := hb2.free 1
      have l1 : w2.cell? ⟨w1.heap.size + 1, 1, none⟩ = some v2 := hb2.cell 1
      have HB2 := Lib.hid hb2
      have HOw := Lib.hid ho
      have CW : Hid (Ch (fun g => w1.heap.size + 2 ≤ g) wr w2) := ((Ch.refl _ _).alloc _).then cc fun i _ h => h.1
      clear hb2 ho hown hgrow cc
      go_wp2_with fail
      go_roundw
      case rel =>
        have cx : Ch (fun g => g = w1.heap.size + 1) w2 (w2.setCell ⟨w1.heap.size + 1, 1, none⟩ (.slice a' (k + 1) c')) := (Ch.refl _ _).set1 _ _
        refine ⟨k + 1, _, by omega, by go_num, (hch.then CW.out fun i hi h => by omega).then cx fun i hi e => by omega, by have := HB2.out.set 1 (.slice a' (k + 1) c'); simpa using this, (HO1.out.ch CW.out fun g hg _ h => by have := hg.2; omega).ch cx fun g hg _ e => by have := hg.2; omega, ?_⟩
        have h := HOw.out.ch cx fun g hg _ e => by have h' : w1.heap.size + 2 ≤ g := hg; omega
        rw [List.replicate_succ', List.flatMap_append]
        simpa [fPt, Pt.start] using h
      case measure => simp [intOf]; omega
    · go_wp2_with fail
      go_ret2
      have hkk : k = L.pts.length := by omega
      subst hkk
      have ho2 := HO2.out
      obtain ⟨a', c', rfl, -, -, -, -⟩ := ho2.sl
      refine ⟨_, rfl, ⟨by show w.heap.size ≤ _; omega, _, _, HB.out, ?_, ?_⟩, C1.trans hch⟩
      · rw [List.length_replicate]
        exact HO1.out.mono fun g hg _ => ⟨hg.1, by have := hg.2; omega⟩
      · rw [List.length_replicate]
        exact HO2.out.mono fun g hg _ => ⟨by have h' : w1.heap.size + 2 ≤ g := hg; show w.heap.size ≤ g; omega, by have h' : w1.heap.size + 2 ≤ g := hg; omega, by have h' : w1.heap.size + 2 ≤ g := hg; simp only [Value.ownBlock, ne_eq, Option.some.injEq]; omega⟩
end Go.Proofs.YtkplgggdidhnoaaGreatDoor

namespace Go.Proofs.YtkplgggdidhnoaaGreatDoor
open Go.ChangeShapes Go.WideShapes Go.ChangeAt Go.RowKit
set_option linter.unusedVariables false

/-- What the field tells, in memory of O. -/
def InAt (O : Nat → Prop) (w : World) (v : Value) (occ : List Bool) (lies : List Int) : Prop :=
  ∃ v1 v2, v = .agg #[v1, v2] ∧ Sl O w v1 occ.length (occ.flatMap fB) ∧ Sl O w v2 lies.length (lies.flatMap fInt)
theorem fB_one (xs : List Bool) : ∀ u ∈ xs.flatMap fB, u.oneCell' = true := by
  intro u hu
  obtain ⟨x, -, hx⟩ := List.mem_flatMap.1 hu
  simp only [fB, List.mem_cons, List.not_mem_nil, or_false] at hx
  subst hx; rfl

set_option maxRecDepth 100000 in
set_option maxHeartbeats 4000000 in
theorem field_in (O : Nat → Prop) (w : World) (b : Nat) (occ : List Bool) (pts : List Pt) (h : FieldAt O w b occ pts) (ho : occ.length ≤ 100) (hl : pts.length ≤ 100) :
    Calls Tryz.prog 70 #[.pointer (some ⟨b, 0, none⟩)] w fun r w' => (∃ v1 v2, r = .returned (.agg #[v1, v2]) ∧ InAt (New w.heap.size) w' (.agg #[v1, v2]) occ (pts.map (·.lies))) ∧ Ch Noone w w' := by
  obtain ⟨-, v1, v2, b0, h2, h3⟩ := h
  obtain ⟨a2, cp2, rfl, k1, k2, -, -⟩ := h3.sl
  have KC := Lib.hid k2
  have HBk := Lib.hid b0
  have H2 := Lib.hid h2
  have H3 := Lib.hid h3.sl
  have l0 : w.cell? ⟨b, 0, none⟩ = some v1 := b0.cell 0
  have hbw := b0.lt
  clear k2 b0 h2 h3
  obtain ⟨i0, hi0, hz0, hz1, hz2⟩ := info_parts info_int
  go_enter Tryz.func70, Tryz.ntmps70
  go_wp2_with fail
  refine (clone_bool _ _ v1 occ.length (occ.flatMap fB) ((H2.out.sl.ch ((Ch.refl Noone _).alloc _) (fun _ _ _ h => h))) (flat_length fB 1 (fun _ => rfl) _) (fB_one _) (by omega)).mono ?_
  rintro e w1 ⟨v', rfl, h1, c1⟩
  have C1 : Ch Noone w w1 := ((Ch.refl _ _).alloc _).trans c1
  have hR := c1.blk (Blk.new w 133 #[.slice none 0 0, .slice none 0 0]) (fun h => h)
  obtain ⟨a1, cc1, rfl, -, -, -, -⟩ := h1.sl
  have H1 := Lib.hid h1
  have HR := Lib.hid hR
  have hw1 : w.heap.size < w1.heap.size := hR.lt
  have hb1 := C1.blk HBk.out (fun h => h)
  have hblt := hb1.lt
  have l1 : w1.cell? ⟨b, 1, none⟩ = some (.slice a2 pts.length cp2) := hb1.cell 1
  clear h1 hR c1 hb1 l0
  go_wp2_with fail
  clear l1
  go_loopw [20] (fun i wr => ∃ (k : Nat) (vl : Value), k ≤ pts.length ∧ i = .int .i64 k ∧ Ch Noone w1 wr ∧ Blk wr w1.heap.size 133 #[.slice a1 occ.length cc1, vl] ∧ Own (New (w1.heap.size + 1)) wr 3 1 vl k (((pts.take k).map (·.lies)).flatMap fInt)) (fun i _ => (pts.length - intOf i).toNat)
  case atStart => exact ⟨0, _, by omega, rfl, (Ch.refl _ _).alloc _, Blk.new _ _ _, rfl, .inl ⟨rfl, rfl⟩⟩
  case round =>
    obtain ⟨k, vl, hk, rfl, hch, hb, hown⟩ := hrel
    have HO := Lib.hid hown
    have HB := Lib.hid hb
    have x1 : wr.cell? ⟨w1.heap.size, 1, none⟩ = some vl := hb.cell 1
    have x0 : wr.cell? ⟨w1.heap.size, 0, none⟩ = some (.slice a1 occ.length cc1) := hb.cell 0
    have hlt := hb.lt
    clear hown hb
    by_cases hkl : k < pts.length
    · obtain ⟨g, off, rfl, -, hgw, hat⟩ := H3.out.at (f := fPt) (C := 3) (fun _ => rfl) (by omega) hkl
      have hcw : Ch Noone w wr := C1.trans hch
      have y0 : wr.cell? ⟨g, off + k * 3, none⟩ = some (.int .i64 pts[k].lies) := (hcw.rd hgw _).trans (hat 0 (by omega))
      have y1 : wr.cell? ⟨g, off + k * 3 + 1, none⟩ = some (.int .i64 pts[k].to) := (hcw.rd hgw _).trans (hat 1 (by omega))
      have y2 : wr.cell? ⟨g, off + k * 3 + 2, none⟩ = some (.int .i64 pts[k].steps) := (hcw.rd hgw _).trans (hat 2 (by omega))
      have HTk : Hid (((pts.take k).map (·.lies)).flatMap fInt ++ [.int .i64 pts[k].lies] = ((pts.take (k + 1)).map (·.lies)).flatMap fInt) := by
        unfold Hid
        rw [List.take_succ_eq_append_getElem hkl, List.map_append, List.flatMap_append]
        rfl
      have hk0 : (0 : Int) ≤ k := by omega
      have hk1 : (k : Int) < pts.length := by omega
      clear hat hcw
      generalize pts[k] = pk at *
      go_wp2_with (at_builtin; refine And.right (a := True) ?_)
      refine ⟨trivial, ?_⟩
      refine wpList_append_own _ rfl _ _ 33 rfl (w1.heap.size + 1) 3 i0 _ 1 8 Tryz.underlying33 hi0 hz0 hz1 hz2 rfl (by decide) _ k (((pts.take k).map (·.lies)).flatMap fInt) (by exact rfl) (by exact (HO.out.ch (((Ch.refl Noone wr).alloc _).alloc _) (fun _ _ _ h => h)).row) _ 1 1 [.int .i64 pk.lies] (by exact rfl) rfl (by exact fresh_at _ _ (by simp) _ [.int .i64 pk.lies]) (one_int1 _) (by unfold maxLen; omega) (by omega) (by simp; omega) ?_
      intro v' w2 hown hgrow _
      have cc := Ch.own HO.out hgrow
      have ho := Own.of hown
      rw [HTk.out] at ho
      obtain ⟨a', c', rfl, -, -, -, -⟩ := ho.sl
      have hb2 := cc.blk ((HB.out.alloc _).alloc (.cells #[.int .i64 pk.lies] 3)) (fun h => by have := h.1; omega)
      have f1 := hb2.free 1
      have x1 : w2.cell? ⟨w1.heap.size, 1, none⟩ = some vl := hb2.cell 1
      have HB2 := Lib.hid hb2
      have HOw := Lib.hid ho
      have CW : Hid (Ch (fun g => w1.heap.size + 1 ≤ g) wr w2) := (((Ch.refl _ _).alloc _).alloc _).then cc fun i _ h => h.1
      clear hb2 ho hown hgrow cc
      go_wp2_with fail
      go_roundw
      case rel =>
        have cx : Ch (fun g => g = w1.heap.size) w2 (w2.setCell ⟨w1.heap.size, 1, none⟩ (.slice a' (k + 1) c')) := (Ch.refl _ _).set1 _ _
        exact ⟨k + 1, _, by omega, by go_num, (hch.then CW.out fun i hi h => by omega).then cx fun i hi e => by omega, by have := HB2.out.set 1 (.slice a' (k + 1) c'); simpa using this, HOw.out.ch cx fun g hg _ e => by have h' : w1.heap.size + 1 ≤ g := hg; omega⟩
      case measure => simp [intOf]; omega
    · have hkk : k = pts.length := by omega
      subst hkk
      obtain ⟨a', c', rfl, -, -, -, -⟩ := HO.out.sl
      have hr := hch.blk HR.out (fun h => h)
      have r0 : wr.cell? ⟨w.heap.size, 0, none⟩ = some (.slice none 0 0) := hr.cell 0
      have r1 : wr.cell? ⟨w.heap.size, 1, none⟩ = some (.slice none 0 0) := hr.cell 1
      have g0 := hr.free 0
      have g1 := hr.free 1
      have HRr := Lib.hid hr
      clear hr
      go_wp2_with fail
      (try simp only [Exit.inBlock, Exit.then])
      have hx2 : Blk ((wr.setCell ⟨w.heap.size, 0, none⟩ (.slice a1 occ.length cc1)).setCell ⟨w.heap.size, 1, none⟩ (.slice a' pts.length c')) w.heap.size 133 #[.slice a1 occ.length cc1, .slice a' pts.length c'] := by
        have := (HRr.out.set 0 (.slice a1 occ.length cc1)).set 1 (.slice a' pts.length c')
        simpa using this
      refine bodyPost_ret (results_cell_row (P := Tryz.prog) rfl _ _ w.heap.size _ _ _ _ rfl hx2 Tryz.underlying133 rfl (by kernel_rfl)) rfl ?_
      have cx : Ch (fun g => g = w.heap.size) wr ((wr.setCell ⟨w.heap.size, 0, none⟩ (.slice a1 occ.length cc1)).setCell ⟨w.heap.size, 1, none⟩ (.slice a' pts.length c')) := ((Ch.refl _ _).set1 _ _).set1 _ _
      refine ⟨⟨_, _, rfl, _, _, rfl, ?_, ?_⟩, (C1.trans hch).then cx fun i hi e => by omega⟩
      · refine ((H1.out.sl.ch hch (fun _ _ _ h => h)).ch cx fun g hg _ e => ?_).mono fun g hg _ => ?_
        · have h' : (w.alloc (.cells #[.slice none 0 0, .slice none 0 0] 133)).heap.size ≤ g := hg
          simp at h'; omega
        · have h' : (w.alloc (.cells #[.slice none 0 0, .slice none 0 0] 133)).heap.size ≤ g := hg
          simp at h'; show w.heap.size ≤ g; omega
      · have h := HO.out.sl
        rw [List.take_length] at h
        rw [List.length_map]
        refine (h.ch cx fun g hg _ e => ?_).mono fun g hg _ => ?_
        · have h' : w1.heap.size + 1 ≤ g := hg; omega
        · have h' : w1.heap.size + 1 ≤ g := hg; show w.heap.size ≤ g; omega
end Go.Proofs.YtkplgggdidhnoaaGreatDoor
