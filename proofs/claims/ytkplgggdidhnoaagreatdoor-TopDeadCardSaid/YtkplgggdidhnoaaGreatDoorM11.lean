/-
  pointsmantop.quiet, whole, events: what they tell. Conditions: sizes. pointsmantop.events: it tells something. No condition.
-/
import Derived.Test.YtkplgggdidhnoaaGreatDoorM00
import Derived.Test.YtkplgggdidhnoaaGreatDoorProg
import Derived.WalkLawsBesides
import Derived.WalkSpells
import Derived.Deep.QuietTactic
import Derived.BigQuiet
import Derived.Lib.Hide
namespace Go.Proofs.YtkplgggdidhnoaaGreatDoor
open Go.ChangeShapes Go.WideShapes Go.ChangeAt Go.RowKit
set_option linter.unusedVariables false

/-- What the field is told: nothing. -/
def Zero (l : List Int) : Prop := ∀ x ∈ l, x = 0
def fB (b : Bool) : List Value := [.bool b]

set_option maxHeartbeats 2000000 in
/-- An Out that tells nothing is quiet. -/
theorem quiet_yes (B : Nat → Prop) (w : World) (v1 v2 : Value) (d : List Int) (p : List Bool) (h1 : Sl B w v1 d.length (d.flatMap fInt)) (h2 : Sl B w v2 p.length (p.flatMap fB)) (l1 : d.length ≤ 100) (l2 : p.length ≤ 100)
    (z1 : ∀ x ∈ d, x = 0) (z2 : ∀ x ∈ p, x = false) :
    Calls Tryz.prog 12 #[.agg #[v1, v2]] w fun r w' => r = .returned (.bool true) ∧ Ch Noone w w' := by
  have H1 := Lib.hid h1
  have H2 := Lib.hid h2
  have Z1 := Lib.hid z1
  have Z2 := Lib.hid z2
  clear z1 z2
  obtain ⟨a1, c1, rfl, -, -, -, -⟩ := h1
  obtain ⟨a2, c2, rfl, -, -, -, -⟩ := h2
  have b0 := Blk.new w 36 #[.slice a1 d.length c1, .slice a2 p.length c2]
  have C0 : Ch Noone w (w.alloc (.cells #[.slice a1 d.length c1, .slice a2 p.length c2] 36)) := (Ch.refl _ _).alloc _
  go_enter Tryz.func12, Tryz.ntmps12
  go_wp2_with fail
  go_loopw [3] (fun i wr => ∃ k : Nat, k ≤ d.length ∧ i = .int .i64 k ∧ wr = w.alloc (.cells #[.slice a1 d.length c1, .slice a2 p.length c2] 36)) (fun i _ => (d.length - intOf i).toNat)
  case atStart => exact ⟨0, by omega, rfl, rfl⟩
  case round =>
    obtain ⟨k, hk, rfl, rfl⟩ := hrel
    by_cases hkl : k < d.length
    · obtain ⟨b, off, rfl, -, -, hat⟩ := (H1.out.ch0 C0).at (f := fInt) (C := 1) (fun _ => rfl) (by omega) hkl
      have y0 := hat 0 (by omega)
      rw [Nat.mul_one, Z1.out d[k] (List.getElem_mem hkl)] at y0
      have y0' : (w.alloc (.cells #[.slice (some ⟨b, off, none⟩) d.length c1, .slice a2 p.length c2] 36)).cell? ⟨b, off + k, none⟩ = some (.int .i64 0) := y0
      clear hat y0
      go_wp2_with fail
      go_roundw
      case rel => exact ⟨k + 1, by omega, by go_num, trivial⟩
      case measure => simp [intOf]; omega
    · go_wp2_with fail
      go_loopw [4] (fun i wr => ∃ k : Nat, k ≤ p.length ∧ i = .int .i64 k ∧ wr = w.alloc (.cells #[.slice a1 d.length c1, .slice a2 p.length c2] 36)) (fun i _ => (p.length - intOf i).toNat)
      case atStart => exact ⟨0, by omega, rfl, rfl⟩
      case round =>
        clear hk hkl
        obtain ⟨k, hk, rfl, rfl⟩ := hrel
        by_cases hkl : k < p.length
        · obtain ⟨b, off, rfl, -, -, hat⟩ := (H2.out.ch0 C0).at (f := fB) (C := 1) (fun _ => rfl) (by omega) hkl
          have y0 := hat 0 (by omega)
          rw [Nat.mul_one, Z2.out p[k] (List.getElem_mem hkl)] at y0
          have y0' : (w.alloc (.cells #[.slice a1 d.length c1, .slice (some ⟨b, off, none⟩) p.length c2] 36)).cell? ⟨b, off + k, none⟩ = some (.bool false) := y0
          clear hat y0
          go_wp2_with fail
          go_roundw
          case rel => exact ⟨k + 1, by omega, by go_num, trivial⟩
          case measure => simp [intOf]; omega
        · go_wp2_with fail
          go_ret
          exact ⟨rfl, C0⟩

set_option maxHeartbeats 2000000 in
theorem whole_yes (B B' : Nat → Prop) (w : World) (v : Value) (L : Lay) (v1 v2 : Value) (d : List Int) (p : List Bool) (hL : LayAt B w v L) (h1 : Sl B' w v1 d.length (d.flatMap fInt)) (h2 : Sl B' w v2 p.length (p.flatMap fB)) (l1 : d.length ≤ 100) (l2 : p.length ≤ 100)
    (z1 : ∀ x ∈ d, 0 ≤ x ∧ x ≤ 2) (e1 : d.length = L.pts.length) (e2 : p.length = L.sigs.length) :
    Calls Tryz.prog 11 #[v, .agg #[v1, v2]] w fun r w' => r = .returned (.bool true) ∧ Ch Noone w w' := by
  have H1 := Lib.hid h1
  have Z1 := Lib.hid z1
  clear z1
  obtain ⟨q1, q2, q3, q4, rs, rfl, k1, k2, k3, k4, k5, k6⟩ := hL
  clear k1 k4 k5 k6
  obtain ⟨a1, c1, rfl, -, -, -, -⟩ := h1
  obtain ⟨a2, c2, rfl, -, -, -, -⟩ := h2
  obtain ⟨a3, c3, rfl, -, -, -, -⟩ := k2
  obtain ⟨a4, c4, rfl, -, -, -, -⟩ := k3
  rw [← e1, ← e2]
  clear e1 e2
  have C0 : Ch Noone w ((w.alloc (.cells #[q1, .slice a3 d.length c3, .slice a4 p.length c4, q4] 26)).alloc (.cells #[.slice a1 d.length c1, .slice a2 p.length c2] 36)) := ((Ch.refl _ _).alloc _).alloc _
  go_enter Tryz.func11, Tryz.ntmps11
  go_wp2_with fail
  go_loopw [5] (fun i wr => ∃ k : Nat, k ≤ d.length ∧ i = .int .i64 k ∧ wr = (w.alloc (.cells #[q1, .slice a3 d.length c3, .slice a4 p.length c4, q4] 26)).alloc (.cells #[.slice a1 d.length c1, .slice a2 p.length c2] 36)) (fun i _ => (d.length - intOf i).toNat)
  case atStart => exact ⟨0, by omega, rfl, rfl⟩
  case round =>
    obtain ⟨k, hk, rfl, rfl⟩ := hrel
    by_cases hkl : k < d.length
    · obtain ⟨b, off, rfl, -, -, hat⟩ := (H1.out.ch0 C0).at (f := fInt) (C := 1) (fun _ => rfl) (by omega) hkl
      have y0 := hat 0 (by omega)
      rw [Nat.mul_one] at y0
      have y0' : ((w.alloc (.cells #[q1, .slice a3 d.length c3, .slice a4 p.length c4, q4] 26)).alloc (.cells #[.slice (some ⟨b, off, none⟩) d.length c1, .slice a2 p.length c2] 36)).cell? ⟨b, off + k, none⟩ = some (.int .i64 d[k]) := y0
      obtain ⟨x0, x1⟩ := Z1.out d[k] (List.getElem_mem hkl)
      clear hat y0
      generalize d[k] = y at *
      go_wp2_with fail
      go_roundw
      case rel => exact ⟨k + 1, by omega, by go_num, trivial⟩
      case measure => simp [intOf]; omega
    · go_wp2_with fail
      go_ret
      exact ⟨by simp, C0⟩
end Go.Proofs.YtkplgggdidhnoaaGreatDoor

namespace Go.Proofs.YtkplgggdidhnoaaGreatDoor
open Go.ChangeShapes Go.WideShapes Go.ChangeAt Go.RowKit
set_option linter.unusedVariables false

/-- The events of one cycle, and the slice that holds them. -/
def fEvs (x : List Ev × Value) : List Value := [x.2]
def EvsAt (B : Nat → Prop) (w : World) (v : Value) (xs : List (List Ev × Value)) : Prop :=
  Sl B w v xs.length (xs.flatMap fEvs) ∧ ∀ x ∈ xs, Sl B w x.2 x.1.length (x.1.flatMap fEv)

set_option maxHeartbeats 2000000 in
theorem events_any (B : Nat → Prop) (w : World) (v : Value) (xs : List (List Ev × Value)) (h : EvsAt B w v xs) :
    Calls Tryz.prog 20 #[v] w fun r w' => ∃ b, r = .returned (.bool b) ∧ w' = w := by
  obtain ⟨h1, h2⟩ := h
  have H1 := Lib.hid h1
  have H2 := Lib.hid h2
  clear h2
  obtain ⟨a1, c1, rfl, k1, k2, -, -⟩ := h1
  have HK := Lib.hid k2; clear k2
  go_enter Tryz.func20, Tryz.ntmps20
  go_wp2_with fail
  go_loopw [3, 4] (fun q i wr => ∃ (k : Nat) (m : Int), k ≤ xs.length ∧ k ≤ 90 ∧ i = .int .i64 k ∧ q = .int .i64 m ∧ wr = w) (fun _ i _ => (90 - intOf i).toNat)
  case atStart => exact ⟨0, 0, by omega, by omega, rfl, rfl, rfl⟩
  case round =>
    obtain ⟨k, m, hk, hk2, rfl, rfl, rfl⟩ := hrel
    by_cases hkl : k < xs.length
    · by_cases h90 : k < 90
      · obtain ⟨b, off, rfl, -, -, hat⟩ := H1.out.at (f := fEvs) (C := 1) (fun _ => rfl) (by omega) hkl
        have y0 : wr.cell? ⟨b, off + k, none⟩ = some xs[k].2 := by have := hat 0 (by omega); rw [Nat.mul_one] at this; exact this
        clear hat
        obtain ⟨a2, c2, e2, -⟩ := H2.out xs[k] (List.getElem_mem hkl)
        rw [e2] at y0
        clear e2
        generalize xs[k].1.length = ln at *
        go_wp2_with fail
        · go_ret
          first | exact ⟨_, rfl, trivial⟩ | exact ⟨_, rfl, rfl⟩ | simp
        · go_roundw
          case rel => exact ⟨k + 1, _, by omega, by omega, by go_num, rfl, trivial⟩
          case measure => simp [intOf]; omega
      · go_wp2_with fail
        go_ret
        first | exact ⟨_, rfl, trivial⟩ | exact ⟨_, rfl, rfl⟩ | simp
    · go_wp2_with fail
      go_ret
      first | exact ⟨_, rfl, trivial⟩ | exact ⟨_, rfl, rfl⟩ | simp
end Go.Proofs.YtkplgggdidhnoaaGreatDoor
