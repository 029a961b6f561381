/-
  The walk of RelayTurns: it answers true, and turns nothing that was there. No condition.
-/
import Derived.Test.YtnolhpblhndomaaRelayRef
import Derived.Test.YtnolhpblhndomaaRelayStep
namespace Go.Proofs.Ytnolhpblhndomaa.relayTurns
open Go.ChangeShapes Go.WideShapes Go.ChangeAt Go.RowKit
set_option linter.unusedVariables false

set_option maxHeartbeats 4000000 in
set_option maxRecDepth 100000 in
theorem walk (w : World) (ao : Option Addr) (cap : Nat) (l : List Bool) (hl : l.length ≤ cap) (hm : cap ≤ maxLen) (hr : ∀ a ∈ l, True) (hc : Cells w ao (l.flatMap fBool)) :
    Calls Try.prog 6 #[.slice ao l.length cap] w fun e w' => e = .returned (.bool true) ∧ Below w.heap.size w w' := by
  clear hr
  have hlen : l.length ≤ 9223372036854775807 := by unfold maxLen at hm; omega
  clear hm
  by_cases hg : l.length ≤ 60
  · go_enter Try.func6, Try.ntmps6
    go_wp2_with fail
    refine (relay_new _).mono ?_
    rintro e w1 ⟨rfl, R, C⟩
    go_wp2_with fail
    refine (step_begin (s' := ⟨1, -1, -1, 0, 0, 0, 0⟩) _ _ _ _ R St.new_ok (by decide)).mono ?_
    clear R
    rintro e w2 ⟨rfl, R, C2⟩
    replace C := C.then C2 fun i hi e => by omega
    clear C2
    go_wp2_with fail
    refine (step_ask (s' := ⟨1, 1, -1, 1, 0, 1, 0⟩) (e := 1) (l := 0) (r := 0) _ _ _ _ _ R (by first | decide | (dsimp only; omega)) (by first | decide | (dsimp only; omega)) (by decide)).mono ?_
    clear R
    rintro e w2 ⟨rfl, R, C2⟩
    replace C := C.then C2 fun i hi e => by omega
    clear C2
    go_wp2_with fail
    go_loopw [4, 5] (fun p i wr => ∃ (k : Nat) (x c q : Int), k ≤ l.length ∧ i = .int .i64 k ∧ p = .int .i64 q ∧ 0 ≤ q ∧ q ≤ k ∧ q ≤ 7 ∧ Ch (fun _ => False) w wr ∧ RelayAt wr w.heap.size ⟨1 + k, 1, c, 1 + k - q, 0, 1, x⟩) (fun _ i _ => (l.length - intOf i).toNat)
    case atStart => exact ⟨0, 0, -1, 0, by omega, rfl, rfl, by omega, by omega, by omega, C, R⟩
    case round =>
      clear R C
      obtain ⟨k, x, c, q0, hk, rfl, rfl, hq0, hq1, hq2, C, R⟩ := hrel
      by_cases hkl : k < l.length ∧ q0 < 7
      · obtain ⟨hkl, hq7⟩ := hkl
        obtain ⟨b, off, rfl, hblt, x0⟩ := bool_cell hc hkl
        clear hc
        replace x0 := ((C.below (Nat.le_refl _) fun _ _ h => h).cell (p := ⟨b, off + k, none⟩) hblt).trans x0
        generalize l[k] = q at *
        have hkl0 : (0 : Int) ≤ k := by omega
        have hkl1 : (k : Int) < l.length := by omega
        go_wp2_with fail
        refine (step_begin (s' := ⟨2 + k, 1, -1, 1 + k - q0, 0, 1, x⟩) _ _ _ _ R (by constructor <;> simp <;> omega) (by unfold St.begin; rw [if_neg (by dsimp only; omega), if_neg (by dsimp only; omega)])).mono ?_
        clear R
        rintro e w2 ⟨rfl, R, C2⟩
        replace x0 := (World.cell?_of_block (C2.block b (Nat.lt_of_lt_of_le hblt C.size) (by show ¬ b = _; omega))).trans x0
        replace C := C.then C2 fun i hi e => by omega
        clear C2
        cases q
        · skip
          go_wp2_with fail
          go_quiet ((first | (go_at_call 16; refine Calls.quiet_of_same (relay_con _ _ _ R)) | (go_at_call 17; refine Calls.quiet_of_same (relay_own _ _ _ R))))
          go_wp2_with fail
          go_roundw
          case rel => exact ⟨k + 1, x, (-1), (q0 + 1), by omega, by go_num, rfl, by omega, by omega, by omega, C.drewN _, by rw [show (1 : Int) + ((k + 1 : Nat) : Int) = 2 + k by omega]; first | exact R | (rw [show (2 : Int) + k - (q0 + 1) = 1 + k - q0 by omega]; exact R) | (rw [show (2 : Int) + k - 0 = 2 + k by omega]; exact R)⟩
          case measure => simp [intOf]; omega
        · skip
          go_wp2_with fail
          refine (step_ask (s' := ⟨2 + k, 1, 1, 2 + k, 0, 1, k⟩) (e := 1) (l := x) (r := 0) _ _ _ _ _ R (by dsimp only; omega) (by dsimp only; omega) (by unfold St.ask; rw [if_neg (by omega), if_pos rfl])).mono ?_
          clear R
          rintro e w2 ⟨rfl, R, C2⟩
          replace x0 := (World.cell?_of_block (C2.block b (Nat.lt_of_lt_of_le hblt C.size) (by show ¬ b = _; omega))).trans x0
          replace C := C.then C2 fun i hi e => by omega
          clear C2
          go_wp2_with fail
          go_quiet ((first | (go_at_call 16; refine Calls.quiet_of_same (relay_con _ _ _ R)) | (go_at_call 17; refine Calls.quiet_of_same (relay_own _ _ _ R))))
          go_wp2_with fail
          go_roundw
          case rel => exact ⟨k + 1, k, 1, 0, by omega, by go_num, rfl, by omega, by omega, by omega, C.drewN _, by rw [show (1 : Int) + ((k + 1 : Nat) : Int) = 2 + k by omega]; first | exact R | (rw [show (2 : Int) + k - 0 = 1 + k - q0 by omega]; exact R) | (rw [show (2 : Int) + k - 0 = 2 + k by omega]; exact R)⟩
          case measure => simp [intOf]; omega
      · clear hc
        have hlast : ((k : Int) < l.length) = False ∨ (q0 < 7) = False := by simp only [eq_iff_iff, iff_false]; omega
        by_cases hk2 : k < l.length
        · have hq3 : 7 ≤ q0 := by omega
          clear hlast
          go_wp2_with fail
          refine (known_any _).mono ?_
          rintro e w4 ⟨rfl, hk⟩
          go_wp2_with fail
          go_ret
          exact ⟨rfl, (C.then hk fun i hi e => e).below (Nat.le_refl _) fun _ _ h => h⟩
        · clear hlast
          go_wp2_with fail
          refine (known_any _).mono ?_
          rintro e w4 ⟨rfl, hk⟩
          go_wp2_with fail
          go_ret
          exact ⟨rfl, (C.then hk fun i hi e => e).below (Nat.le_refl _) fun _ _ h => h⟩
  · go_enter Try.func6, Try.ntmps6
    go_wp2_with fail
    all_goals (go_ret; exact ⟨rfl, Below.refl _ _⟩)
end Go.Proofs.Ytnolhpblhndomaa.relayTurns
