/-
  The walk of RelayBusy: it answers true, and turns nothing that was there. No condition.
-/
import Derived.Test.YtnolhpblhndomaaRelayRef
import Derived.Test.YtnolhpblhndomaaRelayStep
namespace Go.Proofs.Ytnolhpblhndomaa.relayBusy
open Go.ChangeShapes Go.WideShapes Go.ChangeAt Go.RowKit
set_option linter.unusedVariables false

set_option maxHeartbeats 4000000 in
set_option maxRecDepth 100000 in
theorem walk (w : World) (ao : Option Addr) (cap : Nat) (l : List Bool) (hl : l.length ≤ cap) (hm : cap ≤ maxLen) (hr : ∀ a ∈ l, True) (hc : Cells w ao (l.flatMap fBool)) :
    Calls Try.prog 5 #[.slice ao l.length cap] w fun e w' => e = .returned (.bool true) ∧ Below w.heap.size w w' := by
  clear hr
  have hlen : l.length ≤ 9223372036854775807 := by unfold maxLen at hm; omega
  clear hm
  by_cases hg : l.length ≤ 60
  · go_enter Try.func5, Try.ntmps5
    go_wp2_with fail
    refine (relay_new _).mono ?_
    rintro e w1 ⟨rfl, R, C⟩
    go_wp2_with fail
    refine (step_begin (s' := ⟨1, -1, -1, 0, 0, 0, 0⟩) _ _ _ _ R St.new_ok (by decide)).mono ?_
    clear R
    rintro e w2 ⟨rfl, R, C2⟩
    replace C := C.then C2 fun i hi e => by omega
    clear C2
    go_wp2_with fail
    refine (step_ask (s' := ⟨1, 0, -1, 1, 0, 1, 0⟩) (e := 1) (l := 0) (r := 0) _ _ _ _ _ R (by first | decide | (dsimp only; omega)) (by first | decide | (dsimp only; omega)) (by decide)).mono ?_
    clear R
    rintro e w2 ⟨rfl, R, C2⟩
    replace C := C.then C2 fun i hi e => by omega
    clear C2
    go_wp2_with fail
    go_loopw [4] (fun i wr => ∃ (k : Nat) (x c : Int), k ≤ l.length ∧ i = .int .i64 k ∧ Ch (fun _ => False) w wr ∧ RelayAt wr w.heap.size ⟨1 + k, 0, c, 1 + k, 0, 1, x⟩) (fun i _ => (l.length - intOf i).toNat)
    case atStart => exact ⟨0, 0, -1, by omega, rfl, C, R⟩
    case round =>
      clear R C
      obtain ⟨k, x, c, hk, rfl, C, R⟩ := hrel
      by_cases hkl : k < l.length
      · obtain ⟨b, off, rfl, hblt, x0⟩ := bool_cell hc hkl
        clear hc
        replace x0 := ((C.below (Nat.le_refl _) fun _ _ h => h).cell (p := ⟨b, off + k, none⟩) hblt).trans x0
        generalize l[k] = q at *
        go_wp2_with fail
        refine (step_begin (s' := ⟨2 + k, 0, -1, 1 + k, 0, 1, x⟩) _ _ _ _ R (by constructor <;> simp <;> omega) (by unfold St.begin; rw [if_neg (by dsimp only; omega), if_neg (by dsimp only; omega)])).mono ?_
        clear R
        rintro e w2 ⟨rfl, R, C2⟩
        replace x0 := (World.cell?_of_block (C2.block b (Nat.lt_of_lt_of_le hblt C.size) (by show ¬ b = _; omega))).trans x0
        replace C := C.then C2 fun i hi e => by omega
        clear C2
        cases q
        · skip
          go_wp2_with fail
          refine (step_ask (s' := ⟨2 + k, 0, 0, 2 + k, 0, 1, k⟩) (e := 1) (l := x) (r := 0) _ _ _ _ _ R (by first | decide | (dsimp only; omega)) (by first | decide | (dsimp only; omega)) (by unfold St.ask; rw [if_neg (by omega), if_pos rfl])).mono ?_
          clear R
          rintro e w2 ⟨rfl, R, C2⟩
          replace C := C.then C2 fun i hi e => by omega
          clear C2
          go_wp2_with fail
          refine (step_ask (s' := ⟨2 + k, 0, 0, 2 + k, 0, 1, k⟩) (e := 0) (l := 0) (r := 8) _ _ _ _ _ R (by first | decide | (dsimp only; omega)) (by first | decide | (dsimp only; omega)) (by unfold St.ask; rw [if_neg (by omega), if_neg (by dsimp only; omega), if_neg (by dsimp only; omega)])).mono ?_
          clear R
          rintro e w2 ⟨rfl, R, C2⟩
          replace C := C.then C2 fun i hi e => by omega
          clear C2
          go_wp2_with fail
          refine (relay_con _ _ _ R).mono ?_
          rintro e w3 ⟨rfl, rfl⟩
          go_wp2_with fail
          refine (relay_own _ _ _ R).mono ?_
          rintro e w3 ⟨rfl, rfl⟩
          go_wp2_with fail
          go_roundw
          case rel => exact ⟨k + 1, k, 0, by omega, by go_num, C, by rw [show (1 : Int) + ((k + 1 : Nat) : Int) = 2 + k by omega]; exact R⟩
          case measure => simp [intOf]; omega
        · skip
          go_wp2_with fail
          refine (step_ask (s' := ⟨2 + k, 0, -1, 1 + k, 0, 1, x⟩) (e := 0) (l := 0) (r := 8) _ _ _ _ _ R (by first | decide | (dsimp only; omega)) (by first | decide | (dsimp only; omega)) (by unfold St.ask; rw [if_neg (by omega), if_neg (by dsimp only; omega), if_neg (by dsimp only; omega)])).mono ?_
          clear R
          rintro e w2 ⟨rfl, R, C2⟩
          replace C := C.then C2 fun i hi e => by omega
          clear C2
          go_wp2_with fail
          refine (relay_con _ _ _ R).mono ?_
          rintro e w3 ⟨rfl, rfl⟩
          go_wp2_with fail
          refine (step_ask (s' := ⟨2 + k, 0, 0, 2 + k, 0, 1, k⟩) (e := 1) (l := x) (r := 0) _ _ _ _ _ R (by first | decide | (dsimp only; omega)) (by first | decide | (dsimp only; omega)) (by unfold St.ask; rw [if_neg (by omega), if_pos rfl])).mono ?_
          clear R
          rintro e w2 ⟨rfl, R, C2⟩
          replace C := C.then C2 fun i hi e => by omega
          clear C2
          go_wp2_with fail
          refine (step_ask (s' := ⟨2 + k, 0, 0, 2 + k, 0, 1, k⟩) (e := 0) (l := 0) (r := 8) _ _ _ _ _ R (by first | decide | (dsimp only; omega)) (by first | decide | (dsimp only; omega)) (by unfold St.ask; rw [if_neg (by omega), if_neg (by dsimp only; omega), if_neg (by dsimp only; omega)])).mono ?_
          clear R
          rintro e w2 ⟨rfl, R, C2⟩
          replace C := C.then C2 fun i hi e => by omega
          clear C2
          go_wp2_with fail
          refine (relay_con _ _ _ R).mono ?_
          rintro e w3 ⟨rfl, rfl⟩
          go_wp2_with fail
          refine (relay_own _ _ _ R).mono ?_
          rintro e w3 ⟨rfl, rfl⟩
          go_wp2_with fail
          go_roundw
          case rel => exact ⟨k + 1, k, 0, by omega, by go_num, C, by rw [show (1 : Int) + ((k + 1 : Nat) : Int) = 2 + k by omega]; exact R⟩
          case measure => simp [intOf]; omega
      · clear hc
        go_wp2_with fail
        refine (known_any _).mono ?_
        rintro e w4 ⟨rfl, hk⟩
        go_wp2_with fail
        go_ret
        exact ⟨rfl, (C.then hk fun i hi e => e).below (Nat.le_refl _) fun _ _ h => h⟩
  · go_enter Try.func5, Try.ntmps5
    go_wp2_with fail
    all_goals (go_ret; exact ⟨rfl, Below.refl _ _⟩)
end Go.Proofs.Ytnolhpblhndomaa.relayBusy
