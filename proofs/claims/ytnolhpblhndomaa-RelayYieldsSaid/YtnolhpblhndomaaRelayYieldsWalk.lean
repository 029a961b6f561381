/-
  The walk of RelayYields: it answers true, and turns nothing that was there. No condition.
-/
import Derived.Test.YtnolhpblhndomaaRelayRef
import Derived.Test.YtnolhpblhndomaaRelayStep
namespace Go.Proofs.Ytnolhpblhndomaa.relayYields
open Go.ChangeShapes Go.WideShapes Go.ChangeAt Go.RowKit
set_option linter.unusedVariables false

set_option maxHeartbeats 4000000 in
theorem walk00 (w : World) :
    Calls Try.prog 8 #[.int .i64 0, .int .i64 0] w fun e w' => e = .returned (.bool true) ∧ Below w.heap.size w w' := by
      go_enter Try.func8, Try.ntmps8
      go_wp2_with fail
      refine (relay_new _).mono ?_
      rintro e w1 ⟨rfl, R, C⟩
      go_wp2_with fail
      refine (step_begin (s' := ⟨5, -1, -1, 0, 0, 0, 0⟩) _ _ _ _ R St.new_ok (by decide)).mono ?_
      clear R
      rintro e w2 ⟨rfl, R, C2⟩
      replace C := C.then C2 fun i hi e => by omega
      clear C2
      go_wp2_with fail
      refine (step_ask (s' := ⟨5, 0, -1, 5, 0, 1, 0⟩) (e := 1) (l := 0) (r := 0) _ _ _ _ _ R (by first | decide | (dsimp only; omega)) (by first | decide | (dsimp only; omega)) (by decide)).mono ?_
      clear R
      rintro e w2 ⟨rfl, R, C2⟩
      replace C := C.then C2 fun i hi e => by omega
      clear C2
      go_wp2_with fail
      refine (step_begin (s' := ⟨6, 0, -1, 5, 0, 1, 0⟩) _ _ _ _ R (by constructor <;> decide) (by decide)).mono ?_
      clear R
      rintro e w2 ⟨rfl, R, C2⟩
      replace C := C.then C2 fun i hi e => by omega
      clear C2
      go_wp2_with fail
      refine (step_ask (s' := ⟨6, 0, 0, 6, 0, 1, 3⟩) (e := 1) (l := 0) (r := 0) _ _ _ _ _ R (by first | decide | (dsimp only; omega)) (by first | decide | (dsimp only; omega)) (by decide)).mono ?_
      clear R
      rintro e w2 ⟨rfl, R, C2⟩
      replace C := C.then C2 fun i hi e => by omega
      clear C2
      go_wp2_with fail
      refine (relay_con _ _ _ R).mono ?_
      rintro e w3 ⟨rfl, rfl⟩
      go_wp2_with fail
      refine (step_yield (s' := ⟨6, 0, 0, 6, 0, 1, 3⟩) (r := 7) _ _ _ _ R (by first | decide | (dsimp only; omega)) (by first | decide | (dsimp only; omega)) (by decide)).mono ?_
      clear R
      rintro e w2 ⟨rfl, R, C2⟩
      replace C := C.then C2 fun i hi e => by omega
      clear C2
      go_wp2_with fail
      refine (step_yield (s' := ⟨6, -1, -1, 6, 8, 1, 3⟩) (r := 0) _ _ _ _ R (by first | decide | (dsimp only; omega)) (by first | decide | (dsimp only; omega)) (by decide)).mono ?_
      clear R
      rintro e w2 ⟨rfl, R, C2⟩
      replace C := C.then C2 fun i hi e => by omega
      clear C2
      go_wp2_with fail
      refine (relay_con _ _ _ R).mono ?_
      rintro e w3 ⟨rfl, rfl⟩
      go_wp2_with fail
      refine (relay_own _ _ _ R).mono ?_
      rintro e w3 ⟨rfl, rfl⟩
      go_wp2_with fail
      refine (step_yield (s' := ⟨6, -1, -1, 6, 8, 1, 3⟩) (r := 7) _ _ _ _ R (by first | decide | (dsimp only; omega)) (by first | decide | (dsimp only; omega)) (by decide)).mono ?_
      clear R
      rintro e w2 ⟨rfl, R, C2⟩
      replace C := C.then C2 fun i hi e => by omega
      clear C2
      go_wp2_with fail
      refine wp_loop_rounds 3 ?_
      rw [rounds_succ]
      go_wp2_with fail
      refine (step_begin (s' := ⟨6, -1, -1, 6, 8, 1, 3⟩) _ _ _ _ R (by constructor <;> decide) (by decide)).mono ?_
      clear R
      rintro e w2 ⟨rfl, R, C2⟩
      replace C := C.then C2 fun i hi e => by omega
      clear C2
      go_wp2_with fail
      refine (step_ask (s' := ⟨6, -1, -1, 6, 8, 1, 3⟩) (e := 0) (l := 0) (r := 8) _ _ _ _ _ R (by first | decide | (dsimp only; omega)) (by first | decide | (dsimp only; omega)) (by decide)).mono ?_
      clear R
      rintro e w2 ⟨rfl, R, C2⟩
      replace C := C.then C2 fun i hi e => by omega
      clear C2
      go_wp2_with fail
      rw [rounds_succ]
      go_wp2_with fail
      refine (step_begin (s' := ⟨7, -1, -1, 6, 8, 1, 3⟩) _ _ _ _ R (by constructor <;> decide) (by decide)).mono ?_
      clear R
      rintro e w2 ⟨rfl, R, C2⟩
      replace C := C.then C2 fun i hi e => by omega
      clear C2
      go_wp2_with fail
      refine (step_ask (s' := ⟨7, -1, -1, 6, 8, 1, 3⟩) (e := 0) (l := 0) (r := 8) _ _ _ _ _ R (by first | decide | (dsimp only; omega)) (by first | decide | (dsimp only; omega)) (by decide)).mono ?_
      clear R
      rintro e w2 ⟨rfl, R, C2⟩
      replace C := C.then C2 fun i hi e => by omega
      clear C2
      go_wp2_with fail
      rw [rounds_succ]
      go_wp2_with fail
      refine (step_begin (s' := ⟨8, -1, -1, 6, 8, 1, 3⟩) _ _ _ _ R (by constructor <;> decide) (by decide)).mono ?_
      clear R
      rintro e w2 ⟨rfl, R, C2⟩
      replace C := C.then C2 fun i hi e => by omega
      clear C2
      go_wp2_with fail
      refine (step_ask (s' := ⟨8, 0, -1, 8, 8, 2, 3⟩) (e := 2) (l := 3) (r := 0) _ _ _ _ _ R (by first | decide | (dsimp only; omega)) (by first | decide | (dsimp only; omega)) (by decide)).mono ?_
      clear R
      rintro e w2 ⟨rfl, R, C2⟩
      replace C := C.then C2 fun i hi e => by omega
      clear C2
      go_wp2_with fail
      refine (known_any _).mono ?_
      rintro e w4 ⟨rfl, hk⟩
      go_wp2_with fail
      go_ret
      exact ⟨rfl, (C.then hk fun i hi e => e).below (Nat.le_refl _) fun _ _ h => h⟩

set_option maxHeartbeats 4000000 in
theorem walk01 (w : World) :
    Calls Try.prog 8 #[.int .i64 0, .int .i64 1] w fun e w' => e = .returned (.bool true) ∧ Below w.heap.size w w' := by
      go_enter Try.func8, Try.ntmps8
      go_wp2_with fail
      refine (relay_new _).mono ?_
      rintro e w1 ⟨rfl, R, C⟩
      go_wp2_with fail
      refine (step_begin (s' := ⟨5, -1, -1, 0, 0, 0, 0⟩) _ _ _ _ R St.new_ok (by decide)).mono ?_
      clear R
      rintro e w2 ⟨rfl, R, C2⟩
      replace C := C.then C2 fun i hi e => by omega
      clear C2
      go_wp2_with fail
      refine (step_ask (s' := ⟨5, 0, -1, 5, 0, 1, 0⟩) (e := 1) (l := 0) (r := 0) _ _ _ _ _ R (by first | decide | (dsimp only; omega)) (by first | decide | (dsimp only; omega)) (by decide)).mono ?_
      clear R
      rintro e w2 ⟨rfl, R, C2⟩
      replace C := C.then C2 fun i hi e => by omega
      clear C2
      go_wp2_with fail
      refine (step_begin (s' := ⟨6, 0, -1, 5, 0, 1, 0⟩) _ _ _ _ R (by constructor <;> decide) (by decide)).mono ?_
      clear R
      rintro e w2 ⟨rfl, R, C2⟩
      replace C := C.then C2 fun i hi e => by omega
      clear C2
      go_wp2_with fail
      refine (step_ask (s' := ⟨6, 0, 0, 6, 0, 1, 3⟩) (e := 1) (l := 0) (r := 0) _ _ _ _ _ R (by first | decide | (dsimp only; omega)) (by first | decide | (dsimp only; omega)) (by decide)).mono ?_
      clear R
      rintro e w2 ⟨rfl, R, C2⟩
      replace C := C.then C2 fun i hi e => by omega
      clear C2
      go_wp2_with fail
      refine (relay_con _ _ _ R).mono ?_
      rintro e w3 ⟨rfl, rfl⟩
      go_wp2_with fail
      refine (step_yield (s' := ⟨6, 0, 0, 6, 0, 1, 3⟩) (r := 7) _ _ _ _ R (by first | decide | (dsimp only; omega)) (by first | decide | (dsimp only; omega)) (by decide)).mono ?_
      clear R
      rintro e w2 ⟨rfl, R, C2⟩
      replace C := C.then C2 fun i hi e => by omega
      clear C2
      go_wp2_with fail
      refine (step_yield (s' := ⟨6, -1, -1, 6, 8, 1, 3⟩) (r := 0) _ _ _ _ R (by first | decide | (dsimp only; omega)) (by first | decide | (dsimp only; omega)) (by decide)).mono ?_
      clear R
      rintro e w2 ⟨rfl, R, C2⟩
      replace C := C.then C2 fun i hi e => by omega
      clear C2
      go_wp2_with fail
      refine (relay_con _ _ _ R).mono ?_
      rintro e w3 ⟨rfl, rfl⟩
      go_wp2_with fail
      refine (relay_own _ _ _ R).mono ?_
      rintro e w3 ⟨rfl, rfl⟩
      go_wp2_with fail
      refine (step_yield (s' := ⟨6, -1, -1, 6, 8, 1, 3⟩) (r := 7) _ _ _ _ R (by first | decide | (dsimp only; omega)) (by first | decide | (dsimp only; omega)) (by decide)).mono ?_
      clear R
      rintro e w2 ⟨rfl, R, C2⟩
      replace C := C.then C2 fun i hi e => by omega
      clear C2
      go_wp2_with fail
      refine wp_loop_rounds 3 ?_
      rw [rounds_succ]
      go_wp2_with fail
      refine (step_begin (s' := ⟨6, -1, -1, 6, 8, 1, 3⟩) _ _ _ _ R (by constructor <;> decide) (by decide)).mono ?_
      clear R
      rintro e w2 ⟨rfl, R, C2⟩
      replace C := C.then C2 fun i hi e => by omega
      clear C2
      go_wp2_with fail
      refine (step_ask (s' := ⟨6, -1, -1, 6, 8, 1, 3⟩) (e := 0) (l := 0) (r := 8) _ _ _ _ _ R (by first | decide | (dsimp only; omega)) (by first | decide | (dsimp only; omega)) (by decide)).mono ?_
      clear R
      rintro e w2 ⟨rfl, R, C2⟩
      replace C := C.then C2 fun i hi e => by omega
      clear C2
      go_wp2_with fail
      rw [rounds_succ]
      go_wp2_with fail
      refine (step_begin (s' := ⟨7, -1, -1, 6, 8, 1, 3⟩) _ _ _ _ R (by constructor <;> decide) (by decide)).mono ?_
      clear R
      rintro e w2 ⟨rfl, R, C2⟩
      replace C := C.then C2 fun i hi e => by omega
      clear C2
      go_wp2_with fail
      refine (step_ask (s' := ⟨7, -1, -1, 6, 8, 1, 3⟩) (e := 0) (l := 0) (r := 8) _ _ _ _ _ R (by first | decide | (dsimp only; omega)) (by first | decide | (dsimp only; omega)) (by decide)).mono ?_
      clear R
      rintro e w2 ⟨rfl, R, C2⟩
      replace C := C.then C2 fun i hi e => by omega
      clear C2
      go_wp2_with fail
      rw [rounds_succ]
      go_wp2_with fail
      refine (step_begin (s' := ⟨8, -1, -1, 6, 8, 1, 3⟩) _ _ _ _ R (by constructor <;> decide) (by decide)).mono ?_
      clear R
      rintro e w2 ⟨rfl, R, C2⟩
      replace C := C.then C2 fun i hi e => by omega
      clear C2
      go_wp2_with fail
      refine (step_ask (s' := ⟨8, 1, -1, 8, 8, 2, 3⟩) (e := 2) (l := 3) (r := 0) _ _ _ _ _ R (by first | decide | (dsimp only; omega)) (by first | decide | (dsimp only; omega)) (by decide)).mono ?_
      clear R
      rintro e w2 ⟨rfl, R, C2⟩
      replace C := C.then C2 fun i hi e => by omega
      clear C2
      go_wp2_with fail
      refine (known_any _).mono ?_
      rintro e w4 ⟨rfl, hk⟩
      go_wp2_with fail
      go_ret
      exact ⟨rfl, (C.then hk fun i hi e => e).below (Nat.le_refl _) fun _ _ h => h⟩

set_option maxHeartbeats 4000000 in
theorem walk10 (w : World) :
    Calls Try.prog 8 #[.int .i64 1, .int .i64 0] w fun e w' => e = .returned (.bool true) ∧ Below w.heap.size w w' := by
      go_enter Try.func8, Try.ntmps8
      go_wp2_with fail
      refine (relay_new _).mono ?_
      rintro e w1 ⟨rfl, R, C⟩
      go_wp2_with fail
      refine (step_begin (s' := ⟨5, -1, -1, 0, 0, 0, 0⟩) _ _ _ _ R St.new_ok (by decide)).mono ?_
      clear R
      rintro e w2 ⟨rfl, R, C2⟩
      replace C := C.then C2 fun i hi e => by omega
      clear C2
      go_wp2_with fail
      refine (step_ask (s' := ⟨5, 1, -1, 5, 0, 1, 0⟩) (e := 1) (l := 0) (r := 0) _ _ _ _ _ R (by first | decide | (dsimp only; omega)) (by first | decide | (dsimp only; omega)) (by decide)).mono ?_
      clear R
      rintro e w2 ⟨rfl, R, C2⟩
      replace C := C.then C2 fun i hi e => by omega
      clear C2
      go_wp2_with fail
      refine (step_begin (s' := ⟨6, 1, -1, 5, 0, 1, 0⟩) _ _ _ _ R (by constructor <;> decide) (by decide)).mono ?_
      clear R
      rintro e w2 ⟨rfl, R, C2⟩
      replace C := C.then C2 fun i hi e => by omega
      clear C2
      go_wp2_with fail
      refine (step_ask (s' := ⟨6, 1, 1, 6, 0, 1, 3⟩) (e := 1) (l := 0) (r := 0) _ _ _ _ _ R (by first | decide | (dsimp only; omega)) (by first | decide | (dsimp only; omega)) (by decide)).mono ?_
      clear R
      rintro e w2 ⟨rfl, R, C2⟩
      replace C := C.then C2 fun i hi e => by omega
      clear C2
      go_wp2_with fail
      refine (relay_con _ _ _ R).mono ?_
      rintro e w3 ⟨rfl, rfl⟩
      go_wp2_with fail
      refine (step_yield (s' := ⟨6, 1, 1, 6, 0, 1, 3⟩) (r := 7) _ _ _ _ R (by first | decide | (dsimp only; omega)) (by first | decide | (dsimp only; omega)) (by decide)).mono ?_
      clear R
      rintro e w2 ⟨rfl, R, C2⟩
      replace C := C.then C2 fun i hi e => by omega
      clear C2
      go_wp2_with fail
      refine (step_yield (s' := ⟨6, -1, -1, 6, 8, 1, 3⟩) (r := 0) _ _ _ _ R (by first | decide | (dsimp only; omega)) (by first | decide | (dsimp only; omega)) (by decide)).mono ?_
      clear R
      rintro e w2 ⟨rfl, R, C2⟩
      replace C := C.then C2 fun i hi e => by omega
      clear C2
      go_wp2_with fail
      refine (relay_con _ _ _ R).mono ?_
      rintro e w3 ⟨rfl, rfl⟩
      go_wp2_with fail
      refine (relay_own _ _ _ R).mono ?_
      rintro e w3 ⟨rfl, rfl⟩
      go_wp2_with fail
      refine (step_yield (s' := ⟨6, -1, -1, 6, 8, 1, 3⟩) (r := 7) _ _ _ _ R (by first | decide | (dsimp only; omega)) (by first | decide | (dsimp only; omega)) (by decide)).mono ?_
      clear R
      rintro e w2 ⟨rfl, R, C2⟩
      replace C := C.then C2 fun i hi e => by omega
      clear C2
      go_wp2_with fail
      refine wp_loop_rounds 3 ?_
      rw [rounds_succ]
      go_wp2_with fail
      refine (step_begin (s' := ⟨6, -1, -1, 6, 8, 1, 3⟩) _ _ _ _ R (by constructor <;> decide) (by decide)).mono ?_
      clear R
      rintro e w2 ⟨rfl, R, C2⟩
      replace C := C.then C2 fun i hi e => by omega
      clear C2
      go_wp2_with fail
      refine (step_ask (s' := ⟨6, -1, -1, 6, 8, 1, 3⟩) (e := 0) (l := 0) (r := 8) _ _ _ _ _ R (by first | decide | (dsimp only; omega)) (by first | decide | (dsimp only; omega)) (by decide)).mono ?_
      clear R
      rintro e w2 ⟨rfl, R, C2⟩
      replace C := C.then C2 fun i hi e => by omega
      clear C2
      go_wp2_with fail
      rw [rounds_succ]
      go_wp2_with fail
      refine (step_begin (s' := ⟨7, -1, -1, 6, 8, 1, 3⟩) _ _ _ _ R (by constructor <;> decide) (by decide)).mono ?_
      clear R
      rintro e w2 ⟨rfl, R, C2⟩
      replace C := C.then C2 fun i hi e => by omega
      clear C2
      go_wp2_with fail
      refine (step_ask (s' := ⟨7, -1, -1, 6, 8, 1, 3⟩) (e := 0) (l := 0) (r := 8) _ _ _ _ _ R (by first | decide | (dsimp only; omega)) (by first | decide | (dsimp only; omega)) (by decide)).mono ?_
      clear R
      rintro e w2 ⟨rfl, R, C2⟩
      replace C := C.then C2 fun i hi e => by omega
      clear C2
      go_wp2_with fail
      rw [rounds_succ]
      go_wp2_with fail
      refine (step_begin (s' := ⟨8, -1, -1, 6, 8, 1, 3⟩) _ _ _ _ R (by constructor <;> decide) (by decide)).mono ?_
      clear R
      rintro e w2 ⟨rfl, R, C2⟩
      replace C := C.then C2 fun i hi e => by omega
      clear C2
      go_wp2_with fail
      refine (step_ask (s' := ⟨8, 0, -1, 8, 8, 2, 3⟩) (e := 2) (l := 3) (r := 0) _ _ _ _ _ R (by first | decide | (dsimp only; omega)) (by first | decide | (dsimp only; omega)) (by decide)).mono ?_
      clear R
      rintro e w2 ⟨rfl, R, C2⟩
      replace C := C.then C2 fun i hi e => by omega
      clear C2
      go_wp2_with fail
      refine (known_any _).mono ?_
      rintro e w4 ⟨rfl, hk⟩
      go_wp2_with fail
      go_ret
      exact ⟨rfl, (C.then hk fun i hi e => e).below (Nat.le_refl _) fun _ _ h => h⟩

set_option maxHeartbeats 4000000 in
theorem walk11 (w : World) :
    Calls Try.prog 8 #[.int .i64 1, .int .i64 1] w fun e w' => e = .returned (.bool true) ∧ Below w.heap.size w w' := by
      go_enter Try.func8, Try.ntmps8
      go_wp2_with fail
      refine (relay_new _).mono ?_
      rintro e w1 ⟨rfl, R, C⟩
      go_wp2_with fail
      refine (step_begin (s' := ⟨5, -1, -1, 0, 0, 0, 0⟩) _ _ _ _ R St.new_ok (by decide)).mono ?_
      clear R
      rintro e w2 ⟨rfl, R, C2⟩
      replace C := C.then C2 fun i hi e => by omega
      clear C2
      go_wp2_with fail
      refine (step_ask (s' := ⟨5, 1, -1, 5, 0, 1, 0⟩) (e := 1) (l := 0) (r := 0) _ _ _ _ _ R (by first | decide | (dsimp only; omega)) (by first | decide | (dsimp only; omega)) (by decide)).mono ?_
      clear R
      rintro e w2 ⟨rfl, R, C2⟩
      replace C := C.then C2 fun i hi e => by omega
      clear C2
      go_wp2_with fail
      refine (step_begin (s' := ⟨6, 1, -1, 5, 0, 1, 0⟩) _ _ _ _ R (by constructor <;> decide) (by decide)).mono ?_
      clear R
      rintro e w2 ⟨rfl, R, C2⟩
      replace C := C.then C2 fun i hi e => by omega
      clear C2
      go_wp2_with fail
      refine (step_ask (s' := ⟨6, 1, 1, 6, 0, 1, 3⟩) (e := 1) (l := 0) (r := 0) _ _ _ _ _ R (by first | decide | (dsimp only; omega)) (by first | decide | (dsimp only; omega)) (by decide)).mono ?_
      clear R
      rintro e w2 ⟨rfl, R, C2⟩
      replace C := C.then C2 fun i hi e => by omega
      clear C2
      go_wp2_with fail
      refine (relay_con _ _ _ R).mono ?_
      rintro e w3 ⟨rfl, rfl⟩
      go_wp2_with fail
      refine (step_yield (s' := ⟨6, 1, 1, 6, 0, 1, 3⟩) (r := 7) _ _ _ _ R (by first | decide | (dsimp only; omega)) (by first | decide | (dsimp only; omega)) (by decide)).mono ?_
      clear R
      rintro e w2 ⟨rfl, R, C2⟩
      replace C := C.then C2 fun i hi e => by omega
      clear C2
      go_wp2_with fail
      refine (step_yield (s' := ⟨6, -1, -1, 6, 8, 1, 3⟩) (r := 0) _ _ _ _ R (by first | decide | (dsimp only; omega)) (by first | decide | (dsimp only; omega)) (by decide)).mono ?_
      clear R
      rintro e w2 ⟨rfl, R, C2⟩
      replace C := C.then C2 fun i hi e => by omega
      clear C2
      go_wp2_with fail
      refine (relay_con _ _ _ R).mono ?_
      rintro e w3 ⟨rfl, rfl⟩
      go_wp2_with fail
      refine (relay_own _ _ _ R).mono ?_
      rintro e w3 ⟨rfl, rfl⟩
      go_wp2_with fail
      refine (step_yield (s' := ⟨6, -1, -1, 6, 8, 1, 3⟩) (r := 7) _ _ _ _ R (by first | decide | (dsimp only; omega)) (by first | decide | (dsimp only; omega)) (by decide)).mono ?_
      clear R
      rintro e w2 ⟨rfl, R, C2⟩
      replace C := C.then C2 fun i hi e => by omega
      clear C2
      go_wp2_with fail
      refine wp_loop_rounds 3 ?_
      rw [rounds_succ]
      go_wp2_with fail
      refine (step_begin (s' := ⟨6, -1, -1, 6, 8, 1, 3⟩) _ _ _ _ R (by constructor <;> decide) (by decide)).mono ?_
      clear R
      rintro e w2 ⟨rfl, R, C2⟩
      replace C := C.then C2 fun i hi e => by omega
      clear C2
      go_wp2_with fail
      refine (step_ask (s' := ⟨6, -1, -1, 6, 8, 1, 3⟩) (e := 0) (l := 0) (r := 8) _ _ _ _ _ R (by first | decide | (dsimp only; omega)) (by first | decide | (dsimp only; omega)) (by decide)).mono ?_
      clear R
      rintro e w2 ⟨rfl, R, C2⟩
      replace C := C.then C2 fun i hi e => by omega
      clear C2
      go_wp2_with fail
      rw [rounds_succ]
      go_wp2_with fail
      refine (step_begin (s' := ⟨7, -1, -1, 6, 8, 1, 3⟩) _ _ _ _ R (by constructor <;> decide) (by decide)).mono ?_
      clear R
      rintro e w2 ⟨rfl, R, C2⟩
      replace C := C.then C2 fun i hi e => by omega
      clear C2
      go_wp2_with fail
      refine (step_ask (s' := ⟨7, -1, -1, 6, 8, 1, 3⟩) (e := 0) (l := 0) (r := 8) _ _ _ _ _ R (by first | decide | (dsimp only; omega)) (by first | decide | (dsimp only; omega)) (by decide)).mono ?_
      clear R
      rintro e w2 ⟨rfl, R, C2⟩
      replace C := C.then C2 fun i hi e => by omega
      clear C2
      go_wp2_with fail
      rw [rounds_succ]
      go_wp2_with fail
      refine (step_begin (s' := ⟨8, -1, -1, 6, 8, 1, 3⟩) _ _ _ _ R (by constructor <;> decide) (by decide)).mono ?_
      clear R
      rintro e w2 ⟨rfl, R, C2⟩
      replace C := C.then C2 fun i hi e => by omega
      clear C2
      go_wp2_with fail
      refine (step_ask (s' := ⟨8, 1, -1, 8, 8, 2, 3⟩) (e := 2) (l := 3) (r := 0) _ _ _ _ _ R (by first | decide | (dsimp only; omega)) (by first | decide | (dsimp only; omega)) (by decide)).mono ?_
      clear R
      rintro e w2 ⟨rfl, R, C2⟩
      replace C := C.then C2 fun i hi e => by omega
      clear C2
      go_wp2_with fail
      refine (known_any _).mono ?_
      rintro e w4 ⟨rfl, hk⟩
      go_wp2_with fail
      go_ret
      exact ⟨rfl, (C.then hk fun i hi e => e).below (Nat.le_refl _) fun _ _ h => h⟩

theorem walk (w : World) (u : Int) (w0 : (Lit.int .i64 u).wf = true) (a : Int) (w1 : (Lit.int .i64 a).wf = true) :
    Calls Try.prog 8 #[.int .i64 u, .int .i64 a] w fun e w' => e = .returned (.bool true) ∧ Below w.heap.size w w' := by
  clear w0 w1
  by_cases hg : 0 ≤ u ∧ u ≤ 1 ∧ 0 ≤ a ∧ a ≤ 1
  · obtain ⟨h0, h1, h2, h3⟩ := hg
    rcases (show u = 0 ∨ u = 1 by omega) with rfl | rfl <;> rcases (show a = 0 ∨ a = 1 by omega) with rfl | rfl
    · exact walk00 w
    · exact walk01 w
    · exact walk10 w
    · exact walk11 w
  · go_enter Try.func8, Try.ntmps8
    go_wp2_with fail
    all_goals (go_ret; exact ⟨rfl, Below.refl _ _⟩)
end Go.Proofs.Ytnolhpblhndomaa.relayYields
