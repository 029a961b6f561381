/-
  The walk of RelayOld: it answers true, and turns nothing that was there. No condition.
-/
import Derived.Test.YtnolhpblhndomaaRelayRef
import Derived.Test.YtnolhpblhndomaaRelayStep
namespace Go.Proofs.Ytnolhpblhndomaa.relayOld
open Go.ChangeShapes Go.WideShapes Go.ChangeAt Go.RowKit
set_option linter.unusedVariables false

set_option maxHeartbeats 2000000 in
theorem walk (w : World) (n : Int) (w0 : (Lit.int .i64 n).wf = true) (o : Int) (w1 : (Lit.int .i64 o).wf = true) :
    Calls Try.prog 7 #[.int .i64 n, .int .i64 o] w fun e w' => e = .returned (.bool true) ∧ Below w.heap.size w w' := by
  clear w0 w1
  by_cases hg : 1 ≤ n ∧ n ≤ 1000000 ∧ o ≤ n
  · obtain ⟨h0, h1, h2⟩ := hg
    go_enter Try.func7, Try.ntmps7
    go_wp2_with fail
    refine (relay_new _).mono ?_
    rintro e w1 ⟨rfl, R, C⟩
    go_wp2_with fail
    refine (step_begin (s' := ⟨n, -1, -1, 0, 0, 0, 0⟩) _ _ _ _ R St.new_ok (by unfold St.begin; rw [if_neg (by show ¬ (n ≤ 0 ∨ _ < n); omega), if_neg (by simp [St.new])]; rfl)).mono ?_
    clear R
    rintro e w2 ⟨rfl, R, C2⟩
    replace C := C.then C2 fun i hi e => by omega
    clear C2
    go_wp2_with fail
    refine (step_ask (s' := ⟨n, 1, -1, n, 0, 1, 0⟩) (e := 1) (l := 0) (r := 0) _ _ _ _ _ R (by first | decide | (dsimp only; omega)) (by first | decide | (dsimp only; omega)) (by simp [St.ask] <;> omega)).mono ?_
    clear R
    rintro e w2 ⟨rfl, R, C2⟩
    replace C := C.then C2 fun i hi e => by omega
    clear C2
    go_wp2_with fail
    refine (step_ask (s' := ⟨n, 1, 1, n, 0, 1, 5⟩) (e := 1) (l := 0) (r := 0) _ _ _ _ _ R (by first | decide | (dsimp only; omega)) (by first | decide | (dsimp only; omega)) (by simp [St.ask])).mono ?_
    clear R
    rintro e w2 ⟨rfl, R, C2⟩
    replace C := C.then C2 fun i hi e => by omega
    clear C2
    go_wp2_with fail
    refine (step_begin (s' := ⟨n, 1, 1, n, 0, 1, 5⟩) _ _ _ _ R (by constructor <;> simp <;> omega) (by simp [St.begin] <;> omega)).mono ?_
    clear R
    rintro e w2 ⟨rfl, R, C2⟩
    replace C := C.then C2 fun i hi e => by omega
    clear C2
    go_wp2_with fail
    refine (step_begin (s' := ⟨n, 1, 1, n, 0, 1, 5⟩) _ _ _ _ R (by constructor <;> simp <;> omega) (by simp [St.begin])).mono ?_
    clear R
    rintro e w2 ⟨rfl, R, C2⟩
    replace C := C.then C2 fun i hi e => by omega
    clear C2
    go_wp2_with fail
    refine (relay_con _ _ _ R).mono ?_
    rintro e w3 ⟨rfl, rfl⟩
    go_wp2_with fail
    refine (relay_own _ _ _ R).mono ?_
    rintro e w3 ⟨rfl, rfl⟩
    go_wp2_with fail
    refine (relay_epoch _ _ _ R).mono ?_
    rintro e w3 ⟨rfl, rfl⟩
    go_wp2_with fail
    refine (known_any _).mono ?_
    rintro e w4 ⟨rfl, hk⟩
    go_wp2_with fail
    go_ret
    exact ⟨rfl, (C.then hk fun i hi e => e).below (Nat.le_refl _) fun _ _ h => h⟩
  · go_enter Try.func7, Try.ntmps7
    go_wp2_with fail
    all_goals (go_ret; exact ⟨rfl, Below.refl _ _⟩)
end Go.Proofs.Ytnolhpblhndomaa.relayOld
