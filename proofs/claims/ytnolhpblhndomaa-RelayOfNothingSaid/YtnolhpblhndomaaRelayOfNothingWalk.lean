/-
  The walk of RelayOfNothing: it answers true, and turns nothing that was there. No condition.
-/
import Derived.Test.YtnolhpblhndomaaRelayRef
import Derived.Test.YtnolhpblhndomaaRelayStep
namespace Go.Proofs.Ytnolhpblhndomaa.relayOfNothing
open Go.ChangeShapes Go.WideShapes Go.ChangeAt Go.RowKit
set_option linter.unusedVariables false

set_option maxHeartbeats 2000000 in
theorem walk (w : World) (u : Int) (w0 : (Lit.int .i64 u).wf = true) (c : Int) (w1 : (Lit.int .i64 c).wf = true) :
    Calls Try.prog 11 #[.int .i64 u, .int .i64 c] w fun e w' => e = .returned (.bool true) ∧ Below w.heap.size w w' := by
  clear w0 w1
  go_enter Try.func11, Try.ntmps11
  go_wp2_with fail
  refine (begin_nil _ _).mono ?_
  rintro e w3 ⟨rfl, rfl⟩
  go_wp2_with fail
  refine (ask_nil _ _ _).mono ?_
  rintro e w3 ⟨rfl, rfl⟩
  go_wp2_with fail
  refine (relay_new _).mono ?_
  rintro e w1 ⟨rfl, R, C⟩
  go_wp2_with fail
  refine (step_ask (s' := St.new) (e := 0) (l := 0) (r := 1) _ _ _ _ _ R (by first | decide | (dsimp only; omega)) (by first | decide | (dsimp only; omega)) (by simp [St.ask])).mono ?_
  clear R
  rintro e w2 ⟨rfl, R, C2⟩
  replace C := C.then C2 fun i hi e => by omega
  clear C2
  go_wp2_with fail
  refine (step_ask (s' := St.new) (e := 0) (l := 0) (r := 1) _ _ _ _ _ R (by first | decide | (dsimp only; omega)) (by first | decide | (dsimp only; omega)) (by simp [St.ask])).mono ?_
  clear R
  rintro e w2 ⟨rfl, R, C2⟩
  replace C := C.then C2 fun i hi e => by omega
  clear C2
  go_wp2_with fail
  refine (step_ask (s' := St.new) (e := 0) (l := 0) (r := 1) _ _ _ _ _ R (by first | decide | (dsimp only; omega)) (by first | decide | (dsimp only; omega)) (by simp [St.ask])).mono ?_
  clear R
  rintro e w2 ⟨rfl, R, C2⟩
  replace C := C.then C2 fun i hi e => by omega
  clear C2
  go_wp2_with fail
  refine (yield_nil _ _).mono ?_
  rintro e w3 ⟨rfl, rfl⟩
  go_wp2_with fail
  refine (own_nil _).mono ?_
  rintro e w3 ⟨rfl, rfl⟩
  go_wp2_with fail
  refine (con_nil _).mono ?_
  rintro e w3 ⟨rfl, rfl⟩
  go_wp2_with fail
  refine (epoch_nil _).mono ?_
  rintro e w3 ⟨rfl, rfl⟩
  go_wp2_with fail
  refine (relay_own _ _ _ R).mono ?_
  rintro e w3 ⟨rfl, rfl⟩
  go_wp2_with fail
  refine (known_any _).mono ?_
  rintro e w4 ⟨rfl, hk⟩
  go_wp2_with fail
  go_ret
  exact ⟨rfl, (C.then hk fun i hi e => e).below (Nat.le_refl _) fun _ _ h => h⟩
end Go.Proofs.Ytnolhpblhndomaa.relayOfNothing
