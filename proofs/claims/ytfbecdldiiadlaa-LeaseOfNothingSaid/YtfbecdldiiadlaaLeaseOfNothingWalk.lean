/-
  The walk of LeaseOfNothing: it answers true, and turns nothing that was there. No condition.
-/
import Derived.Test.YtfbecdldiiadlaaFns
namespace Go.Proofs.Ytfbecdldiiadlaa.leaseOfNothing
open Go.ChangeShapes Go.WideShapes Go.ChangeAt Go.RowKit
set_option linter.unusedVariables false

theorem walk (w : World) (t : Int) (w0 : (Lit.int .i64 t).wf = true) :
    Calls Try.prog 6 #[.int .i64 t] w fun e w' => e = .returned (.bool true) ∧ Below w.heap.size w w' := by
  clear w0
  have l1 : live 0 false t = false := rfl
  go_enter Try.func6, Try.ntmps6
  go_wp2_with fail
  refine (grant_nil _ _ _ (by omega) (by omega)).mono ?_
  rintro e w1 ⟨rfl, rfl⟩
  go_wp2_with fail
  refine (drop_nil _).mono ?_
  rintro e w1 ⟨rfl, rfl⟩
  go_wp2_with fail
  refine (new_any _).mono ?_
  rintro e w1 ⟨rfl, rfl⟩
  have hn : LeaseAt 41 _ _ _ _ _ := Blk.new w1 41 #[.int .i64 0, .int .i64 0, .bool false]
  go_wp2_with fail
  refine (live_nil _ _).mono ?_
  rintro e w2 ⟨rfl, rfl⟩
  go_wp2_with fail
  refine (epoch_nil _).mono ?_
  rintro e w2 ⟨rfl, rfl⟩
  go_wp2_with fail
  refine (live_any _ _ _ _ _ _ hn).mono ?_
  rintro e w2 ⟨rfl, rfl⟩
  go_wp2_with fail
  refine (epoch_any _ _ _ _ _ hn).mono ?_
  rintro e w2 ⟨rfl, rfl⟩
  go_wp2_with fail
  refine (known_any _).mono ?_
  rintro e w6 ⟨rfl, hk⟩
  go_wp2_with fail
  go_ret
  exact ⟨rfl, (((Ch.refl (fun _ => False) w1).alloc _).then hk fun i hi e => e).below (Nat.le_refl _) fun _ _ h => h⟩
end Go.Proofs.Ytfbecdldiiadlaa.leaseOfNothing
