/-
  The walk of LeaseEnds: it answers true, and turns nothing that was there. No condition.
-/
import Derived.Test.YtfbecdldiiadlaaFns
namespace Go.Proofs.Ytfbecdldiiadlaa.leaseEnds
open Go.ChangeShapes Go.WideShapes Go.ChangeAt Go.RowKit
set_option linter.unusedVariables false

theorem walk (w : World) (t : Int) (w0 : (Lit.int .i64 t).wf = true) (m : Int) (w1 : (Lit.int .i64 m).wf = true) :
    Calls Try.prog 5 #[.int .i64 t, .int .i64 m] w fun e w' => e = .returned (.bool true) ∧ Below w.heap.size w w' := by
  clear w0 w1
  by_cases hg : 0 ≤ t ∧ t ≤ 1000000 ∧ 0 ≤ m ∧ m ≤ 20
  · obtain ⟨h0, h1, h2, h3⟩ := hg
    have l1 : live (t + 8 - 3) true (t + m) = decide (m < 5) := by unfold live; simp; omega
    have l2 : live (t + m + 8 - 3) true (t + m) = true := by unfold live; simp; omega
    have l3 : live (t + m + 8 - 3) true (t + m + 8 - 3) = false := by unfold live; simp
    have l4 : live (t + m + 8 - 3) false t = false := rfl
    have l5 : live (t + m + 8 - 3) false (t + m) = false := rfl
    go_enter Try.func5, Try.ntmps5
    go_wp2_with fail
    refine (new_any _).mono ?_
    rintro e w1 ⟨rfl, rfl⟩
    go_wp2_with fail
    refine (grant_any _ _ _ _ _ _ _ (Blk.new _ _ _) (by omega) (by omega)).mono ?_
    rintro e w1 ⟨rfl, h, hc⟩
    go_wp2_with fail
    refine (live_any _ _ _ _ _ _ h).mono ?_
    rintro e w2 ⟨rfl, rfl⟩
    go_wp2_with fail
    refine (grant_any _ _ _ _ _ _ _ h (by omega) (by omega)).mono ?_
    rintro e w3 ⟨rfl, h', hc'⟩
    go_wp2_with fail
    refine (live_any _ _ _ _ _ _ h').mono ?_
    rintro e w4 ⟨rfl, rfl⟩
    go_wp2_with fail
    refine (live_any _ _ _ _ _ _ h').mono ?_
    rintro e w4 ⟨rfl, rfl⟩
    go_wp2_with fail
    refine (drop_any _ _ _ _ _ h').mono ?_
    rintro e w5 ⟨rfl, h'', hc''⟩
    go_wp2_with fail
    refine (live_any _ _ _ _ _ _ h'').mono ?_
    rintro e w4 ⟨rfl, rfl⟩
    go_wp2_with fail
    refine (live_any _ _ _ _ _ _ h'').mono ?_
    rintro e w4 ⟨rfl, rfl⟩
    go_wp2_with fail
    refine (epoch_any _ _ _ _ _ h'').mono ?_
    rintro e w4 ⟨rfl, rfl⟩
    go_wp2_with fail
    refine (known_any _).mono ?_
    rintro e w6 ⟨rfl, hk⟩
    go_wp2_with fail
    go_ret
    have c1 := ((Ch.refl (fun _ => False) w).alloc (.cells #[.int .i64 0, .int .i64 0, .bool false] 41)).then hc (fun i hi e => by omega)
    exact ⟨rfl, ((((c1.then hc' fun i hi e => by omega).then hc'' fun i hi e => by omega).then hk fun i hi e => e).below (Nat.le_refl _) fun _ _ h => h)⟩
  · go_enter Try.func5, Try.ntmps5
    go_wp2_with fail
    all_goals (go_ret; exact ⟨rfl, Below.refl _ _⟩)
end Go.Proofs.Ytfbecdldiiadlaa.leaseEnds
