/-
  The walk of RelayRises: it answers true, and turns nothing that was there. No condition.
-/
import Derived.Test.YtnolhpblhndomaaRelayRef
import Derived.Test.YtnolhpblhndomaaRelayStep
namespace Go.Proofs.Ytnolhpblhndomaa.relayRises
open Go.ChangeShapes Go.WideShapes Go.ChangeAt Go.RowKit
set_option linter.unusedVariables false

set_option maxHeartbeats 4000000 in
set_option maxRecDepth 100000 in
theorem walk (w : World) (ao : Option Addr) (cap : Nat) (l : List Int) (hl : l.length ≤ cap) (hm : cap ≤ maxLen) (hr : ∀ a ∈ l, (Lit.int .i64 a).wf = true) (hc : Cells w ao (l.flatMap fInt)) :
    Calls Try.prog 12 #[.slice ao l.length cap] w fun e w' => e = .returned (.bool true) ∧ Below w.heap.size w w' := by
  clear hr
  have hlen : l.length ≤ 9223372036854775807 := by unfold maxLen at hm; omega
  clear hm
  by_cases hg : l.length ≤ 30
  · go_enter Try.func12, Try.ntmps12
    go_wp2_with fail
    refine (relay_new _).mono ?_
    rintro e w1 ⟨rfl, R, C⟩
    go_wp2_with fail
    go_loopw [4, 5] (fun p i wr => ∃ (k : Nat) (n c a f x : Int), k ≤ l.length ∧ i = .int .i64 k ∧ p = .int .i64 (1 + 2 * k) ∧ 0 ≤ n ∧ n < 1 + 2 * k ∧ 0 ≤ a ∧ a ≤ n ∧ f ≤ 1 + 2 * k ∧ Ch (fun _ => False) w wr ∧ RelayAt wr w.heap.size ⟨n, -1, c, a, f, k, x⟩) (fun _ i _ => (l.length - intOf i).toNat)
    case atStart => exact ⟨0, 0, -1, 0, 0, 0, by omega, rfl, by go_num, by omega, by omega, by omega, by omega, by omega, C, R⟩
    case round =>
      clear R C
      obtain ⟨k, n, c, a, f, x, hk, rfl, rfl, hn0, hn1, ha0, ha1, hf, C, R⟩ := hrel
      by_cases hkl : k < l.length
      · obtain ⟨b, off, rfl, hblt, x0⟩ := int_cell hc hkl
        clear hc
        replace x0 := ((C.below (Nat.le_refl _) fun _ _ h => h).cell (p := ⟨b, off + k, none⟩) hblt).trans x0
        generalize l[k] = q at *
        obtain ⟨u, hu, hu0, hu1⟩ : ∃ u, bits BinOp.and IntKind.i64 q 1 = u ∧ 0 ≤ u ∧ u ≤ 1 := ⟨_, i64_and1 q, by omega, by omega⟩
        go_wp2_with fail
        refine (step_begin (s' := ⟨1 + 2 * k, -1, -1, a, f, k, x⟩) _ _ _ _ R (by constructor <;> simp <;> omega) (by unfold St.begin; rw [if_neg (by dsimp only; omega), if_neg (by simp)])).mono ?_
        clear R
        rintro e w2 ⟨rfl, R, C2⟩
        replace C := C.then C2 fun i hi e => by omega
        clear C2
        go_wp2_with fail
        refine (step_ask (s' := ⟨1 + 2 * k, u, -1, 1 + 2 * k, f, k + 1, x⟩) (e := (k + 1)) (l := x) (r := 0) _ _ _ _ _ R (by first | decide | (dsimp only; omega)) (by first | decide | (dsimp only; omega)) (by unfold St.ask; rw [if_neg (by omega), if_neg (by dsimp only; omega), if_pos (by dsimp only; omega)])).mono ?_
        clear R
        rintro e w2 ⟨rfl, R, C2⟩
        replace C := C.then C2 fun i hi e => by omega
        clear C2
        clear hu
        have e1 : ((k : Int) + 1 != k + 1) = false := by simp
        go_wp2_with fail
        refine (relay_epoch _ _ _ R).mono ?_
        rintro e w3 ⟨rfl, rfl⟩
        go_wp2_with fail
        refine (relay_own _ _ _ R).mono ?_
        rintro e w3 ⟨rfl, rfl⟩
        go_wp2_with fail
        refine (step_yield (s' := ⟨1 + 2 * k, -1, -1, 1 + 2 * k, 1 + 2 * k + 2, k + 1, x⟩) (r := 0) _ _ _ _ R (by first | decide | (dsimp only; omega)) (by first | decide | (dsimp only; omega)) (by unfold St.yield; rw [if_neg (by dsimp only; omega)])).mono ?_
        clear R
        rintro e w2 ⟨rfl, R, C2⟩
        replace C := C.then C2 fun i hi e => by omega
        clear C2
        go_wp2_with fail
        go_roundw
        case rel => exact ⟨k + 1, 1 + 2 * k, -1, 1 + 2 * k, 1 + 2 * k + 2, x, by omega, by go_num, by go_num, by omega, by omega, by omega, by omega, by omega, C, by rw [show ((k + 1 : Nat) : Int) = (k : Int) + 1 by omega]; exact R⟩
        case measure => simp [intOf]; omega
      · clear hc
        go_wp2_with fail
        refine (known_any _).mono ?_
        rintro e w4 ⟨rfl, hk⟩
        go_wp2_with fail
        go_ret
        exact ⟨rfl, (C.then hk fun i hi e => e).below (Nat.le_refl _) fun _ _ h => h⟩
  · go_enter Try.func12, Try.ntmps12
    go_wp2_with fail
    all_goals (go_ret; exact ⟨rfl, Below.refl _ _⟩)
end Go.Proofs.Ytnolhpblhndomaa.relayRises
