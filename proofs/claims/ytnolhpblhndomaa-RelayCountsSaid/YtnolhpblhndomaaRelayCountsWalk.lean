/-
  The walk of RelayCounts: it answers true, and turns nothing that was there. No condition.
-/
import Derived.Test.YtnolhpblhndomaaRelayRef
import Derived.Test.YtnolhpblhndomaaRelayStep
namespace Go.Proofs.Ytnolhpblhndomaa.relayCounts
open Go.ChangeShapes Go.WideShapes Go.ChangeAt Go.RowKit
set_option linter.unusedVariables false

set_option maxHeartbeats 4000000 in
set_option maxRecDepth 100000 in
theorem walk (w : World) (ao : Option Addr) (cap : Nat) (l : List Int) (hl : l.length ≤ cap) (hm : cap ≤ maxLen) (hr : ∀ a ∈ l, (Lit.int .i64 a).wf = true) (hc : Cells w ao (l.flatMap fInt)) :
    Calls Try.prog 4 #[.slice ao l.length cap] w fun e w' => e = .returned (.bool true) ∧ Below w.heap.size w w' := by
  clear hr
  have hlen : l.length ≤ 9223372036854775807 := by unfold maxLen at hm; omega
  clear hm
  by_cases hg : l.length ≤ 40
  · go_enter Try.func4, Try.ntmps4
    go_wp2_with fail
    refine (relay_new _).mono ?_
    rintro e w1 ⟨rfl, R, C⟩
    go_wp2_with fail
    refine (step_begin (s' := ⟨1, -1, -1, 0, 0, 0, 0⟩) _ _ _ _ R St.new_ok (by decide)).mono ?_
    clear R
    rintro e w2 ⟨rfl, R, C2⟩
    replace C := C.then C2 fun i hi e => by omega
    clear C2
    go_wp2_with fail
    refine (step_ask (s' := ⟨1, 1, -1, 1, 0, 1, 0⟩) (e := 1) (l := 0) (r := 0) _ _ _ _ _ R (by first | decide | (dsimp only; omega)) (by first | decide | (dsimp only; omega)) (by decide)).mono ?_
    clear R
    rintro e w2 ⟨rfl, R, C2⟩
    replace C := C.then C2 fun i hi e => by omega
    clear C2
    go_wp2_with fail
    go_loopw [5, 7] (fun L i wr => ∃ (k : Nat) (x c : Int), k ≤ l.length ∧ i = .int .i64 k ∧ L = .int .i64 x ∧ Ch (fun _ => False) w wr ∧ RelayAt wr w.heap.size ⟨1 + k, 1, c, 1 + k, 0, 1, x⟩) (fun _ i _ => (l.length - intOf i).toNat)
    case atStart => exact ⟨0, 0, -1, by omega, rfl, rfl, C, R⟩
    case round =>
      clear R C
      obtain ⟨k, x, c, hk, rfl, rfl, C, R⟩ := hrel
      by_cases hkl : k < l.length
      · obtain ⟨b, off, rfl, hblt, x0⟩ := int_cell hc hkl
        clear hc
        replace x0 := ((C.below (Nat.le_refl _) fun _ _ h => h).cell (p := ⟨b, off + k, none⟩) hblt).trans x0
        generalize l[k] = q at *
        obtain ⟨n, hn', hn0⟩ : ∃ n, bits BinOp.and IntKind.i64 q 65535 = n ∧ 0 ≤ n := ⟨_, i64_and65535 q, by omega⟩
        go_wp2_with fail
        refine (step_begin (s' := ⟨2 + k, 1, -1, 1 + k, 0, 1, x⟩) _ _ _ _ R (by constructor <;> simp <;> omega) (by unfold St.begin; rw [if_neg (by dsimp only; omega), if_neg (by dsimp only; omega)])).mono ?_
        clear R
        rintro e w2 ⟨rfl, R, C2⟩
        replace C := C.then C2 fun i hi e => by omega
        clear C2
        go_wp2_with fail
        refine (step_ask (s' := ⟨2 + k, 1, 1, 2 + k, 0, 1, n⟩) (e := 1) (l := x) (r := 0) _ _ _ _ _ R (by first | decide | (dsimp only; omega)) (by first | decide | (dsimp only; omega)) (by unfold St.ask; rw [if_neg (by omega), if_pos rfl])).mono ?_
        clear R
        rintro e w2 ⟨rfl, R, C2⟩
        replace C := C.then C2 fun i hi e => by omega
        clear C2
        clear hn'
        go_wp2_with fail
        refine (relay_con _ _ _ R).mono ?_
        rintro e w3 ⟨rfl, rfl⟩
        go_wp2_with fail
        go_roundw
        case rel => exact ⟨k + 1, n, 1, by omega, by go_num, rfl, C, by rw [show (1 : Int) + ((k + 1 : Nat) : Int) = 2 + k by omega]; exact R⟩
        case measure => simp [intOf]; omega
      · clear hc
        go_wp2_with fail
        refine (known_any _).mono ?_
        rintro e w4 ⟨rfl, hk⟩
        go_wp2_with fail
        go_ret
        exact ⟨rfl, (C.then hk fun i hi e => e).below (Nat.le_refl _) fun _ _ h => h⟩
  · go_enter Try.func4, Try.ntmps4
    go_wp2_with fail
    all_goals (go_ret; exact ⟨rfl, Below.refl _ _⟩)
end Go.Proofs.Ytnolhpblhndomaa.relayCounts
