/-
  The walk of RelayLets: it answers true, and turns nothing that was there. No condition.
-/
import Derived.Test.YtnolhpblhndomaaRelayRef
import Derived.Test.YtnolhpblhndomaaRelayStep
namespace Go.Proofs.Ytnolhpblhndomaa.relayLets
open Go.ChangeShapes Go.WideShapes Go.ChangeAt Go.RowKit
set_option linter.unusedVariables false

/-- How the Relay stands m cycles behind the last ask. -/
def Lets (N a : Int) (m : Nat) (s : St) : Prop :=
  (m ≤ 7 ∧ ∃ c, s = ⟨N + m, 0, c, N, 0, 1, a⟩) ∨ (8 ≤ m ∧ m ≤ 9 ∧ s = ⟨N + m, -1, -1, N, N + 10, 1, a⟩) ∨ (10 ≤ m ∧ ∃ c x, s = ⟨N + m, 1, c, N + m, N + 10, 2, x⟩)

set_option maxHeartbeats 8000000 in
set_option maxRecDepth 100000 in
theorem walk (w : World) (a : Int) (w0 : (Lit.int .i64 a).wf = true) (t : Int) (w1 : (Lit.int .i64 t).wf = true) :
    Calls Try.prog 3 #[.int .i64 a, .int .i64 t] w fun e w' => e = .returned (.bool true) ∧ Below w.heap.size w w' := by
  clear w0 w1
  by_cases hg : 0 ≤ a ∧ a ≤ 10 ∧ 1 ≤ t ∧ t ≤ 20
  · obtain ⟨h0, h1, h2, h3⟩ := hg
    go_enter Try.func3, Try.ntmps3
    go_wp2_with fail
    refine (relay_new _).mono ?_
    rintro e w1 ⟨rfl, R, C⟩
    go_wp2_with fail
    go_loopw [6, 7] (fun p i wr => ∃ (k : Nat) (c : Int) (s : St), (k : Int) ≤ a + 1 ∧ i = .int .i64 k ∧ p = .int .i64 k ∧ Ch (fun _ => False) w wr ∧ RelayAt wr w.heap.size s ∧ (k = 0 ∧ s = St.new ∨ 1 ≤ k ∧ s = ⟨k, 0, c, k, 0, 1, k - 1⟩)) (fun _ i _ => (a + 1 - intOf i).toNat)
    case atStart => exact ⟨0, 0, _, by omega, rfl, rfl, C, R, .inl ⟨rfl, rfl⟩⟩
    case round =>
      clear R C
      obtain ⟨k, c, s, hk, rfl, rfl, C, R, hs⟩ := hrel
      by_cases hkl : (k : Int) ≤ a
      · rcases hs with ⟨rfl, rfl⟩ | ⟨hk1, rfl⟩
        · clear hk hkl
          go_wp2_with fail
          refine (step_begin (s' := ⟨1, -1, -1, 0, 0, 0, 0⟩) _ _ _ _ R St.new_ok (by decide)).mono ?_
          clear R
          rintro e w2 ⟨rfl, R, C2⟩
          replace C := C.then C2 fun i hi e => by omega
          clear C2
          go_wp2_with fail
          refine (step_ask (s' := ⟨1, 0, -1, 1, 0, 1, 0⟩) (e := 1) (l := 0) (r := 0) _ _ _ _ _ R (by first | decide | (dsimp only; omega)) (by first | decide | (dsimp only; omega)) (by decide)).mono ?_
          clear R
          rintro e w2 ⟨rfl, R, C2⟩
          replace C := C.then C2 fun i hi e => by omega
          clear C2
          go_wp2_with fail
          refine (relay_con _ _ _ R).mono ?_
          rintro e w3 ⟨rfl, rfl⟩
          go_wp2_with fail
          go_roundw
          case rel => exact ⟨1, -1, _, by omega, rfl, rfl, C, R, .inr ⟨by omega, by rfl⟩⟩
          case measure => simp [intOf]; omega
        · have hkn : (k : Int) ≤ 1000000 := by omega
          have hk0 : (0 : Int) < k := by omega
          have hkd : decide (0 < k) = true := by simp; omega
          go_wp2_with fail
          refine (step_begin (s' := ⟨k + 1, 0, -1, k, 0, 1, k - 1⟩) _ _ _ _ R (by constructor <;> simp <;> omega) (by unfold St.begin; rw [if_neg (by dsimp only; omega), if_neg (by dsimp only; omega)])).mono ?_
          clear R
          rintro e w2 ⟨rfl, R, C2⟩
          replace C := C.then C2 fun i hi e => by omega
          clear C2
          go_wp2_with fail
          refine (step_ask (s' := ⟨k + 1, 0, 0, k + 1, 0, 1, k⟩) (e := 1) (l := (k - 1)) (r := 0) _ _ _ _ _ R (by first | decide | (dsimp only; omega)) (by first | decide | (dsimp only; omega)) (by unfold St.ask; rw [if_neg (by omega), if_pos rfl])).mono ?_
          clear R
          rintro e w2 ⟨rfl, R, C2⟩
          replace C := C.then C2 fun i hi e => by omega
          clear C2
          go_wp2_with fail
          refine (relay_con _ _ _ R).mono ?_
          rintro e w3 ⟨rfl, rfl⟩
          go_wp2_with fail
          go_roundw
          case rel => exact ⟨k + 1, 0, _, by omega, by go_num, by go_num, C, R, .inr ⟨by omega, by simp⟩⟩
          case measure => simp [intOf]; omega
      · have hka : a = (k : Int) - 1 := by omega
        subst hka
        obtain ⟨hk1, rfl⟩ : 1 ≤ k ∧ s = ⟨k, 0, c, k, 0, 1, k - 1⟩ := hs.resolve_left (fun h => by have := h.1; omega)
        clear hs hk hkl
        go_wp2_with fail
        go_loopw [11] (fun i wr => ∃ (m : Nat) (s : St), (m : Int) ≤ t ∧ i = .int .i64 (1 + m) ∧ Ch (fun _ => False) w wr ∧ RelayAt wr w.heap.size s ∧ Lets k (k - 1) m s) (fun i _ => (t + 1 - intOf i).toNat)
        case atStart => exact ⟨0, _, by omega, rfl, C, R, .inl ⟨by omega, c, by simp⟩⟩
        case round =>
          clear R C
          obtain ⟨m, s, hm, rfl, C, R, hs⟩ := hrel
          by_cases hml : (m : Int) + 1 ≤ t
          · rcases hs with ⟨h7, c, rfl⟩ | ⟨h8, h9, rfl⟩ | ⟨h10, c, x, rfl⟩
            · by_cases h6 : m ≤ 6
              · skip
                go_wp2_with fail
                refine (step_begin (s' := ⟨k + (1 + m), 0, -1, k, 0, 1, k - 1⟩) _ _ _ _ R (by constructor <;> simp <;> omega) (by unfold St.begin; rw [if_neg (by dsimp only; omega), if_neg (by dsimp only; omega)])).mono ?_
                clear R
                rintro e w2 ⟨rfl, R, C2⟩
                replace C := C.then C2 fun i hi e => by omega
                clear C2
                go_wp2_with fail
                refine (step_ask (s' := ⟨k + (1 + m), 0, -1, k, 0, 1, k - 1⟩) (e := 0) (l := 0) (r := 8) _ _ _ _ _ R (by first | decide | (dsimp only; omega)) (by first | decide | (dsimp only; omega)) (by unfold St.ask; rw [if_neg (by omega), if_neg (by dsimp only; omega), if_neg (by dsimp only; omega)])).mono ?_
                clear R
                rintro e w2 ⟨rfl, R, C2⟩
                replace C := C.then C2 fun i hi e => by omega
                clear C2
                go_wp2_with fail
                go_roundw
                case rel => exact ⟨m + 1, _, by omega, by go_num, C, R, .inl ⟨by omega, -1, by simp; omega⟩⟩
                case measure => simp [intOf]; omega
              · obtain rfl : m = 7 := by omega
                go_wp2_with fail
                refine (step_begin (s' := ⟨k + 8, -1, -1, k, k + 10, 1, k - 1⟩) _ _ _ _ R (by constructor <;> simp <;> omega) (by unfold St.begin; rw [if_neg (by dsimp only; omega), if_pos (by dsimp only; omega)]; congr 1 <;> omega)).mono ?_
                clear R
                rintro e w2 ⟨rfl, R, C2⟩
                replace C := C.then C2 fun i hi e => by omega
                clear C2
                go_wp2_with fail
                refine (step_ask (s' := ⟨k + 8, -1, -1, k, k + 10, 1, k - 1⟩) (e := 0) (l := 0) (r := 8) _ _ _ _ _ R (by first | decide | (dsimp only; omega)) (by first | decide | (dsimp only; omega)) (by unfold St.ask; rw [if_neg (by omega), if_neg (by dsimp only; omega), if_neg (by dsimp only; omega)])).mono ?_
                clear R
                rintro e w2 ⟨rfl, R, C2⟩
                replace C := C.then C2 fun i hi e => by omega
                clear C2
                go_wp2_with fail
                go_roundw
                case rel => exact ⟨8, _, by omega, by go_num, C, R, .inr (.inl ⟨by omega, by omega, by simp⟩)⟩
                case measure => simp [intOf]; omega
            · rcases (show m = 8 ∨ m = 9 by omega) with rfl | rfl
              · skip
                go_wp2_with fail
                refine (step_begin (s' := ⟨k + 9, -1, -1, k, k + 10, 1, k - 1⟩) _ _ _ _ R (by constructor <;> simp <;> omega) (by unfold St.begin; rw [if_neg (by dsimp only; omega), if_neg (by simp)])).mono ?_
                clear R
                rintro e w2 ⟨rfl, R, C2⟩
                replace C := C.then C2 fun i hi e => by omega
                clear C2
                go_wp2_with fail
                refine (step_ask (s' := ⟨k + 9, -1, -1, k, k + 10, 1, k - 1⟩) (e := 0) (l := 0) (r := 8) _ _ _ _ _ R (by first | decide | (dsimp only; omega)) (by first | decide | (dsimp only; omega)) (by unfold St.ask; rw [if_neg (by omega), if_neg (by dsimp only; omega), if_neg (by dsimp only; omega)])).mono ?_
                clear R
                rintro e w2 ⟨rfl, R, C2⟩
                replace C := C.then C2 fun i hi e => by omega
                clear C2
                go_wp2_with fail
                go_roundw
                case rel => exact ⟨9, _, by omega, by go_num, C, R, .inr (.inl ⟨by omega, by omega, by simp⟩)⟩
                case measure => simp [intOf]; omega
              · skip
                go_wp2_with fail
                refine (step_begin (s' := ⟨k + 10, -1, -1, k, k + 10, 1, k - 1⟩) _ _ _ _ R (by constructor <;> simp <;> omega) (by unfold St.begin; rw [if_neg (by dsimp only; omega), if_neg (by simp)])).mono ?_
                clear R
                rintro e w2 ⟨rfl, R, C2⟩
                replace C := C.then C2 fun i hi e => by omega
                clear C2
                go_wp2_with fail
                refine (step_ask (s' := ⟨k + 10, 1, -1, k + 10, k + 10, 2, k - 1⟩) (e := 2) (l := (k - 1)) (r := 0) _ _ _ _ _ R (by first | decide | (dsimp only; omega)) (by first | decide | (dsimp only; omega)) (by unfold St.ask; rw [if_neg (by omega), if_neg (by dsimp only; omega), if_pos (by dsimp only; omega)]; rfl)).mono ?_
                clear R
                rintro e w2 ⟨rfl, R, C2⟩
                replace C := C.then C2 fun i hi e => by omega
                clear C2
                go_wp2_with fail
                refine (relay_own _ _ _ R).mono ?_
                rintro e w3 ⟨rfl, rfl⟩
                go_wp2_with fail
                refine (relay_con _ _ _ R).mono ?_
                rintro e w3 ⟨rfl, rfl⟩
                go_wp2_with fail
                go_roundw
                case rel => exact ⟨10, _, by omega, by go_num, C, R, .inr (.inr ⟨by omega, -1, k - 1, by simp⟩)⟩
                case measure => simp [intOf]; omega
            · have hm10 : (10 : Int) ≤ m := by omega
              go_wp2_with fail
              refine (step_begin (s' := ⟨k + (1 + m), 1, -1, k + m, k + 10, 2, x⟩) _ _ _ _ R (by constructor <;> simp <;> omega) (by unfold St.begin; rw [if_neg (by dsimp only; omega), if_neg (by dsimp only; omega)])).mono ?_
              clear R
              rintro e w2 ⟨rfl, R, C2⟩
              replace C := C.then C2 fun i hi e => by omega
              clear C2
              go_wp2_with fail
              refine (step_ask (s' := ⟨k + (1 + m), 1, 1, k + (1 + m), k + 10, 2, 50⟩) (e := 2) (l := x) (r := 0) _ _ _ _ _ R (by first | decide | (dsimp only; omega)) (by first | decide | (dsimp only; omega)) (by unfold St.ask; rw [if_neg (by omega), if_pos rfl])).mono ?_
              clear R
              rintro e w2 ⟨rfl, R, C2⟩
              replace C := C.then C2 fun i hi e => by omega
              clear C2
              go_wp2_with fail
              refine (relay_own _ _ _ R).mono ?_
              rintro e w3 ⟨rfl, rfl⟩
              go_wp2_with fail
              go_roundw
              case rel => exact ⟨m + 1, _, by omega, by go_num, C, R, .inr (.inr ⟨by omega, 1, 50, by simp; omega⟩)⟩
              case measure => simp [intOf]; omega
          · clear hs
            go_wp2_with fail
            refine (known_any _).mono ?_
            rintro e w4 ⟨rfl, hk⟩
            go_wp2_with fail
            go_ret
            exact ⟨rfl, (C.then hk fun i hi e => e).below (Nat.le_refl _) fun _ _ h => h⟩
  · go_enter Try.func3, Try.ntmps3
    go_wp2_with fail
    all_goals (go_ret; exact ⟨rfl, Below.refl _ _⟩)
end Go.Proofs.Ytnolhpblhndomaa.relayLets
