/-
  The walk of RelayOne: it answers true, and turns nothing that was there. No condition.
-/
import Derived.Test.YtnolhpblhndomaaRelayRef
import Derived.Test.YtnolhpblhndomaaRelayStep
import Derived.StillTailTactics
namespace Go.Proofs.Ytnolhpblhndomaa.relayOne
open Go.ChangeShapes Go.WideShapes Go.ChangeAt Go.RowKit
set_option linter.unusedVariables false

set_option maxHeartbeats 16000000 in
set_option maxRecDepth 100000 in
theorem walk (w : World) (ao : Option Addr) (cap : Nat) (l : List (Int × Int × Int)) (hl : l.length ≤ cap) (hm : cap ≤ maxLen) (hr : ∀ a ∈ l, (Lit.int .i64 a.1).wf = true ∧ (Lit.int .i64 a.2.1).wf = true ∧ (Lit.int .i64 a.2.2).wf = true) (hc : Cells w ao (l.flatMap fAct)) :
    Calls Try.prog 10 #[.slice ao l.length cap] w fun e w' => e = .returned (.bool true) ∧ Below w.heap.size w w' := by
  clear hr
  have hlen : l.length ≤ 9223372036854775807 := by unfold maxLen at hm; omega
  clear hm
  by_cases hg : l.length ≤ 10000
  · go_enter Try.func10, Try.ntmps10
    go_wp2_with fail
    refine (relay_new _).mono ?_
    rintro e w1 ⟨rfl, R, C⟩
    go_wp2_with fail
    go_loopw [4, 5, 6, 7] (fun p q e i wr => ∃ (k : Nat) (n : Int) (s : St), k ≤ l.length ∧ (k : Int) ≤ 80 ∧ i = .int .i64 k ∧ p = .int .i64 n ∧ q = .int .i64 s.own ∧ e = .int .i64 s.epoch ∧ 0 ≤ n ∧ n ≤ 16 * k ∧ Ch (fun _ => False) w wr ∧ RelayAt wr w.heap.size s ∧ s.Ok ∧ One s ∧ s.epoch ≤ k) (fun _ _ _ i _ => (l.length - intOf i).toNat)
    case atStart => exact ⟨0, 0, _, by omega, by omega, rfl, rfl, rfl, rfl, by omega, by omega, C, R, St.new_ok, .inl rfl, by decide⟩
    case round =>
      clear R C
      obtain ⟨k, n, s, hk, hk80, rfl, rfl, rfl, rfl, hn0, hn1, C, R, ok, one, hep⟩ := hrel
      by_cases hkl : k < l.length ∧ (k : Int) < 80
      · obtain ⟨hkl, hk8⟩ := hkl
        obtain ⟨b, off, rfl, hblt, x0, x1, x2⟩ := act_cell hc hkl
        clear hc
        replace x0 := ((C.below (Nat.le_refl _) fun _ _ h => h).cell (p := ⟨b, off + k * 3, none⟩) hblt).trans x0
        replace x1 := ((C.below (Nat.le_refl _) fun _ _ h => h).cell (p := ⟨b, off + k * 3 + 1, none⟩) hblt).trans x1
        replace x2 := ((C.below (Nat.le_refl _) fun _ _ h => h).cell (p := ⟨b, off + k * 3 + 2, none⟩) hblt).trans x2
        generalize l[k] = a at *
        obtain ⟨a0, a1, a2⟩ := a
        dsimp only at x0 x1 x2
        have hkl0 : (0 : Int) ≤ k := by omega
        have hkl1 : (k : Int) < l.length := by omega
        have he0 := ok.e0
        have ho0 := ok.o0
        by_cases h1 : a0 = 1
        · subst h1
          obtain ⟨m, hm, hm0, hm1⟩ : ∃ m, bits BinOp.and IntKind.i64 a2 15 = m ∧ 0 ≤ m ∧ m ≤ 15 := ⟨_, i64_and15 a2, by omega, by omega⟩
          obtain ⟨s2, hs2⟩ : ∃ s2, s.begin (n + m) = s2 := ⟨_, rfl⟩
          have ok2 : s2.Ok := hs2 ▸ St.begin_ok ok _
          have nx : Next s s2 := hs2 ▸ next_begin ok one _
          have HS := Lib.hid hs2
          clear hs2 one
          go_wp2_with fail
          refine (step_begin (s' := s2) _ _ _ _ R ok HS.out).mono ?_
          rintro e w3 ⟨rfl, R2, C2⟩
          replace C := C.then C2 fun i hi e => by omega
          clear C2 R ok hm x0 x1 x2 HS
          have ep2 : s2.epoch ≤ s.epoch + 1 := by rcases nx.2 with ⟨_, h⟩ | ⟨_, _, h⟩ | ⟨_, _, h⟩ <;> omega
          have p0 := ok2.o0
          have p1 := ok2.o1
          have p2 := ok2.e0
          have OK2 := Lib.hid ok2
          have ON2 := Lib.hid nx.1
          clear ok2
          rcases (show s2.con = -1 ∨ (s2.con ≠ -1 ∧ s2.con = s2.own) by rcases nx.1 with h | h <;> omega) with d1 | ⟨d1, d2⟩
          · skip
            have f1 : (s2.con == -1) = true := by simpa using d1
            have f2 : (s2.con != -1) = false := by simpa using d1
            clear d1
            rcases nx.2 with ⟨v0, v1⟩ | ⟨v0, v1, v2⟩ | ⟨v0, v1, v2⟩
            · skip
              have g0 : s2.own < 0 := by omega
              have g1 : decide (0 ≤ s2.own) = false := by simp; omega
              have g2 : s2.epoch ≤ s.epoch := by omega
              have g3 : s.epoch ≤ s2.epoch := by omega
              have V0 := Lib.hid v0
              have V1 := Lib.hid v1
              clear v0 v1 nx
              go_wp2_with fail
              refine (relay_own _ _ _ R2).mono ?_
              rintro e w5 ⟨rfl, rfl⟩
              go_wp2_with fail
              refine (relay_con _ _ _ R2).mono ?_
              rintro e w5 ⟨rfl, rfl⟩
              go_wp2_with fail
              refine (relay_epoch _ _ _ R2).mono ?_
              rintro e w5 ⟨rfl, rfl⟩
              go_wp2_with fail
              go_roundw
              case rel => exact ⟨k + 1, (n + m), s2, by omega, by omega, by go_num, by go_num, by rw [V0.out], by rw [V1.out], by omega, by omega, C, R2, OK2.out, ON2.out, by omega⟩
              case measure => simp [intOf]; omega
            · skip
              have g1 : (s2.own == s.own) = true := by simpa using v1
              have g4 : (s2.own != s.own) = false := by simpa using v1
              have g2 : s2.epoch ≤ s.epoch := by omega
              have g3 : s.epoch ≤ s2.epoch := by omega
              have V1 := Lib.hid v1
              have V2 := Lib.hid v2
              clear v1 v2 nx
              go_wp2_with fail
              refine (relay_own _ _ _ R2).mono ?_
              rintro e w5 ⟨rfl, rfl⟩
              go_wp2_with fail
              refine (relay_con _ _ _ R2).mono ?_
              rintro e w5 ⟨rfl, rfl⟩
              go_wp2_with fail
              refine (relay_epoch _ _ _ R2).mono ?_
              rintro e w5 ⟨rfl, rfl⟩
              go_wp2_with fail
              go_roundw
              case rel => exact ⟨k + 1, (n + m), s2, by omega, by omega, by go_num, by go_num, rfl, by rw [V2.out], by omega, by omega, C, R2, OK2.out, ON2.out, by omega⟩
              case measure => simp [intOf]; omega
            · skip
              have g1 : (s2.own == s.own) = false := by simpa using v1
              have g4 : (s2.own != s.own) = true := by simpa using v1
              have g2 : s.epoch < s2.epoch := by omega
              have g5 : (s2.epoch == s.epoch + 1) = true := by simpa using v2
              have g6 : (s2.epoch != s.epoch + 1) = false := by simpa using v2
              have V1 := Lib.hid v1
              have V2 := Lib.hid v2
              clear v1 v2 nx
              go_wp2_with fail
              refine (relay_own _ _ _ R2).mono ?_
              rintro e w5 ⟨rfl, rfl⟩
              go_wp2_with fail
              refine (relay_con _ _ _ R2).mono ?_
              rintro e w5 ⟨rfl, rfl⟩
              go_wp2_with fail
              refine (relay_epoch _ _ _ R2).mono ?_
              rintro e w5 ⟨rfl, rfl⟩
              go_wp2_with fail
              go_roundw
              case rel => exact ⟨k + 1, (n + m), s2, by omega, by omega, by go_num, by go_num, rfl, rfl, by omega, by omega, C, R2, OK2.out, ON2.out, by omega⟩
              case measure => simp [intOf]; omega
          · skip
            have f1 : (s2.con == -1) = false := by simpa using d1
            have f2 : (s2.con != -1) = true := by simpa using d1
            have f3 : (s2.con != s2.own) = false := by simpa using d2
            have f4 : (s2.con == s2.own) = true := by simpa using d2
            clear d1 d2
            rcases nx.2 with ⟨v0, v1⟩ | ⟨v0, v1, v2⟩ | ⟨v0, v1, v2⟩
            · skip
              have g0 : s2.own < 0 := by omega
              have g1 : decide (0 ≤ s2.own) = false := by simp; omega
              have g2 : s2.epoch ≤ s.epoch := by omega
              have g3 : s.epoch ≤ s2.epoch := by omega
              have V0 := Lib.hid v0
              have V1 := Lib.hid v1
              clear v0 v1 nx
              go_wp2_with fail
              refine (relay_own _ _ _ R2).mono ?_
              rintro e w5 ⟨rfl, rfl⟩
              go_wp2_with fail
              refine (relay_con _ _ _ R2).mono ?_
              rintro e w5 ⟨rfl, rfl⟩
              go_wp2_with fail
              refine (relay_epoch _ _ _ R2).mono ?_
              rintro e w5 ⟨rfl, rfl⟩
              go_wp2_with fail
              go_roundw
              case rel => exact ⟨k + 1, (n + m), s2, by omega, by omega, by go_num, by go_num, by rw [V0.out], by rw [V1.out], by omega, by omega, C, R2, OK2.out, ON2.out, by omega⟩
              case measure => simp [intOf]; omega
            · skip
              have g1 : (s2.own == s.own) = true := by simpa using v1
              have g4 : (s2.own != s.own) = false := by simpa using v1
              have g2 : s2.epoch ≤ s.epoch := by omega
              have g3 : s.epoch ≤ s2.epoch := by omega
              have V1 := Lib.hid v1
              have V2 := Lib.hid v2
              clear v1 v2 nx
              go_wp2_with fail
              refine (relay_own _ _ _ R2).mono ?_
              rintro e w5 ⟨rfl, rfl⟩
              go_wp2_with fail
              refine (relay_con _ _ _ R2).mono ?_
              rintro e w5 ⟨rfl, rfl⟩
              go_wp2_with fail
              refine (relay_epoch _ _ _ R2).mono ?_
              rintro e w5 ⟨rfl, rfl⟩
              go_wp2_with fail
              go_roundw
              case rel => exact ⟨k + 1, (n + m), s2, by omega, by omega, by go_num, by go_num, rfl, by rw [V2.out], by omega, by omega, C, R2, OK2.out, ON2.out, by omega⟩
              case measure => simp [intOf]; omega
            · skip
              have g1 : (s2.own == s.own) = false := by simpa using v1
              have g4 : (s2.own != s.own) = true := by simpa using v1
              have g2 : s.epoch < s2.epoch := by omega
              have g5 : (s2.epoch == s.epoch + 1) = true := by simpa using v2
              have g6 : (s2.epoch != s.epoch + 1) = false := by simpa using v2
              have V1 := Lib.hid v1
              have V2 := Lib.hid v2
              clear v1 v2 nx
              go_wp2_with fail
              refine (relay_own _ _ _ R2).mono ?_
              rintro e w5 ⟨rfl, rfl⟩
              go_wp2_with fail
              refine (relay_con _ _ _ R2).mono ?_
              rintro e w5 ⟨rfl, rfl⟩
              go_wp2_with fail
              refine (relay_epoch _ _ _ R2).mono ?_
              rintro e w5 ⟨rfl, rfl⟩
              go_wp2_with fail
              go_roundw
              case rel => exact ⟨k + 1, (n + m), s2, by omega, by omega, by go_num, by go_num, rfl, rfl, by omega, by omega, C, R2, OK2.out, ON2.out, by omega⟩
              case measure => simp [intOf]; omega
        · by_cases h2 : a0 = 2
          · subst h2
            clear h1
            obtain ⟨s2, e2, l2, r2, hs2⟩ : ∃ s2 e l r, s.ask a1 a2 = (s2, e, l, r) := ⟨_, _, _, _, rfl⟩
            have ok2 : s2.Ok := by have := St.ask_ok ok (by omega) a1 a2; rw [hs2] at this; exact this
            have nx : Next s s2 := by have := next_ask ok one a1 a2; rw [hs2] at this; exact this
            have HS := Lib.hid hs2
            clear hs2 one
            go_wp2_with fail
            go_still_tail 11, (by kernel_rfl)
            change wpList _ _ _ _ _ wr.drew
            go_wp2_with fail
            refine (step_ask wr.drew _ _ _ _ R ok.e0 ok.e1 HS.out).mono ?_
            rintro e w3 ⟨rfl, R2, C2⟩
            replace C := C.drew.then C2 fun i hi e => by omega
            clear C2 R ok x0 x1 x2 HS
            have ep2 : s2.epoch ≤ s.epoch + 1 := by rcases nx.2 with ⟨_, h⟩ | ⟨_, _, h⟩ | ⟨_, _, h⟩ <;> omega
            have p0 := ok2.o0
            have p1 := ok2.o1
            have p2 := ok2.e0
            have OK2 := Lib.hid ok2
            have ON2 := Lib.hid nx.1
            clear ok2
            rcases (show s2.con = -1 ∨ (s2.con ≠ -1 ∧ s2.con = s2.own) by rcases nx.1 with h | h <;> omega) with d1 | ⟨d1, d2⟩
            · skip
              have f1 : (s2.con == -1) = true := by simpa using d1
              have f2 : (s2.con != -1) = false := by simpa using d1
              clear d1
              rcases nx.2 with ⟨v0, v1⟩ | ⟨v0, v1, v2⟩ | ⟨v0, v1, v2⟩
              · skip
                have g0 : s2.own < 0 := by omega
                have g1 : decide (0 ≤ s2.own) = false := by simp; omega
                have g2 : s2.epoch ≤ s.epoch := by omega
                have g3 : s.epoch ≤ s2.epoch := by omega
                have V0 := Lib.hid v0
                have V1 := Lib.hid v1
                clear v0 v1 nx
                go_wp2_with fail
                refine (relay_own _ _ _ R2).mono ?_
                rintro e w5 ⟨rfl, rfl⟩
                go_wp2_with fail
                refine (relay_con _ _ _ R2).mono ?_
                rintro e w5 ⟨rfl, rfl⟩
                go_wp2_with fail
                refine (relay_epoch _ _ _ R2).mono ?_
                rintro e w5 ⟨rfl, rfl⟩
                go_wp2_with fail
                go_roundw
                case rel => exact ⟨k + 1, n, s2, by omega, by omega, by go_num, by go_num, by rw [V0.out], by rw [V1.out], by omega, by omega, C, R2, OK2.out, ON2.out, by omega⟩
                case measure => simp [intOf]; omega
              · skip
                have g1 : (s2.own == s.own) = true := by simpa using v1
                have g4 : (s2.own != s.own) = false := by simpa using v1
                have g2 : s2.epoch ≤ s.epoch := by omega
                have g3 : s.epoch ≤ s2.epoch := by omega
                have V1 := Lib.hid v1
                have V2 := Lib.hid v2
                clear v1 v2 nx
                go_wp2_with fail
                refine (relay_own _ _ _ R2).mono ?_
                rintro e w5 ⟨rfl, rfl⟩
                go_wp2_with fail
                refine (relay_con _ _ _ R2).mono ?_
                rintro e w5 ⟨rfl, rfl⟩
                go_wp2_with fail
                refine (relay_epoch _ _ _ R2).mono ?_
                rintro e w5 ⟨rfl, rfl⟩
                go_wp2_with fail
                go_roundw
                case rel => exact ⟨k + 1, n, s2, by omega, by omega, by go_num, by go_num, rfl, by rw [V2.out], by omega, by omega, C, R2, OK2.out, ON2.out, by omega⟩
                case measure => simp [intOf]; omega
              · skip
                have g1 : (s2.own == s.own) = false := by simpa using v1
                have g4 : (s2.own != s.own) = true := by simpa using v1
                have g2 : s.epoch < s2.epoch := by omega
                have g5 : (s2.epoch == s.epoch + 1) = true := by simpa using v2
                have g6 : (s2.epoch != s.epoch + 1) = false := by simpa using v2
                have V1 := Lib.hid v1
                have V2 := Lib.hid v2
                clear v1 v2 nx
                go_wp2_with fail
                refine (relay_own _ _ _ R2).mono ?_
                rintro e w5 ⟨rfl, rfl⟩
                go_wp2_with fail
                refine (relay_con _ _ _ R2).mono ?_
                rintro e w5 ⟨rfl, rfl⟩
                go_wp2_with fail
                refine (relay_epoch _ _ _ R2).mono ?_
                rintro e w5 ⟨rfl, rfl⟩
                go_wp2_with fail
                go_roundw
                case rel => exact ⟨k + 1, n, s2, by omega, by omega, by go_num, by go_num, rfl, rfl, by omega, by omega, C, R2, OK2.out, ON2.out, by omega⟩
                case measure => simp [intOf]; omega
            · skip
              have f1 : (s2.con == -1) = false := by simpa using d1
              have f2 : (s2.con != -1) = true := by simpa using d1
              have f3 : (s2.con != s2.own) = false := by simpa using d2
              have f4 : (s2.con == s2.own) = true := by simpa using d2
              clear d1 d2
              rcases nx.2 with ⟨v0, v1⟩ | ⟨v0, v1, v2⟩ | ⟨v0, v1, v2⟩
              · skip
                have g0 : s2.own < 0 := by omega
                have g1 : decide (0 ≤ s2.own) = false := by simp; omega
                have g2 : s2.epoch ≤ s.epoch := by omega
                have g3 : s.epoch ≤ s2.epoch := by omega
                have V0 := Lib.hid v0
                have V1 := Lib.hid v1
                clear v0 v1 nx
                go_wp2_with fail
                refine (relay_own _ _ _ R2).mono ?_
                rintro e w5 ⟨rfl, rfl⟩
                go_wp2_with fail
                refine (relay_con _ _ _ R2).mono ?_
                rintro e w5 ⟨rfl, rfl⟩
                go_wp2_with fail
                refine (relay_epoch _ _ _ R2).mono ?_
                rintro e w5 ⟨rfl, rfl⟩
                go_wp2_with fail
                go_roundw
                case rel => exact ⟨k + 1, n, s2, by omega, by omega, by go_num, by go_num, by rw [V0.out], by rw [V1.out], by omega, by omega, C, R2, OK2.out, ON2.out, by omega⟩
                case measure => simp [intOf]; omega
              · skip
                have g1 : (s2.own == s.own) = true := by simpa using v1
                have g4 : (s2.own != s.own) = false := by simpa using v1
                have g2 : s2.epoch ≤ s.epoch := by omega
                have g3 : s.epoch ≤ s2.epoch := by omega
                have V1 := Lib.hid v1
                have V2 := Lib.hid v2
                clear v1 v2 nx
                go_wp2_with fail
                refine (relay_own _ _ _ R2).mono ?_
                rintro e w5 ⟨rfl, rfl⟩
                go_wp2_with fail
                refine (relay_con _ _ _ R2).mono ?_
                rintro e w5 ⟨rfl, rfl⟩
                go_wp2_with fail
                refine (relay_epoch _ _ _ R2).mono ?_
                rintro e w5 ⟨rfl, rfl⟩
                go_wp2_with fail
                go_roundw
                case rel => exact ⟨k + 1, n, s2, by omega, by omega, by go_num, by go_num, rfl, by rw [V2.out], by omega, by omega, C, R2, OK2.out, ON2.out, by omega⟩
                case measure => simp [intOf]; omega
              · skip
                have g1 : (s2.own == s.own) = false := by simpa using v1
                have g4 : (s2.own != s.own) = true := by simpa using v1
                have g2 : s.epoch < s2.epoch := by omega
                have g5 : (s2.epoch == s.epoch + 1) = true := by simpa using v2
                have g6 : (s2.epoch != s.epoch + 1) = false := by simpa using v2
                have V1 := Lib.hid v1
                have V2 := Lib.hid v2
                clear v1 v2 nx
                go_wp2_with fail
                refine (relay_own _ _ _ R2).mono ?_
                rintro e w5 ⟨rfl, rfl⟩
                go_wp2_with fail
                refine (relay_con _ _ _ R2).mono ?_
                rintro e w5 ⟨rfl, rfl⟩
                go_wp2_with fail
                refine (relay_epoch _ _ _ R2).mono ?_
                rintro e w5 ⟨rfl, rfl⟩
                go_wp2_with fail
                go_roundw
                case rel => exact ⟨k + 1, n, s2, by omega, by omega, by go_num, by go_num, rfl, rfl, by omega, by omega, C, R2, OK2.out, ON2.out, by omega⟩
                case measure => simp [intOf]; omega
          · have h1' : (a0 == 1) = false := by simpa using h1
            have h2' : (a0 == 2) = false := by simpa using h2
            clear h1 h2
            obtain ⟨s2, r2, hs2⟩ : ∃ s2 r, s.yield a1 = (s2, r) := ⟨_, _, rfl⟩
            have ok2 : s2.Ok := by have := St.yield_ok ok a1; rw [hs2] at this; exact this
            have nx : Next s s2 := by have := next_yield ok one a1; rw [hs2] at this; exact this
            have HS := Lib.hid hs2
            clear hs2 one
            go_wp2_with fail
            refine (step_yield _ _ _ _ R ok.n0 ok.n1 HS.out).mono ?_
            rintro e w3 ⟨rfl, R2, C2⟩
            replace C := C.then C2 fun i hi e => by omega
            clear C2 R ok x0 x1 x2 HS
            have ep2 : s2.epoch ≤ s.epoch + 1 := by rcases nx.2 with ⟨_, h⟩ | ⟨_, _, h⟩ | ⟨_, _, h⟩ <;> omega
            have p0 := ok2.o0
            have p1 := ok2.o1
            have p2 := ok2.e0
            have OK2 := Lib.hid ok2
            have ON2 := Lib.hid nx.1
            clear ok2
            rcases (show s2.con = -1 ∨ (s2.con ≠ -1 ∧ s2.con = s2.own) by rcases nx.1 with h | h <;> omega) with d1 | ⟨d1, d2⟩
            · skip
              have f1 : (s2.con == -1) = true := by simpa using d1
              have f2 : (s2.con != -1) = false := by simpa using d1
              clear d1
              rcases nx.2 with ⟨v0, v1⟩ | ⟨v0, v1, v2⟩ | ⟨v0, v1, v2⟩
              · skip
                have g0 : s2.own < 0 := by omega
                have g1 : decide (0 ≤ s2.own) = false := by simp; omega
                have g2 : s2.epoch ≤ s.epoch := by omega
                have g3 : s.epoch ≤ s2.epoch := by omega
                have V0 := Lib.hid v0
                have V1 := Lib.hid v1
                clear v0 v1 nx
                go_wp2_with fail
                refine (relay_own _ _ _ R2).mono ?_
                rintro e w5 ⟨rfl, rfl⟩
                go_wp2_with fail
                refine (relay_con _ _ _ R2).mono ?_
                rintro e w5 ⟨rfl, rfl⟩
                go_wp2_with fail
                refine (relay_epoch _ _ _ R2).mono ?_
                rintro e w5 ⟨rfl, rfl⟩
                go_wp2_with fail
                go_roundw
                case rel => exact ⟨k + 1, n, s2, by omega, by omega, by go_num, by go_num, by rw [V0.out], by rw [V1.out], by omega, by omega, C, R2, OK2.out, ON2.out, by omega⟩
                case measure => simp [intOf]; omega
              · skip
                have g1 : (s2.own == s.own) = true := by simpa using v1
                have g4 : (s2.own != s.own) = false := by simpa using v1
                have g2 : s2.epoch ≤ s.epoch := by omega
                have g3 : s.epoch ≤ s2.epoch := by omega
                have V1 := Lib.hid v1
                have V2 := Lib.hid v2
                clear v1 v2 nx
                go_wp2_with fail
                refine (relay_own _ _ _ R2).mono ?_
                rintro e w5 ⟨rfl, rfl⟩
                go_wp2_with fail
                refine (relay_con _ _ _ R2).mono ?_
                rintro e w5 ⟨rfl, rfl⟩
                go_wp2_with fail
                refine (relay_epoch _ _ _ R2).mono ?_
                rintro e w5 ⟨rfl, rfl⟩
                go_wp2_with fail
                go_roundw
                case rel => exact ⟨k + 1, n, s2, by omega, by omega, by go_num, by go_num, rfl, by rw [V2.out], by omega, by omega, C, R2, OK2.out, ON2.out, by omega⟩
                case measure => simp [intOf]; omega
              · skip
                have g1 : (s2.own == s.own) = false := by simpa using v1
                have g4 : (s2.own != s.own) = true := by simpa using v1
                have g2 : s.epoch < s2.epoch := by omega
                have g5 : (s2.epoch == s.epoch + 1) = true := by simpa using v2
                have g6 : (s2.epoch != s.epoch + 1) = false := by simpa using v2
                have V1 := Lib.hid v1
                have V2 := Lib.hid v2
                clear v1 v2 nx
                go_wp2_with fail
                refine (relay_own _ _ _ R2).mono ?_
                rintro e w5 ⟨rfl, rfl⟩
                go_wp2_with fail
                refine (relay_con _ _ _ R2).mono ?_
                rintro e w5 ⟨rfl, rfl⟩
                go_wp2_with fail
                refine (relay_epoch _ _ _ R2).mono ?_
                rintro e w5 ⟨rfl, rfl⟩
                go_wp2_with fail
                go_roundw
                case rel => exact ⟨k + 1, n, s2, by omega, by omega, by go_num, by go_num, rfl, rfl, by omega, by omega, C, R2, OK2.out, ON2.out, by omega⟩
                case measure => simp [intOf]; omega
            · skip
              have f1 : (s2.con == -1) = false := by simpa using d1
              have f2 : (s2.con != -1) = true := by simpa using d1
              have f3 : (s2.con != s2.own) = false := by simpa using d2
              have f4 : (s2.con == s2.own) = true := by simpa using d2
              clear d1 d2
              rcases nx.2 with ⟨v0, v1⟩ | ⟨v0, v1, v2⟩ | ⟨v0, v1, v2⟩
              · skip
                have g0 : s2.own < 0 := by omega
                have g1 : decide (0 ≤ s2.own) = false := by simp; omega
                have g2 : s2.epoch ≤ s.epoch := by omega
                have g3 : s.epoch ≤ s2.epoch := by omega
                have V0 := Lib.hid v0
                have V1 := Lib.hid v1
                clear v0 v1 nx
                go_wp2_with fail
                refine (relay_own _ _ _ R2).mono ?_
                rintro e w5 ⟨rfl, rfl⟩
                go_wp2_with fail
                refine (relay_con _ _ _ R2).mono ?_
                rintro e w5 ⟨rfl, rfl⟩
                go_wp2_with fail
                refine (relay_epoch _ _ _ R2).mono ?_
                rintro e w5 ⟨rfl, rfl⟩
                go_wp2_with fail
                go_roundw
                case rel => exact ⟨k + 1, n, s2, by omega, by omega, by go_num, by go_num, by rw [V0.out], by rw [V1.out], by omega, by omega, C, R2, OK2.out, ON2.out, by omega⟩
                case measure => simp [intOf]; omega
              · skip
                have g1 : (s2.own == s.own) = true := by simpa using v1
                have g4 : (s2.own != s.own) = false := by simpa using v1
                have g2 : s2.epoch ≤ s.epoch := by omega
                have g3 : s.epoch ≤ s2.epoch := by omega
                have V1 := Lib.hid v1
                have V2 := Lib.hid v2
                clear v1 v2 nx
                go_wp2_with fail
                refine (relay_own _ _ _ R2).mono ?_
                rintro e w5 ⟨rfl, rfl⟩
                go_wp2_with fail
                refine (relay_con _ _ _ R2).mono ?_
                rintro e w5 ⟨rfl, rfl⟩
                go_wp2_with fail
                refine (relay_epoch _ _ _ R2).mono ?_
                rintro e w5 ⟨rfl, rfl⟩
                go_wp2_with fail
                go_roundw
                case rel => exact ⟨k + 1, n, s2, by omega, by omega, by go_num, by go_num, rfl, by rw [V2.out], by omega, by omega, C, R2, OK2.out, ON2.out, by omega⟩
                case measure => simp [intOf]; omega
              · skip
                have g1 : (s2.own == s.own) = false := by simpa using v1
                have g4 : (s2.own != s.own) = true := by simpa using v1
                have g2 : s.epoch < s2.epoch := by omega
                have g5 : (s2.epoch == s.epoch + 1) = true := by simpa using v2
                have g6 : (s2.epoch != s.epoch + 1) = false := by simpa using v2
                have V1 := Lib.hid v1
                have V2 := Lib.hid v2
                clear v1 v2 nx
                go_wp2_with fail
                refine (relay_own _ _ _ R2).mono ?_
                rintro e w5 ⟨rfl, rfl⟩
                go_wp2_with fail
                refine (relay_con _ _ _ R2).mono ?_
                rintro e w5 ⟨rfl, rfl⟩
                go_wp2_with fail
                refine (relay_epoch _ _ _ R2).mono ?_
                rintro e w5 ⟨rfl, rfl⟩
                go_wp2_with fail
                go_roundw
                case rel => exact ⟨k + 1, n, s2, by omega, by omega, by go_num, by go_num, rfl, rfl, by omega, by omega, C, R2, OK2.out, ON2.out, by omega⟩
                case measure => simp [intOf]; omega
      · clear hc R
        by_cases hk2 : k < l.length
        · have hk3 : ¬ (k : Int) < 80 := by omega
          clear hkl
          go_wp2_with fail
          refine (known_any _).mono ?_
          rintro e w4 ⟨rfl, hk⟩
          go_wp2_with fail
          go_ret
          exact ⟨rfl, (C.then hk fun i hi e => e).below (Nat.le_refl _) fun _ _ h => h⟩
        · clear hkl
          go_wp2_with fail
          refine (known_any _).mono ?_
          rintro e w4 ⟨rfl, hk⟩
          go_wp2_with fail
          go_ret
          exact ⟨rfl, (C.then hk fun i hi e => e).below (Nat.le_refl _) fun _ _ h => h⟩
  · go_enter Try.func10, Try.ntmps10
    go_wp2_with fail
    all_goals (go_ret; exact ⟨rfl, Below.refl _ _⟩)
end Go.Proofs.Ytnolhpblhndomaa.relayOne
