/-
  The walk of RelayPlays: it answers true, and turns nothing that was there. No condition.
-/
import Derived.Test.YtnolhpblhndomaaRelayRef
import Derived.Test.YtnolhpblhndomaaRelayStep
import Derived.Deep.RegionHeld3
namespace Go.Proofs.Ytnolhpblhndomaa.relayPlays
open Go.ChangeShapes Go.WideShapes Go.ChangeAt Go.RowKit
set_option linter.unusedVariables false

set_option maxHeartbeats 16000000 in
set_option maxRecDepth 100000 in
theorem walk (w : World) (ao : Option Addr) (cap : Nat) (l : List (Int × Int × Int)) (hl : l.length ≤ cap) (hm : cap ≤ maxLen) (hr : ∀ a ∈ l, (Lit.int .i64 a.1).wf = true ∧ (Lit.int .i64 a.2.1).wf = true ∧ (Lit.int .i64 a.2.2).wf = true) (hc : Cells w ao (l.flatMap fAct)) :
    Calls Try.prog 9 #[.slice ao l.length cap] w fun e w' => e = .returned (.bool true) ∧ Below w.heap.size w w' := by
  clear hr
  have hlen : l.length ≤ 9223372036854775807 := by unfold maxLen at hm; omega
  clear hm
  by_cases hg : l.length ≤ 10000
  · go_enter Try.func9, Try.ntmps9
    go_wp2_with fail
    refine (relay_new _).mono ?_
    rintro e w1 ⟨rfl, R, C⟩
    go_wp2_with fail
    refine (ref_new _).mono ?_
    rintro e w2 ⟨rfl, F, C2⟩
    have hlt : w.heap.size < w1.heap.size := R.lt
    replace R : RelayAt w2 w.heap.size St.new := C2.blk R (fun h => h)
    replace C := C.then C2 fun i hi e => e
    clear C2
    obtain ⟨B, hB⟩ : ∃ B, B = w1.heap.size := ⟨_, rfl⟩
    rw [← hB] at F hlt
    rw [← hB]
    clear hB
    go_wp2_with fail
    go_loopw [5, 6] (fun p i wr => ∃ (k : Nat) (n : Int) (s : St), k ≤ l.length ∧ (k : Int) ≤ 80 ∧ i = .int .i64 k ∧ p = .int .i64 n ∧ -10 * (k : Int) ≤ n ∧ n ≤ 1000 * k ∧ Ch (fun _ => False) w wr ∧ RelayAt wr w.heap.size s ∧ RefAt wr B s ∧ s.Ok ∧ s.epoch ≤ k) (fun _ i _ => (l.length - intOf i).toNat)
    case atStart => exact ⟨0, 0, _, by omega, by omega, rfl, rfl, by omega, by omega, C, R, F, St.new_ok, by decide⟩
    case round =>
      clear R C F
      obtain ⟨k, n, s, hk, hk80, rfl, rfl, hn0, hn1, C, R, F, ok, hep⟩ := hrel
      by_cases hkl : k < l.length ∧ (k : Int) < 80
      · obtain ⟨hkl, hk8⟩ := hkl
        obtain ⟨b, off, rfl, hblt, x0, x1, x2⟩ := act_cell hc hkl
        clear hc
        replace x0 := ((C.below (Nat.le_refl _) fun _ _ h => h).cell (p := ⟨b, off + k * 3, none⟩) hblt).trans x0
        replace x1 := ((C.below (Nat.le_refl _) fun _ _ h => h).cell (p := ⟨b, off + k * 3 + 1, none⟩) hblt).trans x1
        replace x2 := ((C.below (Nat.le_refl _) fun _ _ h => h).cell (p := ⟨b, off + k * 3 + 2, none⟩) hblt).trans x2
        generalize l[k] = a at *
        obtain ⟨a0, a1, a2⟩ := a
        dsimp only at x0 x1 x2
        have hA1 : w.heap.size < wr.heap.size := R.lt
        have hA2 : B < wr.heap.size := F.lt
        by_cases h1 : a0 = 1
        · subst h1
          by_cases hb : -10 ≤ a2 ∧ a2 ≤ 1000
          · obtain ⟨hb0, hb1⟩ := hb
            obtain ⟨s2, hs2⟩ : ∃ s2, s.begin (n + a2) = s2 := ⟨_, rfl⟩
            have ok2 : s2.Ok := hs2 ▸ St.begin_ok ok _
            have ep2 : s2.epoch = s.epoch := hs2 ▸ begin_epoch s _
            replace ep2 : s2.epoch ≤ s.epoch := by omega
            have HS := Lib.hid hs2
            clear hs2
            have A0 : Blk (wr.alloc (.cells #[.int .i64 1, .int .i64 a1, .int .i64 a2] 40)) wr.heap.size 40 #[.int .i64 1, .int .i64 a1, .int .i64 a2] := Blk.new _ _ _
            replace C := C.alloc (.cells #[.int .i64 1, .int .i64 a1, .int .i64 a2] 40)
            replace R : RelayAt (wr.alloc (.cells #[.int .i64 1, .int .i64 a1, .int .i64 a2] 40)) w.heap.size s := Blk.alloc R _
            replace F : RefAt (wr.alloc (.cells #[.int .i64 1, .int .i64 a1, .int .i64 a2] 40)) B s := Blk.alloc F _
            go_wp2_with fail
            refine (step_begin (s' := s2) _ _ _ _ R ok HS.out).mono ?_
            rintro e w3 ⟨rfl, R3, C3⟩
            replace F : RefAt w3 B s := C3.blk F (by omega)
            replace A0 := C3.blk A0 (by omega)
            replace C := C.then C3 fun i hi e => by omega
            clear C3 R
            have y1 := A0.cell 1
            have y2 := A0.cell 2
            simp only [List.getElem?_toArray, List.getElem?_cons_zero, List.getElem?_cons_succ] at y1 y2
            go_wp2_with fail
            refine (ref_begin _ _ _ _ F ok).mono ?_
            rintro e w4 ⟨rfl, F4, C4⟩
            have R4 : RelayAt w4 w.heap.size s2 := C4.blk R3 (by omega)
            replace A0 := C4.blk A0 (by omega)
            replace C := C.then C4 fun i hi e => by omega
            clear C4 R3 F y1 y2
            rw [HS.out] at F4
            have g1 : w4.cell? ⟨B, 1, none⟩ = some (.int .i64 s2.own) := F4.cell 1
            have g2 : w4.cell? ⟨B, 2, none⟩ = some (.int .i64 s2.con) := F4.cell 2
            have g3 : w4.cell? ⟨B, 3, none⟩ = some (.int .i64 s2.epoch) := F4.cell 3
            go_wp2_with fail
            go_quiet ((first | (go_at_call 17; refine Calls.quiet_of_same (relay_own _ _ _ R4)) | (go_at_call 16; refine Calls.quiet_of_same (relay_con _ _ _ R4)) | (go_at_call 19; refine Calls.quiet_of_same (relay_epoch _ _ _ R4))))
            go_wp2_with fail
            go_roundw
            case rel => exact ⟨k + 1, (n + a2), s2, by omega, by omega, by go_num, by go_num, by omega, by omega, C.drewN _, R4, F4, ok2, by omega⟩
            case measure => simp [intOf]; omega
          · clear R F
            go_wp2_with fail
            all_goals (go_ret; exact ⟨rfl, (C.alloc _).below (Nat.le_refl _) fun _ _ h => h⟩)
        · by_cases h2 : a0 = 2
          · subst h2
            clear h1
            obtain ⟨s2, e2, l2, r2, hs2⟩ : ∃ s2 e l r, s.ask a1 a2 = (s2, e, l, r) := ⟨_, _, _, _, rfl⟩
            have ok2 : s2.Ok := by have := St.ask_ok ok (by omega) a1 a2; rw [hs2] at this; exact this
            have ep2 : s2.epoch ≤ s.epoch + 1 := by have := ask_epoch s a1 a2; rw [hs2] at this; exact this
            have HS := Lib.hid hs2
            clear hs2
            have A0 : Blk (wr.alloc (.cells #[.int .i64 2, .int .i64 a1, .int .i64 a2] 40)) wr.heap.size 40 #[.int .i64 2, .int .i64 a1, .int .i64 a2] := Blk.new _ _ _
            replace C := C.alloc (.cells #[.int .i64 2, .int .i64 a1, .int .i64 a2] 40)
            replace R : RelayAt (wr.alloc (.cells #[.int .i64 2, .int .i64 a1, .int .i64 a2] 40)) w.heap.size s := Blk.alloc R _
            replace F : RefAt (wr.alloc (.cells #[.int .i64 2, .int .i64 a1, .int .i64 a2] 40)) B s := Blk.alloc F _
            go_wp2_with fail
            refine (step_ask _ _ _ _ _ R ok.e0 ok.e1 HS.out).mono ?_
            rintro e w3 ⟨rfl, R3, C3⟩
            replace F : RefAt w3 B s := C3.blk F (by omega)
            replace A0 := C3.blk A0 (by omega)
            replace C := C.then C3 fun i hi e => by omega
            clear C3 R
            have y1 := A0.cell 1
            have y2 := A0.cell 2
            simp only [List.getElem?_toArray, List.getElem?_cons_zero, List.getElem?_cons_succ] at y1 y2
            go_wp2_with fail
            refine (ref_step_ask _ _ _ _ _ F ok HS.out).mono ?_
            rintro e w4 ⟨rfl, F4, C4⟩
            have R4 : RelayAt w4 w.heap.size s2 := C4.blk R3 (by omega)
            replace A0 := C4.blk A0 (by omega)
            replace C := C.then C4 fun i hi e => by omega
            clear C4 R3 F y1 y2
            have g1 : w4.cell? ⟨B, 1, none⟩ = some (.int .i64 s2.own) := F4.cell 1
            have g2 : w4.cell? ⟨B, 2, none⟩ = some (.int .i64 s2.con) := F4.cell 2
            have g3 : w4.cell? ⟨B, 3, none⟩ = some (.int .i64 s2.epoch) := F4.cell 3
            go_wp2_with fail
            go_quiet ((first | (go_at_call 17; refine Calls.quiet_of_same (relay_own _ _ _ R4)) | (go_at_call 16; refine Calls.quiet_of_same (relay_con _ _ _ R4)) | (go_at_call 19; refine Calls.quiet_of_same (relay_epoch _ _ _ R4))))
            go_wp2_with fail
            go_roundw
            case rel => exact ⟨k + 1, n, s2, by omega, by omega, by go_num, by go_num, by omega, by omega, C.drewN _, R4, F4, ok2, by omega⟩
            case measure => simp [intOf]; omega
          · have h1' : (a0 == 1) = false := by simpa using h1
            have h2' : (a0 == 2) = false := by simpa using h2
            clear h1 h2
            obtain ⟨s2, r2, hs2⟩ : ∃ s2 r, s.yield a1 = (s2, r) := ⟨_, _, rfl⟩
            have ok2 : s2.Ok := by have := St.yield_ok ok a1; rw [hs2] at this; exact this
            have ep2 : s2.epoch = s.epoch := by have := yield_epoch s a1; rw [hs2] at this; exact this
            replace ep2 : s2.epoch ≤ s.epoch := by omega
            have HS := Lib.hid hs2
            clear hs2
            have A0 : Blk (wr.alloc (.cells #[.int .i64 a0, .int .i64 a1, .int .i64 a2] 40)) wr.heap.size 40 #[.int .i64 a0, .int .i64 a1, .int .i64 a2] := Blk.new _ _ _
            replace C := C.alloc (.cells #[.int .i64 a0, .int .i64 a1, .int .i64 a2] 40)
            replace R : RelayAt (wr.alloc (.cells #[.int .i64 a0, .int .i64 a1, .int .i64 a2] 40)) w.heap.size s := Blk.alloc R _
            replace F : RefAt (wr.alloc (.cells #[.int .i64 a0, .int .i64 a1, .int .i64 a2] 40)) B s := Blk.alloc F _
            have y1 := A0.cell 1
            simp only [List.getElem?_toArray, List.getElem?_cons_zero, List.getElem?_cons_succ] at y1
            go_wp2_with fail
            replace R : RelayAt (wr.alloc (.cells #[.int .i64 a0, .int .i64 a1, .int .i64 a2] 40)).drew w.heap.size s := R
            replace F : RefAt (wr.alloc (.cells #[.int .i64 a0, .int .i64 a1, .int .i64 a2] 40)).drew B s := F
            replace A0 : Blk (wr.alloc (.cells #[.int .i64 a0, .int .i64 a1, .int .i64 a2] 40)).drew wr.heap.size 40 #[.int .i64 a0, .int .i64 a1, .int .i64 a2] := A0
            replace C : Ch (fun _ => False) w (wr.alloc (.cells #[.int .i64 a0, .int .i64 a1, .int .i64 a2] 40)).drew := C.drew
            replace y1 : (wr.alloc (.cells #[.int .i64 a0, .int .i64 a1, .int .i64 a2] 40)).drew.cell? ⟨wr.heap.size, 1, none⟩ = some (.int .i64 a1) := y1
            go_region_held3 (fun w' => w'.cell? ⟨wr.heap.size, 1, none⟩ = some (.int .i64 a1)) (first | exact y1 | exact (C3.blk A0 (by omega)).cell 1 | exact (C4.blk (C3.blk A0 (by omega)) (by omega)).cell 1) (first | (go_at_call 20; refine (step_yield _ _ _ _ R ok.n0 ok.n1 HS.out).mono ?_; rintro e w3 ⟨rfl, R3, C3⟩) | (go_at_call 24; refine (ref_step_yield _ _ _ _ (C3.blk F (by omega)) ok HS.out).mono ?_; rintro e w4 ⟨rfl, F4, C4⟩))
            have R4 : RelayAt w4 w.heap.size s2 := C4.blk R3 (by omega)
            replace C := (C.then C3 fun i hi e => by omega).then C4 fun i hi e => by omega
            clear C3 C4 R3 F y1
            have g1 : w4.cell? ⟨B, 1, none⟩ = some (.int .i64 s2.own) := F4.cell 1
            have g2 : w4.cell? ⟨B, 2, none⟩ = some (.int .i64 s2.con) := F4.cell 2
            have g3 : w4.cell? ⟨B, 3, none⟩ = some (.int .i64 s2.epoch) := F4.cell 3
            go_wp2_with fail
            go_quiet ((first | (go_at_call 17; refine Calls.quiet_of_same (relay_own _ _ _ R4)) | (go_at_call 16; refine Calls.quiet_of_same (relay_con _ _ _ R4)) | (go_at_call 19; refine Calls.quiet_of_same (relay_epoch _ _ _ R4))))
            go_wp2_with fail
            go_roundw
            case rel => exact ⟨k + 1, n, s2, by omega, by omega, by go_num, by go_num, by omega, by omega, C.drewN _, R4, F4, ok2, by omega⟩
            case measure => simp [intOf]; omega
      · clear hc F R
        by_cases hk2 : k < l.length
        · have hk3 : ¬ (k : Int) < 80 := by omega
          clear hkl
          go_wp2_with fail
          refine (known_any _).mono ?_
          rintro e w4 ⟨rfl, hk⟩
          go_wp2_with fail
          go_ret
          exact ⟨rfl, (C.then hk fun i hi e => e).below (Nat.le_refl _) fun _ _ h => h⟩
        · clear hkl
          go_wp2_with fail
          refine (known_any _).mono ?_
          rintro e w4 ⟨rfl, hk⟩
          go_wp2_with fail
          go_ret
          exact ⟨rfl, (C.then hk fun i hi e => e).below (Nat.le_refl _) fun _ _ h => h⟩
  · go_enter Try.func9, Try.ntmps9
    go_wp2_with fail
    all_goals (go_ret; exact ⟨rfl, Below.refl _ _⟩)
end Go.Proofs.Ytnolhpblhndomaa.relayPlays
