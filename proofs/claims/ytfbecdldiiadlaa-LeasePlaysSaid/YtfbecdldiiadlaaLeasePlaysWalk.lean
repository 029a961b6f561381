/-
  The walk of LeasePlays: it answers true, and turns nothing that was there. No condition.
-/
import Derived.Test.YtfbecdldiiadlaaFns
import Derived.Deep.QuietTactic
import Derived.BigQuiet
import Derived.StillTailTactics
namespace Go.Proofs.Ytfbecdldiiadlaa.leasePlays
open Go.ChangeShapes Go.WideShapes Go.ChangeAt Go.RowKit
set_option linter.unusedVariables false

/-- Both Leases hold the same. -/
def Both (w0 w : World) : Prop := ∃ e n g, LeaseAt 41 w w0.heap.size e n g ∧ LeaseAt 33 w (w0.heap.size + 1) e n g

theorem act_cell {w : World} {b off : Nat} {l : List (Int × Int × Int)} (h : ∀ i, i < (l.flatMap fAct).length → w.cell? ⟨b, off + i, none⟩ = (l.flatMap fAct)[i]?) (k j : Nat) (hk : k < l.length) (hj : j < 3) :
    w.cell? ⟨b, off + k * 3 + j, none⟩ = (fAct l[k])[j]? := by
  have h3 := flat_at fAct 3 (fun _ => rfl) l k j hk hj
  have h4 := h (k * 3 + j) (by rw [flat_length fAct 3 (fun _ => rfl)]; omega)
  rw [← h3, ← h4, Nat.add_assoc]

set_option maxHeartbeats 2000000 in
set_option maxRecDepth 100000 in
theorem walk (w : World) (ao : Option Addr) (cap : Nat) (l : List (Int × Int × Int)) (hl : l.length ≤ cap) (hm : cap ≤ maxLen) (hr : ∀ a ∈ l, (Lit.int .i64 a.1).wf = true ∧ (Lit.int .i64 a.2.1).wf = true ∧ (Lit.int .i64 a.2.2).wf = true) (hc : Cells w ao (l.flatMap fAct))
    (ao1 : Option Addr) (cap1 : Nat) (q : List Int) (hl1 : q.length ≤ cap1) (hm1 : cap1 ≤ maxLen) (hr1 : ∀ a ∈ q, (Lit.int .i64 a).wf = true) (hc1 : Cells w ao1 (q.flatMap fInt)) :
    Calls Try.prog 4 #[.slice ao l.length cap, .slice ao1 q.length cap1] w fun e w' => e = .returned (.bool true) ∧ Below w.heap.size w w' := by
  clear hr hr1
  have hlen : l.length ≤ 9223372036854775807 := by unfold maxLen at hm; omega
  have hlen1 : q.length ≤ 9223372036854775807 := by unfold maxLen at hm1; omega
  clear hm hm1
  by_cases hg : l.length ≤ 60 ∧ q.length ≤ 60
  · obtain ⟨h0, h1⟩ := hg
    go_enter Try.func4, Try.ntmps4
    go_wp2_with fail
    refine (new_any _).mono ?_
    rintro e w1 ⟨rfl, rfl⟩
    go_wp2_with fail
    go_loopw [4, 7, 8] (fun _ i _ wr => ∃ k : Nat, k ≤ l.length ∧ i = .int .i64 k ∧ Ch (fun _ => False) w wr ∧ Both w wr) (fun _ i _ _ => (l.length - intOf i).toNat)
    case atStart => exact ⟨0, by omega, rfl, ((Ch.refl _ _).alloc _).alloc _, _, _, _, (Blk.new _ _ _).alloc _, by unfold LeaseAt; simpa using Blk.new (w.alloc (.cells #[.int .i64 0, .int .i64 0, .bool false] 41)) 33 #[.int .i64 0, .int .i64 0, .bool false]⟩
    case round =>
      obtain ⟨k, hk, rfl, hch, e0, n0, g0, hA, hB⟩ := hrel
      by_cases hkl : k < l.length
      · have hne : l.flatMap fAct ≠ [] := by
          intro h
          have := flat_length fAct 3 (fun _ => rfl) l
          rw [h] at this
          simp at this
          omega
        obtain ⟨b, off, rfl, hblt, hcell⟩ := hc hne
        have x0 : wr.cell? ⟨b, off + k * 3, none⟩ = some (.int .i64 l[k].1) := ((hch.below (Nat.le_refl _) fun _ _ h => h).cell (p := ⟨b, off + k * 3, none⟩) hblt).trans (act_cell hcell k 0 hkl (by omega))
        have x1 : wr.cell? ⟨b, off + k * 3 + 1, none⟩ = some (.int .i64 l[k].2.1) := ((hch.below (Nat.le_refl _) fun _ _ h => h).cell (p := ⟨b, off + k * 3 + 1, none⟩) hblt).trans (act_cell hcell k 1 hkl (by omega))
        have x2 : wr.cell? ⟨b, off + k * 3 + 2, none⟩ = some (.int .i64 l[k].2.2) := ((hch.below (Nat.le_refl _) fun _ _ h => h).cell (p := ⟨b, off + k * 3 + 2, none⟩) hblt).trans (act_cell hcell k 2 hkl (by omega))
        clear hcell hne hc
        generalize l[k] = a at *
        obtain ⟨a0, a1, a2⟩ := a
        dsimp only at x0 x1 x2
        by_cases ht : 0 ≤ a2 ∧ a2 ≤ 1099511627776
        · obtain ⟨t0, t1⟩ := ht
          have HQ := Lib.hid hc1; clear hc1
          by_cases hkind : (a0 == 1) = true
          · go_wp2_with fail
            go_still_tail 11, (by kernel_rfl)
            change wpList _ _ _ _ _ wr.drew
            go_wp2_with fail
            refine (grant_any wr.drew _ _ _ _ _ _ hA (by omega) (by omega)).mono ?_
            rintro e w2 ⟨rfl, hA2, hc2⟩
            have hB2 : LeaseAt 33 w2 _ _ _ _ := hc2.blk (w := wr.drew) hB (by omega)
            have c2 := hch.drew.then hc2 (fun i hi e => by omega)
            have y0 : w2.cell? ⟨b, off + k * 3, none⟩ = some (.int .i64 a0) := (World.cell?_of_block (w := wr) (hc2.block b (Nat.lt_of_lt_of_le hblt hch.size) (by show ¬ b = _; omega))).trans x0
            have y1 : w2.cell? ⟨b, off + k * 3 + 1, none⟩ = some (.int .i64 a1) := (World.cell?_of_block (w := wr) (hc2.block b (Nat.lt_of_lt_of_le hblt hch.size) (by show ¬ b = _; omega))).trans x1
            have y2 : w2.cell? ⟨b, off + k * 3 + 2, none⟩ = some (.int .i64 a2) := (World.cell?_of_block (w := wr) (hc2.block b (Nat.lt_of_lt_of_le hblt hch.size) (by show ¬ b = _; omega))).trans x2
            clear x0 x1 x2 hA hB hc2 hch
            go_wp2_with fail
            go_still_tail 11, (by kernel_rfl)
            change wpList _ _ _ _ _ w2.drew
            go_wp2_with fail
            refine (grant_ref w2.drew _ _ _ _ _ _ hB2 (by omega) (by omega)).mono ?_
            rintro e w3 ⟨rfl, hB3, hc3⟩
            have hA3 : LeaseAt 41 w3 _ _ _ _ := hc3.blk (w := w2.drew) hA2 (by omega)
            have c3 := c2.drew.then hc3 (fun i hi e => by omega)
            have z2 : w3.cell? ⟨b, off + k * 3 + 2, none⟩ = some (.int .i64 a2) := (World.cell?_of_block (w := w2) (hc3.block b (Nat.lt_of_lt_of_le hblt c2.size) (by show ¬ b = _; omega))).trans y2
            clear y0 y1 y2 hA2 hB2 hc3 c2
            obtain ⟨e4, n4, g4, hA4, hB4⟩ : ∃ e n g, LeaseAt 41 w3 w.heap.size e n g ∧ LeaseAt 33 w3 (w.heap.size + 1) e n g := ⟨_, _, _, hA3, hB3⟩
            clear hA3 hB3
            have be : w3.cell? ⟨w.heap.size + 1, 0, none⟩ = some (.int .i64 e4) := hB4.cell 0
            have hk0 : (0 : Int) ≤ k := by omega
            have hk1 : (k : Int) < l.length := by omega
            go_wp2_with fail
            go_quiet ((first | (go_at_call 15; refine Calls.quiet_of_same (epoch_any _ _ _ _ _ hA4)) | (go_at_call 10; refine Calls.quiet_of_same (live_any _ _ _ _ _ _ hA4)) | (go_at_call 16; refine Calls.quiet_of_same (live_ref _ _ _ _ _ _ hB4))))
            go_wp2_with fail
            go_loopw [8] (fun j wi => ∃ (i : Nat), i ≤ q.length ∧ j = .int .i64 i ∧ Ch (fun _ => False) w wi ∧ LeaseAt 41 wi w.heap.size e4 n4 g4 ∧ LeaseAt 33 wi (w.heap.size + 1) e4 n4 g4) (fun j _ => (q.length - intOf j).toNat)
            case atStart => exact ⟨0, by omega, rfl, c3.drewN _, hA4, hB4⟩
            case round =>
              clear hA4 hB4 be c3 z2
              obtain ⟨i, hi, rfl, c3, hA4, hB4⟩ := hrel
              by_cases hiq : i < q.length
              · have hne1 : q.flatMap fInt ≠ [] := by
                  intro h
                  have := flat_length fInt 1 (fun _ => rfl) q
                  rw [h] at this
                  simp at this
                  omega
                obtain ⟨b1, off1, rfl, hblt1, hcell1⟩ := HQ.out hne1
                have q0 : wr.cell? ⟨b1, off1 + i, none⟩ = some (.int .i64 q[i]) := by
                  have h3 := flat_at fInt 1 (fun _ => rfl) q i 0 hiq (by omega)
                  have h4 := hcell1 i (by rw [flat_length fInt 1 (fun _ => rfl)]; omega)
                  rw [show i = i * 1 + 0 by omega, h3] at h4
                  have h5 := (c3.below (Nat.le_refl _) fun _ _ h => h).cell (p := ⟨b1, off1 + i, none⟩) hblt1
                  rw [h5]
                  simpa [fInt] using h4
                clear hcell1 hne1 HQ
                generalize q[i] = qi at *
                have hi0 : (0 : Int) ≤ i := by omega
                have hi1 : (i : Int) < q.length := by omega
                go_wp2_with fail
                go_quiet ((first | (go_at_call 10; refine Calls.quiet_of_same (live_any _ _ _ _ _ _ hA4)) | (go_at_call 16; refine Calls.quiet_of_same (live_ref _ _ _ _ _ _ hB4))))
                go_wp2_with fail
                go_roundw
                case rel => exact ⟨i + 1, by omega, by go_num, c3.drewN _, hA4, hB4⟩
                case measure => simp [intOf]; omega
              · go_wp2_with fail
                go_roundw
                case rel => exact ⟨k + 1, by omega, by go_num, c3, _, _, _, hA4, hB4⟩
                case measure => simp [intOf]; omega
          · go_wp2_with fail
            refine (drop_any wr _ _ _ _ hA).mono ?_
            rintro e w2 ⟨rfl, hA2, hc2⟩
            have hB2 : LeaseAt 33 w2 _ _ _ _ := hc2.blk hB (by omega)
            have c2 := hch.then hc2 (fun i hi e => by omega)
            have y2 : w2.cell? ⟨b, off + k * 3 + 2, none⟩ = some (.int .i64 a2) := (World.cell?_of_block (w := wr) (hc2.block b (Nat.lt_of_lt_of_le hblt hch.size) (by show ¬ b = _; omega))).trans x2
            clear x0 x1 x2 hA hB hc2 hch
            go_wp2_with fail
            refine (drop_ref w2 _ _ _ _ hB2).mono ?_
            rintro e w3 ⟨rfl, hB3, hc3⟩
            have hA3 : LeaseAt 41 w3 _ _ _ _ := hc3.blk hA2 (by omega)
            have c3 := c2.then hc3 (fun i hi e => by omega)
            have z2 : w3.cell? ⟨b, off + k * 3 + 2, none⟩ = some (.int .i64 a2) := (World.cell?_of_block (w := w2) (hc3.block b (Nat.lt_of_lt_of_le hblt c2.size) (by show ¬ b = _; omega))).trans y2
            clear y2 hA2 hB2 hc3 c2
            obtain ⟨e4, n4, g4, hA4, hB4⟩ : ∃ e n g, LeaseAt 41 w3 w.heap.size e n g ∧ LeaseAt 33 w3 (w.heap.size + 1) e n g := ⟨_, _, _, hA3, hB3⟩
            clear hA3 hB3
            have be : w3.cell? ⟨w.heap.size + 1, 0, none⟩ = some (.int .i64 e4) := hB4.cell 0
            have hk0 : (0 : Int) ≤ k := by omega
            have hk1 : (k : Int) < l.length := by omega
            go_wp2_with fail
            go_quiet ((first | (go_at_call 15; refine Calls.quiet_of_same (epoch_any _ _ _ _ _ hA4)) | (go_at_call 10; refine Calls.quiet_of_same (live_any _ _ _ _ _ _ hA4)) | (go_at_call 16; refine Calls.quiet_of_same (live_ref _ _ _ _ _ _ hB4))))
            go_wp2_with fail
            go_loopw [8] (fun j wi => ∃ (i : Nat), i ≤ q.length ∧ j = .int .i64 i ∧ Ch (fun _ => False) w wi ∧ LeaseAt 41 wi w.heap.size e4 n4 g4 ∧ LeaseAt 33 wi (w.heap.size + 1) e4 n4 g4) (fun j _ => (q.length - intOf j).toNat)
            case atStart => exact ⟨0, by omega, rfl, c3.drewN _, hA4, hB4⟩
            case round =>
              clear hA4 hB4 be c3 z2
              obtain ⟨i, hi, rfl, c3, hA4, hB4⟩ := hrel
              by_cases hiq : i < q.length
              · have hne1 : q.flatMap fInt ≠ [] := by
                  intro h
                  have := flat_length fInt 1 (fun _ => rfl) q
                  rw [h] at this
                  simp at this
                  omega
                obtain ⟨b1, off1, rfl, hblt1, hcell1⟩ := HQ.out hne1
                have q0 : wr.cell? ⟨b1, off1 + i, none⟩ = some (.int .i64 q[i]) := by
                  have h3 := flat_at fInt 1 (fun _ => rfl) q i 0 hiq (by omega)
                  have h4 := hcell1 i (by rw [flat_length fInt 1 (fun _ => rfl)]; omega)
                  rw [show i = i * 1 + 0 by omega, h3] at h4
                  have h5 := (c3.below (Nat.le_refl _) fun _ _ h => h).cell (p := ⟨b1, off1 + i, none⟩) hblt1
                  rw [h5]
                  simpa [fInt] using h4
                clear hcell1 hne1 HQ
                generalize q[i] = qi at *
                have hi0 : (0 : Int) ≤ i := by omega
                have hi1 : (i : Int) < q.length := by omega
                go_wp2_with fail
                go_quiet ((first | (go_at_call 10; refine Calls.quiet_of_same (live_any _ _ _ _ _ _ hA4)) | (go_at_call 16; refine Calls.quiet_of_same (live_ref _ _ _ _ _ _ hB4))))
                go_wp2_with fail
                go_roundw
                case rel => exact ⟨i + 1, by omega, by go_num, c3.drewN _, hA4, hB4⟩
                case measure => simp [intOf]; omega
              · go_wp2_with fail
                go_roundw
                case rel => exact ⟨k + 1, by omega, by go_num, c3, _, _, _, hA4, hB4⟩
                case measure => simp [intOf]; omega
        · clear hA hB
          go_wp2_with fail
          all_goals (go_ret; exact ⟨rfl, hch.below (Nat.le_refl _) fun _ _ h => h⟩)
      · clear hc hc1 hA hB
        go_wp2_with fail
        refine (known_any _).mono ?_
        rintro e w6 ⟨rfl, hkn⟩
        go_wp2_with fail
        go_ret
        exact ⟨rfl, (hch.then hkn fun i hi e => e).below (Nat.le_refl _) fun _ _ h => h⟩
  · go_enter Try.func4, Try.ntmps4
    go_wp2_with fail
    all_goals (go_ret; exact ⟨rfl, Below.refl _ _⟩)
end Go.Proofs.Ytfbecdldiiadlaa.leasePlays
