/-
  The walk of LeaseEpochs: it answers true, and turns nothing that was there. No condition.
-/
import Derived.Test.YtfbecdldiiadlaaFns
import Derived.Deep.QuietTactic
import Derived.BigQuiet
import Derived.StillTailTactics
namespace Go.Proofs.Ytfbecdldiiadlaa.leaseEpochs
open Go.ChangeShapes Go.WideShapes Go.ChangeAt Go.RowKit
set_option linter.unusedVariables false

set_option maxHeartbeats 2000000 in
theorem walk (w : World) (ao : Option Addr) (cap : Nat) (l : List Int) (hl : l.length ≤ cap) (hm : cap ≤ maxLen) (hr : ∀ a ∈ l, (Lit.int .i64 a).wf = true) (hc : Cells w ao (l.flatMap fInt)) (drop : Bool) :
    Calls Try.prog 7 #[.slice ao l.length cap, .bool drop] w fun e w' => e = .returned (.bool true) ∧ Below w.heap.size w w' := by
  clear hr
  have hlen : l.length ≤ 9223372036854775807 := by unfold maxLen at hm; omega
  clear hm
  by_cases hg : 1 ≤ l.length ∧ l.length ≤ 50
  · obtain ⟨h0, h1⟩ := hg
    have hne : l.flatMap fInt ≠ [] := by
      intro h
      have := flat_length fInt 1 (fun _ => rfl) l
      rw [h] at this
      simp at this
      omega
    obtain ⟨b, off, rfl, hblt, hcell⟩ := hc hne
    have hcb : ∀ i, (h : i < l.length) → w.cell? ⟨b, off + i, none⟩ = some (.int .i64 l[i]) := fun i hi => by
      have h3 := flat_at fInt 1 (fun _ => rfl) l i 0 hi (by omega)
      have h4 := hcell i (by rw [flat_length fInt 1 (fun _ => rfl)]; omega)
      rw [show i = i * 1 + 0 by omega, h3] at h4
      simpa [fInt] using h4
    clear hcell hne hc
    go_enter Try.func7, Try.ntmps7
    go_wp2_with fail
    refine (new_any _).mono ?_
    rintro e w1 ⟨rfl, rfl⟩
    go_wp2_with fail
    go_loopw [6] (fun i wr => ∃ k : Nat, k ≤ l.length ∧ i = .int .i64 k ∧ Ch (fun _ => False) w wr ∧ ∃ e n g, LeaseAt 41 wr w.heap.size e n g ∧ (0 < k → (∀ h : k - 1 < l.length, e = l[k - 1]) ∧ n = k - 1 + 8 - 3 ∧ g = true)) (fun i _ => (l.length - intOf i).toNat)
    case atStart => exact ⟨0, by omega, rfl, (Ch.refl _ _).alloc _, _, _, _, Blk.new _ _ _, fun h => by omega⟩
    case round =>
      obtain ⟨k, hk, rfl, hch, e0, n0, g0, hat, hlast⟩ := hrel
      by_cases hkl : k < l.length
      · have hcw : wr.cell? ⟨b, off + k, none⟩ = some (.int .i64 l[k]) := ((hch.below (Nat.le_refl _) fun _ _ h => h).cell (p := ⟨b, off + k, none⟩) hblt).trans (hcb k hkl)
        have HC := Lib.hid hcb; clear hcb
        have HL := Lib.hid hlast; clear hlast
        go_wp2_with fail
        refine (grant_any _ _ _ _ _ _ _ hat (by omega) (by omega)).mono ?_
        rintro e w1 ⟨rfl, h', hc'⟩
        have hcw1 : w1.cell? ⟨b, off + k, none⟩ = some (.int .i64 l[k]) := by
          have := hc'.block b (Nat.lt_of_lt_of_le hblt hch.size) (by show ¬ b = _; omega)
          rw [World.cell?_of_block (w := wr) this]; exact hcw
        clear hcw
        have l1 : live (k + 8 - 3) true k = true := by unfold live; simp; omega
        go_wp2_with fail
        go_quiet ((first | (go_at_call 15; refine Calls.quiet_of_same (epoch_any _ _ _ _ _ h')) | (go_at_call 10; refine Calls.quiet_of_same (live_any _ _ _ _ _ _ h'))))
        go_wp2_with fail
        go_roundw
        case rel => exact ⟨k + 1, by omega, by go_num, (hch.then hc' fun i hi e => by omega).drewN _, _, _, _, h', fun _ => ⟨fun _ => rfl, by omega, rfl⟩⟩
        case measure => simp [intOf]; omega
      · have hkl' : k = l.length := by omega
        subst hkl'
        obtain ⟨he, rfl, rfl⟩ := hlast (by omega)
        have he0 := he (by omega)
        subst he0
        have hcw : wr.cell? ⟨b, off + (l.length - 1), none⟩ = some (.int .i64 l[l.length - 1]) := ((hch.below (Nat.le_refl _) fun _ _ h => h).cell (p := ⟨b, off + (l.length - 1), none⟩) hblt).trans (hcb _ _)
        clear hcb he
        cases drop
        · have l1 : live (l.length - 1 + 8 - 3) true (l.length - 1) = true := by unfold live; simp; omega
          have l2 : live (l.length - 1 + 8 - 3) true 1099511627776 = false := by unfold live; simp; omega
          go_wp2_with fail
          have s0 : (0 : Int) ≤ l.length - 1 := by omega
          have s1 : ((l.length : Int) - 1).toNat = l.length - 1 := by omega
          have s2 : (l.length : Int) - 1 < l.length := by omega
          have s3 : IntKind.i64.wrap ((l.length : Int) - 1) = l.length - 1 := IntWalk.i64_in _ (by omega)
          refine wp_region_still_tail 25 (by kernel_rfl) (by kernel_rfl) ?_
          simp only [List.take_succ_cons, List.take_zero, List.drop_succ_cons, List.drop_zero]
          repeat (first | still_step | still_call (epoch_any wr.drew _ _ _ _ hat) | still_call (live_any wr.drew _ _ _ _ _ hat))
          refine wpStill_nil ?_
          change wpList _ _ _ _ _ wr.drew
          clear s0 s1 s2 s3
          go_wp2_with fail
          refine (known_any _).mono ?_
          rintro e w6 ⟨rfl, hkn⟩
          go_wp2_with fail
          go_ret
          exact ⟨rfl, (hch.drew.then hkn fun i hi e => e).below (Nat.le_refl _) fun _ _ h => h⟩
        · have l1 : live (l.length - 1 + 8 - 3) false (l.length - 1) = false := rfl
          have l2 : live (l.length - 1 + 8 - 3) false 1099511627776 = false := rfl
          go_wp2_with fail
          refine (drop_any _ _ _ _ _ hat).mono ?_
          rintro e w1 ⟨rfl, h', hc'⟩
          have hcw1 : w1.cell? ⟨b, off + (l.length - 1), none⟩ = some (.int .i64 l[l.length - 1]) := by
            have := hc'.block b (Nat.lt_of_lt_of_le hblt hch.size) (by show ¬ b = _; omega)
            rw [World.cell?_of_block (w := wr) this]; exact hcw
          clear hcw
          have c1 := (hch.then hc' fun i hi e => by omega)
          clear hch hc'
          go_wp2_with fail
          have s0 : (0 : Int) ≤ l.length - 1 := by omega
          have s1 : ((l.length : Int) - 1).toNat = l.length - 1 := by omega
          have s2 : (l.length : Int) - 1 < l.length := by omega
          have s3 : IntKind.i64.wrap ((l.length : Int) - 1) = l.length - 1 := IntWalk.i64_in _ (by omega)
          refine wp_region_still_tail 25 (by kernel_rfl) (by kernel_rfl) ?_
          simp only [List.take_succ_cons, List.take_zero, List.drop_succ_cons, List.drop_zero]
          repeat (first | still_step | still_call (epoch_any w1.drew _ _ _ _ h') | still_call (live_any w1.drew _ _ _ _ _ h'))
          refine wpStill_nil ?_
          change wpList _ _ _ _ _ w1.drew
          clear s0 s1 s2 s3
          go_wp2_with fail
          refine (known_any _).mono ?_
          rintro e w6 ⟨rfl, hkn⟩
          go_wp2_with fail
          go_ret
          exact ⟨rfl, (c1.drew.then hkn fun i hi e => e).below (Nat.le_refl _) fun _ _ h => h⟩
  · go_enter Try.func7, Try.ntmps7
    go_wp2_with fail
    all_goals (go_ret; exact ⟨rfl, Below.refl _ _⟩)
end Go.Proofs.Ytfbecdldiiadlaa.leaseEpochs
