/-
  The walk of LeaseMargin: it answers true, and turns nothing that was there. No condition.
-/
import Derived.Test.YtfbecdldiiadlaaFns
namespace Go.Proofs.Ytfbecdldiiadlaa.leaseMargin
open Go.ChangeShapes Go.WideShapes Go.ChangeAt Go.RowKit
set_option linter.unusedVariables false

theorem walk (w : World) (t : Int) (w0 : (Lit.int .i64 t).wf = true) (ao : Option Addr) (cap : Nat) (l : List Bool) (hl : l.length ≤ cap) (hm : cap ≤ maxLen) (hr : ∀ a ∈ l, True) (hc : Cells w ao (l.flatMap fBool)) :
    Calls Try.prog 3 #[.int .i64 t, .slice ao l.length cap] w fun e w' => e = .returned (.bool true) ∧ Below w.heap.size w w' := by
  clear w0 hr
  have hlen : l.length ≤ 9223372036854775807 := by unfold maxLen at hm; omega
  clear hm
  by_cases hg : 0 ≤ t ∧ t ≤ 1000000 ∧ 8 ≤ l.length
  · obtain ⟨h0, h1, h2⟩ := hg
    have hne : l.flatMap fBool ≠ [] := by
      intro h
      have := flat_length fBool 1 (fun _ => rfl) l
      rw [h] at this
      simp at this
      omega
    obtain ⟨b, off, rfl, hblt, hcell⟩ := hc hne
    have hcb : ∀ i, i < l.length → ∃ v : Bool, w.cell? ⟨b, off + i, none⟩ = some (.bool v) := fun i hi => by
      have h3 := flat_at fBool 1 (fun _ => rfl) l i 0 hi (by omega)
      have h4 := hcell i (by rw [flat_length fBool 1 (fun _ => rfl)]; omega)
      rw [show i = i * 1 + 0 by omega, h3] at h4
      exact ⟨l[i], by simpa [fBool] using h4⟩
    clear hcell hne hc
    go_enter Try.func3, Try.ntmps3
    go_wp2_with fail
    refine (new_any _).mono ?_
    rintro e w1 ⟨rfl, rfl⟩
    go_wp2_with fail
    refine (grant_any _ _ _ _ _ _ _ (Blk.new _ _ _) (by omega) (by omega)).mono ?_
    rintro e w1 ⟨rfl, h, hch⟩
    have c1 := ((Ch.refl (fun _ => False) w).alloc (.cells #[.int .i64 0, .int .i64 0, .bool false] 41)).then hch (fun i hi e => by omega)
    have hcw : ∀ i, i < l.length → ∃ v : Bool, w1.cell? ⟨b, off + i, none⟩ = some (.bool v) := fun i hi => by
      obtain ⟨v, hv⟩ := hcb i hi
      exact ⟨v, ((c1.below (Nat.le_refl _) fun _ _ h => h).cell (p := ⟨b, off + i, none⟩) hblt).trans hv⟩
    clear hcb hch
    go_wp2_with fail
    go_loop [6, 7, 8] (fun p q i => ∃ (k : Nat) (x : Int), k ≤ 8 ∧ i = .int .i64 k ∧ 0 ≤ x ∧ x ≤ k ∧ p = .int .i64 x ∧ q = .int .i64 (t + k - x)) (fun _ _ i => (8 - intOf i).toNat)
    case atStart => exact ⟨0, 0, by omega, rfl, by omega, by omega, rfl, by go_num⟩
    case round =>
      obtain ⟨k, x, hk, rfl, hx0, hx1, rfl, rfl⟩ := hrel
      by_cases hk8 : k < 8
      · obtain ⟨v, hv⟩ := hcw k (by omega)
        clear hcw
        cases v
        · go_wp2_with fail
          go_round
          case rel => exact ⟨k + 1, x, by omega, by go_num, by omega, by omega, rfl, by go_num⟩
          case measure => simp [intOf]; omega
        · go_wp2_with fail
          go_round
          case rel => exact ⟨k + 1, x + 1, by omega, by go_num, by omega, by omega, rfl, by go_num⟩
          case measure => simp [intOf]; omega
      · have hk8' : k = 8 := by omega
        clear hcw
        by_cases hx3 : 3 < x
        · have l0 : live (t + 8 - 3) true (t + 8 - x) = true := by unfold live; simp; omega
          subst hk8'
          go_wp2_with fail
          refine (live_any _ _ _ _ _ _ h).mono ?_
          rintro e w2 ⟨rfl, rfl⟩
          go_wp2_with fail
          refine (known_any _).mono ?_
          rintro e w6 ⟨rfl, hkn⟩
          go_wp2_with fail
          go_ret
          exact ⟨rfl, (c1.then hkn fun i hi e => e).below (Nat.le_refl _) fun _ _ h => h⟩
        · have l0 : live (t + 8 - 3) true (t + 8 - x) = false := by unfold live; simp; omega
          subst hk8'
          go_wp2_with fail
          refine (live_any _ _ _ _ _ _ h).mono ?_
          rintro e w2 ⟨rfl, rfl⟩
          go_wp2_with fail
          refine (known_any _).mono ?_
          rintro e w6 ⟨rfl, hkn⟩
          go_wp2_with fail
          go_ret
          exact ⟨rfl, (c1.then hkn fun i hi e => e).below (Nat.le_refl _) fun _ _ h => h⟩
  · go_enter Try.func3, Try.ntmps3
    go_wp2_with fail
    all_goals (go_ret; exact ⟨rfl, Below.refl _ _⟩)
end Go.Proofs.Ytfbecdldiiadlaa.leaseMargin
