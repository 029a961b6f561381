/-
  The contracts of the functions of lease and of its reference: what each does to the one block that holds the Lease. No condition but the bounds on ticks that stand in each.
-/
import Derived.Test.YtfbecdldiiadlaaBase
import Derived.Test.YtfbecdldiiadlaaProg
import Derived.OpenShut
import Derived.WalkLawsBesides
import Derived.WalkSpells
namespace Go.Proofs.Ytfbecdldiiadlaa
open Go.ChangeShapes Go.WideShapes Go.ChangeAt Go.RowKit
set_option linter.unusedVariables false

/-- The Lease at block b (type 41 the program's, 33 the reference's). -/
def LeaseAt (T : TypeId) (w : World) (b : Nat) (e n : Int) (g : Bool) : Prop := Blk w b T #[.int .i64 e, .int .i64 n, .bool g]
/-- Does it hold at a tick? -/
def live (n : Int) (g : Bool) (t : Int) : Bool := g && decide (t < n)

theorem new_any (w : World) : Calls Try.prog 8 #[] w fun e w' => e = .returned (.pointer (some ⟨w.heap.size, 0, none⟩)) ∧ w' = w.alloc (.cells #[.int .i64 0, .int .i64 0, .bool false] 41) := by
  go_enter Try.func8, Try.ntmps8
  go_wp2
  go_ret
  exact ⟨rfl, rfl⟩

theorem grant_any (w : World) (b : Nat) (e n x y : Int) (g : Bool) (h : LeaseAt 41 w b e n g) (h0 : -1000 ≤ y) (h1 : y ≤ 2000000000000) :
    Calls Try.prog 9 #[.pointer (some ⟨b, 0, none⟩), .int .i64 x, .int .i64 y] w fun r w' => r = .returned (.tuple #[]) ∧ LeaseAt 41 w' b x (y + 8 - 3) true ∧ Ch (fun k => k = b) w w' := by
  have c0 := h.cell 0
  have c1 := h.cell 1
  have c2 := h.cell 2
  have f0 := h.free 0
  have f1 := h.free 1
  have f2 := h.free 2
  go_enter Try.func9, Try.ntmps9
  go_wp2
  go_end0
  exact ⟨rfl, by unfold LeaseAt; have := ((h.set 0 (.int .i64 x)).set 1 (.int .i64 (y + 8 - 3))).set 2 (.bool true); simpa using this, (((Ch.refl _ _).set1 _ _).set1 _ _).set1 _ _⟩

theorem grant_ref (w : World) (b : Nat) (e n x y : Int) (g : Bool) (h : LeaseAt 33 w b e n g) (h0 : -1000 ≤ y) (h1 : y ≤ 2000000000000) :
    Calls Try.prog 12 #[.pointer (some ⟨b, 0, none⟩), .int .i64 x, .int .i64 y] w fun r w' => r = .returned (.tuple #[]) ∧ LeaseAt 33 w' b x (y + 8 - 3) true ∧ Ch (fun k => k = b) w w' := by
  have c0 := h.cell 0
  have c1 := h.cell 1
  have c2 := h.cell 2
  have f0 := h.free 0
  have f1 := h.free 1
  have f2 := h.free 2
  go_enter Try.func12, Try.ntmps12
  go_wp2
  go_end0
  exact ⟨rfl, by unfold LeaseAt; have := ((h.set 0 (.int .i64 x)).set 1 (.int .i64 (y + 8 - 3))).set 2 (.bool true); simpa using this, (((Ch.refl _ _).set1 _ _).set1 _ _).set1 _ _⟩

theorem drop_any (w : World) (b : Nat) (e n : Int) (g : Bool) (h : LeaseAt 41 w b e n g) :
    Calls Try.prog 13 #[.pointer (some ⟨b, 0, none⟩)] w fun r w' => r = .returned (.tuple #[]) ∧ LeaseAt 41 w' b e n false ∧ Ch (fun k => k = b) w w' := by
  have c2 := h.cell 2
  have f2 := h.free 2
  go_enter Try.func13, Try.ntmps13
  go_wp2
  go_end0
  exact ⟨rfl, by unfold LeaseAt; have := h.set 2 (.bool false); simpa using this, (Ch.refl _ _).set1 _ _⟩

theorem drop_ref (w : World) (b : Nat) (e n : Int) (g : Bool) (h : LeaseAt 33 w b e n g) :
    Calls Try.prog 14 #[.pointer (some ⟨b, 0, none⟩)] w fun r w' => r = .returned (.tuple #[]) ∧ LeaseAt 33 w' b e n false ∧ Ch (fun k => k = b) w w' := by
  have c2 := h.cell 2
  have f2 := h.free 2
  go_enter Try.func14, Try.ntmps14
  go_wp2
  go_end0
  exact ⟨rfl, by unfold LeaseAt; have := h.set 2 (.bool false); simpa using this, (Ch.refl _ _).set1 _ _⟩

theorem epoch_any (w : World) (b : Nat) (e n : Int) (g : Bool) (h : LeaseAt 41 w b e n g) :
    Calls Try.prog 15 #[.pointer (some ⟨b, 0, none⟩)] w fun r w' => r = .returned (.int .i64 e) ∧ w' = w := by
  have c0 := h.cell 0
  go_enter Try.func15, Try.ntmps15
  go_wp2
  go_ret
  exact ⟨rfl, rfl⟩

theorem live_any (w : World) (b : Nat) (e n t : Int) (g : Bool) (h : LeaseAt 41 w b e n g) :
    Calls Try.prog 10 #[.pointer (some ⟨b, 0, none⟩), .int .i64 t] w fun r w' => r = .returned (.bool (live n g t)) ∧ w' = w := by
  have c1 := h.cell 1
  have c2 := h.cell 2
  cases g
  · go_enter Try.func10, Try.ntmps10
    go_wp2
    go_ret
    exact ⟨rfl, rfl⟩
  · go_enter Try.func10, Try.ntmps10
    go_wp2
    go_ret
    exact ⟨by simp [live], rfl⟩

theorem live_ref (w : World) (b : Nat) (e n t : Int) (g : Bool) (h : LeaseAt 33 w b e n g) :
    Calls Try.prog 16 #[.pointer (some ⟨b, 0, none⟩), .int .i64 t] w fun r w' => r = .returned (.bool (live n g t)) ∧ w' = w := by
  have c1 := h.cell 1
  have c2 := h.cell 2
  cases g
  · go_enter Try.func16, Try.ntmps16
    go_wp2
    go_ret
    exact ⟨rfl, rfl⟩
  · go_enter Try.func16, Try.ntmps16
    go_wp2
    go_ret
    exact ⟨by simp [live], rfl⟩

/-! A nil Lease. -/
theorem grant_nil (w : World) (x y : Int) (h0 : -1000 ≤ y) (h1 : y ≤ 2000000000000) :
    Calls Try.prog 9 #[.pointer none, .int .i64 x, .int .i64 y] w fun r w' => r = .returned (.tuple #[]) ∧ w' = w := by
  go_enter Try.func9, Try.ntmps9
  go_wp2
  go_end0
  exact ⟨rfl, rfl⟩
theorem drop_nil (w : World) : Calls Try.prog 13 #[.pointer none] w fun r w' => r = .returned (.tuple #[]) ∧ w' = w := by
  go_enter Try.func13, Try.ntmps13
  go_wp2
  go_end0
  exact ⟨rfl, rfl⟩
theorem live_nil (w : World) (t : Int) : Calls Try.prog 10 #[.pointer none, .int .i64 t] w fun r w' => r = .returned (.bool false) ∧ w' = w := by
  go_enter Try.func10, Try.ntmps10
  go_wp2
  go_ret
  exact ⟨rfl, rfl⟩
theorem epoch_nil (w : World) : Calls Try.prog 15 #[.pointer none] w fun r w' => r = .returned (.int .i64 0) ∧ w' = w := by
  go_enter Try.func15, Try.ntmps15
  go_wp2
  go_ret
  exact ⟨rfl, rfl⟩

theorem known_any (w : World) : Calls Try.prog 11 #[] w fun r w' => r = .returned (.bool true) ∧ Ch (fun _ => False) w w' := by
  go_enter Try.func11, Try.ntmps11
  go_wp2_with fail
  refine (new_any _).mono ?_
  rintro e w1 ⟨rfl, rfl⟩
  go_wp2_with fail
  refine (grant_any _ _ _ _ _ _ _ (Blk.new _ _ _) (by omega) (by omega)).mono ?_
  rintro e w1 ⟨rfl, h, hc⟩
  have hl : live (4 + 8 - 3) true 8 = true := rfl
  have hl9 : live (4 + 8 - 3) true 9 = false := rfl
  go_wp2_with (first | (go_at_call 10; refine (live_any _ _ _ _ _ _ h).mono ?_; rintro e w2 ⟨rfl, rfl⟩) | (go_at_call 15; refine (epoch_any _ _ _ _ _ h).mono ?_; rintro e w2 ⟨rfl, rfl⟩))
  go_ret
  exact ⟨rfl, ((Ch.refl _ w).alloc _).then hc fun i hi e => by omega⟩
end Go.Proofs.Ytfbecdldiiadlaa
