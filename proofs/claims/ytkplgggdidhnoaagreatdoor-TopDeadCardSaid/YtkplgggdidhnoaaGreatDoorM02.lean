/-
  The contracts of the functions of relay: what each does to the one block that holds the Relay, and what it answers. Conditions: those on the numbers that stand in each (no count near the end of int). The contracts of the functions of lease: what each does to the one block that holds the Lease. No condition but the bounds on ticks that stand in each.
-/
import Derived.Test.YtkplgggdidhnoaaGreatDoorM00
import Derived.Test.YtkplgggdidhnoaaGreatDoorProg
import Derived.WalkLawsBesides
import Derived.WalkSpells
import Derived.Deep.QuietTactic
import Derived.BigQuiet
import Derived.OpenShut
namespace Go.Proofs.YtkplgggdidhnoaaGreatDoor
open Go.ChangeShapes Go.WideShapes Go.ChangeAt Go.RowKit
set_option linter.unusedVariables false

/-- What a Relay holds. -/
structure St where
  now : Int
  own : Int
  con : Int
  asked : Int
  free : Int
  epoch : Int
  last : Int

/-- The numbers are far from the ends of int. -/
structure St.Ok (s : St) : Prop where
  n0 : 0 ≤ s.now
  n1 : s.now ≤ 1099511627776
  o0 : -1 ≤ s.own
  o1 : s.own ≤ 1
  a0 : 0 ≤ s.asked
  a1 : s.asked ≤ s.now
  e0 : 0 ≤ s.epoch
  e1 : s.epoch ≤ 4611686018427387904

/-- The Relay of the program at block b. -/
def RelayAt (w : World) (b : Nat) (s : St) : Prop :=
  Blk w b 102 #[.int .i64 s.now, .int .i64 s.own, .int .i64 s.con, .int .i64 s.asked, .int .i64 s.free, .int .i64 s.epoch, .int .i64 s.last]

def St.new : St := ⟨0, -1, -1, 0, 0, 0, 0⟩
theorem St.new_ok : St.new.Ok := ⟨by decide, by decide, by decide, by decide, by decide, by decide, by decide, by decide⟩
/-- Begin. -/
def St.begin (s : St) (n : Int) : St :=
  if n ≤ s.now ∨ 1099511627776 < n then s
  else if s.own ≠ -1 ∧ 8 ≤ n - s.asked then { s with now := n, con := -1, own := -1, free := n + 2 } else { s with now := n, con := -1 }
theorem St.begin_ok {s : St} (h : s.Ok) (n : Int) : (s.begin n).Ok := by
  have := h.n0; have := h.a1
  unfold St.begin
  split
  · exact h
  · split
    · exact ⟨by show 0 ≤ n; omega, by show n ≤ _; omega, by show (-1 : Int) ≤ -1; omega, by show (-1 : Int) ≤ 1; omega, h.a0, by show s.asked ≤ n; omega, h.e0, h.e1⟩
    · exact ⟨by show 0 ≤ n; omega, by show n ≤ _; omega, h.o0, h.o1, h.a0, by show s.asked ≤ n; omega, h.e0, h.e1⟩
/-- Ask: the Relay behind it, the epoch, the count, the error. -/
def St.ask (s : St) (u c : Int) : St × Int × Int × Int :=
  if u < 0 ∨ 2 ≤ u ∨ c < 0 then (s, 0, 0, 1)
  else if s.own = u then ({ s with con := u, asked := s.now, last := c }, s.epoch, s.last, 0)
  else if s.own = -1 ∧ s.free ≤ s.now then ({ s with own := u, asked := s.now, epoch := s.epoch + 1 }, s.epoch + 1, s.last, 0)
  else (s, 0, 0, 8)
theorem St.ask_ok {s : St} (h : s.Ok) (he : s.epoch < 4611686018427387904) (u c : Int) : (s.ask u c).1.Ok := by
  have := h.n0; have := h.n1
  unfold St.ask
  split
  · exact h
  · split
    · exact ⟨h.n0, h.n1, h.o0, h.o1, h.n0, Int.le_refl _, h.e0, h.e1⟩
    · split
      · have := h.e0
        exact ⟨h.n0, h.n1, by show -1 ≤ u; omega, by show u ≤ 1; omega, h.n0, Int.le_refl _, by show 0 ≤ s.epoch + 1; omega, by show s.epoch + 1 ≤ _; omega⟩
      · exact h
/-- Yield: the Relay behind it, the error. -/
def St.yield (s : St) (u : Int) : St × Int :=
  if s.own = -1 ∨ s.own ≠ u then (s, 7) else ({ s with own := -1, free := s.now + 2, con := -1 }, 0)
theorem St.yield_ok {s : St} (h : s.Ok) (u : Int) : (s.yield u).1.Ok := by
  unfold St.yield
  split
  · exact h
  · exact ⟨h.n0, h.n1, by show (-1 : Int) ≤ -1; omega, by show (-1 : Int) ≤ 1; omega, h.a0, h.a1, h.e0, h.e1⟩

theorem relay_new (w : World) : Calls Tryz.prog 23 #[] w fun e w' => e = .returned (.pointer (some ⟨w.heap.size, 0, none⟩)) ∧ RelayAt w' w.heap.size St.new ∧ Ch (fun _ => False) w w' := by
  go_enter Tryz.func23, Tryz.ntmps23
  go_wp2
  go_ret
  exact ⟨rfl, Blk.new _ _ _, (Ch.refl _ _).alloc _⟩

theorem relay_lets (w : World) (b : Nat) (s : St) (h : RelayAt w b s) (h0 : 0 ≤ s.now) (h1 : s.now ≤ 1099511627776) :
    Calls Tryz.prog 47 #[.pointer (some ⟨b, 0, none⟩)] w fun e w' => e = .returned (.tuple #[]) ∧ RelayAt w' b { s with own := -1, free := s.now + 2 } ∧ Ch (fun k => k = b) w w' := by
  have c0 := h.cell 0
  have c1 := h.cell 1
  have c4 := h.cell 4
  have f1 := h.free 1
  have f4 := h.free 4
  go_enter Tryz.func47, Tryz.ntmps47
  go_wp2
  go_end0
  exact ⟨rfl, by unfold RelayAt; have := (h.set 1 (.int .i64 (-1))).set 4 (.int .i64 (s.now + 2)); simpa using this, ((Ch.refl _ _).set1 _ _).set1 _ _⟩

set_option maxHeartbeats 1000000 in
theorem relay_begin (w : World) (b : Nat) (s : St) (n : Int) (h : RelayAt w b s) (hs : s.Ok) :
    Calls Tryz.prog 26 #[.pointer (some ⟨b, 0, none⟩), .int .i64 n] w fun e w' => e = .returned (.tuple #[]) ∧ RelayAt w' b (s.begin n) ∧ Ch (fun k => k = b) w w' := by
  have hn0 := hs.n0
  have hn1 := hs.n1
  have ha0 := hs.a0
  have ha1 := hs.a1
  clear hs
  have c0 : w.cell? ⟨b, 0, none⟩ = some (.int .i64 s.now) := h.cell 0
  have c1 : w.cell? ⟨b, 1, none⟩ = some (.int .i64 s.own) := h.cell 1
  have c2 := h.cell 2
  have c3 : w.cell? ⟨b, 3, none⟩ = some (.int .i64 s.asked) := h.cell 3
  have f0 := h.free 0
  have f2 := h.free 2
  by_cases hg : n ≤ s.now ∨ 1099511627776 < n
  · have hb : s.begin n = s := by unfold St.begin; rw [if_pos hg]
    rw [hb]
    clear hb
    by_cases h1 : n ≤ s.now
    · go_enter Tryz.func26, Tryz.ntmps26
      go_wp2_with fail
      refine bodyPost_ret (results_none rfl _ _ _) rfl ?_
      exact ⟨rfl, h, Ch.refl _ _⟩
    · have h2 : 1099511627776 < n := by omega
      go_enter Tryz.func26, Tryz.ntmps26
      go_wp2_with fail
      refine bodyPost_ret (results_none rfl _ _ _) rfl ?_
      exact ⟨rfl, h, Ch.refl _ _⟩
  · have h1 : s.now < n := by omega
    have h2 : n ≤ 1099511627776 := by omega
    have R : RelayAt ((w.setCell ⟨b, 0, none⟩ (.int .i64 n)).setCell ⟨b, 2, none⟩ (.int .i64 (-1))) b { s with now := n, con := -1 } := by
      unfold RelayAt; have := (h.set 0 (.int .i64 n)).set 2 (.int .i64 (-1)); simpa using this
    have C : Ch (fun k => k = b) w ((w.setCell ⟨b, 0, none⟩ (.int .i64 n)).setCell ⟨b, 2, none⟩ (.int .i64 (-1))) := ((Ch.refl _ _).set1 _ _).set1 _ _
    have HB : Hid (s.begin n = if s.own ≠ -1 ∧ 8 ≤ n - s.asked then { s with now := n, con := -1, own := -1, free := n + 2 } else { s with now := n, con := -1 }) := by
      unfold Hid St.begin; rw [if_neg hg]
    clear hg
    by_cases ho : s.own = -1
    · have ho' : (s.own == -1) = true := by simpa using ho
      have ho2 : (s.own != -1) = false := by simpa using ho
      rw [HB.out, if_neg (by omega)]
      have HO := Lib.hid ho; clear ho
      go_enter Tryz.func26, Tryz.ntmps26
      go_wp2_with fail
      go_end0
      exact ⟨rfl, R, C⟩
    · have ho' : (s.own == -1) = false := by simpa using ho
      have ho2 : (s.own != -1) = true := by simpa using ho
      by_cases h8 : 8 ≤ n - s.asked
      · rw [HB.out, if_pos ⟨ho, h8⟩]
        clear ho
        go_enter Tryz.func26, Tryz.ntmps26
        go_wp2_with fail
        refine (relay_lets _ _ _ R (by show 0 ≤ n; omega) h2).mono ?_
        rintro e w1 ⟨rfl, R1, C1⟩
        go_wp2_with fail
        go_end0
        exact ⟨rfl, R1, C.trans C1⟩
      · rw [HB.out, if_neg (by omega)]
        clear ho
        go_enter Tryz.func26, Tryz.ntmps26
        go_wp2_with fail
        go_end0
        exact ⟨rfl, R, C⟩

/-- What Ask returns. -/
def askVal (r : St × Int × Int × Int) : Value := .tuple #[.int .i64 r.2.1, .int .i64 r.2.2.1, .int .i64 r.2.2.2]

set_option maxHeartbeats 2000000 in
set_option maxRecDepth 100000 in
theorem relay_ask (w : World) (b : Nat) (s : St) (u c : Int) (h : RelayAt w b s) (he0 : 0 ≤ s.epoch) (he1 : s.epoch ≤ 4611686018427387904) :
    Calls Tryz.prog 65 #[.pointer (some ⟨b, 0, none⟩), .int .i64 u, .int .i64 c] w fun e w' => e = .returned (askVal (s.ask u c)) ∧ RelayAt w' b (s.ask u c).1 ∧ Ch (fun k => k = b) w w' := by
  have c0 : w.cell? ⟨b, 0, none⟩ = some (.int .i64 s.now) := h.cell 0
  have c1 : w.cell? ⟨b, 1, none⟩ = some (.int .i64 s.own) := h.cell 1
  have c2 : w.cell? ⟨b, 2, none⟩ = some (.int .i64 s.con) := h.cell 2
  have c3 : w.cell? ⟨b, 3, none⟩ = some (.int .i64 s.asked) := h.cell 3
  have c4 : w.cell? ⟨b, 4, none⟩ = some (.int .i64 s.free) := h.cell 4
  have c5 : w.cell? ⟨b, 5, none⟩ = some (.int .i64 s.epoch) := h.cell 5
  have c6 : w.cell? ⟨b, 6, none⟩ = some (.int .i64 s.last) := h.cell 6
  have f1 := h.free 1
  have f2 := h.free 2
  have f3 := h.free 3
  have f5 := h.free 5
  have f6 := h.free 6
  by_cases hg : u < 0 ∨ 2 ≤ u ∨ c < 0
  · have HA : Hid (s.ask u c = (s, 0, 0, 1)) := by unfold Hid St.ask; rw [if_pos hg]
    rw [HA.out]
    go_enter Tryz.func65, Tryz.ntmps65
    go_wp2_with fail
    all_goals go_ret3
    all_goals exact ⟨rfl, h, Ch.refl _ _⟩
  · have hu0 : 0 ≤ u := by omega
    have hu1 : u < 2 := by omega
    have hc0 : 0 ≤ c := by omega
    by_cases ho : s.own = u
    · have HA : Hid (s.ask u c = ({ s with con := u, asked := s.now, last := c }, s.epoch, s.last, 0)) := by unfold Hid St.ask; rw [if_neg hg, if_pos ho]
      rw [HA.out]
      have ho' : (s.own == u) = true := by simpa using ho
      have R : RelayAt (((w.setCell ⟨b, 2, none⟩ (.int .i64 u)).setCell ⟨b, 3, none⟩ (.int .i64 s.now)).setCell ⟨b, 6, none⟩ (.int .i64 c)) b { s with con := u, asked := s.now, last := c } := by
        unfold RelayAt; have := ((h.set 2 (.int .i64 u)).set 3 (.int .i64 s.now)).set 6 (.int .i64 c); simpa using this
      clear hg ho
      go_enter Tryz.func65, Tryz.ntmps65
      go_wp2_with fail
      go_ret3
      exact ⟨rfl, R, (((Ch.refl _ _).set1 _ _).set1 _ _).set1 _ _⟩
    · have ho' : (s.own == u) = false := by simpa using ho
      by_cases hf : s.own = -1 ∧ s.free ≤ s.now
      · have HA : Hid (s.ask u c = ({ s with own := u, asked := s.now, epoch := s.epoch + 1 }, s.epoch + 1, s.last, 0)) := by unfold Hid St.ask; rw [if_neg hg, if_neg ho, if_pos hf]
        rw [HA.out]
        have ho1 : (s.own == -1) = true := by simpa using hf.1
        have hff := hf.2
        have R : RelayAt (((w.setCell ⟨b, 1, none⟩ (.int .i64 u)).setCell ⟨b, 3, none⟩ (.int .i64 s.now)).setCell ⟨b, 5, none⟩ (.int .i64 (s.epoch + 1))) b { s with own := u, asked := s.now, epoch := s.epoch + 1 } := by
          unfold RelayAt; have := ((h.set 1 (.int .i64 u)).set 3 (.int .i64 s.now)).set 5 (.int .i64 (s.epoch + 1)); simpa using this
        clear hg ho hf
        go_enter Tryz.func65, Tryz.ntmps65
        go_wp2_with fail
        go_quiet (fail)
        go_wp2_with fail
        go_quiet (fail)
        go_wp2_with fail
        go_ret3
        exact ⟨rfl, R, (((((Ch.refl _ _).drewN _).set1 _ _).set1 _ _).set1 _ _).drewN _⟩
      · have HA : Hid (s.ask u c = (s, 0, 0, 8)) := by unfold Hid St.ask; rw [if_neg hg, if_neg ho, if_neg hf]
        rw [HA.out]
        by_cases hf1 : s.own = -1
        · have ho1 : (s.own == -1) = true := by simpa using hf1
          have hff : s.now < s.free := by omega
          have hfd : decide (s.free ≤ s.now) = false := by simp; omega
          clear hg ho hf hf1
          go_enter Tryz.func65, Tryz.ntmps65
          go_wp2_with fail
          go_quiet (fail)
          go_wp2_with fail
          go_ret3
          exact ⟨rfl, h, (Ch.refl _ _).drewN _⟩
        · have ho1 : (s.own == -1) = false := by simpa using hf1
          clear hg ho hf hf1
          go_enter Tryz.func65, Tryz.ntmps65
          go_wp2_with fail
          go_quiet (fail)
          go_wp2_with fail
          go_ret3
          exact ⟨rfl, h, (Ch.refl _ _).drewN _⟩

set_option maxHeartbeats 1000000 in
theorem relay_yield (w : World) (b : Nat) (s : St) (u : Int) (h : RelayAt w b s) (hn0 : 0 ≤ s.now) (hn1 : s.now ≤ 1099511627776) :
    Calls Tryz.prog 64 #[.pointer (some ⟨b, 0, none⟩), .int .i64 u] w fun e w' => e = .returned (.int .i64 (s.yield u).2) ∧ RelayAt w' b (s.yield u).1 ∧ Ch (fun k => k = b) w w' := by
  have c1 : w.cell? ⟨b, 1, none⟩ = some (.int .i64 s.own) := h.cell 1
  by_cases h1 : s.own = -1
  · have HY : Hid (s.yield u = (s, 7)) := by unfold Hid St.yield; rw [if_pos (.inl h1)]
    rw [HY.out]
    have ho : (s.own == -1) = true := by simpa using h1
    clear h1
    go_enter Tryz.func64, Tryz.ntmps64
    go_wp2_with fail
    go_ret
    exact ⟨rfl, h, Ch.refl _ _⟩
  · have ho : (s.own == -1) = false := by simpa using h1
    by_cases h2 : s.own = u
    · have HY : Hid (s.yield u = ({ s with own := -1, free := s.now + 2, con := -1 }, 0)) := by unfold Hid St.yield; rw [if_neg (by omega)]
      rw [HY.out]
      have ho2 : (s.own != u) = false := by simpa using h2
      clear h1 h2
      go_enter Tryz.func64, Tryz.ntmps64
      go_wp2_with fail
      refine (relay_lets _ _ _ h hn0 hn1).mono ?_
      rintro e w1 ⟨rfl, R, C⟩
      have f2 := R.free 2
      have d2 := R.cell 2
      have R2 : RelayAt (w1.setCell ⟨b, 2, none⟩ (.int .i64 (-1))) b { s with own := -1, free := s.now + 2, con := -1 } := by
        unfold RelayAt; have := R.set 2 (.int .i64 (-1)); simpa using this
      go_wp2_with fail
      go_ret
      exact ⟨rfl, R2, C.set1 _ _⟩
    · have HY : Hid (s.yield u = (s, 7)) := by unfold Hid St.yield; rw [if_pos (.inr h2)]
      rw [HY.out]
      have ho2 : (s.own != u) = true := by simpa using h2
      clear h1 h2
      go_enter Tryz.func64, Tryz.ntmps64
      go_wp2_with fail
      go_ret
      exact ⟨rfl, h, Ch.refl _ _⟩

theorem relay_con (w : World) (b : Nat) (s : St) (h : RelayAt w b s) :
    Calls Tryz.prog 37 #[.pointer (some ⟨b, 0, none⟩)] w fun e w' => e = .returned (.int .i64 s.con) ∧ w' = w := by
  have c2 : w.cell? ⟨b, 2, none⟩ = some (.int .i64 s.con) := h.cell 2
  go_enter Tryz.func37, Tryz.ntmps37
  go_wp2
  go_ret
  exact ⟨rfl, rfl⟩
end Go.Proofs.YtkplgggdidhnoaaGreatDoor

namespace Go.Proofs.YtkplgggdidhnoaaGreatDoor
open Go.ChangeShapes Go.WideShapes Go.ChangeAt Go.RowKit
set_option linter.unusedVariables false

/-- The Lease at block b (type 149 the program's, 33 the reference's). -/
def LeaseAt (T : TypeId) (w : World) (b : Nat) (e n : Int) (g : Bool) : Prop := Blk w b T #[.int .i64 e, .int .i64 n, .bool g]
/-- Does it hold at a tick? -/
def live (n : Int) (g : Bool) (t : Int) : Bool := g && decide (t < n)

theorem lease_new (w : World) : Calls Tryz.prog 46 #[] w fun e w' => e = .returned (.pointer (some ⟨w.heap.size, 0, none⟩)) ∧ w' = w.alloc (.cells #[.int .i64 0, .int .i64 0, .bool false] 149) := by
  go_enter Tryz.func46, Tryz.ntmps46
  go_wp2
  go_ret
  exact ⟨rfl, rfl⟩

theorem lease_grant (w : World) (b : Nat) (e n x y : Int) (g : Bool) (h : LeaseAt 149 w b e n g) (h0 : -1000 ≤ y) (h1 : y ≤ 2000000000000) :
    Calls Tryz.prog 102 #[.pointer (some ⟨b, 0, none⟩), .int .i64 x, .int .i64 y] w fun r w' => r = .returned (.tuple #[]) ∧ LeaseAt 149 w' b x (y + 8 - 3) true ∧ Ch (fun k => k = b) w w' := by
  have c0 := h.cell 0
  have c1 := h.cell 1
  have c2 := h.cell 2
  have f0 := h.free 0
  have f1 := h.free 1
  have f2 := h.free 2
  go_enter Tryz.func102, Tryz.ntmps102
  go_wp2
  go_end0
  exact ⟨rfl, by unfold LeaseAt; have := ((h.set 0 (.int .i64 x)).set 1 (.int .i64 (y + 8 - 3))).set 2 (.bool true); simpa using this, (((Ch.refl _ _).set1 _ _).set1 _ _).set1 _ _⟩

theorem lease_drop (w : World) (b : Nat) (e n : Int) (g : Bool) (h : LeaseAt 149 w b e n g) :
    Calls Tryz.prog 87 #[.pointer (some ⟨b, 0, none⟩)] w fun r w' => r = .returned (.tuple #[]) ∧ LeaseAt 149 w' b e n false ∧ Ch (fun k => k = b) w w' := by
  have c2 := h.cell 2
  have f2 := h.free 2
  go_enter Tryz.func87, Tryz.ntmps87
  go_wp2
  go_end0
  exact ⟨rfl, by unfold LeaseAt; have := h.set 2 (.bool false); simpa using this, (Ch.refl _ _).set1 _ _⟩

theorem lease_epoch (w : World) (b : Nat) (e n : Int) (g : Bool) (h : LeaseAt 149 w b e n g) :
    Calls Tryz.prog 101 #[.pointer (some ⟨b, 0, none⟩)] w fun r w' => r = .returned (.int .i64 e) ∧ w' = w := by
  have c0 := h.cell 0
  go_enter Tryz.func101, Tryz.ntmps101
  go_wp2
  go_ret
  exact ⟨rfl, rfl⟩

theorem lease_live (w : World) (b : Nat) (e n t : Int) (g : Bool) (h : LeaseAt 149 w b e n g) :
    Calls Tryz.prog 53 #[.pointer (some ⟨b, 0, none⟩), .int .i64 t] w fun r w' => r = .returned (.bool (live n g t)) ∧ w' = w := by
  have c1 := h.cell 1
  have c2 := h.cell 2
  cases g
  · go_enter Tryz.func53, Tryz.ntmps53
    go_wp2
    go_ret
    exact ⟨rfl, rfl⟩
  · go_enter Tryz.func53, Tryz.ntmps53
    go_wp2
    go_ret
    exact ⟨by simp [live], rfl⟩
end Go.Proofs.YtkplgggdidhnoaaGreatDoor
