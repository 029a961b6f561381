/-
  The contracts of the reference's Relay, of a nil Relay, and of known. Conditions: those on the numbers that stand in each.
-/
import Derived.Test.YtnolhpblhndomaaRelay
namespace Go.Proofs.Ytnolhpblhndomaa
open Go.ChangeShapes Go.WideShapes Go.ChangeAt Go.RowKit
set_option linter.unusedVariables false

/-- The Relay of the reference at block b. -/
def RefAt (w : World) (b : Nat) (s : St) : Prop :=
  Blk w b 45 #[.int .i64 s.now, .int .i64 s.own, .int .i64 s.con, .int .i64 s.epoch, .int .i64 s.last, .int .i64 s.asked, .int .i64 s.free]

theorem ref_new (w : World) : Calls Try.prog 21 #[] w fun e w' => e = .returned (.pointer (some ⟨w.heap.size, 0, none⟩)) ∧ RefAt w' w.heap.size St.new ∧ Ch (fun _ => False) w w' := by
  go_enter Try.func21, Try.ntmps21
  go_wp2
  go_ret
  exact ⟨rfl, Blk.new _ _ _, (Ch.refl _ _).alloc _⟩

theorem ref_lets (w : World) (b : Nat) (s : St) (h : RefAt w b s) (h0 : 0 ≤ s.now) (h1 : s.now ≤ 1099511627776) :
    Calls Try.prog 26 #[.pointer (some ⟨b, 0, none⟩)] w fun e w' => e = .returned (.tuple #[]) ∧ RefAt w' b { s with own := -1, free := s.now + 2 } ∧ Ch (fun k => k = b) w w' := by
  have c0 := h.cell 0
  have c1 := h.cell 1
  have c6 := h.cell 6
  have f1 := h.free 1
  have f6 := h.free 6
  go_enter Try.func26, Try.ntmps26
  go_wp2
  go_end0
  exact ⟨rfl, by unfold RefAt; have := (h.set 1 (.int .i64 (-1))).set 6 (.int .i64 (s.now + 2)); simpa using this, ((Ch.refl _ _).set1 _ _).set1 _ _⟩

set_option maxHeartbeats 1000000 in
theorem ref_begin (w : World) (b : Nat) (s : St) (n : Int) (h : RefAt w b s) (hs : s.Ok) :
    Calls Try.prog 22 #[.pointer (some ⟨b, 0, none⟩), .int .i64 n] w fun e w' => e = .returned (.tuple #[]) ∧ RefAt w' b (s.begin n) ∧ Ch (fun k => k = b) w w' := by
  have hn0 := hs.n0
  have hn1 := hs.n1
  have ha0 := hs.a0
  have ha1 := hs.a1
  have hb0 := hs.o0
  clear hs
  have c0 : w.cell? ⟨b, 0, none⟩ = some (.int .i64 s.now) := h.cell 0
  have c1 : w.cell? ⟨b, 1, none⟩ = some (.int .i64 s.own) := h.cell 1
  have c2 := h.cell 2
  have c3 : w.cell? ⟨b, 5, none⟩ = some (.int .i64 s.asked) := h.cell 5
  have f0 := h.free 0
  have f2 := h.free 2
  by_cases hg : n ≤ s.now ∨ 1099511627776 < n
  · have hb : s.begin n = s := by unfold St.begin; rw [if_pos hg]
    rw [hb]
    clear hb
    by_cases h1 : n ≤ s.now
    · go_enter Try.func22, Try.ntmps22
      go_wp2_with fail
      refine bodyPost_ret (results_none rfl _ _ _) rfl ?_
      exact ⟨rfl, h, Ch.refl _ _⟩
    · have h2 : 1099511627776 < n := by omega
      go_enter Try.func22, Try.ntmps22
      go_wp2_with fail
      refine bodyPost_ret (results_none rfl _ _ _) rfl ?_
      exact ⟨rfl, h, Ch.refl _ _⟩
  · have h1 : s.now < n := by omega
    have h2 : n ≤ 1099511627776 := by omega
    have R : RefAt ((w.setCell ⟨b, 0, none⟩ (.int .i64 n)).setCell ⟨b, 2, none⟩ (.int .i64 (-1))) b { s with now := n, con := -1 } := by
      unfold RefAt; have := (h.set 0 (.int .i64 n)).set 2 (.int .i64 (-1)); simpa using this
    have C : Ch (fun k => k = b) w ((w.setCell ⟨b, 0, none⟩ (.int .i64 n)).setCell ⟨b, 2, none⟩ (.int .i64 (-1))) := ((Ch.refl _ _).set1 _ _).set1 _ _
    have HB : Hid (s.begin n = if s.own ≠ -1 ∧ 8 ≤ n - s.asked then { s with now := n, con := -1, own := -1, free := n + 2 } else { s with now := n, con := -1 }) := by
      unfold Hid St.begin; rw [if_neg hg]
    clear hg
    by_cases ho : s.own = -1
    · have ho' : s.own < 0 := by omega
      rw [HB.out, if_neg (by omega)]
      have HO := Lib.hid ho; clear ho
      go_enter Try.func22, Try.ntmps22
      go_wp2_with fail
      go_end0
      exact ⟨rfl, R, C⟩
    · have ho' : 0 ≤ s.own := by omega
      by_cases h8 : 8 ≤ n - s.asked
      · rw [HB.out, if_pos ⟨ho, h8⟩]
        clear ho
        go_enter Try.func22, Try.ntmps22
        go_wp2_with fail
        refine (ref_lets _ _ _ R (by show 0 ≤ n; omega) h2).mono ?_
        rintro e w1 ⟨rfl, R1, C1⟩
        go_wp2_with fail
        go_end0
        exact ⟨rfl, R1, C.trans C1⟩
      · rw [HB.out, if_neg (by omega)]
        clear ho
        go_enter Try.func22, Try.ntmps22
        go_wp2_with fail
        go_end0
        exact ⟨rfl, R, C⟩

set_option maxHeartbeats 2000000 in
set_option maxRecDepth 100000 in
theorem ref_ask (w : World) (b : Nat) (s : St) (u c : Int) (h : RefAt w b s) (hs : s.Ok) :
    Calls Try.prog 23 #[.pointer (some ⟨b, 0, none⟩), .int .i64 u, .int .i64 c] w fun e w' => e = .returned (askVal (s.ask u c)) ∧ RefAt w' b (s.ask u c).1 ∧ Ch (fun k => k = b) w w' := by
  have he0 := hs.e0
  have he1 := hs.e1
  have hb0 := hs.o0
  have hb1 := hs.o1
  clear hs
  have c0 : w.cell? ⟨b, 0, none⟩ = some (.int .i64 s.now) := h.cell 0
  have c1 : w.cell? ⟨b, 1, none⟩ = some (.int .i64 s.own) := h.cell 1
  have c2 : w.cell? ⟨b, 2, none⟩ = some (.int .i64 s.con) := h.cell 2
  have c3 : w.cell? ⟨b, 3, none⟩ = some (.int .i64 s.epoch) := h.cell 3
  have c4 : w.cell? ⟨b, 4, none⟩ = some (.int .i64 s.last) := h.cell 4
  have c5 : w.cell? ⟨b, 5, none⟩ = some (.int .i64 s.asked) := h.cell 5
  have c6 : w.cell? ⟨b, 6, none⟩ = some (.int .i64 s.free) := h.cell 6
  have f1 := h.free 1
  have f2 := h.free 2
  have f3 := h.free 3
  have f4 := h.free 4
  have f5 := h.free 5
  by_cases hg : u < 0 ∨ 2 ≤ u ∨ c < 0
  · have HA : Hid (s.ask u c = (s, 0, 0, 1)) := by unfold Hid St.ask; rw [if_pos hg]
    rw [HA.out]
    go_enter Try.func23, Try.ntmps23
    go_wp2_with fail
    all_goals go_ret3
    all_goals exact ⟨rfl, h, Ch.refl _ _⟩
  · have hu0 : 0 ≤ u := by omega
    have hu1 : u < 2 := by omega
    have hu2 : u ≤ 1 := by omega
    have hc0 : 0 ≤ c := by omega
    by_cases ho : s.own = u
    · have HA : Hid (s.ask u c = ({ s with con := u, asked := s.now, last := c }, s.epoch, s.last, 0)) := by unfold Hid St.ask; rw [if_neg hg, if_pos ho]
      rw [HA.out]
      have ho' : (s.own == u) = true := by simpa using ho
      have R : RefAt (((w.setCell ⟨b, 2, none⟩ (.int .i64 u)).setCell ⟨b, 5, none⟩ (.int .i64 s.now)).setCell ⟨b, 4, none⟩ (.int .i64 c)) b { s with con := u, asked := s.now, last := c } := by
        unfold RefAt; have := ((h.set 2 (.int .i64 u)).set 5 (.int .i64 s.now)).set 4 (.int .i64 c); simpa using this
      clear hg ho
      go_enter Try.func23, Try.ntmps23
      go_wp2_with fail
      go_ret3
      exact ⟨rfl, R, (((Ch.refl _ _).set1 _ _).set1 _ _).set1 _ _⟩
    · have ho' : (s.own == u) = false := by simpa using ho
      by_cases hf : s.own = -1 ∧ s.free ≤ s.now
      · have HA : Hid (s.ask u c = ({ s with own := u, asked := s.now, epoch := s.epoch + 1 }, s.epoch + 1, s.last, 0)) := by unfold Hid St.ask; rw [if_neg hg, if_neg ho, if_pos hf]
        rw [HA.out]
        have ho1 : s.own < 0 := by omega
        have hod : decide (s.own < 0) = true := by simp; omega
        have hff := hf.2
        have R : RefAt (((w.setCell ⟨b, 1, none⟩ (.int .i64 u)).setCell ⟨b, 5, none⟩ (.int .i64 s.now)).setCell ⟨b, 3, none⟩ (.int .i64 (s.epoch + 1))) b { s with own := u, asked := s.now, epoch := s.epoch + 1 } := by
          unfold RefAt; have := ((h.set 1 (.int .i64 u)).set 5 (.int .i64 s.now)).set 3 (.int .i64 (s.epoch + 1)); simpa using this
        clear hg ho hf
        go_enter Try.func23, Try.ntmps23
        go_wp2_with fail
        go_quiet (fail)
        go_wp2_with fail
        go_ret3
        exact ⟨rfl, R, (((((Ch.refl _ _).drewN _).set1 _ _).set1 _ _).set1 _ _)⟩
      · have HA : Hid (s.ask u c = (s, 0, 0, 8)) := by unfold Hid St.ask; rw [if_neg hg, if_neg ho, if_neg hf]
        rw [HA.out]
        by_cases hf1 : s.own = -1
        · have ho1 : s.own < 0 := by omega
          have hod : decide (s.own < 0) = true := by simp; omega
          have hff : s.now < s.free := by omega
          have hfd : decide (s.free ≤ s.now) = false := by simp; omega
          clear hg ho hf hf1
          go_enter Try.func23, Try.ntmps23
          go_wp2_with fail
          go_quiet (fail)
          go_wp2_with fail
          go_ret3
          exact ⟨rfl, h, (Ch.refl _ _).drewN _⟩
        · have ho1 : 0 ≤ s.own := by omega
          have hod : decide (s.own < 0) = false := by simp; omega
          clear hg ho hf hf1
          go_enter Try.func23, Try.ntmps23
          go_wp2_with fail
          go_quiet (fail)
          go_wp2_with fail
          go_ret3
          exact ⟨rfl, h, (Ch.refl _ _).drewN _⟩

set_option maxHeartbeats 1000000 in
theorem ref_yield (w : World) (b : Nat) (s : St) (u : Int) (h : RefAt w b s) (hs : s.Ok) :
    Calls Try.prog 24 #[.pointer (some ⟨b, 0, none⟩), .int .i64 u] w fun e w' => e = .returned (.int .i64 (s.yield u).2) ∧ RefAt w' b (s.yield u).1 ∧ Ch (fun k => k = b) w w' := by
  have hn0 := hs.n0
  have hn1 := hs.n1
  have hb0 := hs.o0
  clear hs
  have c1 : w.cell? ⟨b, 1, none⟩ = some (.int .i64 s.own) := h.cell 1
  by_cases hu : u < 0
  · have HY : Hid (s.yield u = (s, 7)) := by unfold Hid St.yield; rw [if_pos (by omega)]
    rw [HY.out]
    go_enter Try.func24, Try.ntmps24
    go_wp2_with fail
    go_ret
    exact ⟨rfl, h, Ch.refl _ _⟩
  · by_cases h2 : s.own = u
    · have HY : Hid (s.yield u = ({ s with own := -1, free := s.now + 2, con := -1 }, 0)) := by unfold Hid St.yield; rw [if_neg (by omega)]
      rw [HY.out]
      have ho2 : (s.own != u) = false := by simpa using h2
      clear h2
      go_enter Try.func24, Try.ntmps24
      go_wp2_with fail
      refine (ref_lets _ _ _ h hn0 hn1).mono ?_
      rintro e w1 ⟨rfl, R, C⟩
      have f2 := R.free 2
      have d2 := R.cell 2
      have R2 : RefAt (w1.setCell ⟨b, 2, none⟩ (.int .i64 (-1))) b { s with own := -1, free := s.now + 2, con := -1 } := by
        unfold RefAt; have := R.set 2 (.int .i64 (-1)); simpa using this
      go_wp2_with fail
      go_ret
      exact ⟨rfl, R2, C.set1 _ _⟩
    · have HY : Hid (s.yield u = (s, 7)) := by unfold Hid St.yield; rw [if_pos (.inr h2)]
      rw [HY.out]
      have ho2 : (s.own != u) = true := by simpa using h2
      clear h2
      go_enter Try.func24, Try.ntmps24
      go_wp2_with fail
      go_ret
      exact ⟨rfl, h, Ch.refl _ _⟩

/-! A nil Relay. -/
theorem begin_nil (w : World) (n : Int) : Calls Try.prog 14 #[.pointer none, .int .i64 n] w fun e w' => e = .returned (.tuple #[]) ∧ w' = w := by
  go_enter Try.func14, Try.ntmps14
  go_wp2_with fail
  refine bodyPost_ret (results_none rfl _ _ _) rfl ?_
  exact ⟨rfl, rfl⟩
set_option maxRecDepth 100000 in
theorem ask_nil (w : World) (u c : Int) : Calls Try.prog 15 #[.pointer none, .int .i64 u, .int .i64 c] w fun e w' => e = .returned (.tuple #[.int .i64 0, .int .i64 0, .int .i64 1]) ∧ w' = w := by
  go_enter Try.func15, Try.ntmps15
  go_wp2_with fail
  go_ret3
  exact ⟨rfl, rfl⟩
theorem yield_nil (w : World) (u : Int) : Calls Try.prog 20 #[.pointer none, .int .i64 u] w fun e w' => e = .returned (.int .i64 7) ∧ w' = w := by
  go_enter Try.func20, Try.ntmps20
  go_wp2_with fail
  go_ret
  exact ⟨rfl, rfl⟩
theorem con_nil (w : World) : Calls Try.prog 16 #[.pointer none] w fun e w' => e = .returned (.int .i64 (-1)) ∧ w' = w := by
  go_enter Try.func16, Try.ntmps16
  go_wp2
  go_ret
  exact ⟨rfl, rfl⟩
theorem own_nil (w : World) : Calls Try.prog 17 #[.pointer none] w fun e w' => e = .returned (.int .i64 (-1)) ∧ w' = w := by
  go_enter Try.func17, Try.ntmps17
  go_wp2
  go_ret
  exact ⟨rfl, rfl⟩
theorem epoch_nil (w : World) : Calls Try.prog 19 #[.pointer none] w fun e w' => e = .returned (.int .i64 0) ∧ w' = w := by
  go_enter Try.func19, Try.ntmps19
  go_wp2
  go_ret
  exact ⟨rfl, rfl⟩

set_option maxHeartbeats 1000000 in
theorem known_any (w : World) : Calls Try.prog 18 #[] w fun r w' => r = .returned (.bool true) ∧ Ch (fun _ => False) w w' := by
  go_enter Try.func18, Try.ntmps18
  go_wp2_with fail
  refine (relay_new _).mono ?_
  rintro e w1 ⟨rfl, R1, C1⟩
  go_wp2_with fail
  refine (relay_begin _ _ _ _ R1 St.new_ok).mono ?_
  rintro e w2 ⟨rfl, R2, C2⟩
  replace C2 := C1.then C2 fun i hi e => by omega
  clear C1 R1
  go_wp2_with fail
  refine (relay_ask _ _ _ _ _ R2 (by decide) (by decide)).mono ?_
  rintro e w3 ⟨rfl, R3, C3⟩
  replace C3 := C2.then C3 fun i hi e => by omega
  clear C2 R2
  rw [show askVal ((St.new.begin 1).ask 0 0) = .tuple #[.int .i64 1, .int .i64 0, .int .i64 0] from rfl]
  replace R3 : RelayAt w3 w.heap.size ⟨1, 0, -1, 1, 0, 1, 0⟩ := R3
  go_wp2_with fail
  refine (relay_ask _ _ _ _ _ R3 (by decide) (by decide)).mono ?_
  rintro e w4 ⟨rfl, R4, C4⟩
  replace C4 := C3.then C4 fun i hi e => by omega
  clear C3 R3
  rw [show askVal ((⟨1, 0, -1, 1, 0, 1, 0⟩ : St).ask 1 0) = .tuple #[.int .i64 0, .int .i64 0, .int .i64 8] from rfl]
  replace R4 : RelayAt w4 w.heap.size ⟨1, 0, -1, 1, 0, 1, 0⟩ := R4
  go_wp2_with fail
  refine (relay_own _ _ _ R4).mono ?_
  rintro e w5 ⟨rfl, rfl⟩
  go_wp2_with fail
  refine (relay_con _ _ _ R4).mono ?_
  rintro e w6 ⟨rfl, rfl⟩
  go_wp2_with fail
  go_ret
  exact ⟨rfl, C4⟩
end Go.Proofs.Ytnolhpblhndomaa
