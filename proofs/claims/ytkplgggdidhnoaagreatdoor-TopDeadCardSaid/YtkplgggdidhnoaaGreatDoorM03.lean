/-
  slices.Clone at the eight types of this program: the same elements in new memory. Condition: at most 100000 elements. append at the types of this program: what the walks ask of it. No condition. make([]T, n) at the types of this program. Condition: at most 1000 elements.
-/
import Derived.Test.YtkplgggdidhnoaaGreatDoorM00
import Derived.Test.YtkplgggdidhnoaaGreatDoorProg
import Derived.WalkLawsBesides
import Derived.WalkSpells
import Derived.Deep.QuietTactic
import Derived.BigQuiet
import Derived.StillTailTactics
import Derived.Deep.RegionHeld3
import Derived.Lib.Hide
namespace Go.Proofs.YtkplgggdidhnoaaGreatDoor
open Go.ChangeShapes Go.WideShapes Go.ChangeAt Go.RowKit
set_option linter.unusedVariables false

theorem info_str : (Tryz.prog.info? 9).map (fun i => (i.zero, i.size, i.bytes)) = some (some (.string ByteArray.empty), 1, 16) := by kernel_rfl
theorem clone_str (B : Nat → Prop) (w : World) (v : Value) (n : Nat) (vs : List Value) (h : Sl B w v n vs) (hl : vs.length = n * 1) (hone : ∀ u ∈ vs, u.oneCell' = true) (hb : n ≤ 100000) :
    Calls Tryz.prog 81 #[v] w fun r w' => ∃ v', r = .returned v' ∧ Own (New w.heap.size) w' 9 1 v' n vs ∧ Ch Noone w w' := by
  obtain ⟨ao, cap, rfl, h2, h3, h4, h5⟩ := h
  have hnil := fun (w : World) (a : Option Addr) (n c : Nat) => Lib.run_eql_slice_nil (P := Tryz.prog) w 22 9 a n c 0 0 Tryz.underlying22
  cases ao with
  | none =>
    obtain ⟨rfl, rfl⟩ := h4 rfl
    obtain rfl : vs = [] := List.eq_nil_of_length_eq_zero (by simpa using hl)
    clear h5 hone h4 h2 hb hl h3
    go_enter Tryz.func81, Tryz.ntmps81
    go_wp2_with fail
    all_goals (go_ret; exact ⟨_, rfl, ⟨rfl, .inl ⟨rfl, rfl⟩⟩, Ch.refl _ _⟩)
  | some a =>
    have HC : Hid (∀ j u, vs[j]? = some u → (w.alloc (.cells #[] 9)).cell? (a.add j) = some u) := fun j u hj => by
      have hjl : j < vs.length := by
        rcases Nat.lt_or_ge j vs.length with h | h
        · exact h
        · simp [List.getElem?_eq_none h] at hj
      obtain ⟨b, off, e, _, hlt, hc⟩ := h5 (by intro h; subst h; simp at hjl)
      simp only [Option.some.injEq] at e
      subst e
      have : (⟨b, off, none⟩ : Addr).add j = ⟨b, off + j, none⟩ := by unfold Addr.add; split <;> simp_all
      rw [this, World.cell?_alloc_lt _ _ _ (by exact hlt), hc j hjl, hj]
    have HO := Lib.hid hone
    have HL := Lib.hid hl
    have HB := Lib.hid hb
    clear h5 hone h4 h3 hl hb
    obtain ⟨i0, hi0, hz0, hz1, hz2⟩ := info_parts info_str
    go_enter Tryz.func81, Tryz.ntmps81
    go_wp2_with (at_builtin; refine wpList_append_own _ rfl _ _ 22 rfl w.heap.size 9 i0 _ 1 16 Tryz.underlying22 hi0 hz0 hz1 hz2 rfl (by decide) _ 0 [] rfl ⟨rfl, .inr ⟨w.heap.size, 0, #[], rfl, Nat.le_refl _, (by first | exact Blk.new _ _ _ | exact (Blk.new _ _ _).drew), Nat.le_refl _, Nat.zero_le _, rfl, rfl⟩⟩ a n cap vs rfl HL.out HC.out HO.out (by have := HB.out; unfold maxLen; omega) (by have := HB.out; omega) (by simp) ?_; intro v' w1 hown hgrow _)
    go_ret
    refine ⟨_, rfl, ?_, ?_⟩
    · simpa using Own.of hown
    · exact ((Ch.refl Noone w).alloc _).then (Ch.grownAt hgrow) fun i hi e => absurd e (Nat.ne_of_lt hi)

theorem info_pnt : (Tryz.prog.info? 88).map (fun i => (i.zero, i.size, i.bytes)) = some (some (.agg #[.string ByteArray.empty, .int .i64 0]), 2, 24) := by kernel_rfl
theorem clone_pnt (B : Nat → Prop) (w : World) (v : Value) (n : Nat) (vs : List Value) (h : Sl B w v n vs) (hl : vs.length = n * 2) (hone : ∀ u ∈ vs, u.oneCell' = true) (hb : n ≤ 100000) :
    Calls Tryz.prog 82 #[v] w fun r w' => ∃ v', r = .returned v' ∧ Own (New w.heap.size) w' 88 2 v' n vs ∧ Ch Noone w w' := by
  obtain ⟨ao, cap, rfl, h2, h3, h4, h5⟩ := h
  have hnil := fun (w : World) (a : Option Addr) (n c : Nat) => Lib.run_eql_slice_nil (P := Tryz.prog) w 23 88 a n c 0 0 Tryz.underlying23
  cases ao with
  | none =>
    obtain ⟨rfl, rfl⟩ := h4 rfl
    obtain rfl : vs = [] := List.eq_nil_of_length_eq_zero (by simpa using hl)
    clear h5 hone h4 h2 hb hl h3
    go_enter Tryz.func82, Tryz.ntmps82
    go_wp2_with fail
    all_goals (go_ret; exact ⟨_, rfl, ⟨rfl, .inl ⟨rfl, rfl⟩⟩, Ch.refl _ _⟩)
  | some a =>
    have HC : Hid (∀ j u, vs[j]? = some u → (w.alloc (.cells #[] 88)).cell? (a.add j) = some u) := fun j u hj => by
      have hjl : j < vs.length := by
        rcases Nat.lt_or_ge j vs.length with h | h
        · exact h
        · simp [List.getElem?_eq_none h] at hj
      obtain ⟨b, off, e, _, hlt, hc⟩ := h5 (by intro h; subst h; simp at hjl)
      simp only [Option.some.injEq] at e
      subst e
      have : (⟨b, off, none⟩ : Addr).add j = ⟨b, off + j, none⟩ := by unfold Addr.add; split <;> simp_all
      rw [this, World.cell?_alloc_lt _ _ _ (by exact hlt), hc j hjl, hj]
    have HO := Lib.hid hone
    have HL := Lib.hid hl
    have HB := Lib.hid hb
    clear h5 hone h4 h3 hl hb
    obtain ⟨i0, hi0, hz0, hz1, hz2⟩ := info_parts info_pnt
    go_enter Tryz.func82, Tryz.ntmps82
    go_wp2_with (at_builtin; refine wpList_append_own _ rfl _ _ 23 rfl w.heap.size 88 i0 _ 2 24 Tryz.underlying23 hi0 hz0 hz1 hz2 rfl (by decide) _ 0 [] rfl ⟨rfl, .inr ⟨w.heap.size, 0, #[], rfl, Nat.le_refl _, (by first | exact Blk.new _ _ _ | exact (Blk.new _ _ _).drew), Nat.le_refl _, Nat.zero_le _, rfl, rfl⟩⟩ a n cap vs rfl HL.out HC.out HO.out (by have := HB.out; unfold maxLen; omega) (by have := HB.out; omega) (by simp) ?_; intro v' w1 hown hgrow _)
    go_ret
    refine ⟨_, rfl, ?_, ?_⟩
    · simpa using Own.of hown
    · exact ((Ch.refl Noone w).alloc _).then (Ch.grownAt hgrow) fun i hi e => absurd e (Nat.ne_of_lt hi)

theorem info_route : (Tryz.prog.info? 54).map (fun i => (i.zero, i.size, i.bytes)) = some (some (.agg #[.string ByteArray.empty, .int .i64 0, .int .i64 0, .slice none 0 0, .slice none 0 0, .slice none 0 0]), 6, 104) := by kernel_rfl
theorem clone_route (B : Nat → Prop) (w : World) (v : Value) (n : Nat) (vs : List Value) (h : Sl B w v n vs) (hl : vs.length = n * 6) (hone : ∀ u ∈ vs, u.oneCell' = true) (hb : n ≤ 100000) :
    Calls Tryz.prog 83 #[v] w fun r w' => ∃ v', r = .returned v' ∧ Own (New w.heap.size) w' 54 6 v' n vs ∧ Ch Noone w w' := by
  obtain ⟨ao, cap, rfl, h2, h3, h4, h5⟩ := h
  have hnil := fun (w : World) (a : Option Addr) (n c : Nat) => Lib.run_eql_slice_nil (P := Tryz.prog) w 24 54 a n c 0 0 Tryz.underlying24
  cases ao with
  | none =>
    obtain ⟨rfl, rfl⟩ := h4 rfl
    obtain rfl : vs = [] := List.eq_nil_of_length_eq_zero (by simpa using hl)
    clear h5 hone h4 h2 hb hl h3
    go_enter Tryz.func83, Tryz.ntmps83
    go_wp2_with fail
    all_goals (go_ret; exact ⟨_, rfl, ⟨rfl, .inl ⟨rfl, rfl⟩⟩, Ch.refl _ _⟩)
  | some a =>
    have HC : Hid (∀ j u, vs[j]? = some u → (w.alloc (.cells #[] 54)).cell? (a.add j) = some u) := fun j u hj => by
      have hjl : j < vs.length := by
        rcases Nat.lt_or_ge j vs.length with h | h
        · exact h
        · simp [List.getElem?_eq_none h] at hj
      obtain ⟨b, off, e, _, hlt, hc⟩ := h5 (by intro h; subst h; simp at hjl)
      simp only [Option.some.injEq] at e
      subst e
      have : (⟨b, off, none⟩ : Addr).add j = ⟨b, off + j, none⟩ := by unfold Addr.add; split <;> simp_all
      rw [this, World.cell?_alloc_lt _ _ _ (by exact hlt), hc j hjl, hj]
    have HO := Lib.hid hone
    have HL := Lib.hid hl
    have HB := Lib.hid hb
    clear h5 hone h4 h3 hl hb
    obtain ⟨i0, hi0, hz0, hz1, hz2⟩ := info_parts info_route
    go_enter Tryz.func83, Tryz.ntmps83
    go_wp2_with (at_builtin; refine wpList_append_own _ rfl _ _ 24 rfl w.heap.size 54 i0 _ 6 104 Tryz.underlying24 hi0 hz0 hz1 hz2 rfl (by decide) _ 0 [] rfl ⟨rfl, .inr ⟨w.heap.size, 0, #[], rfl, Nat.le_refl _, (by first | exact Blk.new _ _ _ | exact (Blk.new _ _ _).drew), Nat.le_refl _, Nat.zero_le _, rfl, rfl⟩⟩ a n cap vs rfl HL.out HC.out HO.out (by have := HB.out; unfold maxLen; omega) (by have := HB.out; omega) (by simp) ?_; intro v' w1 hown hgrow _)
    go_ret
    refine ⟨_, rfl, ?_, ?_⟩
    · simpa using Own.of hown
    · exact ((Ch.refl Noone w).alloc _).then (Ch.grownAt hgrow) fun i hi e => absurd e (Nat.ne_of_lt hi)

theorem info_int : (Tryz.prog.info? 3).map (fun i => (i.zero, i.size, i.bytes)) = some (some (.int .i64 0), 1, 8) := by kernel_rfl
theorem clone_int (B : Nat → Prop) (w : World) (v : Value) (n : Nat) (vs : List Value) (h : Sl B w v n vs) (hl : vs.length = n * 1) (hone : ∀ u ∈ vs, u.oneCell' = true) (hb : n ≤ 100000) :
    Calls Tryz.prog 84 #[v] w fun r w' => ∃ v', r = .returned v' ∧ Own (New w.heap.size) w' 3 1 v' n vs ∧ Ch Noone w w' := by
  obtain ⟨ao, cap, rfl, h2, h3, h4, h5⟩ := h
  have hnil := fun (w : World) (a : Option Addr) (n c : Nat) => Lib.run_eql_slice_nil (P := Tryz.prog) w 33 3 a n c 0 0 Tryz.underlying33
  cases ao with
  | none =>
    obtain ⟨rfl, rfl⟩ := h4 rfl
    obtain rfl : vs = [] := List.eq_nil_of_length_eq_zero (by simpa using hl)
    clear h5 hone h4 h2 hb hl h3
    go_enter Tryz.func84, Tryz.ntmps84
    go_wp2_with fail
    all_goals (go_ret; exact ⟨_, rfl, ⟨rfl, .inl ⟨rfl, rfl⟩⟩, Ch.refl _ _⟩)
  | some a =>
    have HC : Hid (∀ j u, vs[j]? = some u → (w.alloc (.cells #[] 3)).cell? (a.add j) = some u) := fun j u hj => by
      have hjl : j < vs.length := by
        rcases Nat.lt_or_ge j vs.length with h | h
        · exact h
        · simp [List.getElem?_eq_none h] at hj
      obtain ⟨b, off, e, _, hlt, hc⟩ := h5 (by intro h; subst h; simp at hjl)
      simp only [Option.some.injEq] at e
      subst e
      have : (⟨b, off, none⟩ : Addr).add j = ⟨b, off + j, none⟩ := by unfold Addr.add; split <;> simp_all
      rw [this, World.cell?_alloc_lt _ _ _ (by exact hlt), hc j hjl, hj]
    have HO := Lib.hid hone
    have HL := Lib.hid hl
    have HB := Lib.hid hb
    clear h5 hone h4 h3 hl hb
    obtain ⟨i0, hi0, hz0, hz1, hz2⟩ := info_parts info_int
    go_enter Tryz.func84, Tryz.ntmps84
    go_wp2_with (at_builtin; refine wpList_append_own _ rfl _ _ 33 rfl w.heap.size 3 i0 _ 1 8 Tryz.underlying33 hi0 hz0 hz1 hz2 rfl (by decide) _ 0 [] rfl ⟨rfl, .inr ⟨w.heap.size, 0, #[], rfl, Nat.le_refl _, (by first | exact Blk.new _ _ _ | exact (Blk.new _ _ _).drew), Nat.le_refl _, Nat.zero_le _, rfl, rfl⟩⟩ a n cap vs rfl HL.out HC.out HO.out (by have := HB.out; unfold maxLen; omega) (by have := HB.out; omega) (by simp) ?_; intro v' w1 hown hgrow _)
    go_ret
    refine ⟨_, rfl, ?_, ?_⟩
    · simpa using Own.of hown
    · exact ((Ch.refl Noone w).alloc _).then (Ch.grownAt hgrow) fun i hi e => absurd e (Nat.ne_of_lt hi)

theorem info_need : (Tryz.prog.info? 48).map (fun i => (i.zero, i.size, i.bytes)) = some (some (.agg #[.int .i64 0, .bool false]), 2, 16) := by kernel_rfl
theorem clone_need (B : Nat → Prop) (w : World) (v : Value) (n : Nat) (vs : List Value) (h : Sl B w v n vs) (hl : vs.length = n * 2) (hone : ∀ u ∈ vs, u.oneCell' = true) (hb : n ≤ 100000) :
    Calls Tryz.prog 85 #[v] w fun r w' => ∃ v', r = .returned v' ∧ Own (New w.heap.size) w' 48 2 v' n vs ∧ Ch Noone w w' := by
  obtain ⟨ao, cap, rfl, h2, h3, h4, h5⟩ := h
  have hnil := fun (w : World) (a : Option Addr) (n c : Nat) => Lib.run_eql_slice_nil (P := Tryz.prog) w 45 48 a n c 0 0 Tryz.underlying45
  cases ao with
  | none =>
    obtain ⟨rfl, rfl⟩ := h4 rfl
    obtain rfl : vs = [] := List.eq_nil_of_length_eq_zero (by simpa using hl)
    clear h5 hone h4 h2 hb hl h3
    go_enter Tryz.func85, Tryz.ntmps85
    go_wp2_with fail
    all_goals (go_ret; exact ⟨_, rfl, ⟨rfl, .inl ⟨rfl, rfl⟩⟩, Ch.refl _ _⟩)
  | some a =>
    have HC : Hid (∀ j u, vs[j]? = some u → (w.alloc (.cells #[] 48)).cell? (a.add j) = some u) := fun j u hj => by
      have hjl : j < vs.length := by
        rcases Nat.lt_or_ge j vs.length with h | h
        · exact h
        · simp [List.getElem?_eq_none h] at hj
      obtain ⟨b, off, e, _, hlt, hc⟩ := h5 (by intro h; subst h; simp at hjl)
      simp only [Option.some.injEq] at e
      subst e
      have : (⟨b, off, none⟩ : Addr).add j = ⟨b, off + j, none⟩ := by unfold Addr.add; split <;> simp_all
      rw [this, World.cell?_alloc_lt _ _ _ (by exact hlt), hc j hjl, hj]
    have HO := Lib.hid hone
    have HL := Lib.hid hl
    have HB := Lib.hid hb
    clear h5 hone h4 h3 hl hb
    obtain ⟨i0, hi0, hz0, hz1, hz2⟩ := info_parts info_need
    go_enter Tryz.func85, Tryz.ntmps85
    go_wp2_with (at_builtin; refine wpList_append_own _ rfl _ _ 45 rfl w.heap.size 48 i0 _ 2 16 Tryz.underlying45 hi0 hz0 hz1 hz2 rfl (by decide) _ 0 [] rfl ⟨rfl, .inr ⟨w.heap.size, 0, #[], rfl, Nat.le_refl _, (by first | exact Blk.new _ _ _ | exact (Blk.new _ _ _).drew), Nat.le_refl _, Nat.zero_le _, rfl, rfl⟩⟩ a n cap vs rfl HL.out HC.out HO.out (by have := HB.out; unfold maxLen; omega) (by have := HB.out; omega) (by simp) ?_; intro v' w1 hown hgrow _)
    go_ret
    refine ⟨_, rfl, ?_, ?_⟩
    · simpa using Own.of hown
    · exact ((Ch.refl Noone w).alloc _).then (Ch.grownAt hgrow) fun i hi e => absurd e (Nat.ne_of_lt hi)

theorem info_rs : (Tryz.prog.info? 168).map (fun i => (i.zero, i.size, i.bytes)) = some (some (.agg #[.int .i64 0, .int .i64 0, .int .i64 0, .bool false]), 4, 32) := by kernel_rfl
theorem clone_rs (B : Nat → Prop) (w : World) (v : Value) (n : Nat) (vs : List Value) (h : Sl B w v n vs) (hl : vs.length = n * 4) (hone : ∀ u ∈ vs, u.oneCell' = true) (hb : n ≤ 100000) :
    Calls Tryz.prog 98 #[v] w fun r w' => ∃ v', r = .returned v' ∧ Own (New w.heap.size) w' 168 4 v' n vs ∧ Ch Noone w w' := by
  obtain ⟨ao, cap, rfl, h2, h3, h4, h5⟩ := h
  have hnil := fun (w : World) (a : Option Addr) (n c : Nat) => Lib.run_eql_slice_nil (P := Tryz.prog) w 93 168 a n c 0 0 Tryz.underlying93
  cases ao with
  | none =>
    obtain ⟨rfl, rfl⟩ := h4 rfl
    obtain rfl : vs = [] := List.eq_nil_of_length_eq_zero (by simpa using hl)
    clear h5 hone h4 h2 hb hl h3
    go_enter Tryz.func98, Tryz.ntmps98
    go_wp2_with fail
    all_goals (go_ret; exact ⟨_, rfl, ⟨rfl, .inl ⟨rfl, rfl⟩⟩, Ch.refl _ _⟩)
  | some a =>
    have HC : Hid (∀ j u, vs[j]? = some u → (w.alloc (.cells #[] 168)).cell? (a.add j) = some u) := fun j u hj => by
      have hjl : j < vs.length := by
        rcases Nat.lt_or_ge j vs.length with h | h
        · exact h
        · simp [List.getElem?_eq_none h] at hj
      obtain ⟨b, off, e, _, hlt, hc⟩ := h5 (by intro h; subst h; simp at hjl)
      simp only [Option.some.injEq] at e
      subst e
      have : (⟨b, off, none⟩ : Addr).add j = ⟨b, off + j, none⟩ := by unfold Addr.add; split <;> simp_all
      rw [this, World.cell?_alloc_lt _ _ _ (by exact hlt), hc j hjl, hj]
    have HO := Lib.hid hone
    have HL := Lib.hid hl
    have HB := Lib.hid hb
    clear h5 hone h4 h3 hl hb
    obtain ⟨i0, hi0, hz0, hz1, hz2⟩ := info_parts info_rs
    go_enter Tryz.func98, Tryz.ntmps98
    go_wp2_with (at_builtin; refine wpList_append_own _ rfl _ _ 93 rfl w.heap.size 168 i0 _ 4 32 Tryz.underlying93 hi0 hz0 hz1 hz2 rfl (by decide) _ 0 [] rfl ⟨rfl, .inr ⟨w.heap.size, 0, #[], rfl, Nat.le_refl _, (by first | exact Blk.new _ _ _ | exact (Blk.new _ _ _).drew), Nat.le_refl _, Nat.zero_le _, rfl, rfl⟩⟩ a n cap vs rfl HL.out HC.out HO.out (by have := HB.out; unfold maxLen; omega) (by have := HB.out; omega) (by simp) ?_; intro v' w1 hown hgrow _)
    go_ret
    refine ⟨_, rfl, ?_, ?_⟩
    · simpa using Own.of hown
    · exact ((Ch.refl Noone w).alloc _).then (Ch.grownAt hgrow) fun i hi e => absurd e (Nat.ne_of_lt hi)

theorem info_bool : (Tryz.prog.info? 4).map (fun i => (i.zero, i.size, i.bytes)) = some (some (.bool false), 1, 1) := by kernel_rfl
theorem clone_bool (B : Nat → Prop) (w : World) (v : Value) (n : Nat) (vs : List Value) (h : Sl B w v n vs) (hl : vs.length = n * 1) (hone : ∀ u ∈ vs, u.oneCell' = true) (hb : n ≤ 100000) :
    Calls Tryz.prog 105 #[v] w fun r w' => ∃ v', r = .returned v' ∧ Own (New w.heap.size) w' 4 1 v' n vs ∧ Ch Noone w w' := by
  obtain ⟨ao, cap, rfl, h2, h3, h4, h5⟩ := h
  have hnil := fun (w : World) (a : Option Addr) (n c : Nat) => Lib.run_eql_slice_nil (P := Tryz.prog) w 34 4 a n c 0 0 Tryz.underlying34
  cases ao with
  | none =>
    obtain ⟨rfl, rfl⟩ := h4 rfl
    obtain rfl : vs = [] := List.eq_nil_of_length_eq_zero (by simpa using hl)
    clear h5 hone h4 h2 hb hl h3
    go_enter Tryz.func105, Tryz.ntmps105
    go_wp2_with fail
    all_goals (go_ret; exact ⟨_, rfl, ⟨rfl, .inl ⟨rfl, rfl⟩⟩, Ch.refl _ _⟩)
  | some a =>
    have HC : Hid (∀ j u, vs[j]? = some u → (w.alloc (.cells #[] 4)).cell? (a.add j) = some u) := fun j u hj => by
      have hjl : j < vs.length := by
        rcases Nat.lt_or_ge j vs.length with h | h
        · exact h
        · simp [List.getElem?_eq_none h] at hj
      obtain ⟨b, off, e, _, hlt, hc⟩ := h5 (by intro h; subst h; simp at hjl)
      simp only [Option.some.injEq] at e
      subst e
      have : (⟨b, off, none⟩ : Addr).add j = ⟨b, off + j, none⟩ := by unfold Addr.add; split <;> simp_all
      rw [this, World.cell?_alloc_lt _ _ _ (by exact hlt), hc j hjl, hj]
    have HO := Lib.hid hone
    have HL := Lib.hid hl
    have HB := Lib.hid hb
    clear h5 hone h4 h3 hl hb
    obtain ⟨i0, hi0, hz0, hz1, hz2⟩ := info_parts info_bool
    go_enter Tryz.func105, Tryz.ntmps105
    go_wp2_with (at_builtin; refine wpList_append_own _ rfl _ _ 34 rfl w.heap.size 4 i0 _ 1 1 Tryz.underlying34 hi0 hz0 hz1 hz2 rfl (by decide) _ 0 [] rfl ⟨rfl, .inr ⟨w.heap.size, 0, #[], rfl, Nat.le_refl _, (by first | exact Blk.new _ _ _ | exact (Blk.new _ _ _).drew), Nat.le_refl _, Nat.zero_le _, rfl, rfl⟩⟩ a n cap vs rfl HL.out HC.out HO.out (by have := HB.out; unfold maxLen; omega) (by have := HB.out; omega) (by simp) ?_; intro v' w1 hown hgrow _)
    go_ret
    refine ⟨_, rfl, ?_, ?_⟩
    · simpa using Own.of hown
    · exact ((Ch.refl Noone w).alloc _).then (Ch.grownAt hgrow) fun i hi e => absurd e (Nat.ne_of_lt hi)

theorem info_byte : (Tryz.prog.info? 5).map (fun i => (i.zero, i.size, i.bytes)) = some (some (.int .u8 0), 1, 1) := by kernel_rfl
theorem clone_byte (B : Nat → Prop) (w : World) (v : Value) (n : Nat) (vs : List Value) (h : Sl B w v n vs) (hl : vs.length = n * 1) (hone : ∀ u ∈ vs, u.oneCell' = true) (hb : n ≤ 100000) :
    Calls Tryz.prog 106 #[v] w fun r w' => ∃ v', r = .returned v' ∧ Own (New w.heap.size) w' 5 1 v' n vs ∧ Ch Noone w w' := by
  obtain ⟨ao, cap, rfl, h2, h3, h4, h5⟩ := h
  have hnil := fun (w : World) (a : Option Addr) (n c : Nat) => Lib.run_eql_slice_nil (P := Tryz.prog) w 81 5 a n c 0 0 Tryz.underlying81
  cases ao with
  | none =>
    obtain ⟨rfl, rfl⟩ := h4 rfl
    obtain rfl : vs = [] := List.eq_nil_of_length_eq_zero (by simpa using hl)
    clear h5 hone h4 h2 hb hl h3
    go_enter Tryz.func106, Tryz.ntmps106
    go_wp2_with fail
    all_goals (go_ret; exact ⟨_, rfl, ⟨rfl, .inl ⟨rfl, rfl⟩⟩, Ch.refl _ _⟩)
  | some a =>
    have HC : Hid (∀ j u, vs[j]? = some u → (w.alloc (.cells #[] 5)).cell? (a.add j) = some u) := fun j u hj => by
      have hjl : j < vs.length := by
        rcases Nat.lt_or_ge j vs.length with h | h
        · exact h
        · simp [List.getElem?_eq_none h] at hj
      obtain ⟨b, off, e, _, hlt, hc⟩ := h5 (by intro h; subst h; simp at hjl)
      simp only [Option.some.injEq] at e
      subst e
      have : (⟨b, off, none⟩ : Addr).add j = ⟨b, off + j, none⟩ := by unfold Addr.add; split <;> simp_all
      rw [this, World.cell?_alloc_lt _ _ _ (by exact hlt), hc j hjl, hj]
    have HO := Lib.hid hone
    have HL := Lib.hid hl
    have HB := Lib.hid hb
    clear h5 hone h4 h3 hl hb
    obtain ⟨i0, hi0, hz0, hz1, hz2⟩ := info_parts info_byte
    go_enter Tryz.func106, Tryz.ntmps106
    go_wp2_with (at_builtin; refine wpList_append_own _ rfl _ _ 81 rfl w.heap.size 5 i0 _ 1 1 Tryz.underlying81 hi0 hz0 hz1 hz2 rfl (by decide) _ 0 [] rfl ⟨rfl, .inr ⟨w.heap.size, 0, #[], rfl, Nat.le_refl _, (by first | exact Blk.new _ _ _ | exact (Blk.new _ _ _).drew), Nat.le_refl _, Nat.zero_le _, rfl, rfl⟩⟩ a n cap vs rfl HL.out HC.out HO.out (by have := HB.out; unfold maxLen; omega) (by have := HB.out; omega) (by simp) ?_; intro v' w1 hown hgrow _)
    go_ret
    refine ⟨_, rfl, ?_, ?_⟩
    · simpa using Own.of hown
    · exact ((Ch.refl Noone w).alloc _).then (Ch.grownAt hgrow) fun i hi e => absurd e (Nat.ne_of_lt hi)

end Go.Proofs.YtkplgggdidhnoaaGreatDoor

namespace Go.Proofs.YtkplgggdidhnoaaGreatDoor
open Go.ChangeShapes Go.WideShapes Go.ChangeAt Go.RowKit
set_option linter.unusedVariables false

/-- The cells of a block that was just laid. -/
theorem fresh_news (w : World) (e : TypeId) (xs : List Value) : ∀ j u, xs[j]? = some u → (w.alloc (.cells xs.toArray e)).cell? ((⟨w.heap.size, 0, none⟩ : Addr).add j) = some u := fun j u h => by
  have e1 : (⟨w.heap.size, 0, none⟩ : Addr).add j = ⟨w.heap.size, j, none⟩ := by unfold Addr.add; split <;> simp_all
  rw [e1, (Blk.new w e xs.toArray).cell j]
  simpa using h
theorem fresh_at (w : World) (g : Nat) (hg : g = w.heap.size) (e : TypeId) (xs : List Value) : ∀ j u, xs[j]? = some u → (w.alloc (.cells xs.toArray e)).cell? ((⟨g, 0, none⟩ : Addr).add j) = some u := hg ▸ fresh_news w e xs
theorem Ch.own {base e C n : Nat} {w0 w w' : World} {v : Value} {xs : List Value} (h : Own (New base) w0 e C v n xs) (g : w.grownBy w' v.ownBlock) : Ch (fun k => base ≤ k ∧ k < w0.heap.size) w w' := by
  obtain ⟨_, h2⟩ := h
  refine ⟨g.os, g.tape, g.output, g.size, fun k hk hn => g.block k hk ?_⟩
  rcases h2 with ⟨rfl, _⟩ | ⟨b, cap, cur, rfl, hb, hh, _⟩
  · simp [Value.ownBlock]
  · simp only [Value.ownBlock]
    intro e
    simp only [Option.some.injEq] at e
    exact hn (e ▸ ⟨hb, lt_of_heap hh⟩)
theorem Ch.new0 {w a b : World} {base : Nat} (h : Ch Noone w a) (k : Ch (New base) a b) (hb : w.heap.size ≤ base) : Ch Noone w b := h.then k fun i hi hn => absurd (show base ≤ i from hn) (by omega)
theorem take_flat {α : Type} (f : α → List Value) (l : List α) (k : Nat) (hk : k < l.length) : (l.take k).flatMap f ++ f l[k] = (l.take (k + 1)).flatMap f := by
  rw [List.take_succ_eq_append_getElem hk, List.flatMap_append]; simp
theorem one_str (s : ByteArray) : ∀ u ∈ [Value.string s], u.oneCell' = true := by intro u hu; simp at hu; subst hu; rfl
end Go.Proofs.YtkplgggdidhnoaaGreatDoor

namespace Go.Proofs.YtkplgggdidhnoaaGreatDoor
open Go.ChangeShapes Go.WideShapes Go.ChangeAt Go.RowKit
set_option linter.unusedVariables false

theorem made_int (w : World) (n : Nat) (hn : n ≤ 1000) : (Instr.makeSlice 33 (.int .i64 (n : Int)) (.int .i64 (n : Int))).run Tryz.prog w = .ok (.slice (some ⟨w.heap.size, 0, none⟩) n n) (w.alloc (.cells (madeCells #[.int .i64 0] (n * 1)) 3)) := by
  obtain ⟨i0, hi0, hz0, hz1, hz2⟩ := info_parts info_int
  have h := run_make (P := Tryz.prog) w 33 3 i0 _ Tryz.underlying33 hi0 hz0 .i64 .i64 n n (by omega) (Int.le_refl _) (by rw [hz2]; omega) (by omega)
  rw [hz1] at h
  simpa [Value.cells] using h
theorem made_bool (w : World) (n : Nat) (hn : n ≤ 1000) : (Instr.makeSlice 34 (.int .i64 (n : Int)) (.int .i64 (n : Int))).run Tryz.prog w = .ok (.slice (some ⟨w.heap.size, 0, none⟩) n n) (w.alloc (.cells (madeCells #[.bool false] (n * 1)) 4)) := by
  obtain ⟨i0, hi0, hz0, hz1, hz2⟩ := info_parts info_bool
  have h := run_make (P := Tryz.prog) w 34 4 i0 _ Tryz.underlying34 hi0 hz0 .i64 .i64 n n (by omega) (Int.le_refl _) (by rw [hz2]; omega) (by omega)
  rw [hz1] at h
  simpa [Value.cells] using h
theorem made_rs (w : World) (n : Nat) (hn : n ≤ 1000) : (Instr.makeSlice 93 (.int .i64 (n : Int)) (.int .i64 (n : Int))).run Tryz.prog w = .ok (.slice (some ⟨w.heap.size, 0, none⟩) n n) (w.alloc (.cells (madeCells #[.int .i64 0, .int .i64 0, .int .i64 0, .bool false] (n * 4)) 168)) := by
  obtain ⟨i0, hi0, hz0, hz1, hz2⟩ := info_parts info_rs
  have h := run_make (P := Tryz.prog) w 93 168 i0 _ Tryz.underlying93 hi0 hz0 .i64 .i64 n n (by omega) (Int.le_refl _) (by rw [hz2]; omega) (by omega)
  rw [hz1] at h
  simpa [Value.cells] using h

theorem made_flat {α : Type} (f : α → List Value) (C : Nat) (hf : ∀ x, (f x).length = C) (h0 : 0 < C) (x : α) (n : Nat) : (madeCells (f x).toArray (n * C)).toList = (List.replicate n x).flatMap f := by
  refine flat_ext f C hf h0 _ _ (by rw [Array.length_toList, size_madeCells]; simp) fun i hi j hj => ?_
  rw [List.length_replicate] at hi
  have hp : i * C + j < n * C := by
    have := Nat.mul_le_mul_right C (show i + 1 ≤ n by omega)
    rw [Nat.succ_mul] at this
    omega
  have hm : (i * C + j) % C = j := by rw [Nat.mul_comm, Nat.mul_add_mod, Nat.mod_eq_of_lt hj]
  have hj' : j < (f x).length := by rw [hf]; exact hj
  simp [madeCells, hp, hm, hf]
  rw [List.getElem?_eq_getElem hj']; rfl

/-- A row that was just made. -/
theorem Own.made {α : Type} (f : α → List Value) (C : Nat) (hf : ∀ x, (f x).length = C) (h0 : 0 < C) (x : α) (z : Array Value) (hz : z = (f x).toArray) (w : World) (e n : Nat) (hn : n ≤ 1000) (O : Nat → Prop) (hO : O w.heap.size) :
    Own O (w.alloc (.cells (madeCells z (n * C)) e)) e C (.slice (some ⟨w.heap.size, 0, none⟩) n n) n ((List.replicate n x).flatMap f) := by
  subst hz
  refine ⟨by rw [flat_length f C hf]; simp, .inr ⟨w.heap.size, n, _, rfl, hO, Blk.new _ _ _, Nat.le_refl _, by unfold maxLen; omega, size_madeCells _ _, ?_⟩⟩
  rw [made_flat f C hf h0]
  exact List.take_of_length_le (by rw [flat_length f C hf]; simp)
theorem Blk.new2 (w : World) (o : Obj) (T : TypeId) (cs : Array Value) : Blk ((w.alloc o).alloc (.cells cs T)) (w.heap.size + 1) T cs := by
  have := Blk.new (w.alloc o) T cs
  simpa using this
theorem World.size_alloc' (w : World) (o : Obj) : (w.alloc o).heap.size = w.heap.size + 1 := by simp
theorem Blk.newk (w : World) (k : Nat) (hk : k = w.heap.size) (T : TypeId) (cs : Array Value) : Blk (w.alloc (.cells cs T)) k T cs := hk ▸ Blk.new w T cs
theorem Own.made1 {α : Type} (f : α → List Value) (hf : ∀ x, (f x).length = 1) (x : α) (z : Array Value) (hz : z = (f x).toArray) (w : World) (e n : Nat) (hn : n ≤ 1000) (O : Nat → Prop) (g : Nat) (hg : Blk w g e (madeCells z n)) (hO : O g) :
    Own O w e 1 (.slice (some ⟨g, 0, none⟩) n n) n ((List.replicate n x).flatMap f) := by
  subst hz
  have hm := made_flat f 1 hf (by omega) x n
  rw [Nat.mul_one] at hm
  refine ⟨by rw [flat_length f 1 hf]; simp, .inr ⟨g, n, _, rfl, hO, hg, Nat.le_refl _, by unfold maxLen; omega, by rw [size_madeCells]; omega, ?_⟩⟩
  rw [hm]
  exact List.take_of_length_le (by rw [flat_length f 1 hf]; simp)
theorem Ch.rd {w w' : World} (h : Ch Noone w w') {b : Nat} (hb : b < w.heap.size) (i : Nat) : w'.cell? ⟨b, i, none⟩ = w.cell? ⟨b, i, none⟩ := World.cell?_of_block (w := w) (a := ⟨b, i, none⟩) (h.block b hb (fun h => h))
end Go.Proofs.YtkplgggdidhnoaaGreatDoor
