/-
  slices.IndexFunc and slices.ContainsFunc at the closures of this program. Condition: the closure answers, and makes new memory at most. slices.Index and slices.Contains at the types of this program. No condition.
-/
import Derived.Test.YtkplgggdidhnoaaGreatDoorM00
import Derived.Test.YtkplgggdidhnoaaGreatDoorProg
import Derived.WalkLawsBesides
import Derived.WalkSpells
import Derived.Deep.QuietTactic
import Derived.BigQuiet
import Derived.StillTailTactics
import Derived.Deep.RegionHeld3
import Derived.Lib.Hide
namespace Go.Proofs.YtkplgggdidhnoaaGreatDoor
open Go.ChangeShapes Go.WideShapes Go.ChangeAt Go.RowKit
set_option linter.unusedVariables false

set_option maxHeartbeats 1000000 in
theorem index_of (B : Nat → Prop) (w : World) (v : Value) (xs : List Ev) (c0 : Value) (c1 : Value) (p : Ev → Bool) (h : Sl B w v xs.length (xs.flatMap fEv)) (hn : xs.length ≤ 9223372036854775807)
    (hc : ∀ (i : Nat) (hi : i < xs.length) (w' : World), Ch Noone w w' → Calls Tryz.prog 56 #[.agg #[.int .i64 xs[i].kind, .int .i64 xs[i].unit, .int .i64 xs[i].n, .int .i64 xs[i].ck, .int .i64 xs[i].cr], c0, c1] w' fun r w'' => r = .returned (.bool (p xs[i])) ∧ Ch Noone w' w'') :
    Calls Tryz.prog 88 #[v, .func (.func 56) #[] #[c0, c1]] w fun r w' => ∃ n : Int, r = .returned (.int .i64 n) ∧ decide (0 ≤ n) = xs.any p ∧ Ch Noone w w' := by
  have HC := Lib.hid hc; clear hc
  have HS := Lib.hid h
  obtain ⟨ao, cap, rfl, h2, h3, h4, h5⟩ := h
  clear h2 h3 h4 h5
  go_enter Tryz.func88, Tryz.ntmps88
  go_wp2_with fail
  go_loopw [5, 8] (fun _ i wr => ∃ k : Nat, k ≤ xs.length ∧ i = .int .i64 k ∧ Ch Noone w wr ∧ Hid (∀ j (hj : j < xs.length), j < k → p xs[j] = false)) (fun _ i _ => (xs.length - intOf i).toNat)
  case atStart => exact ⟨0, by omega, rfl, Ch.refl _ _, fun j hj h => by omega⟩
  case round =>
    obtain ⟨k, hk, rfl, hch, hno⟩ := hrel
    by_cases hkl : k < xs.length
    · obtain ⟨b, off, rfl, _, _, hat⟩ := (Sl.ch0 HS.out hch).at (f := fEv) (C := 5) (fun _ => rfl) (by omega) hkl
      have y0 : wr.cell? ⟨b, off + k * 5, none⟩ = some (.int .i64 xs[k].kind) := hat 0 (by omega)
      have y1 : wr.cell? ⟨b, off + k * 5 + 1, none⟩ = some (.int .i64 xs[k].unit) := hat 1 (by omega)
      have y2 : wr.cell? ⟨b, off + k * 5 + 2, none⟩ = some (.int .i64 xs[k].n) := hat 2 (by omega)
      have y3 : wr.cell? ⟨b, off + k * 5 + 3, none⟩ = some (.int .i64 xs[k].ck) := hat 3 (by omega)
      have y4 : wr.cell? ⟨b, off + k * 5 + 4, none⟩ = some (.int .i64 xs[k].cr) := hat 4 (by omega)
      clear hat
      obtain ⟨y, hy⟩ : ∃ y, y = xs[k] := ⟨_, rfl⟩
      rw [← hy] at y0 y1 y2 y3 y4
      have HY := Lib.hid hy; clear hy
      have hcall := HC.out k hkl wr hch
      rw [← HY.out] at hcall
      have HK := Lib.hid hcall; clear hcall
      cases hp : p y with
      | true =>
        rw [hp] at HK
        have HP := Lib.hid hp; clear hp
        go_wp2_with fail
        refine (HK.out).mono ?_
        rintro e w1 ⟨rfl, hc1⟩
        go_wp2_with fail
        go_ret
        refine ⟨k, rfl, ?_, hch.trans hc1⟩
        have h1 : xs.any p = true := List.any_eq_true.2 ⟨xs[k], List.getElem_mem hkl, by rw [← HY.out]; exact HP.out⟩
        rw [h1]; simp
      | false =>
        rw [hp] at HK
        have HP := Lib.hid hp; clear hp
        go_wp2_with fail
        refine (HK.out).mono ?_
        rintro e w1 ⟨rfl, hc1⟩
        go_wp2_with fail
        go_roundw
        case rel =>
          refine ⟨k + 1, by omega, by go_num, hch.trans hc1, fun j hj hjk => ?_⟩
          by_cases hjk' : j = k
          · subst hjk'; rw [← HY.out]; exact HP.out
          · exact hno.out j hj (by omega)
        case measure => simp [intOf]; omega
    · go_wp2_with fail
      go_ret
      refine ⟨-1, rfl, ?_, hch⟩
      have h1 : xs.any p = false := List.any_eq_false.2 fun x hx => by
        obtain ⟨j, hj, rfl⟩ := List.getElem_of_mem hx
        rw [hno.out j hj (by omega)]; simp
      rw [h1]; rfl

theorem contains_of (B : Nat → Prop) (w : World) (v : Value) (xs : List Ev) (c0 : Value) (c1 : Value) (p : Ev → Bool) (h : Sl B w v xs.length (xs.flatMap fEv)) (hn : xs.length ≤ 9223372036854775807)
    (hc : ∀ (i : Nat) (hi : i < xs.length) (w' : World), Ch Noone w w' → Calls Tryz.prog 56 #[.agg #[.int .i64 xs[i].kind, .int .i64 xs[i].unit, .int .i64 xs[i].n, .int .i64 xs[i].ck, .int .i64 xs[i].cr], c0, c1] w' fun r w'' => r = .returned (.bool (p xs[i])) ∧ Ch Noone w' w'') :
    Calls Tryz.prog 55 #[v, .func (.func 56) #[] #[c0, c1]] w fun r w' => r = .returned (.bool (xs.any p)) ∧ Ch Noone w w' := by
  have HI := Lib.hid (index_of B w v xs c0 c1 p h hn hc)
  clear hc h hn
  go_enter Tryz.func55, Tryz.ntmps55
  go_wp2_with fail
  refine (HI.out).mono ?_
  rintro e w1 ⟨n, rfl, hd, hc1⟩
  have HD := Lib.hid hd; clear hd
  go_wp2_with fail
  go_ret
  exact ⟨by rw [HD.out]; rfl, hc1⟩

set_option maxHeartbeats 1000000 in
theorem index_conf1 (B : Nat → Prop) (w : World) (v : Value) (xs : List Int) (c0 : Value) (p : Int → Bool) (h : Sl B w v xs.length (xs.flatMap fInt)) (hn : xs.length ≤ 9223372036854775807)
    (hc : ∀ (i : Nat) (hi : i < xs.length) (w' : World), Ch Noone w w' → Calls Tryz.prog 124 #[.int .i64 xs[i], c0] w' fun r w'' => r = .returned (.bool (p xs[i])) ∧ Ch Noone w' w'') :
    Calls Tryz.prog 143 #[v, .func (.func 124) #[] #[c0]] w fun r w' => ∃ n : Int, r = .returned (.int .i64 n) ∧ decide (0 ≤ n) = xs.any p ∧ Ch Noone w w' := by
  have HC := Lib.hid hc; clear hc
  have HS := Lib.hid h
  obtain ⟨ao, cap, rfl, h2, h3, h4, h5⟩ := h
  clear h2 h3 h4 h5
  go_enter Tryz.func143, Tryz.ntmps143
  go_wp2_with fail
  go_loopw [5, 8] (fun _ i wr => ∃ k : Nat, k ≤ xs.length ∧ i = .int .i64 k ∧ Ch Noone w wr ∧ Hid (∀ j (hj : j < xs.length), j < k → p xs[j] = false)) (fun _ i _ => (xs.length - intOf i).toNat)
  case atStart => exact ⟨0, by omega, rfl, Ch.refl _ _, fun j hj h => by omega⟩
  case round =>
    obtain ⟨k, hk, rfl, hch, hno⟩ := hrel
    by_cases hkl : k < xs.length
    · obtain ⟨b, off, rfl, _, _, hat⟩ := (Sl.ch0 HS.out hch).at (f := fInt) (C := 1) (fun _ => rfl) (by omega) hkl
      have y0 : wr.cell? ⟨b, off + k, none⟩ = some (.int .i64 xs[k]) := by have := hat 0 (by omega); rw [Nat.mul_one] at this; exact this
      clear hat
      obtain ⟨y, hy⟩ : ∃ y, y = xs[k] := ⟨_, rfl⟩
      rw [← hy] at y0
      have HY := Lib.hid hy; clear hy
      have hcall := HC.out k hkl wr hch
      rw [← HY.out] at hcall
      have HK := Lib.hid hcall; clear hcall
      cases hp : p y with
      | true =>
        rw [hp] at HK
        have HP := Lib.hid hp; clear hp
        go_wp2_with fail
        refine (HK.out).mono ?_
        rintro e w1 ⟨rfl, hc1⟩
        go_wp2_with fail
        go_ret
        refine ⟨k, rfl, ?_, hch.trans hc1⟩
        have h1 : xs.any p = true := List.any_eq_true.2 ⟨xs[k], List.getElem_mem hkl, by rw [← HY.out]; exact HP.out⟩
        rw [h1]; simp
      | false =>
        rw [hp] at HK
        have HP := Lib.hid hp; clear hp
        go_wp2_with fail
        refine (HK.out).mono ?_
        rintro e w1 ⟨rfl, hc1⟩
        go_wp2_with fail
        go_roundw
        case rel =>
          refine ⟨k + 1, by omega, by go_num, hch.trans hc1, fun j hj hjk => ?_⟩
          by_cases hjk' : j = k
          · subst hjk'; rw [← HY.out]; exact HP.out
          · exact hno.out j hj (by omega)
        case measure => simp [intOf]; omega
    · go_wp2_with fail
      go_ret
      refine ⟨-1, rfl, ?_, hch⟩
      have h1 : xs.any p = false := List.any_eq_false.2 fun x hx => by
        obtain ⟨j, hj, rfl⟩ := List.getElem_of_mem hx
        rw [hno.out j hj (by omega)]; simp
      rw [h1]; rfl

theorem contains_conf1 (B : Nat → Prop) (w : World) (v : Value) (xs : List Int) (c0 : Value) (p : Int → Bool) (h : Sl B w v xs.length (xs.flatMap fInt)) (hn : xs.length ≤ 9223372036854775807)
    (hc : ∀ (i : Nat) (hi : i < xs.length) (w' : World), Ch Noone w w' → Calls Tryz.prog 124 #[.int .i64 xs[i], c0] w' fun r w'' => r = .returned (.bool (p xs[i])) ∧ Ch Noone w' w'') :
    Calls Tryz.prog 123 #[v, .func (.func 124) #[] #[c0]] w fun r w' => r = .returned (.bool (xs.any p)) ∧ Ch Noone w w' := by
  have HI := Lib.hid (index_conf1 B w v xs c0 p h hn hc)
  clear hc h hn
  go_enter Tryz.func123, Tryz.ntmps123
  go_wp2_with fail
  refine (HI.out).mono ?_
  rintro e w1 ⟨n, rfl, hd, hc1⟩
  have HD := Lib.hid hd; clear hd
  go_wp2_with fail
  go_ret
  exact ⟨by rw [HD.out]; rfl, hc1⟩

set_option maxHeartbeats 1000000 in
theorem index_mayin (B : Nat → Prop) (w : World) (v : Value) (xs : List Int) (p : Int → Bool) (h : Sl B w v xs.length (xs.flatMap fInt)) (hn : xs.length ≤ 9223372036854775807)
    (hc : ∀ (i : Nat) (hi : i < xs.length) (w' : World), Ch Noone w w' → Calls Tryz.prog 157 #[.int .i64 xs[i]] w' fun r w'' => r = .returned (.bool (p xs[i])) ∧ Ch Noone w' w'') :
    Calls Tryz.prog 143 #[v, .func (.func 157) #[] #[]] w fun r w' => ∃ n : Int, r = .returned (.int .i64 n) ∧ decide (0 ≤ n) = xs.any p ∧ Ch Noone w w' := by
  have HC := Lib.hid hc; clear hc
  have HS := Lib.hid h
  obtain ⟨ao, cap, rfl, h2, h3, h4, h5⟩ := h
  clear h2 h3 h4 h5
  go_enter Tryz.func143, Tryz.ntmps143
  go_wp2_with fail
  go_loopw [5, 8] (fun _ i wr => ∃ k : Nat, k ≤ xs.length ∧ i = .int .i64 k ∧ Ch Noone w wr ∧ Hid (∀ j (hj : j < xs.length), j < k → p xs[j] = false)) (fun _ i _ => (xs.length - intOf i).toNat)
  case atStart => exact ⟨0, by omega, rfl, Ch.refl _ _, fun j hj h => by omega⟩
  case round =>
    obtain ⟨k, hk, rfl, hch, hno⟩ := hrel
    by_cases hkl : k < xs.length
    · obtain ⟨b, off, rfl, _, _, hat⟩ := (Sl.ch0 HS.out hch).at (f := fInt) (C := 1) (fun _ => rfl) (by omega) hkl
      have y0 : wr.cell? ⟨b, off + k, none⟩ = some (.int .i64 xs[k]) := by have := hat 0 (by omega); rw [Nat.mul_one] at this; exact this
      clear hat
      obtain ⟨y, hy⟩ : ∃ y, y = xs[k] := ⟨_, rfl⟩
      rw [← hy] at y0
      have HY := Lib.hid hy; clear hy
      have hcall := HC.out k hkl wr hch
      rw [← HY.out] at hcall
      have HK := Lib.hid hcall; clear hcall
      cases hp : p y with
      | true =>
        rw [hp] at HK
        have HP := Lib.hid hp; clear hp
        go_wp2_with fail
        refine (HK.out).mono ?_
        rintro e w1 ⟨rfl, hc1⟩
        go_wp2_with fail
        go_ret
        refine ⟨k, rfl, ?_, hch.trans hc1⟩
        have h1 : xs.any p = true := List.any_eq_true.2 ⟨xs[k], List.getElem_mem hkl, by rw [← HY.out]; exact HP.out⟩
        rw [h1]; simp
      | false =>
        rw [hp] at HK
        have HP := Lib.hid hp; clear hp
        go_wp2_with fail
        refine (HK.out).mono ?_
        rintro e w1 ⟨rfl, hc1⟩
        go_wp2_with fail
        go_roundw
        case rel =>
          refine ⟨k + 1, by omega, by go_num, hch.trans hc1, fun j hj hjk => ?_⟩
          by_cases hjk' : j = k
          · subst hjk'; rw [← HY.out]; exact HP.out
          · exact hno.out j hj (by omega)
        case measure => simp [intOf]; omega
    · go_wp2_with fail
      go_ret
      refine ⟨-1, rfl, ?_, hch⟩
      have h1 : xs.any p = false := List.any_eq_false.2 fun x hx => by
        obtain ⟨j, hj, rfl⟩ := List.getElem_of_mem hx
        rw [hno.out j hj (by omega)]; simp
      rw [h1]; rfl

theorem contains_mayin (B : Nat → Prop) (w : World) (v : Value) (xs : List Int) (p : Int → Bool) (h : Sl B w v xs.length (xs.flatMap fInt)) (hn : xs.length ≤ 9223372036854775807)
    (hc : ∀ (i : Nat) (hi : i < xs.length) (w' : World), Ch Noone w w' → Calls Tryz.prog 157 #[.int .i64 xs[i]] w' fun r w'' => r = .returned (.bool (p xs[i])) ∧ Ch Noone w' w'') :
    Calls Tryz.prog 123 #[v, .func (.func 157) #[] #[]] w fun r w' => r = .returned (.bool (xs.any p)) ∧ Ch Noone w w' := by
  have HI := Lib.hid (index_mayin B w v xs p h hn hc)
  clear hc h hn
  go_enter Tryz.func123, Tryz.ntmps123
  go_wp2_with fail
  refine (HI.out).mono ?_
  rintro e w1 ⟨n, rfl, hd, hc1⟩
  have HD := Lib.hid hd; clear hd
  go_wp2_with fail
  go_ret
  exact ⟨by rw [HD.out]; rfl, hc1⟩

set_option maxHeartbeats 1000000 in
theorem index_occ (B : Nat → Prop) (w : World) (v : Value) (xs : List Int) (c0 : Value) (p : Int → Bool) (h : Sl B w v xs.length (xs.flatMap fInt)) (hn : xs.length ≤ 9223372036854775807)
    (hc : ∀ (i : Nat) (hi : i < xs.length) (w' : World), Ch Noone w w' → Calls Tryz.prog 164 #[.int .i64 xs[i], c0] w' fun r w'' => r = .returned (.bool (p xs[i])) ∧ Ch Noone w' w'') :
    Calls Tryz.prog 143 #[v, .func (.func 164) #[] #[c0]] w fun r w' => ∃ n : Int, r = .returned (.int .i64 n) ∧ decide (0 ≤ n) = xs.any p ∧ Ch Noone w w' := by
  have HC := Lib.hid hc; clear hc
  have HS := Lib.hid h
  obtain ⟨ao, cap, rfl, h2, h3, h4, h5⟩ := h
  clear h2 h3 h4 h5
  go_enter Tryz.func143, Tryz.ntmps143
  go_wp2_with fail
  go_loopw [5, 8] (fun _ i wr => ∃ k : Nat, k ≤ xs.length ∧ i = .int .i64 k ∧ Ch Noone w wr ∧ Hid (∀ j (hj : j < xs.length), j < k → p xs[j] = false)) (fun _ i _ => (xs.length - intOf i).toNat)
  case atStart => exact ⟨0, by omega, rfl, Ch.refl _ _, fun j hj h => by omega⟩
  case round =>
    obtain ⟨k, hk, rfl, hch, hno⟩ := hrel
    by_cases hkl : k < xs.length
    · obtain ⟨b, off, rfl, _, _, hat⟩ := (Sl.ch0 HS.out hch).at (f := fInt) (C := 1) (fun _ => rfl) (by omega) hkl
      have y0 : wr.cell? ⟨b, off + k, none⟩ = some (.int .i64 xs[k]) := by have := hat 0 (by omega); rw [Nat.mul_one] at this; exact this
      clear hat
      obtain ⟨y, hy⟩ : ∃ y, y = xs[k] := ⟨_, rfl⟩
      rw [← hy] at y0
      have HY := Lib.hid hy; clear hy
      have hcall := HC.out k hkl wr hch
      rw [← HY.out] at hcall
      have HK := Lib.hid hcall; clear hcall
      cases hp : p y with
      | true =>
        rw [hp] at HK
        have HP := Lib.hid hp; clear hp
        go_wp2_with fail
        refine (HK.out).mono ?_
        rintro e w1 ⟨rfl, hc1⟩
        go_wp2_with fail
        go_ret
        refine ⟨k, rfl, ?_, hch.trans hc1⟩
        have h1 : xs.any p = true := List.any_eq_true.2 ⟨xs[k], List.getElem_mem hkl, by rw [← HY.out]; exact HP.out⟩
        rw [h1]; simp
      | false =>
        rw [hp] at HK
        have HP := Lib.hid hp; clear hp
        go_wp2_with fail
        refine (HK.out).mono ?_
        rintro e w1 ⟨rfl, hc1⟩
        go_wp2_with fail
        go_roundw
        case rel =>
          refine ⟨k + 1, by omega, by go_num, hch.trans hc1, fun j hj hjk => ?_⟩
          by_cases hjk' : j = k
          · subst hjk'; rw [← HY.out]; exact HP.out
          · exact hno.out j hj (by omega)
        case measure => simp [intOf]; omega
    · go_wp2_with fail
      go_ret
      refine ⟨-1, rfl, ?_, hch⟩
      have h1 : xs.any p = false := List.any_eq_false.2 fun x hx => by
        obtain ⟨j, hj, rfl⟩ := List.getElem_of_mem hx
        rw [hno.out j hj (by omega)]; simp
      rw [h1]; rfl

theorem contains_occ (B : Nat → Prop) (w : World) (v : Value) (xs : List Int) (c0 : Value) (p : Int → Bool) (h : Sl B w v xs.length (xs.flatMap fInt)) (hn : xs.length ≤ 9223372036854775807)
    (hc : ∀ (i : Nat) (hi : i < xs.length) (w' : World), Ch Noone w w' → Calls Tryz.prog 164 #[.int .i64 xs[i], c0] w' fun r w'' => r = .returned (.bool (p xs[i])) ∧ Ch Noone w' w'') :
    Calls Tryz.prog 123 #[v, .func (.func 164) #[] #[c0]] w fun r w' => r = .returned (.bool (xs.any p)) ∧ Ch Noone w w' := by
  have HI := Lib.hid (index_occ B w v xs c0 p h hn hc)
  clear hc h hn
  go_enter Tryz.func123, Tryz.ntmps123
  go_wp2_with fail
  refine (HI.out).mono ?_
  rintro e w1 ⟨n, rfl, hd, hc1⟩
  have HD := Lib.hid hd; clear hd
  go_wp2_with fail
  go_ret
  exact ⟨by rw [HD.out]; rfl, hc1⟩

set_option maxHeartbeats 1000000 in
theorem index_conf2 (B : Nat → Prop) (w : World) (v : Value) (xs : List Need) (c0 : Value) (c1 : Value) (p : Need → Bool) (h : Sl B w v xs.length (xs.flatMap fNeed)) (hn : xs.length ≤ 9223372036854775807)
    (hc : ∀ (i : Nat) (hi : i < xs.length) (w' : World), Ch Noone w w' → Calls Tryz.prog 127 #[.agg #[.int .i64 xs[i].pt, .bool xs[i].rev], c0, c1] w' fun r w'' => r = .returned (.bool (p xs[i])) ∧ Ch Noone w' w'') :
    Calls Tryz.prog 144 #[v, .func (.func 127) #[] #[c0, c1]] w fun r w' => ∃ n : Int, r = .returned (.int .i64 n) ∧ decide (0 ≤ n) = xs.any p ∧ Ch Noone w w' := by
  have HC := Lib.hid hc; clear hc
  have HS := Lib.hid h
  obtain ⟨ao, cap, rfl, h2, h3, h4, h5⟩ := h
  clear h2 h3 h4 h5
  go_enter Tryz.func144, Tryz.ntmps144
  go_wp2_with fail
  go_loopw [5, 8] (fun _ i wr => ∃ k : Nat, k ≤ xs.length ∧ i = .int .i64 k ∧ Ch Noone w wr ∧ Hid (∀ j (hj : j < xs.length), j < k → p xs[j] = false)) (fun _ i _ => (xs.length - intOf i).toNat)
  case atStart => exact ⟨0, by omega, rfl, Ch.refl _ _, fun j hj h => by omega⟩
  case round =>
    obtain ⟨k, hk, rfl, hch, hno⟩ := hrel
    by_cases hkl : k < xs.length
    · obtain ⟨b, off, rfl, _, _, hat⟩ := (Sl.ch0 HS.out hch).at (f := fNeed) (C := 2) (fun _ => rfl) (by omega) hkl
      have y0 : wr.cell? ⟨b, off + k * 2, none⟩ = some (.int .i64 xs[k].pt) := hat 0 (by omega)
      have y1 : wr.cell? ⟨b, off + k * 2 + 1, none⟩ = some (.bool xs[k].rev) := hat 1 (by omega)
      clear hat
      obtain ⟨y, hy⟩ : ∃ y, y = xs[k] := ⟨_, rfl⟩
      rw [← hy] at y0 y1
      have HY := Lib.hid hy; clear hy
      have hcall := HC.out k hkl wr hch
      rw [← HY.out] at hcall
      have HK := Lib.hid hcall; clear hcall
      cases hp : p y with
      | true =>
        rw [hp] at HK
        have HP := Lib.hid hp; clear hp
        go_wp2_with fail
        refine (HK.out).mono ?_
        rintro e w1 ⟨rfl, hc1⟩
        go_wp2_with fail
        go_ret
        refine ⟨k, rfl, ?_, hch.trans hc1⟩
        have h1 : xs.any p = true := List.any_eq_true.2 ⟨xs[k], List.getElem_mem hkl, by rw [← HY.out]; exact HP.out⟩
        rw [h1]; simp
      | false =>
        rw [hp] at HK
        have HP := Lib.hid hp; clear hp
        go_wp2_with fail
        refine (HK.out).mono ?_
        rintro e w1 ⟨rfl, hc1⟩
        go_wp2_with fail
        go_roundw
        case rel =>
          refine ⟨k + 1, by omega, by go_num, hch.trans hc1, fun j hj hjk => ?_⟩
          by_cases hjk' : j = k
          · subst hjk'; rw [← HY.out]; exact HP.out
          · exact hno.out j hj (by omega)
        case measure => simp [intOf]; omega
    · go_wp2_with fail
      go_ret
      refine ⟨-1, rfl, ?_, hch⟩
      have h1 : xs.any p = false := List.any_eq_false.2 fun x hx => by
        obtain ⟨j, hj, rfl⟩ := List.getElem_of_mem hx
        rw [hno.out j hj (by omega)]; simp
      rw [h1]; rfl

theorem contains_conf2 (B : Nat → Prop) (w : World) (v : Value) (xs : List Need) (c0 : Value) (c1 : Value) (p : Need → Bool) (h : Sl B w v xs.length (xs.flatMap fNeed)) (hn : xs.length ≤ 9223372036854775807)
    (hc : ∀ (i : Nat) (hi : i < xs.length) (w' : World), Ch Noone w w' → Calls Tryz.prog 127 #[.agg #[.int .i64 xs[i].pt, .bool xs[i].rev], c0, c1] w' fun r w'' => r = .returned (.bool (p xs[i])) ∧ Ch Noone w' w'') :
    Calls Tryz.prog 125 #[v, .func (.func 127) #[] #[c0, c1]] w fun r w' => r = .returned (.bool (xs.any p)) ∧ Ch Noone w w' := by
  have HI := Lib.hid (index_conf2 B w v xs c0 c1 p h hn hc)
  clear hc h hn
  go_enter Tryz.func125, Tryz.ntmps125
  go_wp2_with fail
  refine (HI.out).mono ?_
  rintro e w1 ⟨n, rfl, hd, hc1⟩
  have HD := Lib.hid hd; clear hd
  go_wp2_with fail
  go_ret
  exact ⟨by rw [HD.out]; rfl, hc1⟩

set_option maxHeartbeats 1000000 in
theorem index_alllie (B : Nat → Prop) (w : World) (v : Value) (xs : List Need) (c0 : Value) (p : Need → Bool) (h : Sl B w v xs.length (xs.flatMap fNeed)) (hn : xs.length ≤ 9223372036854775807)
    (hc : ∀ (i : Nat) (hi : i < xs.length) (w' : World), Ch Noone w w' → Calls Tryz.prog 165 #[.agg #[.int .i64 xs[i].pt, .bool xs[i].rev], c0] w' fun r w'' => r = .returned (.bool (p xs[i])) ∧ Ch Noone w' w'') :
    Calls Tryz.prog 144 #[v, .func (.func 165) #[] #[c0]] w fun r w' => ∃ n : Int, r = .returned (.int .i64 n) ∧ decide (0 ≤ n) = xs.any p ∧ Ch Noone w w' := by
  have HC := Lib.hid hc; clear hc
  have HS := Lib.hid h
  obtain ⟨ao, cap, rfl, h2, h3, h4, h5⟩ := h
  clear h2 h3 h4 h5
  go_enter Tryz.func144, Tryz.ntmps144
  go_wp2_with fail
  go_loopw [5, 8] (fun _ i wr => ∃ k : Nat, k ≤ xs.length ∧ i = .int .i64 k ∧ Ch Noone w wr ∧ Hid (∀ j (hj : j < xs.length), j < k → p xs[j] = false)) (fun _ i _ => (xs.length - intOf i).toNat)
  case atStart => exact ⟨0, by omega, rfl, Ch.refl _ _, fun j hj h => by omega⟩
  case round =>
    obtain ⟨k, hk, rfl, hch, hno⟩ := hrel
    by_cases hkl : k < xs.length
    · obtain ⟨b, off, rfl, _, _, hat⟩ := (Sl.ch0 HS.out hch).at (f := fNeed) (C := 2) (fun _ => rfl) (by omega) hkl
      have y0 : wr.cell? ⟨b, off + k * 2, none⟩ = some (.int .i64 xs[k].pt) := hat 0 (by omega)
      have y1 : wr.cell? ⟨b, off + k * 2 + 1, none⟩ = some (.bool xs[k].rev) := hat 1 (by omega)
      clear hat
      obtain ⟨y, hy⟩ : ∃ y, y = xs[k] := ⟨_, rfl⟩
      rw [← hy] at y0 y1
      have HY := Lib.hid hy; clear hy
      have hcall := HC.out k hkl wr hch
      rw [← HY.out] at hcall
      have HK := Lib.hid hcall; clear hcall
      cases hp : p y with
      | true =>
        rw [hp] at HK
        have HP := Lib.hid hp; clear hp
        go_wp2_with fail
        refine (HK.out).mono ?_
        rintro e w1 ⟨rfl, hc1⟩
        go_wp2_with fail
        go_ret
        refine ⟨k, rfl, ?_, hch.trans hc1⟩
        have h1 : xs.any p = true := List.any_eq_true.2 ⟨xs[k], List.getElem_mem hkl, by rw [← HY.out]; exact HP.out⟩
        rw [h1]; simp
      | false =>
        rw [hp] at HK
        have HP := Lib.hid hp; clear hp
        go_wp2_with fail
        refine (HK.out).mono ?_
        rintro e w1 ⟨rfl, hc1⟩
        go_wp2_with fail
        go_roundw
        case rel =>
          refine ⟨k + 1, by omega, by go_num, hch.trans hc1, fun j hj hjk => ?_⟩
          by_cases hjk' : j = k
          · subst hjk'; rw [← HY.out]; exact HP.out
          · exact hno.out j hj (by omega)
        case measure => simp [intOf]; omega
    · go_wp2_with fail
      go_ret
      refine ⟨-1, rfl, ?_, hch⟩
      have h1 : xs.any p = false := List.any_eq_false.2 fun x hx => by
        obtain ⟨j, hj, rfl⟩ := List.getElem_of_mem hx
        rw [hno.out j hj (by omega)]; simp
      rw [h1]; rfl

theorem contains_alllie (B : Nat → Prop) (w : World) (v : Value) (xs : List Need) (c0 : Value) (p : Need → Bool) (h : Sl B w v xs.length (xs.flatMap fNeed)) (hn : xs.length ≤ 9223372036854775807)
    (hc : ∀ (i : Nat) (hi : i < xs.length) (w' : World), Ch Noone w w' → Calls Tryz.prog 165 #[.agg #[.int .i64 xs[i].pt, .bool xs[i].rev], c0] w' fun r w'' => r = .returned (.bool (p xs[i])) ∧ Ch Noone w' w'') :
    Calls Tryz.prog 125 #[v, .func (.func 165) #[] #[c0]] w fun r w' => r = .returned (.bool (xs.any p)) ∧ Ch Noone w w' := by
  have HI := Lib.hid (index_alllie B w v xs c0 p h hn hc)
  clear hc h hn
  go_enter Tryz.func125, Tryz.ntmps125
  go_wp2_with fail
  refine (HI.out).mono ?_
  rintro e w1 ⟨n, rfl, hd, hc1⟩
  have HD := Lib.hid hd; clear hd
  go_wp2_with fail
  go_ret
  exact ⟨by rw [HD.out]; rfl, hc1⟩

end Go.Proofs.YtkplgggdidhnoaaGreatDoor

namespace Go.Proofs.YtkplgggdidhnoaaGreatDoor
open Go.ChangeShapes Go.WideShapes Go.ChangeAt Go.RowKit
set_option linter.unusedVariables false

theorem Sl.take {α : Type} {f : α → List Value} {C : Nat} (hf : ∀ x, (f x).length = C) {B : Nat → Prop} {w : World} {ao : Option Addr} {n cap : Nat} {xs : List α}
    (h : Sl B w (.slice ao n cap) n (xs.flatMap f)) (hn : n = xs.length) {i : Nat} (hi : i ≤ n) : Sl B w (.slice ao i cap) i ((xs.take i).flatMap f) := by
  obtain ⟨ao', cap', h1, h2, h3, h4, h5⟩ := h
  simp only [Value.slice.injEq] at h1
  obtain ⟨rfl, _, rfl⟩ := h1
  refine ⟨ao, cap, rfl, by omega, h3, fun h => by have := h4 h; omega, fun hne => ?_⟩
  have hsub : (xs.take i).flatMap f <+: xs.flatMap f := by
    refine ⟨(xs.drop i).flatMap f, ?_⟩
    rw [← List.flatMap_append, List.take_append_drop]
  have hne' : xs.flatMap f ≠ [] := fun he => hne (by rw [he] at hsub; exact List.prefix_nil.1 hsub)
  obtain ⟨b, off, e, hB, hlt, hc⟩ := h5 hne'
  refine ⟨b, off, e, hB, hlt, fun j hj => ?_⟩
  rw [hc j (Nat.lt_of_lt_of_le hj hsub.length_le)]
  obtain ⟨t, ht⟩ := hsub
  rw [← ht, List.getElem?_append_left hj]

set_option maxHeartbeats 1000000 in
theorem slindex_int (B : Nat → Prop) (w : World) (v : Value) (xs : List Int) (x : Int) (h : Sl B w v xs.length (xs.flatMap fInt)) (hn : xs.length ≤ 9223372036854775807) :
    Calls Tryz.prog 134 #[v, .int .i64 x] w fun r w' => ∃ n : Int, r = .returned (.int .i64 n) ∧ decide (0 ≤ n) = xs.any (fun y => x == y) ∧ w' = w := by
  have HS := Lib.hid h
  obtain ⟨ao, cap, rfl, h2, h3, h4, h5⟩ := h
  clear h2 h3 h4 h5
  go_enter Tryz.func134, Tryz.ntmps134
  go_wp2_with fail
  go_loop [5, 8] (fun _ i => ∃ k : Nat, k ≤ xs.length ∧ i = .int .i64 k ∧ Hid (∀ j (hj : j < xs.length), j < k → (fun y => x == y) xs[j] = false)) (fun _ i => (xs.length - intOf i).toNat)
  case atStart => exact ⟨0, by omega, rfl, fun j hj h => by omega⟩
  case round =>
    obtain ⟨k, hk, rfl, hno⟩ := hrel
    by_cases hkl : k < xs.length
    · obtain ⟨b, off, rfl, _, _, hat⟩ := HS.out.at (f := fInt) (C := 1) (fun _ => rfl) (by omega) hkl
      have y0 : w.cell? ⟨b, off + k, none⟩ = some (.int .i64 xs[k]) := by have := hat 0 (by omega); rw [Nat.mul_one] at this; exact this
      clear hat
      obtain ⟨y, hy⟩ : ∃ y, y = xs[k] := ⟨_, rfl⟩
      rw [← hy] at y0
      have HY := Lib.hid hy; clear hy
      cases hp : (fun y => x == y) y with
      | true =>
        have hq : (x == y) = true := hp
        have HP := Lib.hid hp; clear hp
        go_wp2_with fail
        go_ret
        refine ⟨k, rfl, ?_, rfl⟩
        have h1 : xs.any (fun y => x == y) = true := List.any_eq_true.2 ⟨xs[k], List.getElem_mem hkl, by rw [← HY.out]; exact HP.out⟩
        rw [h1]; simp
      | false =>
        have hq : (x == y) = false := hp
        have HP := Lib.hid hp; clear hp
        go_wp2_with fail
        go_round
        case rel =>
          refine ⟨k + 1, by omega, by go_num, fun j hj hjk => ?_⟩
          by_cases hjk' : j = k
          · subst hjk'; rw [← HY.out]; exact HP.out
          · exact hno.out j hj (by omega)
        case measure => simp [intOf]; omega
    · go_wp2_with fail
      go_ret
      refine ⟨-1, rfl, ?_, rfl⟩
      have h1 : xs.any (fun y => x == y) = false := List.any_eq_false.2 fun z hz => by
        obtain ⟨j, hj, rfl⟩ := List.getElem_of_mem hz
        rw [hno.out j hj (by omega)]; simp
      rw [h1]; rfl
theorem slcontains_int (B : Nat → Prop) (w : World) (v : Value) (xs : List Int) (x : Int) (h : Sl B w v xs.length (xs.flatMap fInt)) (hn : xs.length ≤ 9223372036854775807) :
    Calls Tryz.prog 111 #[v, .int .i64 x] w fun r w' => r = .returned (.bool (xs.any (fun y => x == y))) ∧ w' = w := by
  have HI := Lib.hid (slindex_int B w v xs x h hn)
  clear h hn
  go_enter Tryz.func111, Tryz.ntmps111
  go_wp2_with fail
  refine (HI.out).mono ?_
  rintro e w1 ⟨n, rfl, hd, rfl⟩
  have HD := Lib.hid hd; clear hd
  go_wp2_with fail
  go_ret
  exact ⟨by rw [HD.out]; rfl, rfl⟩

set_option maxHeartbeats 1000000 in
theorem slindex_str (B : Nat → Prop) (w : World) (v : Value) (xs : List ByteArray) (x : ByteArray) (h : Sl B w v xs.length (xs.flatMap fStr)) (hn : xs.length ≤ 9223372036854775807) :
    Calls Tryz.prog 137 #[v, .string x] w fun r w' => ∃ n : Int, r = .returned (.int .i64 n) ∧ decide (0 ≤ n) = xs.any (fun y => x.toList == y.toList) ∧ w' = w := by
  have HS := Lib.hid h
  obtain ⟨ao, cap, rfl, h2, h3, h4, h5⟩ := h
  clear h2 h3 h4 h5
  go_enter Tryz.func137, Tryz.ntmps137
  go_wp2_with fail
  go_loop [5, 8] (fun _ i => ∃ k : Nat, k ≤ xs.length ∧ i = .int .i64 k ∧ Hid (∀ j (hj : j < xs.length), j < k → (fun y => x.toList == y.toList) xs[j] = false)) (fun _ i => (xs.length - intOf i).toNat)
  case atStart => exact ⟨0, by omega, rfl, fun j hj h => by omega⟩
  case round =>
    obtain ⟨k, hk, rfl, hno⟩ := hrel
    by_cases hkl : k < xs.length
    · obtain ⟨b, off, rfl, _, _, hat⟩ := HS.out.at (f := fStr) (C := 1) (fun _ => rfl) (by omega) hkl
      have y0 : w.cell? ⟨b, off + k, none⟩ = some (.string xs[k]) := by have := hat 0 (by omega); rw [Nat.mul_one] at this; exact this
      clear hat
      obtain ⟨y, hy⟩ : ∃ y, y = xs[k] := ⟨_, rfl⟩
      rw [← hy] at y0
      have HY := Lib.hid hy; clear hy
      cases hp : (fun y => x.toList == y.toList) y with
      | true =>
        have hq : (x.toList == y.toList) = true := hp
        have HP := Lib.hid hp; clear hp
        go_wp2_with fail
        go_ret
        refine ⟨k, rfl, ?_, rfl⟩
        have h1 : xs.any (fun y => x.toList == y.toList) = true := List.any_eq_true.2 ⟨xs[k], List.getElem_mem hkl, by rw [← HY.out]; exact HP.out⟩
        rw [h1]; simp
      | false =>
        have hq : (x.toList == y.toList) = false := hp
        have HP := Lib.hid hp; clear hp
        go_wp2_with fail
        go_round
        case rel =>
          refine ⟨k + 1, by omega, by go_num, fun j hj hjk => ?_⟩
          by_cases hjk' : j = k
          · subst hjk'; rw [← HY.out]; exact HP.out
          · exact hno.out j hj (by omega)
        case measure => simp [intOf]; omega
    · go_wp2_with fail
      go_ret
      refine ⟨-1, rfl, ?_, rfl⟩
      have h1 : xs.any (fun y => x.toList == y.toList) = false := List.any_eq_false.2 fun z hz => by
        obtain ⟨j, hj, rfl⟩ := List.getElem_of_mem hz
        rw [hno.out j hj (by omega)]; simp
      rw [h1]; rfl
theorem slcontains_str (B : Nat → Prop) (w : World) (v : Value) (xs : List ByteArray) (x : ByteArray) (h : Sl B w v xs.length (xs.flatMap fStr)) (hn : xs.length ≤ 9223372036854775807) :
    Calls Tryz.prog 113 #[v, .string x] w fun r w' => r = .returned (.bool (xs.any (fun y => x.toList == y.toList))) ∧ w' = w := by
  have HI := Lib.hid (slindex_str B w v xs x h hn)
  clear h hn
  go_enter Tryz.func113, Tryz.ntmps113
  go_wp2_with fail
  refine (HI.out).mono ?_
  rintro e w1 ⟨n, rfl, hd, rfl⟩
  have HD := Lib.hid hd; clear hd
  go_wp2_with fail
  go_ret
  exact ⟨by rw [HD.out]; rfl, rfl⟩

theorem held_need : Tryz.prog.stoodInHeld 48 = false := by kernel_rfl
theorem eq_need (w : World) (a c : Int) (x y : Bool) : (binOp .eql 48 (.agg #[.int .i64 a, .bool x]) (.agg #[.int .i64 c, .bool y])).run Tryz.prog w = .ok (.bool (a == c && x == y)) w := by
  have h := fun d => run_equalIn_struct (P := Tryz.prog) w d 48 #[.int .i64 a, .bool x] #[.int .i64 c, .bool y] (by kernel_rfl) held_need
  simp only [binOp]
  simp [Op.equal, Op.maxDepth]
  go_simp
  by_cases h1 : a = c <;> by_cases h2 : x = y <;> simp [h1, h2]
theorem held_rs : Tryz.prog.stoodInHeld 168 = false := by kernel_rfl
theorem eq_rs (w : World) (a a2 a3 c c2 c3 : Int) (x y : Bool) : (binOp .eql 168 (.agg #[.int .i64 a, .int .i64 a2, .int .i64 a3, .bool x]) (.agg #[.int .i64 c, .int .i64 c2, .int .i64 c3, .bool y])).run Tryz.prog w = .ok (.bool (a == c && a2 == c2 && a3 == c3 && x == y)) w := by
  have h := fun d => run_equalIn_struct (P := Tryz.prog) w d 168 #[.int .i64 a, .int .i64 a2, .int .i64 a3, .bool x] #[.int .i64 c, .int .i64 c2, .int .i64 c3, .bool y] (by kernel_rfl) held_rs
  simp only [binOp]
  simp [Op.equal, Op.maxDepth]
  go_simp
  by_cases h1 : a = c <;> by_cases h2 : a2 = c2 <;> by_cases h3 : a3 = c3 <;> by_cases h4 : x = y <;> simp [h1, h2, h3, h4]

set_option maxHeartbeats 1000000 in
theorem slindex_need (B : Nat → Prop) (w : World) (v : Value) (xs : List Need) (x : Need) (h : Sl B w v xs.length (xs.flatMap fNeed)) (hn : xs.length ≤ 9223372036854775807) :
    Calls Tryz.prog 146 #[v, .agg #[.int .i64 x.pt, .bool x.rev]] w fun r w' => ∃ n : Int, r = .returned (.int .i64 n) ∧ Ch Noone w w' := by
  have HS := Lib.hid h
  obtain ⟨ao, cap, rfl, h2, h3, h4, h5⟩ := h
  clear h2 h3 h4 h5
  have b0 : Blk (w.alloc (.cells #[.int .i64 x.pt, .bool x.rev] 48)) w.heap.size 48 #[.int .i64 x.pt, .bool x.rev] := Blk.new _ _ _
  have C0 : Ch Noone w (w.alloc (.cells #[.int .i64 x.pt, .bool x.rev] 48)) := (Ch.refl _ _).alloc _
  go_enter Tryz.func146, Tryz.ntmps146
  go_wp2_with fail
  go_loopw [5, 8] (fun _ i wr => ∃ k : Nat, k ≤ xs.length ∧ i = .int .i64 k ∧ Ch Noone w wr ∧ Blk wr w.heap.size 48 #[.int .i64 x.pt, .bool x.rev]) (fun _ i _ => (xs.length - intOf i).toNat)
  case atStart => exact ⟨0, by omega, rfl, C0, b0⟩
  case round =>
    clear b0 C0
    obtain ⟨k, hk, rfl, hch, hb⟩ := hrel
    by_cases hkl : k < xs.length
    · obtain ⟨b, off, rfl, _, _, hat⟩ := (Sl.ch0 HS.out hch).at (f := fNeed) (C := 2) (fun _ => rfl) (by omega) hkl
      have y0 : wr.cell? ⟨b, off + k * 2, none⟩ = some (.int .i64 xs[k].pt) := hat 0 (by omega)
      have y1 : wr.cell? ⟨b, off + k * 2 + 1, none⟩ = some (.bool xs[k].rev) := hat 1 (by omega)
      have z0 : wr.cell? ⟨w.heap.size, 0, none⟩ = some (.int .i64 x.pt) := hb.cell 0
      have z1 : wr.cell? ⟨w.heap.size, 1, none⟩ = some (.bool x.rev) := hb.cell 1
      clear hat
      generalize xs[k] = y at *
      have hk0 : (0 : Int) ≤ k := by omega
      have hk1 : (k : Int) < xs.length := by omega
      have he := fun w => eq_need w x.pt y.pt x.rev y.rev
      generalize (x.pt == y.pt && x.rev == y.rev) = t at he
      cases t
      · go_wp2_with fail
        go_quiet (fail)
        go_wp2_with fail
        go_roundw
        case rel => exact ⟨k + 1, by omega, by go_num, hch.drewN _, hb⟩
        case measure => simp [intOf]; omega
      · go_wp2_with fail
        go_quiet (fail)
        go_wp2_with fail
        go_ret
        exact ⟨k, rfl, hch.drewN _⟩
    · go_wp2_with fail
      go_ret
      exact ⟨-1, rfl, hch⟩
theorem slcontains_need (B : Nat → Prop) (w : World) (v : Value) (xs : List Need) (x : Need) (h : Sl B w v xs.length (xs.flatMap fNeed)) (hn : xs.length ≤ 9223372036854775807) :
    Calls Tryz.prog 128 #[v, .agg #[.int .i64 x.pt, .bool x.rev]] w fun r w' => ∃ t : Bool, r = .returned (.bool t) ∧ Ch Noone w w' := by
  have C0 : Ch Noone w (w.alloc (.cells #[.int .i64 x.pt, .bool x.rev] 48)) := (Ch.refl _ _).alloc _
  have HI := Lib.hid (slindex_need B (w.alloc (.cells #[.int .i64 x.pt, .bool x.rev] 48)) v xs x (h.ch0 C0) hn)
  clear h hn
  go_enter Tryz.func128, Tryz.ntmps128
  go_wp2_with fail
  refine (HI.out).mono ?_
  rintro e w1 ⟨n, rfl, hc1⟩
  go_wp2_with fail
  go_ret
  exact ⟨_, rfl, C0.trans hc1⟩
end Go.Proofs.YtkplgggdidhnoaaGreatDoor
