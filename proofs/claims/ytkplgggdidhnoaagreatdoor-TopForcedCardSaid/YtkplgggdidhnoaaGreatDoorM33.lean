/-
  slices.IndexFunc and ContainsFunc with the closures of this program: what they tell if the closure tells g. Condition: at most 1000 elements.
-/
import Derived.Test.YtkplgggdidhnoaaGreatDoorM03
import Derived.Test.YtkplgggdidhnoaaGreatDoorM11
namespace Go.Proofs.YtkplgggdidhnoaaGreatDoor
open Go.ChangeShapes Go.WideShapes Go.ChangeAt Go.RowKit
set_option linter.unusedVariables false


set_option maxRecDepth 100000 in
set_option maxHeartbeats 2000000 in
theorem indexFunc_confl1 (B : Nat → Prop) (w : World) (v : Value) (xs : List Int) (k0 : Value) (g : Int → Bool) (hv : Sl B w v xs.length (xs.flatMap fInt)) (hl : xs.length ≤ 1000) (hC : ∀ (w' : World) (x : Int), x ∈ xs → Ch Noone w w' → Calls Tryz.prog 124 #[.int .i64 x, k0] w' fun r w'' => r = .returned (.bool (g x)) ∧ Ch Noone w' w'') :
    Calls Tryz.prog 143 #[v, .func (.func 124) #[] #[k0]] w fun r w' => (∃ n : Int, r = .returned (.int .i64 n) ∧ (decide (0 ≤ n) = xs.any g)) ∧ Ch Noone w w' := by
  have HV := Lib.hid hv
  have HC := Lib.hid hC
  obtain ⟨a, c, rfl, -, -, -, -⟩ := hv
  clear hC
  go_enter Tryz.func143, Tryz.ntmps143
  go_wp2_with fail
  go_loopw [8] (fun q wr => ∃ j : Nat, j ≤ xs.length ∧ q = .int .i64 j ∧ Ch Noone w wr ∧ (xs.take j).any g = false) (fun q _ => (xs.length - intOf q).toNat)
  case atStart => exact ⟨0, by omega, rfl, Ch.refl _ _, rfl⟩
  case round =>
    obtain ⟨j, hj, rfl, hch, hno⟩ := hrel
    have HN := Lib.hid hno; clear hno
    by_cases hjl : j < xs.length
    · obtain ⟨b, off, rfl, -, hbw, hat⟩ := HV.out.at (f := fInt) (C := 1) (fun _ => rfl) (by omega) hjl
      have y0 : wr.cell? ⟨b, off + j, none⟩ = some (.int .i64 xs[j]) := by have h := hat 0 (by omega); rw [Nat.mul_one] at h; exact (hch.rd hbw _).trans h
      have hj0 : (0 : Int) ≤ j := by omega
      have hj1 : (j : Int) < xs.length := by omega
      have HO := Lib.hid (HC.out wr xs[j] (List.getElem_mem hjl) hch)
      have HT : Hid (g xs[j] = false → (xs.take (j + 1)).any g = false) := fun h => by
        rw [List.take_succ_eq_append_getElem hjl, List.any_append, HN.out]; simp [h]
      have HY : Hid (g xs[j] = true → true = xs.any g) := fun h => (List.any_eq_true.2 ⟨_, List.getElem_mem hjl, h⟩).symm
      clear hat
      generalize g xs[j] = q at *
      generalize xs[j] = x at *
      go_wp2_with fail
      refine HO.out.mono ?_
      rintro e w1 ⟨rfl, c1⟩
      clear HO
      cases q
      · have HT' := Lib.hid (HT.out rfl)
        clear HT HY
        go_wp2_with fail
        go_roundw
        case rel => exact ⟨j + 1, by omega, by go_num, hch.trans c1, HT'.out⟩
        case measure => simp [intOf]; omega
      · have HY' := Lib.hid (HY.out rfl)
        clear HT HY
        go_wp2_with fail
        go_ret
        exact ⟨⟨_, rfl, by rw [← HY'.out]; simp⟩, hch.trans c1⟩
    · have HA : Hid (xs.any g = false) := by
        have := HN.out
        rwa [List.take_of_length_le (by omega)] at this
      go_wp2_with fail
      go_ret
      exact ⟨⟨_, rfl, by rw [HA.out]; rfl⟩, hch⟩

theorem containsFunc_confl1 (B : Nat → Prop) (w : World) (v : Value) (xs : List Int) (k0 : Value) (g : Int → Bool) (hv : Sl B w v xs.length (xs.flatMap fInt)) (hl : xs.length ≤ 1000) (hC : ∀ (w' : World) (x : Int), x ∈ xs → Ch Noone w w' → Calls Tryz.prog 124 #[.int .i64 x, k0] w' fun r w'' => r = .returned (.bool (g x)) ∧ Ch Noone w' w'') :
    Calls Tryz.prog 123 #[v, .func (.func 124) #[] #[k0]] w fun r w' => r = .returned (.bool (xs.any g)) ∧ Ch Noone w w' := by
  have HI := Lib.hid (indexFunc_confl1 B w v xs k0 g hv hl hC)
  clear hv hC
  go_enter Tryz.func123, Tryz.ntmps123
  go_wp2_with fail
  refine HI.out.mono ?_
  rintro e w1 ⟨⟨n, rfl, hn⟩, c1⟩
  have HN := Lib.hid hn; clear hn
  go_wp2_with fail
  go_ret
  exact ⟨by rw [← HN.out]; rfl, c1⟩

set_option maxRecDepth 100000 in
set_option maxHeartbeats 2000000 in
theorem indexFunc_occ1 (B : Nat → Prop) (w : World) (v : Value) (xs : List Int) (k0 : Value) (g : Int → Bool) (hv : Sl B w v xs.length (xs.flatMap fInt)) (hl : xs.length ≤ 1000) (hC : ∀ (w' : World) (x : Int), x ∈ xs → Ch Noone w w' → Calls Tryz.prog 164 #[.int .i64 x, k0] w' fun r w'' => r = .returned (.bool (g x)) ∧ Ch Noone w' w'') :
    Calls Tryz.prog 143 #[v, .func (.func 164) #[] #[k0]] w fun r w' => (∃ n : Int, r = .returned (.int .i64 n) ∧ (decide (0 ≤ n) = xs.any g)) ∧ Ch Noone w w' := by
  have HV := Lib.hid hv
  have HC := Lib.hid hC
  obtain ⟨a, c, rfl, -, -, -, -⟩ := hv
  clear hC
  go_enter Tryz.func143, Tryz.ntmps143
  go_wp2_with fail
  go_loopw [8] (fun q wr => ∃ j : Nat, j ≤ xs.length ∧ q = .int .i64 j ∧ Ch Noone w wr ∧ (xs.take j).any g = false) (fun q _ => (xs.length - intOf q).toNat)
  case atStart => exact ⟨0, by omega, rfl, Ch.refl _ _, rfl⟩
  case round =>
    obtain ⟨j, hj, rfl, hch, hno⟩ := hrel
    have HN := Lib.hid hno; clear hno
    by_cases hjl : j < xs.length
    · obtain ⟨b, off, rfl, -, hbw, hat⟩ := HV.out.at (f := fInt) (C := 1) (fun _ => rfl) (by omega) hjl
      have y0 : wr.cell? ⟨b, off + j, none⟩ = some (.int .i64 xs[j]) := by have h := hat 0 (by omega); rw [Nat.mul_one] at h; exact (hch.rd hbw _).trans h
      have hj0 : (0 : Int) ≤ j := by omega
      have hj1 : (j : Int) < xs.length := by omega
      have HO := Lib.hid (HC.out wr xs[j] (List.getElem_mem hjl) hch)
      have HT : Hid (g xs[j] = false → (xs.take (j + 1)).any g = false) := fun h => by
        rw [List.take_succ_eq_append_getElem hjl, List.any_append, HN.out]; simp [h]
      have HY : Hid (g xs[j] = true → true = xs.any g) := fun h => (List.any_eq_true.2 ⟨_, List.getElem_mem hjl, h⟩).symm
      clear hat
      generalize g xs[j] = q at *
      generalize xs[j] = x at *
      go_wp2_with fail
      refine HO.out.mono ?_
      rintro e w1 ⟨rfl, c1⟩
      clear HO
      cases q
      · have HT' := Lib.hid (HT.out rfl)
        clear HT HY
        go_wp2_with fail
        go_roundw
        case rel => exact ⟨j + 1, by omega, by go_num, hch.trans c1, HT'.out⟩
        case measure => simp [intOf]; omega
      · have HY' := Lib.hid (HY.out rfl)
        clear HT HY
        go_wp2_with fail
        go_ret
        exact ⟨⟨_, rfl, by rw [← HY'.out]; simp⟩, hch.trans c1⟩
    · have HA : Hid (xs.any g = false) := by
        have := HN.out
        rwa [List.take_of_length_le (by omega)] at this
      go_wp2_with fail
      go_ret
      exact ⟨⟨_, rfl, by rw [HA.out]; rfl⟩, hch⟩

theorem containsFunc_occ1 (B : Nat → Prop) (w : World) (v : Value) (xs : List Int) (k0 : Value) (g : Int → Bool) (hv : Sl B w v xs.length (xs.flatMap fInt)) (hl : xs.length ≤ 1000) (hC : ∀ (w' : World) (x : Int), x ∈ xs → Ch Noone w w' → Calls Tryz.prog 164 #[.int .i64 x, k0] w' fun r w'' => r = .returned (.bool (g x)) ∧ Ch Noone w' w'') :
    Calls Tryz.prog 123 #[v, .func (.func 164) #[] #[k0]] w fun r w' => r = .returned (.bool (xs.any g)) ∧ Ch Noone w w' := by
  have HI := Lib.hid (indexFunc_occ1 B w v xs k0 g hv hl hC)
  clear hv hC
  go_enter Tryz.func123, Tryz.ntmps123
  go_wp2_with fail
  refine HI.out.mono ?_
  rintro e w1 ⟨⟨n, rfl, hn⟩, c1⟩
  have HN := Lib.hid hn; clear hn
  go_wp2_with fail
  go_ret
  exact ⟨by rw [← HN.out]; rfl, c1⟩

set_option maxRecDepth 100000 in
set_option maxHeartbeats 2000000 in
theorem indexFunc_may1 (B : Nat → Prop) (w : World) (v : Value) (xs : List Int) (g : Int → Bool) (hv : Sl B w v xs.length (xs.flatMap fInt)) (hl : xs.length ≤ 1000) (hC : ∀ (w' : World) (x : Int), x ∈ xs → Ch Noone w w' → Calls Tryz.prog 157 #[.int .i64 x] w' fun r w'' => r = .returned (.bool (g x)) ∧ Ch Noone w' w'') :
    Calls Tryz.prog 143 #[v, .func (.func 157) #[] #[]] w fun r w' => (∃ n : Int, r = .returned (.int .i64 n) ∧ (decide (0 ≤ n) = xs.any g)) ∧ Ch Noone w w' := by
  have HV := Lib.hid hv
  have HC := Lib.hid hC
  obtain ⟨a, c, rfl, -, -, -, -⟩ := hv
  clear hC
  go_enter Tryz.func143, Tryz.ntmps143
  go_wp2_with fail
  go_loopw [8] (fun q wr => ∃ j : Nat, j ≤ xs.length ∧ q = .int .i64 j ∧ Ch Noone w wr ∧ (xs.take j).any g = false) (fun q _ => (xs.length - intOf q).toNat)
  case atStart => exact ⟨0, by omega, rfl, Ch.refl _ _, rfl⟩
  case round =>
    obtain ⟨j, hj, rfl, hch, hno⟩ := hrel
    have HN := Lib.hid hno; clear hno
    by_cases hjl : j < xs.length
    · obtain ⟨b, off, rfl, -, hbw, hat⟩ := HV.out.at (f := fInt) (C := 1) (fun _ => rfl) (by omega) hjl
      have y0 : wr.cell? ⟨b, off + j, none⟩ = some (.int .i64 xs[j]) := by have h := hat 0 (by omega); rw [Nat.mul_one] at h; exact (hch.rd hbw _).trans h
      have hj0 : (0 : Int) ≤ j := by omega
      have hj1 : (j : Int) < xs.length := by omega
      have HO := Lib.hid (HC.out wr xs[j] (List.getElem_mem hjl) hch)
      have HT : Hid (g xs[j] = false → (xs.take (j + 1)).any g = false) := fun h => by
        rw [List.take_succ_eq_append_getElem hjl, List.any_append, HN.out]; simp [h]
      have HY : Hid (g xs[j] = true → true = xs.any g) := fun h => (List.any_eq_true.2 ⟨_, List.getElem_mem hjl, h⟩).symm
      clear hat
      generalize g xs[j] = q at *
      generalize xs[j] = x at *
      go_wp2_with fail
      refine HO.out.mono ?_
      rintro e w1 ⟨rfl, c1⟩
      clear HO
      cases q
      · have HT' := Lib.hid (HT.out rfl)
        clear HT HY
        go_wp2_with fail
        go_roundw
        case rel => exact ⟨j + 1, by omega, by go_num, hch.trans c1, HT'.out⟩
        case measure => simp [intOf]; omega
      · have HY' := Lib.hid (HY.out rfl)
        clear HT HY
        go_wp2_with fail
        go_ret
        exact ⟨⟨_, rfl, by rw [← HY'.out]; simp⟩, hch.trans c1⟩
    · have HA : Hid (xs.any g = false) := by
        have := HN.out
        rwa [List.take_of_length_le (by omega)] at this
      go_wp2_with fail
      go_ret
      exact ⟨⟨_, rfl, by rw [HA.out]; rfl⟩, hch⟩

theorem containsFunc_may1 (B : Nat → Prop) (w : World) (v : Value) (xs : List Int) (g : Int → Bool) (hv : Sl B w v xs.length (xs.flatMap fInt)) (hl : xs.length ≤ 1000) (hC : ∀ (w' : World) (x : Int), x ∈ xs → Ch Noone w w' → Calls Tryz.prog 157 #[.int .i64 x] w' fun r w'' => r = .returned (.bool (g x)) ∧ Ch Noone w' w'') :
    Calls Tryz.prog 123 #[v, .func (.func 157) #[] #[]] w fun r w' => r = .returned (.bool (xs.any g)) ∧ Ch Noone w w' := by
  have HI := Lib.hid (indexFunc_may1 B w v xs  g hv hl hC)
  clear hv hC
  go_enter Tryz.func123, Tryz.ntmps123
  go_wp2_with fail
  refine HI.out.mono ?_
  rintro e w1 ⟨⟨n, rfl, hn⟩, c1⟩
  have HN := Lib.hid hn; clear hn
  go_wp2_with fail
  go_ret
  exact ⟨by rw [← HN.out]; rfl, c1⟩

set_option maxRecDepth 100000 in
set_option maxHeartbeats 2000000 in
theorem indexFunc_confl2 (B : Nat → Prop) (w : World) (v : Value) (xs : List Need) (k0 k1 : Value) (g : Need → Bool) (hv : Sl B w v xs.length (xs.flatMap fNeed)) (hl : xs.length ≤ 1000) (hC : ∀ (w' : World) (x : Need), x ∈ xs → Ch Noone w w' → Calls Tryz.prog 127 #[.agg #[.int .i64 x.pt, .bool x.rev], k0, k1] w' fun r w'' => r = .returned (.bool (g x)) ∧ Ch Noone w' w'') :
    Calls Tryz.prog 144 #[v, .func (.func 127) #[] #[k0, k1]] w fun r w' => (∃ n : Int, r = .returned (.int .i64 n) ∧ (decide (0 ≤ n) = xs.any g)) ∧ Ch Noone w w' := by
  have HV := Lib.hid hv
  have HC := Lib.hid hC
  obtain ⟨a, c, rfl, -, -, -, -⟩ := hv
  clear hC
  go_enter Tryz.func144, Tryz.ntmps144
  go_wp2_with fail
  go_loopw [8] (fun q wr => ∃ j : Nat, j ≤ xs.length ∧ q = .int .i64 j ∧ Ch Noone w wr ∧ (xs.take j).any g = false) (fun q _ => (xs.length - intOf q).toNat)
  case atStart => exact ⟨0, by omega, rfl, Ch.refl _ _, rfl⟩
  case round =>
    obtain ⟨j, hj, rfl, hch, hno⟩ := hrel
    have HN := Lib.hid hno; clear hno
    by_cases hjl : j < xs.length
    · obtain ⟨b, off, rfl, -, hbw, hat⟩ := HV.out.at (f := fNeed) (C := 2) (fun _ => rfl) (by omega) hjl
      have y0 : wr.cell? ⟨b, off + j * 2, none⟩ = some (.int .i64 xs[j].pt) := (hch.rd hbw _).trans (hat 0 (by omega))
      have y1 : wr.cell? ⟨b, off + j * 2 + 1, none⟩ = some (.bool xs[j].rev) := (hch.rd hbw _).trans (hat 1 (by omega))
      have hj0 : (0 : Int) ≤ j := by omega
      have hj1 : (j : Int) < xs.length := by omega
      have HO := Lib.hid (HC.out wr xs[j] (List.getElem_mem hjl) hch)
      have HT : Hid (g xs[j] = false → (xs.take (j + 1)).any g = false) := fun h => by
        rw [List.take_succ_eq_append_getElem hjl, List.any_append, HN.out]; simp [h]
      have HY : Hid (g xs[j] = true → true = xs.any g) := fun h => (List.any_eq_true.2 ⟨_, List.getElem_mem hjl, h⟩).symm
      clear hat
      generalize g xs[j] = q at *
      generalize xs[j] = x at *
      go_wp2_with fail
      refine HO.out.mono ?_
      rintro e w1 ⟨rfl, c1⟩
      clear HO
      cases q
      · have HT' := Lib.hid (HT.out rfl)
        clear HT HY
        go_wp2_with fail
        go_roundw
        case rel => exact ⟨j + 1, by omega, by go_num, hch.trans c1, HT'.out⟩
        case measure => simp [intOf]; omega
      · have HY' := Lib.hid (HY.out rfl)
        clear HT HY
        go_wp2_with fail
        go_ret
        exact ⟨⟨_, rfl, by rw [← HY'.out]; simp⟩, hch.trans c1⟩
    · have HA : Hid (xs.any g = false) := by
        have := HN.out
        rwa [List.take_of_length_le (by omega)] at this
      go_wp2_with fail
      go_ret
      exact ⟨⟨_, rfl, by rw [HA.out]; rfl⟩, hch⟩

theorem containsFunc_confl2 (B : Nat → Prop) (w : World) (v : Value) (xs : List Need) (k0 k1 : Value) (g : Need → Bool) (hv : Sl B w v xs.length (xs.flatMap fNeed)) (hl : xs.length ≤ 1000) (hC : ∀ (w' : World) (x : Need), x ∈ xs → Ch Noone w w' → Calls Tryz.prog 127 #[.agg #[.int .i64 x.pt, .bool x.rev], k0, k1] w' fun r w'' => r = .returned (.bool (g x)) ∧ Ch Noone w' w'') :
    Calls Tryz.prog 125 #[v, .func (.func 127) #[] #[k0, k1]] w fun r w' => r = .returned (.bool (xs.any g)) ∧ Ch Noone w w' := by
  have HI := Lib.hid (indexFunc_confl2 B w v xs k0 k1 g hv hl hC)
  clear hv hC
  go_enter Tryz.func125, Tryz.ntmps125
  go_wp2_with fail
  refine HI.out.mono ?_
  rintro e w1 ⟨⟨n, rfl, hn⟩, c1⟩
  have HN := Lib.hid hn; clear hn
  go_wp2_with fail
  go_ret
  exact ⟨by rw [← HN.out]; rfl, c1⟩

set_option maxRecDepth 100000 in
set_option maxHeartbeats 2000000 in
theorem indexFunc_lie1 (B : Nat → Prop) (w : World) (v : Value) (xs : List Need) (k0 : Value) (g : Need → Bool) (hv : Sl B w v xs.length (xs.flatMap fNeed)) (hl : xs.length ≤ 1000) (hC : ∀ (w' : World) (x : Need), x ∈ xs → Ch Noone w w' → Calls Tryz.prog 165 #[.agg #[.int .i64 x.pt, .bool x.rev], k0] w' fun r w'' => r = .returned (.bool (g x)) ∧ Ch Noone w' w'') :
    Calls Tryz.prog 144 #[v, .func (.func 165) #[] #[k0]] w fun r w' => (∃ n : Int, r = .returned (.int .i64 n) ∧ (decide (0 ≤ n) = xs.any g)) ∧ Ch Noone w w' := by
  have HV := Lib.hid hv
  have HC := Lib.hid hC
  obtain ⟨a, c, rfl, -, -, -, -⟩ := hv
  clear hC
  go_enter Tryz.func144, Tryz.ntmps144
  go_wp2_with fail
  go_loopw [8] (fun q wr => ∃ j : Nat, j ≤ xs.length ∧ q = .int .i64 j ∧ Ch Noone w wr ∧ (xs.take j).any g = false) (fun q _ => (xs.length - intOf q).toNat)
  case atStart => exact ⟨0, by omega, rfl, Ch.refl _ _, rfl⟩
  case round =>
    obtain ⟨j, hj, rfl, hch, hno⟩ := hrel
    have HN := Lib.hid hno; clear hno
    by_cases hjl : j < xs.length
    · obtain ⟨b, off, rfl, -, hbw, hat⟩ := HV.out.at (f := fNeed) (C := 2) (fun _ => rfl) (by omega) hjl
      have y0 : wr.cell? ⟨b, off + j * 2, none⟩ = some (.int .i64 xs[j].pt) := (hch.rd hbw _).trans (hat 0 (by omega))
      have y1 : wr.cell? ⟨b, off + j * 2 + 1, none⟩ = some (.bool xs[j].rev) := (hch.rd hbw _).trans (hat 1 (by omega))
      have hj0 : (0 : Int) ≤ j := by omega
      have hj1 : (j : Int) < xs.length := by omega
      have HO := Lib.hid (HC.out wr xs[j] (List.getElem_mem hjl) hch)
      have HT : Hid (g xs[j] = false → (xs.take (j + 1)).any g = false) := fun h => by
        rw [List.take_succ_eq_append_getElem hjl, List.any_append, HN.out]; simp [h]
      have HY : Hid (g xs[j] = true → true = xs.any g) := fun h => (List.any_eq_true.2 ⟨_, List.getElem_mem hjl, h⟩).symm
      clear hat
      generalize g xs[j] = q at *
      generalize xs[j] = x at *
      go_wp2_with fail
      refine HO.out.mono ?_
      rintro e w1 ⟨rfl, c1⟩
      clear HO
      cases q
      · have HT' := Lib.hid (HT.out rfl)
        clear HT HY
        go_wp2_with fail
        go_roundw
        case rel => exact ⟨j + 1, by omega, by go_num, hch.trans c1, HT'.out⟩
        case measure => simp [intOf]; omega
      · have HY' := Lib.hid (HY.out rfl)
        clear HT HY
        go_wp2_with fail
        go_ret
        exact ⟨⟨_, rfl, by rw [← HY'.out]; simp⟩, hch.trans c1⟩
    · have HA : Hid (xs.any g = false) := by
        have := HN.out
        rwa [List.take_of_length_le (by omega)] at this
      go_wp2_with fail
      go_ret
      exact ⟨⟨_, rfl, by rw [HA.out]; rfl⟩, hch⟩

theorem containsFunc_lie1 (B : Nat → Prop) (w : World) (v : Value) (xs : List Need) (k0 : Value) (g : Need → Bool) (hv : Sl B w v xs.length (xs.flatMap fNeed)) (hl : xs.length ≤ 1000) (hC : ∀ (w' : World) (x : Need), x ∈ xs → Ch Noone w w' → Calls Tryz.prog 165 #[.agg #[.int .i64 x.pt, .bool x.rev], k0] w' fun r w'' => r = .returned (.bool (g x)) ∧ Ch Noone w' w'') :
    Calls Tryz.prog 125 #[v, .func (.func 165) #[] #[k0]] w fun r w' => r = .returned (.bool (xs.any g)) ∧ Ch Noone w w' := by
  have HI := Lib.hid (indexFunc_lie1 B w v xs k0 g hv hl hC)
  clear hv hC
  go_enter Tryz.func125, Tryz.ntmps125
  go_wp2_with fail
  refine HI.out.mono ?_
  rintro e w1 ⟨⟨n, rfl, hn⟩, c1⟩
  have HN := Lib.hid hn; clear hn
  go_wp2_with fail
  go_ret
  exact ⟨by rw [← HN.out]; rfl, c1⟩
end Go.Proofs.YtkplgggdidhnoaaGreatDoor
