/-
  lock.copied: the same layout in new memory. Condition: no list in it has more than 100000 elements.
-/
import Derived.Test.YtkplgggdidhnoaaGreatDoorM03
import Derived.Test.YtkplgggdidhnoaaGreatDoorM01
import Derived.Test.YtkplgggdidhnoaaGreatDoorM00
import Derived.Test.YtkplgggdidhnoaaGreatDoorProg
namespace Go.Proofs.YtkplgggdidhnoaaGreatDoor
open Go.ChangeShapes Go.WideShapes Go.ChangeAt Go.RowKit
set_option linter.unusedVariables false

theorem one_flat {α : Type} (f : α → List Value) (hf : ∀ x, ∀ u ∈ f x, u.oneCell' = true) (l : List α) : ∀ u ∈ l.flatMap f, u.oneCell' = true := fun u hu => by
  obtain ⟨x, _, h⟩ := List.mem_flatMap.1 hu
  exact hf x u h
theorem one_fStr (x : ByteArray) : ∀ u ∈ fStr x, u.oneCell' = true := by intro u hu; simp [fStr] at hu; subst hu; rfl
theorem one_fPnt (x : Pnt) : ∀ u ∈ fPnt x, u.oneCell' = true := by intro u hu; simp [fPnt] at hu; rcases hu with rfl | rfl <;> rfl
theorem one_fInt (x : Int) : ∀ u ∈ fInt x, u.oneCell' = true := by intro u hu; simp [fInt] at hu; subst hu; rfl
theorem one_fNeed (x : Need) : ∀ u ∈ fNeed x, u.oneCell' = true := by intro u hu; simp [fNeed] at hu; rcases hu with rfl | rfl <;> rfl
theorem Sl.one {B : Nat → Prop} {w : World} {v : Value} {n : Nat} {vs : List Value} (h : Sl B w v n vs) : v.oneCell' = true := by
  obtain ⟨ao, cap, rfl, _⟩ := h; rfl

theorem Own.ch0' {O : Nat → Prop} {w w' : World} {e C : Nat} {v : Value} {n : Nat} {vs : List Value} (h : Own O w e C v n vs) (c : Ch Noone w w') : Own O w' e C v n vs := h.ch c (fun _ _ _ h => h)
theorem Own.one {O : Nat → Prop} {w : World} {e C : Nat} {v : Value} {n : Nat} {vs : List Value} (h : Own O w e C v n vs) : v.oneCell' = true := h.sl.one

set_option maxHeartbeats 4000000 in
set_option maxRecDepth 100000 in
theorem copied_any (B : Nat → Prop) (w : World) (v : Value) (L : Lay) (hL : LayAt B w v L) (s1 : L.secs.length ≤ 10) (g1 : L.sigs.length ≤ 6) (p1 : L.pts.length ≤ 5) (r1 : L.routes.length ≤ 6)
    (q1 : ∀ r ∈ L.routes, r.path.length ≤ 5 ∧ r.pts.length ≤ 5 ∧ r.flank.length ≤ 5) :
    Calls Tryz.prog 45 #[v] w fun r w' => ∃ v', r = .returned v' ∧ LayAt (New w.heap.size) w' v' L ∧ Ch Noone w w' := by
  obtain ⟨v1, v2, v3, v4, rs, rfl, h1, h2, h3, h4, h5, h6⟩ := hL
  have hrl : rs.length = L.routes.length := by rw [← h4]; simp
  have hone4 : Hid (∀ u ∈ rs.flatMap fRoute, u.oneCell' = true) := fun u hu => by
    obtain ⟨x, hx, h⟩ := List.mem_flatMap.1 hu
    obtain ⟨k1, k2, k3⟩ := h6 x hx
    simp [fRoute] at h
    rcases h with rfl | rfl | rfl | rfl | rfl | rfl
    · rfl
    · rfl
    · rfl
    · exact k1.one
    · exact k2.one
    · exact k3.one
  have hq : Hid (∀ x ∈ rs, x.1.path.length ≤ 5 ∧ x.1.pts.length ≤ 5 ∧ x.1.flank.length ≤ 5) := fun x hx => q1 x.1 (by rw [← h4]; exact List.mem_map.2 ⟨x, hx, rfl⟩)
  have HK1 := Lib.hid (fun w1 (c : Ch Noone w w1) => clone_str B w1 v1 _ _ (h1.ch0 c) (by rw [flat_length fStr 1 (fun _ => rfl)]) (one_flat _ one_fStr _) (by omega))
  have HK2 := Lib.hid (fun w1 (c : Ch Noone w w1) => clone_pnt B w1 v2 _ _ (h2.ch0 c) (by rw [flat_length fPnt 2 (fun _ => rfl)]) (one_flat _ one_fPnt _) (by omega))
  have HK3 := Lib.hid (fun w1 (c : Ch Noone w w1) => clone_str B w1 v3 _ _ (h3.ch0 c) (by rw [flat_length fStr 1 (fun _ => rfl)]) (one_flat _ one_fStr _) (by omega))
  have HK4 := Lib.hid (fun w1 (c : Ch Noone w w1) => clone_route B w1 v4 _ _ (h5.ch0 c) (by rw [flat_length fRoute 6 (fun _ => rfl)]) hone4.out (by omega))
  have H4 := Lib.hid h4
  have H6 := Lib.hid h6
  have HQ1 := Lib.hid q1
  clear h1 h2 h3 h4 h5 h6 q1
  have rr : rs.length ≤ 6 := by omega
  have HRL := Lib.hid hrl; clear hrl r1
  have c1 : Hid (Ch Noone w ((w.alloc (.cells #[v1, v2, v3, v4] 26)).alloc (.cells #[.slice none 0 0, .slice none 0 0, .slice none 0 0, .slice none 0 0] 26))) := ((Ch.refl _ _).alloc _).alloc _
  go_enter Tryz.func45, Tryz.ntmps45
  go_wp2_with fail
  have b0 : Blk ((w.alloc (.cells #[v1, v2, v3, v4] 26)).alloc (.cells #[.slice none 0 0, .slice none 0 0, .slice none 0 0, .slice none 0 0] 26)) w.heap.size 26 #[v1, v2, v3, v4] := (Blk.new _ _ _).alloc _
  have b1 : Blk ((w.alloc (.cells #[v1, v2, v3, v4] 26)).alloc (.cells #[.slice none 0 0, .slice none 0 0, .slice none 0 0, .slice none 0 0] 26)) (w.heap.size + 1) 26 #[.slice none 0 0, .slice none 0 0, .slice none 0 0, .slice none 0 0] := by
    have := Blk.new (w.alloc (.cells #[v1, v2, v3, v4] 26)) 26 #[.slice none 0 0, .slice none 0 0, .slice none 0 0, .slice none 0 0]
    simpa using this
  have c0 := c1.out
  clear c1
  generalize (w.alloc (.cells #[v1, v2, v3, v4] 26)).alloc (.cells #[.slice none 0 0, .slice none 0 0, .slice none 0 0, .slice none 0 0] 26) = w0 at *
  have C0 := Lib.hid c0.drew
  have B0 := Lib.hid b0.drew
  have B1 := Lib.hid b1.drew
  clear c0 b0 b1
  refine wp_region_T (fun u => Blk u w.heap.size 26 #[v1, v2, v3, v4]) [2, 5, 8, 11] (by kernel_rfl) ?_
  generalize w0.drew = w1 at *
  refine wpAnyT_pure (i := 0) (v := ?_) rfl (by kernel_rfl) (by kernel_rfl) (by kernel_rfl) (fun _ _ _ h => h) (by kernel_rfl) (fun _ => B0.out) (Or.inl ⟨by rfl, ?_⟩) ?_
  rotate_left
  · intro u _
    go_simp
    try with_reducible rfl
  try simp only [Act.put, List.setIfInBounds_toArray]
  refine wpAnyT_load (i := 1) (v := ?_) rfl (by kernel_rfl) (by kernel_rfl) (by kernel_rfl) (fun _ _ _ h => h) (by kernel_rfl) B0.out (Or.inl ⟨by rfl, ?_⟩) ?_
  rotate_left
  · intro u hu
    have hc : u.cell? ⟨w.heap.size, 0, none⟩ = some v1 := hu.cell 0
    clear hu
    go_simp
    try with_reducible rfl
  try simp only [Act.put]
  refine wpAnyT_pure (i := 3) (v := ?_) rfl (by kernel_rfl) (by kernel_rfl) (by kernel_rfl) (fun _ _ _ h => h) (by kernel_rfl) (fun _ => B0.out) (Or.inl ⟨by rfl, ?_⟩) ?_
  rotate_left
  · intro u _
    go_simp
    try with_reducible rfl
  try simp only [Act.put]
  refine wpAnyT_load (i := 4) (v := ?_) rfl (by kernel_rfl) (by kernel_rfl) (by kernel_rfl) (fun _ _ _ h => h) (by kernel_rfl) B0.out (Or.inl ⟨by rfl, ?_⟩) ?_
  rotate_left
  · intro u hu
    have hc : u.cell? ⟨w.heap.size, 1, none⟩ = some v2 := hu.cell 1
    clear hu
    go_simp
    try with_reducible rfl
  try simp only [Act.put]
  refine wpAnyT_pure (i := 6) (v := ?_) rfl (by kernel_rfl) (by kernel_rfl) (by kernel_rfl) (fun _ _ _ h => h) (by kernel_rfl) (fun _ => B0.out) (Or.inl ⟨by rfl, ?_⟩) ?_
  rotate_left
  · intro u _
    go_simp
    try with_reducible rfl
  try simp only [Act.put]
  refine wpAnyT_load (i := 7) (v := ?_) rfl (by kernel_rfl) (by kernel_rfl) (by kernel_rfl) (fun _ _ _ h => h) (by kernel_rfl) B0.out (Or.inl ⟨by rfl, ?_⟩) ?_
  rotate_left
  · intro u hu
    have hc : u.cell? ⟨w.heap.size, 2, none⟩ = some v3 := hu.cell 2
    clear hu
    go_simp
    try with_reducible rfl
  try simp only [Act.put]
  refine wpAnyT_pure (i := 9) (v := ?_) rfl (by kernel_rfl) (by kernel_rfl) (by kernel_rfl) (fun _ _ _ h => h) (by kernel_rfl) (fun _ => B0.out) (Or.inl ⟨by rfl, ?_⟩) ?_
  rotate_left
  · intro u _
    go_simp
    try with_reducible rfl
  try simp only [Act.put]
  refine wpAnyT_load (i := 10) (v := ?_) rfl (by kernel_rfl) (by kernel_rfl) (by kernel_rfl) (fun _ _ _ h => h) (by kernel_rfl) B0.out (Or.inl ⟨by rfl, ?_⟩) ?_
  rotate_left
  · intro u hu
    have hc : u.cell? ⟨w.heap.size, 3, none⟩ = some v4 := hu.cell 3
    clear hu
    go_simp
    try with_reducible rfl
  try simp only [Act.put]
  refine wpAnyT_step (i := 2) (by kernel_rfl) rfl (by rfl) (fun K hK => ?_)
  go_simp
  refine (HK1.out _ C0.out).mono ?_
  rintro e w2 ⟨x1, rfl, o1, d1⟩
  obtain ⟨z1, y1, rfl, -, -, -, -⟩ := o1.sl
  have C1 := Lib.hid (C0.out.trans d1)
  have B2 := Lib.hid (d1.blk B0.out (fun h => h))
  have E2 := Lib.hid (d1.blk B1.out (fun h => h))
  have O1 := Lib.hid (o1.sl.mono (B' := fun b => w.heap.size + 2 ≤ b) (fun b (hb : w1.heap.size ≤ b) _ => by have := B1.out.lt; omega))
  have Z2 : Hid (w.heap.size + 2 ≤ w2.heap.size) := Nat.le_trans B1.out.lt d1.size
  clear d1 o1 C0 B0 B1
  go_wp2_with fail
  refine hK.out _ _ (fun _ => B2.out) ?_
  clear hK K
  try simp only [Act.put, List.setIfInBounds_toArray, List.set_cons_zero, List.set_cons_succ]
  refine wpAnyT_pure (i := 12) (v := ?_) rfl (by kernel_rfl) (by kernel_rfl) (by kernel_rfl) (fun _ _ _ h => h) (by kernel_rfl) (fun _ => B2.out) (Or.inl ⟨by rfl, ?_⟩) ?_
  rotate_left
  · intro u _
    go_simp
    try with_reducible rfl
  try simp only [Act.put, List.setIfInBounds_toArray]
  refine wpAnyT_step (i := 5) (by kernel_rfl) rfl (by rfl) (fun K hK => ?_)
  go_simp
  refine (HK2.out _ C1.out).mono ?_
  rintro e w3 ⟨x2, rfl, o2, d2⟩
  obtain ⟨z2, y2, rfl, -, -, -, -⟩ := o2.sl
  have C2 := Lib.hid (C1.out.trans d2)
  have B3 := Lib.hid (d2.blk B2.out (fun h => h))
  have E3 := Lib.hid (d2.blk E2.out (fun h => h))
  have P1 := Lib.hid (O1.out.ch0 d2)
  have O2 := Lib.hid (o2.sl.mono (B' := fun b => w.heap.size + 2 ≤ b) (fun b (hb : w2.heap.size ≤ b) _ => by have := Z2.out; omega))
  have Z3 : Hid (w.heap.size + 2 ≤ w3.heap.size) := Nat.le_trans Z2.out d2.size
  clear d2 o2 C1 B2 E2 O1
  go_wp2_with fail
  refine hK.out _ _ (fun _ => B3.out) ?_
  clear hK K
  try simp only [Act.put, List.setIfInBounds_toArray, List.set_cons_zero, List.set_cons_succ]
  refine wpAnyT_step (i := 8) (by kernel_rfl) rfl (by rfl) (fun K hK => ?_)
  go_simp
  refine (HK3.out _ C2.out).mono ?_
  rintro e w4 ⟨x3, rfl, o3, d3⟩
  obtain ⟨z3, y3, rfl, -, -, -, -⟩ := o3.sl
  have C3 := Lib.hid (C2.out.trans d3)
  have Z4 : Hid (w.heap.size + 2 ≤ w4.heap.size) := Nat.le_trans Z3.out d3.size
  have B4 := Lib.hid (d3.blk B3.out (fun h => h))
  have E4 := Lib.hid (d3.blk E3.out (fun h => h))
  have Q1 := Lib.hid ((P1.out.ch0 d3).mono (B' := fun b => w.heap.size + 2 ≤ b ∧ b < w4.heap.size) (fun b hb hl => ⟨hb, hl⟩))
  have Q2 := Lib.hid ((O2.out.ch0 d3).mono (B' := fun b => w.heap.size + 2 ≤ b ∧ b < w4.heap.size) (fun b hb hl => ⟨hb, hl⟩))
  have Q3 := Lib.hid (o3.sl.mono (B' := fun b => w.heap.size + 2 ≤ b ∧ b < w4.heap.size) (fun b (hb : w3.heap.size ≤ b) hl => ⟨Nat.le_trans Z3.out hb, hl⟩))
  clear d3 o3 C2 B3 E3 P1 O2
  go_wp2_with fail
  refine hK.out _ _ (fun _ => B4.out) ?_
  clear hK K
  try simp only [Act.put, List.setIfInBounds_toArray, List.set_cons_zero, List.set_cons_succ]
  refine wpAnyT_step (i := 11) (by kernel_rfl) rfl (by rfl) (fun K hK => ?_)
  go_simp
  refine (HK4.out _ C3.out).mono ?_
  rintro e w5 ⟨x4, rfl, o4, d4⟩
  obtain ⟨z4, y4, rfl, -, -, -, -⟩ := o4.sl
  have C4 := Lib.hid (C3.out.trans d4)
  have B5 := Lib.hid (d4.blk B4.out (fun h => h))
  have E5 := Lib.hid (d4.blk E4.out (fun h => h))
  have S1 := Lib.hid (Q1.out.ch0 d4)
  have S2 := Lib.hid (Q2.out.ch0 d4)
  have S3 := Lib.hid (Q3.out.ch0 d4)
  have R4 := Lib.hid o4
  have M4 := Lib.hid d4.size
  clear d4 o4 C3 B4 E4 Q1 Q2 Q3
  go_wp2_with fail
  refine hK.out _ _ (fun _ => B5.out) ?_
  clear hK K
  try simp only [Act.put, List.setIfInBounds_toArray, List.set_cons_zero, List.set_cons_succ]
  have hk0 : w5.cell? ⟨w.heap.size, 0, none⟩ = some v1 := B5.out.cell 0
  have hf0 := B5.out.free 0
  have hk1 : w5.cell? ⟨w.heap.size, 1, none⟩ = some v2 := B5.out.cell 1
  have hf1 := B5.out.free 1
  have hk2 : w5.cell? ⟨w.heap.size, 2, none⟩ = some v3 := B5.out.cell 2
  have hf2 := B5.out.free 2
  have hk3 : w5.cell? ⟨w.heap.size, 3, none⟩ = some v4 := B5.out.cell 3
  have hf3 := B5.out.free 3
  refine wpAnyT_step (i := 13) (by kernel_rfl) rfl (by rfl) (fun K hK => ?_)
  go_simp
  refine hK.out _ _ (fun hp => absurd hp (Pend.no (by kernel_rfl))) ?_
  clear hK K
  try simp only [Act.put, List.setIfInBounds_toArray, List.set_cons_zero, List.set_cons_succ]
  refine wpAnyT_pure (i := 14) (v := ?_) rfl (by kernel_rfl) (by kernel_rfl) (by kernel_rfl) (fun _ _ _ h => h) (by kernel_rfl) (fun hp => absurd hp (Pend.no (by kernel_rfl))) (Or.inl ⟨by rfl, ?_⟩) ?_
  rotate_left
  · intro u _
    go_simp
    try with_reducible rfl
  try simp only [Act.put, List.setIfInBounds_toArray]
  refine wpAnyT_step (i := 15) (by kernel_rfl) rfl (by rfl) (fun K hK => ?_)
  go_simp
  refine hK.out _ _ (fun hp => absurd hp (Pend.no (by kernel_rfl))) ?_
  clear hK K
  try simp only [Act.put, List.setIfInBounds_toArray, List.set_cons_zero, List.set_cons_succ]
  refine wpAnyT_pure (i := 16) (v := ?_) rfl (by kernel_rfl) (by kernel_rfl) (by kernel_rfl) (fun _ _ _ h => h) (by kernel_rfl) (fun hp => absurd hp (Pend.no (by kernel_rfl))) (Or.inl ⟨by rfl, ?_⟩) ?_
  rotate_left
  · intro u _
    go_simp
    try with_reducible rfl
  try simp only [Act.put, List.setIfInBounds_toArray]
  refine wpAnyT_step (i := 17) (by kernel_rfl) rfl (by rfl) (fun K hK => ?_)
  go_simp
  refine hK.out _ _ (fun hp => absurd hp (Pend.no (by kernel_rfl))) ?_
  clear hK K
  try simp only [Act.put, List.setIfInBounds_toArray, List.set_cons_zero, List.set_cons_succ]
  refine wpAnyT_pure (i := 18) (v := ?_) rfl (by kernel_rfl) (by kernel_rfl) (by kernel_rfl) (fun _ _ _ h => h) (by kernel_rfl) (fun hp => absurd hp (Pend.no (by kernel_rfl))) (Or.inl ⟨by rfl, ?_⟩) ?_
  rotate_left
  · intro u _
    go_simp
    try with_reducible rfl
  try simp only [Act.put, List.setIfInBounds_toArray]
  refine wpAnyT_step (i := 19) (by kernel_rfl) rfl (by rfl) (fun K hK => ?_)
  go_simp
  refine hK.out _ _ (fun hp => absurd hp (Pend.no (by kernel_rfl))) ?_
  clear hK K
  try simp only [Act.put, List.setIfInBounds_toArray, List.set_cons_zero, List.set_cons_succ]
  refine wpAnyT_done (by kernel_rfl) ?_
  clear hk0 hf0 hk1 hf1 hk2 hf2 hk3 hf3 HK1 HK2 HK3 HK4
  have B6 : Blk ((((w5.setCell ⟨w.heap.size, 0, none⟩ (.slice z1 L.secs.length y1)).setCell ⟨w.heap.size, 1, none⟩ (.slice z2 L.pts.length y2)).setCell ⟨w.heap.size, 2, none⟩ (.slice z3 L.sigs.length y3)).setCell ⟨w.heap.size, 3, none⟩ (.slice z4 rs.length y4)) w.heap.size 26 #[.slice z1 L.secs.length y1, .slice z2 L.pts.length y2, .slice z3 L.sigs.length y3, .slice z4 rs.length y4] := by
    have := (((B5.out.set 0 (.slice z1 L.secs.length y1)).set 1 (.slice z2 L.pts.length y2)).set 2 (.slice z3 L.sigs.length y3)).set 3 (.slice z4 rs.length y4)
    simpa using this
  have D6 : Ch (fun b => b = w.heap.size) w5 ((((w5.setCell ⟨w.heap.size, 0, none⟩ (.slice z1 L.secs.length y1)).setCell ⟨w.heap.size, 1, none⟩ (.slice z2 L.pts.length y2)).setCell ⟨w.heap.size, 2, none⟩ (.slice z3 L.sigs.length y3)).setCell ⟨w.heap.size, 3, none⟩ (.slice z4 rs.length y4)) :=
    ((((Ch.refl _ _).set1 _ _).set1 _ _).set1 _ _).set1 _ _
  generalize (((w5.setCell ⟨w.heap.size, 0, none⟩ (.slice z1 L.secs.length y1)).setCell ⟨w.heap.size, 1, none⟩ (.slice z2 L.pts.length y2)).setCell ⟨w.heap.size, 2, none⟩ (.slice z3 L.sigs.length y3)).setCell ⟨w.heap.size, 3, none⟩ (.slice z4 rs.length y4) = w6 at *
  have E6 := Lib.hid (D6.blk E5.out (by omega))
  have F6 := B6.cell 3
  simp only [List.getElem?_toArray, List.getElem?_cons_zero, List.getElem?_cons_succ] at F6
  have HB6 := Lib.hid B6
  have HD6 := Lib.hid D6
  clear B6 D6
  go_wp2_with fail
  clear F6
  have T1 := Lib.hid ((S1.out.ch HD6.out (fun b hb _ e => by have := hb.1; omega)))
  have T2 := Lib.hid ((S2.out.ch HD6.out (fun b hb _ e => by have := hb.1; omega)))
  have T3 := Lib.hid ((S3.out.ch HD6.out (fun b hb _ e => by have := hb.1; omega)))
  have T4 := Lib.hid ((R4.out.ch HD6.out (fun b (hb : w4.heap.size ≤ b) _ e => by have h := Z4.out; omega)))
  have C6 : Ch Noone w w6 := C4.out.then HD6.out (fun b hb e => by omega)
  have M3 : w4.heap.size ≤ w6.heap.size := Nat.le_trans M4.out HD6.out.size
  have M5 : w.heap.size + 2 ≤ w4.heap.size := Z4.out
  obtain ⟨M, hM⟩ : ∃ M, M = w4.heap.size := ⟨_, rfl⟩
  rw [← hM] at T1 T2 T3 T4 M3 M5
  clear S1 S2 S3 R4 B5 E5 C4 HD6 M4 Z2 Z3 Z4 hM
  go_loopw [24] (fun i wr => ∃ (k : Nat) (rs' : List (Route × Value × Value × Value)), k ≤ rs.length ∧ i = .int .i64 k ∧ Ch Noone w wr ∧ M ≤ wr.heap.size ∧
    Blk wr w.heap.size 26 #[.slice z1 L.secs.length y1, .slice z2 L.pts.length y2, .slice z3 L.sigs.length y3, .slice z4 rs.length y4] ∧ Blk wr (w.heap.size + 1) 26 #[.slice none 0 0, .slice none 0 0, .slice none 0 0, .slice none 0 0] ∧
    Sl (fun b => w.heap.size + 2 ≤ b ∧ b < M) wr (.slice z1 L.secs.length y1) L.secs.length (L.secs.flatMap fStr) ∧ Sl (fun b => w.heap.size + 2 ≤ b ∧ b < M) wr (.slice z2 L.pts.length y2) L.pts.length (L.pts.flatMap fPnt) ∧ Sl (fun b => w.heap.size + 2 ≤ b ∧ b < M) wr (.slice z3 L.sigs.length y3) L.sigs.length (L.sigs.flatMap fStr) ∧
    Own (New M) wr 54 6 (.slice z4 rs.length y4) rs.length (rs'.flatMap fRoute) ∧ rs'.length = rs.length ∧ (∀ (i : Nat) (h : i < rs'.length) (h2 : i < rs.length), rs'[i].1 = rs[i].1 ∧ (k ≤ i → rs'[i] = rs[i]) ∧ (i < k → SlR (fun b => M ≤ b ∧ (Value.slice z4 rs.length y4).ownBlock ≠ some b) wr rs'[i]))) (fun i _ => (rs.length - intOf i).toNat)
  case atStart => exact ⟨0, rs, by omega, rfl, C6, M3, HB6.out, E6.out, T1.out, T2.out, T3.out, T4.out, rfl, fun i h h2 => ⟨rfl, fun _ => rfl, fun h => by omega⟩⟩
  case round =>
    clear T1 T2 T3 T4 M3 HB6 E6
    obtain ⟨k, rs', hk, rfl, hch, hM, hb, he, t1, t2, t3, hown, hlen, hall⟩ := hrel
    have HB := Lib.hid hb
    have HE := Lib.hid he
    have T1 := Lib.hid t1
    have T2 := Lib.hid t2
    have T3 := Lib.hid t3
    have HOwn := Lib.hid hown
    have HA := Lib.hid hall
    have HLn := Lib.hid hlen
    clear hb he t1 t2 t3 hown hall
    by_cases hkl : k < rs.length
    · have hkl' : k < rs'.length := by omega
      obtain ⟨g, off, rfl, hg, hgl, hat⟩ := HOwn.out.sl.at (f := fRoute) (C := 6) (fun _ => rfl) (by omega) hkl'
      have hrs : rs'[k] = rs[k] := (HA.out k hkl' hkl).2.1 (Nat.le_refl _)
      have y0 : wr.cell? ⟨g, off + k * 6, none⟩ = some (.string rs[k].1.name) := by rw [← hrs]; exact hat 0 (by omega)
      have y1 : wr.cell? ⟨g, off + k * 6 + 1, none⟩ = some (.int .i64 rs[k].1.frm) := by rw [← hrs]; exact hat 1 (by omega)
      have y2 : wr.cell? ⟨g, off + k * 6 + 2, none⟩ = some (.int .i64 rs[k].1.to) := by rw [← hrs]; exact hat 2 (by omega)
      have y3 : wr.cell? ⟨g, off + k * 6 + 3, none⟩ = some rs[k].2.1 := by rw [← hrs]; exact hat 3 (by omega)
      have y4 : wr.cell? ⟨g, off + k * 6 + 4, none⟩ = some rs[k].2.2.1 := by rw [← hrs]; exact hat 4 (by omega)
      have y5 : wr.cell? ⟨g, off + k * 6 + 5, none⟩ = some rs[k].2.2.2 := by rw [← hrs]; exact hat 5 (by omega)
      clear hat
      have HSr : Hid (SlR B w rs[k]) := H6.out _ (List.getElem_mem hkl)
      have HQk := Lib.hid (hq.out rs[k] (List.getElem_mem hkl))
      have HRs : Hid (rs[k] = rs[k]) := rfl
      obtain ⟨x, hx⟩ : ∃ x, x = rs[k] := ⟨_, rfl⟩
      have HX := Lib.hid hx
      rw [← hx] at y0 y1 y2 y3 y4 y5 HSr HQk
      clear hx hrs HRs
      obtain ⟨rt, vp, vn, vf⟩ := x
      dsimp only at *
      have HV : Hid ((∃ a c, vp = .slice a rt.path.length c) ∧ (∃ a c, vn = .slice a rt.pts.length c) ∧ (∃ a c, vf = .slice a rt.flank.length c)) := by
        obtain ⟨⟨a, c, e, _⟩, ⟨a', c', e', _⟩, ⟨a'', c'', e'', _⟩⟩ := HSr.out
        exact ⟨⟨a, c, e⟩, ⟨a', c', e'⟩, ⟨a'', c'', e''⟩⟩
      obtain ⟨⟨ap, cp, rfl⟩, ⟨an, cn, rfl⟩, ⟨af, cf, rfl⟩⟩ := HV.out
      clear HV
      have HK1 := Lib.hid (fun w1 (c : Ch Noone w w1) => clone_int B w1 _ _ _ (HSr.out.1.ch0 c) (by rw [flat_length fInt 1 (fun _ => rfl)]) (one_flat _ one_fInt _) (Nat.le_trans HQk.out.1 (by decide)))
      have HK2 := Lib.hid (fun w1 (c : Ch Noone w w1) => clone_need B w1 _ _ _ (HSr.out.2.1.ch0 c) (by rw [flat_length fNeed 2 (fun _ => rfl)]) (one_flat _ one_fNeed _) (Nat.le_trans HQk.out.2.1 (by decide)))
      have HK3 := Lib.hid (fun w1 (c : Ch Noone w w1) => clone_need B w1 _ _ _ (HSr.out.2.2.ch0 c) (by rw [flat_length fNeed 2 (fun _ => rfl)]) (one_flat _ one_fNeed _) (Nat.le_trans HQk.out.2.2 (by decide)))
      have RB : Blk (wr.alloc (.cells #[.string rt.name, .int .i64 rt.frm, .int .i64 rt.to, .slice ap rt.path.length cp, .slice an rt.pts.length cn, .slice af rt.flank.length cf] 54)) wr.heap.size 54 #[.string rt.name, .int .i64 rt.frm, .int .i64 rt.to, .slice ap rt.path.length cp, .slice an rt.pts.length cn, .slice af rt.flank.length cf] := Blk.new _ _ _
      have RC : Ch Noone wr (wr.alloc (.cells #[.string rt.name, .int .i64 rt.frm, .int .i64 rt.to, .slice ap rt.path.length cp, .slice an rt.pts.length cn, .slice af rt.flank.length cf] 54)) := (Ch.refl _ _).alloc _
      go_wp2_with fail
      generalize wr.alloc (.cells #[.string rt.name, .int .i64 rt.frm, .int .i64 rt.to, .slice ap rt.path.length cp, .slice an rt.pts.length cn, .slice af rt.flank.length cf] 54) = w0 at *
      clear y0 y1 y2 y3 y4 y5
      have B0 := Lib.hid RB.drew
      have C0 := Lib.hid RC.drew
      clear RB RC
      refine wp_region_T (fun u => Blk u wr.heap.size 54 #[.string rt.name, .int .i64 rt.frm, .int .i64 rt.to, .slice ap rt.path.length cp, .slice an rt.pts.length cn, .slice af rt.flank.length cf]) [2, 5, 8] (by kernel_rfl) ?_
      generalize w0.drew = w1 at *
      refine wpAnyT_pure (i := 0) (v := ?_) rfl (by kernel_rfl) (by kernel_rfl) (by kernel_rfl) (fun _ _ _ h => h) (by kernel_rfl) (fun _ => B0.out) (Or.inl ⟨by rfl, ?_⟩) ?_
      rotate_left
      · intro u _
        go_simp
        try with_reducible rfl
      try simp only [Act.put, List.setIfInBounds_toArray]
      refine wpAnyT_load (i := 1) (v := ?_) rfl (by kernel_rfl) (by kernel_rfl) (by kernel_rfl) (fun _ _ _ h => h) (by kernel_rfl) B0.out (Or.inl ⟨by rfl, ?_⟩) ?_
      rotate_left
      · intro u hu
        have hc : u.cell? ⟨wr.heap.size, 3, none⟩ = some (.slice ap rt.path.length cp) := hu.cell 3
        clear hu
        go_simp
        try with_reducible rfl
      try simp only [Act.put]
      refine wpAnyT_pure (i := 3) (v := ?_) rfl (by kernel_rfl) (by kernel_rfl) (by kernel_rfl) (fun _ _ _ h => h) (by kernel_rfl) (fun _ => B0.out) (Or.inl ⟨by rfl, ?_⟩) ?_
      rotate_left
      · intro u _
        go_simp
        try with_reducible rfl
      try simp only [Act.put]
      refine wpAnyT_load (i := 4) (v := ?_) rfl (by kernel_rfl) (by kernel_rfl) (by kernel_rfl) (fun _ _ _ h => h) (by kernel_rfl) B0.out (Or.inl ⟨by rfl, ?_⟩) ?_
      rotate_left
      · intro u hu
        have hc : u.cell? ⟨wr.heap.size, 4, none⟩ = some (.slice an rt.pts.length cn) := hu.cell 4
        clear hu
        go_simp
        try with_reducible rfl
      try simp only [Act.put]
      refine wpAnyT_pure (i := 6) (v := ?_) rfl (by kernel_rfl) (by kernel_rfl) (by kernel_rfl) (fun _ _ _ h => h) (by kernel_rfl) (fun _ => B0.out) (Or.inl ⟨by rfl, ?_⟩) ?_
      rotate_left
      · intro u _
        go_simp
        try with_reducible rfl
      try simp only [Act.put]
      refine wpAnyT_load (i := 7) (v := ?_) rfl (by kernel_rfl) (by kernel_rfl) (by kernel_rfl) (fun _ _ _ h => h) (by kernel_rfl) B0.out (Or.inl ⟨by rfl, ?_⟩) ?_
      rotate_left
      · intro u hu
        have hc : u.cell? ⟨wr.heap.size, 5, none⟩ = some (.slice af rt.flank.length cf) := hu.cell 5
        clear hu
        go_simp
        try with_reducible rfl
      try simp only [Act.put]
      refine wpAnyT_step (i := 2) (by kernel_rfl) rfl (by rfl) (fun K hK => ?_)
      go_simp
      refine (HK1.out _ (hch.trans C0.out)).mono ?_
      rintro e w2 ⟨x1, rfl, o1, d1⟩
      obtain ⟨b1, e1, rfl, -, -, -, -⟩ := o1.sl
      have C2 := Lib.hid (C0.out.trans d1)
      have B2 := Lib.hid (d1.blk B0.out (fun h => h))
      have O1 := Lib.hid (o1.sl.mono (B' := fun b => wr.heap.size < b) (fun b (hb : w1.heap.size ≤ b) _ => Nat.lt_of_lt_of_le B0.out.lt hb))
      have Z2 : Hid (wr.heap.size < w2.heap.size) := Nat.lt_of_lt_of_le B0.out.lt d1.size
      clear d1 o1 B0 C0
      go_wp2_with fail
      refine hK.out _ _ (fun _ => B2.out) ?_
      clear hK K
      try simp only [Act.put, List.setIfInBounds_toArray, List.set_cons_zero, List.set_cons_succ]
      refine wpAnyT_pure (i := 9) (v := ?_) rfl (by kernel_rfl) (by kernel_rfl) (by kernel_rfl) (fun _ _ _ h => h) (by kernel_rfl) (fun _ => B2.out) (Or.inl ⟨by rfl, ?_⟩) ?_
      rotate_left
      · intro u _
        go_simp
        try with_reducible rfl
      try simp only [Act.put, List.setIfInBounds_toArray]
      refine wpAnyT_step (i := 5) (by kernel_rfl) rfl (by rfl) (fun K hK => ?_)
      go_simp
      refine (HK2.out _ (hch.trans C2.out)).mono ?_
      rintro e w3 ⟨x2, rfl, o2, d2⟩
      obtain ⟨b2, e2, rfl, -, -, -, -⟩ := o2.sl
      have C3 := Lib.hid (C2.out.trans d2)
      have B3 := Lib.hid (d2.blk B2.out (fun h => h))
      have P1 := Lib.hid (O1.out.ch0 d2)
      have O2 := Lib.hid (o2.sl.mono (B' := fun b => wr.heap.size < b) (fun b (hb : w2.heap.size ≤ b) _ => Nat.lt_of_lt_of_le Z2.out hb))
      have Z3 : Hid (wr.heap.size < w3.heap.size) := Nat.lt_of_lt_of_le Z2.out d2.size
      clear d2 o2 B2 C2 O1
      go_wp2_with fail
      refine hK.out _ _ (fun _ => B3.out) ?_
      clear hK K
      try simp only [Act.put, List.setIfInBounds_toArray, List.set_cons_zero, List.set_cons_succ]
      refine wpAnyT_step (i := 8) (by kernel_rfl) rfl (by rfl) (fun K hK => ?_)
      go_simp
      refine (HK3.out _ (hch.trans C3.out)).mono ?_
      rintro e w4 ⟨x3, rfl, o3, d3⟩
      obtain ⟨b3, e3, rfl, -, -, -, -⟩ := o3.sl
      have C4 := Lib.hid (C3.out.trans d3)
      have B4 := Lib.hid (d3.blk B3.out (fun h => h))
      have Q1 := Lib.hid (P1.out.ch0 d3)
      have Q2 := Lib.hid (O2.out.ch0 d3)
      have Q3 := Lib.hid (o3.sl.mono (B' := fun b => wr.heap.size < b) (fun b (hb : w3.heap.size ≤ b) _ => Nat.lt_of_lt_of_le Z3.out hb))
      clear d3 o3 B3 C3 P1 O2 Z2 Z3
      go_wp2_with fail
      refine hK.out _ _ (fun _ => B4.out) ?_
      clear hK K
      try simp only [Act.put, List.setIfInBounds_toArray, List.set_cons_zero, List.set_cons_succ]
      have hk3 : w4.cell? ⟨wr.heap.size, 3, none⟩ = some (.slice ap rt.path.length cp) := B4.out.cell 3
      have hf3 := B4.out.free 3
      have hk4 : w4.cell? ⟨wr.heap.size, 4, none⟩ = some (.slice an rt.pts.length cn) := B4.out.cell 4
      have hf4 := B4.out.free 4
      have hk5 : w4.cell? ⟨wr.heap.size, 5, none⟩ = some (.slice af rt.flank.length cf) := B4.out.cell 5
      have hf5 := B4.out.free 5
      refine wpAnyT_step (i := 10) (by kernel_rfl) rfl (by rfl) (fun K hK => ?_)
      go_simp
      refine hK.out _ _ (fun hp => absurd hp (Pend.no (by kernel_rfl))) ?_
      clear hK K
      try simp only [Act.put, List.setIfInBounds_toArray, List.set_cons_zero, List.set_cons_succ]
      refine wpAnyT_pure (i := 11) (v := ?_) rfl (by kernel_rfl) (by kernel_rfl) (by kernel_rfl) (fun _ _ _ h => h) (by kernel_rfl) (fun hp => absurd hp (Pend.no (by kernel_rfl))) (Or.inl ⟨by rfl, ?_⟩) ?_
      rotate_left
      · intro u _
        go_simp
        try with_reducible rfl
      try simp only [Act.put, List.setIfInBounds_toArray]
      refine wpAnyT_step (i := 12) (by kernel_rfl) rfl (by rfl) (fun K hK => ?_)
      go_simp
      refine hK.out _ _ (fun hp => absurd hp (Pend.no (by kernel_rfl))) ?_
      clear hK K
      try simp only [Act.put, List.setIfInBounds_toArray, List.set_cons_zero, List.set_cons_succ]
      refine wpAnyT_pure (i := 13) (v := ?_) rfl (by kernel_rfl) (by kernel_rfl) (by kernel_rfl) (fun _ _ _ h => h) (by kernel_rfl) (fun hp => absurd hp (Pend.no (by kernel_rfl))) (Or.inl ⟨by rfl, ?_⟩) ?_
      rotate_left
      · intro u _
        go_simp
        try with_reducible rfl
      try simp only [Act.put, List.setIfInBounds_toArray]
      refine wpAnyT_step (i := 14) (by kernel_rfl) rfl (by rfl) (fun K hK => ?_)
      go_simp
      refine hK.out _ _ (fun hp => absurd hp (Pend.no (by kernel_rfl))) ?_
      clear hK K
      try simp only [Act.put, List.setIfInBounds_toArray, List.set_cons_zero, List.set_cons_succ]
      refine wpAnyT_done (by kernel_rfl) ?_
      clear hk3 hf3 hk4 hf4 hk5 hf5
      have B5 : Blk (((w4.setCell ⟨wr.heap.size, 3, none⟩ (.slice b1 rt.path.length e1)).setCell ⟨wr.heap.size, 4, none⟩ (.slice b2 rt.pts.length e2)).setCell ⟨wr.heap.size, 5, none⟩ (.slice b3 rt.flank.length e3)) wr.heap.size 54 #[.string rt.name, .int .i64 rt.frm, .int .i64 rt.to, .slice b1 rt.path.length e1, .slice b2 rt.pts.length e2, .slice b3 rt.flank.length e3] := by
        have := ((B4.out.set 3 (.slice b1 rt.path.length e1)).set 4 (.slice b2 rt.pts.length e2)).set 5 (.slice b3 rt.flank.length e3)
        simpa using this
      have D5 : Ch (fun b => b = wr.heap.size) w4 (((w4.setCell ⟨wr.heap.size, 3, none⟩ (.slice b1 rt.path.length e1)).setCell ⟨wr.heap.size, 4, none⟩ (.slice b2 rt.pts.length e2)).setCell ⟨wr.heap.size, 5, none⟩ (.slice b3 rt.flank.length e3)) := (((Ch.refl _ _).set1 _ _).set1 _ _).set1 _ _
      generalize ((w4.setCell ⟨wr.heap.size, 3, none⟩ (.slice b1 rt.path.length e1)).setCell ⟨wr.heap.size, 4, none⟩ (.slice b2 rt.pts.length e2)).setCell ⟨wr.heap.size, 5, none⟩ (.slice b3 rt.flank.length e3) = w5 at *
      have C5 := Lib.hid (C4.out.then D5 (fun b hb e => absurd e (Nat.ne_of_lt hb)))
      have S1 := Lib.hid (Q1.out.ch D5 (fun b hb _ e => absurd e (Nat.ne_of_gt hb)))
      have S2 := Lib.hid (Q2.out.ch D5 (fun b hb _ e => absurd e (Nat.ne_of_gt hb)))
      have S3 := Lib.hid (Q3.out.ch D5 (fun b hb _ e => absurd e (Nat.ne_of_gt hb)))
      have l3 := (C5.out.blk HB.out (fun h => h)).cell 3
      have p0 := B5.cell 0
      have p1 := B5.cell 1
      have p2 := B5.cell 2
      have p3 := B5.cell 3
      have p4 := B5.cell 4
      have p5 := B5.cell 5
      simp only [List.getElem?_toArray, List.getElem?_cons_zero, List.getElem?_cons_succ] at l3 p0 p1 p2 p3 p4 p5
      have hblt := B5.lt
      have HB5 := Lib.hid B5
      clear D5 Q1 Q2 Q3 C4 B4 B5
      obtain ⟨hx1, hx2⟩ := HOwn.out.ch0' C5.out
      rcases hx2 with ⟨hx2, _⟩ | ⟨g', cap, cur, hx2, hx3, hx4, hx5, hx6, hx7, hx8⟩
      · cases hx2
      simp only [Value.slice.injEq, Option.some.injEq, Addr.mk.injEq, and_true] at hx2
      obtain ⟨⟨rfl, rfl⟩, -, rfl⟩ := hx2
      have hcur : k * 6 + 5 < cur.size := by rw [hx7]; omega
      obtain ⟨u0, k0⟩ : ∃ u, w5.cell? ⟨g, k * 6, none⟩ = some u := ⟨cur[k * 6]'(by omega), by simp [World.cell?, hx4]⟩
      obtain ⟨u1, k1⟩ : ∃ u, w5.cell? ⟨g, k * 6 + 1, none⟩ = some u := ⟨cur[k * 6 + 1]'(by omega), by simp [World.cell?, hx4]⟩
      obtain ⟨u2, k2⟩ : ∃ u, w5.cell? ⟨g, k * 6 + 2, none⟩ = some u := ⟨cur[k * 6 + 2]'(by omega), by simp [World.cell?, hx4]⟩
      obtain ⟨u3, k3⟩ : ∃ u, w5.cell? ⟨g, k * 6 + 3, none⟩ = some u := ⟨cur[k * 6 + 3]'(by omega), by simp [World.cell?, hx4]⟩
      obtain ⟨u4, k4⟩ : ∃ u, w5.cell? ⟨g, k * 6 + 4, none⟩ = some u := ⟨cur[k * 6 + 4]'(by omega), by simp [World.cell?, hx4]⟩
      obtain ⟨u5, k5⟩ : ∃ u, w5.cell? ⟨g, k * 6 + 5, none⟩ = some u := ⟨cur[k * 6 + 5]'(by omega), by simp [World.cell?, hx4]⟩
      have ff : ∀ i, w5.frozen? ⟨g, i, none⟩ = false := fun i => by simp [World.frozen?, hx4]
      have f0 := ff (k * 6)
      have f1 := ff (k * 6 + 1)
      have f2 := ff (k * 6 + 2)
      have f3 := ff (k * 6 + 3)
      have f4 := ff (k * 6 + 4)
      have f5 := ff (k * 6 + 5)
      have HX4 := Lib.hid hx4
      have HX7 := Lib.hid hx7
      have HX8 := Lib.hid hx8
      clear ff hx1 hx4 hx7 hx8
      have hk0 : (0 : Int) ≤ k := by omega
      have hkl2 : (k : Int) < rs.length := by omega
      have HPut := Lib.hid ((HOwn.out.ch0' C5.out).put (f := fRoute) (C := 6) (fun _ => rfl) (by omega) HLn.out hkl (rt, .slice b1 rt.path.length e1, .slice b2 rt.pts.length e2, .slice b3 rt.flank.length e3))
      have HPc := Lib.hid (putRow_ch g (fRoute (rt, .slice b1 rt.path.length e1, .slice b2 rt.pts.length e2, .slice b3 rt.flank.length e3)) w5 (k * 6))
      have hgM : M ≤ g := hg
      go_wp2_with fail
      go_roundw
      case rel =>
        have C6 := (hch.trans C5.out).then HPc.out (fun b hb (e : b = g) => by omega)
        refine ⟨k + 1, rs'.set k (rt, .slice b1 rt.path.length e1, .slice b2 rt.pts.length e2, .slice b3 rt.flank.length e3), by omega, by go_num, C6, Nat.le_trans hM (Nat.le_trans C5.out.size HPc.out.size),
          HPc.out.blk (C5.out.blk HB.out (fun h => h)) (fun (e : w.heap.size = g) => by omega), HPc.out.blk (C5.out.blk HE.out (fun h => h)) (fun (e : w.heap.size + 1 = g) => by omega),
          (T1.out.ch0 C5.out).ch HPc.out (fun b hb _ (e : b = g) => by have := hb.2; omega), (T2.out.ch0 C5.out).ch HPc.out (fun b hb _ (e : b = g) => by have := hb.2; omega), (T3.out.ch0 C5.out).ch HPc.out (fun b hb _ (e : b = g) => by have := hb.2; omega),
          HPut.out, by simp [HLn.out], fun i h h2 => ?_⟩
        have h3 : i < rs'.length := by simpa using h
        obtain ⟨q1, q2, q3⟩ := HA.out i h3 h2
        by_cases hik : i = k
        · subst hik
          simp only [List.getElem_set_self]
          refine ⟨by rw [← HX.out], fun h => by omega, fun _ => ⟨?_, ?_, ?_⟩⟩
          · exact (S1.out.ch HPc.out (fun b hb _ (e : b = g) => by omega)).mono fun b hb _ => ⟨by omega, fun e => by simp [Value.ownBlock] at e; omega⟩
          · exact (S2.out.ch HPc.out (fun b hb _ (e : b = g) => by omega)).mono fun b hb _ => ⟨by omega, fun e => by simp [Value.ownBlock] at e; omega⟩
          · exact (S3.out.ch HPc.out (fun b hb _ (e : b = g) => by omega)).mono fun b hb _ => ⟨by omega, fun e => by simp [Value.ownBlock] at e; omega⟩
        · simp only [List.getElem_set_ne (Ne.symm hik)]
          exact ⟨q1, fun h => q2 (by omega), fun h => ((q3 (by omega)).ch C5.out (fun _ _ _ h => h)).ch HPc.out (fun b hb _ (e : b = g) => hb.2 (by rw [e]; rfl))⟩
      case measure => simp [intOf]; omega
    · have hl0 := HB.out.cell 0
      have hl1 := HB.out.cell 1
      have hl2 := HB.out.cell 2
      have hl3 := HB.out.cell 3
      have he0 := HE.out.cell 0
      have he1 := HE.out.cell 1
      have he2 := HE.out.cell 2
      have he3 := HE.out.cell 3
      simp only [List.getElem?_toArray, List.getElem?_cons_zero, List.getElem?_cons_succ] at hl0 hl1 hl2 hl3 he0 he1 he2 he3
      have hf0 := HE.out.free 0
      have hf1 := HE.out.free 1
      have hf2 := HE.out.free 2
      have hf3 := HE.out.free 3
      go_wp2_with fail
      have hres : Blk ((((wr.setCell ⟨w.heap.size + 1, 0, none⟩ (.slice z1 L.secs.length y1)).setCell ⟨w.heap.size + 1, 1, none⟩ (.slice z2 L.pts.length y2)).setCell ⟨w.heap.size + 1, 2, none⟩ (.slice z3 L.sigs.length y3)).setCell ⟨w.heap.size + 1, 3, none⟩ (.slice z4 rs.length y4)) (w.heap.size + 1) 26 #[.slice z1 L.secs.length y1, .slice z2 L.pts.length y2, .slice z3 L.sigs.length y3, .slice z4 rs.length y4] := by
        have := (((HE.out.set 0 (.slice z1 L.secs.length y1)).set 1 (.slice z2 L.pts.length y2)).set 2 (.slice z3 L.sigs.length y3)).set 3 (.slice z4 rs.length y4)
        simpa using this
      have D : Ch (fun b => b = w.heap.size + 1) wr ((((wr.setCell ⟨w.heap.size + 1, 0, none⟩ (.slice z1 L.secs.length y1)).setCell ⟨w.heap.size + 1, 1, none⟩ (.slice z2 L.pts.length y2)).setCell ⟨w.heap.size + 1, 2, none⟩ (.slice z3 L.sigs.length y3)).setCell ⟨w.heap.size + 1, 3, none⟩ (.slice z4 rs.length y4)) := ((((Ch.refl _ _).set1 _ _).set1 _ _).set1 _ _).set1 _ _
      refine bodyPost_ret (results_cell_row (P := Tryz.prog) rfl _ _ (w.heap.size + 1) _ _ _ _ rfl hres Tryz.underlying26 rfl (by kernel_rfl)) rfl ?_
      refine ⟨_, rfl, ⟨_, _, _, _, rs', rfl, ?_, ?_, ?_, ?_, ?_, ?_⟩, hch.then D (fun b hb (e : b = w.heap.size + 1) => by omega)⟩
      · exact (T1.out.ch D (fun b hb _ (e : b = w.heap.size + 1) => by omega)).mono fun b hb _ => (by have := hb.1; show w.heap.size ≤ b; omega)
      · exact (T2.out.ch D (fun b hb _ (e : b = w.heap.size + 1) => by omega)).mono fun b hb _ => (by have := hb.1; show w.heap.size ≤ b; omega)
      · exact (T3.out.ch D (fun b hb _ (e : b = w.heap.size + 1) => by omega)).mono fun b hb _ => (by have := hb.1; show w.heap.size ≤ b; omega)
      · rw [← H4.out]
        refine List.ext_getElem (by simp [HLn.out]) fun i h1 h2 => ?_
        simp only [List.getElem_map]
        exact (HA.out i (by simpa using h1) (by simpa using h2)).1
      · have h := (HOwn.out.sl.ch D (fun b (hb : M ≤ b) _ (e : b = w.heap.size + 1) => by omega)).mono (B' := New w.heap.size) (fun b (hb : M ≤ b) _ => (by show w.heap.size ≤ b; omega))
        rw [HLn.out]
        exact h
      · intro x hx
        obtain ⟨i, hi, rfl⟩ := List.getElem_of_mem hx
        have h2 : i < rs.length := by have := HLn.out; omega
        have h := (((HA.out i hi h2).2.2 (by omega)).ch D (fun b hb _ (e : b = w.heap.size + 1) => by have := hb.1; omega))
        exact ⟨h.1.mono fun b hb _ => (by have := hb.1; show w.heap.size ≤ b; omega), h.2.1.mono fun b hb _ => (by have := hb.1; show w.heap.size ≤ b; omega), h.2.2.mono fun b hb _ => (by have := hb.1; show w.heap.size ≤ b; omega)⟩
end Go.Proofs.YtkplgggdidhnoaaGreatDoor
