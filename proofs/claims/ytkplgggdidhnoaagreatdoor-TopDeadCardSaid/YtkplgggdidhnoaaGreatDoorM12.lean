/-
  pointsmantop.size: less than 3000 means that no name is longer. Conditions: no list, no name is longer than 281474976710656. pointsmantop.fine: where it is true the layout may be. Conditions: no list, no name is longer than 281474976710656.
-/
import Derived.Test.YtkplgggdidhnoaaGreatDoorM09
import Derived.Test.YtkplgggdidhnoaaGreatDoorM11
namespace Go.Proofs.YtkplgggdidhnoaaGreatDoor
open Go.ChangeShapes Go.WideShapes Go.ChangeAt Go.RowKit
set_option linter.unusedVariables false

/-- No list, no name is long. -/
structure Lay.Small (L : Lay) (n : Nat) : Prop where
  l1 : L.secs.length ≤ n
  l2 : L.pts.length ≤ n
  l3 : L.sigs.length ≤ n
  l4 : L.routes.length ≤ n
  s1 : ∀ s ∈ L.secs, s.size ≤ n
  s2 : ∀ p ∈ L.pts, p.name.size ≤ n
  s3 : ∀ s ∈ L.sigs, s.size ≤ n
  s4 : ∀ r ∈ L.routes, r.name.size ≤ n ∧ r.path.length ≤ n ∧ r.pts.length ≤ n ∧ r.flank.length ≤ n
structure Lay.Names (L : Lay) : Prop where
  s1 : ∀ s ∈ L.secs, s.size ≤ 3000
  s2 : ∀ p ∈ L.pts, p.name.size ≤ 3000
  s3 : ∀ s ∈ L.sigs, s.size ≤ 3000
  s4 : ∀ r ∈ L.routes, r.name.size ≤ 3000

set_option maxHeartbeats 4000000 in
set_option maxRecDepth 100000 in
theorem size_ok (B : Nat → Prop) (w : World) (v : Value) (L : Lay) (hL : LayAt B w v L) (sm : L.Small 281474976710656) :
    Calls Tryz.prog 14 #[v] w fun r w' => ∃ n : Int, r = .returned (.int .i64 n) ∧ (n < 3000 → L.Names) ∧ Ch Noone w w' := by
  obtain ⟨q1, q2, q3, q4, rs, rfl, h1, h2, h3, h4, h5, h6⟩ := hL
  have H1 := Lib.hid h1
  have H2 := Lib.hid h2
  have H3 := Lib.hid h3
  have H5 := Lib.hid h5
  have H6 := Lib.hid h6
  have hrl : rs.length = L.routes.length := by rw [← h4]; simp
  have H4 := Lib.hid h4
  have SM := Lib.hid sm
  have m1 : (L.secs.length : Int) ≤ 281474976710656 := by have := sm.l1; omega
  have m2 : (L.pts.length : Int) ≤ 281474976710656 := by have := sm.l2; omega
  have m3 : (L.sigs.length : Int) ≤ 281474976710656 := by have := sm.l3; omega
  have m4 : (rs.length : Int) ≤ 281474976710656 := by have := sm.l4; omega
  have HRL := Lib.hid hrl
  clear h4 h6 sm hrl
  obtain ⟨a1, c1, rfl, -, -, -, -⟩ := h1
  obtain ⟨a2, c2, rfl, -, -, -, -⟩ := h2
  obtain ⟨a3, c3, rfl, -, -, -, -⟩ := h3
  obtain ⟨a4, c4, rfl, -, -, -, -⟩ := h5
  have C0 : Ch Noone w (w.alloc (.cells #[.slice a1 L.secs.length c1, .slice a2 L.pts.length c2, .slice a3 L.sigs.length c3, .slice a4 rs.length c4] 26)) := (Ch.refl _ _).alloc _
  have b0 := Blk.new w 26 #[.slice a1 L.secs.length c1, .slice a2 L.pts.length c2, .slice a3 L.sigs.length c3, .slice a4 rs.length c4]
  go_enter Tryz.func14, Tryz.ntmps14
  go_wp2_with fail
  go_loopw [3, 4] (fun q i wr => ∃ (k : Nat) (m : Int), k ≤ L.secs.length ∧ i = .int .i64 k ∧ q = .int .i64 m ∧ 0 ≤ m ∧ m ≤ 9007199254740992 ∧ wr = w.alloc (.cells #[.slice a1 L.secs.length c1, .slice a2 L.pts.length c2, .slice a3 L.sigs.length c3, .slice a4 rs.length c4] 26) ∧ (m < 3000 → ∀ (i : Nat) (h : i < L.secs.length), i < k → L.secs[i].size ≤ 3000)) (fun _ i _ => (L.secs.length - intOf i).toNat)
  case atStart => exact ⟨0, _, by omega, rfl, rfl, by omega, by omega, rfl, fun _ i _ h => by omega⟩
  case round =>
    obtain ⟨k, m, hk, rfl, rfl, hm0, hm1, rfl, hf⟩ := hrel
    have HFk := Lib.hid hf; clear hf
    by_cases hgo : k < L.secs.length ∧ m < 3000
    · obtain ⟨hkl, h3⟩ := hgo
      obtain ⟨b, off, rfl, -, -, hat⟩ := (H1.out.ch0 C0).at (f := fStr) (C := 1) (fun _ => rfl) (by omega) hkl
      have y0 := hat 0 (by omega)
      rw [Nat.mul_one] at y0
      have y0' : (w.alloc (.cells #[.slice (some ⟨b, off, none⟩) L.secs.length c1, .slice a2 L.pts.length c2, .slice a3 L.sigs.length c3, .slice a4 rs.length c4] 26)).cell? ⟨b, off + k, none⟩ = some (.string L.secs[k]) := y0
      have z0 : ((L.secs[k]).size : Int) ≤ 281474976710656 := by have := SM.out.s1 _ (List.getElem_mem hkl); omega
      have HSt : Hid (∀ n : Int, n = m + ((L.secs[k]).size : Int) → n < 3000 → ∀ (i : Nat) (h : i < L.secs.length), i < k + 1 → L.secs[i].size ≤ 3000) := fun n e h => by
        have h4 := HFk.out h3
        intro i hi hik
        by_cases e2 : i = k
        · subst e2; omega
        · exact h4 i hi (by omega)
      clear hat y0
      generalize L.secs[k] = y at *
      go_wp2_with fail
      go_roundw
      case rel => exact ⟨k + 1, _, by omega, by go_num, rfl, by omega, by omega, trivial, HSt.out _ rfl⟩
      case measure => simp [intOf]; omega
    · have HF : Hid (m < 3000 → (∀ (i : Nat) (h : i < L.secs.length), L.secs[i].size ≤ 3000)) := fun h i hi => HFk.out h i hi (by omega)
      clear HFk
      have hgo' : (L.secs.length : Int) ≤ k ∨ ((k : Int) < L.secs.length ∧ 3000 ≤ m) := by omega
      clear hgo
      rcases hgo' with hgo' | ⟨hg1, hgo'⟩
      all_goals
        go_wp2_with fail
        go_loopw [3, 5] (fun q i wr => ∃ (k : Nat) (m : Int), k ≤ L.pts.length ∧ i = .int .i64 k ∧ q = .int .i64 m ∧ 0 ≤ m ∧ m ≤ 9007199254740992 ∧ wr = w.alloc (.cells #[.slice a1 L.secs.length c1, .slice a2 L.pts.length c2, .slice a3 L.sigs.length c3, .slice a4 rs.length c4] 26) ∧ (m < 3000 → (∀ (i : Nat) (h : i < L.secs.length), L.secs[i].size ≤ 3000) ∧ ∀ (i : Nat) (h : i < L.pts.length), i < k → L.pts[i].name.size ≤ 3000)) (fun _ i _ => (L.pts.length - intOf i).toNat)
        case atStart => exact ⟨0, _, by omega, rfl, rfl, hm0, hm1, rfl, fun h => ⟨HF.out h, fun i _ h => by omega⟩⟩
        case round =>
          clear hk hm0 hm1 HF
          obtain ⟨k, m, hk, rfl, rfl, hm0, hm1, rfl, hf⟩ := hrel
          have HFk := Lib.hid hf; clear hf
          by_cases hgo : k < L.pts.length ∧ m < 3000
          · obtain ⟨hkl, h3⟩ := hgo
            obtain ⟨b, off, rfl, -, -, hat⟩ := (H2.out.ch0 C0).at (f := fPnt) (C := 2) (fun _ => rfl) (by omega) hkl
            have y0 := hat 0 (by omega)
            have y0' : (w.alloc (.cells #[.slice a1 L.secs.length c1, .slice (some ⟨b, off, none⟩) L.pts.length c2, .slice a3 L.sigs.length c3, .slice a4 rs.length c4] 26)).cell? ⟨b, off + k * 2, none⟩ = some (.string L.pts[k].name) := y0
            have z0 : ((L.pts[k].name).size : Int) ≤ 281474976710656 := by have := SM.out.s2 _ (List.getElem_mem hkl); omega
            have HSt : Hid (∀ n : Int, n = m + ((L.pts[k].name).size : Int) → n < 3000 → (∀ (i : Nat) (h : i < L.secs.length), L.secs[i].size ≤ 3000) ∧ ∀ (i : Nat) (h : i < L.pts.length), i < k + 1 → L.pts[i].name.size ≤ 3000) := fun n e h => by
              have h4 := HFk.out h3
              refine ⟨h4.1, ?_⟩
              intro i hi hik
              by_cases e2 : i = k
              · subst e2; omega
              · exact h4.2 i hi (by omega)
            clear hat y0
            generalize L.pts[k].name = y at *
            go_wp2_with fail
            go_roundw
            case rel => exact ⟨k + 1, _, by omega, by go_num, rfl, by omega, by omega, trivial, HSt.out _ rfl⟩
            case measure => simp [intOf]; omega
          · have HF : Hid (m < 3000 → (∀ (i : Nat) (h : i < L.secs.length), L.secs[i].size ≤ 3000) ∧ (∀ (i : Nat) (h : i < L.pts.length), L.pts[i].name.size ≤ 3000)) := fun h => ⟨(HFk.out h).1, fun i hi => (HFk.out h).2 i hi (by omega)⟩
            clear HFk
            have hgo' : (L.pts.length : Int) ≤ k ∨ ((k : Int) < L.pts.length ∧ 3000 ≤ m) := by omega
            clear hgo
            rcases hgo' with hgo' | ⟨hg1, hgo'⟩
            all_goals
              go_wp2_with fail
              go_loopw [3, 6] (fun q i wr => ∃ (k : Nat) (m : Int), k ≤ L.sigs.length ∧ i = .int .i64 k ∧ q = .int .i64 m ∧ 0 ≤ m ∧ m ≤ 9007199254740992 ∧ wr = w.alloc (.cells #[.slice a1 L.secs.length c1, .slice a2 L.pts.length c2, .slice a3 L.sigs.length c3, .slice a4 rs.length c4] 26) ∧ (m < 3000 → (∀ (i : Nat) (h : i < L.secs.length), L.secs[i].size ≤ 3000) ∧ (∀ (i : Nat) (h : i < L.pts.length), L.pts[i].name.size ≤ 3000) ∧ ∀ (i : Nat) (h : i < L.sigs.length), i < k → L.sigs[i].size ≤ 3000)) (fun _ i _ => (L.sigs.length - intOf i).toNat)
              case atStart => exact ⟨0, _, by omega, rfl, rfl, hm0, hm1, rfl, fun h => ⟨(HF.out h).1, (HF.out h).2, fun i _ h => by omega⟩⟩
              case round =>
                clear hk hm0 hm1 HF
                obtain ⟨k, m, hk, rfl, rfl, hm0, hm1, rfl, hf⟩ := hrel
                have HFk := Lib.hid hf; clear hf
                by_cases hgo : k < L.sigs.length ∧ m < 3000
                · obtain ⟨hkl, h3⟩ := hgo
                  obtain ⟨b, off, rfl, -, -, hat⟩ := (H3.out.ch0 C0).at (f := fStr) (C := 1) (fun _ => rfl) (by omega) hkl
                  have y0 := hat 0 (by omega)
                  rw [Nat.mul_one] at y0
                  have y0' : (w.alloc (.cells #[.slice a1 L.secs.length c1, .slice a2 L.pts.length c2, .slice (some ⟨b, off, none⟩) L.sigs.length c3, .slice a4 rs.length c4] 26)).cell? ⟨b, off + k, none⟩ = some (.string L.sigs[k]) := y0
                  have z0 : ((L.sigs[k]).size : Int) ≤ 281474976710656 := by have := SM.out.s3 _ (List.getElem_mem hkl); omega
                  have HSt : Hid (∀ n : Int, n = m + ((L.sigs[k]).size : Int) → n < 3000 → (∀ (i : Nat) (h : i < L.secs.length), L.secs[i].size ≤ 3000) ∧ (∀ (i : Nat) (h : i < L.pts.length), L.pts[i].name.size ≤ 3000) ∧ ∀ (i : Nat) (h : i < L.sigs.length), i < k + 1 → L.sigs[i].size ≤ 3000) := fun n e h => by
                    have h4 := HFk.out h3
                    refine ⟨h4.1, h4.2.1, ?_⟩
                    intro i hi hik
                    by_cases e2 : i = k
                    · subst e2; omega
                    · exact h4.2.2 i hi (by omega)
                  clear hat y0
                  generalize L.sigs[k] = y at *
                  go_wp2_with fail
                  go_roundw
                  case rel => exact ⟨k + 1, _, by omega, by go_num, rfl, by omega, by omega, trivial, HSt.out _ rfl⟩
                  case measure => simp [intOf]; omega
                · have HF : Hid (m < 3000 → (∀ (i : Nat) (h : i < L.secs.length), L.secs[i].size ≤ 3000) ∧ (∀ (i : Nat) (h : i < L.pts.length), L.pts[i].name.size ≤ 3000) ∧ (∀ (i : Nat) (h : i < L.sigs.length), L.sigs[i].size ≤ 3000)) := fun h => ⟨(HFk.out h).1, (HFk.out h).2.1, fun i hi => (HFk.out h).2.2 i hi (by omega)⟩
                  clear HFk
                  have hgo' : (L.sigs.length : Int) ≤ k ∨ ((k : Int) < L.sigs.length ∧ 3000 ≤ m) := by omega
                  clear hgo
                  rcases hgo' with hgo' | ⟨hg1, hgo'⟩
                  all_goals
                    go_wp2_with fail
                    go_loopw [3, 7] (fun q i wr => ∃ (k : Nat) (m : Int), k ≤ rs.length ∧ i = .int .i64 k ∧ q = .int .i64 m ∧ 0 ≤ m ∧ m ≤ 9007199254740992 ∧ Ch Noone w wr ∧ Blk wr w.heap.size 26 #[.slice a1 L.secs.length c1, .slice a2 L.pts.length c2, .slice a3 L.sigs.length c3, .slice a4 rs.length c4] ∧ (m < 3000 → (∀ (i : Nat) (h : i < L.secs.length), L.secs[i].size ≤ 3000) ∧ (∀ (i : Nat) (h : i < L.pts.length), L.pts[i].name.size ≤ 3000) ∧ (∀ (i : Nat) (h : i < L.sigs.length), L.sigs[i].size ≤ 3000) ∧ ∀ (i : Nat) (h : i < rs.length), i < k → rs[i].1.name.size ≤ 3000)) (fun _ i _ => (rs.length - intOf i).toNat)
                    case atStart => exact ⟨0, _, by omega, rfl, rfl, hm0, hm1, C0, b0, fun h => ⟨(HF.out h).1, (HF.out h).2.1, (HF.out h).2.2, fun i _ h => by omega⟩⟩
                    case round =>
                      clear hk hm0 hm1 HF
                      obtain ⟨k, m, hk, rfl, rfl, hm0, hm1, hch, hb, hf⟩ := hrel
                      have HFk := Lib.hid hf; clear hf
                      have l0 := hb.cell 0
                      have l1 := hb.cell 1
                      have l2 := hb.cell 2
                      have l3 := hb.cell 3
                      simp only [List.getElem?_toArray, List.getElem?_cons_zero, List.getElem?_cons_succ] at l0 l1 l2 l3
                      have HB := Lib.hid hb; clear hb
                      by_cases hgo : k < rs.length ∧ m < 3000
                      · obtain ⟨hkl, h3⟩ := hgo
                        obtain ⟨b, off, rfl, -, hbw, hat⟩ := H5.out.at (f := fRoute) (C := 6) (fun _ => rfl) (by omega) hkl
                        have y0 : wr.cell? ⟨b, off + k * 6, none⟩ = some (.string rs[k].1.name) := (hch.cell0 hbw _).trans (hat 0 (by omega))
                        have y1 : wr.cell? ⟨b, off + k * 6 + 1, none⟩ = some (.int .i64 rs[k].1.frm) := (hch.cell0 hbw _).trans (hat 1 (by omega))
                        have y2 : wr.cell? ⟨b, off + k * 6 + 2, none⟩ = some (.int .i64 rs[k].1.to) := (hch.cell0 hbw _).trans (hat 2 (by omega))
                        have y3 : wr.cell? ⟨b, off + k * 6 + 3, none⟩ = some rs[k].2.1 := (hch.cell0 hbw _).trans (hat 3 (by omega))
                        have y4 : wr.cell? ⟨b, off + k * 6 + 4, none⟩ = some rs[k].2.2.1 := (hch.cell0 hbw _).trans (hat 4 (by omega))
                        have y5 : wr.cell? ⟨b, off + k * 6 + 5, none⟩ = some rs[k].2.2.2 := (hch.cell0 hbw _).trans (hat 5 (by omega))
                        clear hat
                        have hmem : rs[k].1 ∈ L.routes := by rw [← H4.out]; exact List.mem_map.2 ⟨_, List.getElem_mem hkl, rfl⟩
                        have z0 : ((rs[k].1.name).size : Int) ≤ 281474976710656 := by have := (SM.out.s4 _ hmem).1; omega
                        have z1 : (rs[k].1.path.length : Int) ≤ 281474976710656 := by have := (SM.out.s4 _ hmem).2.1; omega
                        have z2 : (rs[k].1.pts.length : Int) ≤ 281474976710656 := by have := (SM.out.s4 _ hmem).2.2.1; omega
                        have z3 : (rs[k].1.flank.length : Int) ≤ 281474976710656 := by have := (SM.out.s4 _ hmem).2.2.2; omega
                        clear hmem
                        have HSt : Hid (∀ n : Int, m + ((rs[k].1.name).size : Int) ≤ n → n < 3000 → (∀ (i : Nat) (h : i < L.secs.length), L.secs[i].size ≤ 3000) ∧ (∀ (i : Nat) (h : i < L.pts.length), L.pts[i].name.size ≤ 3000) ∧ (∀ (i : Nat) (h : i < L.sigs.length), L.sigs[i].size ≤ 3000) ∧ ∀ (i : Nat) (h : i < rs.length), i < k + 1 → rs[i].1.name.size ≤ 3000) := fun n e h => by
                          have h4 := HFk.out h3
                          refine ⟨h4.1, h4.2.1, h4.2.2.1, ?_⟩
                          intro i hi hik
                          by_cases e2 : i = k
                          · subst e2; omega
                          · exact h4.2.2.2 i hi (by omega)
                        have hx := H6.out rs[k] (List.getElem_mem hkl)
                        obtain ⟨⟨x1, n1, e1, -⟩, ⟨x2, n2, e2, -⟩, ⟨x3, n3, e3, -⟩⟩ := hx
                        rw [e1] at y3
                        rw [e2] at y4
                        rw [e3] at y5
                        clear e1 e2 e3
                        have hkl' : (k : Int) < rs.length := by omega
                        have hk0 : (0 : Int) ≤ k := by omega
                        generalize rs[k] = y at *
                        obtain ⟨rt, vp, vn, vf⟩ := y
                        dsimp only at *
                        go_wp2_with fail
                        go_roundw
                        case rel => exact ⟨k + 1, _, by omega, by go_num, rfl, by omega, by omega, hch.alloc _, HB.out.alloc _, HSt.out _ (by omega)⟩
                        case measure => simp [intOf]; omega
                      · have HF : Hid (m < 3000 → L.Names) := fun h => by
                          have h4 := HFk.out h
                          refine ⟨fun s hs => ?_, fun s hs => ?_, fun s hs => ?_, fun s hs => ?_⟩
                          · obtain ⟨i, hi, rfl⟩ := List.mem_iff_getElem.1 hs; exact h4.1 i hi
                          · obtain ⟨i, hi, rfl⟩ := List.mem_iff_getElem.1 hs; exact h4.2.1 i hi
                          · obtain ⟨i, hi, rfl⟩ := List.mem_iff_getElem.1 hs; exact h4.2.2.1 i hi
                          · rw [← H4.out] at hs
                            obtain ⟨x, hx, rfl⟩ := List.mem_map.1 hs
                            obtain ⟨i, hi, rfl⟩ := List.mem_iff_getElem.1 hx; exact h4.2.2.2 i hi (by omega)
                        clear HFk
                        have hgo' : (rs.length : Int) ≤ k ∨ ((k : Int) < rs.length ∧ 3000 ≤ m) := by omega
                        clear hgo
                        rcases hgo' with hgo' | ⟨hg1, hgo'⟩
                        all_goals
                          go_wp2_with fail
                          go_ret
                          exact ⟨_, rfl, HF.out, hch⟩
end Go.Proofs.YtkplgggdidhnoaaGreatDoor

namespace Go.Proofs.YtkplgggdidhnoaaGreatDoor
open Go.ChangeShapes Go.WideShapes Go.ChangeAt Go.RowKit
set_option linter.unusedVariables false

theorem Sl.lt_of_Tabs {w : World} (h : Tabs w) : 0 < w.heap.size ∧ 1 < w.heap.size := ⟨by have := h.lt; omega, h.lt⟩

set_option maxHeartbeats 2000000 in
theorem fine_ref (B : Nat → Prop) (w : World) (v v' : Value) (L : Lay) (xs : List (List Ev × Value)) (hL : LayAt B w v L) (sm : L.Small 281474976710656) (hT : Tabs w) (he : EvsAt B w v' xs) :
    Calls Tryz.prog 7 #[v, v'] w fun r w' => ∃ b, r = .returned (.bool b) ∧ (b = true → LayOk L) ∧ Ch Noone w w' := by
  have HL := Lib.hid hL
  have HE := Lib.hid he
  have HT := Lib.hid hT
  have SM := Lib.hid sm
  obtain ⟨q1, q2, q3, q4, rs, rfl, -, -, -, -, -, -⟩ := hL
  clear he hT sm
  have b0 := Blk.new w 26 #[q1, q2, q3, q4]
  have C0 : Ch Noone w (w.alloc (.cells #[q1, q2, q3, q4] 26)) := (Ch.refl _ _).alloc _
  go_enter Tryz.func7, Tryz.ntmps7
  go_wp2_with fail
  refine (size_ok B _ _ L (HL.out.ch0 C0) SM.out).mono ?_
  rintro e w1 ⟨n, rfl, hn, c1⟩
  have HN := Lib.hid hn; clear hn
  have C1 := C0.trans c1
  have b1 := c1.blk b0 (fun h => h)
  have l0 := b1.cell 0
  have l1 := b1.cell 1
  have l2 := b1.cell 2
  have l3 := b1.cell 3
  simp only [List.getElem?_toArray, List.getElem?_cons_zero, List.getElem?_cons_succ] at l0 l1 l2 l3
  by_cases h3 : n < 3000
  · have HNm := Lib.hid (HN.out h3); clear HN
    go_wp2_with fail
    refine (is_ref B _ _ L (HL.out.ch0 C1) (HT.out.ch0 C1) (fun s h => by have := HNm.out.s1 s h; omega) (fun s h => by have := HNm.out.s2 s h; omega) (fun s h => by have := HNm.out.s3 s h; omega) (fun s h => by have := HNm.out.s4 s h; omega)).mono ?_
    rintro e w2 ⟨b, rfl, hb, c2⟩
    have HB := Lib.hid hb; clear hb
    have C2 := C1.trans c2
    cases b
    · go_wp2_with fail
      go_ret
      first | exact ⟨_, rfl, fun h => (by cases h), C2⟩ | exact .inl ⟨rfl, C2⟩
    · go_wp2_with fail
      refine (events_any B _ _ xs ⟨HE.out.1.ch0 C2, fun x hx => (HE.out.2 x hx).ch0 C2⟩).mono ?_
      rintro e w3 ⟨b, rfl, rfl⟩
      go_wp2_with fail
      go_ret
      cases b
      · first | exact ⟨_, rfl, fun h => (by cases h), C2⟩ | exact .inl ⟨rfl, C2⟩
      · first | exact ⟨_, rfl, fun h => HB.out (by trivial), C2⟩ | exact .inr ⟨rfl, HB.out (by trivial), C2⟩
  · go_wp2_with fail
    go_ret
    first | exact ⟨_, rfl, fun h => (by cases h), C1⟩ | exact .inl ⟨rfl, C1⟩
end Go.Proofs.YtkplgggdidhnoaaGreatDoor
