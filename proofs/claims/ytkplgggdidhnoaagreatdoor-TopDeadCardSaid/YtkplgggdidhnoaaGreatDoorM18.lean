/-
  The contract of pair: asks. Conditions: sizes; a unit that is given the field has no copy.
-/
import Derived.Test.YtkplgggdidhnoaaGreatDoorM17
import Derived.Deep.RegionHeld3
namespace Go.Proofs.YtkplgggdidhnoaaGreatDoor
open Go.ChangeShapes Go.WideShapes Go.ChangeAt Go.RowKit
set_option linter.unusedVariables false

/-- How a unit and the relay stand behind its asking. -/
def AskRel (u : US) (re : St) (i : Int) (deaf : Bool) (u' : US) (re' : St) : Prop :=
  ((deaf = true ∨ (u.mode ≠ 2 ∧ u.mode ≠ 3 ∧ u.mode ≠ 4)) ∧ u' = u ∧ re' = re) ∨
  (deaf = false ∧ (u.mode = 2 ∨ u.mode = 3 ∨ u.mode = 4) ∧ re' = (re.ask i u.count).1 ∧
    (((re.ask i u.count).2.2.2 = 0 ∧ u.Given (re.ask i u.count).2.1 (re.ask i u.count).2.2.1 u') ∨ ((re.ask i u.count).2.2.2 ≠ 0 ∧ u' = u)))

set_option maxRecDepth 100000 in
set_option maxHeartbeats 4000000 in
theorem pair_asks0 {m : Nat → Nat} {w : World} {p a0 a1 r k f s : Nat} {L : Lay} {ps : PS} (deaf : Bool) (h : PairP m w p a0 a1 r k f s L ps) (ok : LayOk L) (hc : ps.u0.cp = none) (t0 : 0 ≤ ps.u0.tick) (t1 : ps.u0.tick ≤ 30000) (e0 : 0 ≤ ps.re.epoch) (e1 : ps.re.epoch ≤ 30000) :
    Calls Tryz.prog 33 #[.pointer (some ⟨p, 0, none⟩), .int .i64 0, .bool deaf] w fun x w' => x = .returned (.tuple #[]) ∧ PStep m w p a0 a1 r k f s L w' (fun ps' => ∃ u' re', AskRel ps.u0 ps.re 0 deaf u' re' ∧ ps' = { ps with u0 := u', re := re' }) := by
  have OK := Lib.hid ok
  have HP := Lib.hid h
  have HC := Lib.hid hc
  obtain ⟨rs, hu⟩ := h.u0
  have HU := Lib.hid hu
  have HMo := Lib.hid (unit_mode _ _ _ _ _ _ hu)
  have HCo := Lib.hid (unit_count _ w.drew _ _ _ _ (hu.ch ((Ch.refl Noone w).drew) (fun _ _ _ h => h)))
  obtain ⟨sa, ep, la, er, hA⟩ : ∃ sa ep la er, ps.re.ask 0 ps.u0.count = (sa, ep, la, er) := ⟨_, _, _, _, rfl⟩
  have HAk := Lib.hid (relay_ask w.drew r ps.re 0 ps.u0.count h.relay e0 (by omega))
  rw [hA] at HAk
  simp only [askVal] at HAk
  have HA := Lib.hid hA
  obtain ⟨l0, l1, l2, -, -, -, -⟩ := h.cells
  have hpr : p ≠ r := fun e => by have h1 := h.mp; have h2 := h.mr; rw [e, h2] at h1; omega
  have b0 := Lib.hid h.blk
  have TT := Lib.hid (And.intro t0 t1)
  clear h ok hc hu hA t0 t1 e0 e1
  have done : Hid (deaf = true ∨ (ps.u0.mode ≠ 2 ∧ ps.u0.mode ≠ 3 ∧ ps.u0.mode ≠ 4) → PStep m w p a0 a1 r k f s L w (fun ps' => ∃ u' re', AskRel ps.u0 ps.re 0 deaf u' re' ∧ ps' = { ps with u0 := u', re := re' })) := fun h => ⟨m, ps, Agree.refl _ _, HP.out, ⟨_, _, .inl ⟨h, rfl, rfl⟩, rfl⟩, Ch.refl _ _⟩
  cases deaf
  · by_cases hm : ps.u0.mode = 2 ∨ ps.u0.mode = 3 ∨ ps.u0.mode = 4
    · have HM := Lib.hid hm
      rcases hm with hm | hm | hm
      all_goals
        rw [hm] at HMo
        clear hm done
        go_enter Tryz.func33, Tryz.ntmps33
        go_wp2_with fail
        refine HMo.out.mono ?_
        rintro x w1 ⟨rfl, rfl⟩
        go_wp2_with fail
        go_region_held3 (fun W => W.cell? ⟨p, 2, none⟩ = some (.pointer (some ⟨r, 0, none⟩))) (first | exact b0.out.cell 2 | exact (c2.blk b0.out.drew hpr).cell 2) (first | (go_at_call 66; refine HCo.out.mono ?_; rintro x w2 ⟨rfl, rfl⟩) | (go_at_call 65; refine HAk.out.mono ?_; rintro x w2 ⟨rfl, hr2, c2⟩))
        have R2 := Lib.hid hr2
        clear hr2
        have c2' : Ch (fun g => g = r) w1 w2 := (Ch.refl _ _).drew.trans c2
        have h2 := HP.out.stepRelay c2' R2.out
        have H2 := Lib.hid h2
        have A2 : Hid (Agree w1 m (lab m w1.heap.size 1)) := Agree.lab _ _ _
        have C2 : Hid (Ch (Mine m) w1 w2) := c2'.mono fun g _ e => by show m g ≤ 6; rw [e, HP.out.mr]; decide
        generalize lab m w1.heap.size 1 = m2 at *
        clear h2
        by_cases he : er = 0
        · obtain ⟨rs2, hu2⟩ := H2.out.u0
          have HG := Lib.hid (unit_granted _ _ _ _ _ _ ep la hu2 OK.out HC.out TT.out.1 TT.out.2)
          subst he
          clear hu2
          go_wp2_with fail
          refine HG.out.mono ?_
          rintro x w3 ⟨rfl, ⟨u', rs', hgv, -, hu3⟩, c3⟩
          have H3 := Lib.hid hu3
          have GV := Lib.hid hgv
          clear hu3 hgv
          go_wp2_with fail
          go_end0
          refine ⟨rfl, _, _, A2.out.trans (Agree.lab _ _ _) c2'.size, H2.out.stepU0 c3 ⟨_, H3.out⟩, ⟨u', sa, .inr ⟨rfl, HM.out, ?_, .inl ⟨?_, ?_⟩⟩, rfl⟩, C2.out.next A2.out (c3.mine (by decide))⟩
          · rw [HA.out]
          · rw [HA.out]
          · rw [HA.out]; exact GV.out
        · have he' : (er == 0) = false := by simpa using he
          have HE := Lib.hid he
          clear he
          go_wp2_with fail
          go_end0
          refine ⟨rfl, _, _, A2.out, H2.out, ⟨ps.u0, sa, .inr ⟨rfl, HM.out, ?_, .inr ⟨?_, rfl⟩⟩, rfl⟩, C2.out⟩
          · rw [HA.out]
          · rw [HA.out]; exact HE.out
    · have hm' : ps.u0.mode ≠ 2 ∧ ps.u0.mode ≠ 3 ∧ ps.u0.mode ≠ 4 := ⟨fun e => hm (.inl e), fun e => hm (.inr (.inl e)), fun e => hm (.inr (.inr e))⟩
      have n2 : (ps.u0.mode != 2) = true := by simpa using hm'.1
      have n3 : (ps.u0.mode != 3) = true := by simpa using hm'.2.1
      have n4 : (ps.u0.mode != 4) = true := by simpa using hm'.2.2
      have HD := Lib.hid (done.out (.inr hm'))
      clear hm hm' done
      go_enter Tryz.func33, Tryz.ntmps33
      go_wp2_with fail
      refine HMo.out.mono ?_
      rintro x w1 ⟨rfl, rfl⟩
      go_wp2_with fail
      (try simp only [Exit.inBlock, Exit.then])
      refine bodyPost_ret (results_none rfl _ _ _) rfl ?_
      exact ⟨rfl, HD.out⟩
  · have HD := Lib.hid (done.out (.inl rfl))
    clear done
    go_enter Tryz.func33, Tryz.ntmps33
    go_wp2_with fail
    refine HMo.out.mono ?_
    rintro x w1 ⟨rfl, rfl⟩
    go_wp2_with fail
    (try simp only [Exit.inBlock, Exit.then])
    refine bodyPost_ret (results_none rfl _ _ _) rfl ?_
    exact ⟨rfl, HD.out⟩

set_option maxRecDepth 100000 in
set_option maxHeartbeats 4000000 in
theorem pair_asks1 {m : Nat → Nat} {w : World} {p a0 a1 r k f s : Nat} {L : Lay} {ps : PS} (deaf : Bool) (h : PairP m w p a0 a1 r k f s L ps) (ok : LayOk L) (hc : ps.u1.cp = none) (t0 : 0 ≤ ps.u1.tick) (t1 : ps.u1.tick ≤ 30000) (e0 : 0 ≤ ps.re.epoch) (e1 : ps.re.epoch ≤ 30000) :
    Calls Tryz.prog 33 #[.pointer (some ⟨p, 0, none⟩), .int .i64 1, .bool deaf] w fun x w' => x = .returned (.tuple #[]) ∧ PStep m w p a0 a1 r k f s L w' (fun ps' => ∃ u' re', AskRel ps.u1 ps.re 1 deaf u' re' ∧ ps' = { ps with u1 := u', re := re' }) := by
  have OK := Lib.hid ok
  have HP := Lib.hid h
  have HC := Lib.hid hc
  obtain ⟨rs, hu⟩ := h.u1
  have HU := Lib.hid hu
  have HMo := Lib.hid (unit_mode _ _ _ _ _ _ hu)
  have HCo := Lib.hid (unit_count _ w.drew _ _ _ _ (hu.ch ((Ch.refl Noone w).drew) (fun _ _ _ h => h)))
  obtain ⟨sa, ep, la, er, hA⟩ : ∃ sa ep la er, ps.re.ask 1 ps.u1.count = (sa, ep, la, er) := ⟨_, _, _, _, rfl⟩
  have HAk := Lib.hid (relay_ask w.drew r ps.re 1 ps.u1.count h.relay e0 (by omega))
  rw [hA] at HAk
  simp only [askVal] at HAk
  have HA := Lib.hid hA
  obtain ⟨l0, l1, l2, -, -, -, -⟩ := h.cells
  have hpr : p ≠ r := fun e => by have h1 := h.mp; have h2 := h.mr; rw [e, h2] at h1; omega
  have b0 := Lib.hid h.blk
  have TT := Lib.hid (And.intro t0 t1)
  clear h ok hc hu hA t0 t1 e0 e1
  have done : Hid (deaf = true ∨ (ps.u1.mode ≠ 2 ∧ ps.u1.mode ≠ 3 ∧ ps.u1.mode ≠ 4) → PStep m w p a0 a1 r k f s L w (fun ps' => ∃ u' re', AskRel ps.u1 ps.re 1 deaf u' re' ∧ ps' = { ps with u1 := u', re := re' })) := fun h => ⟨m, ps, Agree.refl _ _, HP.out, ⟨_, _, .inl ⟨h, rfl, rfl⟩, rfl⟩, Ch.refl _ _⟩
  cases deaf
  · by_cases hm : ps.u1.mode = 2 ∨ ps.u1.mode = 3 ∨ ps.u1.mode = 4
    · have HM := Lib.hid hm
      rcases hm with hm | hm | hm
      all_goals
        rw [hm] at HMo
        clear hm done
        go_enter Tryz.func33, Tryz.ntmps33
        go_wp2_with fail
        refine HMo.out.mono ?_
        rintro x w1 ⟨rfl, rfl⟩
        go_wp2_with fail
        go_region_held3 (fun W => W.cell? ⟨p, 2, none⟩ = some (.pointer (some ⟨r, 0, none⟩))) (first | exact b0.out.cell 2 | exact (c2.blk b0.out.drew hpr).cell 2) (first | (go_at_call 66; refine HCo.out.mono ?_; rintro x w2 ⟨rfl, rfl⟩) | (go_at_call 65; refine HAk.out.mono ?_; rintro x w2 ⟨rfl, hr2, c2⟩))
        have R2 := Lib.hid hr2
        clear hr2
        have c2' : Ch (fun g => g = r) w1 w2 := (Ch.refl _ _).drew.trans c2
        have h2 := HP.out.stepRelay c2' R2.out
        have H2 := Lib.hid h2
        have A2 : Hid (Agree w1 m (lab m w1.heap.size 1)) := Agree.lab _ _ _
        have C2 : Hid (Ch (Mine m) w1 w2) := c2'.mono fun g _ e => by show m g ≤ 6; rw [e, HP.out.mr]; decide
        generalize lab m w1.heap.size 1 = m2 at *
        clear h2
        by_cases he : er = 0
        · obtain ⟨rs2, hu2⟩ := H2.out.u1
          have HG := Lib.hid (unit_granted _ _ _ _ _ _ ep la hu2 OK.out HC.out TT.out.1 TT.out.2)
          subst he
          clear hu2
          go_wp2_with fail
          refine HG.out.mono ?_
          rintro x w3 ⟨rfl, ⟨u', rs', hgv, -, hu3⟩, c3⟩
          have H3 := Lib.hid hu3
          have GV := Lib.hid hgv
          clear hu3 hgv
          go_wp2_with fail
          go_end0
          refine ⟨rfl, _, _, A2.out.trans (Agree.lab _ _ _) c2'.size, H2.out.stepU1 c3 ⟨_, H3.out⟩, ⟨u', sa, .inr ⟨rfl, HM.out, ?_, .inl ⟨?_, ?_⟩⟩, rfl⟩, C2.out.next A2.out (c3.mine (by decide))⟩
          · rw [HA.out]
          · rw [HA.out]
          · rw [HA.out]; exact GV.out
        · have he' : (er == 0) = false := by simpa using he
          have HE := Lib.hid he
          clear he
          go_wp2_with fail
          go_end0
          refine ⟨rfl, _, _, A2.out, H2.out, ⟨ps.u1, sa, .inr ⟨rfl, HM.out, ?_, .inr ⟨?_, rfl⟩⟩, rfl⟩, C2.out⟩
          · rw [HA.out]
          · rw [HA.out]; exact HE.out
    · have hm' : ps.u1.mode ≠ 2 ∧ ps.u1.mode ≠ 3 ∧ ps.u1.mode ≠ 4 := ⟨fun e => hm (.inl e), fun e => hm (.inr (.inl e)), fun e => hm (.inr (.inr e))⟩
      have n2 : (ps.u1.mode != 2) = true := by simpa using hm'.1
      have n3 : (ps.u1.mode != 3) = true := by simpa using hm'.2.1
      have n4 : (ps.u1.mode != 4) = true := by simpa using hm'.2.2
      have HD := Lib.hid (done.out (.inr hm'))
      clear hm hm' done
      go_enter Tryz.func33, Tryz.ntmps33
      go_wp2_with fail
      refine HMo.out.mono ?_
      rintro x w1 ⟨rfl, rfl⟩
      go_wp2_with fail
      (try simp only [Exit.inBlock, Exit.then])
      refine bodyPost_ret (results_none rfl _ _ _) rfl ?_
      exact ⟨rfl, HD.out⟩
  · have HD := Lib.hid (done.out (.inl rfl))
    clear done
    go_enter Tryz.func33, Tryz.ntmps33
    go_wp2_with fail
    refine HMo.out.mono ?_
    rintro x w1 ⟨rfl, rfl⟩
    go_wp2_with fail
    (try simp only [Exit.inBlock, Exit.then])
    refine bodyPost_ret (results_none rfl _ _ _) rfl ?_
    exact ⟨rfl, HD.out⟩
end Go.Proofs.YtkplgggdidhnoaaGreatDoor
