/-
  pointsmanref4.needs, route: what is told to be so is so. Condition: none but sizes. pointsmanref4.route: a route whose ends or path may not be is told to be none. Condition: the layout has no more than it may.
-/
import Derived.Test.YtkplgggdidhnoaaGreatDoorM07
namespace Go.Proofs.YtkplgggdidhnoaaGreatDoor
open Go.ChangeShapes Go.WideShapes Go.ChangeAt Go.RowKit
set_option linter.unusedVariables false

/-- The first so many Needs may be. -/
def NeedsTo (L : Lay) (ns : List Need) (p : List Int) (t : Bool) (k : Nat) : Prop :=
  (∀ (i : Nat) (h : i < ns.length), i < k → 0 ≤ ns[i].pt ∧ ns[i].pt < L.pts.length ∧ hasB p (secOf L ns[i].pt) = t) ∧ ∀ (i : Nat) (h : i + 1 < ns.length), i + 1 < k → (ns[i]'(by omega)).pt < ns[i + 1].pt

theorem NeedsTo.all {L : Lay} {ns : List Need} {p : List Int} {t : Bool} {k : Nat} (h : NeedsTo L ns p t k) (hk : ns.length ≤ k) : NeedsOk L ns p t :=
  ⟨fun n hn => by obtain ⟨i, hi, rfl⟩ := List.getElem_of_mem hn; exact h.1 i hi (by omega), fun i hi => h.2 i hi (by omega)⟩
theorem NeedsTo.step {L : Lay} {ns : List Need} {p : List Int} {t : Bool} {k : Nat} (h : NeedsTo L ns p t k) (hk : k < ns.length) (h0 : 0 ≤ ns[k].pt) (h1 : ns[k].pt < L.pts.length) (h2 : hasB p (secOf L ns[k].pt) = t)
    (h3 : ∀ h0 : k ≠ 0, (ns[k - 1]'(by omega)).pt < ns[k].pt) : NeedsTo L ns p t (k + 1) :=
  ⟨fun i hi hk' => by
    by_cases e : i = k
    · subst e; exact ⟨h0, h1, h2⟩
    · exact h.1 i hi (by omega), fun i hi hk' => by
    by_cases e : i + 1 = k
    · subst e; exact h3 (by omega)
    · exact h.2 i hi (by omega)⟩
theorem NeedsTo.le {L : Lay} {ns : List Need} {p : List Int} {t : Bool} {k : Nat} (h : NeedsTo L ns p t k) (hk : k ≤ ns.length) : k ≤ L.pts.length := by
  have key : ∀ (i : Nat) (hi : i < ns.length), i < k → (i : Int) ≤ ns[i].pt := by
    intro i
    induction i with
    | zero => intro hi hk; have := (h.1 0 hi hk).1; omega
    | succ i ih => intro hi hk; have h1 := ih (by omega) (by omega); have h2 := h.2 i hi hk; omega
  rcases Nat.eq_zero_or_pos k with h0 | h0
  · omega
  · have h1 := key (k - 1) (by omega) (by omega)
    have h2 := (h.1 (k - 1) (by omega) (by omega)).2.1
    omega

set_option maxHeartbeats 4000000 in
set_option maxRecDepth 100000 in
theorem needs_ref (B : Nat → Prop) (w : World) (v vn vp : Value) (L : Lay) (ns : List Need) (p : List Int) (t : Bool) (hL : LayAt B w v L) (hn : Sl B w vn ns.length (ns.flatMap fNeed)) (hp : Sl B w vp p.length (p.flatMap fInt))
    (hpl : p.length ≤ 100) (hs : L.pts.length ≤ 5) :
    Calls Tryz.prog 77 #[v, vn, vp, .bool t] w fun r w' => ∃ b, r = .returned (.bool b) ∧ (b = true → NeedsOk L ns p t) ∧ Ch Noone w w' := by
  have HP := Lib.hid hp; clear hp
  have HN := Lib.hid hn
  obtain ⟨v1, v2, v3, v4, rs, rfl, h1, h2, h3, h4, h5, h6⟩ := hL
  have H2 := Lib.hid h2
  clear h1 h3 h4 h5 h6
  obtain ⟨a2, c2, rfl, -, -, -, -⟩ := h2
  obtain ⟨ao, cap, rfl, -, -, -, -⟩ := hn
  have C0 : Ch Noone w (w.alloc (.cells #[v1, .slice a2 L.pts.length c2, v3, v4] 26)) := (Ch.refl _ _).alloc _
  have b0 := Blk.new w 26 #[v1, .slice a2 L.pts.length c2, v3, v4]
  go_enter Tryz.func77, Tryz.ntmps77
  go_wp2_with fail
  go_loopw [9] (fun i wr => ∃ k : Nat, k ≤ ns.length ∧ i = .int .i64 k ∧ Ch Noone w wr ∧ Blk wr w.heap.size 26 #[v1, .slice a2 L.pts.length c2, v3, v4] ∧ NeedsTo L ns p t k) (fun i _ => (ns.length - intOf i).toNat)
  case atStart => exact ⟨0, by omega, rfl, C0, b0, fun i _ h => by omega, fun i _ h => by omega⟩
  case round =>
    clear b0 C0
    obtain ⟨k, hk, rfl, hch, hb, hto⟩ := hrel
    have hk5 : k ≤ 5 := Nat.le_trans (hto.le hk) hs
    have HTo := Lib.hid hto; clear hto
    by_cases hkl : k < ns.length
    · obtain ⟨b, off, rfl, -, -, hat⟩ := (HN.out.ch0 hch).at (f := fNeed) (C := 2) (fun _ => rfl) (by omega) hkl
      have y0 : wr.cell? ⟨b, off + k * 2, none⟩ = some (.int .i64 ns[k].pt) := hat 0 (by omega)
      clear hat
      have d1 : wr.cell? ⟨w.heap.size, 1, none⟩ = some (.slice a2 L.pts.length c2) := hb.cell 1
      have HS := Lib.hid (fun h0 h1 h2 h3 => HTo.out.step hkl h0 h1 h2 h3)
      have HPr : Hid (k ≠ 0 → ∃ (hq : k - 1 < ns.length), wr.cell? ⟨b, off + (k - 1) * 2, none⟩ = some (.int .i64 (ns[k - 1]'hq).pt)) := fun h0 => by
        obtain ⟨b', off', e', _, _, hat3⟩ := (HN.out.ch0 hch).at (f := fNeed) (C := 2) (fun _ => rfl) (by omega) (show k - 1 < ns.length by omega)
        simp only [Option.some.injEq, Addr.mk.injEq] at e'
        obtain ⟨rfl, rfl, _⟩ := e'
        exact ⟨by omega, hat3 0 (by omega)⟩
      by_cases x0 : 0 ≤ ns[k].pt
      · by_cases x1 : ns[k].pt < L.pts.length
        · obtain ⟨hsl, hse⟩ := secOf_at x0 x1
          obtain ⟨b2, off2, rfl, -, -, hat2⟩ := (H2.out.ch0 hch).at (f := fPnt) (C := 2) (fun _ => rfl) (by omega) hsl
          have z1 : wr.cell? ⟨b2, off2 + ns[k].pt.toNat * 2 + 1, none⟩ = some (.int .i64 L.pts[ns[k].pt.toNat].sec) := hat2 1 (by omega)
          clear hat2
          rw [← hse] at z1
          clear hse hsl
          have HIn := Lib.hid (fun w1 (c : Ch Noone wr w1) => in_any B w1 vp p (secOf L ns[k].pt) (HP.out.ch0 (hch.trans c)) (by omega))
          have HX0 := Lib.hid x0
          have HX1 := Lib.hid x1
          obtain ⟨y, hy⟩ : ∃ y, y = ns[k].pt := ⟨_, rfl⟩
          have HY := Lib.hid hy
          rw [← hy] at y0 x0 x1 z1
          rw [← hy] at HIn
          clear hy
          cases hh : (hasB p (secOf L y) == t) with
          | true =>
            have hht : hasB p (secOf L y) = t := by simpa using hh
            have HHt : Hid (hasB p (secOf L ns[k].pt) = t) := by rw [← HY.out]; exact hht
            rw [hht] at HIn
            clear hht
            clear hh
            by_cases hk0 : k = 0
            · have hk0' : (k : Int) ≤ 0 := by omega
              have HK0 := Lib.hid hk0; clear hk0
              clear HPr
              generalize secOf L y = sec at *
              go_wp2_with fail
              refine (HIn.out _ (Ch.refl _ _)).mono ?_
              rintro e w1 ⟨rfl, rfl⟩
              go_wp2_with fail
              go_roundw
              case rel => exact ⟨k + 1, by omega, by go_num, hch, hb, HS.out HX0.out HX1.out HHt.out (fun h => absurd HK0.out h)⟩
              case measure => simp [intOf]; omega
            · obtain ⟨hq, p0⟩ := HPr.out hk0
              have hk0' : (0 : Int) < k := by omega
              have hk2 : (0 : Int) ≤ k - 1 := by omega
              have hk3 : (k : Int) - 1 < ns.length := by omega
              have hk4 : ((k : Int) - 1).toNat = k - 1 := by omega
              have hk5 : IntKind.i64.wrap ((k : Int) - 1) = k - 1 := IntWalk.i64_in _ (by omega)
              by_cases hlt : y ≤ (ns[k - 1]'hq).pt
              · generalize secOf L y = sec at *
                clear hk0 HPr
                generalize (ns[k - 1]'hq).pt = q at *
                go_wp2_with fail
                go_ret
                first | exact ⟨_, rfl, fun h => (by cases h), hch⟩ | exact .inl ⟨rfl, hch⟩
              · have HLt : Hid (∀ h0 : k ≠ 0, (ns[k - 1]'(by omega)).pt < ns[k].pt) := fun _ => by rw [← HY.out]; omega
                have hlt' : (ns[k - 1]'hq).pt < y := by omega
                clear hk0 HPr hlt
                generalize secOf L y = sec at *
                generalize (ns[k - 1]'hq).pt = q at *
                go_wp2_with fail
                refine (HIn.out _ (Ch.refl _ _)).mono ?_
                rintro e w1 ⟨rfl, rfl⟩
                go_wp2_with fail
                go_roundw
                case rel => exact ⟨k + 1, by omega, by go_num, hch, hb, HS.out HX0.out HX1.out HHt.out HLt.out⟩
                case measure => simp [intOf]; omega
          | false =>
            have HHf : (hasB p (secOf L y) != t) = true := by simp [bne, hh]
            by_cases hk0 : k = 0
            · have hk0' : (k : Int) ≤ 0 := by omega
              have HK0 := Lib.hid hk0; clear hk0
              clear HPr hh
              generalize hasB p (secOf L y) = hsb at *
              generalize secOf L y = sec at *
              cases hsb <;> cases t <;> first | exact absurd HHf (by decide) | skip
              all_goals
                clear HHf
                go_wp2_with fail
                refine (HIn.out _ (Ch.refl _ _)).mono ?_
                rintro e w1 ⟨rfl, rfl⟩
                go_wp2_with fail
                go_ret
                first | exact ⟨_, rfl, fun h => (by cases h), hch⟩ | exact .inl ⟨rfl, hch⟩
            · obtain ⟨hq, p0⟩ := HPr.out hk0
              have hk0' : (0 : Int) < k := by omega
              have hk2 : (0 : Int) ≤ k - 1 := by omega
              have hk3 : (k : Int) - 1 < ns.length := by omega
              have hk4 : ((k : Int) - 1).toNat = k - 1 := by omega
              have hk5 : IntKind.i64.wrap ((k : Int) - 1) = k - 1 := IntWalk.i64_in _ (by omega)
              clear hh
              generalize hasB p (secOf L y) = hsb at *
              generalize secOf L y = sec at *
              by_cases hlt : y ≤ (ns[k - 1]'hq).pt
              · clear hk0 HPr
                generalize (ns[k - 1]'hq).pt = q at *
                go_wp2_with fail
                go_ret
                first | exact ⟨_, rfl, fun h => (by cases h), hch⟩ | exact .inl ⟨rfl, hch⟩
              · have hlt' : (ns[k - 1]'hq).pt < y := by omega
                clear hk0 HPr hlt
                generalize (ns[k - 1]'hq).pt = q at *
                cases hsb <;> cases t <;> first | exact absurd HHf (by decide) | skip
                all_goals
                  clear HHf
                  go_wp2_with fail
                  refine (HIn.out _ (Ch.refl _ _)).mono ?_
                  rintro e w1 ⟨rfl, rfl⟩
                  go_wp2_with fail
                  go_ret
                  first | exact ⟨_, rfl, fun h => (by cases h), hch⟩ | exact .inl ⟨rfl, hch⟩
        · have x1' : (L.pts.length : Int) ≤ ns[k].pt := by omega
          clear HPr x1
          generalize ns[k].pt = y at *
          go_wp2_with fail
          go_ret
          first | exact ⟨_, rfl, fun h => (by cases h), hch⟩ | exact .inl ⟨rfl, hch⟩
      · have x0' : ns[k].pt < 0 := by omega
        clear HPr x0
        generalize ns[k].pt = y at *
        go_wp2_with fail
        go_ret
        first | exact ⟨_, rfl, fun h => (by cases h), hch⟩ | exact .inl ⟨rfl, hch⟩
    · have HOk := Lib.hid (HTo.out.all (by omega))
      go_wp2_with fail
      go_ret
      first | exact ⟨_, rfl, fun _ => HOk.out, hch⟩ | exact .inr ⟨HOk.out, hch⟩
end Go.Proofs.YtkplgggdidhnoaaGreatDoor

namespace Go.Proofs.YtkplgggdidhnoaaGreatDoor
open Go.ChangeShapes Go.WideShapes Go.ChangeAt Go.RowKit
set_option linter.unusedVariables false

set_option maxHeartbeats 8000000 in
set_option maxRecDepth 100000 in
theorem route_no (B : Nat → Prop) (w : World) (v : Value) (L : Lay) (x : Route × Value × Value × Value) (hL : LayAt B w v L) (hx : SlR B w x) (hs : L.secs.length ≤ 10) (hs2 : L.pts.length ≤ 5) (hs3 : L.sigs.length ≤ 6)
    (no : ¬ (0 ≤ x.1.frm ∧ x.1.frm < L.sigs.length ∧ 0 ≤ x.1.to ∧ x.1.to < L.sigs.length ∧ x.1.frm ≠ x.1.to ∧ 1 ≤ x.1.path.length ∧ x.1.path.length ≤ 5)) :
    Calls Tryz.prog 41 #[v, .agg #[.string x.1.name, .int .i64 x.1.frm, .int .i64 x.1.to, x.2.1, x.2.2.1, x.2.2.2]] w fun r w' => r = .returned (.bool false) ∧ Ch Noone w w' := by
  have HX := Lib.hid hx; clear hx
  have NO := Lib.hid no; clear no
  have HL := Lib.hid hL
  obtain ⟨v1, v2, v3, v4, rs, rfl, h1, h2, h3, h4, h5, h6⟩ := hL
  have H2 := Lib.hid h2
  clear h4 h6
  obtain ⟨a1, c1, rfl, -, -, -, -⟩ := h1
  obtain ⟨a2, c2, rfl, -, -, -, -⟩ := h2
  obtain ⟨a3, c3, rfl, -, -, -, -⟩ := h3
  obtain ⟨a4, c4, rfl, -, -, -, -⟩ := h5
  obtain ⟨rt, vp, vn, vf⟩ := x
  dsimp only at *
  have HV : Hid ((∃ a c, vp = .slice a rt.path.length c ∧ rt.path.length ≤ c ∧ c ≤ 9223372036854775807) ∧ (∃ a c, vn = .slice a rt.pts.length c)) := by
    obtain ⟨⟨a, c, e, e1, e2, _⟩, ⟨a', c', e', _⟩, _⟩ := HX.out
    exact ⟨⟨a, c, e, e1, e2⟩, ⟨a', c', e'⟩⟩
  obtain ⟨⟨ap, cp, rfl, cp1, cp2⟩, ⟨an, cn, rfl⟩⟩ := HV.out
  have HCp := Lib.hid cp2; clear cp2
  clear HV
  have B0 : Blk ((w.alloc (.cells #[.slice a1 L.secs.length c1, .slice a2 L.pts.length c2, .slice a3 L.sigs.length c3, .slice a4 rs.length c4] 26)).alloc (.cells #[.string rt.name, .int .i64 rt.frm, .int .i64 rt.to, .slice ap rt.path.length cp, .slice an rt.pts.length cn, vf] 54)) w.heap.size 26 #[.slice a1 L.secs.length c1, .slice a2 L.pts.length c2, .slice a3 L.sigs.length c3, .slice a4 rs.length c4] := (Blk.new _ _ _).alloc _
  have R0 : Blk ((w.alloc (.cells #[.slice a1 L.secs.length c1, .slice a2 L.pts.length c2, .slice a3 L.sigs.length c3, .slice a4 rs.length c4] 26)).alloc (.cells #[.string rt.name, .int .i64 rt.frm, .int .i64 rt.to, .slice ap rt.path.length cp, .slice an rt.pts.length cn, vf] 54)) (w.heap.size + 1) 54 #[.string rt.name, .int .i64 rt.frm, .int .i64 rt.to, .slice ap rt.path.length cp, .slice an rt.pts.length cn, vf] := by
    have := Blk.new (w.alloc (.cells #[.slice a1 L.secs.length c1, .slice a2 L.pts.length c2, .slice a3 L.sigs.length c3, .slice a4 rs.length c4] 26)) 54 #[.string rt.name, .int .i64 rt.frm, .int .i64 rt.to, .slice ap rt.path.length cp, .slice an rt.pts.length cn, vf]
    simpa using this
  have C0 : Ch Noone w ((w.alloc (.cells #[.slice a1 L.secs.length c1, .slice a2 L.pts.length c2, .slice a3 L.sigs.length c3, .slice a4 rs.length c4] 26)).alloc (.cells #[.string rt.name, .int .i64 rt.frm, .int .i64 rt.to, .slice ap rt.path.length cp, .slice an rt.pts.length cn, vf] 54)) := ((Ch.refl _ _).alloc _).alloc _
  by_cases f0 : 0 ≤ rt.frm
  case neg =>
    have f0' : rt.frm < 0 := by omega
    clear f0
    go_enter Tryz.func41, Tryz.ntmps41
    go_wp2_with fail
    go_ret
    exact ⟨rfl, C0⟩
  by_cases f1 : rt.frm < L.sigs.length
  case neg =>
    have f1' : (L.sigs.length : Int) ≤ rt.frm := by omega
    clear f1
    go_enter Tryz.func41, Tryz.ntmps41
    go_wp2_with fail
    go_ret
    exact ⟨rfl, C0⟩
  by_cases t0 : 0 ≤ rt.to
  case neg =>
    have t0' : rt.to < 0 := by omega
    clear t0
    go_enter Tryz.func41, Tryz.ntmps41
    go_wp2_with fail
    go_ret
    exact ⟨rfl, C0⟩
  by_cases t1 : rt.to < L.sigs.length
  case neg =>
    have t1' : (L.sigs.length : Int) ≤ rt.to := by omega
    clear t1
    go_enter Tryz.func41, Tryz.ntmps41
    go_wp2_with fail
    go_ret
    exact ⟨rfl, C0⟩
  by_cases ne : rt.frm = rt.to
  case pos =>
    have ne' : (rt.frm == rt.to) = true := by simpa using ne
    clear ne
    go_enter Tryz.func41, Tryz.ntmps41
    go_wp2_with fail
    go_ret
    exact ⟨rfl, C0⟩
  have ne' : (rt.frm == rt.to) = false := by simpa using ne
  have HNe_ := Lib.hid ne; clear ne
  by_cases l0 : 1 ≤ rt.path.length
  case neg =>
    have l0' : (rt.path.length : Int) < 1 := by omega
    clear l0
    go_enter Tryz.func41, Tryz.ntmps41
    go_wp2_with fail
    go_ret
    exact ⟨rfl, C0⟩
  by_cases l1 : rt.path.length ≤ 5
  case neg =>
    have l1' : (5 : Int) < (rt.path.length : Int) := by omega
    clear l1
    go_enter Tryz.func41, Tryz.ntmps41
    go_wp2_with fail
    go_ret
    exact ⟨rfl, C0⟩
  exact absurd ⟨f0, f1, t0, t1, HNe_.out, l0, l1⟩ NO.out
end Go.Proofs.YtkplgggdidhnoaaGreatDoor
