/-
  The law TopOne: what it answers is true. Conditions: no list, no name is longer than 281474976710656; the tables of unicode/utf8 are laid. TopOne holds for every input, and its card. Conditions: what the card's row itself says (the tables of unicode/utf8 as the program's text lays them).
-/
import Derived.Test.YtkplgggdidhnoaaGreatDoorM21
import Derived.Test.YtkplgggdidhnoaaGreatDoorM12
import Derived.Test.YtkplgggdidhnoaaGreatDoorM17
import Derived.Test.YtkplgggdidhnoaaGreatDoorM22
namespace Go.Proofs.YtkplgggdidhnoaaGreatDoor
open Go.ChangeShapes Go.WideShapes Go.ChangeAt Go.RowKit
set_option linter.unusedVariables false

set_option maxRecDepth 100000 in
set_option maxHeartbeats 8000000 in
theorem topOne_yes (B : Nat → Prop) (w : World) (v v' : Value) (L : Lay) (evs : List (List Ev × Value)) (hL : LayAt B w v L) (sm : L.Small 281474976710656) (hT : Tabs w) (he : EvsAt B w v' evs) :
    Calls Tryz.prog 3 #[v, v'] w fun x w' => x = .returned (.bool true) ∧ Ch Noone w w' := by
  have HL := Lib.hid hL
  have HE := Lib.hid he
  have HT := Lib.hid hT
  have SM := Lib.hid sm
  obtain ⟨q1, q2, q3, q4, rs, rfl, -, -, -, -, -, -⟩ := hL
  obtain ⟨ae, ce, rfl, -, hce, -, -⟩ := id he.1
  clear he hT sm
  obtain ⟨w0, hw0⟩ : ∃ w0, w0 = w.alloc (.cells #[q1, q2, q3, q4] 26) := ⟨_, rfl⟩
  have b0 : Blk w0 w.heap.size 26 #[q1, q2, q3, q4] := by rw [hw0]; exact Blk.new _ _ _
  have C0 : Ch Noone w w0 := by rw [hw0]; exact (Ch.refl _ _).alloc _
  have HW0 := Lib.hid hw0
  clear hw0
  go_enter Tryz.func3, Tryz.ntmps3
  go_wp2_with fail
  rw [← HW0.out]
  refine (fine_ref B _ _ _ L evs (HL.out.ch0 C0) SM.out (HT.out.ch0 C0) ⟨HE.out.1.ch0 C0, fun x hx => (HE.out.2 x hx).ch0 C0⟩).mono ?_
  rintro x w1 ⟨bf, rfl, hok, c1⟩
  have C1 := C0.trans c1
  have b1 := c1.blk b0 (fun h => h)
  clear b0 C0 c1
  cases bf
  · clear hok
    go_wp2_with fail
    go_ret
    exact ⟨rfl, C1⟩
  · have OK := Lib.hid (hok (by trivial))
    clear hok
    obtain ⟨l0, l1, l2, l3⟩ := Blk.cells4 b1
    go_wp2_with fail
    clear l0 l1 l2 l3
    refine (pair_new B w1 _ L (HL.out.ch0 C1) OK.out (HT.out.ch0 C1)).mono ?_
    rintro x w2 ⟨m, p, a0, a1, r, k, f, s, rfl, hp, hm, c2⟩
    have C2 := C1.trans c2
    have HP2 := Lib.hid hp
    have HM2 : Hid (∀ g, g < w.heap.size + 1 → m g = 9) := fun g hg => hm g (by have := b1.lt; omega)
    have HB2 := Lib.hid (c2.blk b1 (fun h => h))
    have C2h := Lib.hid C2
    have HV2 : Hid (Sl (fun g => m g = 9 ∧ g < w.heap.size) w2 (.slice ae evs.length ce) evs.length (evs.flatMap fEvs)) :=
      ((HE.out.1.mono (B' := fun g => g < w.heap.size) fun g _ hl => hl).ch0 C2).mono fun g hg _ => ⟨HM2.out g (by omega), hg⟩
    have HX2 : Hid (∀ x ∈ evs, Sl (fun g => m g = 9 ∧ g < w.heap.size) w2 x.2 x.1.length (x.1.flatMap fEv)) := fun x hx =>
      (((HE.out.2 x hx).mono (B' := fun g => g < w.heap.size) fun g _ hl => hl).ch0 C2).mono fun g hg _ => ⟨HM2.out g (by omega), hg⟩
    have HLow : Hid (∀ g, g < w.heap.size → m g ≤ 6 → False) := fun g hg h => by rw [HM2.out g (by omega)] at h; omega
    clear hp hm c2 b1 C1 C2
    go_wp2_with fail
    go_loopw [7, 8, 9] (fun la gp i wr => ∃ (j : Nat) (last gap : Int) (mq : Nat → Nat) (ps : PS), j ≤ evs.length ∧ j ≤ 90 ∧ i = .int .i64 j ∧ la = .int .i64 last ∧ gp = .int .i64 gap ∧ -1 ≤ last ∧ last ≤ 1 ∧ 0 ≤ gap ∧ gap ≤ j ∧
      Hid (Agree w2 m mq) ∧ Hid (PairP mq wr p a0 a1 r k f s L ps) ∧ Hid (Ch (Mine m) w2 wr) ∧ Hid (ps.Inv j ∧ Gap ((j : Int) - gap) last ps.re)) (fun _ _ i _ => (evs.length - intOf i).toNat)
    case atStart => exact ⟨0, -1, 0, m, PS.new L, by omega, by omega, rfl, rfl, rfl, by omega, by omega, by omega, by omega, Agree.refl _ _, HP2.out, Ch.refl _ _, PS.J.new L, gap_new L⟩
    case round =>
      obtain ⟨j, last, gap, mq, ps, hj, hj90, rfl, rfl, rfl, hl0, hl1, hg0, hg1, HA, HP, HCh, HI⟩ := hrel
      have CW : Hid (Ch Noone w wr) := C2h.out.then HCh.out fun g hg h => HLow.out g hg h
      by_cases hjl : j < evs.length ∧ j < 90
      · obtain ⟨hjl, hjm⟩ := hjl
        obtain ⟨b, off, rfl, -, hbw, hat⟩ := ((HV2.out.mono (B' := fun g => m g = 9) fun g hg _ => hg.1).keep HCh.out HA.out).at (f := fEvs) (C := 1) (fun _ => rfl) (by omega) hjl
        have y0 : wr.cell? ⟨b, off + j, none⟩ = some evs[j].2 := by have := hat 0 (by omega); rw [Nat.mul_one] at this; exact this
        have hxs := ((HX2.out evs[j] (List.getElem_mem hjl)).mono (B' := fun g => m g = 9) fun g hg _ => hg.1).keep HCh.out HA.out
        clear hat
        generalize evs[j] = y at *
        obtain ⟨es, vy⟩ := y
        dsimp only at *
        have HCy := Lib.hid (cycle_inv vy es hxs HP.out OK.out HI.out.1 (by omega) (by omega))
        obtain ⟨ay, cy, rfl, -, -, -, -⟩ := hxs
        have hj0 : (0 : Int) ≤ j := by omega
        have hj1 : (j : Int) < evs.length := by omega
        have hj9 : (j : Int) < 90 := by omega
        go_wp2_with fail
        refine HCy.out.mono ?_
        rintro x w6 ⟨v1, v2, m6, ps6, d, q, rfl, ho6, a6, hp6, c6, hrun, hinv, hdl, hql, hdr⟩
        obtain ⟨z1, z2, e, hd, hpq⟩ := ho6
        cases e
        have HD6 := Lib.hid hd.sl
        have HQ6 := Lib.hid (hpq.sl.mono (B' := fun g => m6 g = 9) fun g hg _ => hg.1)
        obtain ⟨e1, f1, rfl, -, -, -, -⟩ := hd.sl
        obtain ⟨e2, f2, rfl, -, -, -, -⟩ := hpq.sl
        have HP6 := Lib.hid hp6
        have HRun := Lib.hid hrun
        have HInv := Lib.hid hinv
        have hch6 : Ch (Mine m) w2 w6 := HCh.out.next HA.out c6
        have HA6 := Lib.hid (HA.out.trans a6 HCh.out.size)
        have C6 : Hid (Ch Noone w w6) := C2h.out.then hch6 fun g hg h => HLow.out g hg h
        have HG6 := Lib.hid (gap_run HI.out.1 hj0 (by omega) HI.out.2 (by omega) hrun)
        have hjn : ps6.re.now = (j : Int) + 1 := (show ps6.J _ _ _ from hinv).rn
        have HGN := Lib.hid (gap_next (show ps6.J _ _ _ from hinv).ro hjn HG6.out hl0)
        have hbx := HB2.out.keep (HM2.out _ (by omega)) hch6 HA6.out
        have HBx := Lib.hid hbx.1
        obtain ⟨w7, hw7⟩ : ∃ w7, w7 = w6.alloc (.cells #[.slice e1 d.length f1, .slice e2 q.length f2] 36) := ⟨_, rfl⟩
        have c7 : Ch Noone w6 w7 := by rw [hw7]; exact (Ch.refl _ _).alloc _
        have ho7 : Blk w7 w6.heap.size 36 #[.slice e1 d.length f1, .slice e2 q.length f2] := by rw [hw7]; exact Blk.new _ _ _
        have C7 : Hid (Ch Noone w w7) := C6.out.trans c7
        have HW7 := Lib.hid hw7
        have p5 := OK.out.p1
        have g6 := OK.out.g1
        have HWh := Lib.hid (whole_yes B _ w7 _ L (.slice e1 d.length f1) (.slice e2 q.length f2) d q (HL.out.ch0 C7.out) (HD6.out.ch0 c7) (HQ6.out.ch0 c7) (by omega) (by omega) hdr hdl hql)
        have hd20 : d.length ≤ 100 := by omega
        have hq20 : q.length ≤ 100 := by omega
        have HQu : Hid (∀ w9, Ch Noone w7 w9 → ps6.re.con = -1 → _) := fun w9 (c9 : Ch Noone w7 w9) hc => quiet_yes _ w9 (.slice e1 d.length f1) (.slice e2 q.length f2) d q ((HD6.out.ch0 c7).ch0 c9) ((HQ6.out.ch0 c7).ch0 c9) hd20 hq20 (run_quiet hrun hc).1 (run_quiet hrun hc).2
        have HCo := Lib.hid (pair_con (hp6.pure c7))
        have b7 := c7.blk HBx.out (fun h => h)
        obtain ⟨l0, l1, l2, l3⟩ := Blk.cells4 b7
        have o0 := ho7.cell 0
        have o1 := ho7.cell 1
        have HC7 := Lib.hid c7
        have HO7 := Lib.hid ho7
        have hch7 : Hid (Ch (Mine m) w2 w7) := hch6.then c7 fun _ _ h => h.elim
        have HP7 := Lib.hid (hp6.pure c7)
        have HA7 := Lib.hid (HA6.out.trans (Agree.lab w6 m6 9) hch6.size)
        generalize lab m6 w6.heap.size 9 = m7 at *
        clear hw7 ho7 c7 hd hpq hp6 c6 a6 hrun hinv hjn hbx b7 hdr hdl hql hd20 hq20 hch6 p5 g6
        go_wp2_with fail
        rw [← HW7.out]
        refine HCo.out.mono ?_
        rintro x w8 ⟨rfl, rfl⟩
        have HFin : Hid (∀ (t t' la : Int), t = t' → Gap t la ps6.re → PS.Inv ((j + 1 : Nat) : Int) ps6 ∧ Gap t' la ps6.re) := fun t t' la e3 h => by
          subst e3
          have e : ((j + 1 : Nat) : Int) = (j : Int) + 1 := by omega
          rw [e]
          exact ⟨HInv.out, h⟩
        have hcr := HGN.out
        obtain ⟨hcr0, hcr1, hcr2, hcr3⟩ := hcr
        have HG2 := Lib.hid hcr2
        have HG3 := Lib.hid hcr3
        clear hcr2 hcr3 HGN
        have HCon : Hid (∀ c, ps6.re.con = c → (0 ≤ c → (0 ≤ last → c ≠ last → 2 ≤ gap) ∧ Gap ((j : Int) + 1) c ps6.re)) := fun c hc h0 => by
          subst hc
          obtain ⟨z1, z2⟩ := HG2.out h0
          exact ⟨fun a b => by have := z1 a b; omega, z2⟩
        have hcc : ps6.re.con = -1 ∨ ∃ c, ps6.re.con = c ∧ 0 ≤ c ∧ c ≤ 1 := by
          rcases Int.lt_or_le ps6.re.con 0 with h | h
          · exact .inl (HG3.out h)
          · exact .inr ⟨_, rfl, h, hcr1⟩
        clear hcr0 hcr1
        rcases hcc with hcn | ⟨c, hcn, hc0, hc1⟩
        · have HCn := Lib.hid hcn
          rw [hcn]
          clear hcn
          go_wp2_with fail
          refine HWh.out.mono ?_
          rintro x w9 ⟨rfl, c9⟩
          have ho9 := c9.blk HO7.out (fun h => h)
          have t0 := ho9.cell 0
          have t1 := ho9.cell 1
          have HC9 := Lib.hid c9
          clear ho9 c9
          go_wp2_with fail
          refine (HQu.out w9 HC9.out HCn.out).mono ?_
          rintro x w10 ⟨rfl, c10⟩
          have HC10 := Lib.hid (HC9.out.trans c10)
          clear t0 t1 c10
          go_wp2_with fail
          go_roundw
          case rel => exact ⟨j + 1, last, gap + 1, _, ps6, by omega, by omega, by go_num, rfl, by go_num, by omega, by omega, by omega, by omega, HA7.out.trans (Agree.lab w8 m7 9) hch7.out.size, HP7.out.pure HC10.out, hch7.out.then HC10.out (fun _ _ h => h.elim), HFin.out _ _ _ (by omega) HG6.out⟩
          case measure => simp [intOf]; omega
        · have HCn := Lib.hid hcn
          rw [hcn]
          have hq : (last < 0) ∨ (0 ≤ last ∧ c = last) ∨ (0 ≤ last ∧ (c != last) = true ∧ 2 ≤ gap) := by
            rcases Int.lt_or_le last 0 with h | h
            · exact .inl h
            · by_cases he : c = last
              · exact .inr (.inl ⟨h, he⟩)
              · exact .inr (.inr ⟨h, by simpa using he, (HCon.out c hcn hc0).1 h he⟩)
          clear hcn
          rcases hq with hq | ⟨hq, rfl⟩ | ⟨hq, hq2, hq3⟩
          all_goals
            go_wp2_with fail
            refine HWh.out.mono ?_
            rintro x w9 ⟨rfl, c9⟩
            have HC9 := Lib.hid c9
            clear c9
            go_wp2_with fail
            go_roundw
            case rel => exact ⟨j + 1, c, 0, _, ps6, by omega, by omega, by go_num, rfl, rfl, by omega, by omega, by omega, by omega, HA7.out.trans (Agree.lab w8 m7 9) hch7.out.size, HP7.out.pure HC9.out, hch7.out.then HC9.out (fun _ _ h => h.elim), HFin.out _ _ _ (by omega) (HCon.out c HCn.out hc0).2⟩
            case measure => simp [intOf]; omega
      · have hjx : evs.length ≤ j ∨ (j < evs.length ∧ j = 90) := by omega
        have HT5 := HT.out.ch0 CW.out
        clear hjl
        rcases hjx with hjx | ⟨hjx, rfl⟩
        · have hjx' : (evs.length : Int) ≤ j := by omega
          go_wp2_with fail
          refine (known_yes _ HT5).mono ?_
          rintro x w7 ⟨rfl, c7⟩
          go_wp2_with fail
          go_ret
          exact ⟨rfl, CW.out.trans c7⟩
        · have hjx' : (90 : Int) < evs.length := by omega
          go_wp2_with fail
          refine (known_yes _ HT5).mono ?_
          rintro x w7 ⟨rfl, c7⟩
          go_wp2_with fail
          go_ret
          exact ⟨rfl, CW.out.trans c7⟩
end Go.Proofs.YtkplgggdidhnoaaGreatDoor

namespace Go.Proofs.YtkplgggdidhnoaaGreatDoor.topOne
open Go.ChangeShapes Go.WideShapes Go.ChangeAt Go.RowKit
set_option linter.unusedVariables false

theorem reads (os : Os) {H : Type} (enc : TypeId × Value → H) : ∃ places, DataW.whole enc Tryz.prog ((laid.laidWorld os).forCall (fun _ _ => 0) ⟨#[], #[.agg #[.slice none 0 0, .slice none 0 0, .slice none 0 0, .slice none 0 0], .slice none 0 0], []⟩).memory Tryz.f3.params.toList Rows.topOneSpec.vars false #[Value.agg #[.slice none 0 0, .slice none 0 0, .slice none 0 0, .slice none 0 0], .slice none 0 0].toList 8 = some ([.agg [.nil, .nil, .nil, .nil], .nil], [], places) :=
  ⟨[], by kernel_rfl⟩

set_option maxRecDepth 100000 in
theorem contract (V : List TypeId) (H : Type) (enc : TypeId × Value → H) (W : World) (base : Nat) (args : Array Value) (ds gs : List (DataW H)) (before : List MemPlace)
    (hval0 : ∀ (j : Nat) t v, Tryz.f3.params[j]? = some t → args[j]? = some v → Value.okWide Tryz.prog W .any base t v)
    (hW : DataW.Whole enc Tryz.prog Tryz.f3.params.toList Rows.topOneSpec.vars false W args.toList ds gs before) (hL : laidMet Tryz.prog laid.lst W) (hz : (DataW.weightsEach Tryz.prog (Tryz.f3.params.toList ++ V) (ds ++ gs)).all (· ≤ reachBytes) = true) :
    Calls Tryz.prog 3 args W fun e W' => ∃ v, e = .returned v ∧ Rows.topOneSpec.post enc Tryz.prog Tryz.f3 false true false false W args v W' := by
  have hval : ∀ (j : Nat) t v, Tryz.f3.params[j]? = some t → args[j]? = some v → Value.okWide Tryz.prog W .any base t v := hval0
  have hW' := hW
  obtain ⟨p, q, hA0, hV, rfl, hfz, hnd⟩ := hW
  have hA : DataW.TrodAll enc Tryz.prog W 0 (fun _ => true) true Tryz.f3.params.toList args.toList ds p := hA0
  rw [Tryz.params3] at hA hval hz
  obtain ⟨v0, vs0, d0, ds0, p0, q0, hargs, rfl, rfl, h0, r0⟩ := trodAll_cons hA
  obtain ⟨v1, vs1, d1, ds1, p1, q1, rfl, rfl, rfl, h1, r1⟩ := trodAll_cons r0
  obtain ⟨rfl, rfl, rfl⟩ := trodAll_nil r1
  obtain rfl : args = #[v0, v1] := by cases args; simp_all
  obtain ⟨rfl, rfl⟩ := trodVars_none hV
  have k0 := h0
  have k1 := h1
  have lt0 : ∀ x ∈ p0, x.block < W.heap.size := by obtain ⟨m, hm⟩ := k0; exact DataW.trod_lt m _ _ _ hm
  have lt1 : ∀ x ∈ p1, x.block < W.heap.size := by obtain ⟨m, hm⟩ := k1; exact DataW.trod_lt m _ _ _ hm
  obtain ⟨cs0, rfl, hcs⟩ := okWide_struct Tryz.underlying26 (hval 0 26 v0 rfl rfl)
  obtain ⟨ao, len, cap, rfl⟩ := okWide_slice Tryz.underlying27 (hval 1 27 v1 rfl rfl)
  obtain ⟨f0, hf0⟩ := h0
  obtain ⟨f1, hf1⟩ := h1
  obtain ⟨L, hlay, hsm⟩ := open_layw f0 _ _ hf0 fun n hn => by
    have h := List.all_eq_true.1 hz n (DataW.weights_mem_each (j := 0) (t := 26) rfl rfl n hn)
    have h2 : n ≤ reachBytes := by simpa using h
    exact Nat.le_trans h2 (by decide)
  obtain ⟨u, es, hu, hev⟩ := open_evs f1 _ _ hf1
  have hu' : Value.slice ao len cap = u := by simpa [Value.cells] using hu
  subst hu'
  have hlay' : LayAt (fun g => g < W.heap.size) W (.agg cs0) L := by simpa [Value.cells] using hlay
  clear hA0 hval0 hlay hu hcs hz
  refine (topOne_yes _ W _ _ L es hlay' hsm (laid.tabs hL) hev).mono fun e W' ⟨he, hc⟩ => ?_
  subst he
  have bel : Below W.heap.size W W' := hc.below (Nat.le_refl _) (fun _ _ h => h)
  exact ⟨_, rfl, _, _, _, [], _, [], hW', trodAll_mk1 (shut_bool Tryz.underlying4 _), (trodAll_cons_mk (Below.trod laid.laidOut (by kernel_rfl) (of_decide_eq_true (by kernel_rfl)) k0 bel lt0) (trodAll_cons_mk (Below.trod laid.laidOut (by kernel_rfl) (of_decide_eq_true (by kernel_rfl)) k1 bel lt1) trodAll_mk0)), rfl, bel.frame _, fun h => by cases h⟩

set_option maxRecDepth 100000 in
theorem lifted (os : Os) (started : os.Started) (H : Type) (enc : TypeId × Value → H) (F : Stop.Interp) :
    ReturnsInHanded {} Tryz.checked os 3 .any ((OpenSpec.ofChange Rows.topOneSpec).preRow enc Tryz.prog Tryz.f3 Rows.topOneRow.domain false Rows.topOneRow.laid) (((OpenSpec.ofChange Rows.topOneSpec).at F).post enc Tryz.prog Tryz.f3 false true false false) := by
  obtain ⟨places, hx⟩ := reads os enc
  refine returnsInHanded_of_row (C := Tryz.checked) (s := OpenSpec.ofChange Rows.topOneSpec) laid.own started (by kernel_rfl) Tryz.func3
    (witness_row_atRef (enc := enc) (C := Tryz.checked) false (laid.laidWorld os) #[.agg #[.slice none 0 0, .slice none 0 0, .slice none 0 0, .slice none 0 0], .slice none 0 0] rfl (by kernel_rfl) (by kernel_rfl) (by kernel_rfl)
      (OpenSpec.preRow_of_cond 8 hx (by kernel_rfl) (fun k hk => by cases hk) (by kernel_rfl) (laid.laid_met os _))) ?_
  intro W base args ds gs before hval hW _ _ hz hL _ _
  exact contract _ H enc W base args ds gs before hval hW hL hz

theorem said : Rows.TopOneSaid :=
  OpenClaim.holds_of_cond 3 Tryz.f3 rfl rfl rfl rfl rfl rfl rfl ⟨rfl, rfl, rfl, rfl, rfl⟩ rfl rfl rfl rfl rfl (by kernel_rfl) Tryz.func3 (by kernel_rfl)
    (of_decide_eq_true (by kernel_rfl)) (by unfold Func.isWrapper; first | (rw [if_pos (by decide +kernel)]; kernel_rfl) | (rw [if_neg (by decide +kernel)]; exact ⟨rfl, rfl⟩))
    (fun os started H enc _ F => by rw [OpenClaim.pre_eq_preRow]; exact lifted os started H enc F)

/-- No parameter wants a stand-in; the program's own looks are off: what the card asks. -/
theorem plain (f : FuncId) (fn : Func) (hf : Tryz.pinned.checked.prog.funcNamed "pointsman/pointsmantop.TopOne" = some f) (hfn : Tryz.pinned.checked.prog.funcs[f]? = some fn) :
    true = Tryz.pinned.checked.prog.looks [] ∧ ∀ (j : Nat) t, fn.params[j]? = some t → Tryz.pinned.checked.prog.wantsStandIn t = false := by
  obtain rfl : f = 3 := Option.some.inj ((show Tryz.prog.funcNamed "pointsman/pointsmantop.TopOne" = some 3 by kernel_rfl).symm.trans hf) |>.symm
  obtain rfl : fn = Tryz.f3 := (Option.some.inj (Tryz.func3.symm.trans hfn)).symm
  refine ⟨by kernel_rfl, fun j t ht => ?_⟩
  rw [Tryz.params3] at ht
  have h := Array.mem_of_getElem? ht
  simp only [List.mem_toArray, List.mem_cons, List.not_mem_nil, or_false] at h
  rcases h with rfl | rfl
  · exact (show Tryz.prog.wantsStandIn 26 = false by kernel_rfl)
  · exact (show Tryz.prog.wantsStandIn 27 = false by kernel_rfl)

theorem proved : Rows.TopOneCardSaid :=
  Claim7.holds_tied_plain_at .later [] _ _ _ _ said (fun _ h => by cases h) (by kernel_rfl) (fun _ h => by cases h) topOne_row_tie rfl ⟨rfl, rfl⟩ (by kernel_rfl) rfl plain (by kernel_rfl)
#print axioms proved
end Go.Proofs.YtkplgggdidhnoaaGreatDoor.topOne
