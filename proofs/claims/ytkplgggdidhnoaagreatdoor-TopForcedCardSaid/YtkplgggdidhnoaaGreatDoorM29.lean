/-
  bytes.Equal; wire: add: that they return. Conditions: sizes. wire: Unpack: that it returns. Conditions: sizes. flat: number, Of, Lay: that they return. Conditions: sizes.
-/
import Derived.Test.YtkplgggdidhnoaaGreatDoorM28
import Derived.Shelf.Bytes.SlSmallAll
import Derived.Deep.AppendLies
namespace Go.Proofs.YtkplgggdidhnoaaGreatDoor
open Go.ChangeShapes Go.WideShapes Go.ChangeAt Go.RowKit
set_option linter.unusedVariables false

def numOf : Value → Int
  | .int _ k => k
  | _ => 0
theorem SlB.ints {B : Nat → Prop} {w : World} {a : Option Addr} {n c : Nat} {vs : List Value} (h : SlB B w (.slice a n c) n vs) : Lib.BytesIn w a n (vs.map numOf) := fun hn => by
  obtain ⟨⟨a', c', e, h1, h2, h3, h4⟩, hl, hb⟩ := h
  simp only [Value.slice.injEq] at e
  obtain ⟨rfl, -, rfl⟩ := e
  obtain ⟨b, off, e, hB, hlt, hc⟩ := h4 (by intro e; rw [e] at hl; simp at hl; omega)
  refine ⟨b, off, e, fun i hi => ?_⟩
  obtain ⟨x, hx, -, -⟩ := hb.get (i := i) (by omega)
  rw [hc i (by omega), hx]
  simp [List.getD_eq_getElem?_getD, hx, numOf]
/-- string(b): some text of as many bytes. -/
theorem SlB.conv {B : Nat → Prop} {w : World} {a : Option Addr} {n c : Nat} {vs : List Value} (h : SlB B w (.slice a n c) n vs) :
    ∃ s : ByteArray, s.size = n ∧ ∀ W, SlB B W (.slice a n c) n vs → (convert 81 9 (.slice a n c)).run Tryz.prog W = .ok (.string s) W := by
  have key : ∀ W, SlB B W (.slice a n c) n vs → (convert 81 9 (.slice a n c)).run Tryz.prog W = .ok (.string (strOfNums (vs.map numOf))) W := fun W cW => by
    have hi := cW.ints
    have hx : (vs.map numOf).length = n := by rw [List.length_map]; exact h.len
    rcases Nat.eq_zero_or_pos n with hn | hn
    · subst hn
      have e : vs.map numOf = [] := List.eq_nil_of_length_eq_zero hx
      rw [e]
      exact run_convert_bytes_zero W 81 5 Tryz.underlying81 Tryz.underlying5 a c 9 Tryz.underlying9
    · obtain ⟨b, o, rfl, hc⟩ := hi.at hn
      exact run_convert_bytes_arg (P := Tryz.prog) W 81 5 Tryz.underlying81 Tryz.underlying5 b o n c (vs.map numOf) hx hc 9 Tryz.underlying9
  refine ⟨_, ?_, key⟩
  rw [← h.len]
  simp [strOfNums, ByteArray.size]

set_option maxRecDepth 100000 in
theorem equal_any (B B' : Nat → Prop) (w : World) (u v : Value) (n m : Nat) (us vs : List Value) (hu : SlB B w u n us) (hv : SlB B' w v m vs) :
    Calls Tryz.prog 93 #[u, v] w fun e w' => ∃ t : Bool, e = .returned (.bool t) ∧ w' = w := by
  obtain ⟨a, c, rfl, -, -, -, -⟩ := id hu.sl
  obtain ⟨a', c', rfl, -, -, -, -⟩ := id hv.sl
  obtain ⟨s, -, hs⟩ := hu.conv
  obtain ⟨t, -, ht⟩ := hv.conv
  have c1 := hs w hu
  have c2 := ht w hv
  clear hu hv hs ht
  go_enter Tryz.func93, Tryz.ntmps93
  go_wp2_with fail
  go_ret
  exact ⟨_, rfl, rfl⟩

theorem SlB.drewN {B : Nat → Prop} {w : World} {v : Value} {n : Nat} {vs : List Value} (h : SlB B w v n vs) (q : Nat) : SlB B (w.drewN q) v n vs := h.ch0 ((Ch.refl _ _).drewN q)
theorem CrateAt.drewN {O : Nat → Prop} {w : World} {b : Nat} {xs : List Item} (h : CrateAt O w b xs) (q : Nat) : CrateAt O (w.drewN q) b xs := h.ch0 ((Ch.refl _ _).drewN q)

set_option maxRecDepth 100000 in
set_option maxHeartbeats 8000000 in
theorem add_any (O B : Nat → Prop) (w : World) (b : Nat) (xs : List Item) (v : Value) (n : Nat) (vs : List Value) (hc : CrateAt O w b xs) (hv : SlB B w v n vs) (hn : n ≤ 60000) (hB : ∀ g, B g → ¬ O g) :
    Calls Tryz.prog 91 #[.pointer (some ⟨b, 0, none⟩), v] w fun e w' => ∃ (v' : Value) (m : Nat) (us : List Value) (t : Bool) (ys : List Item), e = .returned (.tuple #[v', .bool t]) ∧ m ≤ n ∧ SlB B w' v' m us ∧ CrateAt (Gr O w) w' b ys ∧ Ch O w w' := by
  have HC := Lib.hid hc
  have HB := Lib.hid hB
  have HT1 := Lib.hid (taken_any B w v n vs 1 hv hn (by omega) (by omega))
  have HV := Lib.hid hv
  have dr : Hid (∀ (q : Nat), Ch O w (w.drewN q)) := fun q => (Ch.refl _ _).drewN q
  clear hc hB hv
  go_enter Tryz.func91, Tryz.ntmps91
  go_wp2_with fail
  refine HT1.out.mono ?_
  rintro e w1 ⟨⟨z, v1, n1, vs1, t1, rfl, hz, hn1, h1⟩, q1, hw1⟩
  have HV1 : Hid (SlB B w1 v1 n1 vs1) := by rw [hw1]; exact h1.drewN q1
  have HC1 : Hid (CrateAt O w1 b xs) := by rw [hw1]; exact HC.out.drewN q1
  have C1 : Hid (Ch O w w1) := by rw [hw1]; exact dr.out q1
  obtain ⟨z0, z1⟩ := hz trivial
  have hn1' : n1 ≤ 60000 := by omega
  clear hw1 h1 hz
  cases t1
  · go_wp2_with fail
    go_ret2
    exact ⟨_, 0, [], _, xs, rfl, by omega, SlB.nil _ _, HC1.out.mono fun g hg _ => .inl hg, C1.out⟩
  · rcases (show z = 1 ∨ z = 2 ∨ z = 3 ∨ (z ≠ 1 ∧ z ≠ 2 ∧ z ≠ 3) by omega) with e | e | e | ⟨e1, e2, e3⟩
    · subst e
      have HT2 := Lib.hid (taken_any B w1 v1 n1 vs1 8 HV1.out hn1' (by omega) (by omega))
      go_wp2_with fail
      refine HT2.out.mono ?_
      rintro e w2 ⟨⟨y, v2, n2, vs2, t2, rfl, -, hn2, h2⟩, q2, hw2⟩
      have HV2 : Hid (SlB B w2 v2 n2 vs2) := by rw [hw2]; exact h2.drewN q2
      have HC2 : Hid (CrateAt O w2 b xs) := by rw [hw2]; exact HC1.out.drewN q2
      have C2 : Hid (Ch O w w2) := by rw [hw2]; exact C1.out.drewN q2
      clear hw2 h2
      cases t2
      · go_wp2_with fail
        go_ret2
        exact ⟨_, _, _, _, xs, rfl, by omega, HV2.out, HC2.out.mono fun g hg _ => .inl hg, C2.out⟩
      · have HA : Hid (∀ k : Int, _) := fun k => crate_addInt O w2 b xs k HC2.out
        go_wp2_with fail
        refine (HA.out _).mono ?_
        rintro e w3 ⟨t3, ys, rfl, hk, c3⟩
        have HK := Lib.hid hk
        have HV3 := Lib.hid (HV2.out.ch c3 (fun g hg _ e => HB.out g hg e))
        clear hk
        go_wp2_with fail
        go_ret2
        exact ⟨_, _, _, _, ys, rfl, by omega, HV3.out, HK.out.mono fun g hg _ => Gr.le C2.out.size g hg, C2.out.trans c3⟩
    · subst e
      have HT2 := Lib.hid (taken_any B w1 v1 n1 vs1 1 HV1.out hn1' (by omega) (by omega))
      go_wp2_with fail
      refine HT2.out.mono ?_
      rintro e w2 ⟨⟨y, v2, n2, vs2, t2, rfl, hy, hn2, h2⟩, q2, hw2⟩
      have HV2 : Hid (SlB B w2 v2 n2 vs2) := by rw [hw2]; exact h2.drewN q2
      have HC2 : Hid (CrateAt O w2 b xs) := by rw [hw2]; exact HC1.out.drewN q2
      have C2 : Hid (Ch O w w2) := by rw [hw2]; exact C1.out.drewN q2
      obtain ⟨y0, y1⟩ := hy trivial
      obtain ⟨a2, c2, rfl, k2, k3, -, -⟩ := id h2.sl
      clear hw2 h2 hy
      cases t2
      · go_wp2_with fail
        go_ret2
        exact ⟨_, 0, [], _, xs, rfl, by omega, SlB.nil _ _, HC2.out.mono fun g hg _ => .inl hg, C2.out⟩
      · by_cases hbig : (n2 : Int) < y
        · go_wp2_with fail
          go_ret2
          exact ⟨_, 0, [], _, xs, rfl, by omega, SlB.nil _ _, HC2.out.mono fun g hg _ => .inl hg, C2.out⟩
        · obtain ⟨k, rfl⟩ : ∃ k : Nat, y = k := ⟨y.toNat, by omega⟩
          have hkn : (k : Int) ≤ n2 := by omega
          have hkc : (k : Int) ≤ c2 := by omega
          obtain ⟨s, hs, hcv⟩ := (SlB.takeAt HV2.out (k := k) (by omega)).conv
          have HCV : Hid (∀ W, SlB B W (.slice a2 k c2) k (vs2.take k) → (convert 81 9 (.slice a2 k c2)).run Tryz.prog W = .ok (.string s) W) := hcv
          have HA := Lib.hid (crate_addText O w2.drew b xs s (HC2.out.ch0 (Ch.refl _ _).drew) (by omega))
          clear hbig hcv hs
          have HTk := Lib.hid (SlB.takeAt HV2.out (k := k) (by omega))
          have C2' := Lib.hid (C2.out.drew)
          by_cases hn20 : n2 = 0
          · subst hn20
            have hk00 : k = 0 := by omega
            subst hk00
            have hc63 : c2 ≤ 9223372036854775807 := k3
            have HC63 := Lib.hid hc63
            clear hc63 k3
            cases a2 with
            | none =>
              obtain ⟨aa, cc', e, -, -, h4, -⟩ := id HV2.out.sl
              simp only [Value.slice.injEq] at e
              obtain ⟨e1, -, e3⟩ := e
              have hc20 : c2 = 0 := by rw [e3]; exact (h4 e1.symm).2
              subst hc20
              clear e1 e3 h4
              go_wp2_with fail
              go_region_held3 (fun W => (convert 81 9 (.slice none 0 0)).run Tryz.prog W = .ok (.string s) W)
                (first | exact HCV.out _ (HTk.out.ch0 (Ch.refl _ _).drew) | exact HCV.out _ ((HTk.out.ch0 (Ch.refl _ _).drew).ch c3 (fun g hg _ e => HB.out g hg e)))
                ((go_at_call 115; refine HA.out.mono ?_; rintro e w3 ⟨t3, ys, rfl, hk, c3⟩))
              have HK := Lib.hid hk
              clear hk
              go_wp2_with fail
              go_ret2
              exact ⟨_, 0, [], _, ys, rfl, by omega, SlB.nil _ _, HK.out.mono fun g hg _ => Gr.le C2'.out.size g hg, C2'.out.trans c3⟩
            | some ad =>
              obtain ⟨b2, o2, sp⟩ := ad
              go_wp2_with fail
              go_region_held3 (fun W => (convert 81 9 (.slice (some ⟨b2, o2, sp⟩) 0 c2)).run Tryz.prog W = .ok (.string s) W)
                (first | exact HCV.out _ (HTk.out.ch0 (Ch.refl _ _).drew) | exact HCV.out _ ((HTk.out.ch0 (Ch.refl _ _).drew).ch c3 (fun g hg _ e => HB.out g hg e)))
                ((go_at_call 115; refine HA.out.mono ?_; rintro e w3 ⟨t3, ys, rfl, hk, c3⟩))
              have HK := Lib.hid hk
              clear hk
              go_wp2_with fail
              go_ret2
              exact ⟨_, 0, [], _, ys, rfl, by omega, SlB.empty _ _ _ _ HC63.out, HK.out.mono fun g hg _ => Gr.le C2'.out.size g hg, C2'.out.trans c3⟩
          · obtain ⟨b2, o2, rfl, -, -, -, -⟩ := HV2.out.at (by omega)
            clear k3
            by_cases hcj : c2 = k
            · have hnj : n2 = k := by omega
              subst hcj
              go_wp2_with fail
              go_region_held3 (fun W => (convert 81 9 (.slice (some ⟨b2, o2, none⟩) c2 c2)).run Tryz.prog W = .ok (.string s) W)
                (first | exact HCV.out _ (HTk.out.ch0 (Ch.refl _ _).drew) | exact HCV.out _ ((HTk.out.ch0 (Ch.refl _ _).drew).ch c3 (fun g hg _ e => HB.out g hg e)))
                ((go_at_call 115; refine HA.out.mono ?_; rintro e w3 ⟨t3, ys, rfl, hk, c3⟩))
              have HK := Lib.hid hk
              clear hk
              go_wp2_with fail
              go_ret2
              exact ⟨_, 0, [], _, ys, rfl, by omega, SlB.empty _ _ _ _ (by omega), HK.out.mono fun g hg _ => Gr.le C2'.out.size g hg, C2'.out.trans c3⟩
            · have HD := Lib.hid (SlB.dropAt HV2.out (k := k) (by omega) (o2 + k) (fun h => rfl))
              go_wp2_with fail
              go_region_held3 (fun W => (convert 81 9 (.slice (some ⟨b2, o2, none⟩) k c2)).run Tryz.prog W = .ok (.string s) W)
                (first | exact HCV.out _ (HTk.out.ch0 (Ch.refl _ _).drew) | exact HCV.out _ ((HTk.out.ch0 (Ch.refl _ _).drew).ch c3 (fun g hg _ e => HB.out g hg e)))
                ((go_at_call 115; refine HA.out.mono ?_; rintro e w3 ⟨t3, ys, rfl, hk, c3⟩))
              have HK := Lib.hid hk
              clear hk
              go_wp2_with fail
              go_ret2
              exact ⟨_, n2 - k, _, _, ys, rfl, by omega, (HD.out.ch0 (Ch.refl _ _).drew).ch c3 (fun g hg _ e => HB.out g hg e), HK.out.mono fun g hg _ => Gr.le C2'.out.size g hg, C2'.out.trans c3⟩
    · subst e
      have HT2 := Lib.hid (taken_any B w1 v1 n1 vs1 1 HV1.out hn1' (by omega) (by omega))
      go_wp2_with fail
      refine HT2.out.mono ?_
      rintro e w2 ⟨⟨y, v2, n2, vs2, t2, rfl, -, hn2, h2⟩, q2, hw2⟩
      have HV2 : Hid (SlB B w2 v2 n2 vs2) := by rw [hw2]; exact h2.drewN q2
      have HC2 : Hid (CrateAt O w2 b xs) := by rw [hw2]; exact HC1.out.drewN q2
      have C2 : Hid (Ch O w w2) := by rw [hw2]; exact C1.out.drewN q2
      clear hw2 h2
      cases t2
      · go_wp2_with fail
        go_ret2
        exact ⟨_, _, _, _, xs, rfl, by omega, HV2.out, HC2.out.mono fun g hg _ => .inl hg, C2.out⟩
      · have HA : Hid (∀ k : Bool, _) := fun k => crate_addBool O w2 b xs k HC2.out
        go_wp2_with fail
        refine (HA.out _).mono ?_
        rintro e w3 ⟨t3, ys, rfl, hk, c3⟩
        have HK := Lib.hid hk
        have HV3 := Lib.hid (HV2.out.ch c3 (fun g hg _ e => HB.out g hg e))
        clear hk
        go_wp2_with fail
        go_ret2
        exact ⟨_, _, _, _, ys, rfl, by omega, HV3.out, HK.out.mono fun g hg _ => Gr.le C2.out.size g hg, C2.out.trans c3⟩
    · have e1' : (z == 1) = false := by simpa using e1
      have e2' : (z == 2) = false := by simpa using e2
      have e3' : (z == 3) = false := by simpa using e3
      clear e1 e2 e3
      go_wp2_with fail
      go_ret2
      exact ⟨_, 0, [], _, xs, rfl, by omega, SlB.nil _ _, HC1.out.mono fun g hg _ => .inl hg, C1.out⟩
end Go.Proofs.YtkplgggdidhnoaaGreatDoor

namespace Go.Proofs.YtkplgggdidhnoaaGreatDoor
open Go.ChangeShapes Go.WideShapes Go.ChangeAt Go.RowKit
set_option linter.unusedVariables false

theorem Ch.toNo {w W : World} {N : Nat} (c : Ch (fun g => N ≤ g) w W) (hN : w.heap.size ≤ N) : Ch Noone w W := ⟨c.os, c.tape, c.output, c.size, fun k hk _ => c.block k hk (by omega)⟩

set_option maxRecDepth 100000 in
set_option maxHeartbeats 8000000 in
theorem unpack_any (B : Nat → Prop) (w : World) (v : Value) (n : Nat) (vs : List Value) (hv : SlB B w v n vs) (hn : n ≤ 60000) (hB : ∀ g, B g → g < w.heap.size) :
    Calls Tryz.prog 57 #[v] w fun e w' => ∃ (p : Value) (er : Int), e = .returned (.tuple #[p, .int .i64 er]) ∧ (er = 0 → ∃ b xs, p = .pointer (some ⟨b, 0, none⟩) ∧ CrateAt (New w.heap.size) w' b xs) ∧ Ch Noone w w' := by
  have HV := Lib.hid hv
  have HB := Lib.hid hB
  obtain ⟨a, c, rfl, k1, k2, -, -⟩ := id hv.sl
  have K2 := Lib.hid k2
  clear k2 hB
  by_cases h6 : n ≤ 6
  · have h6' : (n : Int) ≤ 6 := by omega
    clear hv
    go_enter Tryz.func57, Tryz.ntmps57
    go_wp2_with fail
    go_ret2
    exact ⟨_, _, rfl, fun h => absurd h (by decide), Ch.refl _ _⟩
  · obtain ⟨bb, off, rfl, -, -, -, -⟩ := hv.at (by omega)
    have h6' : (6 : Int) < n := by omega
    have h6c : (6 : Int) < c := by omega
    have HD := Lib.hid (SlB.dropAt hv (k := 6) (by omega) (off + 6) (fun _ => rfl))
    clear hv
    have HNew := Lib.hid (crate_new w)
    go_enter Tryz.func57, Tryz.ntmps57
    go_wp2_with fail
    refine HNew.out.mono ?_
    rintro e w1 ⟨rfl, hk, c1⟩
    have HK1 := Lib.hid (hk.mono (O' := New w.heap.size) fun g hg _ => by rw [hg]; exact Nat.le_refl _)
    have HT := Lib.hid (taken_any B w1 _ _ _ 1 (HD.out.ch0 c1) (by omega) (by omega) (by omega))
    clear hk
    go_wp2_with fail
    refine HT.out.mono ?_
    rintro e w2 ⟨⟨z, v2, n2, vs2, t2, rfl, hz, hn2, h2⟩, q2, hw2⟩
    have HV2 : Hid (SlB B w2 v2 n2 vs2) := by rw [hw2]; exact h2.drewN q2
    have HK2 : Hid (CrateAt (New w.heap.size) w2 w.heap.size []) := by rw [hw2]; exact HK1.out.drewN q2
    have C2 : Hid (Ch (fun g => w.heap.size ≤ g) w w2) := by rw [hw2]; exact (c1.mono fun _ _ h => h.elim).drewN q2
    obtain ⟨z0, z1⟩ := hz trivial
    obtain ⟨k, rfl⟩ : ∃ k : Nat, z = k := ⟨z.toNat, by omega⟩
    have hk256 : k < 256 := by omega
    clear hw2 h2 hz c1
    go_wp2_with fail
    go_loopw [6, 23] (fun s i wr => ∃ (j m : Nat) (us : List Value) (ys : List Item), j ≤ k ∧ i = .int .u64 j ∧ SlB B wr s m us ∧ m ≤ n ∧ CrateAt (New w.heap.size) wr w.heap.size ys ∧ Ch (fun g => w.heap.size ≤ g) w wr) (fun _ i _ => (k - intOf i).toNat)
    case atStart => exact ⟨0, n2, vs2, [], by omega, rfl, HV2.out, by omega, HK2.out, C2.out⟩
    case round =>
      clear HV2 HK2 C2
      obtain ⟨j, m, us, ys, hj, rfl, hs, hm, hc, hch⟩ := hrel
      by_cases hjk : j < k
      · have hjk' : (j : Int) < k := by omega
        have hj0 : (0 : Int) ≤ j := by omega
        have HAd := Lib.hid (add_any (New w.heap.size) B wr w.heap.size ys _ m us hc hs (by omega) (fun g hg h => by have h1 := HB.out g hg; have h2 : w.heap.size ≤ g := h; omega))
        clear hc hs
        go_wp2_with fail
        refine HAd.out.mono ?_
        rintro e w3 ⟨v3, m3, us3, t3, ys3, rfl, hm3, hs3, hc3, c3⟩
        have HS3 := Lib.hid hs3
        have HC3 := Lib.hid (hc3.mono (O' := New w.heap.size) fun g hg _ => by
          rcases hg with hg | hg
          · exact hg
          · exact Nat.le_trans hch.size hg)
        clear hs3 hc3
        cases t3
        · go_wp2_with fail
          go_ret2
          exact ⟨_, _, rfl, fun h => absurd h (by decide), (hch.trans c3).toNo (Nat.le_refl _)⟩
        · go_wp2_with fail
          go_roundw
          case rel => exact ⟨j + 1, m3, us3, ys3, by omega, by go_num, HS3.out, by omega, HC3.out, hch.trans c3⟩
          case measure => simp [intOf]; omega
      · have HPk := Lib.hid (pack_any _ wr w.heap.size ys hc)
        have HC := Lib.hid hc
        have HVr := Lib.hid (HV.out.ch0 (hch.toNo (Nat.le_refl _)))
        have hkj : (k : Int) ≤ j := by omega
        clear hc hs
        go_wp2_with fail
        refine HPk.out.mono ?_
        rintro e w3 ⟨v3, n3, vs3, er, rfl, hn3, ho3, hb3, c3⟩
        have HS3 : Hid (SlB (New wr.heap.size) w3 v3 n3 vs3) := ⟨ho3.sl, by have := ho3.1; omega, hb3⟩
        have C3 := Lib.hid ((hch.toNo (Nat.le_refl _)).trans c3)
        have HC3 := Lib.hid (HC.out.ch0 c3)
        have HEq := Lib.hid (equal_any _ B w3 _ _ n3 n vs3 vs HS3.out (HVr.out.ch0 c3))
        clear ho3 hb3 c3
        by_cases her : er = 0
        · subst her
          go_wp2_with fail
          refine HEq.out.mono ?_
          rintro e w4 ⟨t, rfl, rfl⟩
          cases t
          · go_wp2_with fail
            go_ret2
            exact ⟨_, _, rfl, fun h => absurd h (by decide), C3.out⟩
          · go_wp2_with fail
            go_ret2
            exact ⟨_, _, rfl, fun _ => ⟨_, _, rfl, HC3.out⟩, C3.out⟩
        · have her' : (er != 0) = true := by simpa using her
          clear her
          go_wp2_with fail
          go_ret2
          exact ⟨_, _, rfl, fun h => absurd h (by decide), C3.out⟩
end Go.Proofs.YtkplgggdidhnoaaGreatDoor

namespace Go.Proofs.YtkplgggdidhnoaaGreatDoor
open Go.ChangeShapes Go.WideShapes Go.ChangeAt Go.RowKit
set_option linter.unusedVariables false

theorem fnumber_any (w : World) (b : Bool) : Calls Tryz.prog 154 #[.bool b] w fun e w' => e = .returned (.int .i64 (if b = true then 1 else 0)) ∧ w' = w := by
  cases b
  all_goals
    go_enter Tryz.func154, Tryz.ntmps154
    go_wp2_with fail
    go_ret
    exact ⟨rfl, rfl⟩

set_option maxRecDepth 100000 in
set_option maxHeartbeats 4000000 in
theorem flat_of (B : Nat → Prop) (w : World) (v : Value) (l : List RS) (hv : Sl B w v l.length (l.flatMap fRS)) (hl : l.length ≤ 100) :
    Calls Tryz.prog 131 #[v] w fun e w' => ∃ (v' : Value) (us : List Int), e = .returned v' ∧ us.length = 4 * l.length ∧ Own (New w.heap.size) w' 3 1 v' us.length (us.flatMap fInt) ∧ Ch Noone w w' := by
  obtain ⟨i0, hi0, hz0, hz1, hz2⟩ := info_parts info_int
  have HV := Lib.hid hv
  obtain ⟨a, c, rfl, -, -, -, -⟩ := hv
  go_enter Tryz.func131, Tryz.ntmps131
  go_wp2_with fail
  go_loopw [3, 8] (fun s i wr => ∃ (j : Nat) (us : List Int), j ≤ l.length ∧ i = .int .i64 j ∧ us.length = 4 * j ∧ Own (New w.heap.size) wr 3 1 s us.length (us.flatMap fInt) ∧ Ch Noone w wr) (fun _ i _ => (l.length - intOf i).toNat)
  case atStart => exact ⟨0, [], by omega, rfl, rfl, Own.nil _ _ _ _, Ch.refl _ _⟩
  case round =>
    obtain ⟨j, us, hj, rfl, hus, ho, hch⟩ := hrel
    have HO := Lib.hid ho
    have HU := Lib.hid hus
    obtain ⟨sa, sc, rfl, -, -, -, -⟩ := ho.sl
    rw [hus]
    clear ho hus
    by_cases hjl : j < l.length
    · obtain ⟨b, off, rfl, -, hbw, hat⟩ := (HV.out.ch0 hch).at (f := fRS) (C := 4) (fun _ => rfl) (by omega) hjl
      have y0 : wr.cell? ⟨b, off + j * 4, none⟩ = some (.int .i64 l[j].mode) := hat 0 (by omega)
      have y1 : wr.cell? ⟨b, off + j * 4 + 1, none⟩ = some (.int .i64 l[j].timer) := hat 1 (by omega)
      have y2 : wr.cell? ⟨b, off + j * 4 + 2, none⟩ = some (.int .i64 l[j].gone) := hat 2 (by omega)
      have y3 : wr.cell? ⟨b, off + j * 4 + 3, none⟩ = some (.bool l[j].seen) := hat 3 (by omega)
      have hj0 : (0 : Int) ≤ j := by omega
      have hj1 : (j : Int) < l.length := by omega
      clear hat
      generalize l[j] = x at *
      obtain ⟨xm, xt, xg, xs⟩ := x
      dsimp only at *
      obtain ⟨w0, hw0⟩ : ∃ w0, w0 = wr.alloc (.cells #[.int .i64 xm, .int .i64 xt, .int .i64 xg, .bool xs] 168) := ⟨_, rfl⟩
      have c0 : Ch Noone wr w0 := by rw [hw0]; exact (Ch.refl _ _).alloc _
      have bx : Blk w0 wr.heap.size 168 #[.int .i64 xm, .int .i64 xt, .int .i64 xg, .bool xs] := by rw [hw0]; exact Blk.new _ _ _
      have z0 : w0.cell? ⟨wr.heap.size, 0, none⟩ = some (.int .i64 xm) := bx.cell 0
      have z1 : w0.cell? ⟨wr.heap.size, 1, none⟩ = some (.int .i64 xt) := bx.cell 1
      have z2 : w0.cell? ⟨wr.heap.size, 2, none⟩ = some (.int .i64 xg) := bx.cell 2
      have z3 : w0.cell? ⟨wr.heap.size, 3, none⟩ = some (.bool xs) := bx.cell 3
      have HW0 := Lib.hid hw0
      have C0 := Lib.hid (hch.trans c0)
      have HO0 : Hid (Own (New w.heap.size) w0 3 1 (.slice sa (4 * j) sc) (4 * j) (us.flatMap fInt)) := by
        have h := HO.out
        rw [HU.out] at h
        exact h.ch (S := Noone) c0 (fun _ _ _ h => h)
      have HOb : Hid (∀ g, (Value.slice sa (4 * j) sc).ownBlock = some g → g < wr.heap.size) := fun g hg => by
        have h := HO.out
        rw [HU.out] at h
        exact (h.blkOf g hg).2
      have HS : Hid (∀ W', Ch (fun g => w.heap.size ≤ g ∧ (Value.slice sa (4 * j) sc).ownBlock = some g) w0 W' → W'.cell? ⟨wr.heap.size, 0, none⟩ = some (.int .i64 xm) ∧ W'.cell? ⟨wr.heap.size, 1, none⟩ = some (.int .i64 xt) ∧ W'.cell? ⟨wr.heap.size, 2, none⟩ = some (.int .i64 xg) ∧ W'.cell? ⟨wr.heap.size, 3, none⟩ = some (.bool xs)) := fun W' c => by
        have h := c.blk bx (fun e => by have := HOb.out _ e.2; omega)
        exact ⟨h.cell 0, h.cell 1, h.cell 2, h.cell 3⟩
      have HNu : Hid (∀ k, _) := fun k => fnumber_any (w0.drewN k) xs
      have sz : w.heap.size ≤ w0.heap.size := (hch.trans c0).size
      clear hw0 c0 bx
      generalize (if xs = true then (1 : Int) else 0) = xn at *
      go_wp2_with fail
      rw [← HW0.out]
      go_region_held3 (fun W' => W'.cell? ⟨wr.heap.size, 0, none⟩ = some (.int .i64 xm) ∧ W'.cell? ⟨wr.heap.size, 1, none⟩ = some (.int .i64 xt) ∧ W'.cell? ⟨wr.heap.size, 2, none⟩ = some (.int .i64 xg) ∧ W'.cell? ⟨wr.heap.size, 3, none⟩ = some (.bool xs))
        (first | exact HS.out _ ((Ch.refl _ _).drew) | exact HS.out _ (CC.out.mono fun _ _ h => h.elim) | exact HS.out _ ((CC.out.alloc _).mono fun _ _ h => h.elim) | exact HS.out _ (((CC.out.alloc _).mono fun _ _ h => h.elim).trans cg))
        (first
          | (go_at_call 154; refine (HNu.out 1).mono ?_; rintro e w1 ⟨rfl, rfl⟩; have CC : Hid (Ch Noone w0 (w0.drewN 1)) := (Ch.refl _ _).drewN 1)
          | (refine step_append_lies _ (by rfl) _ _ _ (by rfl) w.heap.size 3 i0 _ 1 8 Tryz.underlying33 hi0 hz0 hz1 hz2 rfl (by omega) _ (4 * j) (us.flatMap fInt) (by rfl) ((HO0.out.ch (S := Noone) (CC.out.alloc _) (fun _ _ _ h => h)).row)
              ⟨w0.heap.size, 0, none⟩ 4 4 [.int .i64 xm, .int .i64 xt, .int .i64 xg, .int .i64 xn] (by rfl) (by rfl) (fresh_news _ _ [.int .i64 xm, .int .i64 xt, .int .i64 xg, .int .i64 xn]) (by simp [Value.oneCell'])
              (by omega) (by unfold maxLen; omega) (by omega) (by have := CC.out.size; simp; omega) (w0.heap.size + 1) (by simp) ?_; intro gg cap w2 hown1 hgrow hat hlt; have cg := Ch.own' (HO0.out.ch (S := Noone) (CC.out.alloc _) (fun _ _ _ h => h)) hgrow; have HOW := Lib.hid (Own.of hown1)))
      have CF : Hid (Ch Noone w w2) := (C0.out.trans (CC.out.alloc _)).then cg fun i hi h => by omega
      have hus' := HU.out
      clear cg hgrow hown1 hat hlt
      go_wp2_with fail
      go_roundw
      case rel =>
        refine ⟨j + 1, us ++ [xm, xt, xg, xn], by omega, by go_num, by rw [List.length_append, hus']; simp; omega, ?_, CF.out⟩
        have h := HOW.out
        rw [List.length_append, hus', List.flatMap_append]
        exact h
      case measure => simp [intOf]; omega
    · go_wp2_with fail
      go_ret
      have hjj : j = l.length := by omega
      subst hjj
      exact ⟨_, us, rfl, HU.out, by rw [HU.out]; have h := HO.out; rw [HU.out] at h; exact h, hch⟩

set_option maxRecDepth 100000 in
set_option maxHeartbeats 4000000 in
theorem lay_any (B : Nat → Prop) (w : World) (ep ct : Int) (v : Value) (l : List RS) (hv : Sl B w v l.length (l.flatMap fRS)) (hl : l.length ≤ 20) :
    Calls Tryz.prog 107 #[.int .i64 ep, .int .i64 ct, v] w fun e w' => ∃ p, e = .returned p ∧ (p = .pointer none ∨ ∃ b xs, p = .pointer (some ⟨b, 0, none⟩) ∧ CrateAt (New w.heap.size) w' b xs) ∧ Ch Noone w w' := by
  obtain ⟨i0, hi0, hz0, hz1, hz2⟩ := info_parts info_int
  have HV := Lib.hid hv
  obtain ⟨a, c, rfl, -, -, -, -⟩ := hv
  have HNew := Lib.hid (crate_new w)
  go_enter Tryz.func107, Tryz.ntmps107
  go_wp2_with fail
  refine HNew.out.mono ?_
  rintro e w1 ⟨rfl, hk, c1⟩
  have HAt := Lib.hid (crate_addText (fun g => g = w.heap.size) w1 w.heap.size [] ⟨#[115, 116, 97, 116, 101]⟩ hk (by decide))
  have C1 := Lib.hid c1
  clear hk c1
  go_wp2_with fail
  refine HAt.out.mono ?_
  rintro e w2 ⟨t, ys, rfl, hk2, c2⟩
  have HK2 := Lib.hid (hk2.mono (O' := fun g => w.heap.size ≤ g ∧ g < w2.heap.size) fun g hg hl => ⟨by
    rcases hg with hg | hg
    · exact Nat.le_of_eq hg.symm
    · exact Nat.le_trans C1.out.size hg, hl⟩)
  have C2 : Hid (Ch (fun g => w.heap.size ≤ g) w w2) := (C1.out.mono fun _ _ h => h.elim).then c2 fun g _ e => Nat.le_of_eq e.symm
  have C2n : Hid (Ch Noone w w2) := C2.out.toNo (Nat.le_refl _)
  have HO0 : Hid (Own (New w2.heap.size) (w2.alloc (.cells #[.int .i64 ep, .int .i64 ct, .int .i64 l.length] 3)) 3 1 (.slice (some ⟨w2.heap.size, 0, none⟩) 3 3) 3 [.int .i64 ep, .int .i64 ct, .int .i64 l.length]) :=
    ⟨rfl, .inr ⟨w2.heap.size, 3, _, rfl, Nat.le_refl _, Blk.new _ _ _, Nat.le_refl _, by unfold maxLen; omega, rfl, rfl⟩⟩
  have c3 : Ch Noone w2 (w2.alloc (.cells #[.int .i64 ep, .int .i64 ct, .int .i64 l.length] 3)) := (Ch.refl _ _).alloc _
  have HOf := Lib.hid (flat_of B _ _ l ((HV.out.ch0 C2n.out).ch0 c3) (by omega))
  have C3 := Lib.hid c3
  clear hk2 c2 c3
  go_wp2_with fail
  refine HOf.out.mono ?_
  rintro e w3 ⟨v3, us, rfl, hus, ho3, c4⟩
  have HO3 := Lib.hid ho3
  have HO3' := Lib.hid (HO0.out.ch (S := Noone) c4 (fun _ _ _ h => h))
  have C4 : Hid (Ch Noone w2 w3) := C3.out.trans c4
  have husl : us.length ≤ 80 := by omega
  have sz3 : w2.heap.size ≤ w3.heap.size := C4.out.size
  clear ho3 c4 hus
  go_wp2_with (at_builtin; refine And.right (a := True) ?_)
  refine ⟨trivial, ?_⟩
  refine wpList_append_sl _ rfl _ _ 33 rfl w2.heap.size 3 i0 _ 1 8 Tryz.underlying33 hi0 hz0 hz1 hz2 rfl (by decide) _ 3 _ (by exact rfl) HO3'.out _ _ us.length (us.flatMap fInt) (by exact rfl) HO3.out.sl (flat_length fInt 1 (fun _ => rfl) _) (one_flat fInt one_fInt _) (by unfold maxLen; omega) (by omega) sz3 ?_
  intro v4 w4 ho4 c5
  have HO4 := Lib.hid ho4
  obtain ⟨a4, c4', rfl, -, -, -, -⟩ := ho4.sl
  have C5 : Hid (Ch (fun g => w2.heap.size ≤ g) w2 w4) := (C4.out.mono fun _ _ h => h.elim).then c5 fun i _ h => h.1
  have H4b : Hid (∀ g, (Value.slice a4 (3 + us.length) c4').ownBlock = some g → w2.heap.size ≤ g ∧ g < w4.heap.size) := fun g hg => ⟨(ho4.blkOf g hg).1, (ho4.blkOf g hg).2⟩
  have HK4 := Lib.hid ((HK2.out.ch (C5.out.toNo (Nat.le_refl _)) (fun _ _ _ h => h)).mono (O' := fun g => w.heap.size ≤ g ∧ (Value.slice a4 (3 + us.length) c4').ownBlock ≠ some g) fun g hg _ => ⟨hg.1, fun e => by have := (H4b.out g e).1; have := hg.2; omega⟩)
  have CW4 : Hid (Ch (fun g => w.heap.size ≤ g) w w4) := C2.out.then C5.out fun i hi h => by have := C2.out.size; omega
  have hvals : Hid (∀ i, i < 3 + us.length → ∃ k : Int, ([Value.int .i64 ep, .int .i64 ct, .int .i64 l.length] ++ us.flatMap fInt)[i]? = some (.int .i64 k)) := fun i hi => by
    have hall : ∀ u ∈ [Value.int .i64 ep, .int .i64 ct, .int .i64 l.length] ++ us.flatMap fInt, ∃ k : Int, u = .int .i64 k := fun u hu => by
      rcases List.mem_append.1 hu with hu | hu
      · simp only [List.mem_cons, List.not_mem_nil, or_false] at hu
        rcases hu with hu | hu | hu <;> exact ⟨_, hu⟩
      · obtain ⟨x, -, hx⟩ := List.mem_flatMap.1 hu
        simp only [fInt, List.mem_cons, List.not_mem_nil, or_false] at hx
        exact ⟨x, hx⟩
    have hlen : i < ([Value.int .i64 ep, .int .i64 ct, .int .i64 l.length] ++ us.flatMap fInt).length := by
      rw [List.length_append, flat_length fInt 1 (fun _ => rfl)]
      simp only [List.length_cons, List.length_nil]
      omega
    obtain ⟨k, hk⟩ := hall _ (List.getElem_mem hlen)
    exact ⟨k, by rw [List.getElem?_eq_getElem hlen, hk]⟩
  clear ho4 c5
  go_wp2_with fail
  go_loopw [8, 23] (fun s i wr => ∃ (j : Nat) (q : Bool) (zs : List Item), j ≤ 3 + us.length ∧ i = .int .i64 j ∧ s = .bool q ∧ CrateAt (fun g => w.heap.size ≤ g ∧ (Value.slice a4 (3 + us.length) c4').ownBlock ≠ some g) wr w.heap.size zs ∧ Ch (fun g => w.heap.size ≤ g ∧ (Value.slice a4 (3 + us.length) c4').ownBlock ≠ some g) w4 wr) (fun _ i _ => ((3 + us.length : Nat) - intOf i).toNat)
  case atStart => exact ⟨0, t, ys, by omega, rfl, rfl, HK4.out, Ch.refl _ _⟩
  case round =>
    clear HK4
    obtain ⟨j, q, zs, hj, rfl, rfl, hk, hch⟩ := hrel
    have CW : Hid (Ch (fun g => w.heap.size ≤ g) w wr) := CW4.out.trans (hch.mono fun g _ h => h.1)
    by_cases hjl : j < 3 + us.length
    · have HSl := (HO4.out.tight.sl).ch hch (fun g hg _ e => e.2 hg.2)
      obtain ⟨k, hk1⟩ := hvals.out j hjl
      obtain ⟨aa, cc, e, -, -, -, h5⟩ := HSl
      simp only [Value.slice.injEq, true_and] at e
      obtain ⟨rfl, rfl⟩ := e
      have hln : ([Value.int .i64 ep, .int .i64 ct, .int .i64 l.length] ++ us.flatMap fInt).length = 3 + us.length := by
        rw [List.length_append, flat_length fInt 1 (fun _ => rfl)]
        simp
      obtain ⟨b4, o4, rfl, -, hb4, hat⟩ := h5 (by intro e; rw [e] at hln; simp at hln; omega)
      have y0 : wr.cell? ⟨b4, o4 + j, none⟩ = some (.int .i64 k) := (hat j (by rw [hln]; exact hjl)).trans hk1
      have hj0 : (0 : Int) ≤ j := by omega
      have hj1 : (j : Int) < 3 + us.length := by omega
      have hj2 : (j : Int) < ((3 + us.length : Nat) : Int) := by omega
      have HAi := Lib.hid (crate_addInt _ wr w.heap.size zs k hk)
      clear hat h5 hk1 hk hln
      go_wp2_with fail
      refine HAi.out.mono ?_
      rintro e w5 ⟨t5, ys5, rfl, hk5, c5⟩
      have HK5 := Lib.hid (hk5.mono (O' := fun g => w.heap.size ≤ g ∧ (Value.slice (some ⟨b4, o4, none⟩) (3 + us.length) c4').ownBlock ≠ some g) fun g hg _ => by
        rcases hg with hg | hg
        · exact hg
        · exact ⟨Nat.le_trans CW.out.size hg, fun e => by have h1 := (H4b.out g e).2; have h2 := hch.size; omega⟩)
      have C5' := Lib.hid (hch.trans c5)
      clear hk5 c5
      cases t5 <;> cases q
      all_goals
        go_wp2_with fail
        go_roundw
        case rel => exact ⟨j + 1, _, _, by omega, by go_num, rfl, HK5.out, C5'.out⟩
        case measure => simp [intOf]; omega
    · have HK' := Lib.hid hk
      clear hk
      cases q
      · go_wp2_with fail
        go_ret
        exact ⟨_, rfl, .inl rfl, CW.out.toNo (Nat.le_refl _)⟩
      · go_wp2_with fail
        go_ret
        exact ⟨_, rfl, .inr ⟨_, _, rfl, HK'.out.mono fun g hg _ => hg.1⟩, CW.out.toNo (Nat.le_refl _)⟩
end Go.Proofs.YtkplgggdidhnoaaGreatDoor
