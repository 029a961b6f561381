/-
  pointsmanref1.Runes, IsName, pointsmanref3.Name: what is told to be a name is one. Conditions: the text has at most 100000 bytes, and the tables of unicode/utf8 lie as its text lays them. pointsmanref1.IsName, pointsmanref3.Name: what is told to be a name is one. Conditions: the text has at most 60000 bytes, and the tables of unicode/utf8 lie as its text lays them. pointsmanref4.In, names, needs: what is told to be so is so. Conditions: the texts have at most 60000 bytes, and the tables of unicode/utf8 lie as its text lays them (names alone).
-/
import Derived.Test.YtkplgggdidhnoaaGreatDoorM06
import Derived.Test.YtkplgggdidhnoaaGreatDoorM03
import Derived.Lib.QuoteLoop
import Derived.Test.YtkplgggdidhnoaaGreatDoorM05
namespace Go.Proofs.YtkplgggdidhnoaaGreatDoor
open Go.ChangeShapes Go.WideShapes Go.ChangeAt Go.RowKit
set_option linter.unusedVariables false

theorem info_rune : (Tryz.prog.info? 200).map (fun i => (i.zero, i.size, i.bytes)) = some (some (.agg #[.int .i32 0, .int .i64 0, .bool false]), 3, 24) := by kernel_rfl
def fRune (x : Nat × Nat × Nat) : List Value := [.int .i32 x.2.1, .int .i64 x.2.2, .bool (x.2.1 == 65533 && x.2.2 == 1)]
theorem runes_len (s : ByteArray) : ∀ (f pos : Nat), (runes s f pos).length ≤ f
  | 0, _ => by simp [runes]
  | f + 1, pos => by
    rw [runes]; split
    · have := runes_len s f (pos + (Utf8.decode s pos).2); simp; omega
    · simp
theorem runes_at (s : ByteArray) : ∀ (f pos k : Nat) (h : k < (runes s f pos).length), (k = 0 → ((runes s f pos)[k]).1 = pos) ∧ pos + k ≤ ((runes s f pos)[k]).1
  | 0, _, k, h => by simp [runes] at h
  | f + 1, pos, k, h => by
    by_cases hp : pos < s.size
    · have hd := dec_pos s pos hp
      have e : runes s (f + 1) pos = (pos, (Utf8.decode s pos).1, (Utf8.decode s pos).2) :: runes s f (pos + (Utf8.decode s pos).2) := by rw [runes, if_pos hp]
      rcases k with _ | k
      · simp [e]
      · have h2 : k < (runes s f (pos + (Utf8.decode s pos).2)).length := by rw [e] at h; simpa using h
        have := (runes_at s f (pos + (Utf8.decode s pos).2) k h2).2
        simp only [e, List.getElem_cons_succ]
        exact ⟨fun h => by omega, by omega⟩
    · have e : runes s (f + 1) pos = [] := by rw [runes, if_neg hp]
      simp [e] at h

theorem dec_in (s : ByteArray) (pos : Nat) (h : pos < s.size) : pos + (Utf8.decode s pos).2 ≤ s.size := by
  have := Lib.decodeN_width_le (s.size - pos) (s.get! pos).toNat (s.get! (pos + 1)).toNat (s.get! (pos + 2)).toNat (s.get! (pos + 3)).toNat (by omega)
  rw [← Lib.decode_at] at this
  omega
theorem Tabs.below {w w' : World} (h : Tabs w) (c : Below w.heap.size w w') : Tabs w' := h.ch0 (Ch.of_below c)

theorem one_rune (r n : Int) (b : Bool) : ∀ u ∈ [Value.int .i32 r, .int .i64 n, .bool b], u.oneCell' = true := by intro u hu; simp at hu; rcases hu with rfl | rfl | rfl <;> rfl

set_option maxHeartbeats 2000000 in
theorem runes_any (s : ByteArray) (w : World) (hT : Tabs w) (hs : s.size ≤ 60000) :
    Calls Tryz.prog 132 #[.string s] w fun e w' => ∃ v, e = .returned v ∧ Own (New w.heap.size) w' 200 3 v (runes s s.size 0).length ((runes s s.size 0).flatMap fRune) ∧ Ch Noone w w' := by
  have HT := Lib.hid hT; clear hT
  obtain ⟨l, hl⟩ : ∃ l, l = runes s s.size 0 := ⟨_, rfl⟩
  have hln : l.length ≤ s.size := by rw [hl]; exact runes_len s _ _
  have HLn : Hid (l = runes s s.size 0) := hl
  rw [← hl]
  clear hl
  obtain ⟨i0, hi0, hz0, hz1, hz2⟩ := info_parts info_rune
  go_enter Tryz.func132, Tryz.ntmps132
  go_wp2_with fail
  go_loopw [3, 4] (fun q i wr => ∃ (k f pos : Nat), runes s f pos = l.drop k ∧ s.size ≤ pos + f ∧ k ≤ l.length ∧ pos ≤ s.size ∧ i = .int .i64 pos ∧ Own (New w.heap.size) wr 200 3 q k ((l.take k).flatMap fRune) ∧ Ch Noone w wr) (fun _ i _ => (s.size - intOf i).toNat)
  case atStart => exact ⟨0, s.size, 0, HLn.out.symm, by omega, by omega, by omega, rfl, ⟨rfl, .inl ⟨rfl, rfl⟩⟩, Ch.refl _ _⟩
  case round =>
    obtain ⟨k, f, pos, hr, hf, hk, hps, rfl, hown, hch⟩ := hrel
    have HOwn := Lib.hid hown; clear hown
    by_cases hpos : pos < s.size
    · obtain ⟨g, rfl, hr2, hf2⟩ := runes_step s f pos hpos hf
      rw [hr2] at hr
      obtain ⟨hkl, hx, hr3⟩ := drop_cons hr
      have HD := Lib.hid (Tryz.utf8_DecodeRuneInString (s.extract pos s.size) wr (HT.out.ch0 hch))
      have HDT := Lib.hid (dec_tail s pos hpos)
      have HX : Hid ((l.take k).flatMap fRune ++ [.int .i32 (Utf8.decode s pos).1, .int .i64 (Utf8.decode s pos).2, .bool ((Utf8.decode s pos).1 == 65533 && (Utf8.decode s pos).2 == 1)] = (l.take (k + 1)).flatMap fRune) := by
        have := take_flat fRune l k hkl
        rw [hx] at this
        exact this
      have h1 := dec_pos s pos hpos
      have h2 := dec_width s pos
      have h3 : pos + (Utf8.decode s pos).2 ≤ s.size := by exact dec_in s pos hpos
      have HR := Lib.hid hr3; clear hr3 hr hr2 hx hf
      have HF := Lib.hid hf2; clear hf2
      have hsz := hch.size
      go_wp2_with fail
      refine HD.out.mono ?_
      rintro e w1 ⟨rfl, hbl⟩
      rw [HDT.out]
      generalize Utf8.decode s pos = d at *
      obtain ⟨d1, d2⟩ := d
      dsimp only at *
      have c1 := Ch.of_below hbl
      have hsz1 := hbl.size
      have HOw1 := Lib.hid (HOwn.out.ch c1 (fun _ _ _ h => h))
      by_cases e1 : d1 = 65533
      · by_cases e2 : d2 = 1
        · subst e1 e2
          rw [show (((65533 : Nat) == 65533 && (1 : Nat) == 1)) = true from rfl] at HX
          go_wp2_with (at_builtin; refine And.right (a := True) ?_)
          refine ⟨trivial, ?_⟩
          refine wpList_append_own _ rfl _ _ 197 rfl w.heap.size 200 i0 _ 3 24 Tryz.underlying197 hi0 hz0 hz1 hz2 rfl (by decide) _ k ((l.take k).flatMap fRune) (by exact rfl) (by exact (HOw1.out.ch ((Ch.refl Noone w1).alloc _) (fun _ _ _ h => h)).row) _ 1 1 [.int .i32 (65533 : Nat), .int .i64 (1 : Nat), .bool true] (by exact rfl) rfl (by exact fresh_at _ _ (by simp) _ [.int .i32 (65533 : Nat), .int .i64 (1 : Nat), .bool true]) (one_rune _ _ _) (by unfold maxLen; omega) (by omega) (by simp; omega) ?_
          intro v' w2 hown hgrow _
          have c2 := Ch.own HOw1.out hgrow
          rw [HX.out] at hown
          have HOw2 := Lib.hid (Own.of hown)
          have ch2 : Ch Noone w w2 := ((hch.trans c1).alloc _).then c2 fun i hi h => absurd h.1 (by omega)
          clear hown hgrow HOwn HOw1 HX
          go_wp2_with fail
          go_roundw
          case rel => exact ⟨k + 1, g, pos + (1 : Nat), HR.out, HF.out, by omega, h3, by go_num, HOw2.out, ch2⟩
          case measure => simp [intOf]; omega
        · have e2' : ((d2 : Int) == 1) = false := by simp; omega
          rw [show ((d1 == 65533 && d2 == 1)) = false by simp [e2]] at HX
          subst e1
          go_wp2_with (at_builtin; refine And.right (a := True) ?_)
          refine ⟨trivial, ?_⟩
          refine wpList_append_own _ rfl _ _ 197 rfl w.heap.size 200 i0 _ 3 24 Tryz.underlying197 hi0 hz0 hz1 hz2 rfl (by decide) _ k ((l.take k).flatMap fRune) (by exact rfl) (by exact (HOw1.out.ch ((Ch.refl Noone w1).alloc _) (fun _ _ _ h => h)).row) _ 1 1 [.int .i32 (65533 : Nat), .int .i64 d2, .bool false] (by exact rfl) rfl (by exact fresh_at _ _ (by simp) _ [.int .i32 (65533 : Nat), .int .i64 d2, .bool false]) (one_rune _ _ _) (by unfold maxLen; omega) (by omega) (by simp; omega) ?_
          intro v' w2 hown hgrow _
          have c2 := Ch.own HOw1.out hgrow
          rw [HX.out] at hown
          have HOw2 := Lib.hid (Own.of hown)
          have ch2 : Ch Noone w w2 := ((hch.trans c1).alloc _).then c2 fun i hi h => absurd h.1 (by omega)
          clear hown hgrow HOwn HOw1 HX
          go_wp2_with fail
          go_roundw
          case rel => exact ⟨k + 1, g, pos + d2, HR.out, HF.out, by omega, h3, by go_num, HOw2.out, ch2⟩
          case measure => simp [intOf]; omega
      · have e1' : ((d1 : Int) == 65533) = false := by simp; omega
        rw [show ((d1 == 65533 && d2 == 1)) = false by simp [e1]] at HX
        go_wp2_with (at_builtin; refine And.right (a := True) ?_)
        refine ⟨trivial, ?_⟩
        refine wpList_append_own _ rfl _ _ 197 rfl w.heap.size 200 i0 _ 3 24 Tryz.underlying197 hi0 hz0 hz1 hz2 rfl (by decide) _ k ((l.take k).flatMap fRune) (by exact rfl) (by exact (HOw1.out.ch ((Ch.refl Noone w1).alloc _) (fun _ _ _ h => h)).row) _ 1 1 [.int .i32 d1, .int .i64 d2, .bool false] (by exact rfl) rfl (by exact fresh_at _ _ (by simp) _ [.int .i32 d1, .int .i64 d2, .bool false]) (one_rune _ _ _) (by unfold maxLen; omega) (by omega) (by simp; omega) ?_
        intro v' w2 hown hgrow _
        have c2 := Ch.own HOw1.out hgrow
        rw [HX.out] at hown
        have HOw2 := Lib.hid (Own.of hown)
        have ch2 : Ch Noone w w2 := ((hch.trans c1).alloc _).then c2 fun i hi h => absurd h.1 (by omega)
        clear hown hgrow HOwn HOw1 HX
        go_wp2_with fail
        go_roundw
        case rel => exact ⟨k + 1, g, pos + d2, HR.out, HF.out, by omega, h3, by go_num, HOw2.out, ch2⟩
        case measure => simp [intOf]; omega
    · have HE : Hid (l.length = k) := by rw [runes_end s f pos hpos] at hr; exact (drop_nil_len hr hk).symm
      go_wp2_with fail
      go_ret
      refine ⟨_, rfl, ?_, hch⟩
      have h := HOwn.out
      rw [List.take_of_length_le (by rw [HE.out]; exact Nat.le_refl _)] at h
      rw [HE.out]
      exact h
end Go.Proofs.YtkplgggdidhnoaaGreatDoor

namespace Go.Proofs.YtkplgggdidhnoaaGreatDoor
open Go.ChangeShapes Go.WideShapes Go.ChangeAt Go.RowKit
set_option linter.unusedVariables false

theorem le8 {n : Nat} (h : (n : Int) ≤ 8) : n ≤ 8 := by omega

set_option maxHeartbeats 4000000 in
set_option maxRecDepth 100000 in
theorem isName_ref (s : ByteArray) (w : World) (hT : Tabs w) (hs : s.size ≤ 60000) :
    Calls Tryz.prog 108 #[.string s] w fun e w' => ∃ b, e = .returned (.bool b) ∧ (b = true → NameOk s) ∧ Ch Noone w w' := by
  have HR := Lib.hid (runes_any s w hT hs)
  have hln : (runes s s.size 0).length ≤ 60000 := Nat.le_trans (runes_len s _ _) hs
  have HAt := Lib.hid (runes_at s s.size 0)
  have HN : Hid (((runes s s.size 0).all okRune = true ∧ 1 ≤ (runes s s.size 0).length ∧ (runes s s.size 0).length ≤ 8) → NameOk s) := fun h => h
  clear hT hs
  generalize runes s s.size 0 = l at *
  go_enter Tryz.func108, Tryz.ntmps108
  go_wp2_with fail
  refine HR.out.mono ?_
  rintro e w1 ⟨v, rfl, hown, c1⟩
  have HS := Lib.hid hown.sl
  obtain ⟨ao, cap, rfl, -, -, -, -⟩ := hown.sl
  clear hown
  go_wp2_with fail
  go_loopw [4] (fun i wr => ∃ k : Nat, k ≤ l.length ∧ i = .int .i64 k ∧ wr = w1 ∧ (l.take k).all okRune = true) (fun i _ => (l.length - intOf i).toNat)
  case atStart => exact ⟨0, by omega, rfl, rfl, rfl⟩
  case round =>
    obtain ⟨k, hk, rfl, rfl, hall⟩ := hrel
    have HA := Lib.hid hall; clear hall
    by_cases hkl : k < l.length
    · obtain ⟨b, off, rfl, -, -, hat⟩ := HS.out.at (f := fRune) (C := 3) (fun _ => rfl) (by omega) hkl
      have y0 : wr.cell? ⟨b, off + k * 3, none⟩ = some (.int .i32 l[k].2.1) := hat 0 (by omega)
      have y2 : wr.cell? ⟨b, off + k * 3 + 2, none⟩ = some (.bool (l[k].2.1 == 65533 && l[k].2.2 == 1)) := hat 2 (by omega)
      clear hat
      have HNx : Hid (okRune l[k] = true → (l.take (k + 1)).all okRune = true) := fun h => by
        rw [List.take_succ_eq_append_getElem hkl, List.all_append, HA.out]; simp [h]
      have hpos := HAt.out k hkl
      have hpos1 := hpos.1
      have hpos2 := hpos.2
      clear hpos
      have HL := fun w => letter_ref w (l[k].2.1)
      generalize l[k] = x at *
      obtain ⟨p, r, n⟩ := x
      dsimp only at *
      have HP1 := Lib.hid hpos1
      have HP2 := Lib.hid hpos2
      clear hpos1 hpos2
      cases hb : (r == 65533 && n == 1) with
      | true =>
        rw [hb] at y2
        clear HL
        have HBd := Lib.hid hb; clear hb
        go_wp2_with fail
        go_ret
        exact ⟨_, rfl, fun h => (by cases h), c1⟩
      | false =>
        rw [hb] at y2
        cases hl : letterB r with
        | true =>
          rw [hl] at HL
          have HOk : Hid (okRune (p, r, n) = true) := by unfold Hid okRune; simp only [hb, hl]; rfl
          have HBd := Lib.hid hb; clear hb hl
          have HLt := Lib.hid HL; clear HL
          go_wp2_with fail
          refine (HLt.out _).mono ?_
          rintro e w2 ⟨rfl, rfl⟩
          go_wp2_with fail
          go_roundw
          case rel => exact ⟨k + 1, by omega, by go_num, trivial, HNx.out HOk.out⟩
          case measure => simp [intOf]; omega
        | false =>
          rw [hl] at HL
          have HLt := Lib.hid HL; clear HL
          by_cases hk0 : k = 0
          · have hk0' : ((k : Int) == 0) = true := by simp [hk0]
            have HBd := Lib.hid hb; clear hb
            clear hl hk0
            go_wp2_with fail
            refine (HLt.out _).mono ?_
            rintro e w2 ⟨rfl, rfl⟩
            go_wp2_with fail
            go_ret
            exact ⟨_, rfl, fun h => (by cases h), c1⟩
          · have hk0' : ((k : Int) == 0) = false := by simp; omega
            by_cases h48 : (r : Int) < 48
            · have HBd := Lib.hid hb; clear hb
              clear hl hk0
              go_wp2_with fail
              refine (HLt.out _).mono ?_
              rintro e w2 ⟨rfl, rfl⟩
              go_wp2_with fail
              go_ret
              exact ⟨_, rfl, fun h => (by cases h), c1⟩
            · by_cases h57 : 57 < (r : Int)
              · have HBd := Lib.hid hb; clear hb
                clear hl hk0
                have h48' : 48 ≤ (r : Int) := by omega
                go_wp2_with fail
                refine (HLt.out _).mono ?_
                rintro e w2 ⟨rfl, rfl⟩
                go_wp2_with fail
                go_ret
                exact ⟨_, rfl, fun h => (by cases h), c1⟩
              · have HOk : Hid (okRune (p, r, n) = true) := by
                  have := HP2.out
                  unfold Hid okRune; simp only [hb, hl]; simp; omega
                have HBd := Lib.hid hb; clear hb hl hk0
                have h48' : 48 ≤ (r : Int) := by omega
                have h57' : (r : Int) ≤ 57 := by omega
                go_wp2_with fail
                refine (HLt.out _).mono ?_
                rintro e w2 ⟨rfl, rfl⟩
                go_wp2_with fail
                go_roundw
                case rel => exact ⟨k + 1, by omega, by go_num, trivial, HNx.out HOk.out⟩
                case measure => simp [intOf]; omega
    · have HA2 : Hid (l.all okRune = true) := by have := HA.out; rwa [List.take_of_length_le (by omega)] at this
      by_cases h1 : 1 ≤ l.length
      · go_wp2_with fail
        go_ret
        exact ⟨_, rfl, fun h => HN.out ⟨HA2.out, h1, le8 (by simpa using h)⟩, c1⟩
      · go_wp2_with fail
        go_ret
        first | exact ⟨_, rfl, fun h => by simp at h, c1⟩ | exact .inl ⟨rfl, c1⟩

theorem name_ref (s : ByteArray) (w : World) (hT : Tabs w) (hs : s.size ≤ 60000) :
    Calls Tryz.prog 75 #[.string s] w fun e w' => ∃ b, e = .returned (.bool b) ∧ (b = true → NameOk s ∧ (s.toList == [115, 101, 116]) = false ∧ (s.toList == [102, 108, 97, 110, 107]) = false) ∧ Ch Noone w w' := by
  have HR := Lib.hid (isName_ref s w hT hs)
  clear hT hs
  go_enter Tryz.func75, Tryz.ntmps75
  go_wp2_with fail
  refine HR.out.mono ?_
  rintro e w1 ⟨b, rfl, hb, c1⟩
  have HB := Lib.hid hb; clear hb
  cases b with
  | false =>
    go_wp2_with fail
    go_ret
    exact ⟨_, rfl, fun h => (by simp at h), c1⟩
  | true =>
    cases h1 : (s.toList == [115, 101, 116]) with
    | true =>
      have h1' : (s.toList != [115, 101, 116]) = false := by simp [bne, h1]
      go_wp2_with fail
      go_ret
      exact ⟨_, rfl, fun h => (by simp at h), c1⟩
    | false =>
      cases h2 : (s.toList == [102, 108, 97, 110, 107]) with
      | true =>
        go_wp2_with fail
        go_ret
        exact ⟨_, rfl, fun h => (by simp at h), c1⟩
      | false =>
        go_wp2_with fail
        go_ret
        exact ⟨_, rfl, fun h => ⟨HB.out (by trivial), by first | rfl | assumption, by first | rfl | assumption⟩, c1⟩
end Go.Proofs.YtkplgggdidhnoaaGreatDoor

namespace Go.Proofs.YtkplgggdidhnoaaGreatDoor
open Go.ChangeShapes Go.WideShapes Go.ChangeAt Go.RowKit
set_option linter.unusedVariables false

theorem has_take {p : List Int} {x : Int} {k : Nat} (hk : k < p.length) (h : hasB (p.take k) x = false) (hx : (p[k] == x) = false) : hasB (p.take (k + 1)) x = false := by
  unfold hasB at *
  rw [List.take_succ_eq_append_getElem hk, List.any_append, h]
  have h2 : p[k] ≠ x := by simpa using hx
  simp [Ne.symm h2]

set_option maxHeartbeats 1000000 in
theorem in_any (B : Nat → Prop) (w : World) (v : Value) (p : List Int) (x : Int) (h : Sl B w v p.length (p.flatMap fInt)) (hn : p.length ≤ 9223372036854775807) :
    Calls Tryz.prog 76 #[v, .int .i64 x] w fun r w' => r = .returned (.bool (hasB p x)) ∧ w' = w := by
  have HP := Lib.hid h
  have HNn := Lib.hid hn
  obtain ⟨ao, cap, rfl, q2, q3, -, -⟩ := h
  have HQ := Lib.hid q3
  clear q3 hn
  go_enter Tryz.func76, Tryz.ntmps76
  go_wp2_with fail
  go_loopw [5] (fun i wr => ∃ k : Nat, k ≤ p.length ∧ i = .int .i64 k ∧ wr = w ∧ hasB (p.take k) x = false) (fun i _ => (p.length - intOf i).toNat)
  case atStart => exact ⟨0, by omega, rfl, rfl, rfl⟩
  case round =>
    obtain ⟨k, hk, rfl, rfl, hno⟩ := hrel
    have HNo := Lib.hid hno; clear hno
    have hn := HNn.out
    by_cases hkl : k < p.length
    · obtain ⟨b, off, rfl, -, -, hat⟩ := HP.out.at (f := fInt) (C := 1) (fun _ => rfl) (by omega) hkl
      have y0 : wr.cell? ⟨b, off + k, none⟩ = some (.int .i64 p[k]) := by have := hat 0 (by omega); rw [Nat.mul_one] at this; exact this
      clear hat
      by_cases he : p[k] = x
      · have HY : Hid (hasB p x = true) := by
          unfold Hid hasB; rw [List.any_eq_true]; exact ⟨p[k], List.getElem_mem hkl, by simp [he]⟩
        have he' : (p[k] == x) = true := by simp [he]
        have HE := Lib.hid he; clear he
        generalize p[k] = y at *
        go_wp2_with fail
        go_ret
        exact ⟨by rw [HY.out]; first | done | rfl, rfl⟩
      · have he' : (p[k] == x) = false := by simp [he]
        have HE := Lib.hid (has_take hkl HNo.out he'); clear he
        generalize p[k] = y at *
        go_wp2_with fail
        go_roundw
        case rel => exact ⟨k + 1, by omega, by go_num, trivial, HE.out⟩
        case measure => simp [intOf]; omega
    · have HE : Hid (hasB p x = false) := by have := HNo.out; rwa [List.take_of_length_le (by omega)] at this
      go_wp2_with fail
      go_ret
      exact ⟨by rw [HE.out]; first | done | rfl, rfl⟩

theorem ne_comm_l {a b : List UInt8} (h : (a == b) = false) : (b == a) = false := by
  have h2 : a ≠ b := by simpa using h
  simpa using Ne.symm h2

set_option maxHeartbeats 2000000 in
theorem names_ref (B : Nat → Prop) (w : World) (v : Value) (l : List ByteArray) (hT : Tabs w) (hl : Sl B w v l.length (l.flatMap fStr)) (hs : ∀ s ∈ l, s.size ≤ 60000) (hn : l.length ≤ 9223372036854775807) :
    Calls Tryz.prog 40 #[v] w fun r w' => ∃ b, r = .returned (.bool b) ∧ (b = true → NamesOk l) ∧ Ch Noone w w' := by
  have HP := Lib.hid hl
  have HT := Lib.hid hT; clear hT
  have HSz := Lib.hid hs; clear hs
  have HNn := Lib.hid hn
  obtain ⟨ao, cap, rfl, q2, q3, -, -⟩ := hl
  have HQ := Lib.hid q3
  clear q3 hn
  go_enter Tryz.func40, Tryz.ntmps40
  go_wp2_with fail
  go_loopw [3] (fun i wr => ∃ k : Nat, k ≤ l.length ∧ i = .int .i64 k ∧ Ch Noone w wr ∧
    (∀ (i : Nat) (h : i < l.length), i < k → NameOk l[i] ∧ (l[i].toList == [115, 101, 116]) = false ∧ (l[i].toList == [102, 108, 97, 110, 107]) = false) ∧
    (∀ (i j : Nat) (hi : i < l.length) (hj : j < l.length), i < j → j < k → (l[j].toList == l[i].toList) = false)) (fun i _ => (l.length - intOf i).toNat)
  case atStart => exact ⟨0, by omega, rfl, Ch.refl _ _, fun i _ h => by omega, fun i j _ _ _ h => by omega⟩
  case round =>
    obtain ⟨k, hk, rfl, hch, ha, hb⟩ := hrel
    have HA := Lib.hid ha; clear ha
    have HB := Lib.hid hb; clear hb
    have hn := HNn.out
    by_cases hkl : k < l.length
    · obtain ⟨b, off, rfl, -, -, hat⟩ := (HP.out.ch0 hch).at (f := fStr) (C := 1) (fun _ => rfl) (by omega) hkl
      have y0 : wr.cell? ⟨b, off + k, none⟩ = some (.string l[k]) := by have := hat 0 (by omega); rw [Nat.mul_one] at this; exact this
      clear hat
      have HNm := Lib.hid (name_ref l[k] wr (HT.out.ch0 hch) (HSz.out _ (List.getElem_mem hkl)))
      obtain ⟨y, hy⟩ : ∃ y, y = l[k] := ⟨_, rfl⟩
      have HY := Lib.hid hy
      rw [← hy] at y0 HNm
      clear hy
      go_wp2_with fail
      refine HNm.out.mono ?_
      rintro e w1 ⟨bb, rfl, hbb, c1⟩
      have HBB := Lib.hid hbb; clear hbb
      cases bb with
      | false =>
        go_wp2_with fail
        go_ret
        first | exact ⟨_, rfl, fun h => (by cases h), hch.trans c1⟩ | exact .inl ⟨rfl, hch.trans c1⟩
      | true =>
        have y1 : w1.cell? ⟨b, off + k, none⟩ = some (.string y) := (World.cell?_of_block (w := wr) (a := ⟨b, off + k, none⟩) (c1.block b (World.block_lt_of_cell? _ _ y0) (fun h => h))).trans y0
        have ch1 := hch.trans c1
        clear y0 hch
        go_wp2_with fail
        go_loopw [4] (fun i wr => ∃ m : Nat, m ≤ k ∧ i = .int .i64 m ∧ Ch Noone w1 wr ∧ (∀ (i : Nat) (h : i < l.length), i < m → (l[i].toList == l[k].toList) = false)) (fun i _ => (k - intOf i).toNat)
        case atStart => exact ⟨0, by omega, rfl, Ch.refl _ _, fun i _ h => by omega⟩
        case round =>
          obtain ⟨m, hm, rfl, cw, hmm⟩ := hrel
          have ch2 := ch1.trans cw
          replace y1 : wr.cell? ⟨b, off + k, none⟩ = some (.string y) := (World.cell?_of_block (w := w1) (a := ⟨b, off + k, none⟩) (cw.block b (World.block_lt_of_cell? _ _ y1) (fun h => h))).trans y1
          clear ch1
          have HM := Lib.hid hmm; clear hmm
          by_cases hml : m < k
          · obtain ⟨b', off', e', -, -, hat⟩ := (HP.out.ch0 ch2).at (f := fStr) (C := 1) (fun _ => rfl) (by omega) (show m < l.length by omega)
            simp only [Option.some.injEq, Addr.mk.injEq, and_true] at e'
            obtain ⟨rfl, rfl⟩ := e'
            have z0 : wr.cell? ⟨b, off + m, none⟩ = some (.string l[m]) := by have := hat 0 (by omega); rw [Nat.mul_one] at this; exact this
            clear hat
            obtain ⟨z, hz⟩ : ∃ z, z = l[m] := ⟨_, rfl⟩
            have HZ := Lib.hid hz
            rw [← hz] at z0
            clear hz
            cases he : (z.toList == y.toList) with
            | true =>
              go_wp2_with fail
              go_big_quiet (fail)
              go_wp2_with fail
              go_ret
              first | exact ⟨_, rfl, fun h => (by cases h), ch2.drewN _⟩ | exact .inl ⟨rfl, ch2.drewN _⟩
            | false =>
              have HE := Lib.hid he
              go_wp2_with fail
              go_big_quiet (fail)
              go_wp2_with fail
              go_roundw
              case rel => exact ⟨m + 1, by omega, by go_num, cw.drewN _, fun i hi h => by
                by_cases hh : i = m
                · subst hh; rw [← HZ.out, ← HY.out]; exact HE.out
                · exact HM.out i hi (by omega)⟩
              case measure => simp [intOf]; omega
          · have HM2 : Hid (∀ (i : Nat) (h : i < l.length), i < k → (l[i].toList == l[k].toList) = false) := fun i h hi => HM.out i h (by omega)
            clear HM
            go_wp2_with fail
            go_roundw
            case rel => exact ⟨k + 1, by omega, by go_num, ch2, fun i hi h => by
                by_cases hh : i = k
                · subst hh; rw [← HY.out]; exact HBB.out (by trivial)
                · exact HA.out i hi (by omega), fun i j hi hj h1 h2 => by
                by_cases hh : j = k
                · subst hh; exact ne_comm_l (HM2.out i hi h1)
                · exact HB.out i j hi hj h1 (by omega)⟩
            case measure => simp [intOf]; omega
    · have HOk : Hid (NamesOk l) := ⟨fun s hs => by
          obtain ⟨i, hi, rfl⟩ := List.getElem_of_mem hs
          exact HA.out i hi (by omega), fun i j hi hj h => HB.out i j hi hj h (by omega)⟩
      go_wp2_with fail
      go_ret
      first | exact ⟨_, rfl, fun _ => HOk.out, hch⟩ | exact .inr ⟨HOk.out, hch⟩
end Go.Proofs.YtkplgggdidhnoaaGreatDoor
