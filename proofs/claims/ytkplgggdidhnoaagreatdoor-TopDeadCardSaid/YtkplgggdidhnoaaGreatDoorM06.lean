/-
  Names: what glyph and its reference tell of a text. Condition: the tables of unicode/utf8 lie as its text lays them. glyph.IsName: a name is told to be one. Condition: the tables of unicode/utf8 lie as its text lays them. table.areNames and table.Is: a layout that may be is told to be one. Conditions: it may be (LayOk), and the tables of unicode/utf8 lie as its text lays them. table.Is: a layout that may be is told to be one. Conditions: it may be (LayOk), and the tables of unicode/utf8 lie as its text lays them.
-/
import Derived.Test.YtkplgggdidhnoaaGreatDoorM00
import Derived.Test.YtkplgggdidhnoaaGreatDoorUtf
import Derived.Test.YtkplgggdidhnoaaGreatDoorProg
import Derived.Lib.OthersKept
import Derived.Lib.RuneCountTail
import Derived.WalkLawsBesides
import Derived.WalkSpells
import Derived.Deep.QuietTactic
import Derived.BigQuiet
import Derived.Test.YtkplgggdidhnoaaGreatDoorM05
import Derived.Test.YtkplgggdidhnoaaGreatDoorM03
namespace Go.Proofs.YtkplgggdidhnoaaGreatDoor
open Go.ChangeShapes Go.WideShapes Go.ChangeAt Go.RowKit
set_option linter.unusedVariables false

/-- The tables of unicode/utf8. -/
def Tabs (w : World) : Prop := Lib.Utf8Tabs 0 1 w
theorem Tabs.ch {S : Nat → Prop} {w w' : World} (h : Tabs w) (c : Ch S w w') (h0 : ¬ S 0) (h1 : ¬ S 1) : Tabs w' := by
  have l0 : 0 < w.heap.size := World.block_lt_of_cell? _ _ (h.1 0 (by omega))
  have l1 : 1 < w.heap.size := World.block_lt_of_cell? _ _ (h.2 0 (by omega)).1
  exact ⟨fun i hi => (World.cell?_of_block (w := w) (a := ⟨0, i, none⟩) (c.block 0 l0 h0)).trans (h.1 i hi),
    fun i hi => ⟨(World.cell?_of_block (w := w) (a := ⟨1, 2 * i, none⟩) (c.block 1 l1 h1)).trans (h.2 i hi).1, (World.cell?_of_block (w := w) (a := ⟨1, 2 * i + 1, none⟩) (c.block 1 l1 h1)).trans (h.2 i hi).2⟩⟩
theorem Tabs.ch0 {w w' : World} (h : Tabs w) (c : Ch Noone w w') : Tabs w' := h.ch c (fun h => h) (fun h => h)
theorem Tabs.lt {w : World} (h : Tabs w) : 1 < w.heap.size := World.block_lt_of_cell? _ _ (h.2 0 (by omega)).1

theorem dec_pos (s : ByteArray) (pos : Nat) (h : pos < s.size) : 1 ≤ (Utf8.decode s pos).2 := by
  by_cases ha : (s[pos]'h).toNat < 128
  · rw [decode_ascii s pos h ha]; exact Nat.le_refl _
  · exact (decode_high s pos h (by omega)).2
theorem dec_width (s : ByteArray) (pos : Nat) : (Utf8.decode s pos).2 ≤ 4 := by
  simp only [Utf8.decode]
  repeat' split
  all_goals simp

/-- r is a letter, or is not, by where it lies. -/
theorem letter_cases (r : Int) : (97 ≤ r ∧ r ≤ 122) ∨ (65 ≤ r ∧ r ≤ 90) ∨ (192 ≤ r ∧ r < 215) ∨ (r = 215) ∨ (215 < r ∧ r < 247) ∨ (r = 247) ∨ (247 < r ∧ r ≤ 591) ∨ (591 < r) ∨ (122 < r ∧ r < 192) ∨ (90 < r ∧ r < 97) ∨ r < 65 := by omega

set_option maxHeartbeats 2000000 in
theorem letter_glyph (w : World) (r : Int) : Calls Tryz.prog 136 #[.int .i32 r] w fun e w' => e = .returned (.bool (letterB r)) ∧ w' = w := by
  rcases letter_cases r with ⟨h1, h2⟩ | ⟨h1, h2⟩ | ⟨h1, h2⟩ | rfl | ⟨h1, h2⟩ | rfl | ⟨h1, h2⟩ | h1 | ⟨h1, h2⟩ | ⟨h1, h2⟩ | h1
  all_goals
    go_enter Tryz.func136, Tryz.ntmps136
    go_wp2_with fail
    go_ret
    refine ⟨?_, rfl⟩
    refine congrArg (fun b => Ending.returned (.bool b)) ?_
    first | (simp [letterB]; done) | (rw [Bool.eq_iff_iff]; simp [letterB]; omega)
set_option maxHeartbeats 2000000 in
theorem letter_ref (w : World) (r : Int) : Calls Tryz.prog 133 #[.int .i32 r] w fun e w' => e = .returned (.bool (letterB r)) ∧ w' = w := by
  rcases letter_cases r with ⟨h1, h2⟩ | ⟨h1, h2⟩ | ⟨h1, h2⟩ | rfl | ⟨h1, h2⟩ | rfl | ⟨h1, h2⟩ | h1 | ⟨h1, h2⟩ | ⟨h1, h2⟩ | h1
  all_goals
    go_enter Tryz.func133, Tryz.ntmps133
    go_wp2_with fail
    go_ret
    refine ⟨?_, rfl⟩
    refine congrArg (fun b => Ending.returned (.bool b)) ?_
    first | (simp [letterB]; done) | (rw [Bool.eq_iff_iff]; simp [letterB]; omega)

theorem dec_tail (s : ByteArray) (pos : Nat) (h : pos < s.size) : Lib.decodeGo (s.extract pos s.size) = Utf8.decode s pos := by
  unfold Lib.decodeGo
  rw [if_neg (by simp; omega)]
  exact Lib.tail_decode s pos 0

/-- Is the rune at a byte a wrong one? -/
def badB (s : ByteArray) (pos : Nat) : Bool := (Utf8.decode s pos).1 == 65533 && (Utf8.decode s pos).2 == 1

set_option maxHeartbeats 1000000 in
theorem isWrong_any (s : ByteArray) (pos : Nat) (w : World) (hT : Tabs w) (hs : s.size ≤ 9223372036854775807) (hp : pos < s.size) :
    Calls Tryz.prog 135 #[.string s, .int .i64 pos] w fun e w' => e = .returned (.bool (badB s pos)) ∧ Ch Noone w w' := by
  have HD := Lib.hid (Tryz.utf8_DecodeRuneInString (s.extract pos s.size) w hT)
  have hp0 : (0 : Int) ≤ pos := by omega
  have hp1 : (pos : Int) ≤ s.size := by omega
  have HT := Lib.hid (dec_tail s pos hp)
  clear hT
  go_enter Tryz.func135, Tryz.ntmps135
  go_wp2_with fail
  refine (HD.out).mono ?_
  rintro e w1 ⟨rfl, hb⟩
  rw [HT.out]
  have HB : Hid (badB s pos = ((Utf8.decode s pos).1 == 65533 && (Utf8.decode s pos).2 == 1)) := rfl
  generalize Utf8.decode s pos = d at *
  obtain ⟨d1, d2⟩ := d
  dsimp only at *
  by_cases h1 : d1 = 65533
  · by_cases h2 : d2 = 1
    · subst h1 h2
      go_wp2_with fail
      go_ret
      exact ⟨by rw [HB.out]; rfl, Ch.of_below hb⟩
    · have h2' : ((d2 : Int) == 1) = false := by simp; omega
      subst h1
      go_wp2_with fail
      go_ret
      exact ⟨by rw [HB.out]; simp [h2], Ch.of_below hb⟩
  · have h1' : ((d1 : Int) == 65533) = false := by simp; omega
    go_wp2_with fail
    go_ret
    exact ⟨by rw [HB.out]; simp [h1], Ch.of_below hb⟩
end Go.Proofs.YtkplgggdidhnoaaGreatDoor

namespace Go.Proofs.YtkplgggdidhnoaaGreatDoor
open Go.ChangeShapes Go.WideShapes Go.ChangeAt Go.RowKit
set_option linter.unusedVariables false

theorem runes_step (s : ByteArray) (f pos : Nat) (h : pos < s.size) (hf : s.size ≤ pos + f) :
    ∃ g, f = g + 1 ∧ runes s f pos = (pos, (Utf8.decode s pos).1, (Utf8.decode s pos).2) :: runes s g (pos + (Utf8.decode s pos).2) ∧ s.size ≤ pos + (Utf8.decode s pos).2 + g := by
  obtain ⟨g, rfl⟩ : ∃ g, f = g + 1 := ⟨f - 1, by omega⟩
  have := dec_pos s pos h
  exact ⟨g, rfl, by rw [runes, if_pos h], by omega⟩
theorem runes_end (s : ByteArray) (f pos : Nat) (h : ¬ pos < s.size) : runes s f pos = [] := by
  cases f with
  | zero => rfl
  | succ f => rw [runes, if_neg h]
theorem drop_cons {α : Type} {l : List α} {k : Nat} {x : α} {r : List α} (h : x :: r = l.drop k) : ∃ hk : k < l.length, l[k] = x ∧ r = l.drop (k + 1) := by
  have hk : k < l.length := by
    rcases Nat.lt_or_ge k l.length with h1 | h1
    · exact h1
    · rw [List.drop_eq_nil_of_le h1] at h; cases h
  rw [List.drop_eq_getElem_cons hk] at h
  simp only [List.cons.injEq] at h
  exact ⟨hk, h.1.symm, h.2⟩
theorem drop_nil_len {α : Type} {l : List α} {k : Nat} (h : [] = l.drop k) (hk : k ≤ l.length) : k = l.length := by
  have := congrArg List.length h
  simp at this
  omega
theorem Ch.iterAt {S : Nat → Prop} {a w : World} (h : Ch S a w) {k : Nat} (hk : k < a.heap.size → S k) (s : ByteArray) (pos : Nat) : Ch S a (w.iterAt k s pos) :=
  ⟨h.os, h.tape, h.output, by rw [Lib.iterAt_size]; exact h.size, fun i hi hn => by
    rw [Lib.iterAt_other w k i s pos (fun e => hn (e ▸ hk (e ▸ hi)))]; exact h.block i hi hn⟩

set_option maxHeartbeats 2000000 in
theorem isName_yes (s : ByteArray) (w : World) (hT : Tabs w) (hs : s.size ≤ 9223372036854775807) (ok : NameOk s) :
    Calls Tryz.prog 112 #[.string s] w fun e w' => e = .returned (.bool true) ∧ Ch Noone w w' := by
  have OK := Lib.hid ok
  have n1 := ok.2.1
  have n2 := ok.2.2
  clear ok
  have HT := Lib.hid hT; clear hT
  obtain ⟨l, hl⟩ : ∃ l, l = runes s s.size 0 := ⟨_, rfl⟩
  have HLn : Hid (l = runes s s.size 0) := hl
  rw [← hl] at n1 n2
  clear hl
  go_enter Tryz.func112, Tryz.ntmps112
  go_wp2_with fail
  go_loopw [3] (fun n wr => ∃ (k f pos : Nat), runes s f pos = l.drop k ∧ s.size ≤ pos + f ∧ k ≤ l.length ∧ n = .int .i64 k ∧ wr.heap[w.heap.size]? = some (.stringIter s pos) ∧ Ch Noone w wr) (fun n _ => (9 - intOf n).toNat)
  case atStart => exact ⟨0, s.size, 0, HLn.out.symm, by omega, by omega, rfl, by exact (show (w.heap.push _)[w.heap.size]? = _ by simp), (Ch.refl _ _).alloc _⟩
  case round =>
    obtain ⟨k, f, pos, hr, hf, hk, rfl, hit, hch⟩ := hrel
    have HIt := Lib.hid hit
    by_cases hpos : pos < s.size
    · obtain ⟨g, rfl, hr2, hf2⟩ := runes_step s f pos hpos hf
      rw [hr2] at hr
      obtain ⟨hkl, hx, hr3⟩ := drop_cons hr
      have hok : okRune (pos, (Utf8.decode s pos).1, (Utf8.decode s pos).2) = true := by
        have := OK.out.1
        rw [← HLn.out] at this
        rw [← hx]
        exact List.all_eq_true.1 this _ (List.getElem_mem hkl)
      have hnx := fun ty => Lib.run_next_any_at (P := Tryz.prog) wr w.heap.size s pos ty hit hpos
      have hwr := Lib.hid (isWrong_any s pos (wr.iterAt w.heap.size s (pos + (Utf8.decode s pos).2)) ((HT.out.ch0 hch).ch ((Ch.refl (fun k => k = w.heap.size) wr).iterAt (fun _ => rfl) s _) (by have := HT.out.lt; omega) (by have := HT.out.lt; omega)) hs hpos)
      have hc2 : Ch Noone w (wr.iterAt w.heap.size s (pos + (Utf8.decode s pos).2)) := hch.iterAt (fun h => absurd h (Nat.lt_irrefl _)) s _
      have hi2 := Lib.iterAt_heap wr w.heap.size s pos (pos + (Utf8.decode s pos).2) hit
      have HD := Lib.hid hr3; clear hr3 hr hr2 hx hf hit
      have HF := Lib.hid hf2; clear hf2
      have HB : Hid (badB s pos = ((Utf8.decode s pos).1 == 65533 && (Utf8.decode s pos).2 == 1)) := rfl
      generalize Utf8.decode s pos = d at *
      obtain ⟨d1, d2⟩ := d
      dsimp only at *
      simp only [okRune, Bool.and_eq_true, Bool.or_eq_true, Bool.not_eq_true'] at hok
      obtain ⟨hb, ho⟩ := hok
      have hbad : badB s pos = false := by rw [HB.out]; exact hb
      rw [hbad] at hwr
      clear hb HB hbad
      have HI2 := Lib.hid hi2; clear hi2
      have hlt := letter_glyph
      have hd : letterB d1 = true ∨ (letterB d1 = false ∧ 0 < pos ∧ 48 ≤ d1 ∧ d1 ≤ 57) := by
        cases h : letterB d1 with
        | true => exact .inl rfl
        | false => rw [h] at ho; simp at ho; exact .inr ⟨rfl, ho.1.1, ho.1.2, ho.2⟩
      clear ho
      rcases hd with hl | ⟨hl, hp0, hp1, hp2⟩
      · have HLt : Hid (∀ w, Calls Tryz.prog 136 #[.int .i32 d1] w fun e w' => e = .returned (.bool true) ∧ w' = w) := fun w => by
          have := letter_glyph w d1; rwa [hl] at this
        clear hl hlt
        go_wp2_with fail
        all_goals
          refine hwr.out.mono ?_
          rintro e w1 ⟨rfl, c1⟩
          go_wp2_with fail
          refine (HLt.out _).mono ?_
          rintro e w2 ⟨rfl, rfl⟩
          go_wp2_with fail
          go_roundw
          case rel => exact ⟨k + 1, g, pos + d2, HD.out, HF.out, by omega, by go_num, (c1.block _ (lt_of_heap HI2.out) (fun h => h)).trans HI2.out, hc2.trans c1⟩
          case measure => simp [intOf]; omega
      · have HLt : Hid (∀ w, Calls Tryz.prog 136 #[.int .i32 d1] w fun e w' => e = .returned (.bool false) ∧ w' = w) := fun w => by
          have := letter_glyph w d1; rwa [hl] at this
        clear hl hlt
        go_wp2_with fail
        all_goals
          refine hwr.out.mono ?_
          rintro e w1 ⟨rfl, c1⟩
          go_wp2_with fail
          refine (HLt.out _).mono ?_
          rintro e w2 ⟨rfl, rfl⟩
          go_wp2_with fail
          go_roundw
          case rel => exact ⟨k + 1, g, pos + d2, HD.out, HF.out, by omega, by go_num, (c1.block _ (lt_of_heap HI2.out) (fun h => h)).trans HI2.out, hc2.trans c1⟩
          case measure => simp [intOf]; omega
    · rw [runes_end s f pos hpos] at hr
      obtain rfl := drop_nil_len hr hk
      have hnx := fun ty => Lib.run_next_end_at (P := Tryz.prog) wr w.heap.size s pos ty hit hpos
      clear hr hit hf
      go_wp2_with fail
      go_ret
      exact ⟨by simp; omega, hch⟩
end Go.Proofs.YtkplgggdidhnoaaGreatDoor

namespace Go.Proofs.YtkplgggdidhnoaaGreatDoor
open Go.ChangeShapes Go.WideShapes Go.ChangeAt Go.RowKit
set_option linter.unusedVariables false

theorem runes_size (s : ByteArray) : ∀ (f pos : Nat), s.size ≤ pos + f → s.size ≤ pos + 4 * (runes s f pos).length
  | 0, pos, h => by simp [runes]; omega
  | f + 1, pos, h => by
    by_cases hp : pos < s.size
    · have h1 := dec_pos s pos hp
      have h2 := dec_width s pos
      have := runes_size s f (pos + (Utf8.decode s pos).2) (by omega)
      rw [runes, if_pos hp, List.length_cons]
      omega
    · rw [runes, if_neg hp]; simp; omega
theorem NameOk.size {s : ByteArray} (h : NameOk s) : s.size ≤ 32 := by
  have := runes_size s s.size 0 (by omega)
  have := h.2.2
  omega

set_option maxHeartbeats 1000000 in
theorem areNames_yes (B : Nat → Prop) (w : World) (v : Value) (l : List ByteArray) (hT : Tabs w) (hl : Sl B w v l.length (l.flatMap fStr)) (ok : NamesOk l) (hs : l.length ≤ 10) :
    Calls Tryz.prog 80 #[v] w fun r w' => r = .returned (.bool true) ∧ Ch Noone w w' := by
  have HP := Lib.hid hl
  have HT := Lib.hid hT; clear hT
  have OK := Lib.hid ok; clear ok
  obtain ⟨ao, cap, rfl, q2, q3, -, -⟩ := hl
  have HQ := Lib.hid q3
  clear q3
  go_enter Tryz.func80, Tryz.ntmps80
  go_wp2_with fail
  go_loopw [7] (fun i wr => ∃ k : Nat, k ≤ l.length ∧ i = .int .i64 k ∧ Ch Noone w wr) (fun i _ => (l.length - intOf i).toNat)
  case atStart => exact ⟨0, by omega, rfl, Ch.refl _ _⟩
  case round =>
    obtain ⟨k, hk, rfl, hch⟩ := hrel
    by_cases hkl : k < l.length
    · obtain ⟨b, off, rfl, -, -, hat⟩ := (HP.out.ch0 hch).at (f := fStr) (C := 1) (fun _ => rfl) (by omega) hkl
      have y0 : wr.cell? ⟨b, off + k, none⟩ = some (.string l[k]) := by have := hat 0 (by omega); rw [Nat.mul_one] at this; exact this
      clear hat
      obtain ⟨n1, x1, x2⟩ := OK.out.1 l[k] (List.getElem_mem hkl)
      have HI := Lib.hid (isName_yes l[k] wr (HT.out.ch0 hch) (by have := n1.size; omega) n1)
      have HC : Hid (∀ w1, Ch Noone wr w1 → Calls Tryz.prog 113 #[.slice (some ⟨b, off, none⟩) k cap, .string l[k]] w1 fun r w' => r = .returned (.bool false) ∧ w' = w1) := fun w1 c1 => by
        have hlen : (l.take k).length = k := by simp; omega
        have h := slcontains_str B w1 (.slice (some ⟨b, off, none⟩) k cap) (l.take k) l[k] (by rw [hlen]; exact Sl.take (f := fStr) (C := 1) (fun _ => rfl) (HP.out.ch0 (hch.trans c1)) rfl (Nat.le_of_lt hkl)) (by omega)
        rw [List.any_eq_false.2 fun z hz => by
          obtain ⟨j, hj, rfl⟩ := List.getElem_of_mem hz
          simp only [List.length_take] at hj
          rw [List.getElem_take, OK.out.2 j k (by omega) hkl (by omega)]; simp] at h
        exact h
      clear n1
      generalize l[k] = y at *
      go_wp2_with fail
      refine HI.out.mono ?_
      rintro e w1 ⟨rfl, c1⟩
      have HC1 := Lib.hid (HC.out w1 c1)
      go_wp2_with fail
      refine HC1.out.mono ?_
      rintro e w2 ⟨rfl, rfl⟩
      go_wp2_with fail
      go_roundw
      case rel => exact ⟨k + 1, by omega, by go_num, hch.trans c1⟩
      case measure => simp [intOf]; omega
    · go_wp2_with fail
      go_ret
      exact ⟨rfl, hch⟩
end Go.Proofs.YtkplgggdidhnoaaGreatDoor

namespace Go.Proofs.YtkplgggdidhnoaaGreatDoor
open Go.ChangeShapes Go.WideShapes Go.ChangeAt Go.RowKit
set_option linter.unusedVariables false

set_option maxHeartbeats 4000000 in
set_option maxRecDepth 100000 in
theorem table_yes (B : Nat → Prop) (w : World) (v : Value) (L : Lay) (hL : LayAt B w v L) (ok : LayOk L) (hT : Tabs w) :
    Calls Tryz.prog 44 #[v] w fun r w' => r = .returned (.bool true) ∧ Ch Noone w w' := by
  have HT := Lib.hid hT; clear hT
  have OK := Lib.hid ok
  have s0 := ok.s0
  have s1 := ok.s1
  have g0 := ok.g0
  have g1 := ok.g1
  have p1 := ok.p1
  have r1 := ok.r1
  clear ok
  have HL := Lib.hid hL
  obtain ⟨v1, v2, v3, v4, rs, rfl, h1, h2, h3, h4, h5, h6⟩ := hL
  have H1 := Lib.hid h1
  have H2 := Lib.hid h2
  have H3 := Lib.hid h3
  have H5 := Lib.hid h5
  have H6 := Lib.hid h6
  have hrl : rs.length = L.routes.length := by rw [← h4]; simp
  have H4 := Lib.hid h4; clear h4 h6
  obtain ⟨a1, c1, rfl, -, -, -, -⟩ := h1
  obtain ⟨a2, c2, rfl, -, -, -, -⟩ := h2
  obtain ⟨a3, c3, rfl, -, -, -, -⟩ := h3
  obtain ⟨a4, c4, rfl, -, -, -, -⟩ := h5
  have C0 : Ch Noone w (w.alloc (.cells #[.slice a1 L.secs.length c1, .slice a2 L.pts.length c2, .slice a3 L.sigs.length c3, .slice a4 rs.length c4] 26)) := (Ch.refl _ _).alloc _
  have b0 := Blk.new w 26 #[.slice a1 L.secs.length c1, .slice a2 L.pts.length c2, .slice a3 L.sigs.length c3, .slice a4 rs.length c4]
  have rr : rs.length ≤ 6 := by omega
  have HRL := Lib.hid hrl; clear hrl r1
  obtain ⟨i0, hi0, hz0, hz1, hz2⟩ := info_parts info_str
  go_enter Tryz.func44, Tryz.ntmps44
  go_wp2_with fail
  refine (isIn_yes _ _ _ _ (by omega) (by omega)).mono ?_
  rintro e w1 ⟨rfl, rfl⟩
  go_wp2_with fail
  refine (isIn_yes _ _ _ _ (by omega) (by omega)).mono ?_
  rintro e w1 ⟨rfl, rfl⟩
  go_wp2_with fail
  go_loopw [3, 36] (fun q i wr => ∃ k : Nat, k ≤ L.pts.length ∧ i = .int .i64 k ∧ Ch Noone w wr ∧ Blk wr w.heap.size 26 #[.slice a1 L.secs.length c1, .slice a2 L.pts.length c2, .slice a3 L.sigs.length c3, .slice a4 rs.length c4] ∧
    Own (New (w.heap.size + 1)) wr 9 1 q k ((L.pts.take k).flatMap fun p => fStr p.name)) (fun _ i _ => (L.pts.length - intOf i).toNat)
  case atStart => exact ⟨0, by omega, rfl, C0, b0, rfl, .inl ⟨rfl, rfl⟩⟩
  case round =>
    clear b0 C0
    obtain ⟨k, hk, rfl, hch, hb, hown⟩ := hrel
    have HOwn := Lib.hid hown; clear hown
    by_cases hkl : k < L.pts.length
    · obtain ⟨b, off, rfl, -, -, hat⟩ := (H2.out.ch0 hch).at (f := fPnt) (C := 2) (fun _ => rfl) (by omega) hkl
      have y0 : wr.cell? ⟨b, off + k * 2, none⟩ = some (.string L.pts[k].name) := hat 0 (by omega)
      have y1 : wr.cell? ⟨b, off + k * 2 + 1, none⟩ = some (.int .i64 L.pts[k].sec) := hat 1 (by omega)
      clear hat
      have x0 := (OK.out.sec L.pts[k] (List.getElem_mem hkl)).1
      have x1 := (OK.out.sec L.pts[k] (List.getElem_mem hkl)).2
      have HTk : Hid (((L.pts.take k).flatMap fun p => fStr p.name) ++ [.string L.pts[k].name] = (L.pts.take (k + 1)).flatMap fun p => fStr p.name) := take_flat (fun p : Pnt => fStr p.name) L.pts k hkl
      generalize L.pts[k] = y at *
      have hsz : w.heap.size + 1 ≤ wr.heap.size := hb.lt
      go_wp2_with (at_builtin; refine And.right (a := True) ?_)
      refine ⟨trivial, ?_⟩
      refine wpList_append_own _ rfl _ _ 22 rfl (w.heap.size + 1) 9 i0 _ 1 16 Tryz.underlying22 hi0 hz0 hz1 hz2 rfl (by decide) _ k ((L.pts.take k).flatMap fun p => fStr p.name) (by exact rfl) (by exact (HOwn.out.ch (((Ch.refl Noone wr).alloc _).alloc _) (fun _ _ _ h => h)).row) _ 1 1 [.string y.name] (by exact rfl) rfl (by exact fresh_at _ _ (by simp) _ [.string y.name]) (one_str _) (by unfold maxLen; omega) (by omega) (by simp; omega) ?_
      intro v' w1 hown hgrow _
      have c1 := Ch.own HOwn.out hgrow
      have p1 : Blk w1 wr.heap.size 88 #[.string y.name, .int .i64 y.sec] := c1.blk ((Blk.new _ _ _).alloc _) (fun h => Nat.lt_irrefl _ h.2)
      have b1 := c1.blk ((hb.alloc (.cells #[.string y.name, .int .i64 y.sec] 88)).alloc (.cells #[.string y.name] 9)) (fun h => by have := h.1; omega)
      have ch1 : Ch Noone w w1 := ((hch.alloc _).alloc _).then c1 fun i hi h => absurd h.1 (by omega)
      rw [HTk.out] at hown
      have l1 := b1.cell 0
      have q1 := p1.cell 1
      simp only [List.getElem?_toArray, List.getElem?_cons_zero, List.getElem?_cons_succ] at l1 q1
      have HB1 := Lib.hid b1
      have HOw := Lib.hid (Own.of hown)
      clear hgrow hown b1 p1 c1 HOwn HTk
      go_wp2_with fail
      refine (isIn_yes _ _ _ _ (by omega) (by omega)).mono ?_
      rintro e w2 ⟨rfl, rfl⟩
      go_wp2_with fail
      go_roundw
      case rel => exact ⟨k + 1, by omega, by go_num, ch1, HB1.out, HOw.out⟩
      case measure => simp [intOf]; omega
    · have HPs : Hid (Sl (fun g => g < wr.heap.size) wr u3 (L.pts.map (·.name)).length ((L.pts.map (·.name)).flatMap fStr)) := by
        have h := HOwn.out.sl
        rw [List.take_of_length_le (by omega), show k = L.pts.length by omega] at h
        have e : (L.pts.flatMap fun p => fStr p.name) = (L.pts.map (·.name)).flatMap fStr := by rw [List.flatMap_map]
        rw [e] at h
        unfold Hid
        rw [List.length_map]
        exact h.mono fun _ _ h => h
      obtain ⟨M, hM⟩ : ∃ M, M = wr.heap.size := ⟨_, rfl⟩
      rw [← hM] at HPs
      have hM1 : w.heap.size < M := by rw [hM]; exact hb.lt
      have hM2 : M ≤ wr.heap.size := by omega
      clear hM HOwn
      have l3 := hb.cell 3
      simp only [List.getElem?_toArray, List.getElem?_cons_zero, List.getElem?_cons_succ] at l3
      go_wp2_with fail
      clear l3
      go_loopw [4, 57] (fun q i wr => ∃ k : Nat, k ≤ rs.length ∧ i = .int .i64 k ∧ Ch Noone w wr ∧ Blk wr w.heap.size 26 #[.slice a1 L.secs.length c1, .slice a2 L.pts.length c2, .slice a3 L.sigs.length c3, .slice a4 rs.length c4] ∧
        Sl (fun g => g < M) wr u3 (L.pts.map (·.name)).length ((L.pts.map (·.name)).flatMap fStr) ∧
        Own (New M) wr 9 1 q k ((rs.take k).flatMap fun x => fStr x.1.name) ∧ M ≤ wr.heap.size) (fun _ i _ => (rs.length - intOf i).toNat)
      case atStart => exact ⟨0, by omega, rfl, hch, hb, HPs.out, ⟨rfl, .inl ⟨rfl, rfl⟩⟩, hM2⟩
      case round =>
        clear hch hb HPs hM2 hk hkl
        obtain ⟨k, hk, rfl, hch, hb, hps, hown, hM2⟩ := hrel
        have HOwn := Lib.hid hown; clear hown
        have HPs := Lib.hid hps; clear hps
        by_cases hkl : k < rs.length
        · obtain ⟨b, off, rfl, -, -, hat⟩ := (H5.out.ch0 hch).at (f := fRoute) (C := 6) (fun _ => rfl) (by omega) hkl
          have y0 : wr.cell? ⟨b, off + k * 6, none⟩ = some (.string rs[k].1.name) := hat 0 (by omega)
          have y1 : wr.cell? ⟨b, off + k * 6 + 1, none⟩ = some (.int .i64 rs[k].1.frm) := hat 1 (by omega)
          have y2 : wr.cell? ⟨b, off + k * 6 + 2, none⟩ = some (.int .i64 rs[k].1.to) := hat 2 (by omega)
          have y3 : wr.cell? ⟨b, off + k * 6 + 3, none⟩ = some rs[k].2.1 := hat 3 (by omega)
          have y4 : wr.cell? ⟨b, off + k * 6 + 4, none⟩ = some rs[k].2.2.1 := hat 4 (by omega)
          have y5 : wr.cell? ⟨b, off + k * 6 + 5, none⟩ = some rs[k].2.2.2 := hat 5 (by omega)
          clear hat
          have HTk : Hid (((rs.take k).flatMap fun x => fStr x.1.name) ++ [.string rs[k].1.name] = (rs.take (k + 1)).flatMap fun x => fStr x.1.name) := take_flat (fun x : Route × Value × Value × Value => fStr x.1.name) rs k hkl
          have HRo : Hid (RouteOk L rs[k].1) := OK.out.route _ (by rw [← H4.out]; exact List.mem_map.2 ⟨_, List.getElem_mem hkl, rfl⟩)
          have HSr : Hid (SlR B w rs[k]) := H6.out _ (List.getElem_mem hkl)
          generalize rs[k] = y at *
          obtain ⟨rt, vp, vn, vf⟩ := y
          dsimp only at *
          have HV : Hid ((∃ a c, vp = .slice a rt.path.length c) ∧ (∃ a c, vn = .slice a rt.pts.length c) ∧ (∃ a c, vf = .slice a rt.flank.length c)) := by
            obtain ⟨⟨a, c, e, _⟩, ⟨a', c', e', _⟩, ⟨a'', c'', e'', _⟩⟩ := HSr.out
            exact ⟨⟨a, c, e⟩, ⟨a', c', e'⟩, ⟨a'', c'', e''⟩⟩
          obtain ⟨⟨ap, cp, rfl⟩, ⟨an, cn, rfl⟩, ⟨af, cf, rfl⟩⟩ := HV.out
          clear HV
          go_wp2_with (at_builtin; refine And.right (a := True) ?_)
          refine ⟨trivial, ?_⟩
          refine wpList_append_own _ rfl _ _ 22 rfl M 9 i0 _ 1 16 Tryz.underlying22 hi0 hz0 hz1 hz2 rfl (by decide) _ k ((rs.take k).flatMap fun x => fStr x.1.name) (by exact rfl) (by exact (HOwn.out.ch (((Ch.refl Noone wr).alloc _).alloc _) (fun _ _ _ h => h)).row) _ 1 1 [.string rt.name] (by exact rfl) rfl (by exact fresh_at _ _ (by simp) _ [.string rt.name]) (one_str _) (by unfold maxLen; omega) (by omega) (by simp; omega) ?_
          intro v' w1 hown hgrow _
          have c1 := Ch.own HOwn.out hgrow
          have p1 : Blk w1 wr.heap.size 54 #[.string rt.name, .int .i64 rt.frm, .int .i64 rt.to, .slice ap rt.path.length cp, .slice an rt.pts.length cn, .slice af rt.flank.length cf] := c1.blk ((Blk.new _ _ _).alloc _) (fun h => Nat.lt_irrefl _ h.2)
          have b1 := c1.blk ((hb.alloc (.cells #[.string rt.name, .int .i64 rt.frm, .int .i64 rt.to, .slice ap rt.path.length cp, .slice an rt.pts.length cn, .slice af rt.flank.length cf] 54)).alloc (.cells #[.string rt.name] 9)) (fun h => by have := h.1; omega)
          have ch1 : Ch Noone w w1 := ((hch.alloc _).alloc _).then c1 fun i hi h => absurd h.1 (by omega)
          rw [HTk.out] at hown
          have HPs1 : Hid (Sl (fun g => g < M) w1 u3 (L.pts.map (·.name)).length ((L.pts.map (·.name)).flatMap fStr)) := (HPs.out.ch0 (((Ch.refl Noone wr).alloc _).alloc _)).ch c1 (fun b hb _ h => by have := h.1; omega)
          have HOw := Lib.hid (Own.of hown)
          have hM3 : M ≤ w1.heap.size := Nat.le_trans hM2 (Nat.le_trans (Nat.le_trans ((Ch.refl Noone wr).alloc _).size ((Ch.refl Noone _).alloc _).size) c1.size)
          have HIR := Lib.hid (isRoute_yes B w1 _ L (rt, .slice ap rt.path.length cp, .slice an rt.pts.length cn, .slice af rt.flank.length cf) (HL.out.ch0 ch1) (HSr.out.ch ch1 (fun _ _ _ h => h)) HRo.out s1 (by omega) g1)
          have l0 := b1.cell 0
          have l1 := b1.cell 1
          have l2 := b1.cell 2
          have l3 := b1.cell 3
          have q0 := p1.cell 0
          have q1 := p1.cell 1
          have q2 := p1.cell 2
          have q3 := p1.cell 3
          have q4 := p1.cell 4
          have q5 := p1.cell 5
          simp only [List.getElem?_toArray, List.getElem?_cons_zero, List.getElem?_cons_succ] at l0 l1 l2 l3 q0 q1 q2 q3 q4 q5
          have HB1 := Lib.hid b1
          clear hgrow hown b1 p1 c1 HOwn HTk HPs
          dsimp only at HIR
          go_wp2_with fail
          refine HIR.out.mono ?_
          rintro e w2 ⟨rfl, c2⟩
          go_wp2_with fail
          go_roundw
          case rel => exact ⟨k + 1, by omega, by go_num, ch1.trans c2, c2.blk HB1.out (fun h => h), HPs1.out.ch0 c2, HOw.out.ch c2 (fun _ _ _ h => h), Nat.le_trans hM3 c2.size⟩
          case measure => simp [intOf]; omega
        · have HRs : Hid (Sl (New M) wr u4 (L.routes.map (·.name)).length ((L.routes.map (·.name)).flatMap fStr)) := by
            have h := HOwn.out.sl
            rw [List.take_of_length_le (by omega), show k = rs.length by omega] at h
            have e : (rs.flatMap fun x => fStr x.1.name) = (L.routes.map (·.name)).flatMap fStr := by rw [← H4.out, List.map_map, List.flatMap_map]; rfl
            rw [e] at h
            unfold Hid
            rw [List.length_map, ← HRL.out]
            exact h
          have l0 := hb.cell 0
          simp only [List.getElem?_toArray, List.getElem?_cons_zero] at l0
          have HB := Lib.hid hb
          clear HOwn hb
          go_wp2_with fail
          refine (areNames_yes B _ _ _ (HT.out.ch0 hch) (H1.out.ch0 hch) OK.out.nsec (by omega)).mono ?_
          rintro e w1 ⟨rfl, c1⟩
          clear l0
          have l2 := (c1.blk HB.out (fun h => h)).cell 2
          simp only [List.getElem?_toArray, List.getElem?_cons_zero, List.getElem?_cons_succ] at l2
          go_wp2_with fail
          refine (areNames_yes B _ _ _ (HT.out.ch0 (hch.trans c1)) (H3.out.ch0 (hch.trans c1)) OK.out.nsig (by omega)).mono ?_
          rintro e w2 ⟨rfl, c2⟩
          clear l2
          go_wp2_with fail
          refine (areNames_yes _ _ _ _ (HT.out.ch0 ((hch.trans c1).trans c2)) (HPs.out.ch0 (c1.trans c2)) OK.out.npts (by simp; omega)).mono ?_
          rintro e w3 ⟨rfl, c3⟩
          go_wp2_with fail
          refine (areNames_yes _ _ _ _ (HT.out.ch0 (((hch.trans c1).trans c2).trans c3)) (HRs.out.ch0 ((c1.trans c2).trans c3)) OK.out.nroutes (by rw [List.length_map, ← HRL.out]; omega)).mono ?_
          rintro e w4 ⟨rfl, c4⟩
          go_wp2_with fail
          go_ret
          exact ⟨rfl, (((hch.trans c1).trans c2).trans c3).trans c4⟩
end Go.Proofs.YtkplgggdidhnoaaGreatDoor
