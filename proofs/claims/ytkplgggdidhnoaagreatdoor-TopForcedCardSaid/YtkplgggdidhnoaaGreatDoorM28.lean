/-
  sum: that it tells some number. Conditions: sizes. wire: number, truth, thing: what they lay. Conditions: sizes. wire: Pack: that it returns. Conditions: sizes. wire: taken: what is taken off bytes. Conditions: sizes.
-/
import Derived.Test.YtkplgggdidhnoaaGreatDoorM27
import Derived.Lib.AppendStr
import Derived.Laws.Bits64b
namespace Go.Proofs.YtkplgggdidhnoaaGreatDoor
open Go.ChangeShapes Go.WideShapes Go.ChangeAt Go.RowKit
set_option linter.unusedVariables false

set_option maxRecDepth 100000 in
set_option maxHeartbeats 2000000 in
theorem sum_one (w : World) (n c : Int) : Calls Tryz.prog 141 #[.int .u32 n, .int .u8 c] w fun e w' => (∃ m : Int, e = .returned (.int .u32 m)) ∧ w' = w := by
  go_enter Tryz.func141, Tryz.ntmps141
  go_wp2_with fail
  go_loop [0, 10] (fun s i => (∃ m : Int, s = .int .u32 m) ∧ ∃ k : Nat, k ≤ 8 ∧ i = .int .i64 k) (fun _ i => (8 - intOf i).toNat)
  case atStart => exact ⟨⟨_, rfl⟩, 0, by omega, rfl⟩
  case round =>
    obtain ⟨⟨m, rfl⟩, k, hk, rfl⟩ := hrel
    by_cases hk8 : k < 8
    · go_wp2_with fail
      all_goals
        go_round
        case rel => exact ⟨⟨_, rfl⟩, k + 1, by omega, by go_num⟩
        case measure => simp [intOf]; omega
    · go_wp2_with fail
      go_ret
      exact ⟨⟨_, rfl⟩, rfl⟩

/-- Cells of bytes. -/
def BytesV (vs : List Value) : Prop := ∀ u ∈ vs, ∃ k : Int, u = .int .u8 k ∧ 0 ≤ k ∧ k < 256
theorem BytesV.nil : BytesV [] := fun u hu => by cases hu
theorem BytesV.app {a b : List Value} (h : BytesV a) (k : BytesV b) : BytesV (a ++ b) := fun u hu => by
  rcases List.mem_append.1 hu with hu | hu
  · exact h u hu
  · exact k u hu
theorem BytesV.one {a : List Value} (h : BytesV a) : ∀ u ∈ a, u.oneCell' = true := fun u hu => by
  obtain ⟨k, rfl, -⟩ := h u hu
  rfl
theorem BytesV.get {a : List Value} (h : BytesV a) {i : Nat} (hi : i < a.length) : ∃ k : Int, a[i]? = some (.int .u8 k) ∧ 0 ≤ k ∧ k < 256 := by
  obtain ⟨k, e, h1, h2⟩ := h _ (List.getElem_mem hi)
  exact ⟨k, by rw [List.getElem?_eq_getElem hi, e], h1, h2⟩

set_option maxRecDepth 100000 in
set_option maxHeartbeats 2000000 in
theorem sum_of (B : Nat → Prop) (w : World) (g : Nat) (v : Value) (n : Nat) (vs : List Value) (hg : Blk w g 81 #[v]) (hv : Sl B w v n vs) (hb : BytesV vs) (hl : vs.length = n) (hn : n ≤ 100000) :
    Calls Tryz.prog 119 #[.slice (some ⟨g, 0, none⟩) 1 1] w fun e w' => (∃ m : Int, e = .returned (.int .u32 m)) ∧ w' = w := by
  have y0 : w.cell? ⟨g, 0, none⟩ = some v := hg.cell 0
  have HN := Lib.hid hn
  obtain ⟨a, c, rfl, k1, k2, -, hat⟩ := hv
  have HA := Lib.hid hat
  have HL := Lib.hid hl
  clear hg hat hn k2 hl
  go_enter Tryz.func119, Tryz.ntmps119
  go_wp2_with fail
  go_loop [3, 10] (fun s i => (∃ m : Int, s = .int .u32 m) ∧ (i = .int .i64 0 ∨ i = .int .i64 1)) (fun _ i => (1 - intOf i).toNat)
  case atStart => exact ⟨⟨_, rfl⟩, .inl rfl⟩
  case round =>
    obtain ⟨⟨m, rfl⟩, hi⟩ := hrel
    rcases hi with rfl | rfl
    · go_wp2_with fail
      go_loop [3, 16] (fun s i => (∃ m : Int, s = .int .u32 m) ∧ ∃ k : Nat, k ≤ n ∧ i = .int .i64 k) (fun _ i => (n - intOf i).toNat)
      case atStart => exact ⟨⟨_, rfl⟩, 0, by omega, rfl⟩
      case round =>
        clear y0
        obtain ⟨⟨m, rfl⟩, k, hk, rfl⟩ := hrel
        by_cases hkn : k < n
        · obtain ⟨b, off, rfl, -, hlt, hc⟩ := HA.out (by intro e; have h := HL.out; rw [e] at h; simp at h; omega)
          obtain ⟨x, hx, hx0, hx1⟩ := hb.get (i := k) (by rw [HL.out]; exact hkn)
          have y1 : w.cell? ⟨b, off + k, none⟩ = some (.int .u8 x) := (hc k (by rw [HL.out]; exact hkn)).trans hx
          have hk0 : (0 : Int) ≤ k := by omega
          have hk1 : (k : Int) < n := by omega
          have HS := Lib.hid (sum_one w m x)
          have hn := HN.out
          clear hc hx
          go_wp2_with fail
          refine HS.out.mono ?_
          rintro e w1 ⟨⟨m', rfl⟩, rfl⟩
          go_wp2_with fail
          go_round
          case rel => exact ⟨⟨_, rfl⟩, k + 1, by omega, by go_num⟩
          case measure => simp [intOf]; omega
        · go_wp2_with fail
          go_round
          case rel => exact ⟨⟨_, rfl⟩, .inr rfl⟩
          case measure => simp [intOf]
    · go_wp2_with fail
      go_ret
      exact ⟨⟨_, rfl⟩, rfl⟩
end Go.Proofs.YtkplgggdidhnoaaGreatDoor

namespace Go.Proofs.YtkplgggdidhnoaaGreatDoor
open Go.ChangeShapes Go.WideShapes Go.ChangeAt Go.RowKit
set_option linter.unusedVariables false

/-- A slice that was just built. -/
theorem Sl.fresh (w : World) (e g n : Nat) (xs : List Value) (hg : g = w.heap.size) (hn : n ≤ 9223372036854775807) : Sl (fun _ => True) (w.alloc (.cells xs.toArray e)) (.slice (some ⟨g, 0, none⟩) n n) n xs :=
  ⟨_, _, rfl, Nat.le_refl _, hn, (fun h => by cases h), fun _ => ⟨g, 0, rfl, trivial, by simp [hg], fun i hi => by
    have := (Blk.newk w g hg e xs.toArray).cell i
    rw [Nat.zero_add, this]
    simp⟩⟩
theorem BytesV.single {x : Int} (h0 : 0 ≤ x) (h1 : x < 256) : BytesV [.int .u8 x] := fun u hu => by
  simp only [List.mem_cons, List.not_mem_nil, or_false] at hu
  exact ⟨x, hu, h0, h1⟩
theorem BytesV.two {x y : Int} (h0 : 0 ≤ x) (h1 : x < 256) (h2 : 0 ≤ y) (h3 : y < 256) : BytesV [.int .u8 x, .int .u8 y] := fun u hu => by
  simp only [List.mem_cons, List.not_mem_nil, or_false] at hu
  rcases hu with hu | hu
  · exact ⟨x, hu, h0, h1⟩
  · exact ⟨y, hu, h2, h3⟩

theorem Own.nil (O : Nat → Prop) (w : World) (e C : Nat) : Own O w e C (.slice none 0 0) 0 [] := ⟨by simp, .inl ⟨rfl, rfl⟩⟩

set_option maxRecDepth 100000 in
set_option maxHeartbeats 2000000 in
theorem number_any (base : Nat) (w : World) (v : Value) (n : Nat) (vs : List Value) (z : Int) (k : Nat) (hv : Own (New base) w 5 1 v n vs) (hb : BytesV vs) (hk : k ≤ 8) (hn : n ≤ 90000) (hbase : base ≤ w.heap.size) :
    Calls Tryz.prog 118 #[v, .int .u64 z, .int .i64 k] w fun e w' => ∃ v' vs', e = .returned v' ∧ Own (New base) w' 5 1 v' (n + k) vs' ∧ BytesV vs' ∧ Ch (fun g => base ≤ g) w w' := by
  obtain ⟨i0, hi0, hz0, hz1, hz2⟩ := info_parts info_byte
  have HV := Lib.hid hv
  have HB := Lib.hid hb
  have HN := Lib.hid hn
  clear hv hb hn
  go_enter Tryz.func118, Tryz.ntmps118
  go_wp2_with fail
  go_loopw [0, 9] (fun s i wr => ∃ (j : Nat) (us : List Value), j ≤ k ∧ i = .int .i64 j ∧ Own (New base) wr 5 1 s (n + j) us ∧ BytesV us ∧ Ch (fun g => base ≤ g) w wr) (fun _ i _ => (k - intOf i).toNat)
  case atStart => exact ⟨0, vs, by omega, rfl, HV.out, HB.out, Ch.refl _ _⟩
  case round =>
    obtain ⟨j, us, hj, rfl, ho, hbu, hch⟩ := hrel
    have HO := Lib.hid ho
    have HU := Lib.hid hbu
    clear ho hbu
    by_cases hjk : j < k
    · have hjk' : (j : Int) < k := by omega
      have hj0 : (0 : Int) ≤ j := by omega
      go_wp2_with (at_builtin; refine And.right (a := True) ?_)
      refine ⟨trivial, ?_⟩
      refine wpList_append_sl _ rfl _ _ 81 rfl base 5 i0 _ 1 1 Tryz.underlying81 hi0 hz0 hz1 hz2 rfl (by decide) _ (n + j) us (by exact rfl) (HO.out.ch (S := Noone) ((Ch.refl Noone wr).alloc _) (fun _ _ _ h => h)) (fun _ => True) _ 1 [.int .u8 (z / 2 ^ (8 * (k - 1 - j)) % 256)] (by exact rfl) (Sl.fresh _ _ _ _ _ rfl (by omega)) rfl (BytesV.single (by omega) (by omega)).one (by have := HN.out; unfold maxLen; omega) (by have := HN.out; omega) (by have := hch.size; simp; omega) ?_
      intro v' w2 ho2 c2
      have HO2 := Lib.hid ho2
      have C2 : Hid (Ch (fun g => base ≤ g) w w2) := (hch.trans ((Ch.refl _ _).alloc _)).then c2 fun i _ h => h.1
      have HU2 : Hid (BytesV (us ++ [.int .u8 (z / 2 ^ (8 * (k - 1 - j)) % 256)])) := HU.out.app (BytesV.single (by omega) (by omega))
      clear ho2 c2
      go_wp2_with fail
      go_roundw
      case rel => exact ⟨j + 1, _, by omega, by go_num, HO2.out, HU2.out, C2.out⟩
      case measure => simp [intOf]; omega
    · go_wp2_with fail
      go_ret
      have e : n + j = n + k := by omega
      rw [e] at HO
      exact ⟨_, us, rfl, HO.out, HU.out, hch⟩

theorem truth_any (w : World) (b : Bool) : Calls Tryz.prog 140 #[.bool b] w fun e w' => (∃ x : Int, e = .returned (.int .u8 x) ∧ 0 ≤ x ∧ x < 256) ∧ w' = w := by
  cases b
  all_goals
    go_enter Tryz.func140, Tryz.ntmps140
    go_wp2_with fail
    go_ret
    exact ⟨⟨_, rfl, by decide, by decide⟩, rfl⟩

theorem BytesV.str (s : ByteArray) : BytesV (Lib.strCells s) := fun u hu => by
  unfold Lib.strCells at hu
  obtain ⟨c, -, rfl⟩ := List.mem_map.1 hu
  exact ⟨_, rfl, by omega, by have := c.toNat_lt; omega⟩

set_option maxRecDepth 100000 in
set_option maxHeartbeats 4000000 in
theorem thing_any (O : Nat → Prop) (base : Nat) (w : World) (v : Value) (n : Nat) (vs : List Value) (b : Nat) (xs : List Item) (i : Int) (hv : Own (New base) w 5 1 v n vs) (hb : BytesV vs) (hn : n ≤ 80000) (hbase : base ≤ w.heap.size) (hc : CrateAt O w b xs) :
    Calls Tryz.prog 117 #[v, .pointer (some ⟨b, 0, none⟩), .int .i64 i] w fun e w' => ∃ (v' : Value) (m : Nat) (vs' : List Value) (t : Bool), e = .returned (.tuple #[v', .bool t]) ∧ n ≤ m ∧ m ≤ n + 400 ∧ Own (New base) w' 5 1 v' m vs' ∧ BytesV vs' ∧ Ch (fun g => base ≤ g) w w' := by
  obtain ⟨i0, hi0, hz0, hz1, hz2⟩ := info_parts info_byte
  have HI := Lib.hid (crate_int O w b xs i hc)
  have HT := Lib.hid (crate_text O w b xs i hc)
  have HBo := Lib.hid (crate_bool O w b xs i hc)
  have HV := Lib.hid hv
  have HB := Lib.hid hb
  have HN := Lib.hid hn
  clear hv hb hc hn
  go_enter Tryz.func117, Tryz.ntmps117
  go_wp2_with fail
  refine HI.out.mono ?_
  rintro e w1 ⟨⟨k, t, rfl⟩, rfl⟩
  cases t
  · go_wp2_with fail
    refine HT.out.mono ?_
    rintro e w2 ⟨⟨s, t, rfl, hs⟩, rfl⟩
    cases t
    · go_wp2_with fail
      refine HBo.out.mono ?_
      rintro e w3 ⟨⟨bv, t, rfl⟩, rfl⟩
      have HTr := Lib.hid (truth_any w3 bv)
      go_wp2_with fail
      refine HTr.out.mono ?_
      rintro e w4 ⟨⟨x, rfl, h0, h1⟩, rfl⟩
      go_wp2_with (at_builtin; refine And.right (a := True) ?_)
      refine ⟨trivial, ?_⟩
      refine wpList_append_sl _ rfl _ _ 81 rfl base 5 i0 _ 1 1 Tryz.underlying81 hi0 hz0 hz1 hz2 rfl (by decide) _ n vs (by exact rfl) (HV.out.ch (S := Noone) ((Ch.refl Noone w4).alloc _) (fun _ _ _ h => h)) (fun _ => True) _ 2 [.int .u8 3, .int .u8 x] (by exact rfl) (Sl.fresh _ _ _ _ _ rfl (by omega)) rfl (BytesV.two (by omega) (by omega) h0 h1).one (by have := HN.out; unfold maxLen; omega) (by have := HN.out; omega) (by simp; omega) ?_
      intro v' w5 ho2 c2
      have HO2 := Lib.hid ho2
      have C2 : Hid (Ch (fun g => base ≤ g) w4 w5) := ((Ch.refl _ _).alloc _).then c2 fun i _ h => h.1
      have HU2 : Hid (BytesV (vs ++ [.int .u8 3, .int .u8 x])) := HB.out.app (BytesV.two (by omega) (by omega) h0 h1)
      clear ho2 c2
      go_wp2_with fail
      go_ret2
      exact ⟨_, _, _, _, rfl, by omega, by omega, HO2.out, HU2.out, C2.out⟩
    · have HS := Lib.hid hs
      have hs0 : (0 : Int) ≤ s.size := by omega
      go_wp2_with (at_builtin; refine And.right (a := True) ?_)
      refine ⟨trivial, ?_⟩
      refine wpList_append_sl _ rfl _ _ 81 rfl base 5 i0 _ 1 1 Tryz.underlying81 hi0 hz0 hz1 hz2 rfl (by decide) _ n vs (by exact rfl) (HV.out.ch (S := Noone) ((Ch.refl Noone w2).alloc _) (fun _ _ _ h => h)) (fun _ => True) _ 2 [.int .u8 2, .int .u8 ((s.size : Int) % 256)] (by exact rfl) (Sl.fresh _ _ _ _ _ rfl (by omega)) rfl (BytesV.two (by omega) (by omega) (by omega) (by omega)).one (by have := HN.out; unfold maxLen; omega) (by have := HN.out; omega) (by simp; omega) ?_
      intro v' w5 ho2 c2
      have HO2 := Lib.hid ho2
      have C2 : Hid (Ch (fun g => base ≤ g) w2 w5) := ((Ch.refl _ _).alloc _).then c2 fun i _ h => h.1
      have HU2 : Hid (BytesV (vs ++ [.int .u8 2, .int .u8 ((s.size : Int) % 256)])) := HB.out.app (BytesV.two (by omega) (by omega) (by omega) (by omega))
      clear ho2 c2
      have z2 := C2.out.size
      go_wp2_with (at_builtin; refine And.right (a := True) ?_)
      refine ⟨trivial, ?_⟩
      refine Lib.wpList_append_own_string _ rfl _ _ 81 9 rfl base 5 i0 Tryz.underlying81 Tryz.underlying9 hi0 hz0 hz1 hz2 _ (n + 2) _ (by exact rfl) HO2.out.row s (by exact rfl) (by have := HN.out; have := HS.out; unfold maxLen; omega) (by have := HN.out; have := HS.out; omega) (by omega) ?_
      intro v6 w6 hown hgrow _
      have cc := Ch.own' HO2.out hgrow
      have HO6 := Lib.hid (Own.of hown)
      have C6 : Hid (Ch (fun g => base ≤ g) w2 w6) := C2.out.then cc fun i _ h => h.1
      have HU6 : Hid (BytesV (vs ++ [.int .u8 2, .int .u8 ((s.size : Int) % 256)] ++ Lib.strCells s)) := HU2.out.app (BytesV.str s)
      clear hown hgrow cc
      go_wp2_with fail
      go_ret2
      exact ⟨_, _, _, _, rfl, by omega, by have := HS.out; omega, HO6.out, HU6.out, C6.out⟩
  · go_wp2_with (at_builtin; refine And.right (a := True) ?_)
    refine ⟨trivial, ?_⟩
    refine wpList_append_sl _ rfl _ _ 81 rfl base 5 i0 _ 1 1 Tryz.underlying81 hi0 hz0 hz1 hz2 rfl (by decide) _ n vs (by exact rfl) (HV.out.ch (S := Noone) ((Ch.refl Noone w1).alloc _) (fun _ _ _ h => h)) (fun _ => True) _ 1 [.int .u8 1] (by exact rfl) (Sl.fresh _ _ _ _ _ rfl (by omega)) rfl (BytesV.single (by omega) (by omega)).one (by have := HN.out; unfold maxLen; omega) (by have := HN.out; omega) (by simp; omega) ?_
    intro v' w5 ho2 c2
    have HO2 := Lib.hid ho2
    have C2 : Hid (Ch (fun g => base ≤ g) w1 w5) := ((Ch.refl _ _).alloc _).then c2 fun i _ h => h.1
    have HU2 : Hid (BytesV (vs ++ [.int .u8 1])) := HB.out.app (BytesV.single (by omega) (by omega))
    have z2 := C2.out.size
    have HNu := fun z => Lib.hid (number_any base w5 v' (n + 1) _ z 8 HO2.out HU2.out (by omega) (by have := HN.out; omega) (by omega))
    clear ho2 c2
    go_wp2_with fail
    refine (HNu _).out.mono ?_
    rintro e w6 ⟨v6, us, rfl, ho6, hb6, c6⟩
    have HO6 := Lib.hid ho6
    have HU6 := Lib.hid hb6
    clear ho6 hb6
    go_wp2_with fail
    go_ret2
    exact ⟨_, _, _, _, rfl, by omega, by omega, HO6.out, HU6.out, C2.out.trans c6⟩
end Go.Proofs.YtkplgggdidhnoaaGreatDoor

namespace Go.Proofs.YtkplgggdidhnoaaGreatDoor
open Go.ChangeShapes Go.WideShapes Go.ChangeAt Go.RowKit
set_option linter.unusedVariables false

theorem Own.fresh1 (w : World) (e : Nat) (x : Value) (base g : Nat) (hg : g = w.heap.size) (hb : base ≤ g) : Own (New base) (w.alloc (.cells #[x] e)) e 1 (.slice (some ⟨g, 0, none⟩) 1 1) 1 [x] :=
  ⟨rfl, .inr ⟨g, 1, #[x], rfl, hb, Blk.newk w g hg e #[x], Nat.le_refl _, by unfold maxLen; omega, rfl, rfl⟩⟩

theorem pack_nil (w : World) : Calls Tryz.prog 92 #[.pointer none] w fun e w' => e = .returned (.tuple #[.slice none 0 0, .int .i64 1]) ∧ w' = w := by
  go_enter Tryz.func92, Tryz.ntmps92
  go_wp2_with fail
  go_ret2
  exact ⟨rfl, rfl⟩

set_option maxRecDepth 100000 in
set_option maxHeartbeats 4000000 in
theorem pack_any (O : Nat → Prop) (w : World) (b : Nat) (xs : List Item) (hc : CrateAt O w b xs) :
    Calls Tryz.prog 92 #[.pointer (some ⟨b, 0, none⟩)] w fun e w' => ∃ (v : Value) (n : Nat) (vs : List Value) (er : Int), e = .returned (.tuple #[v, .int .i64 er]) ∧ n ≤ 60000 ∧ Own (New w.heap.size) w' 5 1 v n vs ∧ BytesV vs ∧ Ch Noone w w' := by
  obtain ⟨i0, hi0, hz0, hz1, hz2⟩ := info_parts info_byte
  have hx := hc.1
  have HC := Lib.hid hc
  have HLn := Lib.hid (crate_len O w b xs hc)
  clear hc
  have no : Hid (∀ {W : World}, Ch (fun g => w.heap.size ≤ g) w W → Ch Noone w W) := fun c => ⟨c.os, c.tape, c.output, c.size, fun k hk _ => c.block k hk (by omega)⟩
  go_enter Tryz.func92, Tryz.ntmps92
  go_wp2_with fail
  refine HLn.out.mono ?_
  rintro e w1 ⟨rfl, rfl⟩
  have c0 : Ch Noone w1 (w1.alloc (.cells #[.int .u8 (xs.length : Int)] 5)) := (Ch.refl _ _).alloc _
  have HLn2 := Lib.hid (crate_len O _ b xs (HC.out.ch0 c0))
  clear c0
  go_wp2_with fail
  refine HLn2.out.mono ?_
  rintro e w2 ⟨rfl, hw2⟩
  have HO0 : Hid (Own (New w1.heap.size) w2 5 1 (.slice (some ⟨w1.heap.size, 0, none⟩) 1 1) 1 [.int .u8 (xs.length : Int)]) := by rw [hw2]; exact Own.fresh1 _ _ _ _ _ rfl (Nat.le_refl _)
  have C0 : Hid (Ch (fun g => w1.heap.size ≤ g) w1 w2) := by rw [hw2]; exact (Ch.refl _ _).alloc _
  have HB0 : Hid (BytesV [.int .u8 (xs.length : Int)]) := BytesV.single (by omega) (by omega)
  clear hw2
  go_wp2_with fail
  go_loopw [4, 17] (fun s i wr => ∃ (k m : Nat) (us : List Value), k ≤ xs.length ∧ i = .int .i64 k ∧ m ≤ 1 + 400 * k ∧ Own (New w1.heap.size) wr 5 1 s m us ∧ BytesV us ∧ Ch (fun g => w1.heap.size ≤ g) w1 wr) (fun _ i _ => (xs.length - intOf i).toNat)
  case atStart => exact ⟨0, 1, _, by omega, rfl, by omega, HO0.out, HB0.out, C0.out⟩
  case round =>
    clear HO0 HB0 C0
    obtain ⟨k, m, us, hk, rfl, hm, ho, hbu, hch⟩ := hrel
    have HO := Lib.hid ho
    have HU := Lib.hid hbu
    have HM := Lib.hid hm
    obtain ⟨sa, sc, rfl, -, -, -, -⟩ := ho.sl
    clear ho hbu hm
    have hcr := HC.out.ch0 (no.out hch)
    have zs := hch.size
    by_cases hkx : k < xs.length
    · have HTh := Lib.hid (thing_any O w1.heap.size wr _ m us b xs k HO.out HU.out (by have := HM.out; omega) zs hcr)
      clear hcr
      go_wp2_with fail
      refine HTh.out.mono ?_
      rintro e w3 ⟨v', m', us', t, rfl, hm1, hm2, ho3, hb3, c3⟩
      have HO3 := Lib.hid ho3
      have HU3 := Lib.hid hb3
      have HM3 : Hid (m' ≤ 1 + 400 * (k + 1)) := by have := HM.out; show _ ≤ _; omega
      clear ho3 hb3 hm1 hm2
      cases t
      · go_wp2_with fail
        go_ret2
        exact ⟨_, 0, [], _, rfl, by omega, Own.nil _ _ _ _, BytesV.nil, no.out (hch.trans c3)⟩
      · go_wp2_with fail
        go_roundw
        case rel => exact ⟨k + 1, m', us', by omega, by go_num, HM3.out, HO3.out, HU3.out, hch.trans c3⟩
        case measure => simp [intOf]; omega
    · have hm : m ≤ 50000 := by have := HM.out; omega
      by_cases hbig : 4000 < m
      · have hb' : (4000 : Int) < m := by omega
        go_wp2_with fail
        go_ret2
        exact ⟨_, 0, [], _, rfl, by omega, Own.nil _ _ _ _, BytesV.nil, no.out hch⟩
      · have hb' : (m : Int) ≤ 4000 := by omega
        have hus : us.length = m := by have := HO.out.1; omega
        have c4 : Ch Noone wr (wr.alloc (.cells #[.slice sa m sc] 81)) := (Ch.refl _ _).alloc _
        have HSu := Lib.hid (sum_of _ _ wr.heap.size _ m us (Blk.new wr 81 #[.slice sa m sc]) (HO.out.sl.ch0 c4) HU.out hus (by omega))
        have C4 := Lib.hid c4
        have HUs := Lib.hid hus
        clear hbig c4 hus hm
        go_wp2_with fail
        refine HSu.out.mono ?_
        rintro e w5 ⟨⟨z, rfl⟩, hw5⟩
        have C5 : Hid (Ch Noone wr w5) := by rw [hw5]; exact C4.out
        have HO5 := Lib.hid (HO.out.sl.ch0 C5.out)
        clear hw5
        have HN1 : Hid (∀ z, _) := fun z => number_any w5.heap.size w5 (.slice none 0 0) 0 [] z 4 (Own.nil _ _ _ _) BytesV.nil (by omega) (by omega) (Nat.le_refl _)
        go_wp2_with fail
        refine (HN1.out _).mono ?_
        rintro e w6 ⟨v6, us6, rfl, ho6, hb6, c6⟩
        have HN2 : Hid (∀ z, _) := fun z => number_any w5.heap.size w6 v6 4 us6 z 2 (by simpa using ho6) hb6 (by omega) (by omega) c6.size
        clear ho6 hb6
        go_wp2_with fail
        refine (HN2.out _).mono ?_
        rintro e w7 ⟨v7, us7, rfl, ho7, hb7, c7⟩
        have C7 : Hid (Ch (fun g => w5.heap.size ≤ g) w5 w7) := c6.trans c7
        have C57 : Hid (Ch Noone w5 w7) := ⟨C7.out.os, C7.out.tape, C7.out.output, C7.out.size, fun k hk _ => C7.out.block k hk (by omega)⟩
        have HO7 := Lib.hid ho7
        have HU7 := Lib.hid hb7
        have hb4 : Hid (m ≤ 4000) := by show _ ≤ _; omega
        clear ho7 hb7 c6 c7
        go_wp2_with (at_builtin; refine And.right (a := True) ?_)
        refine ⟨trivial, ?_⟩
        refine wpList_append_sl _ rfl _ _ 81 rfl w5.heap.size 5 i0 _ 1 1 Tryz.underlying81 hi0 hz0 hz1 hz2 rfl (by decide) _ (4 + 2) us7 (by exact rfl) HO7.out _ _ m us (by exact rfl) (HO5.out.ch0 C57.out) (by rw [HUs.out]; omega) HU.out.one (by have := hb4.out; unfold maxLen; omega) (by have := hb4.out; omega) C7.out.size ?_
        intro v8 w8 ho8 c8
        have HO8 := Lib.hid ho8
        have C8 : Hid (Ch (fun g => w5.heap.size ≤ g) w5 w8) := C7.out.then c8 fun i _ h => h.1
        clear ho8 c8
        go_wp2_with fail
        go_ret2
        have hz := C5.out.size
        refine ⟨_, _, _, _, rfl, ?_, HO8.out.mono fun g hg _ => by have h : w5.heap.size ≤ g := hg; show w1.heap.size ≤ g; omega, HU7.out.app HU.out, no.out ((hch.then C5.out (fun _ _ h => h.elim)).then C8.out (fun i _ h => by omega))⟩
        have := hb4.out
        omega
end Go.Proofs.YtkplgggdidhnoaaGreatDoor

namespace Go.Proofs.YtkplgggdidhnoaaGreatDoor
open Go.ChangeShapes Go.WideShapes Go.ChangeAt Go.RowKit
set_option linter.unusedVariables false

/-- A slice of bytes, read. -/
structure SlB (B : Nat → Prop) (w : World) (v : Value) (n : Nat) (vs : List Value) : Prop where
  sl : Sl B w v n vs
  len : vs.length = n
  by' : BytesV vs
theorem SlB.ch {B S : Nat → Prop} {w w' : World} {v : Value} {n : Nat} {vs : List Value} (h : SlB B w v n vs) (c : Ch S w w') (hs : ∀ b, B b → b < w.heap.size → ¬ S b) : SlB B w' v n vs := ⟨h.sl.ch c hs, h.len, h.by'⟩
theorem SlB.ch0 {B : Nat → Prop} {w w' : World} {v : Value} {n : Nat} {vs : List Value} (h : SlB B w v n vs) (c : Ch Noone w w') : SlB B w' v n vs := h.ch c fun _ _ _ h => h
theorem SlB.nil (B : Nat → Prop) (w : World) : SlB B w (.slice none 0 0) 0 [] := ⟨Sl.nil _ _, rfl, BytesV.nil⟩
theorem BytesV.drop {vs : List Value} (h : BytesV vs) (k : Nat) : BytesV (vs.drop k) := fun u hu => h u (List.mem_of_mem_drop hu)
theorem BytesV.take {vs : List Value} (h : BytesV vs) (k : Nat) : BytesV (vs.take k) := fun u hu => h u (List.mem_of_mem_take hu)

theorem SlB.empty (B : Nat → Prop) (w : World) (a : Addr) (c : Nat) (hc : c ≤ 9223372036854775807) : SlB B w (.slice (some a) 0 c) 0 [] := ⟨⟨_, _, rfl, Nat.zero_le _, hc, (fun h => by cases h), fun h => absurd rfl h⟩, rfl, BytesV.nil⟩
/-- Where its cells lie. -/
theorem SlB.at {B : Nat → Prop} {w : World} {a : Option Addr} {n c : Nat} {vs : List Value} (h : SlB B w (.slice a n c) n vs) (hn : 0 < n) :
    ∃ b off, a = some ⟨b, off, none⟩ ∧ B b ∧ b < w.heap.size ∧ n ≤ c ∧ ∀ i, i < n → ∃ x : Int, w.cell? ⟨b, off + i, none⟩ = some (.int .u8 x) ∧ 0 ≤ x ∧ x < 256 := by
  obtain ⟨⟨a', c', e, h1, h2, h3, h4⟩, hl, hb⟩ := h
  simp only [Value.slice.injEq] at e
  obtain ⟨rfl, -, rfl⟩ := e
  obtain ⟨b, off, e, hB, hlt, hc⟩ := h4 (by intro e; rw [e] at hl; simp at hl; omega)
  refine ⟨b, off, e, hB, hlt, h1, fun i hi => ?_⟩
  obtain ⟨x, hx, h5, h6⟩ := hb.get (i := i) (by omega)
  exact ⟨x, (hc i (by omega)).trans hx, h5, h6⟩
theorem SlB.dropAt {B : Nat → Prop} {w : World} {b off n c : Nat} {vs : List Value} (h : SlB B w (.slice (some ⟨b, off, none⟩) n c) n vs) {k : Nat} (hk : k ≤ n) (o : Nat) (ho : k < n → o = off + k) :
    SlB B w (.slice (some ⟨b, o, none⟩) (n - k) (c - k)) (n - k) (vs.drop k) := by
  obtain ⟨⟨a', c', e, h1, h2, h3, h4⟩, hl, hb⟩ := h
  simp only [Value.slice.injEq] at e
  obtain ⟨rfl, -, rfl⟩ := e
  refine ⟨⟨_, _, rfl, by omega, by omega, (fun h => by cases h), fun hne => ?_⟩, by rw [List.length_drop, hl], hb.drop k⟩
  have hkn : k < n := by
    rcases Nat.lt_or_ge k n with h | h
    · exact h
    · exact absurd (List.drop_eq_nil_of_le (by omega)) hne
  obtain ⟨b', off', e', hB, hlt, hc⟩ := h4 (by intro e; rw [e] at hl; simp at hl; omega)
  simp only [Option.some.injEq, Addr.mk.injEq, and_true] at e'
  obtain ⟨rfl, rfl⟩ := e'
  refine ⟨b, o, rfl, hB, hlt, fun i hi => ?_⟩
  rw [List.length_drop] at hi
  rw [ho hkn, Nat.add_assoc, hc (k + i) (by omega), List.getElem?_drop]
theorem SlB.takeAt {B : Nat → Prop} {w : World} {a : Option Addr} {n c : Nat} {vs : List Value} (h : SlB B w (.slice a n c) n vs) {k : Nat} (hk : k ≤ n) :
    SlB B w (.slice a k c) k (vs.take k) := by
  obtain ⟨⟨a', c', e, h1, h2, h3, h4⟩, hl, hb⟩ := h
  simp only [Value.slice.injEq] at e
  obtain ⟨rfl, -, rfl⟩ := e
  refine ⟨⟨_, _, rfl, by omega, by omega, fun h => ⟨by have := h3 h; omega, (h3 h).2⟩, fun hne => ?_⟩, by rw [List.length_take]; omega, hb.take k⟩
  obtain ⟨b, off, e, hB, hlt, hc⟩ := h4 (by intro e; subst e; simp at hne)
  refine ⟨b, off, e, hB, hlt, fun i hi => ?_⟩
  rw [List.length_take] at hi
  rw [hc i (by omega), List.getElem?_take, if_pos (by omega)]

theorem or_zero_byte (x : Int) (h0 : 0 ≤ x) (h1 : x < 256) : 0 ≤ bits .or .u64 0 x ∧ bits .or .u64 0 x < 256 := by
  obtain ⟨k, rfl⟩ : ∃ k : Nat, x = k := ⟨x.toNat, by omega⟩
  have h := bits_or_u64_nat 0 k (by omega) (by omega)
  rw [Nat.zero_or] at h
  have h' : bits .or .u64 0 (k : Int) = (k : Int) := h
  rw [h']
  exact ⟨h0, h1⟩

set_option maxRecDepth 100000 in
set_option maxHeartbeats 4000000 in
theorem taken_any (B : Nat → Prop) (w : World) (v : Value) (n : Nat) (vs : List Value) (k : Nat) (hv : SlB B w v n vs) (hn : n ≤ 60000) (hk : 1 ≤ k) (hk8 : k ≤ 8) :
    Calls Tryz.prog 90 #[v, .int .i64 k] w fun e w' => (∃ (z : Int) (v' : Value) (m : Nat) (us : List Value) (t : Bool), e = .returned (.tuple #[.int .u64 z, v', .bool t]) ∧ (k = 1 → 0 ≤ z ∧ z < 256) ∧ m ≤ n ∧ SlB B w v' m us) ∧ ∃ q, w' = w.drewN q := by
  have HV := Lib.hid hv
  obtain ⟨a, c, rfl, k1, k2, -, -⟩ := id hv.sl
  clear k2
  by_cases hnk : n < k
  · have hnk' : (n : Int) < k := by omega
    clear hnk hv
    go_enter Tryz.func90, Tryz.ntmps90
    go_wp2_with fail
    refine bodyPost_ret (v := .tuple #[.int .u64 0, .slice none 0 0, .bool false]) (by simp [results, Tryz.results90, go_sem]) rfl ?_
    exact ⟨⟨0, _, 0, [], false, rfl, fun _ => ⟨by decide, by decide⟩, Nat.zero_le _, SlB.nil _ _⟩, 0, rfl⟩
  · obtain ⟨b, off, rfl, hB, hlt, hnc, hat⟩ := hv.at (by omega)
    have HA := Lib.hid hat
    have hkn : (k : Int) ≤ n := by omega
    have hkc : (k : Int) ≤ c := by omega
    have hk0 : (0 : Int) ≤ k := by omega
    clear hat hv
    go_enter Tryz.func90, Tryz.ntmps90
    go_wp2_with fail
    go_loop [7, 18] (fun s i => ∃ j : Nat, j ≤ k ∧ i = .int .i64 j ∧ ∃ z : Int, s = .int .u64 z ∧ (j = 0 → z = 0) ∧ (j = 1 → 0 ≤ z ∧ z < 256)) (fun _ i => (k - intOf i).toNat)
    case atStart => exact ⟨0, by omega, rfl, 0, rfl, fun _ => rfl, fun h => by omega⟩
    case round =>
      obtain ⟨j, hj, rfl, z, rfl, hz0, hz1⟩ := hrel
      by_cases hjk : j < k
      · obtain ⟨x, y0, x0, x1⟩ := HA.out j (by omega)
        have hj0 : (0 : Int) ≤ j := by omega
        have hj1 : (j : Int) < k := by omega
        by_cases hj00 : j = 0
        · have hz := hz0 hj00
          subst hj00 hz
          rw [Nat.add_zero] at y0
          clear hz0 hz1
          go_wp2_with fail
          go_round
          case rel =>
            exact ⟨1, by omega, rfl, _, rfl, fun h => by omega, fun _ => or_zero_byte x x0 x1⟩
          case measure => simp [intOf]; omega
        · clear hz0 hz1
          go_wp2_with fail
          go_round
          case rel => exact ⟨j + 1, by omega, by go_num, _, rfl, fun h => by omega, fun h => by omega⟩
          case measure => simp [intOf]; omega
      · have hjk : j = k := by omega
        subst hjk
        by_cases hcj : c = j
        · have hnj : n = j := by omega
          subst hcj
          go_wp2_with fail
          go_quiet (fail)
          go_wp2_with fail
          refine bodyPost_ret (v := .tuple #[.int .u64 z, .slice (some ⟨b, off, none⟩) 0 0, .bool true]) (by simp [results, Tryz.results90, go_sem]) rfl ?_
          exact ⟨⟨z, _, 0, [], true, rfl, hz1, Nat.zero_le _, SlB.empty _ _ _ _ (by omega)⟩, nq, rfl⟩
        · have HD := Lib.hid (SlB.dropAt HV.out (k := j) (by omega) (off + j) (fun h => rfl))
          have hjc : ((j : Int) == (c : Int)) = false := by simp; omega
          go_wp2_with fail
          go_quiet (fail)
          go_wp2_with fail
          refine bodyPost_ret (v := .tuple #[.int .u64 z, .slice (some ⟨b, off + j, none⟩) (n - j) (c - j), .bool true]) (by simp [results, Tryz.results90, go_sem]) rfl ?_
          exact ⟨⟨z, _, n - j, _, true, rfl, hz1, Nat.sub_le _ _, HD.out⟩, nq, rfl⟩
end Go.Proofs.YtkplgggdidhnoaaGreatDoor
