/-
  The contracts of link: New, is, Take; Send of no bytes; Turn where nothing was sent. No condition.
-/
import Derived.Test.YtkplgggdidhnoaaGreatDoorM03
import Derived.Test.YtkplgggdidhnoaaGreatDoorM14
namespace Go.Proofs.YtkplgggdidhnoaaGreatDoor
open Go.ChangeShapes Go.WideShapes Go.ChangeAt Go.RowKit
set_option linter.unusedVariables false

/-- What a Link holds: what was sent, what came. -/
structure LS where
  s0 : List UInt8
  s1 : List UInt8
  c0 : List UInt8
  c1 : List UInt8
def LS.new : LS := ⟨[], [], [], []⟩
def BytesAt (O : Nat → Prop) (w : World) (v : Value) (bs : List UInt8) : Prop :=
  (bs = [] ∧ v = .slice none 0 0) ∨ (bs ≠ [] ∧ Own O w 5 1 v bs.length (bs.flatMap fByte))
theorem BytesAt.ch {O S : Nat → Prop} {w w' : World} {v : Value} {bs : List UInt8} (h : BytesAt O w v bs) (c : Ch S w w') (hs : ∀ g, O g → g < w.heap.size → ¬ S g) : BytesAt O w' v bs := by
  rcases h with h | ⟨h1, h2⟩
  · exact .inl h
  · exact .inr ⟨h1, h2.ch c hs⟩
theorem BytesAt.mono {O O' : Nat → Prop} {w : World} {v : Value} {bs : List UInt8} (h : BytesAt O w v bs) (ho : ∀ g, O g → g < w.heap.size → O' g) : BytesAt O' w v bs := by
  rcases h with h | ⟨h1, h2⟩
  · exact .inl h
  · exact .inr ⟨h1, h2.mono ho⟩
theorem BytesAt.nil (O : Nat → Prop) (w : World) : BytesAt O w (.slice none 0 0) [] := .inl ⟨rfl, rfl⟩
theorem BytesAt.sl {O : Nat → Prop} {w : World} {v : Value} {bs : List UInt8} (h : BytesAt O w v bs) : Sl O w v bs.length (bs.flatMap fByte) := by
  rcases h with ⟨rfl, rfl⟩ | ⟨_, h⟩
  · exact Sl.nil _ _
  · exact h.sl
theorem BytesAt.of_nil {O : Nat → Prop} {w : World} {v : Value} (h : BytesAt O w v []) : v = .slice none 0 0 := by
  rcases h with h | h
  · exact h.2
  · exact absurd rfl h.1
structure LinkP (O : Nat → Prop) (m : Nat → Nat) (w : World) (b : Nat) (v0 v1 v2 v3 : Value) (x : LS) : Prop where
  ob : O b
  mb : m b = 0
  blk : Blk w b 105 #[v0, v1, v2, v3]
  s0 : BytesAt (fun g => O g ∧ m g = 1) w v0 x.s0
  s1 : BytesAt (fun g => O g ∧ m g = 2) w v1 x.s1
  c0 : BytesAt (fun g => O g ∧ m g = 3) w v2 x.c0
  c1 : BytesAt (fun g => O g ∧ m g = 4) w v3 x.c1
def LinkAt (O : Nat → Prop) (w : World) (b : Nat) (x : LS) : Prop := ∃ m v0 v1 v2 v3, LinkP O m w b v0 v1 v2 v3 x
theorem LinkP.ch {O S : Nat → Prop} {m : Nat → Nat} {w w' : World} {b : Nat} {v0 v1 v2 v3 : Value} {x : LS} (h : LinkP O m w b v0 v1 v2 v3 x) (c : Ch S w w') (hs : ∀ g, O g → g < w.heap.size → ¬ S g) : LinkP O m w' b v0 v1 v2 v3 x :=
  ⟨h.ob, h.mb, c.blk h.blk (hs b h.ob h.blk.lt), h.s0.ch c fun g hg => hs g hg.1, h.s1.ch c fun g hg => hs g hg.1, h.c0.ch c fun g hg => hs g hg.1, h.c1.ch c fun g hg => hs g hg.1⟩
theorem LinkP.mono {O O' : Nat → Prop} {m : Nat → Nat} {w : World} {b : Nat} {v0 v1 v2 v3 : Value} {x : LS} (h : LinkP O m w b v0 v1 v2 v3 x) (ho : ∀ g, O g → g < w.heap.size → O' g) : LinkP O' m w b v0 v1 v2 v3 x :=
  ⟨ho b h.ob h.blk.lt, h.mb, h.blk, h.s0.mono fun g hg hl => ⟨ho g hg.1 hl, hg.2⟩, h.s1.mono fun g hg hl => ⟨ho g hg.1 hl, hg.2⟩, h.c0.mono fun g hg hl => ⟨ho g hg.1 hl, hg.2⟩, h.c1.mono fun g hg hl => ⟨ho g hg.1 hl, hg.2⟩⟩
theorem LinkAt.ch {O S : Nat → Prop} {w w' : World} {b : Nat} {x : LS} (h : LinkAt O w b x) (c : Ch S w w') (hs : ∀ g, O g → g < w.heap.size → ¬ S g) : LinkAt O w' b x := by
  obtain ⟨m, v0, v1, v2, v3, h⟩ := h
  exact ⟨m, v0, v1, v2, v3, h.ch c hs⟩
theorem LinkAt.mono {O O' : Nat → Prop} {w : World} {b : Nat} {x : LS} (h : LinkAt O w b x) (ho : ∀ g, O g → g < w.heap.size → O' g) : LinkAt O' w b x := by
  obtain ⟨m, v0, v1, v2, v3, h⟩ := h
  exact ⟨m, v0, v1, v2, v3, h.mono ho⟩
theorem LinkAt.lt {O : Nat → Prop} {w : World} {b : Nat} {x : LS} (h : LinkAt O w b x) : b < w.heap.size := by
  obtain ⟨m, v0, v1, v2, v3, h⟩ := h
  exact h.blk.lt

theorem link_new (w : World) : Calls Tryz.prog 24 #[] w fun e w' => e = .returned (.pointer (some ⟨w.heap.size, 0, none⟩)) ∧ LinkAt (New w.heap.size) w' w.heap.size LS.new ∧ Ch Noone w w' := by
  go_enter Tryz.func24, Tryz.ntmps24
  go_wp2
  go_ret
  exact ⟨rfl, ⟨fun _ => 0, _, _, _, _, ⟨Nat.le_refl _, rfl, Blk.new _ _ _, BytesAt.nil _ _, BytesAt.nil _ _, BytesAt.nil _ _, BytesAt.nil _ _⟩⟩, (Ch.refl _ _).alloc _⟩

theorem link_is (w : World) (b : Nat) (i : Int) (h0 : 0 ≤ i) (h1 : i < 2) : Calls Tryz.prog 62 #[.pointer (some ⟨b, 0, none⟩), .int .i64 i] w fun e w' => e = .returned (.bool true) ∧ w' = w := by
  go_enter Tryz.func62, Tryz.ntmps62
  go_wp2
  go_ret
  exact ⟨rfl, rfl⟩

/-- What came to a unit; and the Link without it. -/
def LS.came (x : LS) (i : Int) : List UInt8 := if i = 0 then x.c0 else x.c1
def LS.take (x : LS) (i : Int) : LS := if i = 0 then { x with c0 := [] } else { x with c1 := [] }

theorem link_take (O : Nat → Prop) (w : World) (b : Nat) (x : LS) (i : Int) (hi : i = 0 ∨ i = 1) (h : LinkAt O w b x) :
    Calls Tryz.prog 31 #[.pointer (some ⟨b, 0, none⟩), .int .i64 i] w fun e w' => (∃ v, e = .returned v ∧ Sl O w' v (x.came i).length ((x.came i).flatMap fByte)) ∧ LinkAt O w' b (x.take i) ∧ Ch O w w' := by
  obtain ⟨m, v0, v1, v2, v3, h⟩ := h
  have l2 : w.cell? ⟨b, 2, none⟩ = some v2 := h.blk.cell 2
  have l3 : w.cell? ⟨b, 3, none⟩ = some v3 := h.blk.cell 3
  have f2 := h.blk.free 2
  have f3 := h.blk.free 3
  have HP := Lib.hid h
  clear h
  rcases hi with rfl | rfl
  · go_enter Tryz.func31, Tryz.ntmps31
    go_wp2_with fail
    refine (link_is w b 0 (by omega) (by omega)).mono ?_
    rintro e w1 ⟨rfl, rfl⟩
    go_wp2_with fail
    go_ret
    have cc : Ch (fun g => g = b) w1 (w1.setCell ⟨b, 2, none⟩ (.slice none 0 0)) := (Ch.refl _ _).set1 _ _
    have h := HP.out
    refine ⟨⟨_, rfl, (h.c0.sl.ch cc fun g hg _ e => by rw [e, h.mb] at hg; exact absurd hg.2 (by omega)).mono fun g hg _ => hg.1⟩, ⟨m, _, _, _, _, h.ob, h.mb, by have := h.blk.set 2 (.slice none 0 0); simpa using this, h.s0.ch cc ?_, h.s1.ch cc ?_, BytesAt.nil _ _, h.c1.ch cc ?_⟩, cc.mono fun g _ e => e ▸ h.ob⟩
    all_goals (intro g hg _ e; rw [e, h.mb] at hg; exact absurd hg.2 (by omega))
  · go_enter Tryz.func31, Tryz.ntmps31
    go_wp2_with fail
    refine (link_is w b 1 (by omega) (by omega)).mono ?_
    rintro e w1 ⟨rfl, rfl⟩
    go_wp2_with fail
    go_ret
    have cc : Ch (fun g => g = b) w1 (w1.setCell ⟨b, 3, none⟩ (.slice none 0 0)) := (Ch.refl _ _).set1 _ _
    have h := HP.out
    refine ⟨⟨_, rfl, (h.c1.sl.ch cc fun g hg _ e => by rw [e, h.mb] at hg; exact absurd hg.2 (by omega)).mono fun g hg _ => hg.1⟩, ⟨m, _, _, _, _, h.ob, h.mb, by have := h.blk.set 3 (.slice none 0 0); simpa using this, h.s0.ch cc ?_, h.s1.ch cc ?_, h.c0.ch cc ?_, BytesAt.nil _ _⟩, cc.mono fun g _ e => e ▸ h.ob⟩
    all_goals (intro g hg _ e; rw [e, h.mb] at hg; exact absurd hg.2 (by omega))

theorem link_send0 (w : World) (b : Nat) (i : Int) (hi : i = 0 ∨ i = 1) (a : Option Addr) (c : Nat) :
    Calls Tryz.prog 72 #[.pointer (some ⟨b, 0, none⟩), .int .i64 i, .slice a 0 c] w fun e w' => e = .returned (.tuple #[]) ∧ w' = w := by
  have h0 : 0 ≤ i := by omega
  have h1 : i < 2 := by omega
  clear hi
  go_enter Tryz.func72, Tryz.ntmps72
  go_wp2_with fail
  refine (link_is w b i h0 h1).mono ?_
  rintro e w1 ⟨rfl, rfl⟩
  go_wp2_with fail
  go_end0
  exact ⟨rfl, rfl⟩

def NilL (b : Nat) (w : World) : Prop := Blk w b 105 #[.slice none 0 0, .slice none 0 0, .slice none 0 0, .slice none 0 0]
theorem NilL.set {b : Nat} {w : World} (h : NilL b w) (i : Nat) (hi : i < 4) : NilL b (w.setCell ⟨b, i, none⟩ (.slice none 0 0)) := by
  have := Blk.set h i (.slice none 0 0)
  unfold NilL
  have hi4 : i = 0 ∨ i = 1 ∨ i = 2 ∨ i = 3 := by omega
  rcases hi4 with rfl | rfl | rfl | rfl <;> simpa using this
theorem NilL.facts {b : Nat} {w : World} (h : NilL b w) : NilL b w ∧ w.cell? ⟨b, 0, none⟩ = some (.slice none 0 0) ∧ w.cell? ⟨b, 1, none⟩ = some (.slice none 0 0) ∧ w.cell? ⟨b, 2, none⟩ = some (.slice none 0 0) ∧ w.cell? ⟨b, 3, none⟩ = some (.slice none 0 0) ∧ w.frozen? ⟨b, 0, none⟩ = false ∧ w.frozen? ⟨b, 1, none⟩ = false ∧ w.frozen? ⟨b, 2, none⟩ = false ∧ w.frozen? ⟨b, 3, none⟩ = false :=
  ⟨h, Blk.cell h 0, Blk.cell h 1, Blk.cell h 2, Blk.cell h 3, Blk.free h 0, Blk.free h 1, Blk.free h 2, Blk.free h 3⟩

set_option maxRecDepth 100000 in
set_option maxHeartbeats 2000000 in
theorem link_turn0 (O : Nat → Prop) (w : World) (b : Nat) (lose : Bool) (sp : Int) (h : LinkAt O w b LS.new) :
    Calls Tryz.prog 74 #[.pointer (some ⟨b, 0, none⟩), .bool lose, .int .i64 sp] w fun e w' => e = .returned (.tuple #[]) ∧ LinkAt O w' b LS.new ∧ Ch O w w' := by
  obtain ⟨m, v0, v1, v2, v3, h⟩ := h
  have e0 : v0 = .slice none 0 0 := BytesAt.of_nil h.s0
  have e1 : v1 = .slice none 0 0 := BytesAt.of_nil h.s1
  have e2 : v2 = .slice none 0 0 := BytesAt.of_nil h.c0
  have e3 : v3 = .slice none 0 0 := BytesAt.of_nil h.c1
  subst e0 e1 e2 e3
  have l0 : w.cell? ⟨b, 0, none⟩ = some (.slice none 0 0) := h.blk.cell 0
  have l1 : w.cell? ⟨b, 1, none⟩ = some (.slice none 0 0) := h.blk.cell 1
  have HP := Lib.hid h
  have HB := Lib.hid h.blk
  clear h
  have ix0 : ∀ w, (Instr.index 103 (.agg #[.slice none 0 0, .slice none 0 0]) (.int .i64 0)).run Tryz.prog w = .ok (.slice none 0 0) w := fun _ => by kernel_rfl
  have ix1 : ∀ w, (Instr.index 103 (.agg #[.slice none 0 0, .slice none 0 0]) (.int .i64 1)).run Tryz.prog w = .ok (.slice none 0 0) w := fun _ => by kernel_rfl
  go_enter Tryz.func74, Tryz.ntmps74
  go_wp2_with fail
  go_loopw [14] (fun i wr => (i = .int .i64 0 ∨ i = .int .i64 1 ∨ i = .int .i64 2) ∧ Ch (fun g => g = b) w wr ∧ Blk wr b 105 #[.slice none 0 0, .slice none 0 0, .slice none 0 0, .slice none 0 0]) (fun i _ => (2 - intOf i).toNat)
  case atStart => exact ⟨.inl rfl, Ch.refl _ _, HB.out⟩
  case round =>
    clear l0 l1
    obtain ⟨hk3, hch, hb⟩ := hrel
    have HBk := Lib.hid hb
    have l0 : wr.cell? ⟨b, 0, none⟩ = some (.slice none 0 0) := hb.cell 0
    have l1 : wr.cell? ⟨b, 1, none⟩ = some (.slice none 0 0) := hb.cell 1
    have l2 : wr.cell? ⟨b, 2, none⟩ = some (.slice none 0 0) := hb.cell 2
    have l3 : wr.cell? ⟨b, 3, none⟩ = some (.slice none 0 0) := hb.cell 3
    have f0 := hb.free 0
    have f1 := hb.free 1
    have f2 := hb.free 2
    have f3 := hb.free 3
    clear hb
    rcases hk3 with rfl | rfl | rfl
    · cases lose
      all_goals
        go_wp2_with fail
        go_region
        all_goals
          go_wp2_with fail
          go_roundw
          case rel => exact ⟨.inr (.inl rfl), (hch.drew.set1 _ _).set1 _ _, NilL.set (NilL.set HBk.out.drew _ (by omega)) _ (by omega)⟩
          case measure => simp [intOf]
    · cases lose
      all_goals
        go_wp2_with fail
        go_region
        all_goals
          go_wp2_with fail
          go_roundw
          case rel => exact ⟨.inr (.inr rfl), (hch.drew.set1 _ _).set1 _ _, NilL.set (NilL.set HBk.out.drew _ (by omega)) _ (by omega)⟩
          case measure => simp [intOf]
    · go_wp2_with fail
      go_end0
      have h := HP.out
      exact ⟨rfl, ⟨m, _, _, _, _, h.ob, h.mb, HBk.out, BytesAt.nil _ _, BytesAt.nil _ _, BytesAt.nil _ _, BytesAt.nil _ _⟩, hch.mono fun g _ e => e ▸ h.ob⟩
end Go.Proofs.YtkplgggdidhnoaaGreatDoor
