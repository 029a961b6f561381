/-
  The contracts of link: New, is, Take; Send of no bytes; Turn where nothing was sent. No condition. The contracts of link: Send of any bytes. Conditions: sizes. The contract of link: Turn. Conditions: sizes.
-/
import Derived.Test.YtkplgggdidhnoaaGreatDoorM03
import Derived.Test.YtkplgggdidhnoaaGreatDoorM14
import Derived.Test.YtkplgggdidhnoaaGreatDoorM32
import Derived.Laws.Closers25b
namespace Go.Proofs.YtkplgggdidhnoaaGreatDoor
open Go.ChangeShapes Go.WideShapes Go.ChangeAt Go.RowKit
set_option linter.unusedVariables false

/-- What a Link holds: what was sent, what came. -/
structure LS where
  s0 : List UInt8
  s1 : List UInt8
  c0 : List UInt8
  c1 : List UInt8
def LS.new : LS := ⟨[], [], [], []⟩
def BytesAt (O : Nat → Prop) (w : World) (v : Value) (bs : List UInt8) : Prop :=
  (bs = [] ∧ v = .slice none 0 0) ∨ (bs ≠ [] ∧ bs.length ≤ 60000 ∧ Own O w 5 1 v bs.length (bs.flatMap fByte))
theorem BytesAt.ch {O S : Nat → Prop} {w w' : World} {v : Value} {bs : List UInt8} (h : BytesAt O w v bs) (c : Ch S w w') (hs : ∀ g, O g → g < w.heap.size → ¬ S g) : BytesAt O w' v bs := by
  rcases h with h | ⟨h1, h0, h2⟩
  · exact .inl h
  · exact .inr ⟨h1, h0, h2.ch c hs⟩
theorem BytesAt.mono {O O' : Nat → Prop} {w : World} {v : Value} {bs : List UInt8} (h : BytesAt O w v bs) (ho : ∀ g, O g → g < w.heap.size → O' g) : BytesAt O' w v bs := by
  rcases h with h | ⟨h1, h0, h2⟩
  · exact .inl h
  · exact .inr ⟨h1, h0, h2.mono ho⟩
theorem BytesAt.nil (O : Nat → Prop) (w : World) : BytesAt O w (.slice none 0 0) [] := .inl ⟨rfl, rfl⟩
theorem BytesAt.sl {O : Nat → Prop} {w : World} {v : Value} {bs : List UInt8} (h : BytesAt O w v bs) : Sl O w v bs.length (bs.flatMap fByte) := by
  rcases h with ⟨rfl, rfl⟩ | ⟨_, _, h⟩
  · exact Sl.nil _ _
  · exact h.sl
theorem BytesAt.len {O : Nat → Prop} {w : World} {v : Value} {bs : List UInt8} (h : BytesAt O w v bs) : bs.length ≤ 60000 := by
  rcases h with ⟨rfl, rfl⟩ | ⟨_, h, _⟩
  · simp
  · exact h
theorem BytesAt.of_nil {O : Nat → Prop} {w : World} {v : Value} (h : BytesAt O w v []) : v = .slice none 0 0 := by
  rcases h with h | h
  · exact h.2
  · exact absurd rfl h.1
structure LinkP (O : Nat → Prop) (m : Nat → Nat) (w : World) (b : Nat) (v0 v1 v2 v3 : Value) (x : LS) : Prop where
  ob : O b
  mb : m b = 0
  blk : Blk w b 105 #[v0, v1, v2, v3]
  s0 : BytesAt (fun g => O g ∧ m g = 1) w v0 x.s0
  s1 : BytesAt (fun g => O g ∧ m g = 2) w v1 x.s1
  c0 : BytesAt (fun g => O g ∧ m g = 3) w v2 x.c0
  c1 : BytesAt (fun g => O g ∧ m g = 4) w v3 x.c1
def LinkAt (O : Nat → Prop) (w : World) (b : Nat) (x : LS) : Prop := ∃ m v0 v1 v2 v3, LinkP O m w b v0 v1 v2 v3 x
theorem LinkP.ch {O S : Nat → Prop} {m : Nat → Nat} {w w' : World} {b : Nat} {v0 v1 v2 v3 : Value} {x : LS} (h : LinkP O m w b v0 v1 v2 v3 x) (c : Ch S w w') (hs : ∀ g, O g → g < w.heap.size → ¬ S g) : LinkP O m w' b v0 v1 v2 v3 x :=
  ⟨h.ob, h.mb, c.blk h.blk (hs b h.ob h.blk.lt), h.s0.ch c fun g hg => hs g hg.1, h.s1.ch c fun g hg => hs g hg.1, h.c0.ch c fun g hg => hs g hg.1, h.c1.ch c fun g hg => hs g hg.1⟩
theorem LinkP.mono {O O' : Nat → Prop} {m : Nat → Nat} {w : World} {b : Nat} {v0 v1 v2 v3 : Value} {x : LS} (h : LinkP O m w b v0 v1 v2 v3 x) (ho : ∀ g, O g → g < w.heap.size → O' g) : LinkP O' m w b v0 v1 v2 v3 x :=
  ⟨ho b h.ob h.blk.lt, h.mb, h.blk, h.s0.mono fun g hg hl => ⟨ho g hg.1 hl, hg.2⟩, h.s1.mono fun g hg hl => ⟨ho g hg.1 hl, hg.2⟩, h.c0.mono fun g hg hl => ⟨ho g hg.1 hl, hg.2⟩, h.c1.mono fun g hg hl => ⟨ho g hg.1 hl, hg.2⟩⟩
theorem LinkAt.ch {O S : Nat → Prop} {w w' : World} {b : Nat} {x : LS} (h : LinkAt O w b x) (c : Ch S w w') (hs : ∀ g, O g → g < w.heap.size → ¬ S g) : LinkAt O w' b x := by
  obtain ⟨m, v0, v1, v2, v3, h⟩ := h
  exact ⟨m, v0, v1, v2, v3, h.ch c hs⟩
theorem LinkAt.mono {O O' : Nat → Prop} {w : World} {b : Nat} {x : LS} (h : LinkAt O w b x) (ho : ∀ g, O g → g < w.heap.size → O' g) : LinkAt O' w b x := by
  obtain ⟨m, v0, v1, v2, v3, h⟩ := h
  exact ⟨m, v0, v1, v2, v3, h.mono ho⟩
theorem LinkAt.lt {O : Nat → Prop} {w : World} {b : Nat} {x : LS} (h : LinkAt O w b x) : b < w.heap.size := by
  obtain ⟨m, v0, v1, v2, v3, h⟩ := h
  exact h.blk.lt

theorem link_new (w : World) : Calls Tryz.prog 24 #[] w fun e w' => e = .returned (.pointer (some ⟨w.heap.size, 0, none⟩)) ∧ LinkAt (New w.heap.size) w' w.heap.size LS.new ∧ Ch Noone w w' := by
  go_enter Tryz.func24, Tryz.ntmps24
  go_wp2
  go_ret
  exact ⟨rfl, ⟨fun _ => 0, _, _, _, _, ⟨Nat.le_refl _, rfl, Blk.new _ _ _, BytesAt.nil _ _, BytesAt.nil _ _, BytesAt.nil _ _, BytesAt.nil _ _⟩⟩, (Ch.refl _ _).alloc _⟩

theorem link_is (w : World) (b : Nat) (i : Int) (h0 : 0 ≤ i) (h1 : i < 2) : Calls Tryz.prog 62 #[.pointer (some ⟨b, 0, none⟩), .int .i64 i] w fun e w' => e = .returned (.bool true) ∧ w' = w := by
  go_enter Tryz.func62, Tryz.ntmps62
  go_wp2
  go_ret
  exact ⟨rfl, rfl⟩

/-- What came to a unit; and the Link without it. -/
def LS.came (x : LS) (i : Int) : List UInt8 := if i = 0 then x.c0 else x.c1
def LS.take (x : LS) (i : Int) : LS := if i = 0 then { x with c0 := [] } else { x with c1 := [] }

theorem link_take (O : Nat → Prop) (w : World) (b : Nat) (x : LS) (i : Int) (hi : i = 0 ∨ i = 1) (h : LinkAt O w b x) :
    Calls Tryz.prog 31 #[.pointer (some ⟨b, 0, none⟩), .int .i64 i] w fun e w' => (∃ v, e = .returned v ∧ (x.came i).length ≤ 60000 ∧ Sl O w' v (x.came i).length ((x.came i).flatMap fByte)) ∧ LinkAt O w' b (x.take i) ∧ Ch O w w' := by
  obtain ⟨m, v0, v1, v2, v3, h⟩ := h
  have l2 : w.cell? ⟨b, 2, none⟩ = some v2 := h.blk.cell 2
  have l3 : w.cell? ⟨b, 3, none⟩ = some v3 := h.blk.cell 3
  have f2 := h.blk.free 2
  have f3 := h.blk.free 3
  have HP := Lib.hid h
  clear h
  rcases hi with rfl | rfl
  · go_enter Tryz.func31, Tryz.ntmps31
    go_wp2_with fail
    refine (link_is w b 0 (by omega) (by omega)).mono ?_
    rintro e w1 ⟨rfl, rfl⟩
    go_wp2_with fail
    go_ret
    have cc : Ch (fun g => g = b) w1 (w1.setCell ⟨b, 2, none⟩ (.slice none 0 0)) := (Ch.refl _ _).set1 _ _
    have h := HP.out
    refine ⟨⟨_, rfl, h.c0.len, (h.c0.sl.ch cc fun g hg _ e => by rw [e, h.mb] at hg; exact absurd hg.2 (by omega)).mono fun g hg _ => hg.1⟩, ⟨m, _, _, _, _, h.ob, h.mb, by have := h.blk.set 2 (.slice none 0 0); simpa using this, h.s0.ch cc ?_, h.s1.ch cc ?_, BytesAt.nil _ _, h.c1.ch cc ?_⟩, cc.mono fun g _ e => e ▸ h.ob⟩
    all_goals (intro g hg _ e; rw [e, h.mb] at hg; exact absurd hg.2 (by omega))
  · go_enter Tryz.func31, Tryz.ntmps31
    go_wp2_with fail
    refine (link_is w b 1 (by omega) (by omega)).mono ?_
    rintro e w1 ⟨rfl, rfl⟩
    go_wp2_with fail
    go_ret
    have cc : Ch (fun g => g = b) w1 (w1.setCell ⟨b, 3, none⟩ (.slice none 0 0)) := (Ch.refl _ _).set1 _ _
    have h := HP.out
    refine ⟨⟨_, rfl, h.c1.len, (h.c1.sl.ch cc fun g hg _ e => by rw [e, h.mb] at hg; exact absurd hg.2 (by omega)).mono fun g hg _ => hg.1⟩, ⟨m, _, _, _, _, h.ob, h.mb, by have := h.blk.set 3 (.slice none 0 0); simpa using this, h.s0.ch cc ?_, h.s1.ch cc ?_, h.c0.ch cc ?_, BytesAt.nil _ _⟩, cc.mono fun g _ e => e ▸ h.ob⟩
    all_goals (intro g hg _ e; rw [e, h.mb] at hg; exact absurd hg.2 (by omega))

theorem link_send0 (w : World) (b : Nat) (i : Int) (hi : i = 0 ∨ i = 1) (a : Option Addr) (c : Nat) :
    Calls Tryz.prog 72 #[.pointer (some ⟨b, 0, none⟩), .int .i64 i, .slice a 0 c] w fun e w' => e = .returned (.tuple #[]) ∧ w' = w := by
  have h0 : 0 ≤ i := by omega
  have h1 : i < 2 := by omega
  clear hi
  go_enter Tryz.func72, Tryz.ntmps72
  go_wp2_with fail
  refine (link_is w b i h0 h1).mono ?_
  rintro e w1 ⟨rfl, rfl⟩
  go_wp2_with fail
  go_end0
  exact ⟨rfl, rfl⟩

def NilL (b : Nat) (w : World) : Prop := Blk w b 105 #[.slice none 0 0, .slice none 0 0, .slice none 0 0, .slice none 0 0]
theorem NilL.set {b : Nat} {w : World} (h : NilL b w) (i : Nat) (hi : i < 4) : NilL b (w.setCell ⟨b, i, none⟩ (.slice none 0 0)) := by
  have := Blk.set h i (.slice none 0 0)
  unfold NilL
  have hi4 : i = 0 ∨ i = 1 ∨ i = 2 ∨ i = 3 := by omega
  rcases hi4 with rfl | rfl | rfl | rfl <;> simpa using this
theorem NilL.facts {b : Nat} {w : World} (h : NilL b w) : NilL b w ∧ w.cell? ⟨b, 0, none⟩ = some (.slice none 0 0) ∧ w.cell? ⟨b, 1, none⟩ = some (.slice none 0 0) ∧ w.cell? ⟨b, 2, none⟩ = some (.slice none 0 0) ∧ w.cell? ⟨b, 3, none⟩ = some (.slice none 0 0) ∧ w.frozen? ⟨b, 0, none⟩ = false ∧ w.frozen? ⟨b, 1, none⟩ = false ∧ w.frozen? ⟨b, 2, none⟩ = false ∧ w.frozen? ⟨b, 3, none⟩ = false :=
  ⟨h, Blk.cell h 0, Blk.cell h 1, Blk.cell h 2, Blk.cell h 3, Blk.free h 0, Blk.free h 1, Blk.free h 2, Blk.free h 3⟩

set_option maxRecDepth 100000 in
set_option maxHeartbeats 2000000 in
theorem link_turn0 (O : Nat → Prop) (w : World) (b : Nat) (lose : Bool) (sp : Int) (h : LinkAt O w b LS.new) :
    Calls Tryz.prog 74 #[.pointer (some ⟨b, 0, none⟩), .bool lose, .int .i64 sp] w fun e w' => e = .returned (.tuple #[]) ∧ LinkAt O w' b LS.new ∧ Ch O w w' := by
  obtain ⟨m, v0, v1, v2, v3, h⟩ := h
  have e0 : v0 = .slice none 0 0 := BytesAt.of_nil h.s0
  have e1 : v1 = .slice none 0 0 := BytesAt.of_nil h.s1
  have e2 : v2 = .slice none 0 0 := BytesAt.of_nil h.c0
  have e3 : v3 = .slice none 0 0 := BytesAt.of_nil h.c1
  subst e0 e1 e2 e3
  have l0 : w.cell? ⟨b, 0, none⟩ = some (.slice none 0 0) := h.blk.cell 0
  have l1 : w.cell? ⟨b, 1, none⟩ = some (.slice none 0 0) := h.blk.cell 1
  have HP := Lib.hid h
  have HB := Lib.hid h.blk
  clear h
  have ix0 : ∀ w, (Instr.index 103 (.agg #[.slice none 0 0, .slice none 0 0]) (.int .i64 0)).run Tryz.prog w = .ok (.slice none 0 0) w := fun _ => by kernel_rfl
  have ix1 : ∀ w, (Instr.index 103 (.agg #[.slice none 0 0, .slice none 0 0]) (.int .i64 1)).run Tryz.prog w = .ok (.slice none 0 0) w := fun _ => by kernel_rfl
  go_enter Tryz.func74, Tryz.ntmps74
  go_wp2_with fail
  go_loopw [14] (fun i wr => (i = .int .i64 0 ∨ i = .int .i64 1 ∨ i = .int .i64 2) ∧ Ch (fun g => g = b) w wr ∧ Blk wr b 105 #[.slice none 0 0, .slice none 0 0, .slice none 0 0, .slice none 0 0]) (fun i _ => (2 - intOf i).toNat)
  case atStart => exact ⟨.inl rfl, Ch.refl _ _, HB.out⟩
  case round =>
    clear l0 l1
    obtain ⟨hk3, hch, hb⟩ := hrel
    have HBk := Lib.hid hb
    have l0 : wr.cell? ⟨b, 0, none⟩ = some (.slice none 0 0) := hb.cell 0
    have l1 : wr.cell? ⟨b, 1, none⟩ = some (.slice none 0 0) := hb.cell 1
    have l2 : wr.cell? ⟨b, 2, none⟩ = some (.slice none 0 0) := hb.cell 2
    have l3 : wr.cell? ⟨b, 3, none⟩ = some (.slice none 0 0) := hb.cell 3
    have f0 := hb.free 0
    have f1 := hb.free 1
    have f2 := hb.free 2
    have f3 := hb.free 3
    clear hb
    rcases hk3 with rfl | rfl | rfl
    · cases lose
      all_goals
        go_wp2_with fail
        go_region
        all_goals
          go_wp2_with fail
          go_roundw
          case rel => exact ⟨.inr (.inl rfl), (hch.drew.set1 _ _).set1 _ _, NilL.set (NilL.set HBk.out.drew _ (by omega)) _ (by omega)⟩
          case measure => simp [intOf]
    · cases lose
      all_goals
        go_wp2_with fail
        go_region
        all_goals
          go_wp2_with fail
          go_roundw
          case rel => exact ⟨.inr (.inr rfl), (hch.drew.set1 _ _).set1 _ _, NilL.set (NilL.set HBk.out.drew _ (by omega)) _ (by omega)⟩
          case measure => simp [intOf]
    · go_wp2_with fail
      go_end0
      have h := HP.out
      exact ⟨rfl, ⟨m, _, _, _, _, h.ob, h.mb, HBk.out, BytesAt.nil _ _, BytesAt.nil _ _, BytesAt.nil _ _, BytesAt.nil _ _⟩, hch.mono fun g _ e => e ▸ h.ob⟩
end Go.Proofs.YtkplgggdidhnoaaGreatDoor

namespace Go.Proofs.YtkplgggdidhnoaaGreatDoor
open Go.ChangeShapes Go.WideShapes Go.ChangeAt Go.RowKit
set_option linter.unusedVariables false

theorem bytes_of : ∀ {vs : List Value}, BytesV vs → ∃ bs : List UInt8, vs = bs.flatMap fByte ∧ bs.length = vs.length
  | [], _ => ⟨[], rfl, rfl⟩
  | u :: us, h => by
    obtain ⟨bs, h1, h2⟩ := bytes_of (vs := us) (fun x hx => h x (List.mem_cons_of_mem _ hx))
    obtain ⟨k, rfl, h3, h4⟩ := h u (List.mem_cons_self ..)
    refine ⟨UInt8.ofNat k.toNat :: bs, ?_, by simp [h2]⟩
    have e : (((UInt8.ofNat k.toNat).toNat : Nat) : Int) = k := by
      have h5 : (UInt8.ofNat k.toNat).toNat = k.toNat := by simp; omega
      rw [h5]; omega
    simp only [List.flatMap_cons, ← h1, fByte, e]
    rfl

/-- What was sent by a unit. -/
def LS.sent (x : LS) (i : Int) (bs : List UInt8) : LS := if i = 0 then { x with s0 := bs } else { x with s1 := bs }

set_option maxRecDepth 100000 in
set_option maxHeartbeats 4000000 in
theorem link_send_any (O B : Nat → Prop) (w : World) (b : Nat) (x : LS) (i : Int) (hi : i = 0 ∨ i = 1) (v : Value) (n : Nat) (vs : List Value) (h : LinkAt O w b x) (hv : SlB B w v n vs) (hn : n ≤ 60000) :
    Calls Tryz.prog 72 #[.pointer (some ⟨b, 0, none⟩), .int .i64 i, v] w fun e w' => e = .returned (.tuple #[]) ∧ (∃ x', LinkAt (Gr O w) w' b x' ∧ (x' = x ∨ (n ≠ 0 ∧ ∃ bs, x' = x.sent i bs))) ∧ Ch O w w' := by
  obtain ⟨a, c, rfl, -, -, -, -⟩ := id hv.sl
  by_cases h0 : n = 0
  · subst h0
    refine (link_send0 w b i hi a c).mono ?_
    rintro e w' ⟨rfl, rfl⟩
    exact ⟨rfl, ⟨x, h.mono fun g hg _ => .inl hg, .inl rfl⟩, Ch.refl _ _⟩
  · have hn0 : (0 : Int) < n := by omega
    obtain ⟨m, v0, v1, v2, v3, h⟩ := h
    have HP := Lib.hid h
    have HN := Lib.hid h0
    have HN6 := Lib.hid hn
    obtain ⟨bs, hbs, hbl⟩ := bytes_of hv.by'
    have HBs : Hid (vs = bs.flatMap fByte ∧ bs.length = n) := ⟨hbs, hbl.trans hv.len⟩
    have HCl : Hid (∀ k, _) := fun k => clone_byte B (w.drewN k) _ n vs (hv.sl.ch0 ((Ch.refl Noone w).drewN k)) (by rw [hv.len, Nat.mul_one]) hv.by'.one (by omega)
    have l0 : w.cell? ⟨b, 0, none⟩ = some v0 := h.blk.cell 0
    have l1 : w.cell? ⟨b, 1, none⟩ = some v1 := h.blk.cell 1
    clear h h0 hn hv hbs hbl
    have fin : Hid (∀ w1 v' , Own (New w.heap.size) w1 5 1 v' n vs → Ch Noone w w1 → ∀ j : Nat, (j = 0 ∧ i = 0 ∨ j = 1 ∧ i = 1) → (∃ x', LinkAt (Gr O w) (w1.setCell ⟨b, j, none⟩ v') b x' ∧ (x' = x ∨ (n ≠ 0 ∧ ∃ bs, x' = x.sent i bs))) ∧ Ch O w (w1.setCell ⟨b, j, none⟩ v')) := by
      intro w1 v' ho hc j hj
      have h := HP.out
      have hb := h.blk.lt
      have cs : Ch (fun g => g = b) w1 (w1.setCell ⟨b, j, none⟩ v') := (Ch.refl _ _).set1 _ _
      have cc : Ch (fun g => g = b) w (w1.setCell ⟨b, j, none⟩ v') := (hc.mono fun _ _ h => h.elim).trans cs
      obtain ⟨e1, e2⟩ := HBs.out
      have key : ∀ (k : Nat) (vv : Value) (bb : List UInt8), k ≠ 0 → BytesAt (fun g => O g ∧ m g = k) w vv bb → BytesAt (fun g => Gr O w g ∧ (if g < w.heap.size then m g else j + 1) = k) (w1.setCell ⟨b, j, none⟩ v') vv bb := fun k vv bb hk hbb =>
        ((hbb.mono (O' := fun g => (O g ∧ m g = k) ∧ g < w.heap.size) fun g hg hl => ⟨hg, hl⟩).ch cc fun g hg _ e => by have h1 := hg.1.2; rw [e, h.mb] at h1; exact hk h1.symm).mono fun g hg _ => ⟨.inl hg.1.1, (if_pos hg.2).trans hg.1.2⟩
      have new : BytesAt (fun g => Gr O w g ∧ (if g < w.heap.size then m g else j + 1) = j + 1) (w1.setCell ⟨b, j, none⟩ v') v' bs := by
        rw [e1, ← e2] at ho
        refine .inr ⟨fun e => HN.out (by rw [← e2, e]; rfl), by rw [e2]; exact HN6.out, (ho.ch cs fun g (hg : _ ≤ g) _ e => by omega).mono fun g (hg : _ ≤ g) _ => ⟨.inr hg, if_neg (by omega)⟩⟩
      refine ⟨?_, cc.mono fun g _ e => e ▸ h.ob⟩
      rcases hj with ⟨rfl, rfl⟩ | ⟨rfl, rfl⟩
      · exact ⟨x.sent 0 bs, ⟨fun g => if g < w.heap.size then m g else 0 + 1, v', v1, v2, v3, .inl h.ob, (if_pos hb).trans h.mb, by have := (hc.blk h.blk (fun h => h)).set 0 v'; simpa using this, new, key 2 _ _ (by omega) h.s1, key 3 _ _ (by omega) h.c0, key 4 _ _ (by omega) h.c1⟩, .inr ⟨HN.out, bs, rfl⟩⟩
      · exact ⟨x.sent 1 bs, ⟨fun g => if g < w.heap.size then m g else 1 + 1, v0, v', v2, v3, .inl h.ob, (if_pos hb).trans h.mb, by have := (hc.blk h.blk (fun h => h)).set 1 v'; simpa using this, key 1 _ _ (by omega) h.s0, new, key 3 _ _ (by omega) h.c0, key 4 _ _ (by omega) h.c1⟩, .inr ⟨HN.out, bs, rfl⟩⟩
    rcases hi with rfl | rfl
    · go_enter Tryz.func72, Tryz.ntmps72
      go_wp2_with fail
      refine (link_is w b 0 (by omega) (by omega)).mono ?_
      rintro e w1 ⟨rfl, rfl⟩
      go_wp2_with fail
      go_region_held3 (fun _ => True) (trivial)
        (first
          | (go_at_call 106; refine (HCl.out 1).mono ?_; rintro e w2 ⟨v', rfl, ho, hc⟩; obtain ⟨a', c', rfl, -, -, -, -⟩ := id ho.sl; have CC : Hid (Ch Noone w1 w2) := (Ch.refl _ _).drew.trans hc
             have HO := Lib.hid ho; have kb := hc.blk HP.out.blk.drew (fun h => h); have y0 := kb.cell 0; have g0 := kb.free 0; clear ho hc kb))
      go_wp2_with fail
      go_end0
      obtain ⟨z1, z2⟩ := fin.out _ _ HO.out CC.out 0 (by simp)
      exact ⟨rfl, z1, z2⟩
    · go_enter Tryz.func72, Tryz.ntmps72
      go_wp2_with fail
      refine (link_is w b 1 (by omega) (by omega)).mono ?_
      rintro e w1 ⟨rfl, rfl⟩
      go_wp2_with fail
      go_region_held3 (fun _ => True) (trivial)
        (first
          | (go_at_call 106; refine (HCl.out 1).mono ?_; rintro e w2 ⟨v', rfl, ho, hc⟩; obtain ⟨a', c', rfl, -, -, -, -⟩ := id ho.sl; have CC : Hid (Ch Noone w1 w2) := (Ch.refl _ _).drew.trans hc
             have HO := Lib.hid ho; have kb := hc.blk HP.out.blk.drew (fun h => h); have y1 := kb.cell 1; have g1 := kb.free 1; clear ho hc kb))
      go_wp2_with fail
      go_end0
      obtain ⟨z1, z2⟩ := fin.out _ _ HO.out CC.out 1 (by simp)
      exact ⟨rfl, z1, z2⟩
end Go.Proofs.YtkplgggdidhnoaaGreatDoor

namespace Go.Proofs.YtkplgggdidhnoaaGreatDoor
open Go.ChangeShapes Go.WideShapes Go.ChangeAt Go.RowKit
set_option linter.unusedVariables false

theorem bytes_open {S : Nat → Prop} {w : World} {a : Option Addr} {n c : Nat} {bs : List UInt8} (h : BytesAt S w (.slice a n c) bs) (hn : bs.length = n) (h0 : 0 < n) :
    ∃ g, a = some ⟨g, 0, none⟩ ∧ S g ∧ g < w.heap.size ∧ (∀ k : Nat, w.frozen? ⟨g, k, none⟩ = false) ∧ ∀ k : Nat, k < n → ∃ y : Int, w.cell? ⟨g, k, none⟩ = some (.int .u8 y) := by
  rcases h with ⟨rfl, _⟩ | ⟨_, _, h⟩
  · simp at hn; omega
  · rw [hn] at h
    have hsl := h.sl
    rcases h.2 with ⟨e, _⟩ | ⟨g, cap, cur, e, hS, hgb, _⟩
    · simp only [Value.slice.injEq] at e; omega
    · simp only [Value.slice.injEq] at e
      obtain ⟨rfl, -, rfl⟩ := e
      obtain ⟨_, _, e, _, _, _, h4⟩ := hsl
      simp only [Value.slice.injEq] at e
      obtain ⟨rfl, -, rfl⟩ := e
      have hfl : (bs.flatMap fByte).length = n := by rw [flat_length fByte 1 (fun _ => rfl)]; omega
      obtain ⟨g', off, e, _, hlt, hat⟩ := h4 (by intro e; rw [e] at hfl; simp at hfl; omega)
      simp only [Option.some.injEq, Addr.mk.injEq, and_true] at e
      obtain ⟨rfl, rfl⟩ := e
      refine ⟨g, rfl, hS, hlt, fun k => Blk.free (T := 5) hgb k, fun k hk => ?_⟩
      have hk' : k < bs.length := by omega
      have h5 := hat k (by omega)
      rw [Nat.zero_add] at h5
      have h6 := flat_at fByte 1 (fun _ => rfl) bs k 0 hk' (by omega)
      rw [Nat.mul_one, Nat.add_zero] at h6
      exact ⟨_, h5.trans h6⟩

theorem bytes_put {S : Nat → Prop} {w : World} {g n c k : Nat} {bs : List UInt8} (h : BytesAt S w (.slice (some ⟨g, 0, none⟩) n c) bs) (hn : bs.length = n) (hk : k < n) {y : Int} (h0 : 0 ≤ y) (h1 : y ≤ 255) :
    ∃ bs', BytesAt S (w.setCell ⟨g, k, none⟩ (.int .u8 y)) (.slice (some ⟨g, 0, none⟩) n c) bs' := by
  have e : (((UInt8.ofNat y.toNat).toNat : Nat) : Int) = y := by
    have h5 : (UInt8.ofNat y.toNat).toNat = y.toNat := by simp; omega
    rw [h5]; omega
  rcases h with ⟨_, h⟩ | ⟨hne, hl, h⟩
  · cases h
  · rw [hn] at h
    have h2 := h.put (f := fByte) (C := 1) (fun _ => rfl) (by omega) hn hk (UInt8.ofNat y.toNat)
    have e2 : putRow w g (k * 1) (fByte (UInt8.ofNat y.toNat)) = w.setCell ⟨g, k, none⟩ (.int .u8 y) := by
      simp only [fByte, e, Nat.mul_one]
      rfl
    rw [e2] at h2
    exact ⟨bs.set k (UInt8.ofNat y.toNat), .inr ⟨fun e => by have := congrArg List.length e; simp at this; exact hne this, by simpa using hl, by rw [List.length_set, hn]; exact h2⟩⟩

set_option maxRecDepth 100000 in
set_option maxHeartbeats 4000000 in
theorem link_turn_any (O : Nat → Prop) (w : World) (b : Nat) (lose : Bool) (sp : Int) (x : LS) (h : LinkAt O w b x) :
    Calls Tryz.prog 74 #[.pointer (some ⟨b, 0, none⟩), .bool lose, .int .i64 sp] w fun e w' => e = .returned (.tuple #[]) ∧ (∃ y, LinkAt O w' b y ∧ y.s0 = [] ∧ y.s1 = [] ∧ (x.s0 = [] → y.c1 = []) ∧ (x.s1 = [] → y.c0 = [])) ∧ Ch O w w' := by
  obtain ⟨m, v0, v1, v2, v3, h⟩ := h
  obtain ⟨a0, c0, e0, -, -, -, -⟩ := h.s0.sl
  obtain ⟨a1, c1, e1, -, -, -, -⟩ := h.s1.sl
  obtain ⟨n0, hn0⟩ : ∃ n, x.s0.length = n := ⟨_, rfl⟩
  obtain ⟨n1, hn1⟩ : ∃ n, x.s1.length = n := ⟨_, rfl⟩
  rw [hn0] at e0
  rw [hn1] at e1
  subst e0 e1
  have HLn0 := Lib.hid hn0
  have HLn1 := Lib.hid hn1
  have HL0 : Hid (n0 = 0 → x.s0 = []) := fun e => List.eq_nil_of_length_eq_zero (by omega)
  have HL1 : Hid (n1 = 0 → x.s1 = []) := fun e => List.eq_nil_of_length_eq_zero (by omega)
  have hb1' : (n0 : Int) ≤ 60000 := by have := h.s0.len; omega
  have hb2' : (n1 : Int) ≤ 60000 := by have := h.s1.len; omega
  obtain ⟨S0, hS0⟩ : ∃ S : Nat → Prop, S = fun g => O g ∧ m g = 1 := ⟨_, rfl⟩
  obtain ⟨S1, hS1⟩ : ∃ S : Nat → Prop, S = fun g => O g ∧ m g = 2 := ⟨_, rfl⟩
  have hs0 := h.s0
  have hs1 := h.s1
  rw [← hS0] at hs0
  rw [← hS1] at hs1
  have HS0 := Lib.hid hS0
  have HS1 := Lib.hid hS1
  have hS0b : ¬ S0 b := by rw [hS0]; intro hh; have h1 := hh.2; rw [h.mb] at h1; omega
  have hS1b : ¬ S1 b := by rw [hS1]; intro hh; have h1 := hh.2; rw [h.mb] at h1; omega
  have l0 : w.cell? ⟨b, 0, none⟩ = some (.slice a0 n0 c0) := h.blk.cell 0
  have l1 : w.cell? ⟨b, 1, none⟩ = some (.slice a1 n1 c1) := h.blk.cell 1
  have HP := Lib.hid h
  have hB0 := h.blk
  clear h hn0 hn1 hS0 hS1
  have ix0 : ∀ w, (Instr.index 103 (.agg #[.slice a0 n0 c0, .slice a1 n1 c1]) (.int .i64 0)).run Tryz.prog w = .ok (.slice a0 n0 c0) w := fun _ => by kernel_rfl
  have ix1 : ∀ w, (Instr.index 103 (.agg #[.slice a0 n0 c0, .slice a1 n1 c1]) (.int .i64 1)).run Tryz.prog w = .ok (.slice a1 n1 c1) w := fun _ => by kernel_rfl
  have FIN0 : Hid (∀ (W : World) (u : Value) (bs : List UInt8), Blk W b 105 #[.slice a0 n0 c0, .slice a1 n1 c1, v2, v3] → BytesAt S0 W u bs → BytesAt S1 W (.slice a1 n1 c1) x.s1 → (x.s0 = [] → bs = []) → Ch O w W →
      ∀ W2, (W2 = (W.drew.setCell ⟨b, 3, none⟩ u).setCell ⟨b, 0, none⟩ (.slice none 0 0) ∨ W2 = (W.drew.setCell ⟨b, 0, none⟩ (.slice none 0 0)).setCell ⟨b, 3, none⟩ u) →
        ∃ u bs, Blk W2 b 105 #[.slice none 0 0, .slice a1 n1 c1, v2, u] ∧ BytesAt S0 W2 u bs ∧ BytesAt S1 W2 (.slice a1 n1 c1) x.s1 ∧ (x.s0 = [] → bs = []) ∧ Ch O w W2) := by
    intro W u bs k1 k2 k3 k4 k5 W2 hW
    have c2 : Ch (fun g => g = b) W W2 := by rcases hW with rfl | rfl <;> exact ((Ch.refl _ _).drew.set1 _ _).set1 _ _
    refine ⟨u, bs, ?_, k2.ch c2 (fun g hg _ e => hS0b (e ▸ hg)), k3.ch c2 (fun g hg _ e => hS1b (e ▸ hg)), k4, k5.then c2 fun g _ e => e ▸ HP.out.ob⟩
    rcases hW with rfl | rfl
    · have := (k1.drew.set 3 u).set 0 (.slice none 0 0); simpa using this
    · have := (k1.drew.set 0 (.slice none 0 0)).set 3 u; simpa using this
  have FIN1 : Hid (∀ (W : World) (u : Value) (bs : List UInt8), (∃ u0, Blk W b 105 #[.slice none 0 0, .slice a1 n1 c1, v2, u0] ∧ ∃ bs0, BytesAt S0 W u0 bs0 ∧ (x.s0 = [] → bs0 = [])) → BytesAt S1 W u bs → True → (x.s1 = [] → bs = []) → Ch O w W →
      ∀ W2, (W2 = (W.drew.setCell ⟨b, 2, none⟩ u).setCell ⟨b, 1, none⟩ (.slice none 0 0) ∨ W2 = (W.drew.setCell ⟨b, 1, none⟩ (.slice none 0 0)).setCell ⟨b, 2, none⟩ u) →
        ∃ u0 bs0 u1 bs1, Blk W2 b 105 #[.slice none 0 0, .slice none 0 0, u1, u0] ∧ BytesAt S0 W2 u0 bs0 ∧ BytesAt S1 W2 u1 bs1 ∧ (x.s0 = [] → bs0 = []) ∧ (x.s1 = [] → bs1 = []) ∧ Ch O w W2) := by
    rintro W u bs ⟨u0, k1, bs0, k6, k7⟩ k2 - k4 k5 W2 hW
    have c2 : Ch (fun g => g = b) W W2 := by rcases hW with rfl | rfl <;> exact ((Ch.refl _ _).drew.set1 _ _).set1 _ _
    refine ⟨u0, bs0, u, bs, ?_, k6.ch c2 (fun g hg _ e => hS0b (e ▸ hg)), k2.ch c2 (fun g hg _ e => hS1b (e ▸ hg)), k7, k4, k5.then c2 fun g _ e => e ▸ HP.out.ob⟩
    rcases hW with rfl | rfl
    · have := (k1.drew.set 2 u).set 1 (.slice none 0 0); simpa using this
    · have := (k1.drew.set 1 (.slice none 0 0)).set 2 u; simpa using this
  have ST0 := Lib.hid (And.intro hB0 (And.intro hs0 hs1))
  clear hB0 hs0 hs1
  go_enter Tryz.func74, Tryz.ntmps74
  go_wp2_with fail
  go_loopw [14] (fun i wr => (i = .int .i64 0 ∧ Hid ((Blk wr b 105 #[.slice a0 n0 c0, .slice a1 n1 c1, v2, v3] ∧ BytesAt S0 wr (.slice a0 n0 c0) x.s0 ∧ BytesAt S1 wr (.slice a1 n1 c1) x.s1) ∧ Ch O w wr)) ∨
      (i = .int .i64 1 ∧ ∃ u bs, Blk wr b 105 #[.slice none 0 0, .slice a1 n1 c1, v2, u] ∧ BytesAt S0 wr u bs ∧ BytesAt S1 wr (.slice a1 n1 c1) x.s1 ∧ (x.s0 = [] → bs = []) ∧ Ch O w wr) ∨
      (i = .int .i64 2 ∧ ∃ u0 bs0 u1 bs1, Blk wr b 105 #[.slice none 0 0, .slice none 0 0, u1, u0] ∧ BytesAt S0 wr u0 bs0 ∧ BytesAt S1 wr u1 bs1 ∧ (x.s0 = [] → bs0 = []) ∧ (x.s1 = [] → bs1 = []) ∧ Ch O w wr)) (fun i _ => (2 - intOf i).toNat)
  case atStart => exact .inl ⟨rfl, ST0.out, Ch.refl _ _⟩
  case round =>
    clear l0 l1
    rcases hrel with ⟨rfl, hh⟩ | ⟨rfl, u, bs, hb, hu, h1, himp, hch⟩ | ⟨rfl, u0, bs0, u1, bs1, hb, hu0, hu1, hi0, hi1, hch⟩
    · have HBk := Lib.hid hh.out.1.1
      have HB1 := Lib.hid hh.out.1.2.1
      have HOt := Lib.hid hh.out.1.2.2
      have HCh := Lib.hid hh.out.2
      have l0 := HBk.out.cell 0
      have l3 := HBk.out.cell 3
      have f0 := HBk.out.free 0
      have f3 := HBk.out.free 3
      clear hh
      cases lose
      · by_cases hn0 : n0 = 0
        · have HBs := Lib.hid (HL0.out hn0)
          subst hn0
          go_wp2_with fail
          go_region
          all_goals
            go_wp2_with fail
            go_roundw
            case rel => exact .inr (.inl ⟨rfl, FIN0.out wr _ _ HBk.out HB1.out HOt.out (fun h => h) HCh.out _ (by first | exact .inl rfl | exact .inr rfl)⟩)
            case measure => simp [intOf]
        · have hn1 : (0 : Int) < n0 := by omega
          obtain ⟨g, e2, hgS, hgl, hfree, hcell⟩ := bytes_open HB1.out HLn0.out (by omega)
          subst e2
          clear hn0
          by_cases hs : sp < 0
          · go_wp2_with fail
            go_region
            all_goals
              go_wp2_with fail
              go_roundw
              case rel => exact .inr (.inl ⟨rfl, FIN0.out wr _ _ HBk.out HB1.out HOt.out (fun h => h) HCh.out _ (by first | exact .inl rfl | exact .inr rfl)⟩)
              case measure => simp [intOf]
          · have hs' : 0 ≤ sp := by omega
            have k0 : 0 ≤ sp % (n0 : Int) := Int.emod_nonneg _ (by omega)
            have k1 : sp % (n0 : Int) < n0 := Int.emod_lt_of_pos _ hn1
            obtain ⟨yb, hyb⟩ := hcell (sp % (n0 : Int)).toNat (by omega)
            have hfr := hfree (sp % (n0 : Int)).toNat
            have HY0 := Lib.hid (bytes_put HB1.out HLn0.out (k := (sp % (n0 : Int)).toNat) (by omega) (bits_lo_u8 .xor yb 1) (bits_hi_u8 .xor yb 1))
            have HNe : Hid (x.s0 ≠ []) := fun e => by have h1 := HLn0.out; rw [e] at h1; simp at h1; omega
            have HgS := Lib.hid hgS
            clear hs hfree hcell
            go_wp2_with fail
            obtain ⟨W, hW⟩ : ∃ W, W = wr.setCell ⟨g, (sp % (n0 : Int)).toNat, none⟩ (.int .u8 (bits .xor .u8 yb 1)) := ⟨_, rfl⟩
            obtain ⟨bs', hbs'⟩ := HY0.out
            have cW : Ch (fun q => q = g) wr W := by rw [hW]; exact (Ch.refl _ _).set1 _ _
            rw [← hW] at hbs' ⊢
            have HB2 := Lib.hid hbs'
            have HCW : Hid (Ch O w W) := HCh.out.then cW fun q _ e => by have h1 := HgS.out; rw [HS0.out] at h1; exact e ▸ h1.1
            have hgb : g ≠ b := fun e => hS0b (e ▸ HgS.out)
            have hkb := cW.blk HBk.out hgb.symm
            have HBkW := Lib.hid hkb
            have HOtW : Hid (BytesAt S1 W (.slice a1 n1 c1) x.s1) := HOt.out.ch cW fun q hq _ e => by have h1 := HgS.out; rw [HS0.out] at h1; rw [HS1.out, e] at hq; have h2 := hq.2; rw [h1.2] at h2; omega
            have l0 := hkb.cell 0
            have l3 := hkb.cell 3
            have f0 := hkb.free 0
            have f3 := hkb.free 3
            clear hbs' hW cW hfr
            go_wp2_with fail
            go_region
            all_goals
              go_wp2_with fail
              go_roundw
              case rel => exact .inr (.inl ⟨rfl, FIN0.out W _ bs' HBkW.out HB2.out HOtW.out (fun h => absurd h HNe.out) HCW.out _ (by first | exact .inl rfl | exact .inr rfl)⟩)
              case measure => simp [intOf]
      · skip
        go_wp2_with fail
        go_region
        all_goals
          go_wp2_with fail
          go_roundw
          case rel => exact .inr (.inl ⟨rfl, FIN0.out wr _ _ HBk.out (BytesAt.nil _ _) HOt.out (fun _ => rfl) HCh.out _ (by first | exact .inl rfl | exact .inr rfl)⟩)
          case measure => simp [intOf]
    · have HBk : Hid (∃ u0, Blk wr b 105 #[.slice none 0 0, .slice a1 n1 c1, v2, u0] ∧ ∃ bs0, BytesAt S0 wr u0 bs0 ∧ (x.s0 = [] → bs0 = [])) := ⟨u, hb, bs, hu, himp⟩
      have HB1 := Lib.hid h1
      have HOt := Lib.hid trivial
      have HCh := Lib.hid hch
      have l1 := hb.cell 1
      have l2 := hb.cell 2
      have f1 := hb.free 1
      have f2 := hb.free 2
      clear hb hu h1 himp hch
      cases lose
      · by_cases hn0 : n1 = 0
        · have HBs := Lib.hid (HL1.out hn0)
          subst hn0
          go_wp2_with fail
          go_region
          all_goals
            go_wp2_with fail
            go_roundw
            case rel => exact .inr (.inr ⟨rfl, FIN1.out wr _ _ HBk.out HB1.out HOt.out (fun h => h) HCh.out _ (by first | exact .inl rfl | exact .inr rfl)⟩)
            case measure => simp [intOf]
        · have hn1 : (0 : Int) < n1 := by omega
          obtain ⟨g, e2, hgS, hgl, hfree, hcell⟩ := bytes_open HB1.out HLn1.out (by omega)
          subst e2
          clear hn0
          by_cases hs : sp < 0
          · go_wp2_with fail
            go_region
            all_goals
              go_wp2_with fail
              go_roundw
              case rel => exact .inr (.inr ⟨rfl, FIN1.out wr _ _ HBk.out HB1.out HOt.out (fun h => h) HCh.out _ (by first | exact .inl rfl | exact .inr rfl)⟩)
              case measure => simp [intOf]
          · have hs' : 0 ≤ sp := by omega
            have k0 : 0 ≤ sp % (n1 : Int) := Int.emod_nonneg _ (by omega)
            have k1 : sp % (n1 : Int) < n1 := Int.emod_lt_of_pos _ hn1
            obtain ⟨yb, hyb⟩ := hcell (sp % (n1 : Int)).toNat (by omega)
            have hfr := hfree (sp % (n1 : Int)).toNat
            have HY0 := Lib.hid (bytes_put HB1.out HLn1.out (k := (sp % (n1 : Int)).toNat) (by omega) (bits_lo_u8 .xor yb 1) (bits_hi_u8 .xor yb 1))
            have HNe : Hid (x.s1 ≠ []) := fun e => by have h1 := HLn1.out; rw [e] at h1; simp at h1; omega
            have HgS := Lib.hid hgS
            clear hs hfree hcell
            go_wp2_with fail
            obtain ⟨W, hW⟩ : ∃ W, W = wr.setCell ⟨g, (sp % (n1 : Int)).toNat, none⟩ (.int .u8 (bits .xor .u8 yb 1)) := ⟨_, rfl⟩
            obtain ⟨bs', hbs'⟩ := HY0.out
            have cW : Ch (fun q => q = g) wr W := by rw [hW]; exact (Ch.refl _ _).set1 _ _
            rw [← hW] at hbs' ⊢
            have HB2 := Lib.hid hbs'
            have HCW : Hid (Ch O w W) := HCh.out.then cW fun q _ e => by have h1 := HgS.out; rw [HS1.out] at h1; exact e ▸ h1.1
            have hgb : g ≠ b := fun e => hS1b (e ▸ HgS.out)
            obtain ⟨u0, hkb, bs0, hu0, hi0⟩ := HBk.out
            have hkb := cW.blk hkb hgb.symm
            have HBkW : Hid (∃ u0, Blk W b 105 #[.slice none 0 0, .slice (some ⟨g, 0, none⟩) n1 c1, v2, u0] ∧ ∃ bs0, BytesAt S0 W u0 bs0 ∧ (x.s0 = [] → bs0 = [])) := ⟨u0, hkb, bs0, hu0.ch cW fun q hq _ e => by have h1 := HgS.out; rw [HS1.out] at h1; rw [HS0.out, e] at hq; have h2 := hq.2; rw [h1.2] at h2; omega, hi0⟩
            have HOtW := Lib.hid trivial
            have l1 := hkb.cell 1
            have l2 := hkb.cell 2
            have f1 := hkb.free 1
            have f2 := hkb.free 2
            clear hu0 hi0
            clear hbs' hW cW hfr
            go_wp2_with fail
            go_region
            all_goals
              go_wp2_with fail
              go_roundw
              case rel => exact .inr (.inr ⟨rfl, FIN1.out W _ bs' HBkW.out HB2.out HOtW.out (fun h => absurd h HNe.out) HCW.out _ (by first | exact .inl rfl | exact .inr rfl)⟩)
              case measure => simp [intOf]
      · skip
        go_wp2_with fail
        go_region
        all_goals
          go_wp2_with fail
          go_roundw
          case rel => exact .inr (.inr ⟨rfl, FIN1.out wr _ _ HBk.out (BytesAt.nil _ _) HOt.out (fun _ => rfl) HCh.out _ (by first | exact .inl rfl | exact .inr rfl)⟩)
          case measure => simp [intOf]
    · go_wp2_with fail
      go_end0
      have h := HP.out
      refine ⟨rfl, ⟨⟨[], [], bs1, bs0⟩, ⟨fun g => if m g = 1 then 4 else if m g = 2 then 3 else if m g = 0 then 0 else 5, _, _, _, _, h.ob, ?_, hb, BytesAt.nil _ _, BytesAt.nil _ _, hu1.mono ?_, hu0.mono ?_⟩, rfl, rfl, hi0, hi1⟩, hch⟩
      · show (if m b = 1 then 4 else if m b = 2 then 3 else if m b = 0 then 0 else 5) = 0
        rw [h.mb]; rfl
      · intro g hg _
        rw [HS1.out] at hg
        exact ⟨hg.1, by rw [hg.2]; rfl⟩
      · intro g hg _
        rw [HS0.out] at hg
        exact ⟨hg.1, by rw [hg.2]; rfl⟩
end Go.Proofs.YtkplgggdidhnoaaGreatDoor
