/-
  The contracts of lock: New, Safe, Routes. Conditions: sizes. The contracts of lock: Safe, Routes. Conditions: sizes. The contracts of lock: Routes, isState and Set of routes that are all Idle. Conditions: sizes.
-/
import Derived.Test.YtkplgggdidhnoaaGreatDoorM06
import Derived.Test.YtkplgggdidhnoaaGreatDoorM10
import Derived.Test.YtkplgggdidhnoaaGreatDoorM03
import Derived.Test.YtkplgggdidhnoaaGreatDoorM11
namespace Go.Proofs.YtkplgggdidhnoaaGreatDoor
open Go.ChangeShapes Go.WideShapes Go.ChangeAt Go.RowKit
set_option linter.unusedVariables false

/-- A route that is Idle. -/
def RS.idle : RS := ⟨0, 0, 0, false⟩
/-- The Lock at block b: all its blocks are of O. -/
def LockAt (O : Nat → Prop) (w : World) (b : Nat) (L : Lay) (rs : List RS) : Prop :=
  O b ∧ rs.length = L.routes.length ∧ ∃ v1 v2 v3 v4 v5, Blk w b 95 #[v1, v2, v3, v4, v5] ∧ LayAt (fun g => O g ∧ g ≠ b ∧ v5.ownBlock ≠ some g) w (.agg #[v1, v2, v3, v4]) L ∧ Own (fun g => O g ∧ g ≠ b) w 168 4 v5 rs.length (rs.flatMap fRS)

theorem LockAt.ch {O S : Nat → Prop} {w w' : World} {b : Nat} {L : Lay} {rs : List RS} (h : LockAt O w b L rs) (c : Ch S w w') (hs : ∀ g, O g → g < w.heap.size → ¬ S g) : LockAt O w' b L rs := by
  obtain ⟨h0, h1, v1, v2, v3, v4, v5, h2, h3, h4⟩ := h
  exact ⟨h0, h1, v1, v2, v3, v4, v5, c.blk h2 (hs b h0 h2.lt), h3.ch c (fun g hg => hs g hg.1), h4.ch c (fun g hg => hs g hg.1)⟩
theorem LockAt.mono {O O' : Nat → Prop} {w : World} {b : Nat} {L : Lay} {rs : List RS} (h : LockAt O w b L rs) (ho : ∀ g, O g → g < w.heap.size → O' g) : LockAt O' w b L rs := by
  obtain ⟨h0, h1, v1, v2, v3, v4, v5, h2, h3, h4⟩ := h
  exact ⟨ho b h0 h2.lt, h1, v1, v2, v3, v4, v5, h2, h3.mono fun g hg hl => ⟨ho g hg.1 hl, hg.2⟩, h4.mono fun g hg hl => ⟨ho g hg.1 hl, hg.2⟩⟩
theorem LockAt.lt {O : Nat → Prop} {w : World} {b : Nat} {L : Lay} {rs : List RS} (h : LockAt O w b L rs) : b < w.heap.size := by
  obtain ⟨h0, h1, v1, v2, v3, v4, v5, h2, h3, h4⟩ := h
  exact h2.lt

theorem Blk.cells4 {w : World} {b : Nat} {T : TypeId} {v1 v2 v3 v4 : Value} (h : Blk w b T #[v1, v2, v3, v4]) : w.cell? ⟨b, 0, none⟩ = some v1 ∧ w.cell? ⟨b, 0 + 1, none⟩ = some v2 ∧ w.cell? ⟨b, 0 + 2, none⟩ = some v3 ∧ w.cell? ⟨b, 0 + 3, none⟩ = some v4 := ⟨h.cell 0, h.cell 1, h.cell 2, h.cell 3⟩

set_option maxHeartbeats 4000000 in
theorem lock_new (B : Nat → Prop) (w : World) (v : Value) (L : Lay) (hL : LayAt B w v L) (ok : LayOk L) (hT : Tabs w) :
    Calls Tryz.prog 21 #[v] w fun r w' => ∃ b, r = .returned (.tuple #[.pointer (some ⟨b, 0, none⟩), .int .i64 0]) ∧ LockAt (New w.heap.size) w' b L (List.replicate L.routes.length RS.idle) ∧ Ch Noone w w' := by
  have HL := Lib.hid hL
  have HT := Lib.hid hT
  have OK := Lib.hid ok
  have r1 := ok.r1
  clear hT ok
  obtain ⟨q1, q2, q3, q4, rs, rfl, -, -, -, h4, h5, -⟩ := hL
  have hrl : rs.length = L.routes.length := by rw [← h4]; simp
  clear h4
  obtain ⟨a4, c4, rfl, -, -, -, -⟩ := h5
  rw [hrl] at *
  clear hrl
  have hmk := fun (w : World) => made_rs w L.routes.length (by omega)
  have b0 := Blk.new w 26 #[q1, q2, q3, .slice a4 L.routes.length c4]
  have C0 : Ch Noone w (w.alloc (.cells #[q1, q2, q3, .slice a4 L.routes.length c4] 26)) := (Ch.refl _ _).alloc _
  go_enter Tryz.func21, Tryz.ntmps21
  go_wp2_with fail
  refine (table_yes B _ _ L (HL.out.ch0 C0) OK.out (HT.out.ch0 C0)).mono ?_
  rintro e w1 ⟨rfl, c1⟩
  have C1 := C0.trans c1
  have b1 := c1.blk b0 (fun h => h)
  have l0 := b1.cell 0
  have l1 := b1.cell 1
  have l2 := b1.cell 2
  have l3 := b1.cell 3
  simp only [List.getElem?_toArray, List.getElem?_cons_zero, List.getElem?_cons_succ] at l0 l1 l2 l3
  go_wp2_with fail
  have HL0 : Hid (LayAt B w1.drew (.agg #[q1, q2, q3, .slice a4 L.routes.length c4]) L) := HL.out.ch0 C1.drew
  have S1 := OK.out.s1
  have G1 := OK.out.g1
  have P1 := OK.out.p1
  have Q1 : Hid (∀ r ∈ L.routes, r.path.length ≤ 5 ∧ r.pts.length ≤ 5 ∧ r.flank.length ≤ 5) := fun r hr => by
    have h := OK.out.route r hr
    have h1 := h.path.2.2.2
    have h2 := needs_le h.pts
    have h3 := needs_le h.flank
    exact ⟨h1, by omega, by omega⟩
  go_region_held3 (fun w' => w'.cell? ⟨w.heap.size, 0, none⟩ = some q1 ∧ w'.cell? ⟨w.heap.size, 0 + 1, none⟩ = some q2 ∧ w'.cell? ⟨w.heap.size, 0 + 2, none⟩ = some q3 ∧ w'.cell? ⟨w.heap.size, 0 + 3, none⟩ = some (.slice a4 L.routes.length c4)) ((refine Blk.cells4 (T := 26) ?_; repeat (first | exact b1 | exact b1.drew | apply Blk.alloc | (refine c2.blk ?_ (fun h => h)) | apply Blk.drew))) (first | (go_at_call 45; refine (copied_any B _ _ L (by first | exact HL0.out | exact HL0.out.ch0 ((Ch.refl _ _).alloc _)) S1 G1 P1 r1 Q1.out).mono ?_; rintro e w2 ⟨v', rfl, hl2, c2⟩; have HL2 := Lib.hid hl2; obtain ⟨x1, x2, x3, x4, xs, rfl, -, -, -, -, -, -⟩ := hl2))
  all_goals
    go_wp2_with fail
    go_ret2
    have hsz := c2.size
    (try simp only [World.drew] at hsz)
    (try simp only [World.size_alloc'] at hsz)
    first
    | refine ⟨w2.heap.size + 1, rfl, ⟨?_, by simp, x1, x2, x3, x4, .slice (some ⟨w2.heap.size, 0, none⟩) L.routes.length L.routes.length, Blk.new2 _ _ _ _, ?_, ?_⟩, (((C1.drew.trans c2).alloc _).alloc _)⟩
      · have := C1.size; show w.heap.size ≤ _; omega
      · refine (HL2.out.mono fun g hg hl => ?_).ch0 (((Ch.refl _ _).alloc _).alloc _)
        have hg' : w1.heap.size ≤ g := hg
        have := C1.size
        refine ⟨by show w.heap.size ≤ g; omega, by omega, ?_⟩
        simp only [Value.ownBlock, ne_eq, Option.some.injEq]; omega
      · rw [List.length_replicate]
        refine (Own.made fRS 4 (fun _ => rfl) (by omega) RS.idle _ rfl w2 _ L.routes.length (by omega) _ ?_).ch ((Ch.refl Noone _).alloc _) (fun _ _ _ h => h)
        have := C1.size
        exact ⟨by show w.heap.size ≤ _; omega, by omega⟩
    | refine ⟨w2.heap.size, rfl, ⟨?_, by simp, x1, x2, x3, x4, .slice (some ⟨w1.heap.size, 0, none⟩) L.routes.length L.routes.length, Blk.new _ _ _, ?_, ?_⟩, (((C1.alloc _).drew.trans c2).alloc _)⟩
      · have := C1.size; show w.heap.size ≤ _; omega
      · refine (HL2.out.mono fun g hg hl => ?_).ch0 ((Ch.refl _ _).alloc _)
        have hg' : w1.heap.size + 1 ≤ g := by have h : _ ≤ g := hg; simpa [World.drew] using h
        have := C1.size
        refine ⟨by show w.heap.size ≤ g; omega, by omega, ?_⟩
        simp only [Value.ownBlock, ne_eq, Option.some.injEq]; omega
      · rw [List.length_replicate]
        refine ((Own.made fRS 4 (fun _ => rfl) (by omega) RS.idle _ rfl w1 _ L.routes.length (by omega) _ ?_).ch (S := Noone) (((Ch.refl Noone _).drew.trans c2).alloc _) (fun _ _ _ h => h))
        have := C1.size
        exact ⟨by show w.heap.size ≤ _; omega, by omega⟩
end Go.Proofs.YtkplgggdidhnoaaGreatDoor

namespace Go.Proofs.YtkplgggdidhnoaaGreatDoor
open Go.ChangeShapes Go.WideShapes Go.ChangeAt Go.RowKit
set_option linter.unusedVariables false

/-- What the field is told, in memory of O that may be written. -/
def OutAt (O : Nat → Prop) (w : World) (v : Value) (d : List Int) (p : List Bool) : Prop :=
  ∃ v1 v2, v = .agg #[v1, v2] ∧ Own O w 3 1 v1 d.length (d.flatMap fInt) ∧ Own (fun g => O g ∧ v1.ownBlock ≠ some g) w 4 1 v2 p.length (p.flatMap fB)
theorem OutAt.ch {O S : Nat → Prop} {w w' : World} {v : Value} {d : List Int} {p : List Bool} (h : OutAt O w v d p) (c : Ch S w w') (hs : ∀ g, O g → g < w.heap.size → ¬ S g) : OutAt O w' v d p := by
  obtain ⟨v1, v2, h1, h2, h3⟩ := h
  exact ⟨v1, v2, h1, h2.ch c hs, h3.ch c (fun g hg => hs g hg.1)⟩
theorem OutAt.mono {O O' : Nat → Prop} {w : World} {v : Value} {d : List Int} {p : List Bool} (h : OutAt O w v d p) (ho : ∀ g, O g → g < w.heap.size → O' g) : OutAt O' w v d p := by
  obtain ⟨v1, v2, h1, h2, h3⟩ := h
  exact ⟨v1, v2, h1, h2.mono ho, h3.mono fun g hg hl => ⟨ho g hg.1 hl, hg.2⟩⟩

set_option maxHeartbeats 4000000 in
theorem lock_safe (O : Nat → Prop) (w : World) (b : Nat) (L : Lay) (rs : List RS) (h : LockAt O w b L rs) (ok : LayOk L) :
    Calls Tryz.prog 68 #[.pointer (some ⟨b, 0, none⟩)] w fun r w' => ∃ v, r = .returned v ∧ OutAt (New w.heap.size) w' v (List.replicate L.pts.length 0) (List.replicate L.sigs.length false) ∧ Ch Noone w w' := by
  obtain ⟨-, -, v1, v2, v3, v4, v5, b0, hL, -⟩ := h
  obtain ⟨q1, q2, q3, q4, rs', e, -, h2, h3, -, -, -⟩ := hL
  cases e
  obtain ⟨a2, c2, rfl, -, -, -, -⟩ := h2
  obtain ⟨a3, c3, rfl, -, -, -, -⟩ := h3
  have p1 := ok.p1
  have g1 := ok.g1
  clear ok
  have hmi := fun (w : World) => made_int w L.pts.length (by omega)
  have hmb := fun (w : World) => made_bool w L.sigs.length (by omega)
  have hbw := b0.lt
  have b1 := b0.alloc (.cells #[.slice none 0 0, .slice none 0 0] 36)
  have x0 := Blk.new w 36 #[.slice none 0 0, .slice none 0 0]
  go_enter Tryz.func68, Tryz.ntmps68
  go_wp2_with fail
  go_region_held3 (fun w' => w'.cell? ⟨b, 0 + 1, none⟩ = some (.slice a2 L.pts.length c2) ∧ w'.cell? ⟨b, 0 + 2, none⟩ = some (.slice a3 L.sigs.length c3)) ((first | exact ⟨b1.cell 1, b1.cell 2⟩ | exact ⟨(b1.alloc _).cell 1, (b1.alloc _).cell 2⟩ | exact ⟨((b1.alloc _).alloc _).cell 1, ((b1.alloc _).alloc _).cell 2⟩ | exact ⟨(((b0.alloc _).alloc _).alloc _).cell 1, (((b0.alloc _).alloc _).alloc _).cell 2⟩)) (fail)
  all_goals
    go_wp2_with fail
    refine bodyPost_ret (results_cell_row (P := Tryz.prog) rfl _ _ w.heap.size _ _ _ _ rfl (((Blk.new w _ _).alloc _).alloc _).drew Tryz.underlying36 rfl (by kernel_rfl)) rfl ?_
    refine ⟨_, rfl, ⟨_, _, rfl, ?_, ?_⟩, ((((Ch.refl _ _).alloc _).alloc _).alloc _).drew⟩
    · rw [List.length_replicate]
      refine Own.made1 fInt (fun _ => rfl) 0 _ rfl _ _ _ (by omega) _ _ (by first | exact (Blk.newk _ _ (by simp) _ _).drew | exact ((Blk.newk _ _ (by simp) _ _).alloc _).drew) (by show w.heap.size ≤ _; omega)
    · rw [List.length_replicate]
      refine Own.made1 fB (fun _ => rfl) false _ rfl _ _ _ (by omega) _ _ (by first | exact (Blk.newk _ _ (by simp) _ _).drew | exact ((Blk.newk _ _ (by simp) _ _).alloc _).drew) (by refine ⟨by show w.heap.size ≤ _; omega, ?_⟩; simp only [Value.ownBlock, ne_eq, Option.some.injEq]; omega)
end Go.Proofs.YtkplgggdidhnoaaGreatDoor

namespace Go.Proofs.YtkplgggdidhnoaaGreatDoor
open Go.ChangeShapes Go.WideShapes Go.ChangeAt Go.RowKit
set_option linter.unusedVariables false

theorem rs_one (xs : List RS) : ∀ u ∈ xs.flatMap fRS, u.oneCell' = true := by
  intro u hu
  obtain ⟨x, -, hx⟩ := List.mem_flatMap.1 hu
  simp only [fRS, List.mem_cons, List.not_mem_nil, or_false] at hx
  rcases hx with rfl | rfl | rfl | rfl <;> rfl

theorem lock_routes (O : Nat → Prop) (w : World) (b : Nat) (L : Lay) (rs : List RS) (h : LockAt O w b L rs) (ok : LayOk L) :
    Calls Tryz.prog 60 #[.pointer (some ⟨b, 0, none⟩)] w fun r w' => ∃ v, r = .returned v ∧ Own (New w.heap.size) w' 168 4 v rs.length (rs.flatMap fRS) ∧ Ch Noone w w' := by
  obtain ⟨-, hl, v1, v2, v3, v4, v5, b0, -, ho⟩ := h
  have HO := Lib.hid ho; clear ho
  have r1 := ok.r1
  have HN : Hid (rs.length ≤ 100000) := by unfold Hid; omega
  clear ok hl
  have l4 := b0.cell 4
  simp only [List.getElem?_toArray, List.getElem?_cons_zero, List.getElem?_cons_succ] at l4
  go_enter Tryz.func60, Tryz.ntmps60
  go_wp2_with fail
  refine (clone_rs _ w v5 rs.length (rs.flatMap fRS) HO.out.sl (flat_length fRS 4 (fun _ => rfl) _) (rs_one _) HN.out).mono ?_
  rintro e w1 ⟨v', rfl, h1, c1⟩
  have H1 := Lib.hid h1; clear h1
  go_wp2_with fail
  go_ret
  exact ⟨_, rfl, H1.out, c1⟩

theorem isState_idle (w : World) (b : Nat) (r : Int) :
    Calls Tryz.prog 99 #[.pointer (some ⟨b, 0, none⟩), .int .i64 r, .agg #[.int .i64 0, .int .i64 0, .int .i64 0, .bool false]] w fun r w' => r = .returned (.bool true) ∧ Ch Noone w w' := by
  have C0 : Ch Noone w ((w.alloc (.cells #[.int .i64 0, .int .i64 0, .int .i64 0, .bool false] 168)).alloc (.cells #[.int .i64 0, .int .i64 0, .int .i64 0, .bool false] 168)) := ((Ch.refl _ _).alloc _).alloc _
  go_enter Tryz.func99, Tryz.ntmps99
  go_wp2_with fail
  go_ret
  exact ⟨rfl, C0⟩
/-- New blocks may be had besides. -/
def Gr (O : Nat → Prop) (w : World) : Nat → Prop := fun g => O g ∨ w.heap.size ≤ g

set_option maxHeartbeats 4000000 in
theorem lock_set_idle (O B : Nat → Prop) (w : World) (b : Nat) (L : Lay) (rs : List RS) (h : LockAt O w b L rs) (ok : LayOk L) (v : Value) (hv : Sl B w v rs.length ((List.replicate rs.length RS.idle).flatMap fRS)) :
    Calls Tryz.prog 61 #[.pointer (some ⟨b, 0, none⟩), v] w fun r w' => r = .returned (.bool true) ∧ LockAt (Gr O w) w' b L (List.replicate rs.length RS.idle) ∧ Ch (fun g => g = b) w w' := by
  have HV := Lib.hid hv
  have HK := Lib.hid h
  obtain ⟨hob, hl, v1, v2, v3, v4, v5, b0, -, ho⟩ := h
  obtain ⟨a5, c5, rfl, -, -, -, -⟩ := ho.sl
  obtain ⟨a, c, rfl, k1, k2, -, -⟩ := hv
  have hn6 : rs.length ≤ 6 := by rw [hl]; exact ok.r1
  have HOb := Lib.hid hob
  have OK := Lib.hid ok
  have HLen := Lib.hid hl
  have HC := Lib.hid k2
  clear ho hob hl ok k2
  have l4 := b0.cell 4
  simp only [List.getElem?_toArray, List.getElem?_cons_zero, List.getElem?_cons_succ] at l4
  have HB0 := Lib.hid b0
  generalize rs.length = n at *
  go_enter Tryz.func61, Tryz.ntmps61
  go_wp2_with fail
  go_loopw [23] (fun i wr => ∃ k : Nat, k ≤ n ∧ i = .int .i64 k ∧ Ch Noone w wr) (fun i _ => (n - intOf i).toNat)
  case atStart => exact ⟨0, by omega, rfl, Ch.refl _ _⟩
  case round =>
    obtain ⟨k, hk, rfl, hch⟩ := hrel
    clear l4
    by_cases hkl : k < n
    · obtain ⟨b', off, rfl, -, hbw, hat⟩ := HV.out.at (f := fRS) (C := 4) (fun _ => rfl) (by omega) (i := k) (by rw [List.length_replicate]; exact hkl)
      rw [List.getElem_replicate] at hat
      have y0 : wr.cell? ⟨b', off + k * 4, none⟩ = some (.int .i64 0) := (hch.rd hbw _).trans (hat 0 (by omega))
      have y1 : wr.cell? ⟨b', off + k * 4 + 1, none⟩ = some (.int .i64 0) := (hch.rd hbw _).trans (hat 1 (by omega))
      have y2 : wr.cell? ⟨b', off + k * 4 + 2, none⟩ = some (.int .i64 0) := (hch.rd hbw _).trans (hat 2 (by omega))
      have y3 : wr.cell? ⟨b', off + k * 4 + 3, none⟩ = some (.bool false) := (hch.rd hbw _).trans (hat 3 (by omega))
      clear hat
      have kc : k ≤ c := by omega
      have hk0 : (0 : Int) ≤ k := by omega
      have hkc' : (k : Int) ≤ c := by omega
      go_wp2_with fail
      refine (isState_idle _ b _).mono ?_
      rintro e w1 ⟨rfl, c1⟩
      have bx := c1.blk (Blk.new wr 168 #[.int .i64 0, .int .i64 0, .int .i64 0, .bool false]) (fun h => h)
      have hch1 : Ch Noone w w1 := (hch.alloc _).trans c1
      clear y0 y1 y2 y3
      go_wp2_with fail
      go_loopw [37] (fun i wr2 => ∃ s : Nat, s ≤ k ∧ i = .int .i64 s ∧ Ch Noone w wr2 ∧ Blk wr2 wr.heap.size 168 #[.int .i64 0, .int .i64 0, .int .i64 0, .bool false]) (fun i _ => (k - intOf i).toNat)
      case atStart => exact ⟨0, by omega, rfl, hch1, bx⟩
      case round =>
        clear hch1 bx c1
        obtain ⟨s, hs, rfl, hch2, hx⟩ := hrel
        by_cases hsk : s < k
        · obtain ⟨b2, off2, e2, -, hbw2, hat⟩ := HV.out.at (f := fRS) (C := 4) (fun _ => rfl) (by omega) (i := s) (by rw [List.length_replicate]; omega)
          rw [List.getElem_replicate] at hat
          simp only [Option.some.injEq, Addr.mk.injEq, and_true] at e2
          obtain ⟨rfl, rfl⟩ := e2
          have y0 : wr.cell? ⟨b', off + s * 4, none⟩ = some (.int .i64 0) := (hch2.rd hbw _).trans (hat 0 (by omega))
          have y1 : wr.cell? ⟨b', off + s * 4 + 1, none⟩ = some (.int .i64 0) := (hch2.rd hbw _).trans (hat 1 (by omega))
          have y2 : wr.cell? ⟨b', off + s * 4 + 2, none⟩ = some (.int .i64 0) := (hch2.rd hbw _).trans (hat 2 (by omega))
          have y3 : wr.cell? ⟨b', off + s * 4 + 3, none⟩ = some (.bool false) := (hch2.rd hbw _).trans (hat 3 (by omega))
          clear hat
          have hx1 := hx.alloc (.cells #[.int .i64 0, .int .i64 0, .int .i64 0, .bool false] 168)
          have x0 := hx1.cell 0
          simp only [List.getElem?_toArray, List.getElem?_cons_zero] at x0
          go_wp2_with fail
          go_roundw
          case rel => exact ⟨s + 1, by omega, by go_num, hch2.alloc _, hx1⟩
          case measure => simp [intOf]; omega
        · go_wp2_with fail
          go_roundw
          case rel => exact ⟨k + 1, by omega, by go_num, hch2⟩
          case measure => simp [intOf]; omega
    · go_wp2_with fail
      refine (clone_rs B wr _ n ((List.replicate n RS.idle).flatMap fRS) (HV.out.ch0 hch) (by rw [flat_length fRS 4 (fun _ => rfl)]; simp) (rs_one _) (by omega)).mono ?_
      rintro e w1 ⟨v', rfl, h1, c1⟩
      have H1 := Lib.hid h1
      obtain ⟨a', c', rfl, -, -, -, -⟩ := h1.sl
      clear h1
      have hch1 := hch.trans c1
      have b1 := hch1.blk HB0.out (fun h => h)
      have f4 := b1.free 4
      have l4 := b1.cell 4
      simp only [List.getElem?_toArray, List.getElem?_cons_zero, List.getElem?_cons_succ] at l4
      go_wp2_with fail
      go_ret
      have hw := HK.out
      obtain ⟨_, _, u1, u2, u3, u4, u5, c0, d0, e0⟩ := hw
      have hlt := c0.lt
      cases (Option.some.inj (c0.symm.trans HB0.out) : Obj.cells _ _ _ = Obj.cells _ _ _)
      have hsz := hch.size
      have hob : (Value.slice a' n c').ownBlock = none ∨ ∃ g, (Value.slice a' n c').ownBlock = some g ∧ w.heap.size ≤ g := by
        rcases H1.out.2 with ⟨e, _⟩ | ⟨g, cap, cur, e, hg, _⟩
        · rw [e]; exact .inl rfl
        · rw [e]; exact .inr ⟨g, rfl, Nat.le_trans hsz hg⟩
      have D0 := ((d0.mono (B' := fun g => Gr O w g ∧ g ≠ b ∧ (Value.slice a' n c').ownBlock ≠ some g) fun g hg hl => ⟨Or.inl hg.1, hg.2.1, by
        rcases hob with h | ⟨g', h, h'⟩
        · rw [h]; simp
        · rw [h]; intro e; simp only [Option.some.injEq] at e; omega⟩).ch0 hch1).ch (S := fun g => g = b) ((Ch.refl _ _).set1 4 (.slice a' n c')) (fun g hg _ e => hg.2.1 e)
      have E0 := (H1.out.mono (O' := fun g => Gr O w g ∧ g ≠ b) fun g hg hl => ⟨Or.inr (Nat.le_trans hsz hg), fun e => by have : _ ≤ g := hg; omega⟩).ch (S := fun g => g = b) ((Ch.refl _ _).set1 4 (.slice a' n c')) (fun g hg _ e => hg.2 e)
      have F0 := b1.set 4 (.slice a' n c')
      refine ⟨rfl, ⟨.inl HOb.out, by rw [List.length_replicate]; exact HLen.out, _, _, _, _, _, by simpa using F0, D0, by rw [List.length_replicate]; exact E0⟩, (hch1.mono fun _ _ h => h.elim).set1 4 _⟩
end Go.Proofs.YtkplgggdidhnoaaGreatDoor
