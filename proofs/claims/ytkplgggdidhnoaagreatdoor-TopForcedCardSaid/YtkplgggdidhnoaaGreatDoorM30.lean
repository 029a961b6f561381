/-
  flat.Take: a range over slices.Chunk. Conditions: sizes. flat.Read: that it returns. Conditions: sizes.
-/
import Derived.Test.YtkplgggdidhnoaaGreatDoorM29
import Derived.Test.YtkplgggdidhnoaaGreatDoorM01
import Derived.RangeFuncBox
import Derived.RangeFuncNested
import Derived.RangeFuncBound
import Derived.RangeFuncCalls
import Derived.RangeFuncLeaves
import Derived.Shelf.Abstract
import Derived.Shelf.RegionOpen
import Derived.WalkKit
import Derived.OwnWalkIn
import Derived.TacticsInMore
import Derived.LoopNIn
import Derived.LoopIn
namespace Go.Proofs.YtkplgggdidhnoaaGreatDoor
open Go.ChangeShapes Go.WideShapes Go.ChangeAt Go.RowKit Go.Shelf
set_option linter.unusedVariables false
set_option linter.unusedSimpArgs false
attribute [local go_sem] Oper.semAt_some

/-- Where a chunk of four begins. -/
abbrev Four (n : Nat) := { x : Nat // x + 4 ≤ n }
/-- What a round keeps: what lay below n₀, and the two boxes of Chunk. -/
def Kp4 (n₀ : Nat) (A B : World) : Prop := Below n₀ A B ∧ ∀ g, (g = n₀ + 3 ∨ g = n₀ + 4) → B.heap[g]? = A.heap[g]?
theorem Kp4.refl (n₀ : Nat) (A : World) : Kp4 n₀ A A := ⟨Below.refl _ _, fun _ _ => rfl⟩
theorem Kp4.trans {n₀ : Nat} {A B C : World} (h : Kp4 n₀ A B) (k : Kp4 n₀ B C) : Kp4 n₀ A C := ⟨h.1.trans k.1, fun g hg => (k.2 g hg).trans (h.2 g hg)⟩
theorem Kp4.drewN {n₀ : Nat} (A : World) (k : Nat) : Kp4 n₀ A (A.drewN k) := ⟨⟨rfl, rfl, rfl, Nat.le_refl _, fun _ _ => rfl⟩, fun _ _ => rfl⟩
theorem Ch.grow0 {w w' : World} (h : Ch Noone w w') : w.grownBy w' none := ⟨h.os, h.tape, h.output, h.size, fun k hk _ => h.block k hk (fun h => h)⟩
theorem Kp4.blk {n₀ : Nat} {A B : World} (h : Kp4 n₀ A B) {g : Nat} {T : TypeId} {cs : Array Value} (hb : Blk A g T cs) (hg : g < n₀ ∨ g = n₀ + 3 ∨ g = n₀ + 4) : Blk B g T cs := by
  unfold Blk at *
  rcases hg with hg | hg
  · exact (h.1.block g hg).trans hb
  · exact (h.2 g hg).trans hb

set_option maxRecDepth 100000 in
set_option maxHeartbeats 4000000 in
/-- The closure of slices.Chunk. -/
theorem chunk1_in (n : Nat) (hn : 1 ≤ n) (l n₀ : Nat) (a : Option Addr) (len cap m : Nat) (hm : Hid (len = 4 * m)) (hlc : len ≤ cap) (hcap : cap ≤ 9223372036854775807)
    (b off : Nat) (ha : 0 < len → a = some ⟨b, off, none⟩) (J Jx : List (Four len) → World → Prop)
    (hY : ∀ pre x W, J pre W → pre.length < m → YieldAt Fence.wide (n - 1) Tryz.prog l #[.slice (some ⟨b, off + x.1, none⟩) 4 4] W fun e W' =>
      (e = .returned (.bool true) ∧ J (pre ++ [x]) W' ∧ Kp4 n₀ W W') ∨ (e = .returned (.bool false) ∧ Jx (pre ++ [x]) W'))
    (W : World) (hJ : AbidesFrom W.heap.size J) (hBs : Blk W (n₀ + 3) 33 #[.slice a len cap]) (hBn : Blk W (n₀ + 4) 3 #[.int .i64 4]) (h0 : J [] W) :
    CallsIn Fence.wide n Tryz.prog 142 #[.func (.yield l) #[] #[], .pointer (some ⟨n₀ + 3, 0, none⟩), .pointer (some ⟨n₀ + 4, 0, none⟩)] W fun e W' => (∃ v, e = .returned v) ∧
      ((∃ ys, ys.length ≤ m ∧ J ys W') ∨ (∃ pre, True ∧ Jx pre W')) := by
  refine callsIn_of_wp Tryz.func142 rfl trivial ?_ rfl
  simp only [Tryz.ntmps142, List.size_toArray, List.length_cons, List.length_nil, Nat.reduceAdd, Nat.reduceSub, Array.replicate_succ, Array.replicate_zero, List.push_toArray, List.append_toArray, List.nil_append, List.cons_append]
  have HBs := Lib.hid hBs
  have HBn := Lib.hid hBn
  clear hBs hBn
  gi_wp2
  gi_loopw [4] (fun i wr => ∃ (k : Nat) (pre : List (Four len)), Hid (k = 4 * pre.length) ∧ k ≤ len ∧ i = .int .i64 k ∧ J pre wr ∧ Hid (Kp4 n₀ W wr))
    (fun i _ => (len - intOf i).toNat)
  case atStart => exact ⟨0, [], rfl, Nat.zero_le _, rfl, h0, Kp4.refl _ _⟩
  case round =>
    obtain ⟨k, pre, hk4, hk, rfl, hJs, hnx⟩ := hrel
    have y0 : wr.cell? ⟨n₀ + 3, 0, none⟩ = some (.slice a len cap) := (hnx.out.blk HBs.out (.inr (.inl rfl))).cell 0
    have y1 : wr.cell? ⟨n₀ + 4, 0, none⟩ = some (.int .i64 4) := (hnx.out.blk HBn.out (.inr (.inr rfl))).cell 0
    by_cases hlt : k < len
    · have hk5 : k + 4 ≤ len := by have h1 := hk4.out; have h2 := hm.out; omega
      obtain rfl := ha (by omega)
      have hk0 : (0 : Int) ≤ k := by omega
      have hk1 : (k : Int) < len := by omega
      have hJ2 : ∀ nq : Nat, J pre (wr.drewN nq) := fun nq => hJ pre wr _ none hJs ((Ch.refl Noone wr).drewN nq).grow0 (fun r e => by cases e)
      have HY : Hid (∀ nq : Nat, _) := fun nq => hY pre ⟨k, hk5⟩ (wr.drewN nq) (hJ2 nq) (by have h1 := hk4.out; have h2 := hm.out; omega)
      clear hJ2 hJs hY
      gi_wp2
      refine wpIn_wide.2 ?_
      go_quiet (fail)
      obtain ⟨fn, tmps, assign, body, hy, hR⟩ := HY.out nq
      try dsimp only at hy
      have hmin : min (4 : Int) ((len - k : Nat) : Int) = 4 := by omega
      have e0 : ((k : Int) + 4).toNat = k + 4 := by omega
      have hk6 : (k : Int) + 4 ≤ cap := by omega
      gi_wp2
      refine hR.mono ?_
      rintro e W3 (⟨rfl, hJ3, hk3⟩ | ⟨rfl, hJx3⟩)
      · have y2 : W3.cell? ⟨n₀ + 4, 0, none⟩ = some (.int .i64 4) := ((hnx.out.trans (Kp4.drewN wr nq |>.trans hk3)).blk HBn.out (.inr (.inr rfl))).cell 0
        have H3 := Lib.hid (hnx.out.trans (Kp4.drewN wr nq |>.trans hk3))
        gi_wp2
        go_roundw
        case rel => exact ⟨k + 4, pre ++ [⟨k, hk5⟩], by have h1 := hk4.out; show _ = _; simp; omega, by omega, by simp, hJ3, H3⟩
        case measure => simp [intOf]; omega
      · gi_wp2
        refine bodyPost_ret (results_none rfl _ _ _) rfl ?_
        exact ⟨⟨_, rfl⟩, .inr ⟨_, trivial, hJx3⟩⟩
    · obtain rfl : k = len := by omega
      gi_wp2
      go_end0
      exact ⟨⟨_, rfl⟩, .inl ⟨_, (by have h1 := hk4.out; have h2 := hm.out; omega), hJs⟩⟩

set_option maxHeartbeats 1000000 in
theorem chunk_in (n : Nat) (a : Option Addr) (len cap : Nat) (w : World) :
    CallsIn Fence.wide n Tryz.prog 122 #[.slice a len cap, .int .i64 4] w fun e w' => e = .returned (.func (.func 142) #[] #[.pointer (some ⟨w.heap.size, 0, none⟩), .pointer (some ⟨w.heap.size + 1, 0, none⟩)]) ∧
      w' = (w.alloc (.cells #[.slice a len cap] 33)).alloc (.cells #[.int .i64 4] 3) := by
  refine callsIn_of_wp Tryz.func122 rfl trivial ?_ rfl
  simp only [Tryz.ntmps122, List.size_toArray, List.length_cons, List.length_nil, Nat.reduceAdd, Nat.reduceSub, Array.replicate_succ, Array.replicate_zero, List.push_toArray, List.append_toArray, List.nil_append, List.cons_append]
  gi_wp2
  go_ret
  exact ⟨rfl, rfl⟩

theorem chunk_stops (n : Nat) (hn : 1 ≤ n) (n₀ : Nat) (a : Option Addr) (len cap m : Nat) (hm : Hid (len = 4 * m)) (hlc : len ≤ cap) (hcap : cap ≤ 9223372036854775807)
    (b off : Nat) (ha : 0 < len → a = some ⟨b, off, none⟩) (w : World) (hBs : Blk w (n₀ + 3) 33 #[.slice a len cap]) (hBn : Blk w (n₀ + 4) 3 #[.int .i64 4]) :
    SeqStopsK Fence.wide n Tryz.prog 142 #[.pointer (some ⟨n₀ + 3, 0, none⟩), .pointer (some ⟨n₀ + 4, 0, none⟩)] (fun x : Four len => #[.slice (some ⟨b, off + x.1, none⟩) 4 4]) (Kp4 n₀) (fun ys => ys.length ≤ m) (fun _ => True) m w :=
  fun l J Jx W hW hJ _ hY h0 => chunk1_in n hn l n₀ a len cap m hm hlc hcap b off ha J Jx hY W hJ ((hW.block _ hBs.lt).trans hBs) ((hW.block _ hBn.lt).trans hBn) h0

theorem take_cell {w W : World} (h : Ch Noone w W) {b i : Nat} (hb : b < w.heap.size) : W.cell? ⟨b, i, none⟩ = w.cell? ⟨b, i, none⟩ := by
  simp only [World.cell?, h.block b hb (fun h => h)]
theorem fInt_map (us : List Int) : us.flatMap fInt = us.map (Value.int .i64) := by
  induction us with
  | nil => rfl
  | cons x us ih => simp only [List.flatMap_cons, ih]; rfl
/-- What the loop of Take keeps. -/
def TakeI (w : World) (H : Nat) {α : Type} (pre : List α) (W : World) : Prop :=
  ∃ (a : Option Addr) (c : Nat) (l : List RS), l.length = pre.length ∧ Blk W H 93 #[.slice none 0 0] ∧ Blk W (H + 1) 4 #[.bool false] ∧ Blk W (H + 2) 93 #[.slice a l.length c] ∧
    Own (New (H + 5)) W 168 4 (.slice a l.length c) l.length (l.flatMap fRS) ∧ Ch Noone w W ∧ H + 5 ≤ W.heap.size
def TakeX (w : World) (H : Nat) {α : Type} (c : Code) (_ : List α) (W : World) : Prop :=
  c = .ret ∧ Blk W H 93 #[.slice none 0 0] ∧ Blk W (H + 1) 4 #[.bool false] ∧ Ch Noone w W
theorem Blk.grown {A B : World} {row : Option Nat} {g : Nat} {T : TypeId} {cs : Array Value} (h : Blk A g T cs) (hg : A.grownBy B row) (hr : ∀ r, row = some r → ∃ o : Obj, A.heap[r]? = some o ∧ o.isCells = false) : Blk B g T cs := by
  have hl := h.lt
  unfold Blk at *
  refine (hg.block g hl (fun e => ?_)).trans h
  obtain ⟨o, h1, h2⟩ := hr g e.symm
  rw [h] at h1; cases h1; cases h2
theorem Own.grown {A B : World} {row : Option Nat} {base e C : Nat} {v : Value} {n : Nat} {xs : List Value} (h : Own (New base) A e C v n xs) (hg : A.grownBy B row) (hr : ∀ r, row = some r → ∃ o : Obj, A.heap[r]? = some o ∧ o.isCells = false) : Own (New base) B e C v n xs := by
  refine Own.of (h.row.kept hg ?_)
  rcases h.row.2 with ⟨rfl, _⟩ | ⟨g, cap, cur, rfl, _, hgb, _⟩
  · exact .inl rfl
  · refine .inr fun e' => ?_
    obtain ⟨o, ho, hc⟩ := hr g (by simpa [Value.ownBlock] using e'.symm)
    rw [hgb] at ho; cases ho; cases hc
theorem Ch.grown0 {w A B : World} {row : Option Nat} (h : Ch Noone w A) (hg : A.grownBy B row) (hr : ∀ r, row = some r → w.heap.size ≤ r) : Ch Noone w B :=
  ⟨hg.os.trans h.os, hg.tape.trans h.tape, hg.output.trans h.output, Nat.le_trans h.size hg.size, fun k hk hn => (hg.block k (Nat.lt_of_lt_of_le hk h.size) (fun e => by have := hr k e.symm; omega)).trans (h.block k hk hn)⟩
theorem takeI_own (w : World) (H B : Nat) (hB : w.heap.size ≤ B) {α : Type} : OwnFrom B (TakeI w H (α := α)) := by
  rintro s X Y row ⟨a, c, l, h1, h2, h3, h4, h5, h6, h7⟩ hg hr
  have hr' : ∀ r, row = some r → ∃ o : Obj, X.heap[r]? = some o ∧ o.isCells = false := fun r e => (hr r e).2
  exact ⟨a, c, l, h1, h2.grown hg hr', h3.grown hg hr', h4.grown hg hr', h5.grown hg hr', h6.grown0 hg (fun r e => by have := (hr r e).1; omega), Nat.le_trans h7 hg.size⟩
theorem takeX_own (w : World) (H B : Nat) (hB : w.heap.size ≤ B) {α : Type} (c : Code) : OwnFrom B (TakeX w H (α := α) c) := by
  rintro s X Y row ⟨h1, h2, h3, h6⟩ hg hr
  have hr' : ∀ r, row = some r → ∃ o : Obj, X.heap[r]? = some o ∧ o.isCells = false := fun r e => (hr r e).2
  exact ⟨h1, h2.grown hg hr', h3.grown hg hr', h6.grown0 hg (fun r e => by have := (hr r e).1; omega)⟩
theorem kp4_b {n₀ : Nat} {w : World} (hn : n₀ + 5 ≤ w.heap.size) (W : World) (l : Nat) (o o' : Obj) (hl : w.heap.size ≤ l) (h : W.heap[l]? = some o) (h1 : o.isCells = false) (h2 : o.isWalk = false) : Kp4 n₀ W (W.putObj l o') :=
  ⟨belowK_b (w := w) (by omega) W l o o' hl h h1 h2, fun g hg => (grownBy_putObj' W l o').block g (by have := (Array.getElem?_eq_some_iff.1 h).1; omega) (fun e => by cases e; omega)⟩

theorem take_put {w W w2 : World} {α : Type} {pre : List α} (x : α) {a' : Option Addr} {c' gg cap : Nat} {l' : List RS} {o : Obj} (r : RS)
    (h1 : l'.length = pre.length) (h2 : Blk W w.heap.size 93 #[.slice none 0 0]) (h3 : Blk W (w.heap.size + 1) 4 #[.bool false]) (h4 : Blk W (w.heap.size + 2) 93 #[.slice a' l'.length c'])
    (h5 : Own (New (w.heap.size + 5)) W 168 4 (.slice a' l'.length c') l'.length (l'.flatMap fRS)) (h6 : Ch Noone w W) (h7 : w.heap.size + 5 ≤ W.heap.size)
    (cg : Ch (fun k => w.heap.size + 5 ≤ k ∧ (Value.slice a' l'.length c').ownBlock = some k) (W.drew.alloc o) w2)
    (hown : w2.ownsRow (w.heap.size + 5) 168 4 (.slice (some ⟨gg, 0, none⟩) (l'.length + 1) cap) (l'.length + 1) (l'.flatMap fRS ++ fRS r)) :
    KeepsFrom (w.heap.size + 5) W (w2.setCell ⟨w.heap.size + 2, 0, none⟩ (.slice (some ⟨gg, 0, none⟩) (l'.length + 1) cap)) ∧ Kp4 w.heap.size W (w2.setCell ⟨w.heap.size + 2, 0, none⟩ (.slice (some ⟨gg, 0, none⟩) (l'.length + 1) cap)) ∧
      TakeI w w.heap.size (pre ++ [x]) (w2.setCell ⟨w.heap.size + 2, 0, none⟩ (.slice (some ⟨gg, 0, none⟩) (l'.length + 1) cap)) := by
  have c1 : Ch (fun k => w.heap.size + 5 ≤ k ∧ (Value.slice a' l'.length c').ownBlock = some k) W w2 := ((Ch.refl _ W).drew.alloc o).trans cg
  have c2 : Ch (fun k => k = w.heap.size + 2 ∨ (w.heap.size + 5 ≤ k ∧ (Value.slice a' l'.length c').ownBlock = some k)) W (w2.setCell ⟨w.heap.size + 2, 0, none⟩ (.slice (some ⟨gg, 0, none⟩) (l'.length + 1) cap)) :=
    (c1.mono (fun _ _ h => .inr h)).set (fun _ => .inl rfl) 0 _
  refine ⟨⟨c2.size, fun k ob hB hk ho => (c2.block k (lt_of_heap hk) (fun hS => ?_)).trans hk⟩, ⟨c2.below (by omega) (fun k hk hS => by rcases hS with hS | hS <;> omega), fun g hg => c2.block g (by omega) (fun hS => by rcases hS with hS | hS <;> omega)⟩, ?_⟩
  · rcases hS with hS | ⟨_, hS⟩
    · omega
    · rcases h5.row.2 with ⟨e, _⟩ | ⟨g, cap2, cur, e, _, hgb, _⟩
      · rw [e] at hS; simp [Value.ownBlock] at hS
      · rw [e] at hS
        obtain rfl : g = k := by simpa [Value.ownBlock] using hS
        rw [hgb] at hk; cases hk; cases ho
  · have b4 := (c1.blk h4 (fun h => by have := h.1; omega)).set 0 (.slice (some ⟨gg, 0, none⟩) (l'.length + 1) cap)
    have o4 : Own (New (w.heap.size + 5)) (w2.setCell ⟨w.heap.size + 2, 0, none⟩ (.slice (some ⟨gg, 0, none⟩) (l'.length + 1) cap)) 168 4 (.slice (some ⟨gg, 0, none⟩) (l'.length + 1) cap) (l'.length + 1) (l'.flatMap fRS ++ fRS r) :=
      (Own.of hown).ch (S := fun k => k = w.heap.size + 2) (Ch.set1 (Ch.refl _ _) 0 _) (fun g (hg : _ ≤ g) _ e => by omega)
    refine ⟨some ⟨gg, 0, none⟩, cap, l' ++ [r], by simp [h1], c2.blk h2 (fun hS => by rcases hS with hS | hS <;> omega), c2.blk h3 (fun hS => by rcases hS with hS | hS <;> omega), ?_, ?_, h6.then c2 (fun i hi hS => by rcases hS with hS | hS <;> omega), Nat.le_trans h7 c2.size⟩
    · rw [List.length_append]; exact b4
    · rw [List.length_append, List.flatMap_append]; simp only [List.flatMap_cons, List.flatMap_nil, List.append_nil]; exact o4

/-- A region that draws, in a round of the wide fence: by the plain laws. -/
theorem Oper.wpIn_of_wp {P : Program} {Q : Exit → Act → World → Prop} {K : Act → World → Prop} {n l : Nat} {o : Oper} {a : Act} {w : World} (hnd : ∀ c, o.op ≠ .defer c) (h : o.wp P a w K Q) :
    o.wpIn (Fence.wide.inRound l) n P a w K Q := by
  unfold Go.Oper.wpIn
  unfold Go.Oper.wp at h
  refine ⟨fun _ _ => trivial, ?_⟩
  rw [Oper.semAt_eq _ _ _ hnd]
  generalize (execOp a.eval o).run P w = r at *
  cases r with
  | ok v w' =>
    cases v with
    | enter f args => exact ⟨fun h => by simp [Fence.inRound, Fence.wide] at h, (callsIn_wide.2 h : CallsIn Fence.wide (n - 1) P f args w' _)⟩
    | row r args =>
      refine ⟨fun h => by simp [Fence.inRound, Fence.wide] at h, fun c cs _ => ?_⟩
      obtain ⟨v, w2, h1, h2⟩ := h c cs
      exact ⟨v, w2, h1, stepsIn_wide.2 h2⟩
    | round l f t x y => exact h.elim
    | _ => exact h
  | halt x w' => cases x <;> exact h
theorem wpAnyIn_of_wpAny {P : Program} {Q : Exit → Act → World → Prop} {md : Region.Mode} {ops : Array Oper} {n l : Nat} (hnd : ∀ (i : Nat) o, ops[i]? = some o → ∀ c, o.op ≠ .defer c) (hno : ¬ LetsOut Q) :
    ∀ (k : Nat) (listed : Array Bool) (a : Act) (w : World), wpAny P md ops Q k listed a w → wpAnyIn (Fence.wide.inRound l) n P md ops Q k listed a w
  | 0, _, _, _, h => h
  | k + 1, listed, a, w, h => ⟨h.1, fun i hi => by
      have h2 := h.2 i hi
      unfold wpOp at h2
      unfold wpOpIn
      cases ho : ops[i]? with
      | none => rw [ho] at h2; exact wpAnyIn_of_wpAny hnd hno k _ a w h2
      | some o =>
        rw [ho] at h2
        dsimp only at h2 ⊢
        split at h2
        · rename_i hwt
          rw [if_pos hwt]
          rcases h2 with h2 | h2
          · exact Go.Oper.wpIn_mono (fun a w h => wpAnyIn_of_wpAny hnd hno k _ a w h) (Oper.wpIn_of_wp (hnd i o ho) h2)
          · exact absurd h2.2 hno
        · rename_i hwt
          rw [if_neg hwt]
          exact ⟨fun _ _ => trivial, wpAnyIn_of_wpAny hnd hno k _ _ w h2⟩⟩
theorem wpIn_region_T {P : Program} {Q : Exit → Act → World → Prop} {ops : Array Oper} {n l id : Nat} {a : Act} {w : World} (S : World → Prop) (C : List Nat) (hm : P.follows .mixedOrders = true)
    (hnd : ∀ o ∈ ops.toList, ∀ c, o.op ≠ .defer c) (hno : ¬ LetsOut Q) (h : wpAnyT P .any ops Q S C ops.size (Array.replicate ops.size false) a w.drew) : (Code.region id ops true).wpIn (Fence.wide.inRound l) n P Q a w :=
  wpIn_region_any hm (wpAnyIn_of_wpAny (fun i o ho => hnd o (by rw [Array.getElem?_eq_some_iff] at ho; obtain ⟨h1, rfl⟩ := ho; simp)) hno _ _ _ _ (wpAny_of_T _ _ _ _ h))

set_option maxRecDepth 100000 in
set_option maxHeartbeats 4000000 in
theorem take_any (B : Nat → Prop) (w : World) (v : Value) (us : List Int) (hv : Sl B w v us.length (us.flatMap fInt)) (hl : us.length ≤ 10000) :
    Calls Tryz.prog 97 #[v] w fun e w' => ∃ (v' : Value) (l : List RS) (ok : Bool), e = .returned (.tuple #[v', .bool ok]) ∧ l.length ≤ us.length ∧ Own (New w.heap.size) w' 168 4 v' l.length (l.flatMap fRS) ∧ Ch Noone w w' := by
  obtain ⟨i0, hi0, hz0, hz1, hz2⟩ := info_parts info_rs
  have HV := Lib.hid hv
  obtain ⟨a, c, rfl, hc1, hc2, hc3, hc4⟩ := hv
  refine (callsIn_wide (n := 3)).1 ?_
  refine callsIn_of_wp_marks Tryz.func97 rfl trivial ?_ rfl
  simp only [Tryz.ntmps97, List.size_toArray, List.length_cons, List.length_nil, Nat.reduceAdd, Nat.reduceSub, Array.replicate_succ, Array.replicate_zero, List.push_toArray, List.append_toArray, List.nil_append, List.cons_append]
  gi_wp2_with fail
  · obtain ⟨w1, hw1⟩ : ∃ w1, w1 = (w.alloc (.cells #[.slice none 0 0] 93)).alloc (.cells #[.bool false] 4) := ⟨_, rfl⟩
    have q0 : w1.cell? ⟨w.heap.size, 0, none⟩ = some (.slice none 0 0) := by rw [hw1]; exact ((Blk.new w 93 #[.slice none 0 0]).alloc _).cell 0
    have q1 : w1.cell? ⟨w.heap.size + 1, 0, none⟩ = some (.bool false) := by rw [hw1]; have h := (Blk.new (w.alloc (.cells #[.slice none 0 0] 93)) 4 #[.bool false]).cell 0; rw [World.size_alloc] at h; exact h
    have q2 : Ch Noone w w1 := by rw [hw1]; exact ((Ch.refl _ _).alloc _).alloc _
    rw [← hw1]
    clear hw1
    exact ⟨.tuple #[.slice none 0 0, .bool false], by simp [results, Tryz.f97, go_sem, q0, q1], .slice none 0 0, [], false, rfl, by simp, Own.nil _ _ _ _, q2⟩
  · have hmod : us.length % 4 = 0 := by
      have h : ((us.length : Int) % 4 != 0) = false := by assumption
      simp at h
      omega
    refine ⟨trivial, ?_⟩
    gi_at_call 122
    refine (chunk_in _ _ _ _ _).mono ?_
    rintro e w' ⟨rfl, rfl⟩
    gi_wp2_with fail
    obtain ⟨w1, hw1⟩ : ∃ w1, w1 = ((((w.alloc (.cells #[.slice none 0 0] 93)).alloc (.cells #[.bool false] 4)).alloc (.cells #[.slice none 0 0] 93)).alloc (.cells #[.slice a us.length c] 33)).alloc (.cells #[.int .i64 4] 3) := ⟨_, rfl⟩
    have sz1 : w1.heap.size = w.heap.size + 5 := by rw [hw1]; simp
    have k0 : Blk w1 w.heap.size 93 #[.slice none 0 0] := by rw [hw1]; exact ((((Blk.new w 93 #[.slice none 0 0]).alloc _).alloc _).alloc _).alloc _
    have k1 : Blk w1 (w.heap.size + 1) 4 #[.bool false] := by rw [hw1]; have h := (((Blk.new (w.alloc (.cells #[.slice none 0 0] 93)) 4 #[.bool false]).alloc (.cells #[.slice none 0 0] 93)).alloc (.cells #[.slice a us.length c] 33)).alloc (.cells #[.int .i64 4] 3); rw [World.size_alloc] at h; exact h
    have k2 : Blk w1 (w.heap.size + 2) 93 #[.slice none 0 0] := by rw [hw1]; have h := ((Blk.new ((w.alloc (.cells #[.slice none 0 0] 93)).alloc (.cells #[.bool false] 4)) 93 #[.slice none 0 0]).alloc (.cells #[.slice a us.length c] 33)).alloc (.cells #[.int .i64 4] 3); rw [World.size_alloc, World.size_alloc] at h; exact h
    have k3 : Blk w1 (w.heap.size + 3) 33 #[.slice a us.length c] := by rw [hw1]; have h := (Blk.new (((w.alloc (.cells #[.slice none 0 0] 93)).alloc (.cells #[.bool false] 4)).alloc (.cells #[.slice none 0 0] 93)) 33 #[.slice a us.length c]).alloc (.cells #[.int .i64 4] 3); rw [World.size_alloc, World.size_alloc, World.size_alloc] at h; exact h
    have k4 : Blk w1 (w.heap.size + 4) 3 #[.int .i64 4] := by rw [hw1]; have h := Blk.new ((((w.alloc (.cells #[.slice none 0 0] 93)).alloc (.cells #[.bool false] 4)).alloc (.cells #[.slice none 0 0] 93)).alloc (.cells #[.slice a us.length c] 33)) 3 #[.int .i64 4]; rw [World.size_alloc, World.size_alloc, World.size_alloc, World.size_alloc] at h; exact h
    have q2 : Ch Noone w w1 := by rw [hw1]; exact (((((Ch.refl _ _).alloc _).alloc _).alloc _).alloc _).alloc _
    rw [← hw1]
    clear hw1
    obtain ⟨m, hm⟩ : ∃ m, us.length = 4 * m := ⟨us.length / 4, by omega⟩
    have HM := Lib.hid hm
    have hml : m ≤ us.length := by omega
    obtain ⟨b, off, hbo⟩ : ∃ b off, 0 < us.length → a = some ⟨b, off, none⟩ ∧ b < w.heap.size ∧ ∀ i (h : i < us.length), w.cell? ⟨b, off + i, none⟩ = some (.int .i64 us[i]) := by
      rcases Nat.eq_zero_or_pos us.length with h0 | h0
      · exact ⟨0, 0, fun h => by omega⟩
      · have hne : us.flatMap fInt ≠ [] := by
          intro e
          have h := congrArg List.length e
          rw [fInt_map] at h
          simp only [List.length_map, List.length_nil] at h; omega
        obtain ⟨b, off, h1, h2, h3, h4⟩ := hc4 hne
        refine ⟨b, off, fun _ => ⟨h1, h3, fun i hi => ?_⟩⟩
        rw [fInt_map] at h4
        rw [h4 i (by simpa only [List.length_map] using hi)]
        simp [hi]
    have HB := Lib.hid hbo
    have hao : 0 < us.length → a = some ⟨b, off, none⟩ := fun h => (hbo h).1
    clear hc4 hbo hm hmod
    refine wpIn_rangeFunc_ownG rfl (by omega) (gf := 142) (lb := #[.pointer (some ⟨w.heap.size + 3, 0, none⟩), .pointer (some ⟨w.heap.size + 4, 0, none⟩)]) rfl trivial (enters_of Tryz.func142 (by kernel_rfl) rfl)
      (chunk_stops (3 - 1) (by omega) w.heap.size a us.length c m HM hc1 hc2 b off hao w1 k3 k4) Kp4.trans (kp4_b (by omega)) (Below.refl _ _) (fun _ => rfl)
      (TakeI w w.heap.size) (TakeX w w.heap.size) (takeI_own _ _ _ (by omega)) (takeX_own _ _ _ (by omega)) ⟨none, 0, [], rfl, k0, k1, k2, Own.nil _ _ _ _, q2, Nat.le_of_eq sz1.symm⟩
      (fun x => { tmps := #[.slice a us.length c, undef, .pointer (some ⟨w.heap.size, 0, none⟩), .pointer (some ⟨w.heap.size + 1, 0, none⟩), .pointer (some ⟨w.heap.size + 2, 0, none⟩), .slice (some ⟨b, off + x.1, none⟩) 4 4, .slice a us.length c, .int .i64 us.length, .int .i64 (us.length % 4), .bool false, .slice a us.length c, .func (.func 142) #[] #[.pointer (some ⟨w.heap.size + 3, 0, none⟩), .pointer (some ⟨w.heap.size + 4, 0, none⟩)], .slice (some ⟨b, off + x.1, none⟩) 4 4,
        undef, undef, undef, undef, undef, undef, undef, undef, undef, undef, undef, undef, undef, undef, undef, undef, undef, undef, undef, undef, undef, undef, undef, undef, undef, undef, undef, undef], defers := [] }) ?assign ?body ?done ?stop
    case assign =>
      intro l x W K hK
      gi_wp2
      exact hK
    case body =>
      rintro l pre x W ⟨a', c', l', h1, h2, h3, h4, h5, h6, hW5⟩ hlt
      obtain ⟨rfl, hbw, hbc⟩ := HB.out (by have := x.2; omega)
      have hx := x.2
      have z0 : W.cell? ⟨b, off + x.1, none⟩ = some (.int .i64 us[x.1]) := (take_cell h6 hbw).trans (hbc x.1 (by omega))
      have z1 : W.cell? ⟨b, off + x.1 + 1, none⟩ = some (.int .i64 us[x.1 + 1]) := (take_cell h6 hbw).trans (hbc (x.1 + 1) (by omega))
      have z2 : W.cell? ⟨b, off + x.1 + 2, none⟩ = some (.int .i64 us[x.1 + 2]) := (take_cell h6 hbw).trans (hbc (x.1 + 2) (by omega))
      have z3 : W.cell? ⟨b, off + x.1 + 3, none⟩ = some (.int .i64 us[x.1 + 3]) := (take_cell h6 hbw).trans (hbc (x.1 + 3) (by omega))
      have r0 := h2.cell 0
      have r1 := h3.cell 0
      have r2 := h4.cell 0
      have s0 := h2.free 0
      have s1 := h3.free 0
      have s2 := h4.free 0
      generalize us[x.1] = d0 at *
      generalize us[x.1 + 1] = d1 at *
      generalize us[x.1 + 2] = d2 at *
      generalize us[x.1 + 3] = d3 at *
      have hszW : w.heap.size + 5 ≤ W.heap.size := hW5
      have hl5 : l'.length + 1 ≤ us.length := by omega
      have H1 := Lib.hid h1
      clear h1
      obtain rfl | rfl | ⟨hn0, hn1⟩ : d3 = 0 ∨ d3 = 1 ∨ (d3 ≠ 0 ∧ d3 ≠ 1) := by omega
      · gi_wp2_with fail
        have hno : ¬ LetsOut (Exit.inBlock 1 (ownPostG (w.heap.size + 5) (Kp4 w.heap.size) (TakeI w w.heap.size (α := Four us.length)) (TakeX w w.heap.size) (pre ++ [x]) W)) := fun ⟨_, _, h⟩ => h
        obtain ⟨S, hSd⟩ : ∃ S : World → Prop, S = fun u : World => u.cell? ⟨w.heap.size + 2, 0, none⟩ = some (.slice a' l'.length c') ∧ u.cell? ⟨b, off + x.1, none⟩ = some (.int .i64 d0) ∧ u.cell? ⟨b, off + x.1 + 1, none⟩ = some (.int .i64 d1) ∧ u.cell? ⟨b, off + x.1 + 2, none⟩ = some (.int .i64 d2) ∧ u.cell? ⟨b, off + x.1 + 3, none⟩ = some (.int .i64 0) := ⟨_, rfl⟩
        have SD := Lib.hid hSd
        have HS := Lib.hid (show S W.drew by rw [hSd]; exact ⟨r2, z0, z1, z2, z3⟩)
        have HSA := Lib.hid (show S (W.drew.alloc (.cells #[.int .i64 d0, .int .i64 d1, .int .i64 d2, .bool false] 168)) by
          rw [hSd]
          have hbW : b < W.drew.heap.size := Nat.lt_of_lt_of_le hbw h6.size
          exact ⟨((show Blk W.drew _ _ _ from h4).alloc _).cell 0, (take_cell ((Ch.refl _ _).alloc _) hbW).trans z0, (take_cell ((Ch.refl _ _).alloc _) hbW).trans z1, (take_cell ((Ch.refl _ _).alloc _) hbW).trans z2, (take_cell ((Ch.refl _ _).alloc _) hbW).trans z3⟩)
        have H4 : Hid (Blk W (w.heap.size + 2) 93 #[.slice a' l'.length c']) := h4
        have H5 : Hid (Own (New (w.heap.size + 5)) W 168 4 (.slice a' l'.length c') l'.length (l'.flatMap fRS)) := h5
        have szW : w.heap.size + 5 ≤ W.heap.size := hszW
        clear hSd z0 z1 z2 z3 r0 r1 r2 s0 s1 s2
        refine wpIn_region_T S [13, 14, 16] (by kernel_rfl) (by simp) hno ?_
        clear hno
        refine wpAnyT_load (i := 0) (v := ?_) rfl (by kernel_rfl) (by kernel_rfl) (by kernel_rfl) (fun _ _ _ h => h) (by kernel_rfl) HS.out (Or.inl ⟨by rfl, ?_⟩) ?_
        rotate_left
        · intro u hu
          rw [SD.out] at hu
          obtain ⟨g0, g1, g2, g3, g4⟩ := hu
          go_simp
          try with_reducible rfl
        try simp only [Act.put, List.setIfInBounds_toArray, List.set_cons_zero, List.set_cons_succ]
        refine wpAnyT_pure (i := 1) (v := ?_) rfl (by kernel_rfl) (by kernel_rfl) (by kernel_rfl) (fun _ _ _ h => h) (by kernel_rfl) (fun _ => HS.out) (Or.inl ⟨by rfl, ?_⟩) ?_
        rotate_left
        · intro u _
          go_simp
          try with_reducible rfl
        try simp only [Act.put, List.setIfInBounds_toArray, List.set_cons_zero, List.set_cons_succ]
        refine wpAnyT_pure (i := 2) (v := ?_) rfl (by kernel_rfl) (by kernel_rfl) (by kernel_rfl) (fun _ _ _ h => h) (by kernel_rfl) (fun _ => HS.out) (Or.inl ⟨by rfl, ?_⟩) ?_
        rotate_left
        · intro u _
          go_simp
          try with_reducible rfl
        try simp only [Act.put, List.setIfInBounds_toArray, List.set_cons_zero, List.set_cons_succ]
        refine wpAnyT_load (i := 3) (v := ?_) rfl (by kernel_rfl) (by kernel_rfl) (by kernel_rfl) (fun _ _ _ h => h) (by kernel_rfl) HS.out (Or.inl ⟨by rfl, ?_⟩) ?_
        rotate_left
        · intro u hu
          rw [SD.out] at hu
          obtain ⟨g0, g1, g2, g3, g4⟩ := hu
          go_simp
          try with_reducible rfl
        try simp only [Act.put, List.setIfInBounds_toArray, List.set_cons_zero, List.set_cons_succ]
        refine wpAnyT_pure (i := 4) (v := ?_) rfl (by kernel_rfl) (by kernel_rfl) (by kernel_rfl) (fun _ _ _ h => h) (by kernel_rfl) (fun _ => HS.out) (Or.inl ⟨by rfl, ?_⟩) ?_
        rotate_left
        · intro u _
          go_simp
          try with_reducible rfl
        try simp only [Act.put, List.setIfInBounds_toArray, List.set_cons_zero, List.set_cons_succ]
        refine wpAnyT_pure (i := 5) (v := ?_) rfl (by kernel_rfl) (by kernel_rfl) (by kernel_rfl) (fun _ _ _ h => h) (by kernel_rfl) (fun _ => HS.out) (Or.inl ⟨by rfl, ?_⟩) ?_
        rotate_left
        · intro u _
          go_simp
          try with_reducible rfl
        try simp only [Act.put, List.setIfInBounds_toArray, List.set_cons_zero, List.set_cons_succ]
        refine wpAnyT_load (i := 6) (v := ?_) rfl (by kernel_rfl) (by kernel_rfl) (by kernel_rfl) (fun _ _ _ h => h) (by kernel_rfl) HS.out (Or.inl ⟨by rfl, ?_⟩) ?_
        rotate_left
        · intro u hu
          rw [SD.out] at hu
          obtain ⟨g0, g1, g2, g3, g4⟩ := hu
          go_simp
          try with_reducible rfl
        try simp only [Act.put, List.setIfInBounds_toArray, List.set_cons_zero, List.set_cons_succ]
        refine wpAnyT_pure (i := 7) (v := ?_) rfl (by kernel_rfl) (by kernel_rfl) (by kernel_rfl) (fun _ _ _ h => h) (by kernel_rfl) (fun _ => HS.out) (Or.inl ⟨by rfl, ?_⟩) ?_
        rotate_left
        · intro u _
          go_simp
          try with_reducible rfl
        try simp only [Act.put, List.setIfInBounds_toArray, List.set_cons_zero, List.set_cons_succ]
        refine wpAnyT_pure (i := 8) (v := ?_) rfl (by kernel_rfl) (by kernel_rfl) (by kernel_rfl) (fun _ _ _ h => h) (by kernel_rfl) (fun _ => HS.out) (Or.inl ⟨by rfl, ?_⟩) ?_
        rotate_left
        · intro u _
          go_simp
          try with_reducible rfl
        try simp only [Act.put, List.setIfInBounds_toArray, List.set_cons_zero, List.set_cons_succ]
        refine wpAnyT_load (i := 9) (v := ?_) rfl (by kernel_rfl) (by kernel_rfl) (by kernel_rfl) (fun _ _ _ h => h) (by kernel_rfl) HS.out (Or.inl ⟨by rfl, ?_⟩) ?_
        rotate_left
        · intro u hu
          rw [SD.out] at hu
          obtain ⟨g0, g1, g2, g3, g4⟩ := hu
          go_simp
          try with_reducible rfl
        try simp only [Act.put, List.setIfInBounds_toArray, List.set_cons_zero, List.set_cons_succ]
        refine wpAnyT_pure (i := 10) (v := ?_) rfl (by kernel_rfl) (by kernel_rfl) (by kernel_rfl) (fun _ _ _ h => h) (by kernel_rfl) (fun _ => HS.out) (Or.inl ⟨by rfl, ?_⟩) ?_
        rotate_left
        · intro u _
          go_simp
          try with_reducible rfl
        try simp only [Act.put, List.setIfInBounds_toArray, List.set_cons_zero, List.set_cons_succ]
        refine wpAnyT_pure (i := 11) (v := ?_) rfl (by kernel_rfl) (by kernel_rfl) (by kernel_rfl) (fun _ _ _ h => h) (by kernel_rfl) (fun _ => HS.out) (Or.inl ⟨by rfl, ?_⟩) ?_
        rotate_left
        · intro u _
          go_simp
          try with_reducible rfl
        try simp only [Act.put, List.setIfInBounds_toArray, List.set_cons_zero, List.set_cons_succ]
        refine wpAnyT_load (i := 12) (v := ?_) rfl (by kernel_rfl) (by kernel_rfl) (by kernel_rfl) (fun _ _ _ h => h) (by kernel_rfl) HS.out (Or.inl ⟨by rfl, ?_⟩) ?_
        rotate_left
        · intro u hu
          rw [SD.out] at hu
          obtain ⟨g0, g1, g2, g3, g4⟩ := hu
          go_simp
          try with_reducible rfl
        try simp only [Act.put, List.setIfInBounds_toArray, List.set_cons_zero, List.set_cons_succ]
        refine wpAnyT_step (i := 13) (by kernel_rfl) rfl (by rfl) (fun K hK => ?_)
        go_simp
        refine hK.out _ _ (fun _ => HS.out) ?_
        clear hK K
        try simp only [Act.put, List.setIfInBounds_toArray, List.set_cons_zero, List.set_cons_succ]
        refine wpAnyT_step (i := 14) (by kernel_rfl) rfl (by rfl) (fun K hK => ?_)
        go_simp
        refine hK.out _ _ (fun _ => HS.out) ?_
        clear hK K
        try simp only [Act.put, List.setIfInBounds_toArray, List.set_cons_zero, List.set_cons_succ]
        refine wpAnyT_step (i := 15) (by kernel_rfl) rfl (by rfl) (fun K hK => ?_)
        go_simp
        refine hK.out _ _ (fun _ => HSA.out) ?_
        clear hK K
        try simp only [Act.put, List.setIfInBounds_toArray, List.set_cons_zero, List.set_cons_succ]
        refine wpAnyT_step (i := 16) (by kernel_rfl) rfl (by rfl) (fun K hK => ?_)
        refine wp_append_lies _ _ _ 93 (by rfl) (w.heap.size + 5) 168 i0 _ 4 32 Tryz.underlying93 hi0 hz0 hz1 hz2 rfl (by omega) _ l'.length (l'.flatMap fRS) (by rfl) ((H5.out.drew.ch (S := Noone) ((Ch.refl _ _).alloc _) (fun _ _ _ h => h)).row)
          ⟨W.heap.size, 0, none⟩ 1 1 [.int .i64 d0, .int .i64 d1, .int .i64 d2, .bool false] (by rfl) (by rfl) (fresh_news W.drew _ [.int .i64 d0, .int .i64 d1, .int .i64 d2, .bool false]) (by simp [Value.oneCell'])
          (by omega) (by unfold maxLen; omega) (by omega) (by show _ ≤ (W.drew.alloc _).heap.size; rw [World.size_alloc]; exact Nat.le_succ_of_le szW) (W.heap.size + 1) (by simp) ?_
        intro gg cap w2 hown hgrow hat hlt2
        refine hK.out _ _ (fun h => absurd h (Pend.no (by kernel_rfl))) ?_
        clear hK K
        try simp only [Act.put, List.setIfInBounds_toArray, List.set_cons_zero, List.set_cons_succ]
        have cg := Ch.own' (H5.out.drew.ch (S := Noone) ((Ch.refl _ _).alloc _) (fun _ _ _ h => h)) hgrow
        have k5 : Blk w2 (w.heap.size + 2) 93 #[.slice a' l'.length c'] := cg.blk (((show Blk W.drew _ _ _ from H4.out)).alloc _) (fun h => by have := h.1; omega)
        have y5 := k5.cell 0
        have y6 := k5.free 0
        refine wpAnyT_step (i := 17) (by kernel_rfl) rfl (by rfl) (fun K hK => ?_)
        go_simp
        refine hK.out _ _ (fun h => absurd h (Pend.no (by kernel_rfl))) ?_
        clear hK K
        refine wpAnyT_done (by kernel_rfl) ?_
        exact take_put x ⟨d0, d1, d2, false⟩ H1.out h2 h3 H4.out H5.out h6 szW cg hown
      · gi_wp2_with fail
        have hno : ¬ LetsOut (Exit.inBlock 1 (ownPostG (w.heap.size + 5) (Kp4 w.heap.size) (TakeI w w.heap.size (α := Four us.length)) (TakeX w w.heap.size) (pre ++ [x]) W)) := fun ⟨_, _, h⟩ => h
        obtain ⟨S, hSd⟩ : ∃ S : World → Prop, S = fun u : World => u.cell? ⟨w.heap.size + 2, 0, none⟩ = some (.slice a' l'.length c') ∧ u.cell? ⟨b, off + x.1, none⟩ = some (.int .i64 d0) ∧ u.cell? ⟨b, off + x.1 + 1, none⟩ = some (.int .i64 d1) ∧ u.cell? ⟨b, off + x.1 + 2, none⟩ = some (.int .i64 d2) ∧ u.cell? ⟨b, off + x.1 + 3, none⟩ = some (.int .i64 1) := ⟨_, rfl⟩
        have SD := Lib.hid hSd
        have HS := Lib.hid (show S W.drew by rw [hSd]; exact ⟨r2, z0, z1, z2, z3⟩)
        have HSA := Lib.hid (show S (W.drew.alloc (.cells #[.int .i64 d0, .int .i64 d1, .int .i64 d2, .bool true] 168)) by
          rw [hSd]
          have hbW : b < W.drew.heap.size := Nat.lt_of_lt_of_le hbw h6.size
          exact ⟨((show Blk W.drew _ _ _ from h4).alloc _).cell 0, (take_cell ((Ch.refl _ _).alloc _) hbW).trans z0, (take_cell ((Ch.refl _ _).alloc _) hbW).trans z1, (take_cell ((Ch.refl _ _).alloc _) hbW).trans z2, (take_cell ((Ch.refl _ _).alloc _) hbW).trans z3⟩)
        have H4 : Hid (Blk W (w.heap.size + 2) 93 #[.slice a' l'.length c']) := h4
        have H5 : Hid (Own (New (w.heap.size + 5)) W 168 4 (.slice a' l'.length c') l'.length (l'.flatMap fRS)) := h5
        have szW : w.heap.size + 5 ≤ W.heap.size := hszW
        clear hSd z0 z1 z2 z3 r0 r1 r2 s0 s1 s2
        refine wpIn_region_T S [13, 14, 16] (by kernel_rfl) (by simp) hno ?_
        clear hno
        refine wpAnyT_load (i := 0) (v := ?_) rfl (by kernel_rfl) (by kernel_rfl) (by kernel_rfl) (fun _ _ _ h => h) (by kernel_rfl) HS.out (Or.inl ⟨by rfl, ?_⟩) ?_
        rotate_left
        · intro u hu
          rw [SD.out] at hu
          obtain ⟨g0, g1, g2, g3, g4⟩ := hu
          go_simp
          try with_reducible rfl
        try simp only [Act.put, List.setIfInBounds_toArray, List.set_cons_zero, List.set_cons_succ]
        refine wpAnyT_pure (i := 1) (v := ?_) rfl (by kernel_rfl) (by kernel_rfl) (by kernel_rfl) (fun _ _ _ h => h) (by kernel_rfl) (fun _ => HS.out) (Or.inl ⟨by rfl, ?_⟩) ?_
        rotate_left
        · intro u _
          go_simp
          try with_reducible rfl
        try simp only [Act.put, List.setIfInBounds_toArray, List.set_cons_zero, List.set_cons_succ]
        refine wpAnyT_pure (i := 2) (v := ?_) rfl (by kernel_rfl) (by kernel_rfl) (by kernel_rfl) (fun _ _ _ h => h) (by kernel_rfl) (fun _ => HS.out) (Or.inl ⟨by rfl, ?_⟩) ?_
        rotate_left
        · intro u _
          go_simp
          try with_reducible rfl
        try simp only [Act.put, List.setIfInBounds_toArray, List.set_cons_zero, List.set_cons_succ]
        refine wpAnyT_load (i := 3) (v := ?_) rfl (by kernel_rfl) (by kernel_rfl) (by kernel_rfl) (fun _ _ _ h => h) (by kernel_rfl) HS.out (Or.inl ⟨by rfl, ?_⟩) ?_
        rotate_left
        · intro u hu
          rw [SD.out] at hu
          obtain ⟨g0, g1, g2, g3, g4⟩ := hu
          go_simp
          try with_reducible rfl
        try simp only [Act.put, List.setIfInBounds_toArray, List.set_cons_zero, List.set_cons_succ]
        refine wpAnyT_pure (i := 4) (v := ?_) rfl (by kernel_rfl) (by kernel_rfl) (by kernel_rfl) (fun _ _ _ h => h) (by kernel_rfl) (fun _ => HS.out) (Or.inl ⟨by rfl, ?_⟩) ?_
        rotate_left
        · intro u _
          go_simp
          try with_reducible rfl
        try simp only [Act.put, List.setIfInBounds_toArray, List.set_cons_zero, List.set_cons_succ]
        refine wpAnyT_pure (i := 5) (v := ?_) rfl (by kernel_rfl) (by kernel_rfl) (by kernel_rfl) (fun _ _ _ h => h) (by kernel_rfl) (fun _ => HS.out) (Or.inl ⟨by rfl, ?_⟩) ?_
        rotate_left
        · intro u _
          go_simp
          try with_reducible rfl
        try simp only [Act.put, List.setIfInBounds_toArray, List.set_cons_zero, List.set_cons_succ]
        refine wpAnyT_load (i := 6) (v := ?_) rfl (by kernel_rfl) (by kernel_rfl) (by kernel_rfl) (fun _ _ _ h => h) (by kernel_rfl) HS.out (Or.inl ⟨by rfl, ?_⟩) ?_
        rotate_left
        · intro u hu
          rw [SD.out] at hu
          obtain ⟨g0, g1, g2, g3, g4⟩ := hu
          go_simp
          try with_reducible rfl
        try simp only [Act.put, List.setIfInBounds_toArray, List.set_cons_zero, List.set_cons_succ]
        refine wpAnyT_pure (i := 7) (v := ?_) rfl (by kernel_rfl) (by kernel_rfl) (by kernel_rfl) (fun _ _ _ h => h) (by kernel_rfl) (fun _ => HS.out) (Or.inl ⟨by rfl, ?_⟩) ?_
        rotate_left
        · intro u _
          go_simp
          try with_reducible rfl
        try simp only [Act.put, List.setIfInBounds_toArray, List.set_cons_zero, List.set_cons_succ]
        refine wpAnyT_pure (i := 8) (v := ?_) rfl (by kernel_rfl) (by kernel_rfl) (by kernel_rfl) (fun _ _ _ h => h) (by kernel_rfl) (fun _ => HS.out) (Or.inl ⟨by rfl, ?_⟩) ?_
        rotate_left
        · intro u _
          go_simp
          try with_reducible rfl
        try simp only [Act.put, List.setIfInBounds_toArray, List.set_cons_zero, List.set_cons_succ]
        refine wpAnyT_load (i := 9) (v := ?_) rfl (by kernel_rfl) (by kernel_rfl) (by kernel_rfl) (fun _ _ _ h => h) (by kernel_rfl) HS.out (Or.inl ⟨by rfl, ?_⟩) ?_
        rotate_left
        · intro u hu
          rw [SD.out] at hu
          obtain ⟨g0, g1, g2, g3, g4⟩ := hu
          go_simp
          try with_reducible rfl
        try simp only [Act.put, List.setIfInBounds_toArray, List.set_cons_zero, List.set_cons_succ]
        refine wpAnyT_pure (i := 10) (v := ?_) rfl (by kernel_rfl) (by kernel_rfl) (by kernel_rfl) (fun _ _ _ h => h) (by kernel_rfl) (fun _ => HS.out) (Or.inl ⟨by rfl, ?_⟩) ?_
        rotate_left
        · intro u _
          go_simp
          try with_reducible rfl
        try simp only [Act.put, List.setIfInBounds_toArray, List.set_cons_zero, List.set_cons_succ]
        refine wpAnyT_pure (i := 11) (v := ?_) rfl (by kernel_rfl) (by kernel_rfl) (by kernel_rfl) (fun _ _ _ h => h) (by kernel_rfl) (fun _ => HS.out) (Or.inl ⟨by rfl, ?_⟩) ?_
        rotate_left
        · intro u _
          go_simp
          try with_reducible rfl
        try simp only [Act.put, List.setIfInBounds_toArray, List.set_cons_zero, List.set_cons_succ]
        refine wpAnyT_load (i := 12) (v := ?_) rfl (by kernel_rfl) (by kernel_rfl) (by kernel_rfl) (fun _ _ _ h => h) (by kernel_rfl) HS.out (Or.inl ⟨by rfl, ?_⟩) ?_
        rotate_left
        · intro u hu
          rw [SD.out] at hu
          obtain ⟨g0, g1, g2, g3, g4⟩ := hu
          go_simp
          try with_reducible rfl
        try simp only [Act.put, List.setIfInBounds_toArray, List.set_cons_zero, List.set_cons_succ]
        refine wpAnyT_step (i := 13) (by kernel_rfl) rfl (by rfl) (fun K hK => ?_)
        go_simp
        refine hK.out _ _ (fun _ => HS.out) ?_
        clear hK K
        try simp only [Act.put, List.setIfInBounds_toArray, List.set_cons_zero, List.set_cons_succ]
        refine wpAnyT_step (i := 14) (by kernel_rfl) rfl (by rfl) (fun K hK => ?_)
        go_simp
        refine hK.out _ _ (fun _ => HS.out) ?_
        clear hK K
        try simp only [Act.put, List.setIfInBounds_toArray, List.set_cons_zero, List.set_cons_succ]
        refine wpAnyT_step (i := 15) (by kernel_rfl) rfl (by rfl) (fun K hK => ?_)
        go_simp
        refine hK.out _ _ (fun _ => HSA.out) ?_
        clear hK K
        try simp only [Act.put, List.setIfInBounds_toArray, List.set_cons_zero, List.set_cons_succ]
        refine wpAnyT_step (i := 16) (by kernel_rfl) rfl (by rfl) (fun K hK => ?_)
        refine wp_append_lies _ _ _ 93 (by rfl) (w.heap.size + 5) 168 i0 _ 4 32 Tryz.underlying93 hi0 hz0 hz1 hz2 rfl (by omega) _ l'.length (l'.flatMap fRS) (by rfl) ((H5.out.drew.ch (S := Noone) ((Ch.refl _ _).alloc _) (fun _ _ _ h => h)).row)
          ⟨W.heap.size, 0, none⟩ 1 1 [.int .i64 d0, .int .i64 d1, .int .i64 d2, .bool true] (by rfl) (by rfl) (fresh_news W.drew _ [.int .i64 d0, .int .i64 d1, .int .i64 d2, .bool true]) (by simp [Value.oneCell'])
          (by omega) (by unfold maxLen; omega) (by omega) (by show _ ≤ (W.drew.alloc _).heap.size; rw [World.size_alloc]; exact Nat.le_succ_of_le szW) (W.heap.size + 1) (by simp) ?_
        intro gg cap w2 hown hgrow hat hlt2
        refine hK.out _ _ (fun h => absurd h (Pend.no (by kernel_rfl))) ?_
        clear hK K
        try simp only [Act.put, List.setIfInBounds_toArray, List.set_cons_zero, List.set_cons_succ]
        have cg := Ch.own' (H5.out.drew.ch (S := Noone) ((Ch.refl _ _).alloc _) (fun _ _ _ h => h)) hgrow
        have k5 : Blk w2 (w.heap.size + 2) 93 #[.slice a' l'.length c'] := cg.blk (((show Blk W.drew _ _ _ from H4.out)).alloc _) (fun h => by have := h.1; omega)
        have y5 := k5.cell 0
        have y6 := k5.free 0
        refine wpAnyT_step (i := 17) (by kernel_rfl) rfl (by rfl) (fun K hK => ?_)
        go_simp
        refine hK.out _ _ (fun h => absurd h (Pend.no (by kernel_rfl))) ?_
        clear hK K
        refine wpAnyT_done (by kernel_rfl) ?_
        exact take_put x ⟨d0, d1, d2, true⟩ H1.out h2 h3 H4.out H5.out h6 szW cg hown
      · gi_wp2_with fail
        · have ch : Ch (fun k => k = w.heap.size ∨ k = w.heap.size + 1) W ((W.setCell ⟨w.heap.size, 0, none⟩ (.slice none 0 0)).setCell ⟨w.heap.size + 1, 0, none⟩ (.bool false)) := ((Ch.refl _ W).set (fun _ => .inl rfl) 0 _).set (fun _ => .inr rfl) 0 _
          exact ⟨(KeepsOthers.setCell _ _ _).from _ |>.trans ((KeepsOthers.setCell _ _ _).from _), rfl, (h2.set 0 _).other (by omega) 0 _, ((h3.other (by omega) 0 _).set 0 _), h6.then ch (fun i hi hS => by omega)⟩
        · exfalso
          have h : (d3 != 0) = false ∨ (d3 != 1) = false := by assumption
          simp at h
          omega
    case done =>
      rintro D ys W hD hys ⟨a', c', l, h1, h2, h3, h4, h5, h6, h7⟩ hK
      have r2 := h4.cell 0
      have r0 := h2.cell 0
      have r1 := h3.cell 0
      have s0 := h2.free 0
      have s1 := h3.free 0
      have HL : Hid (l.length ≤ us.length) := by have h1' := h1; show _ ≤ _; omega
      clear h1
      gi_wp2_with fail
      obtain ⟨W', hW'⟩ : ∃ W', W' = (W.setCell ⟨w.heap.size, 0, none⟩ (.slice a' l.length c')).setCell ⟨w.heap.size + 1, 0, none⟩ (.bool true) := ⟨_, rfl⟩
      have ch : Ch (fun k => k = w.heap.size ∨ k = w.heap.size + 1) W W' := by rw [hW']; exact ((Ch.refl _ W).set (fun _ => .inl rfl) 0 _).set (fun _ => .inr rfl) 0 _
      have t0 : Blk W' w.heap.size 93 #[.slice a' l.length c'] := by rw [hW']; exact (h2.set 0 _).other (by omega) 0 _
      have t1 : Blk W' (w.heap.size + 1) 4 #[.bool true] := by rw [hW']; exact (h3.other (by omega) 0 _).set 0 _
      have hK' : W'.heap[D]? = some (.deferred (some [])) := (ch.block D (lt_of_heap hK) (fun h => by omega)).trans hK
      have o5 : Own (New (w.heap.size + 5)) W' 168 4 (.slice a' l.length c') l.length (l.flatMap fRS) := h5.ch ch (fun b (hb : _ ≤ b) _ h => by omega)
      rw [← hW']
      clear hW'
      have cp : Ch (fun k => k = D) W' (W'.putObj D (.deferred none)) := by
        have g := grownBy_putObj' W' D (.deferred none)
        exact ⟨g.os, g.tape, g.output, g.size, fun k hk hn => g.block k hk (fun e => hn (by cases e; rfl))⟩
      have v0 := (cp.blk t0 (fun e => by omega)).cell 0
      have v1 := (cp.blk t1 (fun e => by omega)).cell 0
      have o6 : Own (New (w.heap.size + 5)) (W'.putObj D (.deferred none)) 168 4 (.slice a' l.length c') l.length (l.flatMap fRS) := o5.grown (grownBy_putObj' W' D (.deferred none)) (fun r e => by cases e; exact ⟨_, hK', rfl⟩)
      have c6 : Ch Noone w (W'.putObj D (.deferred none)) := (h6.then ch (fun i hi h => by omega)).then cp (fun i hi h => by omega)
      refine ⟨by simp, .inl ⟨_, _, rfl, run_takeDeferred hK', ?_⟩⟩
      exact ⟨.tuple #[.slice a' l.length c', .bool true], by simp [results, Tryz.f97, go_sem, v0, v1], _, l, true, rfl, HL.out, o6.mono (fun b (hb : _ ≤ b) _ => (by show _ ≤ b; omega)), c6⟩
    case stop =>
      rintro D c pre W hD _ ⟨rfl, h2, h3, h4⟩ hK
      gi_wp2_with fail
      have cp : Ch (fun k => k = D) W (W.putObj D (.deferred none)) := by
        have g := grownBy_putObj' W D (.deferred none)
        exact ⟨g.os, g.tape, g.output, g.size, fun k hk hn => g.block k hk (fun e => hn (by cases e; rfl))⟩
      have v0 := (cp.blk h2 (fun e => by omega)).cell 0
      have v1 := (cp.blk h3 (fun e => by omega)).cell 0
      refine ⟨by simp, .inl ⟨_, _, rfl, run_takeDeferred hK, ?_⟩⟩
      exact ⟨.tuple #[.slice none 0 0, .bool false], by simp [results, Tryz.f97, go_sem, v0, v1], .slice none 0 0, [], false, rfl, by simp, Own.nil _ _ _ _, h4.then cp (fun i hi h => by omega)⟩

end Go.Proofs.YtkplgggdidhnoaaGreatDoor

namespace Go.Proofs.YtkplgggdidhnoaaGreatDoor
open Go.ChangeShapes Go.WideShapes Go.ChangeAt Go.RowKit
set_option linter.unusedVariables false

theorem Sl.drop3 {B : Nat → Prop} {w : World} {g n cap : Nat} {us : List Int} (h : Sl B w (.slice (some ⟨g, 0, none⟩) n cap) n (us.flatMap fInt)) (hx : us.length = n) (h3 : 3 ≤ n) (o : Nat) (ho : 3 < n → o = 3) :
    Sl B w (.slice (some ⟨g, o, none⟩) (n - 3) (cap - 3)) (us.drop 3).length ((us.drop 3).flatMap fInt) := by
  rcases Nat.lt_or_ge 3 n with hn | hn
  · have := h.drop hx hn
    rw [Nat.zero_add] at this
    rw [ho hn, List.length_drop, hx]
    exact this
  · obtain ⟨ao, cap', e, h1, h2, h3, h4⟩ := h
    simp only [Value.slice.injEq] at e
    obtain ⟨rfl, -, rfl⟩ := e
    have hd : us.drop 3 = [] := List.drop_eq_nil_of_le (by omega)
    rw [hd]
    have hn3 : n - 3 = 0 := by omega
    rw [hn3]
    exact ⟨some ⟨g, o, none⟩, cap - 3, rfl, Nat.zero_le _, by omega, (fun h => by cases h), fun h => absurd rfl h⟩
theorem Own.intAt {B : Nat → Prop} {w : World} {g n cap : Nat} {us : List Int} (h : Own B w 3 1 (.slice (some ⟨g, 0, none⟩) n cap) n (us.flatMap fInt)) (i : Nat) (hi : i < us.length) : w.cell? ⟨g, i, none⟩ = some (.int .i64 us[i]) := by
  obtain ⟨ao, cap', e, h1, h2, h3, h4⟩ := h.sl
  simp only [Value.slice.injEq] at e
  obtain ⟨rfl, -, rfl⟩ := e
  obtain ⟨b', o', e', hB, hlt, hat⟩ := h4 (by intro h; have := congrArg List.length h; rw [fInt_map] at this; simp at this; subst this; simp at hi)
  simp only [Option.some.injEq, Addr.mk.injEq, and_true] at e'
  obtain ⟨rfl, rfl⟩ := e'
  rw [fInt_map] at hat
  have := hat i (by simpa only [List.length_map] using hi)
  rw [Nat.zero_add] at this
  rw [this]
  simp [hi]

set_option maxRecDepth 100000 in
set_option maxHeartbeats 4000000 in
theorem read_any (O : Nat → Prop) (w : World) (b : Nat) (xs : List Item) (h : CrateAt O w b xs) :
    Calls Tryz.prog 58 #[.pointer (some ⟨b, 0, none⟩)] w fun e w' => ∃ (ep ct : Int) (v' : Value) (l : List RS) (ok : Bool), e = .returned (.tuple #[.int .i64 ep, .int .i64 ct, v', .bool ok]) ∧ l.length ≤ 100 ∧
      Own (New w.heap.size) w' 168 4 v' l.length (l.flatMap fRS) ∧ Ch Noone w w' := by
  obtain ⟨i0, hi0, hz0, hz1, hz2⟩ := info_parts info_int
  have HC := Lib.hid h
  have HX := Lib.hid h.1
  clear h
  go_enter Tryz.func58, Tryz.ntmps58
  go_wp2_with fail
  go_loopw [6, 7] (fun s i wr => ∃ (j : Nat) (us : List Int), j ≤ 100 ∧ i = .int .i64 ((j : Int) + 1) ∧ Hid (us.length = j) ∧ Own (New w.heap.size) wr 3 1 s us.length (us.flatMap fInt) ∧ Ch Noone w wr) (fun _ i _ => (200 - intOf i).toNat)
  case atStart => exact ⟨0, [], by omega, rfl, rfl, Own.nil _ _ _ _, Ch.refl _ _⟩
  case round =>
    obtain ⟨j, us, hj, rfl, hus, ho, hch⟩ := hrel
    have HO := Lib.hid ho
    obtain ⟨sa, sc, rfl, -, -, -, -⟩ := ho.sl
    clear ho
    have HL := Lib.hid (crate_len O wr b xs (HC.out.ch0 hch))
    have HI := Lib.hid (crate_int O wr b xs ((j : Int) + 1) (HC.out.ch0 hch))
    by_cases hjl : j + 1 < xs.length
    · have hjl' : (j : Int) + 1 < xs.length := by omega
      go_wp2_with (first
        | (go_at_call 94; refine HL.out.mono ?_; rintro e w1 ⟨rfl, rfl⟩)
        | (go_at_call 95; refine HI.out.mono ?_; rintro e w1 ⟨⟨n, t, rfl⟩, rfl⟩)
        | (at_builtin; refine And.right (a := True) ?_))
      · exact bodyPost_ret (v := .tuple #[.int .i64 0, .int .i64 0, .slice none 0 0, .bool false]) (by simp [results, Tryz.f58, go_sem]) rfl ⟨0, 0, .slice none 0 0, [], false, rfl, by simp, Own.nil _ _ _ _, hch⟩
      · refine ⟨trivial, ?_⟩
        refine wpList_append_own _ rfl _ _ 33 rfl w.heap.size 3 i0 _ 1 8 Tryz.underlying33 hi0 hz0 hz1 hz2 rfl (by decide) _ us.length (us.flatMap fInt) (by exact rfl) (by exact (HO.out.ch ((Ch.refl Noone _).alloc _) (fun _ _ _ h => h)).row) _ 1 1 [.int .i64 n] (by exact rfl) rfl (by exact fresh_at _ _ (by simp) _ [.int .i64 n]) (by simp [Value.oneCell']) (by have := hus.out; unfold maxLen; omega) (by have := hus.out; omega) (by have := hch.size; simp; omega) ?_
        intro v' w2 hown hgrow _
        have HCH : Hid (Ch Noone w w2) := hch.then (Ch.own' (HO.out.ch ((Ch.refl Noone _).alloc _) (fun _ _ _ h => h)) hgrow |> fun c => ((Ch.refl _ _).alloc _).trans c) (fun i hi h => by have := h.1; omega)
        have HO2 := Lib.hid (Own.of hown)
        clear hown hgrow
        go_wp2_with fail
        go_roundw
        case rel =>
          refine ⟨j + 1, us ++ [n], by have := HX.out; omega, by go_num, by have := hus.out; show _ = _; simp; omega, ?_, HCH.out⟩
          have h := HO2.out
          rw [List.flatMap_append, List.length_append]
          simpa [fInt] using h
        case measure => simp [intOf]; omega
    · have hjl' : (xs.length : Int) ≤ (j : Int) + 1 := by omega
      have HT := Lib.hid (crate_text O wr b xs 0 (HC.out.ch0 hch))
      by_cases h3 : us.length < 3
      · have h3' : (us.length : Int) < 3 := by omega
        go_wp2_with (first
          | (go_at_call 94; refine HL.out.mono ?_; rintro e w1 ⟨rfl, rfl⟩)
          | (go_at_call 96; refine HT.out.mono ?_; rintro e w1 ⟨⟨x, t, rfl, -⟩, rfl⟩))
        all_goals exact bodyPost_ret (v := .tuple #[.int .i64 0, .int .i64 0, .slice none 0 0, .bool false]) (by simp [results, Tryz.f58, go_sem]) rfl ⟨0, 0, .slice none 0 0, [], false, rfl, by simp, Own.nil _ _ _ _, hch⟩
      · have h3' : (3 : Int) ≤ us.length := by omega
        have h3n : 3 ≤ us.length := by omega
        obtain ⟨g, cap, e, -, hg⟩ := HO.out.row.form (by omega)
        simp only [Value.slice.injEq] at e
        obtain ⟨rfl, -, rfl⟩ := e
        have H3 := Lib.hid h3n
        have HG := Lib.hid hg
        have cell0 : ∀ w2, Ch Noone wr w2 → w2.cell? ⟨g, 0, none⟩ = some (.int .i64 us[0]) := fun w2 c => (take_cell c HG.out).trans (HO.out.intAt 0 (by omega))
        have cell1 : ∀ w2, Ch Noone wr w2 → w2.cell? ⟨g, 1, none⟩ = some (.int .i64 us[1]) := fun w2 c => (take_cell c HG.out).trans (HO.out.intAt 1 (by omega))
        have cell2 : ∀ w2, Ch Noone wr w2 → w2.cell? ⟨g, 2, none⟩ = some (.int .i64 us[2]) := fun w2 c => (take_cell c HG.out).trans (HO.out.intAt 2 (by omega))
        generalize us[0] = d0 at *
        generalize us[1] = d1 at *
        generalize us[2] = d2 at *
        rcases Nat.lt_or_ge 3 sc with hsc | hsc
        · have hs3 : ¬ sc = 3 := by omega
          have HTk := Lib.hid (take_any (New w.heap.size) wr _ (us.drop 3) (Sl.drop3 HO.out.sl rfl h3n 3 (by omega)) (by rw [List.length_drop]; have := hus.out; omega))
          have HU := Lib.hid hus.out
          go_wp2_with (first
            | (go_at_call 94; refine HL.out.mono ?_; rintro e w1 ⟨rfl, rfl⟩)
            | (go_at_call 96; refine HT.out.mono ?_; rintro e w1 ⟨⟨x, t, rfl, -⟩, rfl⟩)
            | (go_at_call 97; refine HTk.out.mono ?_; rintro e w2 ⟨v', l, ok, rfl, hl, o', hc'⟩
               have HL' := Lib.hid hl; have HO' := Lib.hid o'; have HC' := Lib.hid hc'; obtain ⟨ra, rc, rfl, -, -, -, -⟩ := o'.sl; clear hl o' hc'
               have y0 := cell0 w2 HC'.out; have y1 := cell1 w2 HC'.out; have y2 := cell2 w2 HC'.out))
          all_goals first
            | (go_quiet (fail)
               go_wp2_with fail
               exact bodyPost_ret (v := .tuple #[.int .i64 d0, .int .i64 d1, .slice ra l.length rc, .bool true]) (by simp [results, Tryz.f58, go_sem]) rfl ⟨d0, d1, _, l, true, rfl, by have h1 := HL'.out; rw [List.length_drop] at h1; have h2 := HU.out; omega, HO'.out.mono (fun b (hb : _ ≤ b) _ => Nat.le_trans hch.size hb), (hch.trans HC'.out).drewN _⟩)
            | exact bodyPost_ret (v := .tuple #[.int .i64 0, .int .i64 0, .slice none 0 0, .bool false]) (by simp [results, Tryz.f58, go_sem]) rfl ⟨0, 0, .slice none 0 0, [], false, rfl, by simp, Own.nil _ _ _ _, hch⟩
            | exact bodyPost_ret (v := .tuple #[.int .i64 0, .int .i64 0, .slice none 0 0, .bool false]) (by simp [results, Tryz.f58, go_sem]) rfl ⟨0, 0, .slice none 0 0, [], false, rfl, by simp, Own.nil _ _ _ _, hch.trans HC'.out⟩
        · have hle : us.length ≤ sc := by
            obtain ⟨_, _, e, hle, -⟩ := HO.out.sl
            simp only [Value.slice.injEq] at e
            omega
          obtain rfl : sc = 3 := by omega
          have hT := (take_any (New w.heap.size) wr _ (us.drop 3) (Sl.drop3 HO.out.sl rfl h3n 0 (by omega)) (by rw [List.length_drop]; have := hus.out; omega))
          rw [show us.length - 3 = 0 by omega, Nat.sub_self] at hT
          have HTk := Lib.hid hT
          clear hT
          have HU := Lib.hid hus.out
          go_wp2_with (first
            | (go_at_call 94; refine HL.out.mono ?_; rintro e w1 ⟨rfl, rfl⟩)
            | (go_at_call 96; refine HT.out.mono ?_; rintro e w1 ⟨⟨x, t, rfl, -⟩, rfl⟩)
            | (go_at_call 97; refine HTk.out.mono ?_; rintro e w2 ⟨v', l, ok, rfl, hl, o', hc'⟩
               have HL' := Lib.hid hl; have HO' := Lib.hid o'; have HC' := Lib.hid hc'; obtain ⟨ra, rc, rfl, -, -, -, -⟩ := o'.sl; clear hl o' hc'
               have y0 := cell0 w2 HC'.out; have y1 := cell1 w2 HC'.out; have y2 := cell2 w2 HC'.out))
          all_goals first
            | (go_quiet (fail)
               go_wp2_with fail
               exact bodyPost_ret (v := .tuple #[.int .i64 d0, .int .i64 d1, .slice ra l.length rc, .bool true]) (by simp [results, Tryz.f58, go_sem]) rfl ⟨d0, d1, _, l, true, rfl, by have h1 := HL'.out; rw [List.length_drop] at h1; have h2 := HU.out; omega, HO'.out.mono (fun b (hb : _ ≤ b) _ => Nat.le_trans hch.size hb), (hch.trans HC'.out).drewN _⟩)
            | exact bodyPost_ret (v := .tuple #[.int .i64 0, .int .i64 0, .slice none 0 0, .bool false]) (by simp [results, Tryz.f58, go_sem]) rfl ⟨0, 0, .slice none 0 0, [], false, rfl, by simp, Own.nil _ _ _ _, hch⟩
            | exact bodyPost_ret (v := .tuple #[.int .i64 0, .int .i64 0, .slice none 0 0, .bool false]) (by simp [results, Tryz.f58, go_sem]) rfl ⟨0, 0, .slice none 0 0, [], false, rfl, by simp, Own.nil _ _ _ _, hch.trans HC'.out⟩

end Go.Proofs.YtkplgggdidhnoaaGreatDoor
