/-
  The contracts of relay once more, at a state whose next one is told beforehand. Conditions: those on the numbers that stand in each.
-/
import Derived.Test.YtnolhpblhndomaaRelayRef
namespace Go.Proofs.Ytnolhpblhndomaa
open Go.ChangeShapes Go.WideShapes Go.ChangeAt Go.RowKit
set_option linter.unusedVariables false
deriving instance DecidableEq for St

theorem step_begin {s' : St} (w : World) (b : Nat) (s : St) (n : Int) (h : RelayAt w b s) (hs : s.Ok) (he : s.begin n = s') :
    Calls Try.prog 14 #[.pointer (some ⟨b, 0, none⟩), .int .i64 n] w fun e w' => e = .returned (.tuple #[]) ∧ RelayAt w' b s' ∧ Ch (fun k => k = b) w w' := by
  subst he; exact relay_begin w b s n h hs
theorem step_ask {s' : St} {e l r : Int} (w : World) (b : Nat) (s : St) (u c : Int) (h : RelayAt w b s) (he0 : 0 ≤ s.epoch) (he1 : s.epoch ≤ 4611686018427387904) (he : s.ask u c = (s', e, l, r)) :
    Calls Try.prog 15 #[.pointer (some ⟨b, 0, none⟩), .int .i64 u, .int .i64 c] w fun x w' => x = .returned (.tuple #[.int .i64 e, .int .i64 l, .int .i64 r]) ∧ RelayAt w' b s' ∧ Ch (fun k => k = b) w w' := by
  have := relay_ask w b s u c h he0 he1
  rw [he] at this
  exact this
theorem step_yield {s' : St} {r : Int} (w : World) (b : Nat) (s : St) (u : Int) (h : RelayAt w b s) (hn0 : 0 ≤ s.now) (hn1 : s.now ≤ 1099511627776) (he : s.yield u = (s', r)) :
    Calls Try.prog 20 #[.pointer (some ⟨b, 0, none⟩), .int .i64 u] w fun x w' => x = .returned (.int .i64 r) ∧ RelayAt w' b s' ∧ Ch (fun k => k = b) w w' := by
  have := relay_yield w b s u h hn0 hn1
  rw [he] at this
  exact this

theorem flat_ne {α : Type} {f : α → List Value} {C : Nat} (hf : ∀ x, (f x).length = C) (h0 : 0 < C) {l : List α} {k : Nat} (hk : k < l.length) : l.flatMap f ≠ [] := by
  intro h
  have h1 := flat_length f C hf l
  rw [h, List.length_nil] at h1
  have : 0 < l.length * C := Nat.mul_pos (by omega) h0
  omega
theorem int_cell {w : World} {ao : Option Addr} {l : List Int} (h : Cells w ao (l.flatMap fInt)) {k : Nat} (hk : k < l.length) :
    ∃ b off, ao = some ⟨b, off, none⟩ ∧ b < w.heap.size ∧ w.cell? ⟨b, off + k, none⟩ = some (.int .i64 l[k]) := by
  obtain ⟨b, off, e, hb, hc⟩ := h (flat_ne (C := 1) (fun _ => rfl) (by omega) hk)
  refine ⟨b, off, e, hb, ?_⟩
  have h3 := flat_at fInt 1 (fun _ => rfl) l k 0 hk (by omega)
  have h4 := hc k (by rw [flat_length fInt 1 (fun _ => rfl)]; omega)
  rw [show k = k * 1 + 0 by omega, h3] at h4
  simpa [fInt] using h4
theorem bool_cell {w : World} {ao : Option Addr} {l : List Bool} (h : Cells w ao (l.flatMap fBool)) {k : Nat} (hk : k < l.length) :
    ∃ b off, ao = some ⟨b, off, none⟩ ∧ b < w.heap.size ∧ w.cell? ⟨b, off + k, none⟩ = some (.bool l[k]) := by
  obtain ⟨b, off, e, hb, hc⟩ := h (flat_ne (C := 1) (fun _ => rfl) (by omega) hk)
  refine ⟨b, off, e, hb, ?_⟩
  have h3 := flat_at fBool 1 (fun _ => rfl) l k 0 hk (by omega)
  have h4 := hc k (by rw [flat_length fBool 1 (fun _ => rfl)]; omega)
  rw [show k = k * 1 + 0 by omega, h3] at h4
  simpa [fBool] using h4
theorem act_cell {w : World} {ao : Option Addr} {l : List (Int × Int × Int)} (h : Cells w ao (l.flatMap fAct)) {k : Nat} (hk : k < l.length) :
    ∃ b off, ao = some ⟨b, off, none⟩ ∧ b < w.heap.size ∧ w.cell? ⟨b, off + k * 3, none⟩ = some (.int .i64 l[k].1) ∧ w.cell? ⟨b, off + k * 3 + 1, none⟩ = some (.int .i64 l[k].2.1) ∧ w.cell? ⟨b, off + k * 3 + 2, none⟩ = some (.int .i64 l[k].2.2) := by
  obtain ⟨b, off, e, hb, hc⟩ := h (flat_ne (C := 3) (fun _ => rfl) (by omega) hk)
  have key : ∀ j, j < 3 → w.cell? ⟨b, off + k * 3 + j, none⟩ = (fAct l[k])[j]? := fun j hj => by
    have h3 := flat_at fAct 3 (fun _ => rfl) l k j hk hj
    have h4 := hc (k * 3 + j) (by rw [flat_length fAct 3 (fun _ => rfl)]; omega)
    rw [← h3, ← h4, Nat.add_assoc]
  exact ⟨b, off, e, hb, key 0 (by omega), key 1 (by omega), key 2 (by omega)⟩

theorem i64_and65535 (n : Int) : bits .and .i64 n 65535 = n % 65536 := by
  have hm : (BitVec.ofInt 64 65535).toNat = 2 ^ 16 - 1 := by decide
  have key : (BitVec.ofInt 64 n &&& BitVec.ofInt 64 65535).toNat = (n % ((2 ^ 64 : Nat) : Int)).toNat % 2 ^ 16 := by
    rw [BitVec.toNat_and, BitVec.toNat_ofInt, hm, Nat.and_two_pow_sub_one_eq_mod]
  show IntKind.i64.wrap ((BitVec.ofInt 64 n &&& BitVec.ofInt 64 65535).toNat : Nat) = n % 65536
  rw [key, IntKind.wrap_i64]
  omega

theorem i64_and1 (n : Int) : bits .and .i64 n 1 = n % 2 := by
  have hm : (BitVec.ofInt 64 1).toNat = 2 ^ 1 - 1 := by decide
  have key : (BitVec.ofInt 64 n &&& BitVec.ofInt 64 1).toNat = (n % ((2 ^ 64 : Nat) : Int)).toNat % 2 ^ 1 := by
    rw [BitVec.toNat_and, BitVec.toNat_ofInt, hm, Nat.and_two_pow_sub_one_eq_mod]
  show IntKind.i64.wrap ((BitVec.ofInt 64 n &&& BitVec.ofInt 64 1).toNat : Nat) = n % 2
  rw [key, IntKind.wrap_i64]
  omega

theorem i64_and15 (n : Int) : bits .and .i64 n 15 = n % 16 := by
  have hm : (BitVec.ofInt 64 15).toNat = 2 ^ 4 - 1 := by decide
  have key : (BitVec.ofInt 64 n &&& BitVec.ofInt 64 15).toNat = (n % ((2 ^ 64 : Nat) : Int)).toNat % 2 ^ 4 := by
    rw [BitVec.toNat_and, BitVec.toNat_ofInt, hm, Nat.and_two_pow_sub_one_eq_mod]
  show IntKind.i64.wrap ((BitVec.ofInt 64 n &&& BitVec.ofInt 64 15).toNat : Nat) = n % 16
  rw [key, IntKind.wrap_i64]
  omega

theorem ref_step_ask {s' : St} {e l r : Int} (w : World) (b : Nat) (s : St) (u c : Int) (h : RefAt w b s) (hs : s.Ok) (he : s.ask u c = (s', e, l, r)) :
    Calls Try.prog 23 #[.pointer (some ⟨b, 0, none⟩), .int .i64 u, .int .i64 c] w fun x w' => x = .returned (.tuple #[.int .i64 e, .int .i64 l, .int .i64 r]) ∧ RefAt w' b s' ∧ Ch (fun k => k = b) w w' := by
  have := ref_ask w b s u c h hs
  rw [he] at this
  exact this
theorem ref_step_yield {s' : St} {r : Int} (w : World) (b : Nat) (s : St) (u : Int) (h : RefAt w b s) (hs : s.Ok) (he : s.yield u = (s', r)) :
    Calls Try.prog 24 #[.pointer (some ⟨b, 0, none⟩), .int .i64 u] w fun x w' => x = .returned (.int .i64 r) ∧ RefAt w' b s' ∧ Ch (fun k => k = b) w w' := by
  have := ref_yield w b s u h hs
  rw [he] at this
  exact this

theorem begin_epoch (s : St) (n : Int) : (s.begin n).epoch = s.epoch := by
  unfold St.begin; split
  · rfl
  · split <;> rfl
theorem ask_epoch (s : St) (u c : Int) : (s.ask u c).1.epoch ≤ s.epoch + 1 := by
  unfold St.ask; split
  · show s.epoch ≤ _; omega
  · split
    · show s.epoch ≤ _; omega
    · split
      · exact Int.le_refl _
      · show s.epoch ≤ _; omega
theorem yield_epoch (s : St) (u : Int) : (s.yield u).1.epoch = s.epoch := by
  unfold St.yield; split <;> rfl

/-- One unit at most is connected, and that owns the field. -/
def One (s : St) : Prop := s.con = -1 ∨ s.con = s.own
/-- Who owns the field changes with the epoch alone. -/
def Next (s s' : St) : Prop := One s' ∧ ((s'.own = -1 ∧ s'.epoch = s.epoch) ∨ (0 ≤ s'.own ∧ s'.own = s.own ∧ s'.epoch = s.epoch) ∨ (0 ≤ s'.own ∧ s'.own ≠ s.own ∧ s'.epoch = s.epoch + 1))
theorem next_same {s : St} (h : s.Ok) (h1 : One s) : Next s s := by
  have := h.o0
  rcases (show s.own = -1 ∨ 0 ≤ s.own by omega) with h | h
  · exact ⟨h1, .inl ⟨h, rfl⟩⟩
  · exact ⟨h1, .inr (.inl ⟨h, rfl, rfl⟩)⟩
theorem next_begin {s : St} (h : s.Ok) (h1 : One s) (n : Int) : Next s (s.begin n) := by
  unfold St.begin; split
  · exact next_same h h1
  · split
    · exact ⟨.inl rfl, .inl ⟨rfl, rfl⟩⟩
    · exact ⟨.inl rfl, (next_same h h1).2⟩
theorem next_ask {s : St} (h : s.Ok) (h1 : One s) (u c : Int) : Next s (s.ask u c).1 := by
  unfold St.ask; split
  · exact next_same h h1
  · split
    · rename_i ho; exact ⟨.inr ho.symm, (next_same h h1).2⟩
    · split
      · rename_i h2 h3 h4
        refine ⟨?_, .inr (.inr ⟨by show 0 ≤ u; omega, by show u ≠ s.own; omega, rfl⟩)⟩
        rcases h1 with h1 | h1
        · exact .inl h1
        · exact .inl (h1.trans h4.1)
      · exact next_same h h1
theorem next_yield {s : St} (h : s.Ok) (h1 : One s) (u : Int) : Next s (s.yield u).1 := by
  unfold St.yield; split
  · exact next_same h h1
  · exact ⟨.inl rfl, .inl ⟨rfl, rfl⟩⟩
end Go.Proofs.Ytnolhpblhndomaa
