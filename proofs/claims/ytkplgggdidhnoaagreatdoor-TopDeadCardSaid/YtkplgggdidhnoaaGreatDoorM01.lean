/-
  A region that draws its order, whose loads read cells that its last operations write: the loads are taken first as long as an operation that waits for each of them has not come up. No condition.
-/
import Derived.Test.YtkplgggdidhnoaaGreatDoorM00
import Derived.StillTail
import Derived.Deep.RegionHeld3
namespace Go.Proofs.YtkplgggdidhnoaaGreatDoor
open Go

section
variable {P : Program} {ops : Array Oper} {Q : Exit → Act → World → Prop} {md : Region.Mode} {S : World → Prop} {C : List Nat}

/-- One of C has not come up. -/
def Pend (C : List Nat) (listed : Array Bool) : Prop := ∃ c ∈ C, listed.getD c true = false
theorem Pend.set {i : Nat} {listed : Array Bool} (hi : i ∉ C) (h : Pend C listed) : Pend C (listed.setIfInBounds i true) := by
  obtain ⟨c, hc, h⟩ := h
  exact ⟨c, hc, by rw [getD_set_ne true (by intro e; subst e; exact hi hc)]; exact h⟩

theorem Pend.no {listed : Array Bool} (h : (C.any fun c => !(listed.getD c true)) = false) : ¬ Pend C listed := fun ⟨c, hc, hl⟩ => by
  have := List.any_eq_false.1 h c hc
  rw [hl] at this
  exact this rfl

/-- Whatever order is picked; S holds behind each operation for as long as one of C has not come up. -/
def wpAnyT (P : Program) (md : Region.Mode) (ops : Array Oper) (Q : Exit → Act → World → Prop) (S : World → Prop) (C : List Nat) : Nat → Array Bool → Act → World → Prop
  | 0, listed, a, w => Region.ready md ops listed = [] ∧ Q .normal a w
  | n + 1, listed, a, w => (Region.ready md ops listed = [] → Q .normal a w) ∧
    ∀ i ∈ Region.ready md ops listed, wpOp P ops Q i (fun a' w' => (Pend C (listed.setIfInBounds i true) → S w') ∧ wpAnyT P md ops Q S C n (listed.setIfInBounds i true) a' w') a w

theorem wpAny_of_T : ∀ (n : Nat) (listed : Array Bool) (a : Act) (w : World), wpAnyT P md ops Q S C n listed a w → wpAny P md ops Q n listed a w
  | 0, _, _, _, h => h
  | n + 1, _, _, _, h => ⟨h.1, fun i hi => wpOp_mono (fun a' w' h' => wpAny_of_T n _ a' w' h'.2) (h.2 i hi)⟩

/-- An operation i, no one of C, may be taken first, if it yields its value in each world of R, and the world is of R for as long as i has not come up (hR). -/
theorem wpAnyT_first {R : World → Prop} {i : Nat} {oi : Oper} {v : Value} (hi : ops[i]? = some oi) (hsel : ∀ (j : Nat) (o : Oper) cs b, ops[j]? = some o → o.op ≠ .select cs b)
    (hQ : ∀ c a w, Q (.panic c) (a.put oi.dst v) w → Q (.panic c) a w) (hiC : i ∉ C)
    (hR : (∀ w, R w) ∨ ((∀ w, S w → R w) ∧ ∃ c ∈ C, Region.waitsFor md ops c i = true)) :
    ∀ (n : Nat) (listed : Array Bool) (a : Act) (w : World),
      (∀ j oj, ops[j]? = some oj → j ≠ i → listed.getD j true = false → (∀ e ∈ oj.after, Region.binds md e = true → e.on ≠ i) → oi.apart ops oj = true) →
      i ∈ Region.ready md ops listed → YieldsIf P ops R oi v a → (Pend C listed → S w) → R w → (∀ c ∈ C, Region.waitsFor md ops c i = true → listed.getD c true = false) →
      wpAnyT P md ops Q S C n (listed.setIfInBounds i true) (a.put oi.dst v) w → wpAnyT P md ops Q S C (n + 1) listed a w := by
  intro n
  induction n with
  | zero =>
    intro listed a w _ hr hy hS hRw _ H
    refine ⟨fun h => (by rw [h] at hr; cases hr), fun j hj => ?_⟩
    by_cases hji : j = i
    · subst hji
      exact hy.wpOp hi hRw ⟨fun ⟨c, hc, h⟩ => hS ⟨c, hc, by rw [getD_set_ne true (by intro e; subst e; exact hiC hc)] at h; exact h⟩, H⟩
    · have := ready_mono hj hji
      rw [H.1] at this
      cases this
  | succ n ih =>
    intro listed a w hfree hr hy hS hRw hcu H
    refine ⟨fun h => (by rw [h] at hr; cases hr), fun j hj => ?_⟩
    by_cases hji : j = i
    · subst hji
      exact hy.wpOp hi hRw ⟨fun ⟨c, hc, h⟩ => hS ⟨c, hc, by rw [getD_set_ne true (by intro e; subst e; exact hiC hc)] at h; exact h⟩, H⟩
    · have h1 := H.2 j (ready_mono hj hji)
      obtain ⟨hjun, oj, hoj, hall⟩ := mem_ready.1 hj
      have hnot : ∀ e ∈ oj.after, Region.binds md e = true → e.on ≠ i := fun e he hb heq => by
        have h1 := hall e he hb
        have h0 := (mem_ready.1 hr).1
        rw [heq] at h1
        rcases Nat.lt_or_ge i listed.size with h' | h'
        · simp [h'] at h0 h1; rw [h0] at h1; cases h1
        · simp [Array.getElem?_eq_none h'] at h1
      have hjw : Region.waitsFor md ops j i = true → False := fun hw => by
        obtain ⟨o, ho, e, he, hb, hon⟩ := Region.waitsFor_spec hw
        rw [hoj] at ho
        cases ho
        exact hnot e he hb hon
      have h2 := wpOp_putIf hoj (hfree j oj hoj hji hjun hnot) (fun cs b => hsel i oi cs b hi) (fun cs b => hsel j oj cs b hoj) hQ hy h1
      have hcu' : ∀ c ∈ C, Region.waitsFor md ops c i = true → (listed.setIfInBounds j true).getD c true = false := fun c hc hw => by
        rw [getD_set_ne true (by intro e; subst e; exact hjw hw)]
        exact hcu c hc hw
      refine wpOp_mono (fun a' w' h3 => ?_) h2
      have hS' : Pend C (listed.setIfInBounds j true) → S w' := fun hp => h3.2.1 (by
        have := hp.set hiC
        rw [Array.setIfInBounds_comm _ _ (Ne.symm hji)]; exact this)
      have hR' : R w' := by
        rcases hR with hR | ⟨hR, c, hc, hw⟩
        · exact hR w'
        · exact hR w' (hS' ⟨c, hc, hcu' c hc hw⟩)
      refine ⟨hS', ih (listed.setIfInBounds j true) a' w' (fun k ok hk hki hun hno => ?_) (ready_mono hr (Ne.symm hji)) h3.1 hS' hR' hcu' ?_⟩
      · refine hfree k ok hk hki ?_ hno
        by_cases hjk : j = k
        · subst hjk; exact hjun
        · rw [getD_set_ne true hjk] at hun; exact hun
      · rw [Array.setIfInBounds_comm _ _ hji]
        exact h3.2.2

def waitB (md : Region.Mode) (ops : Array Oper) (C : List Nat) (listed : Array Bool) (i : Nat) : Bool := C.all fun c => !(Region.waitsFor md ops c i) || !(listed.getD c true)
theorem waitB_spec {i : Nat} {listed : Array Bool} (h : waitB md ops C listed i = true) : ∀ c ∈ C, Region.waitsFor md ops c i = true → listed.getD c true = false := fun c hc hw => by
  have := List.all_eq_true.1 h c hc
  rw [hw] at this
  simpa using this

/-- A load: it is taken first, if one of C waits for it. -/
theorem wpAnyT_load {i : Nat} {oi : Oper} {v : Value} {n : Nat} {listed : Array Bool} {a : Act} {w : World} (hi : ops[i]? = some oi)
    (hs : Region.noSelect ops = true) (hf : Region.free md ops listed i = true) (hr : (Region.ready md ops listed).contains i = true)
    (hQ : ∀ c a w, Q (.panic c) (a.put oi.dst v) w → Q (.panic c) a w) (hC : (!(C.contains i) && (C.any fun c => Region.waitsFor md ops c i) && waitB md ops C listed i) = true) (hS : S w) (hy : YieldsIf P ops S oi v a)
    (h : wpAnyT P md ops Q S C n (listed.setIfInBounds i true) (a.put oi.dst v) w) : wpAnyT P md ops Q S C (n + 1) listed a w := by
  simp only [Bool.and_eq_true, Bool.not_eq_true'] at hC
  obtain ⟨⟨h1, h2⟩, h3⟩ := hC
  obtain ⟨c, hc, hw⟩ := List.any_eq_true.1 h2
  exact wpAnyT_first hi (Region.noSelect_spec hs) hQ (by simpa using h1) (.inr ⟨fun _ h => h, c, hc, hw⟩) n listed a w (Region.free_spec hi hf) (by simpa using hr) hy (fun _ => hS) hS (waitB_spec h3) h

/-- An operation that yields its value in whatever world. -/
theorem wpAnyT_pure {i : Nat} {oi : Oper} {v : Value} {n : Nat} {listed : Array Bool} {a : Act} {w : World} (hi : ops[i]? = some oi)
    (hs : Region.noSelect ops = true) (hf : Region.free md ops listed i = true) (hr : (Region.ready md ops listed).contains i = true)
    (hQ : ∀ c a w, Q (.panic c) (a.put oi.dst v) w → Q (.panic c) a w) (hC : (!(C.contains i) && waitB md ops C listed i) = true) (hS : Pend C listed → S w) (hy : YieldsIf P ops (fun _ => True) oi v a)
    (h : wpAnyT P md ops Q S C n (listed.setIfInBounds i true) (a.put oi.dst v) w) : wpAnyT P md ops Q S C (n + 1) listed a w := by
  simp only [Bool.and_eq_true, Bool.not_eq_true'] at hC
  exact wpAnyT_first hi (Region.noSelect_spec hs) hQ (by simpa using hC.1) (.inl fun _ => trivial) n listed a w (Region.free_spec hi hf) (by simpa using hr) hy hS trivial (waitB_spec hC.2) h

/-- The one operation that may come up. -/
theorem wpAnyT_step {i : Nat} {o : Oper} {n : Nat} {listed : Array Bool} {a : Act} {w : World} (hr : Region.ready md ops listed = [i]) (ho : ops[i]? = some o) (hwt : Region.wanted o (yielded ops a.tmps) = true)
    (h : ∀ K' : Act → World → Prop, Shut (∀ a w, (Pend C (listed.setIfInBounds i true) → S w) → wpAnyT P md ops Q S C n (listed.setIfInBounds i true) a w → K' a w) → Oper.wp P o a w K' Q) :
    wpAnyT P md ops Q S C (n + 1) listed a w :=
  ⟨fun h0 => absurd (hr ▸ h0 : [i] = []) (by simp), by
    rw [hr]
    intro j hj
    simp only [List.mem_singleton] at hj
    subst hj
    refine wpOp_step ho (fun K' hK => ?_)
    rw [if_pos hwt]
    exact h K' (fun a w hS hW => hK a w ⟨hS, hW⟩)⟩

theorem wpAnyT_done {n : Nat} {listed : Array Bool} {a : Act} {w : World} (hr : Region.ready md ops listed = []) (h : Q .normal a w) : wpAnyT P md ops Q S C n listed a w := by
  cases n with
  | zero => exact ⟨hr, h⟩
  | succ n => exact ⟨fun _ => h, by rw [hr]; simp⟩

theorem wp_region_T {id : Nat} {a : Act} {w : World} (S : World → Prop) (C : List Nat) (hm : P.follows .mixedOrders = true)
    (h : wpAnyT P .any ops Q S C ops.size (Array.replicate ops.size false) a w.drew) : (Code.region id ops true).wp P Q a w :=
  wp_region_any hm (wpAny_of_T _ _ _ _ h)
end
end Go.Proofs.YtkplgggdidhnoaaGreatDoor
