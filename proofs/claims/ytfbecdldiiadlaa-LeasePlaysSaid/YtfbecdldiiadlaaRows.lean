/-
  No cell of these rows narrows 'for every input' (looked for: loops, veiled, ifaces, maps, wideKeys, modest, calm, conditions, laid).
  DERIVED. THE GIVEN ROWS OF THIS SEAT. 5 by the template 'for every input the law returns true; each argument reads behind the call as it read before'; 0 by the template 'total and deterministic' (their statements: YtfbecdldiiadlaaTotals.lean).
  GIVEN WITH THE SEED: the statements are not yours to turn. If you find one false, say at which input.
  Laid BY PROGRAM, IN A SANDBOX (cutbox-rows.mjs): the forced cells as the released guide's own fill.sh prints them over the translation df6c066f77dbcb7c… (all of the seat's roots in one cut). By AI agents, Wed Nov 11 2026. No macro, syntax, notation, axiom, sorry.
-/
import Derived.Test.YtfbecdldiiadlaaChecked
import GoSem.Claim
import GoSem.ClaimJoined
import GoSem.ClaimMapViews
import Derived.JoinedTies
import Derived.KernelRfl
namespace Go.Proofs.Ytfbecdldiiadlaa
/- THE CELL 'sum', in the pinned program and in every row, IS THE sha256 OF THE DUMP (.gsa) THAT YtfbecdldiiadlaaProg.lean LOADS. Nothing in Lean hashes anything: it is a label: what it is worth is what the hold of that sum in a sandbox is worth. -/
noncomputable def Try.pinned : Pinned := { name := "ytfbecdldiiadlaa", sum := "df6c066f77dbcb7c65ac6826252a74bae3e8f1ccd99096811c6870a234a978e3", checked := Try.checked }
namespace Rows
def none {H : Type} : Left H := { results := [], args := [] }

/-- 'pointsmanlaw11.LeaseMargin': WHATEVER THE INPUT: true; the input reads as it did. -/
def leaseMarginSpec : ChangeSpec := { name := "leaseMargin", fn := fun _ => fun
  | [d1, d2] => { results := [.lit (.bool true)], args := [d1, d2] }
  | _ => none }
def leaseMarginRow : OpenClaim := { program := "ytfbecdldiiadlaa", sum := "df6c066f77dbcb7c65ac6826252a74bae3e8f1ccd99096811c6870a234a978e3", func := "pointsman/pointsmanlaw11.LeaseMargin", spec := "leaseMargin", apart := false }
def LeaseMarginSaid : Prop := leaseMarginRow.holds Try.pinned (OpenSpec.ofChange leaseMarginSpec)

/-- ITS FALSE NEIGHBOUR: 'it returns false'. Refute it at one input. -/
def leaseMarginWrong : ChangeSpec := { name := "leaseMargin", fn := fun _ => fun
  | [d1, d2] => { results := [.lit (.bool false)], args := [d1, d2] }
  | _ => none }
def LeaseMarginWrongFalsely : Prop := leaseMarginRow.holds Try.pinned (OpenSpec.ofChange leaseMarginWrong)

/-- 'pointsmanlaw11.LeasePlays': WHATEVER THE INPUT: true; the input reads as it did. -/
def leasePlaysSpec : ChangeSpec := { name := "leasePlays", fn := fun _ => fun
  | [d1, d2] => { results := [.lit (.bool true)], args := [d1, d2] }
  | _ => none }
def leasePlaysRow : OpenClaim := { program := "ytfbecdldiiadlaa", sum := "df6c066f77dbcb7c65ac6826252a74bae3e8f1ccd99096811c6870a234a978e3", func := "pointsman/pointsmanlaw11.LeasePlays", spec := "leasePlays", apart := false }
def LeasePlaysSaid : Prop := leasePlaysRow.holds Try.pinned (OpenSpec.ofChange leasePlaysSpec)

/-- ITS FALSE NEIGHBOUR: 'it returns false'. Refute it at one input. -/
def leasePlaysWrong : ChangeSpec := { name := "leasePlays", fn := fun _ => fun
  | [d1, d2] => { results := [.lit (.bool false)], args := [d1, d2] }
  | _ => none }
def LeasePlaysWrongFalsely : Prop := leasePlaysRow.holds Try.pinned (OpenSpec.ofChange leasePlaysWrong)

/-- 'pointsmanlaw11.LeaseEnds': WHATEVER THE INPUT: true; the input reads as it did. -/
def leaseEndsSpec : ChangeSpec := { name := "leaseEnds", fn := fun _ => fun
  | [d1, d2] => { results := [.lit (.bool true)], args := [d1, d2] }
  | _ => none }
def leaseEndsRow : OpenClaim := { program := "ytfbecdldiiadlaa", sum := "df6c066f77dbcb7c65ac6826252a74bae3e8f1ccd99096811c6870a234a978e3", func := "pointsman/pointsmanlaw11.LeaseEnds", spec := "leaseEnds", apart := false }
def LeaseEndsSaid : Prop := leaseEndsRow.holds Try.pinned (OpenSpec.ofChange leaseEndsSpec)

/-- ITS FALSE NEIGHBOUR: 'it returns false'. Refute it at one input. -/
def leaseEndsWrong : ChangeSpec := { name := "leaseEnds", fn := fun _ => fun
  | [d1, d2] => { results := [.lit (.bool false)], args := [d1, d2] }
  | _ => none }
def LeaseEndsWrongFalsely : Prop := leaseEndsRow.holds Try.pinned (OpenSpec.ofChange leaseEndsWrong)

/-- 'pointsmanlaw11.LeaseOfNothing': WHATEVER THE INPUT: true; the input reads as it did. -/
def leaseOfNothingSpec : ChangeSpec := { name := "leaseOfNothing", fn := fun _ => fun
  | [d] => { results := [.lit (.bool true)], args := [d] }
  | _ => none }
def leaseOfNothingRow : OpenClaim := { program := "ytfbecdldiiadlaa", sum := "df6c066f77dbcb7c65ac6826252a74bae3e8f1ccd99096811c6870a234a978e3", func := "pointsman/pointsmanlaw11.LeaseOfNothing", spec := "leaseOfNothing", apart := false }
def LeaseOfNothingSaid : Prop := leaseOfNothingRow.holds Try.pinned (OpenSpec.ofChange leaseOfNothingSpec)

/-- ITS FALSE NEIGHBOUR: 'it returns false'. Refute it at one input. -/
def leaseOfNothingWrong : ChangeSpec := { name := "leaseOfNothing", fn := fun _ => fun
  | [d] => { results := [.lit (.bool false)], args := [d] }
  | _ => none }
def LeaseOfNothingWrongFalsely : Prop := leaseOfNothingRow.holds Try.pinned (OpenSpec.ofChange leaseOfNothingWrong)

/-- 'pointsmanlaw11.LeaseEpochs': WHATEVER THE INPUT: true; the input reads as it did. -/
def leaseEpochsSpec : ChangeSpec := { name := "leaseEpochs", fn := fun _ => fun
  | [d1, d2] => { results := [.lit (.bool true)], args := [d1, d2] }
  | _ => none }
def leaseEpochsRow : OpenClaim := { program := "ytfbecdldiiadlaa", sum := "df6c066f77dbcb7c65ac6826252a74bae3e8f1ccd99096811c6870a234a978e3", func := "pointsman/pointsmanlaw11.LeaseEpochs", spec := "leaseEpochs", apart := false }
def LeaseEpochsSaid : Prop := leaseEpochsRow.holds Try.pinned (OpenSpec.ofChange leaseEpochsSpec)

/-- ITS FALSE NEIGHBOUR: 'it returns false'. Refute it at one input. -/
def leaseEpochsWrong : ChangeSpec := { name := "leaseEpochs", fn := fun _ => fun
  | [d1, d2] => { results := [.lit (.bool false)], args := [d1, d2] }
  | _ => none }
def LeaseEpochsWrongFalsely : Prop := leaseEpochsRow.holds Try.pinned (OpenSpec.ofChange leaseEpochsWrong)

/- THE SECOND FORM. 'bulk': how many values and letters a reading holds, each counted each time it is reached (what is shared counts as often as it is met; a slice's spare places count too). A statement '..UptoSaid' is the law's where the arguments, and the package variables that the reading takes, are together of bulk at most 1048576: NARROWER than '..Said'. Prove '..Said' where nothing that the law and all that it calls make is longer than what came in: it says more and counts as full. Else prove '..UptoSaid'. A law counts once. -/
mutual
def uptoBulk {H : Type} : DataW H → Nat
  | .lit (.string bytes) => bytes.length + 1
  | .lit _ => 1
  | .nil => 1
  | .ptr d => uptoBulk d + 1
  | .slice elems spare => uptoBulkAll elems + uptoBulkAll spare + 1
  | .agg parts => uptoBulkAll parts + 1
  | .iface _ d => uptoBulk d + 1
  | .map entries => uptoBulkEntries entries + 1
  | .held _ => 1
def uptoBulkAll {H : Type} : List (DataW H) → Nat
  | [] => 0
  | d :: r => uptoBulk d + uptoBulkAll r
def uptoBulkEntries {H : Type} : List (Lit × DataW H) → Nat
  | [] => 0
  | x :: r => uptoBulkEntry x + uptoBulkEntries r
def uptoBulkEntry {H : Type} : Lit × DataW H → Nat
  | (.string bytes, d) => bytes.length + uptoBulk d + 1
  | (_, d) => uptoBulk d + 1
 end
def uptoSmall : (H : Type) → List (DataW H) → Bool := fun _ ds => decide (uptoBulkAll ds ≤ 1048576)
def OpenSpec.upto (s : _root_.Go.ChangeSpec) : _root_.Go.OpenSpec := { _root_.Go.OpenSpec.ofChange s with cond := some uptoSmall }

/-- 'pointsmanlaw11.LeaseMargin', WHERE WHAT IT READS IS OF BULK AT MOST 1048576: true; the input reads as it did. -/
def leaseMarginUptoRow : OpenClaim := { program := "ytfbecdldiiadlaa", sum := "df6c066f77dbcb7c65ac6826252a74bae3e8f1ccd99096811c6870a234a978e3", func := "pointsman/pointsmanlaw11.LeaseMargin", spec := "leaseMargin", apart := false, narrowed := true }
def LeaseMarginUptoSaid : Prop := leaseMarginUptoRow.holds Try.pinned (OpenSpec.upto leaseMarginSpec)

/-- 'pointsmanlaw11.LeasePlays', WHERE WHAT IT READS IS OF BULK AT MOST 1048576: true; the input reads as it did. -/
def leasePlaysUptoRow : OpenClaim := { program := "ytfbecdldiiadlaa", sum := "df6c066f77dbcb7c65ac6826252a74bae3e8f1ccd99096811c6870a234a978e3", func := "pointsman/pointsmanlaw11.LeasePlays", spec := "leasePlays", apart := false, narrowed := true }
def LeasePlaysUptoSaid : Prop := leasePlaysUptoRow.holds Try.pinned (OpenSpec.upto leasePlaysSpec)

/-- 'pointsmanlaw11.LeaseEnds', WHERE WHAT IT READS IS OF BULK AT MOST 1048576: true; the input reads as it did. -/
def leaseEndsUptoRow : OpenClaim := { program := "ytfbecdldiiadlaa", sum := "df6c066f77dbcb7c65ac6826252a74bae3e8f1ccd99096811c6870a234a978e3", func := "pointsman/pointsmanlaw11.LeaseEnds", spec := "leaseEnds", apart := false, narrowed := true }
def LeaseEndsUptoSaid : Prop := leaseEndsUptoRow.holds Try.pinned (OpenSpec.upto leaseEndsSpec)

/-- 'pointsmanlaw11.LeaseOfNothing', WHERE WHAT IT READS IS OF BULK AT MOST 1048576: true; the input reads as it did. -/
def leaseOfNothingUptoRow : OpenClaim := { program := "ytfbecdldiiadlaa", sum := "df6c066f77dbcb7c65ac6826252a74bae3e8f1ccd99096811c6870a234a978e3", func := "pointsman/pointsmanlaw11.LeaseOfNothing", spec := "leaseOfNothing", apart := false, narrowed := true }
def LeaseOfNothingUptoSaid : Prop := leaseOfNothingUptoRow.holds Try.pinned (OpenSpec.upto leaseOfNothingSpec)

/-- 'pointsmanlaw11.LeaseEpochs', WHERE WHAT IT READS IS OF BULK AT MOST 1048576: true; the input reads as it did. -/
def leaseEpochsUptoRow : OpenClaim := { program := "ytfbecdldiiadlaa", sum := "df6c066f77dbcb7c65ac6826252a74bae3e8f1ccd99096811c6870a234a978e3", func := "pointsman/pointsmanlaw11.LeaseEpochs", spec := "leaseEpochs", apart := false, narrowed := true }
def LeaseEpochsUptoSaid : Prop := leaseEpochsUptoRow.holds Try.pinned (OpenSpec.upto leaseEpochsSpec)

end Rows
end Go.Proofs.Ytfbecdldiiadlaa
