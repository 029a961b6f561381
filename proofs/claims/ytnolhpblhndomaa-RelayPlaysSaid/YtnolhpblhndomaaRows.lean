/-
  No cell of these rows narrows 'for every input' (looked for: loops, veiled, ifaces, maps, wideKeys, modest, calm, conditions, laid).
  DERIVED. THE GIVEN ROWS OF THIS SEAT. 10 by the template 'for every input the law returns true; each argument reads behind the call as it read before'; 0 by the template 'total and deterministic' (their statements: YtnolhpblhndomaaTotals.lean).
  GIVEN WITH THE SEED: the statements are not yours to turn. If you find one false, say at which input.
  Laid BY PROGRAM, IN A SANDBOX (cutbox-rows.mjs): the forced cells as the released guide's own fill.sh prints them over the translation 3af5434d647d7fba… (all of the seat's roots in one cut). By AI agents, Wed Nov 11 2026. No macro, syntax, notation, axiom, sorry.
-/
import Derived.Test.YtnolhpblhndomaaChecked
import GoSem.Claim
import GoSem.ClaimJoined
import GoSem.ClaimMapViews
import Derived.JoinedTies
import Derived.KernelRfl
namespace Go.Proofs.Ytnolhpblhndomaa
/- THE CELL 'sum', in the pinned program and in every row, IS THE sha256 OF THE DUMP (.gsa) THAT YtnolhpblhndomaaProg.lean LOADS. Nothing in Lean hashes anything: it is a label: what it is worth is what the hold of that sum in a sandbox is worth. -/
noncomputable def Try.pinned : Pinned := { name := "ytnolhpblhndomaa", sum := "3af5434d647d7fba21243c922b70cffde76b972d3f4d0a10d551307dad46e749", checked := Try.checked }
namespace Rows
def none {H : Type} : Left H := { results := [], args := [] }

/-- 'pointsmanlaw10.RelayLets': WHATEVER THE INPUT: true; the input reads as it did. -/
def relayLetsSpec : ChangeSpec := { name := "relayLets", fn := fun _ => fun
  | [d1, d2] => { results := [.lit (.bool true)], args := [d1, d2] }
  | _ => none }
def relayLetsRow : OpenClaim := { program := "ytnolhpblhndomaa", sum := "3af5434d647d7fba21243c922b70cffde76b972d3f4d0a10d551307dad46e749", func := "pointsman/pointsmanlaw10.RelayLets", spec := "relayLets", apart := false }
def RelayLetsSaid : Prop := relayLetsRow.holds Try.pinned (OpenSpec.ofChange relayLetsSpec)

/-- ITS FALSE NEIGHBOUR: 'it returns false'. Refute it at one input. -/
def relayLetsWrong : ChangeSpec := { name := "relayLets", fn := fun _ => fun
  | [d1, d2] => { results := [.lit (.bool false)], args := [d1, d2] }
  | _ => none }
def RelayLetsWrongFalsely : Prop := relayLetsRow.holds Try.pinned (OpenSpec.ofChange relayLetsWrong)

/-- 'pointsmanlaw10.RelayCounts': WHATEVER THE INPUT: true; the input reads as it did. -/
def relayCountsSpec : ChangeSpec := { name := "relayCounts", fn := fun _ => fun
  | [d] => { results := [.lit (.bool true)], args := [d] }
  | _ => none }
def relayCountsRow : OpenClaim := { program := "ytnolhpblhndomaa", sum := "3af5434d647d7fba21243c922b70cffde76b972d3f4d0a10d551307dad46e749", func := "pointsman/pointsmanlaw10.RelayCounts", spec := "relayCounts", apart := false }
def RelayCountsSaid : Prop := relayCountsRow.holds Try.pinned (OpenSpec.ofChange relayCountsSpec)

/-- ITS FALSE NEIGHBOUR: 'it returns false'. Refute it at one input. -/
def relayCountsWrong : ChangeSpec := { name := "relayCounts", fn := fun _ => fun
  | [d] => { results := [.lit (.bool false)], args := [d] }
  | _ => none }
def RelayCountsWrongFalsely : Prop := relayCountsRow.holds Try.pinned (OpenSpec.ofChange relayCountsWrong)

/-- 'pointsmanlaw10.RelayBusy': WHATEVER THE INPUT: true; the input reads as it did. -/
def relayBusySpec : ChangeSpec := { name := "relayBusy", fn := fun _ => fun
  | [d] => { results := [.lit (.bool true)], args := [d] }
  | _ => none }
def relayBusyRow : OpenClaim := { program := "ytnolhpblhndomaa", sum := "3af5434d647d7fba21243c922b70cffde76b972d3f4d0a10d551307dad46e749", func := "pointsman/pointsmanlaw10.RelayBusy", spec := "relayBusy", apart := false }
def RelayBusySaid : Prop := relayBusyRow.holds Try.pinned (OpenSpec.ofChange relayBusySpec)

/-- ITS FALSE NEIGHBOUR: 'it returns false'. Refute it at one input. -/
def relayBusyWrong : ChangeSpec := { name := "relayBusy", fn := fun _ => fun
  | [d] => { results := [.lit (.bool false)], args := [d] }
  | _ => none }
def RelayBusyWrongFalsely : Prop := relayBusyRow.holds Try.pinned (OpenSpec.ofChange relayBusyWrong)

/-- 'pointsmanlaw10.RelayTurns': WHATEVER THE INPUT: true; the input reads as it did. -/
def relayTurnsSpec : ChangeSpec := { name := "relayTurns", fn := fun _ => fun
  | [d] => { results := [.lit (.bool true)], args := [d] }
  | _ => none }
def relayTurnsRow : OpenClaim := { program := "ytnolhpblhndomaa", sum := "3af5434d647d7fba21243c922b70cffde76b972d3f4d0a10d551307dad46e749", func := "pointsman/pointsmanlaw10.RelayTurns", spec := "relayTurns", apart := false }
def RelayTurnsSaid : Prop := relayTurnsRow.holds Try.pinned (OpenSpec.ofChange relayTurnsSpec)

/-- ITS FALSE NEIGHBOUR: 'it returns false'. Refute it at one input. -/
def relayTurnsWrong : ChangeSpec := { name := "relayTurns", fn := fun _ => fun
  | [d] => { results := [.lit (.bool false)], args := [d] }
  | _ => none }
def RelayTurnsWrongFalsely : Prop := relayTurnsRow.holds Try.pinned (OpenSpec.ofChange relayTurnsWrong)

/-- 'pointsmanlaw10.RelayOld': WHATEVER THE INPUT: true; the input reads as it did. -/
def relayOldSpec : ChangeSpec := { name := "relayOld", fn := fun _ => fun
  | [d1, d2] => { results := [.lit (.bool true)], args := [d1, d2] }
  | _ => none }
def relayOldRow : OpenClaim := { program := "ytnolhpblhndomaa", sum := "3af5434d647d7fba21243c922b70cffde76b972d3f4d0a10d551307dad46e749", func := "pointsman/pointsmanlaw10.RelayOld", spec := "relayOld", apart := false }
def RelayOldSaid : Prop := relayOldRow.holds Try.pinned (OpenSpec.ofChange relayOldSpec)

/-- ITS FALSE NEIGHBOUR: 'it returns false'. Refute it at one input. -/
def relayOldWrong : ChangeSpec := { name := "relayOld", fn := fun _ => fun
  | [d1, d2] => { results := [.lit (.bool false)], args := [d1, d2] }
  | _ => none }
def RelayOldWrongFalsely : Prop := relayOldRow.holds Try.pinned (OpenSpec.ofChange relayOldWrong)

/-- 'pointsmanlaw10.RelayYields': WHATEVER THE INPUT: true; the input reads as it did. -/
def relayYieldsSpec : ChangeSpec := { name := "relayYields", fn := fun _ => fun
  | [d1, d2] => { results := [.lit (.bool true)], args := [d1, d2] }
  | _ => none }
def relayYieldsRow : OpenClaim := { program := "ytnolhpblhndomaa", sum := "3af5434d647d7fba21243c922b70cffde76b972d3f4d0a10d551307dad46e749", func := "pointsman/pointsmanlaw10.RelayYields", spec := "relayYields", apart := false }
def RelayYieldsSaid : Prop := relayYieldsRow.holds Try.pinned (OpenSpec.ofChange relayYieldsSpec)

/-- ITS FALSE NEIGHBOUR: 'it returns false'. Refute it at one input. -/
def relayYieldsWrong : ChangeSpec := { name := "relayYields", fn := fun _ => fun
  | [d1, d2] => { results := [.lit (.bool false)], args := [d1, d2] }
  | _ => none }
def RelayYieldsWrongFalsely : Prop := relayYieldsRow.holds Try.pinned (OpenSpec.ofChange relayYieldsWrong)

/-- 'pointsmanlaw10.RelayPlays': WHATEVER THE INPUT: true; the input reads as it did. -/
def relayPlaysSpec : ChangeSpec := { name := "relayPlays", fn := fun _ => fun
  | [d] => { results := [.lit (.bool true)], args := [d] }
  | _ => none }
def relayPlaysRow : OpenClaim := { program := "ytnolhpblhndomaa", sum := "3af5434d647d7fba21243c922b70cffde76b972d3f4d0a10d551307dad46e749", func := "pointsman/pointsmanlaw10.RelayPlays", spec := "relayPlays", apart := false }
def RelayPlaysSaid : Prop := relayPlaysRow.holds Try.pinned (OpenSpec.ofChange relayPlaysSpec)

/-- ITS FALSE NEIGHBOUR: 'it returns false'. Refute it at one input. -/
def relayPlaysWrong : ChangeSpec := { name := "relayPlays", fn := fun _ => fun
  | [d] => { results := [.lit (.bool false)], args := [d] }
  | _ => none }
def RelayPlaysWrongFalsely : Prop := relayPlaysRow.holds Try.pinned (OpenSpec.ofChange relayPlaysWrong)

/-- 'pointsmanlaw10.RelayOne': WHATEVER THE INPUT: true; the input reads as it did. -/
def relayOneSpec : ChangeSpec := { name := "relayOne", fn := fun _ => fun
  | [d] => { results := [.lit (.bool true)], args := [d] }
  | _ => none }
def relayOneRow : OpenClaim := { program := "ytnolhpblhndomaa", sum := "3af5434d647d7fba21243c922b70cffde76b972d3f4d0a10d551307dad46e749", func := "pointsman/pointsmanlaw10.RelayOne", spec := "relayOne", apart := false }
def RelayOneSaid : Prop := relayOneRow.holds Try.pinned (OpenSpec.ofChange relayOneSpec)

/-- ITS FALSE NEIGHBOUR: 'it returns false'. Refute it at one input. -/
def relayOneWrong : ChangeSpec := { name := "relayOne", fn := fun _ => fun
  | [d] => { results := [.lit (.bool false)], args := [d] }
  | _ => none }
def RelayOneWrongFalsely : Prop := relayOneRow.holds Try.pinned (OpenSpec.ofChange relayOneWrong)

/-- 'pointsmanlaw10.RelayOfNothing': WHATEVER THE INPUT: true; the input reads as it did. -/
def relayOfNothingSpec : ChangeSpec := { name := "relayOfNothing", fn := fun _ => fun
  | [d1, d2] => { results := [.lit (.bool true)], args := [d1, d2] }
  | _ => none }
def relayOfNothingRow : OpenClaim := { program := "ytnolhpblhndomaa", sum := "3af5434d647d7fba21243c922b70cffde76b972d3f4d0a10d551307dad46e749", func := "pointsman/pointsmanlaw10.RelayOfNothing", spec := "relayOfNothing", apart := false }
def RelayOfNothingSaid : Prop := relayOfNothingRow.holds Try.pinned (OpenSpec.ofChange relayOfNothingSpec)

/-- ITS FALSE NEIGHBOUR: 'it returns false'. Refute it at one input. -/
def relayOfNothingWrong : ChangeSpec := { name := "relayOfNothing", fn := fun _ => fun
  | [d1, d2] => { results := [.lit (.bool false)], args := [d1, d2] }
  | _ => none }
def RelayOfNothingWrongFalsely : Prop := relayOfNothingRow.holds Try.pinned (OpenSpec.ofChange relayOfNothingWrong)

/-- 'pointsmanlaw10.RelayRises': WHATEVER THE INPUT: true; the input reads as it did. -/
def relayRisesSpec : ChangeSpec := { name := "relayRises", fn := fun _ => fun
  | [d] => { results := [.lit (.bool true)], args := [d] }
  | _ => none }
def relayRisesRow : OpenClaim := { program := "ytnolhpblhndomaa", sum := "3af5434d647d7fba21243c922b70cffde76b972d3f4d0a10d551307dad46e749", func := "pointsman/pointsmanlaw10.RelayRises", spec := "relayRises", apart := false }
def RelayRisesSaid : Prop := relayRisesRow.holds Try.pinned (OpenSpec.ofChange relayRisesSpec)

/-- ITS FALSE NEIGHBOUR: 'it returns false'. Refute it at one input. -/
def relayRisesWrong : ChangeSpec := { name := "relayRises", fn := fun _ => fun
  | [d] => { results := [.lit (.bool false)], args := [d] }
  | _ => none }
def RelayRisesWrongFalsely : Prop := relayRisesRow.holds Try.pinned (OpenSpec.ofChange relayRisesWrong)

/- THE SECOND FORM. 'bulk': how many values and letters a reading holds, each counted each time it is reached (what is shared counts as often as it is met; a slice's spare places count too). A statement '..UptoSaid' is the law's where the arguments, and the package variables that the reading takes, are together of bulk at most 1048576: NARROWER than '..Said'. Prove '..Said' where nothing that the law and all that it calls make is longer than what came in: it says more and counts as full. Else prove '..UptoSaid'. A law counts once. -/
mutual
def uptoBulk {H : Type} : DataW H → Nat
  | .lit (.string bytes) => bytes.length + 1
  | .lit _ => 1
  | .nil => 1
  | .ptr d => uptoBulk d + 1
  | .slice elems spare => uptoBulkAll elems + uptoBulkAll spare + 1
  | .agg parts => uptoBulkAll parts + 1
  | .iface _ d => uptoBulk d + 1
  | .map entries => uptoBulkEntries entries + 1
  | .held _ => 1
def uptoBulkAll {H : Type} : List (DataW H) → Nat
  | [] => 0
  | d :: r => uptoBulk d + uptoBulkAll r
def uptoBulkEntries {H : Type} : List (Lit × DataW H) → Nat
  | [] => 0
  | x :: r => uptoBulkEntry x + uptoBulkEntries r
def uptoBulkEntry {H : Type} : Lit × DataW H → Nat
  | (.string bytes, d) => bytes.length + uptoBulk d + 1
  | (_, d) => uptoBulk d + 1
 end
def uptoSmall : (H : Type) → List (DataW H) → Bool := fun _ ds => decide (uptoBulkAll ds ≤ 1048576)
def OpenSpec.upto (s : _root_.Go.ChangeSpec) : _root_.Go.OpenSpec := { _root_.Go.OpenSpec.ofChange s with cond := some uptoSmall }

/-- 'pointsmanlaw10.RelayLets', WHERE WHAT IT READS IS OF BULK AT MOST 1048576: true; the input reads as it did. -/
def relayLetsUptoRow : OpenClaim := { program := "ytnolhpblhndomaa", sum := "3af5434d647d7fba21243c922b70cffde76b972d3f4d0a10d551307dad46e749", func := "pointsman/pointsmanlaw10.RelayLets", spec := "relayLets", apart := false, narrowed := true }
def RelayLetsUptoSaid : Prop := relayLetsUptoRow.holds Try.pinned (OpenSpec.upto relayLetsSpec)

/-- 'pointsmanlaw10.RelayCounts', WHERE WHAT IT READS IS OF BULK AT MOST 1048576: true; the input reads as it did. -/
def relayCountsUptoRow : OpenClaim := { program := "ytnolhpblhndomaa", sum := "3af5434d647d7fba21243c922b70cffde76b972d3f4d0a10d551307dad46e749", func := "pointsman/pointsmanlaw10.RelayCounts", spec := "relayCounts", apart := false, narrowed := true }
def RelayCountsUptoSaid : Prop := relayCountsUptoRow.holds Try.pinned (OpenSpec.upto relayCountsSpec)

/-- 'pointsmanlaw10.RelayBusy', WHERE WHAT IT READS IS OF BULK AT MOST 1048576: true; the input reads as it did. -/
def relayBusyUptoRow : OpenClaim := { program := "ytnolhpblhndomaa", sum := "3af5434d647d7fba21243c922b70cffde76b972d3f4d0a10d551307dad46e749", func := "pointsman/pointsmanlaw10.RelayBusy", spec := "relayBusy", apart := false, narrowed := true }
def RelayBusyUptoSaid : Prop := relayBusyUptoRow.holds Try.pinned (OpenSpec.upto relayBusySpec)

/-- 'pointsmanlaw10.RelayTurns', WHERE WHAT IT READS IS OF BULK AT MOST 1048576: true; the input reads as it did. -/
def relayTurnsUptoRow : OpenClaim := { program := "ytnolhpblhndomaa", sum := "3af5434d647d7fba21243c922b70cffde76b972d3f4d0a10d551307dad46e749", func := "pointsman/pointsmanlaw10.RelayTurns", spec := "relayTurns", apart := false, narrowed := true }
def RelayTurnsUptoSaid : Prop := relayTurnsUptoRow.holds Try.pinned (OpenSpec.upto relayTurnsSpec)

/-- 'pointsmanlaw10.RelayOld', WHERE WHAT IT READS IS OF BULK AT MOST 1048576: true; the input reads as it did. -/
def relayOldUptoRow : OpenClaim := { program := "ytnolhpblhndomaa", sum := "3af5434d647d7fba21243c922b70cffde76b972d3f4d0a10d551307dad46e749", func := "pointsman/pointsmanlaw10.RelayOld", spec := "relayOld", apart := false, narrowed := true }
def RelayOldUptoSaid : Prop := relayOldUptoRow.holds Try.pinned (OpenSpec.upto relayOldSpec)

/-- 'pointsmanlaw10.RelayYields', WHERE WHAT IT READS IS OF BULK AT MOST 1048576: true; the input reads as it did. -/
def relayYieldsUptoRow : OpenClaim := { program := "ytnolhpblhndomaa", sum := "3af5434d647d7fba21243c922b70cffde76b972d3f4d0a10d551307dad46e749", func := "pointsman/pointsmanlaw10.RelayYields", spec := "relayYields", apart := false, narrowed := true }
def RelayYieldsUptoSaid : Prop := relayYieldsUptoRow.holds Try.pinned (OpenSpec.upto relayYieldsSpec)

/-- 'pointsmanlaw10.RelayPlays', WHERE WHAT IT READS IS OF BULK AT MOST 1048576: true; the input reads as it did. -/
def relayPlaysUptoRow : OpenClaim := { program := "ytnolhpblhndomaa", sum := "3af5434d647d7fba21243c922b70cffde76b972d3f4d0a10d551307dad46e749", func := "pointsman/pointsmanlaw10.RelayPlays", spec := "relayPlays", apart := false, narrowed := true }
def RelayPlaysUptoSaid : Prop := relayPlaysUptoRow.holds Try.pinned (OpenSpec.upto relayPlaysSpec)

/-- 'pointsmanlaw10.RelayOne', WHERE WHAT IT READS IS OF BULK AT MOST 1048576: true; the input reads as it did. -/
def relayOneUptoRow : OpenClaim := { program := "ytnolhpblhndomaa", sum := "3af5434d647d7fba21243c922b70cffde76b972d3f4d0a10d551307dad46e749", func := "pointsman/pointsmanlaw10.RelayOne", spec := "relayOne", apart := false, narrowed := true }
def RelayOneUptoSaid : Prop := relayOneUptoRow.holds Try.pinned (OpenSpec.upto relayOneSpec)

/-- 'pointsmanlaw10.RelayOfNothing', WHERE WHAT IT READS IS OF BULK AT MOST 1048576: true; the input reads as it did. -/
def relayOfNothingUptoRow : OpenClaim := { program := "ytnolhpblhndomaa", sum := "3af5434d647d7fba21243c922b70cffde76b972d3f4d0a10d551307dad46e749", func := "pointsman/pointsmanlaw10.RelayOfNothing", spec := "relayOfNothing", apart := false, narrowed := true }
def RelayOfNothingUptoSaid : Prop := relayOfNothingUptoRow.holds Try.pinned (OpenSpec.upto relayOfNothingSpec)

/-- 'pointsmanlaw10.RelayRises', WHERE WHAT IT READS IS OF BULK AT MOST 1048576: true; the input reads as it did. -/
def relayRisesUptoRow : OpenClaim := { program := "ytnolhpblhndomaa", sum := "3af5434d647d7fba21243c922b70cffde76b972d3f4d0a10d551307dad46e749", func := "pointsman/pointsmanlaw10.RelayRises", spec := "relayRises", apart := false, narrowed := true }
def RelayRisesUptoSaid : Prop := relayRisesUptoRow.holds Try.pinned (OpenSpec.upto relayRisesSpec)

end Rows
end Go.Proofs.Ytnolhpblhndomaa
