/-
  No cell of these rows narrows 'for every input' (looked for: loops, veiled, ifaces, maps, wideKeys, modest, calm, conditions, laid).
  DERIVED. THE GIVEN ROWS OF THIS SEAT. 7 by the template 'for every input the law returns true; each argument reads behind the call as it read before'; 0 by the template 'total and deterministic' (their statements: YtnbekifcajmdkaaTotals.lean).
  GIVEN WITH THE SEED: the statements are not yours to turn. If you find one false, say at which input.
  Laid BY PROGRAM, IN A SANDBOX (cutbox-rows.mjs): the forced cells as the released guide's own fill.sh prints them over the translation 1f88abf4af07f48e… (all of the seat's roots in one cut). By AI agents, Wed Nov 11 2026. No macro, syntax, notation, axiom, sorry.
-/
import Derived.Test.YtnbekifcajmdkaaChecked
import GoSem.Claim
import GoSem.ClaimJoined
import GoSem.ClaimMapViews
import Derived.JoinedTies
import Derived.KernelRfl
namespace Go.Proofs.Ytnbekifcajmdkaa
/- THE CELL 'sum', in the pinned program and in every row, IS THE sha256 OF THE DUMP (.gsa) THAT YtnbekifcajmdkaaProg.lean LOADS. Nothing in Lean hashes anything: it is a label: what it is worth is what the hold of that sum in a sandbox is worth. -/
noncomputable def Try.pinned : Pinned := { name := "ytnbekifcajmdkaa", sum := "1f88abf4af07f48e443f8c534eb22df761ee4505f9076e853f7f39e57048d3ad", checked := Try.checked }
namespace Rows
def none {H : Type} : Left H := { results := [], args := [] }

/-- 'hamperlaw03.RsNames': WHATEVER THE INPUT: true; the input reads as it did. -/
def rsNamesSpec : ChangeSpec := { name := "rsNames", fn := fun _ => fun
  | [] => { results := [.lit (.bool true)], args := [] }
  | _ => none }
def rsNamesRow : OpenClaim := { program := "ytnbekifcajmdkaa", sum := "1f88abf4af07f48e443f8c534eb22df761ee4505f9076e853f7f39e57048d3ad", func := "hamper/hamperlaw03.RsNames", spec := "rsNames", unfollowed := true, recurses := true, apart := false }
def RsNamesSaid : Prop := rsNamesRow.holds Try.pinned (OpenSpec.ofChange rsNamesSpec)

/-- ITS FALSE NEIGHBOUR: 'it returns false'. Refute it at one input. -/
def rsNamesWrong : ChangeSpec := { name := "rsNames", fn := fun _ => fun
  | [] => { results := [.lit (.bool false)], args := [] }
  | _ => none }
def RsNamesWrongFalsely : Prop := rsNamesRow.holds Try.pinned (OpenSpec.ofChange rsNamesWrong)

/-- 'hamperlaw03.RsChecks': WHATEVER THE INPUT: true; the input reads as it did. -/
def rsChecksSpec : ChangeSpec := { name := "rsChecks", fn := fun _ => fun
  | [d1, d2] => { results := [.lit (.bool true)], args := [d1, d2] }
  | _ => none }
def rsChecksRow : OpenClaim := { program := "ytnbekifcajmdkaa", sum := "1f88abf4af07f48e443f8c534eb22df761ee4505f9076e853f7f39e57048d3ad", func := "hamper/hamperlaw03.RsChecks", spec := "rsChecks", unfollowed := true, recurses := true, apart := false }
def RsChecksSaid : Prop := rsChecksRow.holds Try.pinned (OpenSpec.ofChange rsChecksSpec)

/-- ITS FALSE NEIGHBOUR: 'it returns false'. Refute it at one input. -/
def rsChecksWrong : ChangeSpec := { name := "rsChecks", fn := fun _ => fun
  | [d1, d2] => { results := [.lit (.bool false)], args := [d1, d2] }
  | _ => none }
def RsChecksWrongFalsely : Prop := rsChecksRow.holds Try.pinned (OpenSpec.ofChange rsChecksWrong)

/-- 'hamperlaw03.RsRight': WHATEVER THE INPUT: true; the input reads as it did. -/
def rsRightSpec : ChangeSpec := { name := "rsRight", fn := fun _ => fun
  | [d1, d2, d3, d4] => { results := [.lit (.bool true)], args := [d1, d2, d3, d4] }
  | _ => none }
def rsRightRow : OpenClaim := { program := "ytnbekifcajmdkaa", sum := "1f88abf4af07f48e443f8c534eb22df761ee4505f9076e853f7f39e57048d3ad", func := "hamper/hamperlaw03.RsRight", spec := "rsRight", unfollowed := true, recurses := true, apart := false }
def RsRightSaid : Prop := rsRightRow.holds Try.pinned (OpenSpec.ofChange rsRightSpec)

/-- ITS FALSE NEIGHBOUR: 'it returns false'. Refute it at one input. -/
def rsRightWrong : ChangeSpec := { name := "rsRight", fn := fun _ => fun
  | [d1, d2, d3, d4] => { results := [.lit (.bool false)], args := [d1, d2, d3, d4] }
  | _ => none }
def RsRightWrongFalsely : Prop := rsRightRow.holds Try.pinned (OpenSpec.ofChange rsRightWrong)

/-- 'hamperlaw03.RsApart': WHATEVER THE INPUT: true; the input reads as it did. -/
def rsApartSpec : ChangeSpec := { name := "rsApart", fn := fun _ => fun
  | [d1, d2, d3, d4] => { results := [.lit (.bool true)], args := [d1, d2, d3, d4] }
  | _ => none }
def rsApartRow : OpenClaim := { program := "ytnbekifcajmdkaa", sum := "1f88abf4af07f48e443f8c534eb22df761ee4505f9076e853f7f39e57048d3ad", func := "hamper/hamperlaw03.RsApart", spec := "rsApart", unfollowed := true, recurses := true, apart := false }
def RsApartSaid : Prop := rsApartRow.holds Try.pinned (OpenSpec.ofChange rsApartSpec)

/-- ITS FALSE NEIGHBOUR: 'it returns false'. Refute it at one input. -/
def rsApartWrong : ChangeSpec := { name := "rsApart", fn := fun _ => fun
  | [d1, d2, d3, d4] => { results := [.lit (.bool false)], args := [d1, d2, d3, d4] }
  | _ => none }
def RsApartWrongFalsely : Prop := rsApartRow.holds Try.pinned (OpenSpec.ofChange rsApartWrong)

/-- 'hamperlaw03.RsAhead': WHATEVER THE INPUT: true; the input reads as it did. -/
def rsAheadSpec : ChangeSpec := { name := "rsAhead", fn := fun _ => fun
  | [d1, d2, d3] => { results := [.lit (.bool true)], args := [d1, d2, d3] }
  | _ => none }
def rsAheadRow : OpenClaim := { program := "ytnbekifcajmdkaa", sum := "1f88abf4af07f48e443f8c534eb22df761ee4505f9076e853f7f39e57048d3ad", func := "hamper/hamperlaw03.RsAhead", spec := "rsAhead", unfollowed := true, recurses := true, apart := false }
def RsAheadSaid : Prop := rsAheadRow.holds Try.pinned (OpenSpec.ofChange rsAheadSpec)

/-- ITS FALSE NEIGHBOUR: 'it returns false'. Refute it at one input. -/
def rsAheadWrong : ChangeSpec := { name := "rsAhead", fn := fun _ => fun
  | [d1, d2, d3] => { results := [.lit (.bool false)], args := [d1, d2, d3] }
  | _ => none }
def RsAheadWrongFalsely : Prop := rsAheadRow.holds Try.pinned (OpenSpec.ofChange rsAheadWrong)

/-- 'hamperlaw03.RsFewer': WHATEVER THE INPUT: true; the input reads as it did. -/
def rsFewerSpec : ChangeSpec := { name := "rsFewer", fn := fun _ => fun
  | [d1, d2, d3, d4] => { results := [.lit (.bool true)], args := [d1, d2, d3, d4] }
  | _ => none }
def rsFewerRow : OpenClaim := { program := "ytnbekifcajmdkaa", sum := "1f88abf4af07f48e443f8c534eb22df761ee4505f9076e853f7f39e57048d3ad", func := "hamper/hamperlaw03.RsFewer", spec := "rsFewer", unfollowed := true, recurses := true, apart := false }
def RsFewerSaid : Prop := rsFewerRow.holds Try.pinned (OpenSpec.ofChange rsFewerSpec)

/-- ITS FALSE NEIGHBOUR: 'it returns false'. Refute it at one input. -/
def rsFewerWrong : ChangeSpec := { name := "rsFewer", fn := fun _ => fun
  | [d1, d2, d3, d4] => { results := [.lit (.bool false)], args := [d1, d2, d3, d4] }
  | _ => none }
def RsFewerWrongFalsely : Prop := rsFewerRow.holds Try.pinned (OpenSpec.ofChange rsFewerWrong)

/-- 'hamperlaw03.RsOne': WHATEVER THE INPUT: true; the input reads as it did. -/
def rsOneSpec : ChangeSpec := { name := "rsOne", fn := fun _ => fun
  | [d1, d2, d3, d4] => { results := [.lit (.bool true)], args := [d1, d2, d3, d4] }
  | _ => none }
def rsOneRow : OpenClaim := { program := "ytnbekifcajmdkaa", sum := "1f88abf4af07f48e443f8c534eb22df761ee4505f9076e853f7f39e57048d3ad", func := "hamper/hamperlaw03.RsOne", spec := "rsOne", unfollowed := true, recurses := true, apart := false }
def RsOneSaid : Prop := rsOneRow.holds Try.pinned (OpenSpec.ofChange rsOneSpec)

/-- ITS FALSE NEIGHBOUR: 'it returns false'. Refute it at one input. -/
def rsOneWrong : ChangeSpec := { name := "rsOne", fn := fun _ => fun
  | [d1, d2, d3, d4] => { results := [.lit (.bool false)], args := [d1, d2, d3, d4] }
  | _ => none }
def RsOneWrongFalsely : Prop := rsOneRow.holds Try.pinned (OpenSpec.ofChange rsOneWrong)

/- THE SECOND FORM. 'bulk': how many values and letters a reading holds, each counted each time it is reached (what is shared counts as often as it is met; a slice's spare places count too). A statement '..UptoSaid' is the law's where the arguments, and the package variables that the reading takes, are together of bulk at most 1048576: NARROWER than '..Said'. Prove '..Said' where nothing that the law and all that it calls make is longer than what came in: it says more and counts as full. Else prove '..UptoSaid'. A law counts once. -/
mutual
def uptoBulk {H : Type} : DataW H → Nat
  | .lit (.string bytes) => bytes.length + 1
  | .lit _ => 1
  | .nil => 1
  | .ptr d => uptoBulk d + 1
  | .slice elems spare => uptoBulkAll elems + uptoBulkAll spare + 1
  | .agg parts => uptoBulkAll parts + 1
  | .iface _ d => uptoBulk d + 1
  | .map entries => uptoBulkEntries entries + 1
  | .held _ => 1
def uptoBulkAll {H : Type} : List (DataW H) → Nat
  | [] => 0
  | d :: r => uptoBulk d + uptoBulkAll r
def uptoBulkEntries {H : Type} : List (Lit × DataW H) → Nat
  | [] => 0
  | x :: r => uptoBulkEntry x + uptoBulkEntries r
def uptoBulkEntry {H : Type} : Lit × DataW H → Nat
  | (.string bytes, d) => bytes.length + uptoBulk d + 1
  | (_, d) => uptoBulk d + 1
 end
def uptoSmall : (H : Type) → List (DataW H) → Bool := fun _ ds => decide (uptoBulkAll ds ≤ 1048576)
def OpenSpec.upto (s : _root_.Go.ChangeSpec) : _root_.Go.OpenSpec := { _root_.Go.OpenSpec.ofChange s with cond := some uptoSmall }

/-- 'hamperlaw03.RsNames', WHERE WHAT IT READS IS OF BULK AT MOST 1048576: true; the input reads as it did. -/
def rsNamesUptoRow : OpenClaim := { program := "ytnbekifcajmdkaa", sum := "1f88abf4af07f48e443f8c534eb22df761ee4505f9076e853f7f39e57048d3ad", func := "hamper/hamperlaw03.RsNames", spec := "rsNames", unfollowed := true, recurses := true, apart := false, narrowed := true }
def RsNamesUptoSaid : Prop := rsNamesUptoRow.holds Try.pinned (OpenSpec.upto rsNamesSpec)

/-- 'hamperlaw03.RsChecks', WHERE WHAT IT READS IS OF BULK AT MOST 1048576: true; the input reads as it did. -/
def rsChecksUptoRow : OpenClaim := { program := "ytnbekifcajmdkaa", sum := "1f88abf4af07f48e443f8c534eb22df761ee4505f9076e853f7f39e57048d3ad", func := "hamper/hamperlaw03.RsChecks", spec := "rsChecks", unfollowed := true, recurses := true, apart := false, narrowed := true }
def RsChecksUptoSaid : Prop := rsChecksUptoRow.holds Try.pinned (OpenSpec.upto rsChecksSpec)

/-- 'hamperlaw03.RsRight', WHERE WHAT IT READS IS OF BULK AT MOST 1048576: true; the input reads as it did. -/
def rsRightUptoRow : OpenClaim := { program := "ytnbekifcajmdkaa", sum := "1f88abf4af07f48e443f8c534eb22df761ee4505f9076e853f7f39e57048d3ad", func := "hamper/hamperlaw03.RsRight", spec := "rsRight", unfollowed := true, recurses := true, apart := false, narrowed := true }
def RsRightUptoSaid : Prop := rsRightUptoRow.holds Try.pinned (OpenSpec.upto rsRightSpec)

/-- 'hamperlaw03.RsApart', WHERE WHAT IT READS IS OF BULK AT MOST 1048576: true; the input reads as it did. -/
def rsApartUptoRow : OpenClaim := { program := "ytnbekifcajmdkaa", sum := "1f88abf4af07f48e443f8c534eb22df761ee4505f9076e853f7f39e57048d3ad", func := "hamper/hamperlaw03.RsApart", spec := "rsApart", unfollowed := true, recurses := true, apart := false, narrowed := true }
def RsApartUptoSaid : Prop := rsApartUptoRow.holds Try.pinned (OpenSpec.upto rsApartSpec)

/-- 'hamperlaw03.RsAhead', WHERE WHAT IT READS IS OF BULK AT MOST 1048576: true; the input reads as it did. -/
def rsAheadUptoRow : OpenClaim := { program := "ytnbekifcajmdkaa", sum := "1f88abf4af07f48e443f8c534eb22df761ee4505f9076e853f7f39e57048d3ad", func := "hamper/hamperlaw03.RsAhead", spec := "rsAhead", unfollowed := true, recurses := true, apart := false, narrowed := true }
def RsAheadUptoSaid : Prop := rsAheadUptoRow.holds Try.pinned (OpenSpec.upto rsAheadSpec)

/-- 'hamperlaw03.RsFewer', WHERE WHAT IT READS IS OF BULK AT MOST 1048576: true; the input reads as it did. -/
def rsFewerUptoRow : OpenClaim := { program := "ytnbekifcajmdkaa", sum := "1f88abf4af07f48e443f8c534eb22df761ee4505f9076e853f7f39e57048d3ad", func := "hamper/hamperlaw03.RsFewer", spec := "rsFewer", unfollowed := true, recurses := true, apart := false, narrowed := true }
def RsFewerUptoSaid : Prop := rsFewerUptoRow.holds Try.pinned (OpenSpec.upto rsFewerSpec)

/-- 'hamperlaw03.RsOne', WHERE WHAT IT READS IS OF BULK AT MOST 1048576: true; the input reads as it did. -/
def rsOneUptoRow : OpenClaim := { program := "ytnbekifcajmdkaa", sum := "1f88abf4af07f48e443f8c534eb22df761ee4505f9076e853f7f39e57048d3ad", func := "hamper/hamperlaw03.RsOne", spec := "rsOne", unfollowed := true, recurses := true, apart := false, narrowed := true }
def RsOneUptoSaid : Prop := rsOneUptoRow.holds Try.pinned (OpenSpec.upto rsOneSpec)

end Rows
end Go.Proofs.Ytnbekifcajmdkaa
