/-
  No cell of these rows narrows 'for every input' (looked for: loops, veiled, ifaces, maps, wideKeys, modest, calm, conditions, laid).
  DERIVED. THE GIVEN ROWS OF THIS SEAT. 7 by the template 'for every input the law returns true; each argument reads behind the call as it read before'; 0 by the template 'total and deterministic' (their statements: YtneciddigglnmaaTotals.lean).
  GIVEN WITH THE SEED: the statements are not yours to turn. If you find one false, say at which input.
  Laid BY PROGRAM, IN A SANDBOX (cutbox-rows.mjs): the forced cells as the released guide's own fill.sh prints them over the translation cb31e7d9e81741bf… (all of the seat's roots in one cut). By AI agents, Wed Nov 11 2026. No macro, syntax, notation, axiom, sorry.
-/
import Derived.Test.YtneciddigglnmaaChecked
import GoSem.Claim
import GoSem.ClaimJoined
import GoSem.ClaimMapViews
import Derived.JoinedTies
import Derived.KernelRfl
namespace Go.Proofs.Ytneciddigglnmaa
/- THE CELL 'sum', in the pinned program and in every row, IS THE sha256 OF THE DUMP (.gsa) THAT YtneciddigglnmaaProg.lean LOADS. Nothing in Lean hashes anything: it is a label: what it is worth is what the hold of that sum in a sandbox is worth. -/
noncomputable def Try.pinned : Pinned := { name := "ytneciddigglnmaa", sum := "cb31e7d9e81741bf91ae852cc4812f4f9bdf790cc637b59cccb45a2a57901ba4", checked := Try.checked }
namespace Rows
def none {H : Type} : Left H := { results := [], args := [] }

/-- 'hamperlaw02.PolyRoots': WHATEVER THE INPUT: true; the input reads as it did. -/
def polyRootsSpec : ChangeSpec := { name := "polyRoots", fn := fun _ => fun
  | [d1, d2] => { results := [.lit (.bool true)], args := [d1, d2] }
  | _ => none }
def polyRootsRow : OpenClaim := { program := "ytneciddigglnmaa", sum := "cb31e7d9e81741bf91ae852cc4812f4f9bdf790cc637b59cccb45a2a57901ba4", func := "hamper/hamperlaw02.PolyRoots", spec := "polyRoots", unfollowed := true, recurses := true, apart := false }
def PolyRootsSaid : Prop := polyRootsRow.holds Try.pinned (OpenSpec.ofChange polyRootsSpec)

/-- ITS FALSE NEIGHBOUR: 'it returns false'. Refute it at one input. -/
def polyRootsWrong : ChangeSpec := { name := "polyRoots", fn := fun _ => fun
  | [d1, d2] => { results := [.lit (.bool false)], args := [d1, d2] }
  | _ => none }
def PolyRootsWrongFalsely : Prop := polyRootsRow.holds Try.pinned (OpenSpec.ofChange polyRootsWrong)

/-- 'hamperlaw02.PolyShift': WHATEVER THE INPUT: true; the input reads as it did. -/
def polyShiftSpec : ChangeSpec := { name := "polyShift", fn := fun _ => fun
  | [d1, d2, d3] => { results := [.lit (.bool true)], args := [d1, d2, d3] }
  | _ => none }
def polyShiftRow : OpenClaim := { program := "ytneciddigglnmaa", sum := "cb31e7d9e81741bf91ae852cc4812f4f9bdf790cc637b59cccb45a2a57901ba4", func := "hamper/hamperlaw02.PolyShift", spec := "polyShift", unfollowed := true, recurses := true, apart := false }
def PolyShiftSaid : Prop := polyShiftRow.holds Try.pinned (OpenSpec.ofChange polyShiftSpec)

/-- ITS FALSE NEIGHBOUR: 'it returns false'. Refute it at one input. -/
def polyShiftWrong : ChangeSpec := { name := "polyShift", fn := fun _ => fun
  | [d1, d2, d3] => { results := [.lit (.bool false)], args := [d1, d2, d3] }
  | _ => none }
def PolyShiftWrongFalsely : Prop := polyShiftRow.holds Try.pinned (OpenSpec.ofChange polyShiftWrong)

/-- 'hamperlaw02.PolyTells': WHATEVER THE INPUT: true; the input reads as it did. -/
def polyTellsSpec : ChangeSpec := { name := "polyTells", fn := fun _ => fun
  | [d1, d2, d3] => { results := [.lit (.bool true)], args := [d1, d2, d3] }
  | _ => none }
def polyTellsRow : OpenClaim := { program := "ytneciddigglnmaa", sum := "cb31e7d9e81741bf91ae852cc4812f4f9bdf790cc637b59cccb45a2a57901ba4", func := "hamper/hamperlaw02.PolyTells", spec := "polyTells", unfollowed := true, recurses := true, apart := false }
def PolyTellsSaid : Prop := polyTellsRow.holds Try.pinned (OpenSpec.ofChange polyTellsSpec)

/-- ITS FALSE NEIGHBOUR: 'it returns false'. Refute it at one input. -/
def polyTellsWrong : ChangeSpec := { name := "polyTells", fn := fun _ => fun
  | [d1, d2, d3] => { results := [.lit (.bool false)], args := [d1, d2, d3] }
  | _ => none }
def PolyTellsWrongFalsely : Prop := polyTellsRow.holds Try.pinned (OpenSpec.ofChange polyTellsWrong)

/-- 'hamperlaw02.PolyNames': WHATEVER THE INPUT: true; the input reads as it did. -/
def polyNamesSpec : ChangeSpec := { name := "polyNames", fn := fun _ => fun
  | [] => { results := [.lit (.bool true)], args := [] }
  | _ => none }
def polyNamesRow : OpenClaim := { program := "ytneciddigglnmaa", sum := "cb31e7d9e81741bf91ae852cc4812f4f9bdf790cc637b59cccb45a2a57901ba4", func := "hamper/hamperlaw02.PolyNames", spec := "polyNames", unfollowed := true, recurses := true, apart := false }
def PolyNamesSaid : Prop := polyNamesRow.holds Try.pinned (OpenSpec.ofChange polyNamesSpec)

/-- ITS FALSE NEIGHBOUR: 'it returns false'. Refute it at one input. -/
def polyNamesWrong : ChangeSpec := { name := "polyNames", fn := fun _ => fun
  | [] => { results := [.lit (.bool false)], args := [] }
  | _ => none }
def PolyNamesWrongFalsely : Prop := polyNamesRow.holds Try.pinned (OpenSpec.ofChange polyNamesWrong)

/-- 'hamperlaw02.PolyRing': WHATEVER THE INPUT: true; the input reads as it did. -/
def polyRingSpec : ChangeSpec := { name := "polyRing", fn := fun _ => fun
  | [d1, d2, d3, d4] => { results := [.lit (.bool true)], args := [d1, d2, d3, d4] }
  | _ => none }
def polyRingRow : OpenClaim := { program := "ytneciddigglnmaa", sum := "cb31e7d9e81741bf91ae852cc4812f4f9bdf790cc637b59cccb45a2a57901ba4", func := "hamper/hamperlaw02.PolyRing", spec := "polyRing", unfollowed := true, recurses := true, apart := false }
def PolyRingSaid : Prop := polyRingRow.holds Try.pinned (OpenSpec.ofChange polyRingSpec)

/-- ITS FALSE NEIGHBOUR: 'it returns false'. Refute it at one input. -/
def polyRingWrong : ChangeSpec := { name := "polyRing", fn := fun _ => fun
  | [d1, d2, d3, d4] => { results := [.lit (.bool false)], args := [d1, d2, d3, d4] }
  | _ => none }
def PolyRingWrongFalsely : Prop := polyRingRow.holds Try.pinned (OpenSpec.ofChange polyRingWrong)

/-- 'hamperlaw02.PolyDivided': WHATEVER THE INPUT: true; the input reads as it did. -/
def polyDividedSpec : ChangeSpec := { name := "polyDivided", fn := fun _ => fun
  | [d1, d2, d3] => { results := [.lit (.bool true)], args := [d1, d2, d3] }
  | _ => none }
def polyDividedRow : OpenClaim := { program := "ytneciddigglnmaa", sum := "cb31e7d9e81741bf91ae852cc4812f4f9bdf790cc637b59cccb45a2a57901ba4", func := "hamper/hamperlaw02.PolyDivided", spec := "polyDivided", unfollowed := true, recurses := true, apart := false }
def PolyDividedSaid : Prop := polyDividedRow.holds Try.pinned (OpenSpec.ofChange polyDividedSpec)

/-- ITS FALSE NEIGHBOUR: 'it returns false'. Refute it at one input. -/
def polyDividedWrong : ChangeSpec := { name := "polyDivided", fn := fun _ => fun
  | [d1, d2, d3] => { results := [.lit (.bool false)], args := [d1, d2, d3] }
  | _ => none }
def PolyDividedWrongFalsely : Prop := polyDividedRow.holds Try.pinned (OpenSpec.ofChange polyDividedWrong)

/-- 'hamperlaw02.PolyDegree': WHATEVER THE INPUT: true; the input reads as it did. -/
def polyDegreeSpec : ChangeSpec := { name := "polyDegree", fn := fun _ => fun
  | [d1, d2] => { results := [.lit (.bool true)], args := [d1, d2] }
  | _ => none }
def polyDegreeRow : OpenClaim := { program := "ytneciddigglnmaa", sum := "cb31e7d9e81741bf91ae852cc4812f4f9bdf790cc637b59cccb45a2a57901ba4", func := "hamper/hamperlaw02.PolyDegree", spec := "polyDegree", unfollowed := true, recurses := true, apart := false }
def PolyDegreeSaid : Prop := polyDegreeRow.holds Try.pinned (OpenSpec.ofChange polyDegreeSpec)

/-- ITS FALSE NEIGHBOUR: 'it returns false'. Refute it at one input. -/
def polyDegreeWrong : ChangeSpec := { name := "polyDegree", fn := fun _ => fun
  | [d1, d2] => { results := [.lit (.bool false)], args := [d1, d2] }
  | _ => none }
def PolyDegreeWrongFalsely : Prop := polyDegreeRow.holds Try.pinned (OpenSpec.ofChange polyDegreeWrong)

/- THE SECOND FORM. 'bulk': how many values and letters a reading holds, each counted each time it is reached (what is shared counts as often as it is met; a slice's spare places count too). A statement '..UptoSaid' is the law's where the arguments, and the package variables that the reading takes, are together of bulk at most 1048576: NARROWER than '..Said'. Prove '..Said' where nothing that the law and all that it calls make is longer than what came in: it says more and counts as full. Else prove '..UptoSaid'. A law counts once. -/
mutual
def uptoBulk {H : Type} : DataW H → Nat
  | .lit (.string bytes) => bytes.length + 1
  | .lit _ => 1
  | .nil => 1
  | .ptr d => uptoBulk d + 1
  | .slice elems spare => uptoBulkAll elems + uptoBulkAll spare + 1
  | .agg parts => uptoBulkAll parts + 1
  | .iface _ d => uptoBulk d + 1
  | .map entries => uptoBulkEntries entries + 1
  | .held _ => 1
def uptoBulkAll {H : Type} : List (DataW H) → Nat
  | [] => 0
  | d :: r => uptoBulk d + uptoBulkAll r
def uptoBulkEntries {H : Type} : List (Lit × DataW H) → Nat
  | [] => 0
  | x :: r => uptoBulkEntry x + uptoBulkEntries r
def uptoBulkEntry {H : Type} : Lit × DataW H → Nat
  | (.string bytes, d) => bytes.length + uptoBulk d + 1
  | (_, d) => uptoBulk d + 1
 end
def uptoSmall : (H : Type) → List (DataW H) → Bool := fun _ ds => decide (uptoBulkAll ds ≤ 1048576)
def OpenSpec.upto (s : _root_.Go.ChangeSpec) : _root_.Go.OpenSpec := { _root_.Go.OpenSpec.ofChange s with cond := some uptoSmall }

/-- 'hamperlaw02.PolyRoots', WHERE WHAT IT READS IS OF BULK AT MOST 1048576: true; the input reads as it did. -/
def polyRootsUptoRow : OpenClaim := { program := "ytneciddigglnmaa", sum := "cb31e7d9e81741bf91ae852cc4812f4f9bdf790cc637b59cccb45a2a57901ba4", func := "hamper/hamperlaw02.PolyRoots", spec := "polyRoots", unfollowed := true, recurses := true, apart := false, narrowed := true }
def PolyRootsUptoSaid : Prop := polyRootsUptoRow.holds Try.pinned (OpenSpec.upto polyRootsSpec)

/-- 'hamperlaw02.PolyShift', WHERE WHAT IT READS IS OF BULK AT MOST 1048576: true; the input reads as it did. -/
def polyShiftUptoRow : OpenClaim := { program := "ytneciddigglnmaa", sum := "cb31e7d9e81741bf91ae852cc4812f4f9bdf790cc637b59cccb45a2a57901ba4", func := "hamper/hamperlaw02.PolyShift", spec := "polyShift", unfollowed := true, recurses := true, apart := false, narrowed := true }
def PolyShiftUptoSaid : Prop := polyShiftUptoRow.holds Try.pinned (OpenSpec.upto polyShiftSpec)

/-- 'hamperlaw02.PolyTells', WHERE WHAT IT READS IS OF BULK AT MOST 1048576: true; the input reads as it did. -/
def polyTellsUptoRow : OpenClaim := { program := "ytneciddigglnmaa", sum := "cb31e7d9e81741bf91ae852cc4812f4f9bdf790cc637b59cccb45a2a57901ba4", func := "hamper/hamperlaw02.PolyTells", spec := "polyTells", unfollowed := true, recurses := true, apart := false, narrowed := true }
def PolyTellsUptoSaid : Prop := polyTellsUptoRow.holds Try.pinned (OpenSpec.upto polyTellsSpec)

/-- 'hamperlaw02.PolyNames', WHERE WHAT IT READS IS OF BULK AT MOST 1048576: true; the input reads as it did. -/
def polyNamesUptoRow : OpenClaim := { program := "ytneciddigglnmaa", sum := "cb31e7d9e81741bf91ae852cc4812f4f9bdf790cc637b59cccb45a2a57901ba4", func := "hamper/hamperlaw02.PolyNames", spec := "polyNames", unfollowed := true, recurses := true, apart := false, narrowed := true }
def PolyNamesUptoSaid : Prop := polyNamesUptoRow.holds Try.pinned (OpenSpec.upto polyNamesSpec)

/-- 'hamperlaw02.PolyRing', WHERE WHAT IT READS IS OF BULK AT MOST 1048576: true; the input reads as it did. -/
def polyRingUptoRow : OpenClaim := { program := "ytneciddigglnmaa", sum := "cb31e7d9e81741bf91ae852cc4812f4f9bdf790cc637b59cccb45a2a57901ba4", func := "hamper/hamperlaw02.PolyRing", spec := "polyRing", unfollowed := true, recurses := true, apart := false, narrowed := true }
def PolyRingUptoSaid : Prop := polyRingUptoRow.holds Try.pinned (OpenSpec.upto polyRingSpec)

/-- 'hamperlaw02.PolyDivided', WHERE WHAT IT READS IS OF BULK AT MOST 1048576: true; the input reads as it did. -/
def polyDividedUptoRow : OpenClaim := { program := "ytneciddigglnmaa", sum := "cb31e7d9e81741bf91ae852cc4812f4f9bdf790cc637b59cccb45a2a57901ba4", func := "hamper/hamperlaw02.PolyDivided", spec := "polyDivided", unfollowed := true, recurses := true, apart := false, narrowed := true }
def PolyDividedUptoSaid : Prop := polyDividedUptoRow.holds Try.pinned (OpenSpec.upto polyDividedSpec)

/-- 'hamperlaw02.PolyDegree', WHERE WHAT IT READS IS OF BULK AT MOST 1048576: true; the input reads as it did. -/
def polyDegreeUptoRow : OpenClaim := { program := "ytneciddigglnmaa", sum := "cb31e7d9e81741bf91ae852cc4812f4f9bdf790cc637b59cccb45a2a57901ba4", func := "hamper/hamperlaw02.PolyDegree", spec := "polyDegree", unfollowed := true, recurses := true, apart := false, narrowed := true }
def PolyDegreeUptoSaid : Prop := polyDegreeUptoRow.holds Try.pinned (OpenSpec.upto polyDegreeSpec)

end Rows
end Go.Proofs.Ytneciddigglnmaa
