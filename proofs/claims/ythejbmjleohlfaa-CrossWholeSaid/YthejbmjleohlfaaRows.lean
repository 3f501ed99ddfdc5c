/-
  No cell of these rows narrows 'for every input' (looked for: loops, veiled, ifaces, maps, wideKeys, modest, calm, conditions, laid).
  DERIVED. THE GIVEN ROWS OF THIS SEAT. 5 by the template 'for every input the law returns true; each argument reads behind the call as it read before'; 0 by the template 'total and deterministic' (their statements: YthejbmjleohlfaaTotals.lean).
  GIVEN WITH THE SEED: the statements are not yours to turn. If you find one false, say at which input.
  Laid BY PROGRAM, IN A SANDBOX (cutbox-rows.mjs): the forced cells as the released guide's own fill.sh prints them over the translation 1d3a47fee8f21e31… (all of the seat's roots in one cut). By AI agents, Wed Nov 11 2026. No macro, syntax, notation, axiom, sorry.
-/
import Derived.Test.YthejbmjleohlfaaChecked
import GoSem.Claim
import GoSem.ClaimJoined
import GoSem.ClaimMapViews
import Derived.JoinedTies
import Derived.KernelRfl
namespace Go.Proofs.Ythejbmjleohlfaa
/- THE CELL 'sum', in the pinned program and in every row, IS THE sha256 OF THE DUMP (.gsa) THAT YthejbmjleohlfaaProg.lean LOADS. Nothing in Lean hashes anything: it is a label: what it is worth is what the hold of that sum in a sandbox is worth. -/
noncomputable def Try.pinned : Pinned := { name := "ythejbmjleohlfaa", sum := "1d3a47fee8f21e319abf089d91a3d428ad31d46e83c209b54b04c9c9e7928751", checked := Try.checked }
namespace Rows
def none {H : Type} : Left H := { results := [], args := [] }

/-- 'hamperlaw27.CrossNames': WHATEVER THE INPUT: true; the input reads as it did. -/
def crossNamesSpec : ChangeSpec := { name := "crossNames", fn := fun _ => fun
  | [] => { results := [.lit (.bool true)], args := [] }
  | _ => none }
def crossNamesRow : OpenClaim := { program := "ythejbmjleohlfaa", sum := "1d3a47fee8f21e319abf089d91a3d428ad31d46e83c209b54b04c9c9e7928751", func := "hamper/hamperlaw27.CrossNames", spec := "crossNames", unfollowed := true, recurses := true, apart := false }
def CrossNamesSaid : Prop := crossNamesRow.holds Try.pinned (OpenSpec.ofChange crossNamesSpec)

/-- ITS FALSE NEIGHBOUR: 'it returns false'. Refute it at one input. -/
def crossNamesWrong : ChangeSpec := { name := "crossNames", fn := fun _ => fun
  | [] => { results := [.lit (.bool false)], args := [] }
  | _ => none }
def CrossNamesWrongFalsely : Prop := crossNamesRow.holds Try.pinned (OpenSpec.ofChange crossNamesWrong)

/-- 'hamperlaw27.CrossRight': WHATEVER THE INPUT: true; the input reads as it did. -/
def crossRightSpec : ChangeSpec := { name := "crossRight", fn := fun _ => fun
  | [d1, d2, d3] => { results := [.lit (.bool true)], args := [d1, d2, d3] }
  | _ => none }
def crossRightRow : OpenClaim := { program := "ythejbmjleohlfaa", sum := "1d3a47fee8f21e319abf089d91a3d428ad31d46e83c209b54b04c9c9e7928751", func := "hamper/hamperlaw27.CrossRight", spec := "crossRight", unfollowed := true, recurses := true, apart := false }
def CrossRightSaid : Prop := crossRightRow.holds Try.pinned (OpenSpec.ofChange crossRightSpec)

/-- ITS FALSE NEIGHBOUR: 'it returns false'. Refute it at one input. -/
def crossRightWrong : ChangeSpec := { name := "crossRight", fn := fun _ => fun
  | [d1, d2, d3] => { results := [.lit (.bool false)], args := [d1, d2, d3] }
  | _ => none }
def CrossRightWrongFalsely : Prop := crossRightRow.holds Try.pinned (OpenSpec.ofChange crossRightWrong)

/-- 'hamperlaw27.CrossWhole': WHATEVER THE INPUT: true; the input reads as it did. -/
def crossWholeSpec : ChangeSpec := { name := "crossWhole", fn := fun _ => fun
  | [d1, d2, d3, d4] => { results := [.lit (.bool true)], args := [d1, d2, d3, d4] }
  | _ => none }
def crossWholeRow : OpenClaim := { program := "ythejbmjleohlfaa", sum := "1d3a47fee8f21e319abf089d91a3d428ad31d46e83c209b54b04c9c9e7928751", func := "hamper/hamperlaw27.CrossWhole", spec := "crossWhole", unfollowed := true, recurses := true, apart := false }
def CrossWholeSaid : Prop := crossWholeRow.holds Try.pinned (OpenSpec.ofChange crossWholeSpec)

/-- ITS FALSE NEIGHBOUR: 'it returns false'. Refute it at one input. -/
def crossWholeWrong : ChangeSpec := { name := "crossWhole", fn := fun _ => fun
  | [d1, d2, d3, d4] => { results := [.lit (.bool false)], args := [d1, d2, d3, d4] }
  | _ => none }
def CrossWholeWrongFalsely : Prop := crossWholeRow.holds Try.pinned (OpenSpec.ofChange crossWholeWrong)

/-- 'hamperlaw27.CrossAny': WHATEVER THE INPUT: true; the input reads as it did. -/
def crossAnySpec : ChangeSpec := { name := "crossAny", fn := fun _ => fun
  | [d1, d2, d3] => { results := [.lit (.bool true)], args := [d1, d2, d3] }
  | _ => none }
def crossAnyRow : OpenClaim := { program := "ythejbmjleohlfaa", sum := "1d3a47fee8f21e319abf089d91a3d428ad31d46e83c209b54b04c9c9e7928751", func := "hamper/hamperlaw27.CrossAny", spec := "crossAny", unfollowed := true, recurses := true, apart := false }
def CrossAnySaid : Prop := crossAnyRow.holds Try.pinned (OpenSpec.ofChange crossAnySpec)

/-- ITS FALSE NEIGHBOUR: 'it returns false'. Refute it at one input. -/
def crossAnyWrong : ChangeSpec := { name := "crossAny", fn := fun _ => fun
  | [d1, d2, d3] => { results := [.lit (.bool false)], args := [d1, d2, d3] }
  | _ => none }
def CrossAnyWrongFalsely : Prop := crossAnyRow.holds Try.pinned (OpenSpec.ofChange crossAnyWrong)

/-- 'hamperlaw27.CrossSums': WHATEVER THE INPUT: true; the input reads as it did. -/
def crossSumsSpec : ChangeSpec := { name := "crossSums", fn := fun _ => fun
  | [d1, d2, d3] => { results := [.lit (.bool true)], args := [d1, d2, d3] }
  | _ => none }
def crossSumsRow : OpenClaim := { program := "ythejbmjleohlfaa", sum := "1d3a47fee8f21e319abf089d91a3d428ad31d46e83c209b54b04c9c9e7928751", func := "hamper/hamperlaw27.CrossSums", spec := "crossSums", unfollowed := true, recurses := true, apart := false }
def CrossSumsSaid : Prop := crossSumsRow.holds Try.pinned (OpenSpec.ofChange crossSumsSpec)

/-- ITS FALSE NEIGHBOUR: 'it returns false'. Refute it at one input. -/
def crossSumsWrong : ChangeSpec := { name := "crossSums", fn := fun _ => fun
  | [d1, d2, d3] => { results := [.lit (.bool false)], args := [d1, d2, d3] }
  | _ => none }
def CrossSumsWrongFalsely : Prop := crossSumsRow.holds Try.pinned (OpenSpec.ofChange crossSumsWrong)

/- THE SECOND FORM. 'bulk': how many values and letters a reading holds, each counted each time it is reached (what is shared counts as often as it is met; a slice's spare places count too). A statement '..UptoSaid' is the law's where the arguments, and the package variables that the reading takes, are together of bulk at most 1048576: NARROWER than '..Said'. Prove '..Said' where nothing that the law and all that it calls make is longer than what came in: it says more and counts as full. Else prove '..UptoSaid'. A law counts once. -/
mutual
def uptoBulk {H : Type} : DataW H → Nat
  | .lit (.string bytes) => bytes.length + 1
  | .lit _ => 1
  | .nil => 1
  | .ptr d => uptoBulk d + 1
  | .slice elems spare => uptoBulkAll elems + uptoBulkAll spare + 1
  | .agg parts => uptoBulkAll parts + 1
  | .iface _ d => uptoBulk d + 1
  | .map entries => uptoBulkEntries entries + 1
  | .held _ => 1
def uptoBulkAll {H : Type} : List (DataW H) → Nat
  | [] => 0
  | d :: r => uptoBulk d + uptoBulkAll r
def uptoBulkEntries {H : Type} : List (Lit × DataW H) → Nat
  | [] => 0
  | x :: r => uptoBulkEntry x + uptoBulkEntries r
def uptoBulkEntry {H : Type} : Lit × DataW H → Nat
  | (.string bytes, d) => bytes.length + uptoBulk d + 1
  | (_, d) => uptoBulk d + 1
 end
def uptoSmall : (H : Type) → List (DataW H) → Bool := fun _ ds => decide (uptoBulkAll ds ≤ 1048576)
def OpenSpec.upto (s : _root_.Go.ChangeSpec) : _root_.Go.OpenSpec := { _root_.Go.OpenSpec.ofChange s with cond := some uptoSmall }

/-- 'hamperlaw27.CrossNames', WHERE WHAT IT READS IS OF BULK AT MOST 1048576: true; the input reads as it did. -/
def crossNamesUptoRow : OpenClaim := { program := "ythejbmjleohlfaa", sum := "1d3a47fee8f21e319abf089d91a3d428ad31d46e83c209b54b04c9c9e7928751", func := "hamper/hamperlaw27.CrossNames", spec := "crossNames", unfollowed := true, recurses := true, apart := false, narrowed := true }
def CrossNamesUptoSaid : Prop := crossNamesUptoRow.holds Try.pinned (OpenSpec.upto crossNamesSpec)

/-- 'hamperlaw27.CrossRight', WHERE WHAT IT READS IS OF BULK AT MOST 1048576: true; the input reads as it did. -/
def crossRightUptoRow : OpenClaim := { program := "ythejbmjleohlfaa", sum := "1d3a47fee8f21e319abf089d91a3d428ad31d46e83c209b54b04c9c9e7928751", func := "hamper/hamperlaw27.CrossRight", spec := "crossRight", unfollowed := true, recurses := true, apart := false, narrowed := true }
def CrossRightUptoSaid : Prop := crossRightUptoRow.holds Try.pinned (OpenSpec.upto crossRightSpec)

/-- 'hamperlaw27.CrossWhole', WHERE WHAT IT READS IS OF BULK AT MOST 1048576: true; the input reads as it did. -/
def crossWholeUptoRow : OpenClaim := { program := "ythejbmjleohlfaa", sum := "1d3a47fee8f21e319abf089d91a3d428ad31d46e83c209b54b04c9c9e7928751", func := "hamper/hamperlaw27.CrossWhole", spec := "crossWhole", unfollowed := true, recurses := true, apart := false, narrowed := true }
def CrossWholeUptoSaid : Prop := crossWholeUptoRow.holds Try.pinned (OpenSpec.upto crossWholeSpec)

/-- 'hamperlaw27.CrossAny', WHERE WHAT IT READS IS OF BULK AT MOST 1048576: true; the input reads as it did. -/
def crossAnyUptoRow : OpenClaim := { program := "ythejbmjleohlfaa", sum := "1d3a47fee8f21e319abf089d91a3d428ad31d46e83c209b54b04c9c9e7928751", func := "hamper/hamperlaw27.CrossAny", spec := "crossAny", unfollowed := true, recurses := true, apart := false, narrowed := true }
def CrossAnyUptoSaid : Prop := crossAnyUptoRow.holds Try.pinned (OpenSpec.upto crossAnySpec)

/-- 'hamperlaw27.CrossSums', WHERE WHAT IT READS IS OF BULK AT MOST 1048576: true; the input reads as it did. -/
def crossSumsUptoRow : OpenClaim := { program := "ythejbmjleohlfaa", sum := "1d3a47fee8f21e319abf089d91a3d428ad31d46e83c209b54b04c9c9e7928751", func := "hamper/hamperlaw27.CrossSums", spec := "crossSums", unfollowed := true, recurses := true, apart := false, narrowed := true }
def CrossSumsUptoSaid : Prop := crossSumsUptoRow.holds Try.pinned (OpenSpec.upto crossSumsSpec)

end Rows
end Go.Proofs.Ythejbmjleohlfaa
