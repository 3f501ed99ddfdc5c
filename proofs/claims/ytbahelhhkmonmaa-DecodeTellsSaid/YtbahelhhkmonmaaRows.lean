/-
  No cell of these rows narrows 'for every input' (looked for: loops, veiled, ifaces, maps, wideKeys, modest, calm, conditions, laid).
  DERIVED. THE GIVEN ROWS OF THIS SEAT. 4 by the template 'for every input the law returns true; each argument reads behind the call as it read before'; 0 by the template 'total and deterministic' (their statements: YtbahelhhkmonmaaTotals.lean).
  GIVEN WITH THE SEED: the statements are not yours to turn. If you find one false, say at which input.
  Laid BY PROGRAM, IN A SANDBOX (cutbox-rows.mjs): the forced cells as the released guide's own fill.sh prints them over the translation e48b3a08cc8e25d5… (all of the seat's roots in one cut). By AI agents, Wed Nov 11 2026. No macro, syntax, notation, axiom, sorry.
-/
import Derived.Test.YtbahelhhkmonmaaChecked
import GoSem.Claim
import GoSem.ClaimJoined
import GoSem.ClaimMapViews
import Derived.JoinedTies
import Derived.KernelRfl
namespace Go.Proofs.Ytbahelhhkmonmaa
/- THE CELL 'sum', in the pinned program and in every row, IS THE sha256 OF THE DUMP (.gsa) THAT YtbahelhhkmonmaaProg.lean LOADS. Nothing in Lean hashes anything: it is a label: what it is worth is what the hold of that sum in a sandbox is worth. -/
noncomputable def Try.pinned : Pinned := { name := "ytbahelhhkmonmaa", sum := "e48b3a08cc8e25d507dd6e9743b9e9cf4c557e667731fa8bba9355496ea73721", checked := Try.checked }
namespace Rows
def none {H : Type} : Left H := { results := [], args := [] }

/-- 'hamperlaw04.DecodeTells': WHATEVER THE INPUT: true; the input reads as it did. -/
def decodeTellsSpec : ChangeSpec := { name := "decodeTells", fn := fun _ => fun
  | [d1, d2, d3] => { results := [.lit (.bool true)], args := [d1, d2, d3] }
  | _ => none }
def decodeTellsRow : OpenClaim := { program := "ytbahelhhkmonmaa", sum := "e48b3a08cc8e25d507dd6e9743b9e9cf4c557e667731fa8bba9355496ea73721", func := "hamper/hamperlaw04.DecodeTells", spec := "decodeTells", unfollowed := true, recurses := true, apart := false }
def DecodeTellsSaid : Prop := decodeTellsRow.holds Try.pinned (OpenSpec.ofChange decodeTellsSpec)

/-- ITS FALSE NEIGHBOUR: 'it returns false'. Refute it at one input. -/
def decodeTellsWrong : ChangeSpec := { name := "decodeTells", fn := fun _ => fun
  | [d1, d2, d3] => { results := [.lit (.bool false)], args := [d1, d2, d3] }
  | _ => none }
def DecodeTellsWrongFalsely : Prop := decodeTellsRow.holds Try.pinned (OpenSpec.ofChange decodeTellsWrong)

/-- 'hamperlaw04.DecodeNames': WHATEVER THE INPUT: true; the input reads as it did. -/
def decodeNamesSpec : ChangeSpec := { name := "decodeNames", fn := fun _ => fun
  | [] => { results := [.lit (.bool true)], args := [] }
  | _ => none }
def decodeNamesRow : OpenClaim := { program := "ytbahelhhkmonmaa", sum := "e48b3a08cc8e25d507dd6e9743b9e9cf4c557e667731fa8bba9355496ea73721", func := "hamper/hamperlaw04.DecodeNames", spec := "decodeNames", unfollowed := true, recurses := true, apart := false }
def DecodeNamesSaid : Prop := decodeNamesRow.holds Try.pinned (OpenSpec.ofChange decodeNamesSpec)

/-- ITS FALSE NEIGHBOUR: 'it returns false'. Refute it at one input. -/
def decodeNamesWrong : ChangeSpec := { name := "decodeNames", fn := fun _ => fun
  | [] => { results := [.lit (.bool false)], args := [] }
  | _ => none }
def DecodeNamesWrongFalsely : Prop := decodeNamesRow.holds Try.pinned (OpenSpec.ofChange decodeNamesWrong)

/-- 'hamperlaw04.DecodeMakes': WHATEVER THE INPUT: true; the input reads as it did. -/
def decodeMakesSpec : ChangeSpec := { name := "decodeMakes", fn := fun _ => fun
  | [d1, d2, d3, d4, d5] => { results := [.lit (.bool true)], args := [d1, d2, d3, d4, d5] }
  | _ => none }
def decodeMakesRow : OpenClaim := { program := "ytbahelhhkmonmaa", sum := "e48b3a08cc8e25d507dd6e9743b9e9cf4c557e667731fa8bba9355496ea73721", func := "hamper/hamperlaw04.DecodeMakes", spec := "decodeMakes", unfollowed := true, recurses := true, apart := false }
def DecodeMakesSaid : Prop := decodeMakesRow.holds Try.pinned (OpenSpec.ofChange decodeMakesSpec)

/-- ITS FALSE NEIGHBOUR: 'it returns false'. Refute it at one input. -/
def decodeMakesWrong : ChangeSpec := { name := "decodeMakes", fn := fun _ => fun
  | [d1, d2, d3, d4, d5] => { results := [.lit (.bool false)], args := [d1, d2, d3, d4, d5] }
  | _ => none }
def DecodeMakesWrongFalsely : Prop := decodeMakesRow.holds Try.pinned (OpenSpec.ofChange decodeMakesWrong)

/-- 'hamperlaw04.DecodeApart': WHATEVER THE INPUT: true; the input reads as it did. -/
def decodeApartSpec : ChangeSpec := { name := "decodeApart", fn := fun _ => fun
  | [d1, d2, d3] => { results := [.lit (.bool true)], args := [d1, d2, d3] }
  | _ => none }
def decodeApartRow : OpenClaim := { program := "ytbahelhhkmonmaa", sum := "e48b3a08cc8e25d507dd6e9743b9e9cf4c557e667731fa8bba9355496ea73721", func := "hamper/hamperlaw04.DecodeApart", spec := "decodeApart", unfollowed := true, recurses := true, apart := false }
def DecodeApartSaid : Prop := decodeApartRow.holds Try.pinned (OpenSpec.ofChange decodeApartSpec)

/-- ITS FALSE NEIGHBOUR: 'it returns false'. Refute it at one input. -/
def decodeApartWrong : ChangeSpec := { name := "decodeApart", fn := fun _ => fun
  | [d1, d2, d3] => { results := [.lit (.bool false)], args := [d1, d2, d3] }
  | _ => none }
def DecodeApartWrongFalsely : Prop := decodeApartRow.holds Try.pinned (OpenSpec.ofChange decodeApartWrong)

/- THE SECOND FORM. 'bulk': how many values and letters a reading holds, each counted each time it is reached (what is shared counts as often as it is met; a slice's spare places count too). A statement '..UptoSaid' is the law's where the arguments, and the package variables that the reading takes, are together of bulk at most 1048576: NARROWER than '..Said'. Prove '..Said' where nothing that the law and all that it calls make is longer than what came in: it says more and counts as full. Else prove '..UptoSaid'. A law counts once. -/
mutual
def uptoBulk {H : Type} : DataW H → Nat
  | .lit (.string bytes) => bytes.length + 1
  | .lit _ => 1
  | .nil => 1
  | .ptr d => uptoBulk d + 1
  | .slice elems spare => uptoBulkAll elems + uptoBulkAll spare + 1
  | .agg parts => uptoBulkAll parts + 1
  | .iface _ d => uptoBulk d + 1
  | .map entries => uptoBulkEntries entries + 1
  | .held _ => 1
def uptoBulkAll {H : Type} : List (DataW H) → Nat
  | [] => 0
  | d :: r => uptoBulk d + uptoBulkAll r
def uptoBulkEntries {H : Type} : List (Lit × DataW H) → Nat
  | [] => 0
  | x :: r => uptoBulkEntry x + uptoBulkEntries r
def uptoBulkEntry {H : Type} : Lit × DataW H → Nat
  | (.string bytes, d) => bytes.length + uptoBulk d + 1
  | (_, d) => uptoBulk d + 1
 end
def uptoSmall : (H : Type) → List (DataW H) → Bool := fun _ ds => decide (uptoBulkAll ds ≤ 1048576)
def OpenSpec.upto (s : _root_.Go.ChangeSpec) : _root_.Go.OpenSpec := { _root_.Go.OpenSpec.ofChange s with cond := some uptoSmall }

/-- 'hamperlaw04.DecodeTells', WHERE WHAT IT READS IS OF BULK AT MOST 1048576: true; the input reads as it did. -/
def decodeTellsUptoRow : OpenClaim := { program := "ytbahelhhkmonmaa", sum := "e48b3a08cc8e25d507dd6e9743b9e9cf4c557e667731fa8bba9355496ea73721", func := "hamper/hamperlaw04.DecodeTells", spec := "decodeTells", unfollowed := true, recurses := true, apart := false, narrowed := true }
def DecodeTellsUptoSaid : Prop := decodeTellsUptoRow.holds Try.pinned (OpenSpec.upto decodeTellsSpec)

/-- 'hamperlaw04.DecodeNames', WHERE WHAT IT READS IS OF BULK AT MOST 1048576: true; the input reads as it did. -/
def decodeNamesUptoRow : OpenClaim := { program := "ytbahelhhkmonmaa", sum := "e48b3a08cc8e25d507dd6e9743b9e9cf4c557e667731fa8bba9355496ea73721", func := "hamper/hamperlaw04.DecodeNames", spec := "decodeNames", unfollowed := true, recurses := true, apart := false, narrowed := true }
def DecodeNamesUptoSaid : Prop := decodeNamesUptoRow.holds Try.pinned (OpenSpec.upto decodeNamesSpec)

/-- 'hamperlaw04.DecodeMakes', WHERE WHAT IT READS IS OF BULK AT MOST 1048576: true; the input reads as it did. -/
def decodeMakesUptoRow : OpenClaim := { program := "ytbahelhhkmonmaa", sum := "e48b3a08cc8e25d507dd6e9743b9e9cf4c557e667731fa8bba9355496ea73721", func := "hamper/hamperlaw04.DecodeMakes", spec := "decodeMakes", unfollowed := true, recurses := true, apart := false, narrowed := true }
def DecodeMakesUptoSaid : Prop := decodeMakesUptoRow.holds Try.pinned (OpenSpec.upto decodeMakesSpec)

/-- 'hamperlaw04.DecodeApart', WHERE WHAT IT READS IS OF BULK AT MOST 1048576: true; the input reads as it did. -/
def decodeApartUptoRow : OpenClaim := { program := "ytbahelhhkmonmaa", sum := "e48b3a08cc8e25d507dd6e9743b9e9cf4c557e667731fa8bba9355496ea73721", func := "hamper/hamperlaw04.DecodeApart", spec := "decodeApart", unfollowed := true, recurses := true, apart := false, narrowed := true }
def DecodeApartUptoSaid : Prop := decodeApartUptoRow.holds Try.pinned (OpenSpec.upto decodeApartSpec)

end Rows
end Go.Proofs.Ytbahelhhkmonmaa
