/-
  No cell of these rows narrows 'for every input' (looked for: loops, veiled, ifaces, maps, wideKeys, modest, calm, conditions, laid).
  DERIVED. THE GIVEN ROWS OF THIS SEAT. 6 by the template 'for every input the law returns true; each argument reads behind the call as it read before'; 0 by the template 'total and deterministic' (their statements: YtpgedoljndppdaaTotals.lean).
  GIVEN WITH THE SEED: the statements are not yours to turn. If you find one false, say at which input.
  Laid BY PROGRAM, IN A SANDBOX (cutbox-rows.mjs): the forced cells as the released guide's own fill.sh prints them over the translation 83d13c85d00cd4e7… (all of the seat's roots in one cut). By AI agents, Wed Nov 11 2026. No macro, syntax, notation, axiom, sorry.
-/
import Derived.Test.YtpgedoljndppdaaChecked
import GoSem.Claim
import GoSem.ClaimJoined
import GoSem.ClaimMapViews
import Derived.JoinedTies
import Derived.KernelRfl
namespace Go.Proofs.Ytpgedoljndppdaa
/- THE CELL 'sum', in the pinned program and in every row, IS THE sha256 OF THE DUMP (.gsa) THAT YtpgedoljndppdaaProg.lean LOADS. Nothing in Lean hashes anything: it is a label: what it is worth is what the hold of that sum in a sandbox is worth. -/
noncomputable def Try.pinned : Pinned := { name := "ytpgedoljndppdaa", sum := "83d13c85d00cd4e754d614daf816601fa91dd6f39db6d7c7e49dc36cab71a4d0", checked := Try.checked }
namespace Rows
def none {H : Type} : Left H := { results := [], args := [] }

/-- 'grottolaw15.ShelfBack': WHATEVER THE INPUT: true; the input reads as it did. -/
def shelfBackSpec : ChangeSpec := { name := "shelfBack", fn := fun _ => fun
  | [d1, d2, d3] => { results := [.lit (.bool true)], args := [d1, d2, d3] }
  | _ => none }
def shelfBackRow : OpenClaim := { program := "ytpgedoljndppdaa", sum := "83d13c85d00cd4e754d614daf816601fa91dd6f39db6d7c7e49dc36cab71a4d0", func := "grotto/grottolaw15.ShelfBack", spec := "shelfBack", unfollowed := true, recurses := true, apart := false }
def ShelfBackSaid : Prop := shelfBackRow.holds Try.pinned (OpenSpec.ofChange shelfBackSpec)

/-- ITS FALSE NEIGHBOUR: 'it returns false'. Refute it at one input. -/
def shelfBackWrong : ChangeSpec := { name := "shelfBack", fn := fun _ => fun
  | [d1, d2, d3] => { results := [.lit (.bool false)], args := [d1, d2, d3] }
  | _ => none }
def ShelfBackWrongFalsely : Prop := shelfBackRow.holds Try.pinned (OpenSpec.ofChange shelfBackWrong)

/-- 'grottolaw15.ShelfBuffers': WHATEVER THE INPUT: true; the input reads as it did. -/
def shelfBuffersSpec : ChangeSpec := { name := "shelfBuffers", fn := fun _ => fun
  | [d1, d2, d3] => { results := [.lit (.bool true)], args := [d1, d2, d3] }
  | _ => none }
def shelfBuffersRow : OpenClaim := { program := "ytpgedoljndppdaa", sum := "83d13c85d00cd4e754d614daf816601fa91dd6f39db6d7c7e49dc36cab71a4d0", func := "grotto/grottolaw15.ShelfBuffers", spec := "shelfBuffers", unfollowed := true, recurses := true, apart := false }
def ShelfBuffersSaid : Prop := shelfBuffersRow.holds Try.pinned (OpenSpec.ofChange shelfBuffersSpec)

/-- ITS FALSE NEIGHBOUR: 'it returns false'. Refute it at one input. -/
def shelfBuffersWrong : ChangeSpec := { name := "shelfBuffers", fn := fun _ => fun
  | [d1, d2, d3] => { results := [.lit (.bool false)], args := [d1, d2, d3] }
  | _ => none }
def ShelfBuffersWrongFalsely : Prop := shelfBuffersRow.holds Try.pinned (OpenSpec.ofChange shelfBuffersWrong)

/-- 'grottolaw15.ShelfLines': WHATEVER THE INPUT: true; the input reads as it did. -/
def shelfLinesSpec : ChangeSpec := { name := "shelfLines", fn := fun _ => fun
  | [d1, d2] => { results := [.lit (.bool true)], args := [d1, d2] }
  | _ => none }
def shelfLinesRow : OpenClaim := { program := "ytpgedoljndppdaa", sum := "83d13c85d00cd4e754d614daf816601fa91dd6f39db6d7c7e49dc36cab71a4d0", func := "grotto/grottolaw15.ShelfLines", spec := "shelfLines", unfollowed := true, recurses := true, apart := false }
def ShelfLinesSaid : Prop := shelfLinesRow.holds Try.pinned (OpenSpec.ofChange shelfLinesSpec)

/-- ITS FALSE NEIGHBOUR: 'it returns false'. Refute it at one input. -/
def shelfLinesWrong : ChangeSpec := { name := "shelfLines", fn := fun _ => fun
  | [d1, d2] => { results := [.lit (.bool false)], args := [d1, d2] }
  | _ => none }
def ShelfLinesWrongFalsely : Prop := shelfLinesRow.holds Try.pinned (OpenSpec.ofChange shelfLinesWrong)

/-- 'grottolaw15.ShelfSeeks': WHATEVER THE INPUT: true; the input reads as it did. -/
def shelfSeeksSpec : ChangeSpec := { name := "shelfSeeks", fn := fun _ => fun
  | [d] => { results := [.lit (.bool true)], args := [d] }
  | _ => none }
def shelfSeeksRow : OpenClaim := { program := "ytpgedoljndppdaa", sum := "83d13c85d00cd4e754d614daf816601fa91dd6f39db6d7c7e49dc36cab71a4d0", func := "grotto/grottolaw15.ShelfSeeks", spec := "shelfSeeks", unfollowed := true, recurses := true, apart := false }
def ShelfSeeksSaid : Prop := shelfSeeksRow.holds Try.pinned (OpenSpec.ofChange shelfSeeksSpec)

/-- ITS FALSE NEIGHBOUR: 'it returns false'. Refute it at one input. -/
def shelfSeeksWrong : ChangeSpec := { name := "shelfSeeks", fn := fun _ => fun
  | [d] => { results := [.lit (.bool false)], args := [d] }
  | _ => none }
def ShelfSeeksWrongFalsely : Prop := shelfSeeksRow.holds Try.pinned (OpenSpec.ofChange shelfSeeksWrong)

/-- 'grottolaw15.ShelfWide': WHATEVER THE INPUT: true; the input reads as it did. -/
def shelfWideSpec : ChangeSpec := { name := "shelfWide", fn := fun _ => fun
  | [d] => { results := [.lit (.bool true)], args := [d] }
  | _ => none }
def shelfWideRow : OpenClaim := { program := "ytpgedoljndppdaa", sum := "83d13c85d00cd4e754d614daf816601fa91dd6f39db6d7c7e49dc36cab71a4d0", func := "grotto/grottolaw15.ShelfWide", spec := "shelfWide", unfollowed := true, recurses := true, apart := false }
def ShelfWideSaid : Prop := shelfWideRow.holds Try.pinned (OpenSpec.ofChange shelfWideSpec)

/-- ITS FALSE NEIGHBOUR: 'it returns false'. Refute it at one input. -/
def shelfWideWrong : ChangeSpec := { name := "shelfWide", fn := fun _ => fun
  | [d] => { results := [.lit (.bool false)], args := [d] }
  | _ => none }
def ShelfWideWrongFalsely : Prop := shelfWideRow.holds Try.pinned (OpenSpec.ofChange shelfWideWrong)

/-- 'grottolaw15.ShelfNil': WHATEVER THE INPUT: true; the input reads as it did. -/
def shelfNilSpec : ChangeSpec := { name := "shelfNil", fn := fun _ => fun
  | [d] => { results := [.lit (.bool true)], args := [d] }
  | _ => none }
def shelfNilRow : OpenClaim := { program := "ytpgedoljndppdaa", sum := "83d13c85d00cd4e754d614daf816601fa91dd6f39db6d7c7e49dc36cab71a4d0", func := "grotto/grottolaw15.ShelfNil", spec := "shelfNil", unfollowed := true, recurses := true, apart := false }
def ShelfNilSaid : Prop := shelfNilRow.holds Try.pinned (OpenSpec.ofChange shelfNilSpec)

/-- ITS FALSE NEIGHBOUR: 'it returns false'. Refute it at one input. -/
def shelfNilWrong : ChangeSpec := { name := "shelfNil", fn := fun _ => fun
  | [d] => { results := [.lit (.bool false)], args := [d] }
  | _ => none }
def ShelfNilWrongFalsely : Prop := shelfNilRow.holds Try.pinned (OpenSpec.ofChange shelfNilWrong)

/- THE SECOND FORM. 'bulk': how many values and letters a reading holds, each counted each time it is reached (what is shared counts as often as it is met; a slice's spare places count too). A statement '..UptoSaid' is the law's where the arguments, and the package variables that the reading takes, are together of bulk at most 1048576: NARROWER than '..Said'. Prove '..Said' where nothing that the law and all that it calls make is longer than what came in: it says more and counts as full. Else prove '..UptoSaid'. A law counts once. -/
mutual
def uptoBulk {H : Type} : DataW H → Nat
  | .lit (.string bytes) => bytes.length + 1
  | .lit _ => 1
  | .nil => 1
  | .ptr d => uptoBulk d + 1
  | .slice elems spare => uptoBulkAll elems + uptoBulkAll spare + 1
  | .agg parts => uptoBulkAll parts + 1
  | .iface _ d => uptoBulk d + 1
  | .map entries => uptoBulkEntries entries + 1
  | .held _ => 1
def uptoBulkAll {H : Type} : List (DataW H) → Nat
  | [] => 0
  | d :: r => uptoBulk d + uptoBulkAll r
def uptoBulkEntries {H : Type} : List (Lit × DataW H) → Nat
  | [] => 0
  | x :: r => uptoBulkEntry x + uptoBulkEntries r
def uptoBulkEntry {H : Type} : Lit × DataW H → Nat
  | (.string bytes, d) => bytes.length + uptoBulk d + 1
  | (_, d) => uptoBulk d + 1
 end
def uptoSmall : (H : Type) → List (DataW H) → Bool := fun _ ds => decide (uptoBulkAll ds ≤ 1048576)
def OpenSpec.upto (s : _root_.Go.ChangeSpec) : _root_.Go.OpenSpec := { _root_.Go.OpenSpec.ofChange s with cond := some uptoSmall }

/-- 'grottolaw15.ShelfBack', WHERE WHAT IT READS IS OF BULK AT MOST 1048576: true; the input reads as it did. -/
def shelfBackUptoRow : OpenClaim := { program := "ytpgedoljndppdaa", sum := "83d13c85d00cd4e754d614daf816601fa91dd6f39db6d7c7e49dc36cab71a4d0", func := "grotto/grottolaw15.ShelfBack", spec := "shelfBack", unfollowed := true, recurses := true, apart := false, narrowed := true }
def ShelfBackUptoSaid : Prop := shelfBackUptoRow.holds Try.pinned (OpenSpec.upto shelfBackSpec)

/-- 'grottolaw15.ShelfBuffers', WHERE WHAT IT READS IS OF BULK AT MOST 1048576: true; the input reads as it did. -/
def shelfBuffersUptoRow : OpenClaim := { program := "ytpgedoljndppdaa", sum := "83d13c85d00cd4e754d614daf816601fa91dd6f39db6d7c7e49dc36cab71a4d0", func := "grotto/grottolaw15.ShelfBuffers", spec := "shelfBuffers", unfollowed := true, recurses := true, apart := false, narrowed := true }
def ShelfBuffersUptoSaid : Prop := shelfBuffersUptoRow.holds Try.pinned (OpenSpec.upto shelfBuffersSpec)

/-- 'grottolaw15.ShelfLines', WHERE WHAT IT READS IS OF BULK AT MOST 1048576: true; the input reads as it did. -/
def shelfLinesUptoRow : OpenClaim := { program := "ytpgedoljndppdaa", sum := "83d13c85d00cd4e754d614daf816601fa91dd6f39db6d7c7e49dc36cab71a4d0", func := "grotto/grottolaw15.ShelfLines", spec := "shelfLines", unfollowed := true, recurses := true, apart := false, narrowed := true }
def ShelfLinesUptoSaid : Prop := shelfLinesUptoRow.holds Try.pinned (OpenSpec.upto shelfLinesSpec)

/-- 'grottolaw15.ShelfSeeks', WHERE WHAT IT READS IS OF BULK AT MOST 1048576: true; the input reads as it did. -/
def shelfSeeksUptoRow : OpenClaim := { program := "ytpgedoljndppdaa", sum := "83d13c85d00cd4e754d614daf816601fa91dd6f39db6d7c7e49dc36cab71a4d0", func := "grotto/grottolaw15.ShelfSeeks", spec := "shelfSeeks", unfollowed := true, recurses := true, apart := false, narrowed := true }
def ShelfSeeksUptoSaid : Prop := shelfSeeksUptoRow.holds Try.pinned (OpenSpec.upto shelfSeeksSpec)

/-- 'grottolaw15.ShelfWide', WHERE WHAT IT READS IS OF BULK AT MOST 1048576: true; the input reads as it did. -/
def shelfWideUptoRow : OpenClaim := { program := "ytpgedoljndppdaa", sum := "83d13c85d00cd4e754d614daf816601fa91dd6f39db6d7c7e49dc36cab71a4d0", func := "grotto/grottolaw15.ShelfWide", spec := "shelfWide", unfollowed := true, recurses := true, apart := false, narrowed := true }
def ShelfWideUptoSaid : Prop := shelfWideUptoRow.holds Try.pinned (OpenSpec.upto shelfWideSpec)

/-- 'grottolaw15.ShelfNil', WHERE WHAT IT READS IS OF BULK AT MOST 1048576: true; the input reads as it did. -/
def shelfNilUptoRow : OpenClaim := { program := "ytpgedoljndppdaa", sum := "83d13c85d00cd4e754d614daf816601fa91dd6f39db6d7c7e49dc36cab71a4d0", func := "grotto/grottolaw15.ShelfNil", spec := "shelfNil", unfollowed := true, recurses := true, apart := false, narrowed := true }
def ShelfNilUptoSaid : Prop := shelfNilUptoRow.holds Try.pinned (OpenSpec.upto shelfNilSpec)

end Rows
end Go.Proofs.Ytpgedoljndppdaa
