/-
  No cell of these rows narrows 'for every input' (looked for: loops, veiled, ifaces, maps, wideKeys, modest, calm, conditions, laid).
  DERIVED. THE GIVEN ROWS OF THIS SEAT. 9 by the template 'for every input the law returns true; each argument reads behind the call as it read before'; 0 by the template 'total and deterministic' (their statements: YtlofpopejkohbaaGreatTotals.lean).
  GIVEN WITH THE SEED: the statements are not yours to turn. If you find one false, say at which input.
  Laid BY PROGRAM, IN A SANDBOX (cutbox-rows.mjs): the forced cells as the released guide's own fill.sh prints them over the translation e154661d080f6964… (all of the seat's roots in one cut). By AI agents, Wed Nov 11 2026. No macro, syntax, notation, axiom, sorry.
-/
import Derived.Test.YtlofpopejkohbaaGreatChecked
import GoSem.Claim
import GoSem.ClaimJoined
import GoSem.ClaimMapViews
import Derived.JoinedTies
import Derived.KernelRfl
namespace Go.Proofs.YtlofpopejkohbaaGreat
/- THE CELL 'sum', in the pinned program and in every row, IS THE sha256 OF THE DUMP (.gsa) THAT YtlofpopejkohbaaGreatProg.lean LOADS. Nothing in Lean hashes anything: it is a label: what it is worth is what the hold of that sum in a sandbox is worth. -/
noncomputable def Tryz.pinned : Pinned := { name := "ytlofpopejkohbaagreat", sum := "e154661d080f6964c3bb154b612bdf3da9df7b6dfa27ff742b120261ee809d23", checked := Tryz.checked }
namespace Rows
def none {H : Type} : Left H := { results := [], args := [] }

/-- 'grottolaw16.GlkPrints': WHATEVER THE INPUT: true; the input reads as it did. -/
def glkPrintsSpec : ChangeSpec := { name := "glkPrints", fn := fun _ => fun
  | [d1, d2] => { results := [.lit (.bool true)], args := [d1, d2] }
  | _ => none }
def glkPrintsRow : OpenClaim := { program := "ytlofpopejkohbaagreat", sum := "e154661d080f6964c3bb154b612bdf3da9df7b6dfa27ff742b120261ee809d23", func := "grotto/grottolaw16.GlkPrints", spec := "glkPrints", inPlace := ["sync/atomic.AddUint32"], unfollowed := true, recurses := true, plainKeys := false, apart := false }
def GlkPrintsSaid : Prop := glkPrintsRow.holds Tryz.pinned (OpenSpec.ofChange glkPrintsSpec)

/-- ITS FALSE NEIGHBOUR: 'it returns false'. Refute it at one input. -/
def glkPrintsWrong : ChangeSpec := { name := "glkPrints", fn := fun _ => fun
  | [d1, d2] => { results := [.lit (.bool false)], args := [d1, d2] }
  | _ => none }
def GlkPrintsWrongFalsely : Prop := glkPrintsRow.holds Tryz.pinned (OpenSpec.ofChange glkPrintsWrong)

/-- 'grottolaw16.GlkMemory': WHATEVER THE INPUT: true; the input reads as it did. -/
def glkMemorySpec : ChangeSpec := { name := "glkMemory", fn := fun _ => fun
  | [d1, d2, d3, d4] => { results := [.lit (.bool true)], args := [d1, d2, d3, d4] }
  | _ => none }
def glkMemoryRow : OpenClaim := { program := "ytlofpopejkohbaagreat", sum := "e154661d080f6964c3bb154b612bdf3da9df7b6dfa27ff742b120261ee809d23", func := "grotto/grottolaw16.GlkMemory", spec := "glkMemory", inPlace := ["sync/atomic.AddUint32"], unfollowed := true, recurses := true, plainKeys := false, apart := false }
def GlkMemorySaid : Prop := glkMemoryRow.holds Tryz.pinned (OpenSpec.ofChange glkMemorySpec)

/-- ITS FALSE NEIGHBOUR: 'it returns false'. Refute it at one input. -/
def glkMemoryWrong : ChangeSpec := { name := "glkMemory", fn := fun _ => fun
  | [d1, d2, d3, d4] => { results := [.lit (.bool false)], args := [d1, d2, d3, d4] }
  | _ => none }
def GlkMemoryWrongFalsely : Prop := glkMemoryRow.holds Tryz.pinned (OpenSpec.ofChange glkMemoryWrong)

/-- 'grottolaw16.GlkIds': WHATEVER THE INPUT: true; the input reads as it did. -/
def glkIdsSpec : ChangeSpec := { name := "glkIds", fn := fun _ => fun
  | [d] => { results := [.lit (.bool true)], args := [d] }
  | _ => none }
def glkIdsRow : OpenClaim := { program := "ytlofpopejkohbaagreat", sum := "e154661d080f6964c3bb154b612bdf3da9df7b6dfa27ff742b120261ee809d23", func := "grotto/grottolaw16.GlkIds", spec := "glkIds", inPlace := ["sync/atomic.AddUint32"], unfollowed := true, recurses := true, plainKeys := false, apart := false }
def GlkIdsSaid : Prop := glkIdsRow.holds Tryz.pinned (OpenSpec.ofChange glkIdsSpec)

/-- ITS FALSE NEIGHBOUR: 'it returns false'. Refute it at one input. -/
def glkIdsWrong : ChangeSpec := { name := "glkIds", fn := fun _ => fun
  | [d] => { results := [.lit (.bool false)], args := [d] }
  | _ => none }
def GlkIdsWrongFalsely : Prop := glkIdsRow.holds Tryz.pinned (OpenSpec.ofChange glkIdsWrong)

/-- 'grottolaw16.GlkFiles': WHATEVER THE INPUT: true; the input reads as it did. -/
def glkFilesSpec : ChangeSpec := { name := "glkFiles", fn := fun _ => fun
  | [d1, d2, d3] => { results := [.lit (.bool true)], args := [d1, d2, d3] }
  | _ => none }
def glkFilesRow : OpenClaim := { program := "ytlofpopejkohbaagreat", sum := "e154661d080f6964c3bb154b612bdf3da9df7b6dfa27ff742b120261ee809d23", func := "grotto/grottolaw16.GlkFiles", spec := "glkFiles", inPlace := ["sync/atomic.AddUint32"], unfollowed := true, recurses := true, plainKeys := false, apart := false }
def GlkFilesSaid : Prop := glkFilesRow.holds Tryz.pinned (OpenSpec.ofChange glkFilesSpec)

/-- ITS FALSE NEIGHBOUR: 'it returns false'. Refute it at one input. -/
def glkFilesWrong : ChangeSpec := { name := "glkFiles", fn := fun _ => fun
  | [d1, d2, d3] => { results := [.lit (.bool false)], args := [d1, d2, d3] }
  | _ => none }
def GlkFilesWrongFalsely : Prop := glkFilesRow.holds Tryz.pinned (OpenSpec.ofChange glkFilesWrong)

/-- 'grottolaw16.GlkLines': WHATEVER THE INPUT: true; the input reads as it did. -/
def glkLinesSpec : ChangeSpec := { name := "glkLines", fn := fun _ => fun
  | [d1, d2] => { results := [.lit (.bool true)], args := [d1, d2] }
  | _ => none }
def glkLinesRow : OpenClaim := { program := "ytlofpopejkohbaagreat", sum := "e154661d080f6964c3bb154b612bdf3da9df7b6dfa27ff742b120261ee809d23", func := "grotto/grottolaw16.GlkLines", spec := "glkLines", inPlace := ["sync/atomic.AddUint32"], unfollowed := true, recurses := true, plainKeys := false, apart := false }
def GlkLinesSaid : Prop := glkLinesRow.holds Tryz.pinned (OpenSpec.ofChange glkLinesSpec)

/-- ITS FALSE NEIGHBOUR: 'it returns false'. Refute it at one input. -/
def glkLinesWrong : ChangeSpec := { name := "glkLines", fn := fun _ => fun
  | [d1, d2] => { results := [.lit (.bool false)], args := [d1, d2] }
  | _ => none }
def GlkLinesWrongFalsely : Prop := glkLinesRow.holds Tryz.pinned (OpenSpec.ofChange glkLinesWrong)

/-- 'grottolaw16.GlkGrid': WHATEVER THE INPUT: true; the input reads as it did. -/
def glkGridSpec : ChangeSpec := { name := "glkGrid", fn := fun _ => fun
  | [d1, d2, d3, d4, d5] => { results := [.lit (.bool true)], args := [d1, d2, d3, d4, d5] }
  | _ => none }
def glkGridRow : OpenClaim := { program := "ytlofpopejkohbaagreat", sum := "e154661d080f6964c3bb154b612bdf3da9df7b6dfa27ff742b120261ee809d23", func := "grotto/grottolaw16.GlkGrid", spec := "glkGrid", inPlace := ["sync/atomic.AddUint32"], unfollowed := true, recurses := true, plainKeys := false, apart := false }
def GlkGridSaid : Prop := glkGridRow.holds Tryz.pinned (OpenSpec.ofChange glkGridSpec)

/-- ITS FALSE NEIGHBOUR: 'it returns false'. Refute it at one input. -/
def glkGridWrong : ChangeSpec := { name := "glkGrid", fn := fun _ => fun
  | [d1, d2, d3, d4, d5] => { results := [.lit (.bool false)], args := [d1, d2, d3, d4, d5] }
  | _ => none }
def GlkGridWrongFalsely : Prop := glkGridRow.holds Tryz.pinned (OpenSpec.ofChange glkGridWrong)

/-- 'grottolaw16.GlkWrong': WHATEVER THE INPUT: true; the input reads as it did. -/
def glkWrongSpec : ChangeSpec := { name := "glkWrong", fn := fun _ => fun
  | [d1, d2, d3] => { results := [.lit (.bool true)], args := [d1, d2, d3] }
  | _ => none }
def glkWrongRow : OpenClaim := { program := "ytlofpopejkohbaagreat", sum := "e154661d080f6964c3bb154b612bdf3da9df7b6dfa27ff742b120261ee809d23", func := "grotto/grottolaw16.GlkWrong", spec := "glkWrong", inPlace := ["sync/atomic.AddUint32"], unfollowed := true, recurses := true, plainKeys := false, apart := false }
def GlkWrongSaid : Prop := glkWrongRow.holds Tryz.pinned (OpenSpec.ofChange glkWrongSpec)

/-- ITS FALSE NEIGHBOUR: 'it returns false'. Refute it at one input. -/
def glkWrongWrong : ChangeSpec := { name := "glkWrong", fn := fun _ => fun
  | [d1, d2, d3] => { results := [.lit (.bool false)], args := [d1, d2, d3] }
  | _ => none }
def GlkWrongWrongFalsely : Prop := glkWrongRow.holds Tryz.pinned (OpenSpec.ofChange glkWrongWrong)

/-- 'grottolaw16.GlkOver': WHATEVER THE INPUT: true; the input reads as it did. -/
def glkOverSpec : ChangeSpec := { name := "glkOver", fn := fun _ => fun
  | [d1, d2, d3] => { results := [.lit (.bool true)], args := [d1, d2, d3] }
  | _ => none }
def glkOverRow : OpenClaim := { program := "ytlofpopejkohbaagreat", sum := "e154661d080f6964c3bb154b612bdf3da9df7b6dfa27ff742b120261ee809d23", func := "grotto/grottolaw16.GlkOver", spec := "glkOver", inPlace := ["sync/atomic.AddUint32"], unfollowed := true, recurses := true, plainKeys := false, apart := false }
def GlkOverSaid : Prop := glkOverRow.holds Tryz.pinned (OpenSpec.ofChange glkOverSpec)

/-- ITS FALSE NEIGHBOUR: 'it returns false'. Refute it at one input. -/
def glkOverWrong : ChangeSpec := { name := "glkOver", fn := fun _ => fun
  | [d1, d2, d3] => { results := [.lit (.bool false)], args := [d1, d2, d3] }
  | _ => none }
def GlkOverWrongFalsely : Prop := glkOverRow.holds Tryz.pinned (OpenSpec.ofChange glkOverWrong)

/-- 'grottolaw16.GlkWhole': WHATEVER THE INPUT: true; the input reads as it did. -/
def glkWholeSpec : ChangeSpec := { name := "glkWhole", fn := fun _ => fun
  | [d1, d2, d3, d4] => { results := [.lit (.bool true)], args := [d1, d2, d3, d4] }
  | _ => none }
def glkWholeRow : OpenClaim := { program := "ytlofpopejkohbaagreat", sum := "e154661d080f6964c3bb154b612bdf3da9df7b6dfa27ff742b120261ee809d23", func := "grotto/grottolaw16.GlkWhole", spec := "glkWhole", inPlace := ["sync/atomic.AddUint32"], unfollowed := true, recurses := true, plainKeys := false, apart := false }
def GlkWholeSaid : Prop := glkWholeRow.holds Tryz.pinned (OpenSpec.ofChange glkWholeSpec)

/-- ITS FALSE NEIGHBOUR: 'it returns false'. Refute it at one input. -/
def glkWholeWrong : ChangeSpec := { name := "glkWhole", fn := fun _ => fun
  | [d1, d2, d3, d4] => { results := [.lit (.bool false)], args := [d1, d2, d3, d4] }
  | _ => none }
def GlkWholeWrongFalsely : Prop := glkWholeRow.holds Tryz.pinned (OpenSpec.ofChange glkWholeWrong)

/- THE SECOND FORM. 'bulk': how many values and letters a reading holds, each counted each time it is reached (what is shared counts as often as it is met; a slice's spare places count too). A statement '..UptoSaid' is the law's where the arguments, and the package variables that the reading takes, are together of bulk at most 1048576: NARROWER than '..Said'. Prove '..Said' where nothing that the law and all that it calls make is longer than what came in: it says more and counts as full. Else prove '..UptoSaid'. A law counts once. -/
mutual
def uptoBulk {H : Type} : DataW H → Nat
  | .lit (.string bytes) => bytes.length + 1
  | .lit _ => 1
  | .nil => 1
  | .ptr d => uptoBulk d + 1
  | .slice elems spare => uptoBulkAll elems + uptoBulkAll spare + 1
  | .agg parts => uptoBulkAll parts + 1
  | .iface _ d => uptoBulk d + 1
  | .map entries => uptoBulkEntries entries + 1
  | .held _ => 1
def uptoBulkAll {H : Type} : List (DataW H) → Nat
  | [] => 0
  | d :: r => uptoBulk d + uptoBulkAll r
def uptoBulkEntries {H : Type} : List (Lit × DataW H) → Nat
  | [] => 0
  | x :: r => uptoBulkEntry x + uptoBulkEntries r
def uptoBulkEntry {H : Type} : Lit × DataW H → Nat
  | (.string bytes, d) => bytes.length + uptoBulk d + 1
  | (_, d) => uptoBulk d + 1
 end
def uptoSmall : (H : Type) → List (DataW H) → Bool := fun _ ds => decide (uptoBulkAll ds ≤ 1048576)
def OpenSpec.upto (s : _root_.Go.ChangeSpec) : _root_.Go.OpenSpec := { _root_.Go.OpenSpec.ofChange s with cond := some uptoSmall }

/-- 'grottolaw16.GlkPrints', WHERE WHAT IT READS IS OF BULK AT MOST 1048576: true; the input reads as it did. -/
def glkPrintsUptoRow : OpenClaim := { program := "ytlofpopejkohbaagreat", sum := "e154661d080f6964c3bb154b612bdf3da9df7b6dfa27ff742b120261ee809d23", func := "grotto/grottolaw16.GlkPrints", spec := "glkPrints", inPlace := ["sync/atomic.AddUint32"], unfollowed := true, recurses := true, plainKeys := false, apart := false, narrowed := true }
def GlkPrintsUptoSaid : Prop := glkPrintsUptoRow.holds Tryz.pinned (OpenSpec.upto glkPrintsSpec)

/-- 'grottolaw16.GlkMemory', WHERE WHAT IT READS IS OF BULK AT MOST 1048576: true; the input reads as it did. -/
def glkMemoryUptoRow : OpenClaim := { program := "ytlofpopejkohbaagreat", sum := "e154661d080f6964c3bb154b612bdf3da9df7b6dfa27ff742b120261ee809d23", func := "grotto/grottolaw16.GlkMemory", spec := "glkMemory", inPlace := ["sync/atomic.AddUint32"], unfollowed := true, recurses := true, plainKeys := false, apart := false, narrowed := true }
def GlkMemoryUptoSaid : Prop := glkMemoryUptoRow.holds Tryz.pinned (OpenSpec.upto glkMemorySpec)

/-- 'grottolaw16.GlkIds', WHERE WHAT IT READS IS OF BULK AT MOST 1048576: true; the input reads as it did. -/
def glkIdsUptoRow : OpenClaim := { program := "ytlofpopejkohbaagreat", sum := "e154661d080f6964c3bb154b612bdf3da9df7b6dfa27ff742b120261ee809d23", func := "grotto/grottolaw16.GlkIds", spec := "glkIds", inPlace := ["sync/atomic.AddUint32"], unfollowed := true, recurses := true, plainKeys := false, apart := false, narrowed := true }
def GlkIdsUptoSaid : Prop := glkIdsUptoRow.holds Tryz.pinned (OpenSpec.upto glkIdsSpec)

/-- 'grottolaw16.GlkFiles', WHERE WHAT IT READS IS OF BULK AT MOST 1048576: true; the input reads as it did. -/
def glkFilesUptoRow : OpenClaim := { program := "ytlofpopejkohbaagreat", sum := "e154661d080f6964c3bb154b612bdf3da9df7b6dfa27ff742b120261ee809d23", func := "grotto/grottolaw16.GlkFiles", spec := "glkFiles", inPlace := ["sync/atomic.AddUint32"], unfollowed := true, recurses := true, plainKeys := false, apart := false, narrowed := true }
def GlkFilesUptoSaid : Prop := glkFilesUptoRow.holds Tryz.pinned (OpenSpec.upto glkFilesSpec)

/-- 'grottolaw16.GlkLines', WHERE WHAT IT READS IS OF BULK AT MOST 1048576: true; the input reads as it did. -/
def glkLinesUptoRow : OpenClaim := { program := "ytlofpopejkohbaagreat", sum := "e154661d080f6964c3bb154b612bdf3da9df7b6dfa27ff742b120261ee809d23", func := "grotto/grottolaw16.GlkLines", spec := "glkLines", inPlace := ["sync/atomic.AddUint32"], unfollowed := true, recurses := true, plainKeys := false, apart := false, narrowed := true }
def GlkLinesUptoSaid : Prop := glkLinesUptoRow.holds Tryz.pinned (OpenSpec.upto glkLinesSpec)

/-- 'grottolaw16.GlkGrid', WHERE WHAT IT READS IS OF BULK AT MOST 1048576: true; the input reads as it did. -/
def glkGridUptoRow : OpenClaim := { program := "ytlofpopejkohbaagreat", sum := "e154661d080f6964c3bb154b612bdf3da9df7b6dfa27ff742b120261ee809d23", func := "grotto/grottolaw16.GlkGrid", spec := "glkGrid", inPlace := ["sync/atomic.AddUint32"], unfollowed := true, recurses := true, plainKeys := false, apart := false, narrowed := true }
def GlkGridUptoSaid : Prop := glkGridUptoRow.holds Tryz.pinned (OpenSpec.upto glkGridSpec)

/-- 'grottolaw16.GlkWrong', WHERE WHAT IT READS IS OF BULK AT MOST 1048576: true; the input reads as it did. -/
def glkWrongUptoRow : OpenClaim := { program := "ytlofpopejkohbaagreat", sum := "e154661d080f6964c3bb154b612bdf3da9df7b6dfa27ff742b120261ee809d23", func := "grotto/grottolaw16.GlkWrong", spec := "glkWrong", inPlace := ["sync/atomic.AddUint32"], unfollowed := true, recurses := true, plainKeys := false, apart := false, narrowed := true }
def GlkWrongUptoSaid : Prop := glkWrongUptoRow.holds Tryz.pinned (OpenSpec.upto glkWrongSpec)

/-- 'grottolaw16.GlkOver', WHERE WHAT IT READS IS OF BULK AT MOST 1048576: true; the input reads as it did. -/
def glkOverUptoRow : OpenClaim := { program := "ytlofpopejkohbaagreat", sum := "e154661d080f6964c3bb154b612bdf3da9df7b6dfa27ff742b120261ee809d23", func := "grotto/grottolaw16.GlkOver", spec := "glkOver", inPlace := ["sync/atomic.AddUint32"], unfollowed := true, recurses := true, plainKeys := false, apart := false, narrowed := true }
def GlkOverUptoSaid : Prop := glkOverUptoRow.holds Tryz.pinned (OpenSpec.upto glkOverSpec)

/-- 'grottolaw16.GlkWhole', WHERE WHAT IT READS IS OF BULK AT MOST 1048576: true; the input reads as it did. -/
def glkWholeUptoRow : OpenClaim := { program := "ytlofpopejkohbaagreat", sum := "e154661d080f6964c3bb154b612bdf3da9df7b6dfa27ff742b120261ee809d23", func := "grotto/grottolaw16.GlkWhole", spec := "glkWhole", inPlace := ["sync/atomic.AddUint32"], unfollowed := true, recurses := true, plainKeys := false, apart := false, narrowed := true }
def GlkWholeUptoSaid : Prop := glkWholeUptoRow.holds Tryz.pinned (OpenSpec.upto glkWholeSpec)

end Rows
end Go.Proofs.YtlofpopejkohbaaGreat
