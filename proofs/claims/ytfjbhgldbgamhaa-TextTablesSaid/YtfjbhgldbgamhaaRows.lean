/-
  No cell of these rows narrows 'for every input' (looked for: loops, veiled, ifaces, maps, wideKeys, modest, calm, conditions, laid).
  DERIVED. THE GIVEN ROWS OF THIS SEAT. 6 by the template 'for every input the law returns true; each argument reads behind the call as it read before'; 0 by the template 'total and deterministic' (their statements: YtfjbhgldbgamhaaTotals.lean).
  GIVEN WITH THE SEED: the statements are not yours to turn. If you find one false, say at which input.
  Laid BY PROGRAM, IN A SANDBOX (cutbox-rows.mjs): the forced cells as the released guide's own fill.sh prints them over the translation 8a0e62db75514841… (all of the seat's roots in one cut). By AI agents, Wed Nov 11 2026. No macro, syntax, notation, axiom, sorry.
-/
import Derived.Test.YtfjbhgldbgamhaaChecked
import GoSem.Claim
import GoSem.ClaimJoined
import GoSem.ClaimMapViews
import Derived.JoinedTies
import Derived.KernelRfl
namespace Go.Proofs.Ytfjbhgldbgamhaa
/- THE CELL 'sum', in the pinned program and in every row, IS THE sha256 OF THE DUMP (.gsa) THAT YtfjbhgldbgamhaaProg.lean LOADS. Nothing in Lean hashes anything: it is a label: what it is worth is what the hold of that sum in a sandbox is worth. -/
noncomputable def Try.pinned : Pinned := { name := "ytfjbhgldbgamhaa", sum := "8a0e62db75514841dd24e7d887031a3b09c8850f84faac743bf23772ae4856c7", checked := Try.checked }
namespace Rows
def none {H : Type} : Left H := { results := [], args := [] }

/-- 'grottolaw12.TextTables': WHATEVER THE INPUT: true; the input reads as it did. -/
def textTablesSpec : ChangeSpec := { name := "textTables", fn := fun _ => fun
  | [d1, d2, d3] => { results := [.lit (.bool true)], args := [d1, d2, d3] }
  | _ => none }
def textTablesRow : OpenClaim := { program := "ytfjbhgldbgamhaa", sum := "8a0e62db75514841dd24e7d887031a3b09c8850f84faac743bf23772ae4856c7", func := "grotto/grottolaw12.TextTables", spec := "textTables", unfollowed := true, recurses := true, apart := false }
def TextTablesSaid : Prop := textTablesRow.holds Try.pinned (OpenSpec.ofChange textTablesSpec)

/-- ITS FALSE NEIGHBOUR: 'it returns false'. Refute it at one input. -/
def textTablesWrong : ChangeSpec := { name := "textTables", fn := fun _ => fun
  | [d1, d2, d3] => { results := [.lit (.bool false)], args := [d1, d2, d3] }
  | _ => none }
def TextTablesWrongFalsely : Prop := textTablesRow.holds Try.pinned (OpenSpec.ofChange textTablesWrong)

/-- 'grottolaw12.TextBack': WHATEVER THE INPUT: true; the input reads as it did. -/
def textBackSpec : ChangeSpec := { name := "textBack", fn := fun _ => fun
  | [d1, d2, d3, d4, d5] => { results := [.lit (.bool true)], args := [d1, d2, d3, d4, d5] }
  | _ => none }
def textBackRow : OpenClaim := { program := "ytfjbhgldbgamhaa", sum := "8a0e62db75514841dd24e7d887031a3b09c8850f84faac743bf23772ae4856c7", func := "grotto/grottolaw12.TextBack", spec := "textBack", unfollowed := true, recurses := true, apart := false }
def TextBackSaid : Prop := textBackRow.holds Try.pinned (OpenSpec.ofChange textBackSpec)

/-- ITS FALSE NEIGHBOUR: 'it returns false'. Refute it at one input. -/
def textBackWrong : ChangeSpec := { name := "textBack", fn := fun _ => fun
  | [d1, d2, d3, d4, d5] => { results := [.lit (.bool false)], args := [d1, d2, d3, d4, d5] }
  | _ => none }
def TextBackWrongFalsely : Prop := textBackRow.holds Try.pinned (OpenSpec.ofChange textBackWrong)

/-- 'grottolaw12.TextRows': WHATEVER THE INPUT: true; the input reads as it did. -/
def textRowsSpec : ChangeSpec := { name := "textRows", fn := fun _ => fun
  | [d1, d2, d3] => { results := [.lit (.bool true)], args := [d1, d2, d3] }
  | _ => none }
def textRowsRow : OpenClaim := { program := "ytfjbhgldbgamhaa", sum := "8a0e62db75514841dd24e7d887031a3b09c8850f84faac743bf23772ae4856c7", func := "grotto/grottolaw12.TextRows", spec := "textRows", unfollowed := true, recurses := true, apart := false }
def TextRowsSaid : Prop := textRowsRow.holds Try.pinned (OpenSpec.ofChange textRowsSpec)

/-- ITS FALSE NEIGHBOUR: 'it returns false'. Refute it at one input. -/
def textRowsWrong : ChangeSpec := { name := "textRows", fn := fun _ => fun
  | [d1, d2, d3] => { results := [.lit (.bool false)], args := [d1, d2, d3] }
  | _ => none }
def TextRowsWrongFalsely : Prop := textRowsRow.holds Try.pinned (OpenSpec.ofChange textRowsWrong)

/-- 'grottolaw12.TextPieces': WHATEVER THE INPUT: true; the input reads as it did. -/
def textPiecesSpec : ChangeSpec := { name := "textPieces", fn := fun _ => fun
  | [d1, d2, d3, d4, d5] => { results := [.lit (.bool true)], args := [d1, d2, d3, d4, d5] }
  | _ => none }
def textPiecesRow : OpenClaim := { program := "ytfjbhgldbgamhaa", sum := "8a0e62db75514841dd24e7d887031a3b09c8850f84faac743bf23772ae4856c7", func := "grotto/grottolaw12.TextPieces", spec := "textPieces", unfollowed := true, recurses := true, apart := false }
def TextPiecesSaid : Prop := textPiecesRow.holds Try.pinned (OpenSpec.ofChange textPiecesSpec)

/-- ITS FALSE NEIGHBOUR: 'it returns false'. Refute it at one input. -/
def textPiecesWrong : ChangeSpec := { name := "textPieces", fn := fun _ => fun
  | [d1, d2, d3, d4, d5] => { results := [.lit (.bool false)], args := [d1, d2, d3, d4, d5] }
  | _ => none }
def TextPiecesWrongFalsely : Prop := textPiecesRow.holds Try.pinned (OpenSpec.ofChange textPiecesWrong)

/-- 'grottolaw12.TextBeyond': WHATEVER THE INPUT: true; the input reads as it did. -/
def textBeyondSpec : ChangeSpec := { name := "textBeyond", fn := fun _ => fun
  | [d1, d2, d3, d4] => { results := [.lit (.bool true)], args := [d1, d2, d3, d4] }
  | _ => none }
def textBeyondRow : OpenClaim := { program := "ytfjbhgldbgamhaa", sum := "8a0e62db75514841dd24e7d887031a3b09c8850f84faac743bf23772ae4856c7", func := "grotto/grottolaw12.TextBeyond", spec := "textBeyond", unfollowed := true, recurses := true, apart := false }
def TextBeyondSaid : Prop := textBeyondRow.holds Try.pinned (OpenSpec.ofChange textBeyondSpec)

/-- ITS FALSE NEIGHBOUR: 'it returns false'. Refute it at one input. -/
def textBeyondWrong : ChangeSpec := { name := "textBeyond", fn := fun _ => fun
  | [d1, d2, d3, d4] => { results := [.lit (.bool false)], args := [d1, d2, d3, d4] }
  | _ => none }
def TextBeyondWrongFalsely : Prop := textBeyondRow.holds Try.pinned (OpenSpec.ofChange textBeyondWrong)

/-- 'grottolaw12.TextCuts': WHATEVER THE INPUT: true; the input reads as it did. -/
def textCutsSpec : ChangeSpec := { name := "textCuts", fn := fun _ => fun
  | [d1, d2, d3] => { results := [.lit (.bool true)], args := [d1, d2, d3] }
  | _ => none }
def textCutsRow : OpenClaim := { program := "ytfjbhgldbgamhaa", sum := "8a0e62db75514841dd24e7d887031a3b09c8850f84faac743bf23772ae4856c7", func := "grotto/grottolaw12.TextCuts", spec := "textCuts", unfollowed := true, recurses := true, apart := false }
def TextCutsSaid : Prop := textCutsRow.holds Try.pinned (OpenSpec.ofChange textCutsSpec)

/-- ITS FALSE NEIGHBOUR: 'it returns false'. Refute it at one input. -/
def textCutsWrong : ChangeSpec := { name := "textCuts", fn := fun _ => fun
  | [d1, d2, d3] => { results := [.lit (.bool false)], args := [d1, d2, d3] }
  | _ => none }
def TextCutsWrongFalsely : Prop := textCutsRow.holds Try.pinned (OpenSpec.ofChange textCutsWrong)

/- THE SECOND FORM. 'bulk': how many values and letters a reading holds, each counted each time it is reached (what is shared counts as often as it is met; a slice's spare places count too). A statement '..UptoSaid' is the law's where the arguments, and the package variables that the reading takes, are together of bulk at most 1048576: NARROWER than '..Said'. Prove '..Said' where nothing that the law and all that it calls make is longer than what came in: it says more and counts as full. Else prove '..UptoSaid'. A law counts once. -/
mutual
def uptoBulk {H : Type} : DataW H → Nat
  | .lit (.string bytes) => bytes.length + 1
  | .lit _ => 1
  | .nil => 1
  | .ptr d => uptoBulk d + 1
  | .slice elems spare => uptoBulkAll elems + uptoBulkAll spare + 1
  | .agg parts => uptoBulkAll parts + 1
  | .iface _ d => uptoBulk d + 1
  | .map entries => uptoBulkEntries entries + 1
  | .held _ => 1
def uptoBulkAll {H : Type} : List (DataW H) → Nat
  | [] => 0
  | d :: r => uptoBulk d + uptoBulkAll r
def uptoBulkEntries {H : Type} : List (Lit × DataW H) → Nat
  | [] => 0
  | x :: r => uptoBulkEntry x + uptoBulkEntries r
def uptoBulkEntry {H : Type} : Lit × DataW H → Nat
  | (.string bytes, d) => bytes.length + uptoBulk d + 1
  | (_, d) => uptoBulk d + 1
 end
def uptoSmall : (H : Type) → List (DataW H) → Bool := fun _ ds => decide (uptoBulkAll ds ≤ 1048576)
def OpenSpec.upto (s : _root_.Go.ChangeSpec) : _root_.Go.OpenSpec := { _root_.Go.OpenSpec.ofChange s with cond := some uptoSmall }

/-- 'grottolaw12.TextTables', WHERE WHAT IT READS IS OF BULK AT MOST 1048576: true; the input reads as it did. -/
def textTablesUptoRow : OpenClaim := { program := "ytfjbhgldbgamhaa", sum := "8a0e62db75514841dd24e7d887031a3b09c8850f84faac743bf23772ae4856c7", func := "grotto/grottolaw12.TextTables", spec := "textTables", unfollowed := true, recurses := true, apart := false, narrowed := true }
def TextTablesUptoSaid : Prop := textTablesUptoRow.holds Try.pinned (OpenSpec.upto textTablesSpec)

/-- 'grottolaw12.TextBack', WHERE WHAT IT READS IS OF BULK AT MOST 1048576: true; the input reads as it did. -/
def textBackUptoRow : OpenClaim := { program := "ytfjbhgldbgamhaa", sum := "8a0e62db75514841dd24e7d887031a3b09c8850f84faac743bf23772ae4856c7", func := "grotto/grottolaw12.TextBack", spec := "textBack", unfollowed := true, recurses := true, apart := false, narrowed := true }
def TextBackUptoSaid : Prop := textBackUptoRow.holds Try.pinned (OpenSpec.upto textBackSpec)

/-- 'grottolaw12.TextRows', WHERE WHAT IT READS IS OF BULK AT MOST 1048576: true; the input reads as it did. -/
def textRowsUptoRow : OpenClaim := { program := "ytfjbhgldbgamhaa", sum := "8a0e62db75514841dd24e7d887031a3b09c8850f84faac743bf23772ae4856c7", func := "grotto/grottolaw12.TextRows", spec := "textRows", unfollowed := true, recurses := true, apart := false, narrowed := true }
def TextRowsUptoSaid : Prop := textRowsUptoRow.holds Try.pinned (OpenSpec.upto textRowsSpec)

/-- 'grottolaw12.TextPieces', WHERE WHAT IT READS IS OF BULK AT MOST 1048576: true; the input reads as it did. -/
def textPiecesUptoRow : OpenClaim := { program := "ytfjbhgldbgamhaa", sum := "8a0e62db75514841dd24e7d887031a3b09c8850f84faac743bf23772ae4856c7", func := "grotto/grottolaw12.TextPieces", spec := "textPieces", unfollowed := true, recurses := true, apart := false, narrowed := true }
def TextPiecesUptoSaid : Prop := textPiecesUptoRow.holds Try.pinned (OpenSpec.upto textPiecesSpec)

/-- 'grottolaw12.TextBeyond', WHERE WHAT IT READS IS OF BULK AT MOST 1048576: true; the input reads as it did. -/
def textBeyondUptoRow : OpenClaim := { program := "ytfjbhgldbgamhaa", sum := "8a0e62db75514841dd24e7d887031a3b09c8850f84faac743bf23772ae4856c7", func := "grotto/grottolaw12.TextBeyond", spec := "textBeyond", unfollowed := true, recurses := true, apart := false, narrowed := true }
def TextBeyondUptoSaid : Prop := textBeyondUptoRow.holds Try.pinned (OpenSpec.upto textBeyondSpec)

/-- 'grottolaw12.TextCuts', WHERE WHAT IT READS IS OF BULK AT MOST 1048576: true; the input reads as it did. -/
def textCutsUptoRow : OpenClaim := { program := "ytfjbhgldbgamhaa", sum := "8a0e62db75514841dd24e7d887031a3b09c8850f84faac743bf23772ae4856c7", func := "grotto/grottolaw12.TextCuts", spec := "textCuts", unfollowed := true, recurses := true, apart := false, narrowed := true }
def TextCutsUptoSaid : Prop := textCutsUptoRow.holds Try.pinned (OpenSpec.upto textCutsSpec)

end Rows
end Go.Proofs.Ytfjbhgldbgamhaa
