/-
  No cell of these rows narrows 'for every input' (looked for: loops, veiled, ifaces, maps, wideKeys, modest, calm, conditions, laid).
  DERIVED. THE GIVEN ROWS OF THIS SEAT. 10 by the template 'for every input the law returns true; each argument reads behind the call as it read before'; 0 by the template 'total and deterministic' (their statements: YtcjicaolgjialaaTotals.lean).
  GIVEN WITH THE SEED: the statements are not yours to turn. If you find one false, say at which input.
  Laid BY PROGRAM, IN A SANDBOX (cutbox-rows.mjs): the forced cells as the released guide's own fill.sh prints them over the translation 5a5b592441029b5c… (all of the seat's roots in one cut). By AI agents, Wed Nov 11 2026. No macro, syntax, notation, axiom, sorry.
-/
import Derived.Test.YtcjicaolgjialaaChecked
import GoSem.Claim
import GoSem.ClaimJoined
import GoSem.ClaimMapViews
import Derived.JoinedTies
import Derived.KernelRfl
namespace Go.Proofs.Ytcjicaolgjialaa
/- THE CELL 'sum', in the pinned program and in every row, IS THE sha256 OF THE DUMP (.gsa) THAT YtcjicaolgjialaaProg.lean LOADS. Nothing in Lean hashes anything: it is a label: what it is worth is what the hold of that sum in a sandbox is worth. -/
noncomputable def Try.pinned : Pinned := { name := "ytcjicaolgjialaa", sum := "5a5b592441029b5c92d24e642e6bcac608087ccbb1914bd5a6e680a49c762288", checked := Try.checked }
namespace Rows
def none {H : Type} : Left H := { results := [], args := [] }

/-- 'grottolaw14.PaneTiles': WHATEVER THE INPUT: true; the input reads as it did. -/
def paneTilesSpec : ChangeSpec := { name := "paneTiles", fn := fun _ => fun
  | [d1, d2, d3] => { results := [.lit (.bool true)], args := [d1, d2, d3] }
  | _ => none }
def paneTilesRow : OpenClaim := { program := "ytcjicaolgjialaa", sum := "5a5b592441029b5c92d24e642e6bcac608087ccbb1914bd5a6e680a49c762288", func := "grotto/grottolaw14.PaneTiles", spec := "paneTiles", recurses := true, apart := false }
def PaneTilesSaid : Prop := paneTilesRow.holds Try.pinned (OpenSpec.ofChange paneTilesSpec)

/-- ITS FALSE NEIGHBOUR: 'it returns false'. Refute it at one input. -/
def paneTilesWrong : ChangeSpec := { name := "paneTiles", fn := fun _ => fun
  | [d1, d2, d3] => { results := [.lit (.bool false)], args := [d1, d2, d3] }
  | _ => none }
def PaneTilesWrongFalsely : Prop := paneTilesRow.holds Try.pinned (OpenSpec.ofChange paneTilesWrong)

/-- 'grottolaw14.PaneOpens': WHATEVER THE INPUT: true; the input reads as it did. -/
def paneOpensSpec : ChangeSpec := { name := "paneOpens", fn := fun _ => fun
  | [d1, d2, d3, d4, d5, d6] => { results := [.lit (.bool true)], args := [d1, d2, d3, d4, d5, d6] }
  | _ => none }
def paneOpensRow : OpenClaim := { program := "ytcjicaolgjialaa", sum := "5a5b592441029b5c92d24e642e6bcac608087ccbb1914bd5a6e680a49c762288", func := "grotto/grottolaw14.PaneOpens", spec := "paneOpens", recurses := true, apart := false }
def PaneOpensSaid : Prop := paneOpensRow.holds Try.pinned (OpenSpec.ofChange paneOpensSpec)

/-- ITS FALSE NEIGHBOUR: 'it returns false'. Refute it at one input. -/
def paneOpensWrong : ChangeSpec := { name := "paneOpens", fn := fun _ => fun
  | [d1, d2, d3, d4, d5, d6] => { results := [.lit (.bool false)], args := [d1, d2, d3, d4, d5, d6] }
  | _ => none }
def PaneOpensWrongFalsely : Prop := paneOpensRow.holds Try.pinned (OpenSpec.ofChange paneOpensWrong)

/-- 'grottolaw14.PaneFamily': WHATEVER THE INPUT: true; the input reads as it did. -/
def paneFamilySpec : ChangeSpec := { name := "paneFamily", fn := fun _ => fun
  | [d1, d2, d3] => { results := [.lit (.bool true)], args := [d1, d2, d3] }
  | _ => none }
def paneFamilyRow : OpenClaim := { program := "ytcjicaolgjialaa", sum := "5a5b592441029b5c92d24e642e6bcac608087ccbb1914bd5a6e680a49c762288", func := "grotto/grottolaw14.PaneFamily", spec := "paneFamily", recurses := true, apart := false }
def PaneFamilySaid : Prop := paneFamilyRow.holds Try.pinned (OpenSpec.ofChange paneFamilySpec)

/-- ITS FALSE NEIGHBOUR: 'it returns false'. Refute it at one input. -/
def paneFamilyWrong : ChangeSpec := { name := "paneFamily", fn := fun _ => fun
  | [d1, d2, d3] => { results := [.lit (.bool false)], args := [d1, d2, d3] }
  | _ => none }
def PaneFamilyWrongFalsely : Prop := paneFamilyRow.holds Try.pinned (OpenSpec.ofChange paneFamilyWrong)

/-- 'grottolaw14.PaneGone': WHATEVER THE INPUT: true; the input reads as it did. -/
def paneGoneSpec : ChangeSpec := { name := "paneGone", fn := fun _ => fun
  | [d1, d2, d3, d4] => { results := [.lit (.bool true)], args := [d1, d2, d3, d4] }
  | _ => none }
def paneGoneRow : OpenClaim := { program := "ytcjicaolgjialaa", sum := "5a5b592441029b5c92d24e642e6bcac608087ccbb1914bd5a6e680a49c762288", func := "grotto/grottolaw14.PaneGone", spec := "paneGone", recurses := true, apart := false }
def PaneGoneSaid : Prop := paneGoneRow.holds Try.pinned (OpenSpec.ofChange paneGoneSpec)

/-- ITS FALSE NEIGHBOUR: 'it returns false'. Refute it at one input. -/
def paneGoneWrong : ChangeSpec := { name := "paneGone", fn := fun _ => fun
  | [d1, d2, d3, d4] => { results := [.lit (.bool false)], args := [d1, d2, d3, d4] }
  | _ => none }
def PaneGoneWrongFalsely : Prop := paneGoneRow.holds Try.pinned (OpenSpec.ofChange paneGoneWrong)

/-- 'grottolaw14.PanePlays': WHATEVER THE INPUT: true; the input reads as it did. -/
def panePlaysSpec : ChangeSpec := { name := "panePlays", fn := fun _ => fun
  | [d1, d2, d3] => { results := [.lit (.bool true)], args := [d1, d2, d3] }
  | _ => none }
def panePlaysRow : OpenClaim := { program := "ytcjicaolgjialaa", sum := "5a5b592441029b5c92d24e642e6bcac608087ccbb1914bd5a6e680a49c762288", func := "grotto/grottolaw14.PanePlays", spec := "panePlays", recurses := true, apart := false }
def PanePlaysSaid : Prop := panePlaysRow.holds Try.pinned (OpenSpec.ofChange panePlaysSpec)

/-- ITS FALSE NEIGHBOUR: 'it returns false'. Refute it at one input. -/
def panePlaysWrong : ChangeSpec := { name := "panePlays", fn := fun _ => fun
  | [d1, d2, d3] => { results := [.lit (.bool false)], args := [d1, d2, d3] }
  | _ => none }
def PanePlaysWrongFalsely : Prop := panePlaysRow.holds Try.pinned (OpenSpec.ofChange panePlaysWrong)

/-- 'grottolaw14.PaneCloses': WHATEVER THE INPUT: true; the input reads as it did. -/
def paneClosesSpec : ChangeSpec := { name := "paneCloses", fn := fun _ => fun
  | [d1, d2, d3, d4] => { results := [.lit (.bool true)], args := [d1, d2, d3, d4] }
  | _ => none }
def paneClosesRow : OpenClaim := { program := "ytcjicaolgjialaa", sum := "5a5b592441029b5c92d24e642e6bcac608087ccbb1914bd5a6e680a49c762288", func := "grotto/grottolaw14.PaneCloses", spec := "paneCloses", recurses := true, apart := false }
def PaneClosesSaid : Prop := paneClosesRow.holds Try.pinned (OpenSpec.ofChange paneClosesSpec)

/-- ITS FALSE NEIGHBOUR: 'it returns false'. Refute it at one input. -/
def paneClosesWrong : ChangeSpec := { name := "paneCloses", fn := fun _ => fun
  | [d1, d2, d3, d4] => { results := [.lit (.bool false)], args := [d1, d2, d3, d4] }
  | _ => none }
def PaneClosesWrongFalsely : Prop := paneClosesRow.holds Try.pinned (OpenSpec.ofChange paneClosesWrong)

/-- 'grottolaw14.PaneArranges': WHATEVER THE INPUT: true; the input reads as it did. -/
def paneArrangesSpec : ChangeSpec := { name := "paneArranges", fn := fun _ => fun
  | [d1, d2, d3, d4] => { results := [.lit (.bool true)], args := [d1, d2, d3, d4] }
  | _ => none }
def paneArrangesRow : OpenClaim := { program := "ytcjicaolgjialaa", sum := "5a5b592441029b5c92d24e642e6bcac608087ccbb1914bd5a6e680a49c762288", func := "grotto/grottolaw14.PaneArranges", spec := "paneArranges", recurses := true, apart := false }
def PaneArrangesSaid : Prop := paneArrangesRow.holds Try.pinned (OpenSpec.ofChange paneArrangesSpec)

/-- ITS FALSE NEIGHBOUR: 'it returns false'. Refute it at one input. -/
def paneArrangesWrong : ChangeSpec := { name := "paneArranges", fn := fun _ => fun
  | [d1, d2, d3, d4] => { results := [.lit (.bool false)], args := [d1, d2, d3, d4] }
  | _ => none }
def PaneArrangesWrongFalsely : Prop := paneArrangesRow.holds Try.pinned (OpenSpec.ofChange paneArrangesWrong)

/-- 'grottolaw14.PaneResizes': WHATEVER THE INPUT: true; the input reads as it did. -/
def paneResizesSpec : ChangeSpec := { name := "paneResizes", fn := fun _ => fun
  | [d1, d2, d3, d4, d5] => { results := [.lit (.bool true)], args := [d1, d2, d3, d4, d5] }
  | _ => none }
def paneResizesRow : OpenClaim := { program := "ytcjicaolgjialaa", sum := "5a5b592441029b5c92d24e642e6bcac608087ccbb1914bd5a6e680a49c762288", func := "grotto/grottolaw14.PaneResizes", spec := "paneResizes", recurses := true, apart := false }
def PaneResizesSaid : Prop := paneResizesRow.holds Try.pinned (OpenSpec.ofChange paneResizesSpec)

/-- ITS FALSE NEIGHBOUR: 'it returns false'. Refute it at one input. -/
def paneResizesWrong : ChangeSpec := { name := "paneResizes", fn := fun _ => fun
  | [d1, d2, d3, d4, d5] => { results := [.lit (.bool false)], args := [d1, d2, d3, d4, d5] }
  | _ => none }
def PaneResizesWrongFalsely : Prop := paneResizesRow.holds Try.pinned (OpenSpec.ofChange paneResizesWrong)

/-- 'grottolaw14.PaneRefuses': WHATEVER THE INPUT: true; the input reads as it did. -/
def paneRefusesSpec : ChangeSpec := { name := "paneRefuses", fn := fun _ => fun
  | [d1, d2, d3, d4] => { results := [.lit (.bool true)], args := [d1, d2, d3, d4] }
  | _ => none }
def paneRefusesRow : OpenClaim := { program := "ytcjicaolgjialaa", sum := "5a5b592441029b5c92d24e642e6bcac608087ccbb1914bd5a6e680a49c762288", func := "grotto/grottolaw14.PaneRefuses", spec := "paneRefuses", recurses := true, apart := false }
def PaneRefusesSaid : Prop := paneRefusesRow.holds Try.pinned (OpenSpec.ofChange paneRefusesSpec)

/-- ITS FALSE NEIGHBOUR: 'it returns false'. Refute it at one input. -/
def paneRefusesWrong : ChangeSpec := { name := "paneRefuses", fn := fun _ => fun
  | [d1, d2, d3, d4] => { results := [.lit (.bool false)], args := [d1, d2, d3, d4] }
  | _ => none }
def PaneRefusesWrongFalsely : Prop := paneRefusesRow.holds Try.pinned (OpenSpec.ofChange paneRefusesWrong)

/-- 'grottolaw14.PaneNil': WHATEVER THE INPUT: true; the input reads as it did. -/
def paneNilSpec : ChangeSpec := { name := "paneNil", fn := fun _ => fun
  | [d] => { results := [.lit (.bool true)], args := [d] }
  | _ => none }
def paneNilRow : OpenClaim := { program := "ytcjicaolgjialaa", sum := "5a5b592441029b5c92d24e642e6bcac608087ccbb1914bd5a6e680a49c762288", func := "grotto/grottolaw14.PaneNil", spec := "paneNil", recurses := true, apart := false }
def PaneNilSaid : Prop := paneNilRow.holds Try.pinned (OpenSpec.ofChange paneNilSpec)

/-- ITS FALSE NEIGHBOUR: 'it returns false'. Refute it at one input. -/
def paneNilWrong : ChangeSpec := { name := "paneNil", fn := fun _ => fun
  | [d] => { results := [.lit (.bool false)], args := [d] }
  | _ => none }
def PaneNilWrongFalsely : Prop := paneNilRow.holds Try.pinned (OpenSpec.ofChange paneNilWrong)

/- THE SECOND FORM. 'bulk': how many values and letters a reading holds, each counted each time it is reached (what is shared counts as often as it is met; a slice's spare places count too). A statement '..UptoSaid' is the law's where the arguments, and the package variables that the reading takes, are together of bulk at most 1048576: NARROWER than '..Said'. Prove '..Said' where nothing that the law and all that it calls make is longer than what came in: it says more and counts as full. Else prove '..UptoSaid'. A law counts once. -/
mutual
def uptoBulk {H : Type} : DataW H → Nat
  | .lit (.string bytes) => bytes.length + 1
  | .lit _ => 1
  | .nil => 1
  | .ptr d => uptoBulk d + 1
  | .slice elems spare => uptoBulkAll elems + uptoBulkAll spare + 1
  | .agg parts => uptoBulkAll parts + 1
  | .iface _ d => uptoBulk d + 1
  | .map entries => uptoBulkEntries entries + 1
  | .held _ => 1
def uptoBulkAll {H : Type} : List (DataW H) → Nat
  | [] => 0
  | d :: r => uptoBulk d + uptoBulkAll r
def uptoBulkEntries {H : Type} : List (Lit × DataW H) → Nat
  | [] => 0
  | x :: r => uptoBulkEntry x + uptoBulkEntries r
def uptoBulkEntry {H : Type} : Lit × DataW H → Nat
  | (.string bytes, d) => bytes.length + uptoBulk d + 1
  | (_, d) => uptoBulk d + 1
 end
def uptoSmall : (H : Type) → List (DataW H) → Bool := fun _ ds => decide (uptoBulkAll ds ≤ 1048576)
def OpenSpec.upto (s : _root_.Go.ChangeSpec) : _root_.Go.OpenSpec := { _root_.Go.OpenSpec.ofChange s with cond := some uptoSmall }

/-- 'grottolaw14.PaneTiles', WHERE WHAT IT READS IS OF BULK AT MOST 1048576: true; the input reads as it did. -/
def paneTilesUptoRow : OpenClaim := { program := "ytcjicaolgjialaa", sum := "5a5b592441029b5c92d24e642e6bcac608087ccbb1914bd5a6e680a49c762288", func := "grotto/grottolaw14.PaneTiles", spec := "paneTiles", recurses := true, apart := false, narrowed := true }
def PaneTilesUptoSaid : Prop := paneTilesUptoRow.holds Try.pinned (OpenSpec.upto paneTilesSpec)

/-- 'grottolaw14.PaneOpens', WHERE WHAT IT READS IS OF BULK AT MOST 1048576: true; the input reads as it did. -/
def paneOpensUptoRow : OpenClaim := { program := "ytcjicaolgjialaa", sum := "5a5b592441029b5c92d24e642e6bcac608087ccbb1914bd5a6e680a49c762288", func := "grotto/grottolaw14.PaneOpens", spec := "paneOpens", recurses := true, apart := false, narrowed := true }
def PaneOpensUptoSaid : Prop := paneOpensUptoRow.holds Try.pinned (OpenSpec.upto paneOpensSpec)

/-- 'grottolaw14.PaneFamily', WHERE WHAT IT READS IS OF BULK AT MOST 1048576: true; the input reads as it did. -/
def paneFamilyUptoRow : OpenClaim := { program := "ytcjicaolgjialaa", sum := "5a5b592441029b5c92d24e642e6bcac608087ccbb1914bd5a6e680a49c762288", func := "grotto/grottolaw14.PaneFamily", spec := "paneFamily", recurses := true, apart := false, narrowed := true }
def PaneFamilyUptoSaid : Prop := paneFamilyUptoRow.holds Try.pinned (OpenSpec.upto paneFamilySpec)

/-- 'grottolaw14.PaneGone', WHERE WHAT IT READS IS OF BULK AT MOST 1048576: true; the input reads as it did. -/
def paneGoneUptoRow : OpenClaim := { program := "ytcjicaolgjialaa", sum := "5a5b592441029b5c92d24e642e6bcac608087ccbb1914bd5a6e680a49c762288", func := "grotto/grottolaw14.PaneGone", spec := "paneGone", recurses := true, apart := false, narrowed := true }
def PaneGoneUptoSaid : Prop := paneGoneUptoRow.holds Try.pinned (OpenSpec.upto paneGoneSpec)

/-- 'grottolaw14.PanePlays', WHERE WHAT IT READS IS OF BULK AT MOST 1048576: true; the input reads as it did. -/
def panePlaysUptoRow : OpenClaim := { program := "ytcjicaolgjialaa", sum := "5a5b592441029b5c92d24e642e6bcac608087ccbb1914bd5a6e680a49c762288", func := "grotto/grottolaw14.PanePlays", spec := "panePlays", recurses := true, apart := false, narrowed := true }
def PanePlaysUptoSaid : Prop := panePlaysUptoRow.holds Try.pinned (OpenSpec.upto panePlaysSpec)

/-- 'grottolaw14.PaneCloses', WHERE WHAT IT READS IS OF BULK AT MOST 1048576: true; the input reads as it did. -/
def paneClosesUptoRow : OpenClaim := { program := "ytcjicaolgjialaa", sum := "5a5b592441029b5c92d24e642e6bcac608087ccbb1914bd5a6e680a49c762288", func := "grotto/grottolaw14.PaneCloses", spec := "paneCloses", recurses := true, apart := false, narrowed := true }
def PaneClosesUptoSaid : Prop := paneClosesUptoRow.holds Try.pinned (OpenSpec.upto paneClosesSpec)

/-- 'grottolaw14.PaneArranges', WHERE WHAT IT READS IS OF BULK AT MOST 1048576: true; the input reads as it did. -/
def paneArrangesUptoRow : OpenClaim := { program := "ytcjicaolgjialaa", sum := "5a5b592441029b5c92d24e642e6bcac608087ccbb1914bd5a6e680a49c762288", func := "grotto/grottolaw14.PaneArranges", spec := "paneArranges", recurses := true, apart := false, narrowed := true }
def PaneArrangesUptoSaid : Prop := paneArrangesUptoRow.holds Try.pinned (OpenSpec.upto paneArrangesSpec)

/-- 'grottolaw14.PaneResizes', WHERE WHAT IT READS IS OF BULK AT MOST 1048576: true; the input reads as it did. -/
def paneResizesUptoRow : OpenClaim := { program := "ytcjicaolgjialaa", sum := "5a5b592441029b5c92d24e642e6bcac608087ccbb1914bd5a6e680a49c762288", func := "grotto/grottolaw14.PaneResizes", spec := "paneResizes", recurses := true, apart := false, narrowed := true }
def PaneResizesUptoSaid : Prop := paneResizesUptoRow.holds Try.pinned (OpenSpec.upto paneResizesSpec)

/-- 'grottolaw14.PaneRefuses', WHERE WHAT IT READS IS OF BULK AT MOST 1048576: true; the input reads as it did. -/
def paneRefusesUptoRow : OpenClaim := { program := "ytcjicaolgjialaa", sum := "5a5b592441029b5c92d24e642e6bcac608087ccbb1914bd5a6e680a49c762288", func := "grotto/grottolaw14.PaneRefuses", spec := "paneRefuses", recurses := true, apart := false, narrowed := true }
def PaneRefusesUptoSaid : Prop := paneRefusesUptoRow.holds Try.pinned (OpenSpec.upto paneRefusesSpec)

/-- 'grottolaw14.PaneNil', WHERE WHAT IT READS IS OF BULK AT MOST 1048576: true; the input reads as it did. -/
def paneNilUptoRow : OpenClaim := { program := "ytcjicaolgjialaa", sum := "5a5b592441029b5c92d24e642e6bcac608087ccbb1914bd5a6e680a49c762288", func := "grotto/grottolaw14.PaneNil", spec := "paneNil", recurses := true, apart := false, narrowed := true }
def PaneNilUptoSaid : Prop := paneNilUptoRow.holds Try.pinned (OpenSpec.upto paneNilSpec)

end Rows
end Go.Proofs.Ytcjicaolgjialaa
