/- Lemmas of the abstract condition ahead of code (a part of the library that the claim's proof stands on); they hold with no condition but those that each names. -/
import Derived.Test.YtlofpopejkohbaaGreatGkSoft
import Derived.Test.YtlofpopejkohbaaGreatAIJoin
section
/- The conditions ahead of the calls of the program's functions, reckoned as far as they go (equations that the kernel checks); no condition. -/
set_option maxRecDepth 1000000
set_option linter.unusedVariables false
namespace Go.AI
open Go.Proofs
theorem s132 : ∀ (T : Go.AI.Ct) (g : Nat) (id x : Int) (σ : Go.AI.AS) (K : Go.Value → Go.AI.AS → Prop),
 Go.AI.fw Go.Proofs.Tryz.prog Go.AI.hintsS T (132 : Nat) [Go.Value.pointer (Option.some (Go.Addr.mk g (0 : Nat) Option.none)), Go.Value.int Go.IntKind.u32 id, Go.Value.int Go.IntKind.u32 x] σ K =
 Go.AI.ldc σ (Go.Addr.mk g ((0 : Nat) + (1 : Nat)) Option.none) fun (v0 : Go.Value) ↦
 Go.AI.tM v0 fun (b1 : Option Nat) ↦
 Go.AI.mget σ (Go.TypeDesc.int Go.IntKind.u32) b1 (Go.Value.int Go.IntKind.u32 id) fun (o2 : Option Go.Value) ↦
 Go.AI.tP (Option.getD o2 (Go.Value.pointer Option.none)) fun (b3 : Option Go.Addr) ↦
 Go.AI.pSome b3 fun (a4 : Go.Addr) ↦
 Go.AI.ldc σ (Go.Addr.mk (Go.Addr.block a4) (Go.Addr.off a4 + (3 : Nat)) Option.none) fun (v5 : Go.Value) ↦
 Go.AI.tI Go.IntKind.u32 v5 fun (n6 : Int) ↦
 Go.AI.bmatch (n6 == (3 : Int))
 (Go.AI.pSome b3 fun (a7 : Go.Addr) ↦
 Go.AI.ldc σ (Go.Addr.mk (Go.Addr.block a7) (Go.Addr.off a7 + (5 : Nat)) Option.none) fun (v8 : Go.Value) ↦
 Go.AI.tL (1 : Nat) v8 fun (s9 : Go.AI.Sl) ↦
 Go.AI.newAt σ (Go.AI.AObj.row Go.AI.RK.rw [Go.Value.int Go.IntKind.u32 x]) fun (i10 : Nat) (σ11 : Go.AI.AS) ↦
 Go.AI.lds σ11 (Go.Addr.mk i10 (0 : Nat) Option.none) (1 : Nat) fun (l12 : List Go.Value) ↦
 Go.AI.appendTo σ11 (1 : Nat) (4 : Nat) (Go.AI.Sl.mk (Go.AI.Sl.a s9) (Go.AI.Sl.n s9)) l12 (1 : Nat) fun (s13 : Go.AI.Sl) (σ14 : Go.AI.AS) ↦
 Go.AI.pSome b3 fun (a15 : Go.Addr) ↦
 Go.AI.put1 σ14 (Go.Addr.mk (Go.Addr.block a15) (Go.Addr.off a15 + (5 : Nat)) Option.none) (Go.Value.slice (Go.AI.Sl.a s13) (Go.AI.Sl.n s13) (1 : Nat)) fun (σ16 : Go.AI.AS) ↦
 Go.AI.ldc σ16 (Go.Addr.mk g ((0 : Nat) + (5 : Nat)) Option.none) fun (v17 : Go.Value) ↦
 Go.AI.tL (2 : Nat) v17 fun (s18 : Go.AI.Sl) ↦
 Go.AI.bmatch (Decidable.decide ((↑(Go.AI.Sl.n s18) : Int) > (0 : Int)))
 (Go.AI.ldc σ16 (Go.Addr.mk g ((0 : Nat) + (5 : Nat)) Option.none) fun (v19 : Go.Value) ↦
 Go.AI.tL (2 : Nat) v19 fun (s20 : Go.AI.Sl) ↦
 Go.AI.req ((0 : Int) ≤ Go.IntKind.wrap Go.IntKind.i64 ((↑(Go.AI.Sl.n s18) : Int) - (1 : Int)))
 (Go.AI.req (Go.IntKind.wrap Go.IntKind.i64 ((↑(Go.AI.Sl.n s18) : Int) - (1 : Int)) < (↑(Go.AI.Sl.n s20) : Int))
 (Go.AI.pSome (Go.AI.Sl.a s20) fun (a21 : Go.Addr) ↦
 Go.AI.ldc σ16
 (Go.Addr.add (Go.AI.aadd a21 (Int.toNat (Go.IntKind.wrap Go.IntKind.i64 ((↑(Go.AI.Sl.n s18) : Int) - (1 : Int))) * Go.AI.szOf Go.Proofs.Tryz.prog (38 : Nat)))
 (0 : Nat))
 fun (v22 : Go.Value) ↦
 Go.AI.tI Go.IntKind.u32 v22 fun (n23 : Int) ↦
 Go.AI.bmatch (n23 == id)
 (Go.AI.ldc σ16 (Go.Addr.mk g ((0 : Nat) + (5 : Nat)) Option.none) fun (v24 : Go.Value) ↦
 Go.AI.tL (2 : Nat) v24 fun (s25 : Go.AI.Sl) ↦
 Go.AI.ldc σ16 (Go.Addr.mk g ((0 : Nat) + (5 : Nat)) Option.none) fun (v26 : Go.Value) ↦
 Go.AI.tL (2 : Nat) v26 fun (s27 : Go.AI.Sl) ↦
 Go.AI.req ((0 : Int) ≤ Go.IntKind.wrap Go.IntKind.i64 ((↑(Go.AI.Sl.n s18) : Int) - (1 : Int)))
 (Go.AI.req (Go.IntKind.wrap Go.IntKind.i64 ((↑(Go.AI.Sl.n s18) : Int) - (1 : Int)) < (↑(Go.AI.Sl.n s27) : Int))
 (Go.AI.pSome (Go.AI.Sl.a s27) fun (a28 : Go.Addr) ↦
 Go.AI.ldc σ16
 (Go.Addr.mk
 (Go.Addr.block
 (Go.AI.aadd a28
 (Int.toNat (Go.IntKind.wrap Go.IntKind.i64 ((↑(Go.AI.Sl.n s18) : Int) - (1 : Int))) * Go.AI.szOf Go.Proofs.Tryz.prog (38 : Nat))))
 (Go.Addr.off
 (Go.AI.aadd a28
 (Int.toNat (Go.IntKind.wrap Go.IntKind.i64 ((↑(Go.AI.Sl.n s18) : Int) - (1 : Int))) * Go.AI.szOf Go.Proofs.Tryz.prog (38 : Nat))) +
 (1 : Nat))
 Option.none)
 fun (v29 : Go.Value) ↦
 Go.AI.tL (1 : Nat) v29 fun (s30 : Go.AI.Sl) ↦
 Go.AI.newAt σ16 (Go.AI.AObj.row Go.AI.RK.rw [Go.Value.int Go.IntKind.u32 x]) fun (i31 : Nat) (σ32 : Go.AI.AS) ↦
 Go.AI.ldc σ32
 (Go.Addr.mk
 (Go.Addr.block
 (Go.AI.aadd a28
 (Int.toNat (Go.IntKind.wrap Go.IntKind.i64 ((↑(Go.AI.Sl.n s18) : Int) - (1 : Int))) * Go.AI.szOf Go.Proofs.Tryz.prog (38 : Nat))))
 (Go.Addr.off
 (Go.AI.aadd a28
 (Int.toNat (Go.IntKind.wrap Go.IntKind.i64 ((↑(Go.AI.Sl.n s18) : Int) - (1 : Int))) * Go.AI.szOf Go.Proofs.Tryz.prog (38 : Nat))) +
 (1 : Nat))
 Option.none)
 fun (v33 : Go.Value) ↦
 Go.AI.tL (1 : Nat) v33 fun (s34 : Go.AI.Sl) ↦
 Go.Value.slice (Go.AI.Sl.a s30) (Go.AI.Sl.n s30) (Go.AI.szOf Go.Proofs.Tryz.prog (32 : Nat)) =
 Go.Value.slice (Go.AI.Sl.a s34) (Go.AI.Sl.n s34) (Go.AI.szOf Go.Proofs.Tryz.prog (32 : Nat)) ∧
 Go.AI.ldc σ32 (Go.Addr.mk g ((0 : Nat) + (5 : Nat)) Option.none) fun (v35 : Go.Value) ↦
 Go.AI.tL (2 : Nat) v35 fun (s36 : Go.AI.Sl) ↦
 Go.Value.slice (Go.AI.Sl.a s27) (Go.AI.Sl.n s27) (Go.AI.szOf Go.Proofs.Tryz.prog (38 : Nat)) =
 Go.Value.slice (Go.AI.Sl.a s36) (Go.AI.Sl.n s36) (Go.AI.szOf Go.Proofs.Tryz.prog (38 : Nat)) ∧
 Go.AI.ldc σ32 (Go.Addr.mk g ((0 : Nat) + (5 : Nat)) Option.none) fun (v37 : Go.Value) ↦
 Go.AI.tL (2 : Nat) v37 fun (s38 : Go.AI.Sl) ↦
 Go.Value.slice (Go.AI.Sl.a s25) (Go.AI.Sl.n s25) (Go.AI.szOf Go.Proofs.Tryz.prog (38 : Nat)) =
 Go.Value.slice (Go.AI.Sl.a s38) (Go.AI.Sl.n s38) (Go.AI.szOf Go.Proofs.Tryz.prog (38 : Nat)) ∧
 Go.AI.lds σ32 (Go.Addr.mk i31 (0 : Nat) Option.none) (1 : Nat) fun (l39 : List Go.Value) ↦
 Go.AI.appendTo σ32 (1 : Nat) (4 : Nat) (Go.AI.Sl.mk (Go.AI.Sl.a s30) (Go.AI.Sl.n s30)) l39 (1 : Nat)
 fun (s40 : Go.AI.Sl) (σ41 : Go.AI.AS) ↦
 Go.AI.ldc σ41 (Go.Addr.mk g ((0 : Nat) + (5 : Nat)) Option.none) fun (v42 : Go.Value) ↦
 Go.AI.tL (2 : Nat) v42 fun (s43 : Go.AI.Sl) ↦
 Go.Value.slice (Go.AI.Sl.a s25) (Go.AI.Sl.n s25) (Go.AI.szOf Go.Proofs.Tryz.prog (38 : Nat)) =
 Go.Value.slice (Go.AI.Sl.a s43) (Go.AI.Sl.n s43) (Go.AI.szOf Go.Proofs.Tryz.prog (38 : Nat)) ∧
 Go.AI.req ((0 : Int) ≤ Go.IntKind.wrap Go.IntKind.i64 ((↑(Go.AI.Sl.n s18) : Int) - (1 : Int)))
 (Go.AI.req (Go.IntKind.wrap Go.IntKind.i64 ((↑(Go.AI.Sl.n s18) : Int) - (1 : Int)) < (↑(Go.AI.Sl.n s25) : Int))
 (Go.AI.pSome (Go.AI.Sl.a s25) fun (a44 : Go.Addr) ↦
 Go.AI.put1 σ41
 (Go.Addr.mk
 (Go.Addr.block
 (Go.AI.aadd a44
 (Int.toNat (Go.IntKind.wrap Go.IntKind.i64 ((↑(Go.AI.Sl.n s18) : Int) - (1 : Int))) *
 Go.AI.szOf Go.Proofs.Tryz.prog (38 : Nat))))
 (Go.Addr.off
 (Go.AI.aadd a44
 (Int.toNat (Go.IntKind.wrap Go.IntKind.i64 ((↑(Go.AI.Sl.n s18) : Int) - (1 : Int))) *
 Go.AI.szOf Go.Proofs.Tryz.prog (38 : Nat))) +
 (1 : Nat))
 Option.none)
 (Go.Value.slice (Go.AI.Sl.a s40) (Go.AI.Sl.n s40) (1 : Nat)) fun (σ45 : Go.AI.AS) ↦
 K (Go.Value.tuple (Array.mk [])) σ45)))))
 (Go.AI.ldc σ16 (Go.Addr.mk g ((0 : Nat) + (5 : Nat)) Option.none) fun (v46 : Go.Value) ↦
 Go.AI.tL (2 : Nat) v46 fun (s47 : Go.AI.Sl) ↦
 Go.AI.newAt σ16 (Go.AI.AObj.row Go.AI.RK.rw [Go.Value.int Go.IntKind.u32 x]) fun (i48 : Nat) (σ49 : Go.AI.AS) ↦
 Go.AI.newAt σ49
 (Go.AI.AObj.row Go.AI.RK.rw [Go.Value.int Go.IntKind.u32 id, Go.Value.slice (Option.some (Go.Addr.mk i48 (0 : Nat) Option.none)) (1 : Nat) (1 : Nat)])
 fun (i50 : Nat) (σ51 : Go.AI.AS) ↦
 Go.AI.lds σ51 (Go.Addr.mk i50 (0 : Nat) Option.none) (2 : Nat) fun (l52 : List Go.Value) ↦
 Go.AI.appendTo σ51 (2 : Nat) (32 : Nat) (Go.AI.Sl.mk (Go.AI.Sl.a s47) (Go.AI.Sl.n s47)) l52 (1 : Nat) fun (s53 : Go.AI.Sl) (σ54 : Go.AI.AS) ↦
 Go.AI.put1 σ54 (Go.Addr.mk g ((0 : Nat) + (5 : Nat)) Option.none) (Go.Value.slice (Go.AI.Sl.a s53) (Go.AI.Sl.n s53) (2 : Nat))
 fun (σ55 : Go.AI.AS) ↦ K (Go.Value.tuple (Array.mk [])) σ55))))
 (Go.AI.ldc σ16 (Go.Addr.mk g ((0 : Nat) + (5 : Nat)) Option.none) fun (v56 : Go.Value) ↦
 Go.AI.tL (2 : Nat) v56 fun (s57 : Go.AI.Sl) ↦
 Go.AI.newAt σ16 (Go.AI.AObj.row Go.AI.RK.rw [Go.Value.int Go.IntKind.u32 x]) fun (i58 : Nat) (σ59 : Go.AI.AS) ↦
 Go.AI.newAt σ59 (Go.AI.AObj.row Go.AI.RK.rw [Go.Value.int Go.IntKind.u32 id, Go.Value.slice (Option.some (Go.Addr.mk i58 (0 : Nat) Option.none)) (1 : Nat) (1 : Nat)])
 fun (i60 : Nat) (σ61 : Go.AI.AS) ↦
 Go.AI.lds σ61 (Go.Addr.mk i60 (0 : Nat) Option.none) (2 : Nat) fun (l62 : List Go.Value) ↦
 Go.AI.appendTo σ61 (2 : Nat) (32 : Nat) (Go.AI.Sl.mk (Go.AI.Sl.a s57) (Go.AI.Sl.n s57)) l62 (1 : Nat) fun (s63 : Go.AI.Sl) (σ64 : Go.AI.AS) ↦
 Go.AI.put1 σ64 (Go.Addr.mk g ((0 : Nat) + (5 : Nat)) Option.none) (Go.Value.slice (Go.AI.Sl.a s63) (Go.AI.Sl.n s63) (2 : Nat)) fun (σ65 : Go.AI.AS) ↦
 K (Go.Value.tuple (Array.mk [])) σ65))
 (Go.AI.bmatch (n6 == (4 : Int))
 (T (73 : Nat) [Go.Value.pointer (Option.some (Go.Addr.mk g (0 : Nat) Option.none)), Go.Value.pointer b3] σ fun (v66 : Go.Value) (σ67 : Go.AI.AS) ↦
 Go.AI.tAgg v66 fun (l68 : List Go.Value) ↦
 Go.AI.tCons l68 fun (v69 : Go.Value) (l70 : List Go.Value) ↦
 Go.AI.tI Go.IntKind.i64 v69 fun (n71 : Int) ↦
 Go.AI.tCons l70 fun (v72 : Go.Value) (l73 : List Go.Value) ↦
 Go.AI.tI Go.IntKind.i64 v72 fun (n74 : Int) ↦
 Go.AI.tCons l73 fun (v75 : Go.Value) (l76 : List Go.Value) ↦
 Go.AI.tI Go.IntKind.i64 v75 fun (n77 : Int) ↦
 Go.AI.tCons l76 fun (v78 : Go.Value) (l79 : List Go.Value) ↦
 Go.AI.tI Go.IntKind.i64 v78 fun (n80 : Int) ↦
 Go.AI.tNil l79
 (Go.AI.newAt σ67
 (Go.AI.AObj.row Go.AI.RK.plain
 [Go.Value.int Go.IntKind.i64 (0 : Int), Go.Value.int Go.IntKind.i64 (0 : Int), Go.Value.int Go.IntKind.i64 (0 : Int), Go.Value.int Go.IntKind.i64 (0 : Int)])
 fun (i81 : Nat) (σ82 : Go.AI.AS) ↦
 Go.AI.puts σ82 (Go.Addr.mk i81 (0 : Nat) Option.none)
 [Go.Value.int Go.IntKind.i64 n71, Go.Value.int Go.IntKind.i64 n74, Go.Value.int Go.IntKind.i64 n77, Go.Value.int Go.IntKind.i64 n80] fun (σ83 : Go.AI.AS) ↦
 Go.AI.bmatch (x == (10 : Int))
 (Go.AI.pSome b3 fun (a84 : Go.Addr) ↦
 Go.AI.ldc σ83 (Go.Addr.mk (Go.Addr.block a84) (Go.Addr.off a84 + (8 : Nat)) Option.none) fun (v85 : Go.Value) ↦
 Go.AI.tI Go.IntKind.u32 v85 fun (n86 : Int) ↦
 Go.AI.pSome b3 fun (a87 : Go.Addr) ↦
 Go.AI.put1 σ83 (Go.Addr.mk (Go.Addr.block a87) (Go.Addr.off a87 + (7 : Nat)) Option.none) (Go.Value.int Go.IntKind.u32 (0 : Int)) fun (σ88 : Go.AI.AS) ↦
 Go.AI.pSome b3 fun (a89 : Go.Addr) ↦
 Go.AI.put1 σ88 (Go.Addr.mk (Go.Addr.block a89) (Go.Addr.off a89 + (8 : Nat)) Option.none)
 (Go.Value.int Go.IntKind.u32 (Go.IntKind.wrap Go.IntKind.u32 (n86 + (1 : Int)))) fun (σ90 : Go.AI.AS) ↦ K (Go.Value.tuple (Array.mk [])) σ90)
 (Go.AI.pSome b3 fun (a91 : Go.Addr) ↦
 Go.AI.ldc σ83 (Go.Addr.mk (Go.Addr.block a91) (Go.Addr.off a91 + (7 : Nat)) Option.none) fun (v92 : Go.Value) ↦
 Go.AI.tI Go.IntKind.u32 v92 fun (n93 : Int) ↦
 Go.AI.ldc σ83 (Go.Addr.mk i81 ((0 : Nat) + (2 : Nat)) Option.none) fun (v94 : Go.Value) ↦
 Go.AI.tI Go.IntKind.i64 v94 fun (n95 : Int) ↦
 Go.AI.bmatch (Decidable.decide (n93 < Go.IntKind.wrap Go.IntKind.u32 n95))
 (Go.AI.pSome b3 fun (a96 : Go.Addr) ↦
 Go.AI.ldc σ83 (Go.Addr.mk (Go.Addr.block a96) (Go.Addr.off a96 + (8 : Nat)) Option.none) fun (v97 : Go.Value) ↦
 Go.AI.tI Go.IntKind.u32 v97 fun (n98 : Int) ↦
 Go.AI.ldc σ83 (Go.Addr.mk i81 ((0 : Nat) + (3 : Nat)) Option.none) fun (v99 : Go.Value) ↦
 Go.AI.tI Go.IntKind.i64 v99 fun (n100 : Int) ↦
 Go.AI.bmatch (Decidable.decide (n98 < Go.IntKind.wrap Go.IntKind.u32 n100))
 (Go.AI.pSome b3 fun (a101 : Go.Addr) ↦
 Go.AI.ldc σ83 (Go.Addr.mk (Go.Addr.block a101) (Go.Addr.off a101 + (6 : Nat)) Option.none) fun (v102 : Go.Value) ↦
 Go.AI.tM v102 fun (b103 : Option Nat) ↦
 Go.AI.bmatch (Option.isNone b103)
 (Go.AI.newAt σ83 (Go.AI.AObj.map [] (0 : Nat)) fun (i104 : Nat) (σ105 : Go.AI.AS) ↦
 Go.AI.pSome b3 fun (a106 : Go.Addr) ↦
 Go.AI.put1 σ105 (Go.Addr.mk (Go.Addr.block a106) (Go.Addr.off a106 + (6 : Nat)) Option.none) (Go.Value.map (Option.some i104))
 fun (σ107 : Go.AI.AS) ↦
 Go.AI.pSome b3 fun (a108 : Go.Addr) ↦
 Go.AI.ldc σ107 (Go.Addr.mk (Go.Addr.block a108) (Go.Addr.off a108 + (6 : Nat)) Option.none) fun (v109 : Go.Value) ↦
 Go.AI.tM v109 fun (b110 : Option Nat) ↦
 Go.AI.pSome b3 fun (a111 : Go.Addr) ↦
 Go.AI.ldc σ107 (Go.Addr.mk (Go.Addr.block a111) (Go.Addr.off a111 + (7 : Nat)) Option.none) fun (v112 : Go.Value) ↦
 Go.AI.tI Go.IntKind.u32 v112 fun (n113 : Int) ↦
 Go.AI.pSome b3 fun (a114 : Go.Addr) ↦
 Go.AI.ldc σ107 (Go.Addr.mk (Go.Addr.block a114) (Go.Addr.off a114 + (8 : Nat)) Option.none) fun (v115 : Go.Value) ↦
 Go.AI.tI Go.IntKind.u32 v115 fun (n116 : Int) ↦
 Go.AI.pSome b110 fun (i117 : Nat) ↦
 Go.AI.mset2 σ107 Go.IntKind.u32 i117
 (Go.Value.agg (Array.mk [Go.Value.int Go.IntKind.u32 n113, Go.Value.int Go.IntKind.u32 n116]))
 (Go.Value.int Go.IntKind.u32 x) fun (σ118 : Go.AI.AS) ↦
 Go.AI.pSome b3 fun (a119 : Go.Addr) ↦
 Go.AI.ldc σ118 (Go.Addr.mk (Go.Addr.block a119) (Go.Addr.off a119 + (7 : Nat)) Option.none)
 fun (v120 : Go.Value) ↦
 Go.AI.tI Go.IntKind.u32 v120 fun (n121 : Int) ↦
 Go.AI.pSome b3 fun (a122 : Go.Addr) ↦
 Go.AI.put1 σ118 (Go.Addr.mk (Go.Addr.block a122) (Go.Addr.off a122 + (7 : Nat)) Option.none)
 (Go.Value.int Go.IntKind.u32 (Go.IntKind.wrap Go.IntKind.u32 (n121 + (1 : Int))))
 fun (σ123 : Go.AI.AS) ↦
 Go.AI.pSome b3 fun (a124 : Go.Addr) ↦
 Go.AI.ldc σ123 (Go.Addr.mk (Go.Addr.block a124) (Go.Addr.off a124 + (7 : Nat)) Option.none)
 fun (v125 : Go.Value) ↦
 Go.AI.tI Go.IntKind.u32 v125 fun (n126 : Int) ↦
 Go.AI.ldc σ123 (Go.Addr.mk i81 ((0 : Nat) + (2 : Nat)) Option.none) fun (v127 : Go.Value) ↦
 Go.AI.tI Go.IntKind.i64 v127 fun (n128 : Int) ↦
 Go.AI.bmatch (n126 == Go.IntKind.wrap Go.IntKind.u32 n128)
 (Go.AI.pSome b3 fun (a129 : Go.Addr) ↦
 Go.AI.ldc σ123
 (Go.Addr.mk (Go.Addr.block a129) (Go.Addr.off a129 + (8 : Nat)) Option.none)
 fun (v130 : Go.Value) ↦
 Go.AI.tI Go.IntKind.u32 v130 fun (n131 : Int) ↦
 Go.AI.pSome b3 fun (a132 : Go.Addr) ↦
 Go.AI.put1 σ123
 (Go.Addr.mk (Go.Addr.block a132) (Go.Addr.off a132 + (7 : Nat)) Option.none)
 (Go.Value.int Go.IntKind.u32 (0 : Int)) fun (σ133 : Go.AI.AS) ↦
 Go.AI.pSome b3 fun (a134 : Go.Addr) ↦
 Go.AI.put1 σ133
 (Go.Addr.mk (Go.Addr.block a134) (Go.Addr.off a134 + (8 : Nat))
 Option.none)
 (Go.Value.int Go.IntKind.u32
 (Go.IntKind.wrap Go.IntKind.u32 (n131 + (1 : Int))))
 fun (σ135 : Go.AI.AS) ↦ K (Go.Value.tuple (Array.mk [])) σ135)
 (K (Go.Value.tuple (Array.mk [])) σ123))
 (Go.AI.pSome b3 fun (a136 : Go.Addr) ↦
 Go.AI.ldc σ83 (Go.Addr.mk (Go.Addr.block a136) (Go.Addr.off a136 + (6 : Nat)) Option.none) fun (v137 : Go.Value) ↦
 Go.AI.tM v137 fun (b138 : Option Nat) ↦
 Go.AI.pSome b3 fun (a139 : Go.Addr) ↦
 Go.AI.ldc σ83 (Go.Addr.mk (Go.Addr.block a139) (Go.Addr.off a139 + (7 : Nat)) Option.none) fun (v140 : Go.Value) ↦
 Go.AI.tI Go.IntKind.u32 v140 fun (n141 : Int) ↦
 Go.AI.pSome b3 fun (a142 : Go.Addr) ↦
 Go.AI.ldc σ83 (Go.Addr.mk (Go.Addr.block a142) (Go.Addr.off a142 + (8 : Nat)) Option.none) fun (v143 : Go.Value) ↦
 Go.AI.tI Go.IntKind.u32 v143 fun (n144 : Int) ↦
 Go.AI.pSome b138 fun (i145 : Nat) ↦
 Go.AI.mset2 σ83 Go.IntKind.u32 i145
 (Go.Value.agg (Array.mk [Go.Value.int Go.IntKind.u32 n141, Go.Value.int Go.IntKind.u32 n144]))
 (Go.Value.int Go.IntKind.u32 x) fun (σ146 : Go.AI.AS) ↦
 Go.AI.pSome b3 fun (a147 : Go.Addr) ↦
 Go.AI.ldc σ146 (Go.Addr.mk (Go.Addr.block a147) (Go.Addr.off a147 + (7 : Nat)) Option.none)
 fun (v148 : Go.Value) ↦
 Go.AI.tI Go.IntKind.u32 v148 fun (n149 : Int) ↦
 Go.AI.pSome b3 fun (a150 : Go.Addr) ↦
 Go.AI.put1 σ146 (Go.Addr.mk (Go.Addr.block a150) (Go.Addr.off a150 + (7 : Nat)) Option.none)
 (Go.Value.int Go.IntKind.u32 (Go.IntKind.wrap Go.IntKind.u32 (n149 + (1 : Int)))) fun (σ151 : Go.AI.AS) ↦
 Go.AI.pSome b3 fun (a152 : Go.Addr) ↦
 Go.AI.ldc σ151 (Go.Addr.mk (Go.Addr.block a152) (Go.Addr.off a152 + (7 : Nat)) Option.none)
 fun (v153 : Go.Value) ↦
 Go.AI.tI Go.IntKind.u32 v153 fun (n154 : Int) ↦
 Go.AI.ldc σ151 (Go.Addr.mk i81 ((0 : Nat) + (2 : Nat)) Option.none) fun (v155 : Go.Value) ↦
 Go.AI.tI Go.IntKind.i64 v155 fun (n156 : Int) ↦
 Go.AI.bmatch (n154 == Go.IntKind.wrap Go.IntKind.u32 n156)
 (Go.AI.pSome b3 fun (a157 : Go.Addr) ↦
 Go.AI.ldc σ151 (Go.Addr.mk (Go.Addr.block a157) (Go.Addr.off a157 + (8 : Nat)) Option.none)
 fun (v158 : Go.Value) ↦
 Go.AI.tI Go.IntKind.u32 v158 fun (n159 : Int) ↦
 Go.AI.pSome b3 fun (a160 : Go.Addr) ↦
 Go.AI.put1 σ151
 (Go.Addr.mk (Go.Addr.block a160) (Go.Addr.off a160 + (7 : Nat)) Option.none)
 (Go.Value.int Go.IntKind.u32 (0 : Int)) fun (σ161 : Go.AI.AS) ↦
 Go.AI.pSome b3 fun (a162 : Go.Addr) ↦
 Go.AI.put1 σ161
 (Go.Addr.mk (Go.Addr.block a162) (Go.Addr.off a162 + (8 : Nat)) Option.none)
 (Go.Value.int Go.IntKind.u32
 (Go.IntKind.wrap Go.IntKind.u32 (n159 + (1 : Int))))
 fun (σ163 : Go.AI.AS) ↦ K (Go.Value.tuple (Array.mk [])) σ163)
 (K (Go.Value.tuple (Array.mk [])) σ151)))
 (K (Go.Value.tuple (Array.mk [])) σ83))
 (K (Go.Value.tuple (Array.mk [])) σ83))))
 (K (Go.Value.tuple (Array.mk [])) σ)) := by
 intros
 kernel_rfl

end Go.AI
end
section
/- The conditions ahead of the calls of the program's functions, reckoned as far as they go (equations that the kernel checks); no condition. -/
set_option maxRecDepth 1000000
set_option linter.unusedVariables false
namespace Go.AI
open Go.Proofs
theorem s29 : ∀ (T : Go.AI.Ct) (g : Nat) (x : Int) (σ : Go.AI.AS) (K : Go.Value → Go.AI.AS → Prop),
 Go.AI.fw Go.Proofs.Tryz.prog Go.AI.hintsS T (29 : Nat) [Go.Value.pointer (Option.some (Go.Addr.mk g (0 : Nat) Option.none)), Go.Value.int Go.IntKind.u32 x] σ K =
 Go.AI.ldc σ (Go.Addr.mk g ((0 : Nat) + (7 : Nat)) Option.none) fun (v0 : Go.Value) ↦
 Go.AI.tB v0 fun (b1 : Bool) ↦
 Go.AI.bmatch (!b1)
 (Go.AI.ldc σ (Go.Addr.mk g ((0 : Nat) + (6 : Nat)) Option.none) fun (v2 : Go.Value) ↦
 Go.AI.tI Go.IntKind.u32 v2 fun (n3 : Int) ↦
 T (72 : Nat) [Go.Value.pointer (Option.some (Go.Addr.mk g (0 : Nat) Option.none)), Go.Value.int Go.IntKind.u32 n3, Go.Value.int Go.IntKind.u32 x] σ fun (v4 : Go.Value) (σ5 : Go.AI.AS) ↦
 K (Go.Value.tuple (Array.mk [])) σ5)
 (K (Go.Value.tuple (Array.mk [])) σ) := by
 intros
 kernel_rfl

theorem s30 : ∀ (T : Go.AI.Ct) (g : Nat) (win : Int) (σ : Go.AI.AS) (K : Go.Value → Go.AI.AS → Prop),
 Go.AI.fw Go.Proofs.Tryz.prog Go.AI.hintsS T (30 : Nat) [Go.Value.pointer (Option.some (Go.Addr.mk g (0 : Nat) Option.none)), Go.Value.int Go.IntKind.u32 win] σ K =
 T (54 : Nat) [Go.Value.pointer (Option.some (Go.Addr.mk g (0 : Nat) Option.none)), Go.Value.int Go.IntKind.u32 win, Go.Value.int Go.IntKind.i64 (1 : Int)] σ fun (v0 : Go.Value) (σ1 : Go.AI.AS) ↦
 Go.AI.tP v0 fun (b2 : Option Go.Addr) ↦
 Go.AI.ptrEq σ1 b2 Option.none fun (r3 : Bool) ↦
 Go.AI.bmatch r3 (K (Go.Value.slice Option.none (0 : Nat) (0 : Nat)) σ1)
 (Go.AI.ldc σ1 (Go.Addr.mk g ((0 : Nat) + (1 : Nat)) Option.none) fun (v4 : Go.Value) ↦
 Go.AI.tM v4 fun (b5 : Option Nat) ↦
 Go.AI.mget σ1 (Go.TypeDesc.int Go.IntKind.u32) b5 (Go.Value.int Go.IntKind.u32 win) fun (o6 : Option Go.Value) ↦
 Go.AI.tP (Option.getD o6 (Go.Value.pointer Option.none)) fun (b7 : Option Go.Addr) ↦
 Go.AI.pSome b7 fun (a8 : Go.Addr) ↦
 Go.AI.ldc σ1 (Go.Addr.mk (Go.Addr.block a8) (Go.Addr.off a8 + (3 : Nat)) Option.none) fun (v9 : Go.Value) ↦
 Go.AI.tI Go.IntKind.u32 v9 fun (n10 : Int) ↦
 Go.AI.bmatch (n10 != (4 : Int)) (K (Go.Value.slice Option.none (0 : Nat) (0 : Nat)) σ1)
 (Go.AI.ldc σ1 (Go.Addr.mk g ((0 : Nat) + (1 : Nat)) Option.none) fun (v11 : Go.Value) ↦
 Go.AI.tM v11 fun (b12 : Option Nat) ↦
 Go.AI.mget σ1 (Go.TypeDesc.int Go.IntKind.u32) b12 (Go.Value.int Go.IntKind.u32 win) fun (o13 : Option Go.Value) ↦
 Go.AI.tP (Option.getD o13 (Go.Value.pointer Option.none)) fun (b14 : Option Go.Addr) ↦
 T (73 : Nat) [Go.Value.pointer (Option.some (Go.Addr.mk g (0 : Nat) Option.none)), Go.Value.pointer b14] σ1 fun (v15 : Go.Value) (σ16 : Go.AI.AS) ↦
 Go.AI.tAgg v15 fun (l17 : List Go.Value) ↦
 Go.AI.tCons l17 fun (v18 : Go.Value) (l19 : List Go.Value) ↦
 Go.AI.tI Go.IntKind.i64 v18 fun (n20 : Int) ↦
 Go.AI.tCons l19 fun (v21 : Go.Value) (l22 : List Go.Value) ↦
 Go.AI.tI Go.IntKind.i64 v21 fun (n23 : Int) ↦
 Go.AI.tCons l22 fun (v24 : Go.Value) (l25 : List Go.Value) ↦
 Go.AI.tI Go.IntKind.i64 v24 fun (n26 : Int) ↦
 Go.AI.tCons l25 fun (v27 : Go.Value) (l28 : List Go.Value) ↦
 Go.AI.tI Go.IntKind.i64 v27 fun (n29 : Int) ↦
 Go.AI.tNil l28
 (Go.AI.newAt σ16
 (Go.AI.AObj.row Go.AI.RK.plain
 [Go.Value.int Go.IntKind.i64 (0 : Int), Go.Value.int Go.IntKind.i64 (0 : Int), Go.Value.int Go.IntKind.i64 (0 : Int), Go.Value.int Go.IntKind.i64 (0 : Int)])
 fun (i30 : Nat) (σ31 : Go.AI.AS) ↦
 Go.AI.puts σ31 (Go.Addr.mk i30 (0 : Nat) Option.none)
 [Go.Value.int Go.IntKind.i64 n20, Go.Value.int Go.IntKind.i64 n23, Go.Value.int Go.IntKind.i64 n26, Go.Value.int Go.IntKind.i64 n29] fun (σ32 : Go.AI.AS) ↦
 Go.AI.ldc σ32 (Go.Addr.mk i30 ((0 : Nat) + (3 : Nat)) Option.none) fun (v33 : Go.Value) ↦
 Go.AI.tI Go.IntKind.i64 v33 fun (n34 : Int) ↦
 Go.AI.req ((0 : Int) ≤ n34)
 (Go.AI.req (n34 ≤ n34)
 (Go.AI.req (n34 * (↑(Go.AI.bytesOf Go.Proofs.Tryz.prog (22 : Nat)) : Int) ≤ (140737488355328 : Int))
 (Go.AI.newAt σ32
 (Go.AI.AObj.row Go.AI.RK.rw (List.flatten (List.replicate (Int.toNat n34) (Go.AI.valCells (Go.Value.slice Option.none (0 : Nat) (0 : Nat))))))
 fun (i35 : Nat) (σ36 : Go.AI.AS) ↦
 Go.AI.ALoop
 (Go.AI.fl Go.Proofs.Tryz.prog Go.AI.hintsS T (30 : Nat)
 [Bool.true, Bool.true, Bool.true, Bool.true, Bool.true, Bool.false, Bool.true, Bool.false] [] K)
 [((5 : Nat), Option.some (Go.Value.pointer b14)),
 ((6 : Nat), Option.some (Go.Value.pointer (Option.some (Go.Addr.mk i30 (0 : Nat) Option.none)))),
 ((7 : Nat), Option.some (Go.Value.slice (Option.some (Go.Addr.mk i35 (0 : Nat) Option.none)) (Int.toNat n34) (1 : Nat))),
 ((45 : Nat), Option.some (Go.Value.int Go.IntKind.i64 (↑(Int.toNat n34) : Int))),
 ((46 : Nat), Option.some (Go.Value.int Go.IntKind.i64 (0 : Int)))]
 σ36)))))) := by
 intros
 kernel_rfl

theorem s30l : ∀ (T : Go.AI.Ct) (w r : Nat) (la : Option Go.Addr) (ln le : Nat) (r45_1 r46_1 : Int) (X : Go.AI.Regs → Go.AI.AS → Prop) (σ : Go.AI.AS) (K : Go.Value → Go.AI.AS → Prop),
 Go.AI.fl Go.Proofs.Tryz.prog Go.AI.hintsS T (30 : Nat) [Bool.true, Bool.true, Bool.true, Bool.true, Bool.true, Bool.false, Bool.true, Bool.false] [] K X
 [((5 : Nat), Option.some (Go.Value.pointer (Option.some (Go.Addr.mk w (0 : Nat) Option.none)))), ((6 : Nat), Option.some (Go.Value.pointer (Option.some (Go.Addr.mk r (0 : Nat) Option.none)))),
 ((7 : Nat), Option.some (Go.Value.slice la ln le)), ((45 : Nat), Option.some (Go.Value.int Go.IntKind.i64 r45_1)), ((46 : Nat), Option.some (Go.Value.int Go.IntKind.i64 r46_1))]
 σ =
 Go.AI.bmatch (Decidable.decide (r46_1 < r45_1))
 (Go.AI.ldc σ (Go.Addr.mk r ((0 : Nat) + (2 : Nat)) Option.none) fun (v0 : Go.Value) ↦
 Go.AI.tI Go.IntKind.i64 v0 fun (n1 : Int) ↦
 Go.AI.req ((0 : Int) ≤ n1)
 (Go.AI.req (n1 ≤ n1)
 (Go.AI.req (n1 * (↑(Go.AI.bytesOf Go.Proofs.Tryz.prog (32 : Nat)) : Int) ≤ (140737488355328 : Int))
 (Go.AI.newAt σ (Go.AI.AObj.row Go.AI.RK.rw (List.flatten (List.replicate (Int.toNat n1) (Go.AI.valCells (Go.Value.int Go.IntKind.u32 (0 : Int)))))) fun (i2 : Nat) (σ3 : Go.AI.AS) ↦
 Go.AI.req ((0 : Int) ≤ r46_1)
 (Go.AI.req (r46_1 < (↑ln : Int))
 (Go.AI.pSome la fun (a4 : Go.Addr) ↦
 Go.AI.req (le = Go.AI.szOf Go.Proofs.Tryz.prog (22 : Nat))
 (Go.AI.put1 σ3 (Go.AI.aadd a4 (Int.toNat r46_1 * Go.AI.szOf Go.Proofs.Tryz.prog (22 : Nat))) (Go.Value.slice (Option.some (Go.Addr.mk i2 (0 : Nat) Option.none)) (Int.toNat n1) (1 : Nat))
 fun (σ5 : Go.AI.AS) ↦
 Go.AI.req ((0 : Int) ≤ r46_1)
 (Go.AI.req (r46_1 < (↑ln : Int))
 (Go.AI.pSome la fun (a6 : Go.Addr) ↦
 Go.AI.req (le = Go.AI.szOf Go.Proofs.Tryz.prog (22 : Nat))
 (Go.AI.ldc σ5 (Go.AI.aadd a6 (Int.toNat r46_1 * Go.AI.szOf Go.Proofs.Tryz.prog (22 : Nat))) fun (v7 : Go.Value) ↦
 Go.AI.tL (1 : Nat) v7 fun (s8 : Go.AI.Sl) ↦
 Go.AI.ALoop
 (Go.AI.fl Go.Proofs.Tryz.prog Go.AI.hintsS T (30 : Nat)
 [Bool.true, Bool.true, Bool.true, Bool.true, Bool.true, Bool.false, Bool.true, Bool.false, Bool.false, Bool.true, Bool.true, Bool.false, Bool.false, Bool.true, Bool.true,
 Bool.true, Bool.false]
 [X] K)
 [((5 : Nat), Option.some (Go.Value.pointer (Option.some (Go.Addr.mk w (0 : Nat) Option.none)))),
 ((6 : Nat), Option.some (Go.Value.pointer (Option.some (Go.Addr.mk r (0 : Nat) Option.none)))), ((7 : Nat), Option.some (Go.Value.slice la ln le)),
 ((8 : Nat), Option.some (Go.Value.int Go.IntKind.i64 r46_1)), ((45 : Nat), Option.some (Go.Value.int Go.IntKind.i64 r45_1)),
 ((46 : Nat), Option.some (Go.Value.int Go.IntKind.i64 r46_1)), ((59 : Nat), Option.some (Go.Value.int Go.IntKind.i64 (↑(Go.AI.Sl.n s8) : Int))),
 ((60 : Nat), Option.some (Go.Value.int Go.IntKind.i64 (0 : Int)))]
 σ5))))))))))
 (K (Go.Value.slice la ln le) σ) := by
 intros
 kernel_rfl

theorem s30l1 : ∀ (T : Go.AI.Ct) (w r : Nat) (la : Option Go.Addr) (ln le : Nat) (y r45_1 r46_1 r59_1 r60_1 : Int) (X Y : Go.AI.Regs → Go.AI.AS → Prop) (σ : Go.AI.AS) (K : Go.Value → Go.AI.AS → Prop),
 Go.AI.fl Go.Proofs.Tryz.prog Go.AI.hintsS T (30 : Nat)
 [Bool.true, Bool.true, Bool.true, Bool.true, Bool.true, Bool.false, Bool.true, Bool.false, Bool.false, Bool.true, Bool.true, Bool.false, Bool.false, Bool.true, Bool.true, Bool.true, Bool.false] [X] K Y
 [((5 : Nat), Option.some (Go.Value.pointer (Option.some (Go.Addr.mk w (0 : Nat) Option.none)))), ((6 : Nat), Option.some (Go.Value.pointer (Option.some (Go.Addr.mk r (0 : Nat) Option.none)))),
 ((7 : Nat), Option.some (Go.Value.slice la ln le)), ((8 : Nat), Option.some (Go.Value.int Go.IntKind.i64 y)), ((45 : Nat), Option.some (Go.Value.int Go.IntKind.i64 r45_1)),
 ((46 : Nat), Option.some (Go.Value.int Go.IntKind.i64 r46_1)), ((59 : Nat), Option.some (Go.Value.int Go.IntKind.i64 r59_1)), ((60 : Nat), Option.some (Go.Value.int Go.IntKind.i64 r60_1))]
 σ =
 Go.AI.bmatch (Decidable.decide (r60_1 < r59_1))
 (Go.AI.req ((0 : Int) ≤ y)
 (Go.AI.req (y < (↑ln : Int))
 (Go.AI.pSome la fun (a0 : Go.Addr) ↦
 Go.AI.req (le = Go.AI.szOf Go.Proofs.Tryz.prog (22 : Nat))
 (Go.AI.ldc σ (Go.AI.aadd a0 (Int.toNat y * Go.AI.szOf Go.Proofs.Tryz.prog (22 : Nat))) fun (v1 : Go.Value) ↦
 Go.AI.tL (1 : Nat) v1 fun (s2 : Go.AI.Sl) ↦
 Go.AI.req ((0 : Int) ≤ r60_1)
 (Go.AI.req (r60_1 < (↑(Go.AI.Sl.n s2) : Int))
 (Go.AI.pSome (Go.AI.Sl.a s2) fun (a3 : Go.Addr) ↦
 Go.AI.put1 σ (Go.AI.aadd a3 (Int.toNat r60_1 * Go.AI.szOf Go.Proofs.Tryz.prog (32 : Nat))) (Go.Value.int Go.IntKind.u32 (32 : Int)) fun (σ4 : Go.AI.AS) ↦
 Go.AI.ldc σ4 (Go.Addr.mk w ((0 : Nat) + (6 : Nat)) Option.none) fun (v5 : Go.Value) ↦
 Go.AI.tM v5 fun (b6 : Option Nat) ↦
 Go.AI.mget2 σ4 Go.IntKind.u32 b6
 (Go.Value.agg (Array.mk [Go.Value.int Go.IntKind.u32 (Go.IntKind.wrap Go.IntKind.u32 r60_1), Go.Value.int Go.IntKind.u32 (Go.IntKind.wrap Go.IntKind.u32 y)]))
 fun (o7 : Option Go.Value) ↦
 Go.AI.tI Go.IntKind.u32 (Option.getD o7 (Go.Value.int Go.IntKind.u32 (0 : Int))) fun (n8 : Int) ↦
 Go.AI.bmatch (Option.isSome o7)
 (Go.AI.req ((0 : Int) ≤ y)
 (Go.AI.req (y < (↑ln : Int))
 (Go.AI.pSome la fun (a9 : Go.Addr) ↦
 Go.AI.req (le = Go.AI.szOf Go.Proofs.Tryz.prog (22 : Nat))
 (Go.AI.ldc σ4 (Go.AI.aadd a9 (Int.toNat y * Go.AI.szOf Go.Proofs.Tryz.prog (22 : Nat))) fun (v10 : Go.Value) ↦
 Go.AI.tL (1 : Nat) v10 fun (s11 : Go.AI.Sl) ↦
 Go.AI.req ((0 : Int) ≤ r60_1)
 (Go.AI.req (r60_1 < (↑(Go.AI.Sl.n s11) : Int))
 (Go.AI.pSome (Go.AI.Sl.a s11) fun (a12 : Go.Addr) ↦
 Go.AI.put1 σ4 (Go.AI.aadd a12 (Int.toNat r60_1 * Go.AI.szOf Go.Proofs.Tryz.prog (32 : Nat))) (Go.Value.int Go.IntKind.u32 n8) fun (σ13 : Go.AI.AS) ↦
 Y
 [((5 : Nat), Option.some (Go.Value.pointer (Option.some (Go.Addr.mk w (0 : Nat) Option.none)))),
 ((6 : Nat), Option.some (Go.Value.pointer (Option.some (Go.Addr.mk r (0 : Nat) Option.none)))), ((7 : Nat), Option.some (Go.Value.slice la ln le)),
 ((8 : Nat), Option.some (Go.Value.int Go.IntKind.i64 y)), ((45 : Nat), Option.some (Go.Value.int Go.IntKind.i64 r45_1)),
 ((46 : Nat), Option.some (Go.Value.int Go.IntKind.i64 r46_1)), ((59 : Nat), Option.some (Go.Value.int Go.IntKind.i64 r59_1)),
 ((60 : Nat), Option.some (Go.Value.int Go.IntKind.i64 (Go.IntKind.wrap Go.IntKind.i64 (r60_1 + (1 : Int)))))]
 σ13))))))
 (Y
 [((5 : Nat), Option.some (Go.Value.pointer (Option.some (Go.Addr.mk w (0 : Nat) Option.none)))),
 ((6 : Nat), Option.some (Go.Value.pointer (Option.some (Go.Addr.mk r (0 : Nat) Option.none)))), ((7 : Nat), Option.some (Go.Value.slice la ln le)),
 ((8 : Nat), Option.some (Go.Value.int Go.IntKind.i64 y)), ((45 : Nat), Option.some (Go.Value.int Go.IntKind.i64 r45_1)),
 ((46 : Nat), Option.some (Go.Value.int Go.IntKind.i64 r46_1)), ((59 : Nat), Option.some (Go.Value.int Go.IntKind.i64 r59_1)),
 ((60 : Nat), Option.some (Go.Value.int Go.IntKind.i64 (Go.IntKind.wrap Go.IntKind.i64 (r60_1 + (1 : Int)))))]
 σ4)))))))
 (X
 [((5 : Nat), Option.some (Go.Value.pointer (Option.some (Go.Addr.mk w (0 : Nat) Option.none)))), ((6 : Nat), Option.some (Go.Value.pointer (Option.some (Go.Addr.mk r (0 : Nat) Option.none)))),
 ((7 : Nat), Option.some (Go.Value.slice la ln le)), ((45 : Nat), Option.some (Go.Value.int Go.IntKind.i64 r45_1)),
 ((46 : Nat), Option.some (Go.Value.int Go.IntKind.i64 (Go.IntKind.wrap Go.IntKind.i64 (r46_1 + (1 : Int)))))]
 σ) := by
 intros
 kernel_rfl

end Go.AI
end
section
/- The conditions ahead of the calls of the program's functions, reckoned as far as they go (equations that the kernel checks); no condition. -/
set_option maxRecDepth 1000000
set_option linter.unusedVariables false
namespace Go.AI
open Go.Proofs
theorem s8 : ∀ (T : Go.AI.Ct) (wide high x y : Int) (la : Option Go.Addr) (ln : Nat) (σ : Go.AI.AS) (K : Go.Value → Go.AI.AS → Prop),
 Go.AI.fw Go.Proofs.Tryz.prog Go.AI.hintsS T (8 : Nat)
 [Go.Value.int Go.IntKind.u8 wide, Go.Value.int Go.IntKind.u8 high, Go.Value.int Go.IntKind.u8 x, Go.Value.int Go.IntKind.u8 y, Go.Value.slice la ln (1 : Nat)] σ K =
 Go.AI.bmatch (Decidable.decide ((↑ln : Int) > (300 : Int))) (T (12 : Nat) [] σ fun (v0 : Go.Value) (σ1 : Go.AI.AS) ↦ Go.AI.tB v0 fun (b2 : Bool) ↦ K (Go.Value.bool b2) σ1)
 (T (13 : Nat)
 [Go.Value.int Go.IntKind.i64 (Go.IntKind.wrap Go.IntKind.i64 ((1 : Int) + Int.tmod (Go.IntKind.wrap Go.IntKind.i64 wide) (20 : Int))),
 Go.Value.int Go.IntKind.i64 (Go.IntKind.wrap Go.IntKind.i64 ((1 : Int) + Int.tmod (Go.IntKind.wrap Go.IntKind.i64 high) (10 : Int))), Go.Value.slice Option.none (0 : Nat) (0 : Nat)]
 σ fun (v3 : Go.Value) (σ4 : Go.AI.AS) ↦
 Go.AI.tTup v3 fun (l5 : List Go.Value) ↦
 Go.AI.pSome l5[(0 : Nat)]? fun (u6 : Go.Value) ↦
 Go.AI.tP u6 fun (b7 : Option Go.Addr) ↦
 Go.AI.tTup v3 fun (l8 : List Go.Value) ↦
 Go.AI.pSome l8[(1 : Nat)]? fun (u9 : Go.Value) ↦
 Go.AI.tI Go.IntKind.i64 u9 fun (n10 : Int) ↦
 T (14 : Nat) [] σ4 fun (v11 : Go.Value) (σ12 : Go.AI.AS) ↦
 Go.AI.tP v11 fun (b13 : Option Go.Addr) ↦
 T (15 : Nat) [Go.Value.int Go.IntKind.i64 n10] σ12 fun (v14 : Go.Value) (σ15 : Go.AI.AS) ↦
 Go.AI.tI Go.IntKind.i64 v14 fun (n16 : Int) ↦
 Go.AI.bmatch (n16 != (0 : Int)) (K (Go.Value.bool Bool.false) σ15)
 (Go.AI.ptrEq σ15 b7 Option.none fun (r17 : Bool) ↦
 Go.AI.bmatch r17 (K (Go.Value.bool Bool.false) σ15)
 (Go.AI.newAt σ15
 (Go.AI.AObj.row Go.AI.RK.rw
 [Go.Value.int Go.IntKind.u32 (0 : Int), Go.Value.int Go.IntKind.u32 (0 : Int), Go.Value.int Go.IntKind.u32 (0 : Int), Go.Value.int Go.IntKind.u32 (4 : Int),
 Go.Value.int Go.IntKind.u32 (0 : Int)])
 fun (i18 : Nat) (σ19 : Go.AI.AS) ↦
 T (16 : Nat)
 [Go.Value.pointer b7, Go.Value.iface (29 : Nat) (Go.Value.pointer b13), Go.Value.int Go.IntKind.u32 (35 : Int),
 Go.Value.slice (Option.some (Go.Addr.mk i18 (0 : Nat) Option.none)) (5 : Nat) (1 : Nat)]
 σ19 fun (v20 : Go.Value) (σ21 : Go.AI.AS) ↦
 Go.AI.tTup v20 fun (l22 : List Go.Value) ↦
 Go.AI.pSome l22[(0 : Nat)]? fun (u23 : Go.Value) ↦
 Go.AI.tI Go.IntKind.u32 u23 fun (n24 : Int) ↦
 Go.AI.tTup v20 fun (l25 : List Go.Value) ↦
 Go.AI.pSome l25[(1 : Nat)]? fun (u26 : Go.Value) ↦
 Go.AI.tI Go.IntKind.i64 u26 fun (n27 : Int) ↦
 Go.AI.newAt σ21 (Go.AI.AObj.row Go.AI.RK.rw [Go.Value.int Go.IntKind.u32 n24]) fun (i28 : Nat) (σ29 : Go.AI.AS) ↦
 T (16 : Nat)
 [Go.Value.pointer b7, Go.Value.iface (29 : Nat) (Go.Value.pointer b13), Go.Value.int Go.IntKind.u32 (47 : Int),
 Go.Value.slice (Option.some (Go.Addr.mk i28 (0 : Nat) Option.none)) (1 : Nat) (1 : Nat)]
 σ29 fun (v30 : Go.Value) (σ31 : Go.AI.AS) ↦
 Go.AI.req (Go.IntKind.wrap Go.IntKind.i64 ((1 : Int) + Int.tmod (Go.IntKind.wrap Go.IntKind.i64 wide) (20 : Int)) ≠ (0 : Int))
 (Go.AI.req (Go.IntKind.wrap Go.IntKind.i64 ((1 : Int) + Int.tmod (Go.IntKind.wrap Go.IntKind.i64 high) (10 : Int)) ≠ (0 : Int))
 (Go.AI.newAt σ31
 (Go.AI.AObj.row Go.AI.RK.rw
 [Go.Value.int Go.IntKind.u32 n24,
 Go.Value.int Go.IntKind.u32
 (Go.IntKind.wrap Go.IntKind.u32
 (Int.tmod (Go.IntKind.wrap Go.IntKind.i64 x)
 (Go.IntKind.wrap Go.IntKind.i64 ((1 : Int) + Int.tmod (Go.IntKind.wrap Go.IntKind.i64 wide) (20 : Int))))),
 Go.Value.int Go.IntKind.u32
 (Go.IntKind.wrap Go.IntKind.u32
 (Int.tmod (Go.IntKind.wrap Go.IntKind.i64 y)
 (Go.IntKind.wrap Go.IntKind.i64 ((1 : Int) + Int.tmod (Go.IntKind.wrap Go.IntKind.i64 high) (10 : Int)))))])
 fun (i32 : Nat) (σ33 : Go.AI.AS) ↦
 T (16 : Nat)
 [Go.Value.pointer b7, Go.Value.iface (29 : Nat) (Go.Value.pointer b13), Go.Value.int Go.IntKind.u32 (43 : Int),
 Go.Value.slice (Option.some (Go.Addr.mk i32 (0 : Nat) Option.none)) (3 : Nat) (1 : Nat)]
 σ33 fun (v34 : Go.Value) (σ35 : Go.AI.AS) ↦
 Go.AI.req (Go.IntKind.wrap Go.IntKind.i64 ((1 : Int) + Int.tmod (Go.IntKind.wrap Go.IntKind.i64 high) (10 : Int)) ≠ (0 : Int))
 (Go.AI.req (Go.IntKind.wrap Go.IntKind.i64 ((1 : Int) + Int.tmod (Go.IntKind.wrap Go.IntKind.i64 wide) (20 : Int)) ≠ (0 : Int))
 (Go.AI.req
 ((0 : Int) ≤
 Go.IntKind.wrap Go.IntKind.i64
 (Go.IntKind.wrap Go.IntKind.i64 ((1 : Int) + Int.tmod (Go.IntKind.wrap Go.IntKind.i64 wide) (20 : Int)) *
 Go.IntKind.wrap Go.IntKind.i64 ((1 : Int) + Int.tmod (Go.IntKind.wrap Go.IntKind.i64 high) (10 : Int))))
 (Go.AI.req
 (Go.IntKind.wrap Go.IntKind.i64
 (Go.IntKind.wrap Go.IntKind.i64 ((1 : Int) + Int.tmod (Go.IntKind.wrap Go.IntKind.i64 wide) (20 : Int)) *
 Go.IntKind.wrap Go.IntKind.i64 ((1 : Int) + Int.tmod (Go.IntKind.wrap Go.IntKind.i64 high) (10 : Int))) ≤
 Go.IntKind.wrap Go.IntKind.i64
 (Go.IntKind.wrap Go.IntKind.i64 ((1 : Int) + Int.tmod (Go.IntKind.wrap Go.IntKind.i64 wide) (20 : Int)) *
 Go.IntKind.wrap Go.IntKind.i64 ((1 : Int) + Int.tmod (Go.IntKind.wrap Go.IntKind.i64 high) (10 : Int))))
 (Go.AI.req
 (Go.IntKind.wrap Go.IntKind.i64
 (Go.IntKind.wrap Go.IntKind.i64 ((1 : Int) + Int.tmod (Go.IntKind.wrap Go.IntKind.i64 wide) (20 : Int)) *
 Go.IntKind.wrap Go.IntKind.i64 ((1 : Int) + Int.tmod (Go.IntKind.wrap Go.IntKind.i64 high) (10 : Int))) *
 (↑(Go.AI.bytesOf Go.Proofs.Tryz.prog (32 : Nat)) : Int) ≤
 (140737488355328 : Int))
 (Go.AI.newAt σ35
 (Go.AI.AObj.row Go.AI.RK.rw
 (List.flatten
 (List.replicate
 (Int.toNat
 (Go.IntKind.wrap Go.IntKind.i64
 (Go.IntKind.wrap Go.IntKind.i64 ((1 : Int) + Int.tmod (Go.IntKind.wrap Go.IntKind.i64 wide) (20 : Int)) *
 Go.IntKind.wrap Go.IntKind.i64 ((1 : Int) + Int.tmod (Go.IntKind.wrap Go.IntKind.i64 high) (10 : Int)))))
 (Go.AI.valCells (Go.Value.int Go.IntKind.u32 (0 : Int))))))
 fun (i36 : Nat) (σ37 : Go.AI.AS) ↦
 Go.AI.ALoop
 (Go.AI.fl Go.Proofs.Tryz.prog Go.AI.hintsS T (8 : Nat)
 [Bool.true, Bool.true, Bool.true, Bool.true, Bool.true, Bool.true, Bool.true, Bool.true, Bool.true, Bool.true, Bool.true, Bool.false,
 Bool.true, Bool.false]
 [] K)
 [((4 : Nat), Option.some (Go.Value.slice la ln (1 : Nat))),
 ((11 : Nat),
 Option.some
 (Go.Value.int Go.IntKind.i64 (Go.IntKind.wrap Go.IntKind.i64 ((1 : Int) + Int.tmod (Go.IntKind.wrap Go.IntKind.i64 wide) (20 : Int))))),
 ((12 : Nat),
 Option.some
 (Go.Value.int Go.IntKind.i64 (Go.IntKind.wrap Go.IntKind.i64 ((1 : Int) + Int.tmod (Go.IntKind.wrap Go.IntKind.i64 high) (10 : Int))))),
 ((13 : Nat), Option.some (Go.Value.pointer b7)), ((15 : Nat), Option.some (Go.Value.pointer b13)),
 ((16 : Nat), Option.some (Go.Value.int Go.IntKind.u32 n24)),
 ((18 : Nat),
 Option.some
 (Go.Value.int Go.IntKind.i64
 (Go.IntKind.wrap Go.IntKind.i64
 (Go.IntKind.wrap Go.IntKind.i64
 (Int.tmod (Go.IntKind.wrap Go.IntKind.i64 y)
 (Go.IntKind.wrap Go.IntKind.i64 ((1 : Int) + Int.tmod (Go.IntKind.wrap Go.IntKind.i64 high) (10 : Int))) *
 Go.IntKind.wrap Go.IntKind.i64 ((1 : Int) + Int.tmod (Go.IntKind.wrap Go.IntKind.i64 wide) (20 : Int))) +
 Int.tmod (Go.IntKind.wrap Go.IntKind.i64 x)
 (Go.IntKind.wrap Go.IntKind.i64 ((1 : Int) + Int.tmod (Go.IntKind.wrap Go.IntKind.i64 wide) (20 : Int))))))),
 ((19 : Nat),
 Option.some
 (Go.Value.slice (Option.some (Go.Addr.mk i36 (0 : Nat) Option.none))
 (Int.toNat
 (Go.IntKind.wrap Go.IntKind.i64
 (Go.IntKind.wrap Go.IntKind.i64 ((1 : Int) + Int.tmod (Go.IntKind.wrap Go.IntKind.i64 wide) (20 : Int)) *
 Go.IntKind.wrap Go.IntKind.i64 ((1 : Int) + Int.tmod (Go.IntKind.wrap Go.IntKind.i64 high) (10 : Int)))))
 (1 : Nat))),
 ((20 : Nat), Option.some (Go.Value.int Go.IntKind.i64 (0 : Int)))]
 σ37)))))))))) := by
 intros
 kernel_rfl

theorem s8l : ∀ (T : Go.AI.Ct) (la : Option Go.Addr) (ln le : Nat) (w h : Int) (g m : Nat) (a r18_1 : Int) (wanta : Option Go.Addr) (wantn wante : Nat) (i : Int) (X : Go.AI.Regs → Go.AI.AS → Prop)
 (σ : Go.AI.AS) (K : Go.Value → Go.AI.AS → Prop),
 Go.AI.fl Go.Proofs.Tryz.prog Go.AI.hintsS T (8 : Nat) [Bool.true, Bool.true, Bool.true, Bool.true, Bool.true, Bool.true, Bool.true, Bool.true, Bool.true, Bool.true, Bool.true, Bool.false, Bool.true, Bool.false] []
 K X
 [((4 : Nat), Option.some (Go.Value.slice la ln le)), ((11 : Nat), Option.some (Go.Value.int Go.IntKind.i64 w)), ((12 : Nat), Option.some (Go.Value.int Go.IntKind.i64 h)),
 ((13 : Nat), Option.some (Go.Value.pointer (Option.some (Go.Addr.mk g (0 : Nat) Option.none)))), ((15 : Nat), Option.some (Go.Value.pointer (Option.some (Go.Addr.mk m (0 : Nat) Option.none)))),
 ((16 : Nat), Option.some (Go.Value.int Go.IntKind.u32 a)), ((18 : Nat), Option.some (Go.Value.int Go.IntKind.i64 r18_1)), ((19 : Nat), Option.some (Go.Value.slice wanta wantn wante)),
 ((20 : Nat), Option.some (Go.Value.int Go.IntKind.i64 i))]
 σ =
 Go.AI.bmatch (Decidable.decide (i < Go.IntKind.wrap Go.IntKind.i64 (w * h)))
 (Go.AI.req ((0 : Int) ≤ i)
 (Go.AI.req (i < (↑wantn : Int))
 (Go.AI.pSome wanta fun (a0 : Go.Addr) ↦
 Go.AI.req (wante = Go.AI.szOf Go.Proofs.Tryz.prog (32 : Nat))
 (Go.AI.put1 σ (Go.AI.aadd a0 (Int.toNat i * Go.AI.szOf Go.Proofs.Tryz.prog (32 : Nat))) (Go.Value.int Go.IntKind.u32 (32 : Int)) fun (σ1 : Go.AI.AS) ↦
 X
 [((4 : Nat), Option.some (Go.Value.slice la ln le)), ((11 : Nat), Option.some (Go.Value.int Go.IntKind.i64 w)), ((12 : Nat), Option.some (Go.Value.int Go.IntKind.i64 h)),
 ((13 : Nat), Option.some (Go.Value.pointer (Option.some (Go.Addr.mk g (0 : Nat) Option.none)))), ((15 : Nat), Option.some (Go.Value.pointer (Option.some (Go.Addr.mk m (0 : Nat) Option.none)))),
 ((16 : Nat), Option.some (Go.Value.int Go.IntKind.u32 a)), ((18 : Nat), Option.some (Go.Value.int Go.IntKind.i64 r18_1)), ((19 : Nat), Option.some (Go.Value.slice wanta wantn wante)),
 ((20 : Nat), Option.some (Go.Value.int Go.IntKind.i64 (Go.IntKind.wrap Go.IntKind.i64 (i + (1 : Int)))))]
 σ1))))
 (Go.AI.ALoop
 (Go.AI.fl Go.Proofs.Tryz.prog Go.AI.hintsS T (8 : Nat)
 [Bool.true, Bool.true, Bool.true, Bool.true, Bool.true, Bool.true, Bool.true, Bool.true, Bool.true, Bool.true, Bool.true, Bool.true, Bool.false, Bool.true, Bool.false] [] K)
 [((4 : Nat), Option.some (Go.Value.slice la ln le)), ((11 : Nat), Option.some (Go.Value.int Go.IntKind.i64 w)), ((12 : Nat), Option.some (Go.Value.int Go.IntKind.i64 h)),
 ((13 : Nat), Option.some (Go.Value.pointer (Option.some (Go.Addr.mk g (0 : Nat) Option.none)))), ((15 : Nat), Option.some (Go.Value.pointer (Option.some (Go.Addr.mk m (0 : Nat) Option.none)))),
 ((16 : Nat), Option.some (Go.Value.int Go.IntKind.u32 a)), ((18 : Nat), Option.some (Go.Value.int Go.IntKind.i64 r18_1)), ((19 : Nat), Option.some (Go.Value.slice wanta wantn wante)),
 ((21 : Nat), Option.some (Go.Value.int Go.IntKind.i64 (0 : Int)))]
 σ) := by
 intros
 kernel_rfl

theorem s8l1 : ∀ (T : Go.AI.Ct) (la : Option Go.Addr) (ln le : Nat) (w h : Int) (g m : Nat) (a r18_1 : Int) (wanta : Option Go.Addr) (wantn wante : Nat) (i : Int) (X : Go.AI.Regs → Go.AI.AS → Prop)
 (σ : Go.AI.AS) (K : Go.Value → Go.AI.AS → Prop),
 Go.AI.fl Go.Proofs.Tryz.prog Go.AI.hintsS T (8 : Nat)
 [Bool.true, Bool.true, Bool.true, Bool.true, Bool.true, Bool.true, Bool.true, Bool.true, Bool.true, Bool.true, Bool.true, Bool.true, Bool.false, Bool.true, Bool.false] [] K X
 [((4 : Nat), Option.some (Go.Value.slice la ln le)), ((11 : Nat), Option.some (Go.Value.int Go.IntKind.i64 w)), ((12 : Nat), Option.some (Go.Value.int Go.IntKind.i64 h)),
 ((13 : Nat), Option.some (Go.Value.pointer (Option.some (Go.Addr.mk g (0 : Nat) Option.none)))), ((15 : Nat), Option.some (Go.Value.pointer (Option.some (Go.Addr.mk m (0 : Nat) Option.none)))),
 ((16 : Nat), Option.some (Go.Value.int Go.IntKind.u32 a)), ((18 : Nat), Option.some (Go.Value.int Go.IntKind.i64 r18_1)), ((19 : Nat), Option.some (Go.Value.slice wanta wantn wante)),
 ((21 : Nat), Option.some (Go.Value.int Go.IntKind.i64 i))]
 σ =
 Go.AI.bmatch (Decidable.decide (i < (↑ln : Int)))
 (Go.AI.req ((0 : Int) ≤ i)
 (Go.AI.req (i < (↑ln : Int))
 (Go.AI.pSome la fun (a0 : Go.Addr) ↦
 Go.AI.req (le = Go.AI.szOf Go.Proofs.Tryz.prog (32 : Nat))
 (Go.AI.ldc σ (Go.AI.aadd a0 (Int.toNat i * Go.AI.szOf Go.Proofs.Tryz.prog (32 : Nat))) fun (v1 : Go.Value) ↦
 Go.AI.tI Go.IntKind.u32 v1 fun (n2 : Int) ↦
 T (29 : Nat) [Go.Value.pointer (Option.some (Go.Addr.mk g (0 : Nat) Option.none)), Go.Value.int Go.IntKind.u32 n2] σ fun (v3 : Go.Value) (σ4 : Go.AI.AS) ↦
 Go.AI.req ((0 : Int) ≤ i)
 (Go.AI.req (i < (↑ln : Int))
 (Go.AI.pSome la fun (a5 : Go.Addr) ↦
 Go.AI.req (le = Go.AI.szOf Go.Proofs.Tryz.prog (32 : Nat))
 (Go.AI.ldc σ4 (Go.AI.aadd a5 (Int.toNat i * Go.AI.szOf Go.Proofs.Tryz.prog (32 : Nat))) fun (v6 : Go.Value) ↦
 Go.AI.tI Go.IntKind.u32 v6 fun (n7 : Int) ↦
 Go.AI.bmatch (n7 == (10 : Int))
 (Go.AI.req (w ≠ (0 : Int))
 (X
 [((4 : Nat), Option.some (Go.Value.slice la ln le)), ((11 : Nat), Option.some (Go.Value.int Go.IntKind.i64 w)), ((12 : Nat), Option.some (Go.Value.int Go.IntKind.i64 h)),
 ((13 : Nat), Option.some (Go.Value.pointer (Option.some (Go.Addr.mk g (0 : Nat) Option.none)))),
 ((15 : Nat), Option.some (Go.Value.pointer (Option.some (Go.Addr.mk m (0 : Nat) Option.none)))), ((16 : Nat), Option.some (Go.Value.int Go.IntKind.u32 a)),
 ((18 : Nat),
 Option.some
 (Go.Value.int Go.IntKind.i64 (Go.IntKind.wrap Go.IntKind.i64 (Go.IntKind.wrap Go.IntKind.i64 (Go.IntKind.wrap Go.IntKind.i64 (Int.tdiv r18_1 w) + (1 : Int)) * w)))),
 ((19 : Nat), Option.some (Go.Value.slice wanta wantn wante)), ((21 : Nat), Option.some (Go.Value.int Go.IntKind.i64 (Go.IntKind.wrap Go.IntKind.i64 (i + (1 : Int)))))]
 σ4))
 (Go.AI.bmatch (Decidable.decide (r18_1 < Go.IntKind.wrap Go.IntKind.i64 (w * h)))
 (Go.AI.req ((0 : Int) ≤ i)
 (Go.AI.req (i < (↑ln : Int))
 (Go.AI.pSome la fun (a8 : Go.Addr) ↦
 Go.AI.req (le = Go.AI.szOf Go.Proofs.Tryz.prog (32 : Nat))
 (Go.AI.ldc σ4 (Go.AI.aadd a8 (Int.toNat i * Go.AI.szOf Go.Proofs.Tryz.prog (32 : Nat))) fun (v9 : Go.Value) ↦
 Go.AI.tI Go.IntKind.u32 v9 fun (n10 : Int) ↦
 Go.AI.req ((0 : Int) ≤ r18_1)
 (Go.AI.req (r18_1 < (↑wantn : Int))
 (Go.AI.pSome wanta fun (a11 : Go.Addr) ↦
 Go.AI.req (wante = Go.AI.szOf Go.Proofs.Tryz.prog (32 : Nat))
 (Go.AI.put1 σ4 (Go.AI.aadd a11 (Int.toNat r18_1 * Go.AI.szOf Go.Proofs.Tryz.prog (32 : Nat))) (Go.Value.int Go.IntKind.u32 n10) fun (σ12 : Go.AI.AS) ↦
 X
 [((4 : Nat), Option.some (Go.Value.slice la ln le)), ((11 : Nat), Option.some (Go.Value.int Go.IntKind.i64 w)),
 ((12 : Nat), Option.some (Go.Value.int Go.IntKind.i64 h)),
 ((13 : Nat), Option.some (Go.Value.pointer (Option.some (Go.Addr.mk g (0 : Nat) Option.none)))),
 ((15 : Nat), Option.some (Go.Value.pointer (Option.some (Go.Addr.mk m (0 : Nat) Option.none)))),
 ((16 : Nat), Option.some (Go.Value.int Go.IntKind.u32 a)),
 ((18 : Nat), Option.some (Go.Value.int Go.IntKind.i64 (Go.IntKind.wrap Go.IntKind.i64 (r18_1 + (1 : Int))))),
 ((19 : Nat), Option.some (Go.Value.slice wanta wantn wante)),
 ((21 : Nat), Option.some (Go.Value.int Go.IntKind.i64 (Go.IntKind.wrap Go.IntKind.i64 (i + (1 : Int)))))]
 σ12)))))))
 (X
 [((4 : Nat), Option.some (Go.Value.slice la ln le)), ((11 : Nat), Option.some (Go.Value.int Go.IntKind.i64 w)), ((12 : Nat), Option.some (Go.Value.int Go.IntKind.i64 h)),
 ((13 : Nat), Option.some (Go.Value.pointer (Option.some (Go.Addr.mk g (0 : Nat) Option.none)))),
 ((15 : Nat), Option.some (Go.Value.pointer (Option.some (Go.Addr.mk m (0 : Nat) Option.none)))), ((16 : Nat), Option.some (Go.Value.int Go.IntKind.u32 a)),
 ((18 : Nat), Option.some (Go.Value.int Go.IntKind.i64 r18_1)), ((19 : Nat), Option.some (Go.Value.slice wanta wantn wante)),
 ((21 : Nat), Option.some (Go.Value.int Go.IntKind.i64 (Go.IntKind.wrap Go.IntKind.i64 (i + (1 : Int)))))]
 σ4)))))))))
 (T (30 : Nat) [Go.Value.pointer (Option.some (Go.Addr.mk g (0 : Nat) Option.none)), Go.Value.int Go.IntKind.u32 a] σ fun (v13 : Go.Value) (σ14 : Go.AI.AS) ↦
 Go.AI.tL (1 : Nat) v13 fun (s15 : Go.AI.Sl) ↦
 Go.AI.bmatch ((↑(Go.AI.Sl.n s15) : Int) != h) (K (Go.Value.bool Bool.false) σ14)
 (T (17 : Nat) [Go.Value.pointer (Option.some (Go.Addr.mk g (0 : Nat) Option.none))] σ14 fun (v16 : Go.Value) (σ17 : Go.AI.AS) ↦
 Go.AI.tL (2 : Nat) v16 fun (s18 : Go.AI.Sl) ↦
 Go.AI.bmatch ((↑(Go.AI.Sl.n s18) : Int) != (0 : Int)) (K (Go.Value.bool Bool.false) σ17)
 (Go.AI.ALoop
 (Go.AI.fl Go.Proofs.Tryz.prog Go.AI.hintsS T (8 : Nat)
 [Bool.true, Bool.true, Bool.true, Bool.true, Bool.true, Bool.true, Bool.true, Bool.true, Bool.true, Bool.true, Bool.true, Bool.true, Bool.true, Bool.true, Bool.true, Bool.false, Bool.true,
 Bool.false]
 [] K)
 [((11 : Nat), Option.some (Go.Value.int Go.IntKind.i64 w)), ((12 : Nat), Option.some (Go.Value.int Go.IntKind.i64 h)),
 ((13 : Nat), Option.some (Go.Value.pointer (Option.some (Go.Addr.mk g (0 : Nat) Option.none)))), ((15 : Nat), Option.some (Go.Value.pointer (Option.some (Go.Addr.mk m (0 : Nat) Option.none)))),
 ((16 : Nat), Option.some (Go.Value.int Go.IntKind.u32 a)), ((19 : Nat), Option.some (Go.Value.slice wanta wantn wante)),
 ((22 : Nat), Option.some (Go.Value.slice (Go.AI.Sl.a s15) (Go.AI.Sl.n s15) (1 : Nat))), ((23 : Nat), Option.some (Go.Value.int Go.IntKind.i64 (0 : Int)))]
 σ17))) := by
 intros
 kernel_rfl

theorem s8l2 : ∀ (T : Go.AI.Ct) (w h : Int) (g m : Nat) (a : Int) (wanta : Option Go.Addr) (wantn wante : Nat) (rowsa : Option Go.Addr) (rowsn rowse : Nat) (i : Int) (X : Go.AI.Regs → Go.AI.AS → Prop)
 (σ : Go.AI.AS) (K : Go.Value → Go.AI.AS → Prop),
 Go.AI.fl Go.Proofs.Tryz.prog Go.AI.hintsS T (8 : Nat)
 [Bool.true, Bool.true, Bool.true, Bool.true, Bool.true, Bool.true, Bool.true, Bool.true, Bool.true, Bool.true, Bool.true, Bool.true, Bool.true, Bool.true, Bool.true, Bool.false, Bool.true, Bool.false] [] K X
 [((11 : Nat), Option.some (Go.Value.int Go.IntKind.i64 w)), ((12 : Nat), Option.some (Go.Value.int Go.IntKind.i64 h)),
 ((13 : Nat), Option.some (Go.Value.pointer (Option.some (Go.Addr.mk g (0 : Nat) Option.none)))), ((15 : Nat), Option.some (Go.Value.pointer (Option.some (Go.Addr.mk m (0 : Nat) Option.none)))),
 ((16 : Nat), Option.some (Go.Value.int Go.IntKind.u32 a)), ((19 : Nat), Option.some (Go.Value.slice wanta wantn wante)), ((22 : Nat), Option.some (Go.Value.slice rowsa rowsn rowse)),
 ((23 : Nat), Option.some (Go.Value.int Go.IntKind.i64 i))]
 σ =
 Go.AI.bmatch (Decidable.decide (i < h))
 (Go.AI.req ((0 : Int) ≤ i)
 (Go.AI.req (i < (↑rowsn : Int))
 (Go.AI.pSome rowsa fun (a0 : Go.Addr) ↦
 Go.AI.req (rowse = Go.AI.szOf Go.Proofs.Tryz.prog (22 : Nat))
 (Go.AI.ldc σ (Go.AI.aadd a0 (Int.toNat i * Go.AI.szOf Go.Proofs.Tryz.prog (22 : Nat))) fun (v1 : Go.Value) ↦
 Go.AI.tL (1 : Nat) v1 fun (s2 : Go.AI.Sl) ↦
 Go.AI.req ((0 : Int) ≤ Go.IntKind.wrap Go.IntKind.i64 (i * w))
 (Go.AI.req (Go.IntKind.wrap Go.IntKind.i64 (i * w) ≤ Go.IntKind.wrap Go.IntKind.i64 (Go.IntKind.wrap Go.IntKind.i64 (i * w) + w))
 (Go.AI.req (Go.IntKind.wrap Go.IntKind.i64 (Go.IntKind.wrap Go.IntKind.i64 (i * w) + w) ≤ (↑(Go.AI.capLo σ wanta wante wantn) : Int))
 (Go.AI.chk (Go.AI.nilOr wanta wante (Go.AI.szOf Go.Proofs.Tryz.prog (32 : Nat)))
 (T (18 : Nat)
 [Go.Value.slice (Go.AI.Sl.a s2) (Go.AI.Sl.n s2) (1 : Nat),
 Go.Value.slice (Option.map (fun (x : Go.Addr) ↦ Go.AI.aadd x (Int.toNat (Go.IntKind.wrap Go.IntKind.i64 (i * w)) * Go.AI.szOf Go.Proofs.Tryz.prog (32 : Nat))) wanta)
 (Int.toNat (Go.IntKind.wrap Go.IntKind.i64 (Go.IntKind.wrap Go.IntKind.i64 (i * w) + w) - Go.IntKind.wrap Go.IntKind.i64 (i * w))) (1 : Nat)]
 σ fun (v3 : Go.Value) (σ4 : Go.AI.AS) ↦
 Go.AI.tB v3 fun (b5 : Bool) ↦
 Go.AI.bmatch (!b5) (K (Go.Value.bool Bool.false) σ4)
 (X
 [((11 : Nat), Option.some (Go.Value.int Go.IntKind.i64 w)), ((12 : Nat), Option.some (Go.Value.int Go.IntKind.i64 h)),
 ((13 : Nat), Option.some (Go.Value.pointer (Option.some (Go.Addr.mk g (0 : Nat) Option.none)))),
 ((15 : Nat), Option.some (Go.Value.pointer (Option.some (Go.Addr.mk m (0 : Nat) Option.none)))), ((16 : Nat), Option.some (Go.Value.int Go.IntKind.u32 a)),
 ((19 : Nat), Option.some (Go.Value.slice wanta wantn wante)), ((22 : Nat), Option.some (Go.Value.slice rowsa rowsn rowse)),
 ((23 : Nat), Option.some (Go.Value.int Go.IntKind.i64 (Go.IntKind.wrap Go.IntKind.i64 (i + (1 : Int)))))]
 σ4)))))))))
 (Go.AI.newAt σ (Go.AI.AObj.row Go.AI.RK.rw [Go.Value.int Go.IntKind.u32 a]) fun (i6 : Nat) (σ7 : Go.AI.AS) ↦
 T (16 : Nat)
 [Go.Value.pointer (Option.some (Go.Addr.mk g (0 : Nat) Option.none)), Go.Value.iface (29 : Nat) (Go.Value.pointer (Option.some (Go.Addr.mk m (0 : Nat) Option.none))), Go.Value.int Go.IntKind.u32 (42 : Int),
 Go.Value.slice (Option.some (Go.Addr.mk i6 (0 : Nat) Option.none)) (1 : Nat) (1 : Nat)]
 σ7 fun (v8 : Go.Value) (σ9 : Go.AI.AS) ↦
 T (30 : Nat) [Go.Value.pointer (Option.some (Go.Addr.mk g (0 : Nat) Option.none)), Go.Value.int Go.IntKind.u32 a] σ9 fun (v10 : Go.Value) (σ11 : Go.AI.AS) ↦
 Go.AI.tL (1 : Nat) v10 fun (s12 : Go.AI.Sl) ↦
 Go.AI.bmatch ((↑(Go.AI.Sl.n s12) : Int) == h)
 (Go.AI.req ((0 : Int) < (↑(Go.AI.Sl.n s12) : Int))
 (Go.AI.pSome (Go.AI.Sl.a s12) fun (a13 : Go.Addr) ↦
 Go.AI.ldc σ11 (Go.AI.aadd a13 (Int.toNat (0 : Int) * Go.AI.szOf Go.Proofs.Tryz.prog (22 : Nat))) fun (v14 : Go.Value) ↦
 Go.AI.tL (1 : Nat) v14 fun (s15 : Go.AI.Sl) ↦
 Go.AI.bmatch ((↑(Go.AI.Sl.n s15) : Int) == w)
 (Go.AI.req ((0 : Int) < (↑(Go.AI.Sl.n s12) : Int))
 (Go.AI.pSome (Go.AI.Sl.a s12) fun (a16 : Go.Addr) ↦
 Go.AI.ldc σ11 (Go.AI.aadd a16 (Int.toNat (0 : Int) * Go.AI.szOf Go.Proofs.Tryz.prog (22 : Nat))) fun (v17 : Go.Value) ↦
 Go.AI.tL (1 : Nat) v17 fun (s18 : Go.AI.Sl) ↦
 Go.AI.req ((0 : Int) < (↑(Go.AI.Sl.n s18) : Int))
 (Go.AI.pSome (Go.AI.Sl.a s18) fun (a19 : Go.Addr) ↦
 Go.AI.ldc σ11 (Go.AI.aadd a19 (Int.toNat (0 : Int) * Go.AI.szOf Go.Proofs.Tryz.prog (32 : Nat))) fun (v20 : Go.Value) ↦
 Go.AI.tI Go.IntKind.u32 v20 fun (n21 : Int) ↦
 Go.AI.bmatch (n21 == (32 : Int))
 (Go.AI.req ((0 : Int) ≤ Go.IntKind.wrap Go.IntKind.i64 (h - (1 : Int)))
 (Go.AI.req (Go.IntKind.wrap Go.IntKind.i64 (h - (1 : Int)) < (↑(Go.AI.Sl.n s12) : Int))
 (Go.AI.pSome (Go.AI.Sl.a s12) fun (a22 : Go.Addr) ↦
 Go.AI.ldc σ11 (Go.AI.aadd a22 (Int.toNat (Go.IntKind.wrap Go.IntKind.i64 (h - (1 : Int))) * Go.AI.szOf Go.Proofs.Tryz.prog (22 : Nat))) fun (v23 : Go.Value) ↦
 Go.AI.tL (1 : Nat) v23 fun (s24 : Go.AI.Sl) ↦
 Go.AI.req ((0 : Int) ≤ Go.IntKind.wrap Go.IntKind.i64 (w - (1 : Int)))
 (Go.AI.req (Go.IntKind.wrap Go.IntKind.i64 (w - (1 : Int)) < (↑(Go.AI.Sl.n s24) : Int))
 (Go.AI.pSome (Go.AI.Sl.a s24) fun (a25 : Go.Addr) ↦
 Go.AI.ldc σ11 (Go.AI.aadd a25 (Int.toNat (Go.IntKind.wrap Go.IntKind.i64 (w - (1 : Int))) * Go.AI.szOf Go.Proofs.Tryz.prog (32 : Nat))) fun (v26 : Go.Value) ↦
 Go.AI.tI Go.IntKind.u32 v26 fun (n27 : Int) ↦
 Go.AI.bmatch (n27 == (32 : Int)) (T (12 : Nat) [] σ11 fun (v28 : Go.Value) (σ29 : Go.AI.AS) ↦ Go.AI.tB v28 fun (b30 : Bool) ↦ K (Go.Value.bool b30) σ29)
 (K (Go.Value.bool Bool.false) σ11))))))
 (K (Go.Value.bool Bool.false) σ11))))
 (K (Go.Value.bool Bool.false) σ11)))
 (K (Go.Value.bool Bool.false) σ11)) := by
 intros
 kernel_rfl

end Go.AI
end
section
/- The conditions ahead of the calls of the program's functions, reckoned as far as they go (equations that the kernel checks); no condition. -/
set_option maxRecDepth 1000000
set_option linter.unusedVariables false
namespace Go.AI
open Go.Proofs
theorem s16wc : ∀ (T : Go.AI.Ct) (g m ar : Nat) (σ : Go.AI.AS) (K : Go.Value → Go.AI.AS → Prop),
 Go.AI.fw Go.Proofs.Tryz.prog Go.AI.hintsS T (16 : Nat)
 [Go.Value.pointer (Option.some (Go.Addr.mk g (0 : Nat) Option.none)), Go.Value.iface (29 : Go.TypeId) (Go.Value.pointer (Option.some (Go.Addr.mk m (0 : Nat) Option.none))),
 Go.Value.int Go.IntKind.u32 (43 : Int), Go.Value.slice (Option.some (Go.Addr.mk ar (0 : Nat) Option.none)) (3 : Nat) (1 : Nat)]
 σ K =
 Go.AI.ldc σ (Go.Addr.mk g ((0 : Nat) + (7 : Nat)) Option.none) fun (v0 : Go.Value) ↦
 Go.AI.tB v0 fun (b1 : Bool) ↦
 Go.AI.bmatch b1 (K (Go.Value.tuple (Array.mk [Go.Value.int Go.IntKind.u32 (0 : Int), Go.Value.int Go.IntKind.i64 (160 : Int)])) σ)
 (T (46 : Nat) [Go.Value.int Go.IntKind.u32 (43 : Int)] σ fun (v2 : Go.Value) (σ3 : Go.AI.AS) ↦
 Go.AI.tI Go.IntKind.i64 v2 fun (n4 : Int) ↦
 Go.AI.bmatch (n4 != (↑(3 : Nat) : Int)) (K (Go.Value.tuple (Array.mk [Go.Value.int Go.IntKind.u32 (0 : Int), Go.Value.int Go.IntKind.i64 (162 : Int)])) σ3)
 (Go.AI.newAt σ3
 (Go.AI.AObj.row Go.AI.RK.plain
 [Go.Value.pointer (Option.some (Go.Addr.mk g (0 : Nat) Option.none)), Go.Value.iface (29 : Nat) (Go.Value.pointer (Option.some (Go.Addr.mk m (0 : Nat) Option.none))),
 Go.Value.slice (Option.some (Go.Addr.mk ar (0 : Nat) Option.none)) (3 : Nat) (1 : Nat)])
 fun (i5 : Nat) (σ6 : Go.AI.AS) ↦
 T (49 : Nat) [Go.Value.pointer (Option.some (Go.Addr.mk i5 (0 : Nat) Option.none)), Go.Value.int Go.IntKind.u32 (43 : Int)] σ6 fun (v7 : Go.Value) (σ8 : Go.AI.AS) ↦
 Go.AI.tTup v7 fun (l9 : List Go.Value) ↦
 Go.AI.pSome l9[(0 : Nat)]? fun (u10 : Go.Value) ↦
 Go.AI.tI Go.IntKind.u32 u10 fun (n11 : Int) ↦
 Go.AI.tTup v7 fun (l12 : List Go.Value) ↦
 Go.AI.pSome l12[(1 : Nat)]? fun (u13 : Go.Value) ↦
 Go.AI.tI Go.IntKind.i64 u13 fun (n14 : Int) ↦ K (Go.Value.tuple (Array.mk [Go.Value.int Go.IntKind.u32 n11, Go.Value.int Go.IntKind.i64 n14])) σ8)) := by
 intros
 kernel_rfl

theorem s16wk : ∀ (T : Go.AI.Ct) (g m ar : Nat) (σ : Go.AI.AS) (K : Go.Value → Go.AI.AS → Prop),
 Go.AI.fw Go.Proofs.Tryz.prog Go.AI.hintsS T (16 : Nat)
 [Go.Value.pointer (Option.some (Go.Addr.mk g (0 : Nat) Option.none)), Go.Value.iface (29 : Go.TypeId) (Go.Value.pointer (Option.some (Go.Addr.mk m (0 : Nat) Option.none))),
 Go.Value.int Go.IntKind.u32 (42 : Int), Go.Value.slice (Option.some (Go.Addr.mk ar (0 : Nat) Option.none)) (1 : Nat) (1 : Nat)]
 σ K =
 Go.AI.ldc σ (Go.Addr.mk g ((0 : Nat) + (7 : Nat)) Option.none) fun (v0 : Go.Value) ↦
 Go.AI.tB v0 fun (b1 : Bool) ↦
 Go.AI.bmatch b1 (K (Go.Value.tuple (Array.mk [Go.Value.int Go.IntKind.u32 (0 : Int), Go.Value.int Go.IntKind.i64 (160 : Int)])) σ)
 (T (46 : Nat) [Go.Value.int Go.IntKind.u32 (42 : Int)] σ fun (v2 : Go.Value) (σ3 : Go.AI.AS) ↦
 Go.AI.tI Go.IntKind.i64 v2 fun (n4 : Int) ↦
 Go.AI.bmatch (n4 != (↑(1 : Nat) : Int)) (K (Go.Value.tuple (Array.mk [Go.Value.int Go.IntKind.u32 (0 : Int), Go.Value.int Go.IntKind.i64 (162 : Int)])) σ3)
 (Go.AI.newAt σ3
 (Go.AI.AObj.row Go.AI.RK.plain
 [Go.Value.pointer (Option.some (Go.Addr.mk g (0 : Nat) Option.none)), Go.Value.iface (29 : Nat) (Go.Value.pointer (Option.some (Go.Addr.mk m (0 : Nat) Option.none))),
 Go.Value.slice (Option.some (Go.Addr.mk ar (0 : Nat) Option.none)) (1 : Nat) (1 : Nat)])
 fun (i5 : Nat) (σ6 : Go.AI.AS) ↦
 T (49 : Nat) [Go.Value.pointer (Option.some (Go.Addr.mk i5 (0 : Nat) Option.none)), Go.Value.int Go.IntKind.u32 (42 : Int)] σ6 fun (v7 : Go.Value) (σ8 : Go.AI.AS) ↦
 Go.AI.tTup v7 fun (l9 : List Go.Value) ↦
 Go.AI.pSome l9[(0 : Nat)]? fun (u10 : Go.Value) ↦
 Go.AI.tI Go.IntKind.u32 u10 fun (n11 : Int) ↦
 Go.AI.tTup v7 fun (l12 : List Go.Value) ↦
 Go.AI.pSome l12[(1 : Nat)]? fun (u13 : Go.Value) ↦
 Go.AI.tI Go.IntKind.i64 u13 fun (n14 : Int) ↦ K (Go.Value.tuple (Array.mk [Go.Value.int Go.IntKind.u32 n11, Go.Value.int Go.IntKind.i64 n14])) σ8)) := by
 intros
 kernel_rfl

theorem s49wc : ∀ (T : Go.AI.Ct) (c : Nat) (σ : Go.AI.AS) (K : Go.Value → Go.AI.AS → Prop),
 Go.AI.fw Go.Proofs.Tryz.prog Go.AI.hintsS T (49 : Nat) [Go.Value.pointer (Option.some (Go.Addr.mk c (0 : Nat) Option.none)), Go.Value.int Go.IntKind.u32 (43 : Int)] σ K =
 Go.AI.ldc σ (Go.Addr.mk c (0 : Nat) Option.none) fun (v0 : Go.Value) ↦
 Go.AI.tP v0 fun (b1 : Option Go.Addr) ↦
 Go.AI.ldc σ (Go.Addr.mk c ((0 : Nat) + (2 : Nat)) Option.none) fun (v2 : Go.Value) ↦
 Go.AI.tL (1 : Nat) v2 fun (s3 : Go.AI.Sl) ↦
 Go.AI.req ((0 : Int) < (↑(Go.AI.Sl.n s3) : Int))
 (Go.AI.pSome (Go.AI.Sl.a s3) fun (a4 : Go.Addr) ↦
 Go.AI.ldc σ (Go.AI.aadd a4 (Int.toNat (0 : Int) * Go.AI.szOf Go.Proofs.Tryz.prog (32 : Nat))) fun (v5 : Go.Value) ↦
 Go.AI.tI Go.IntKind.u32 v5 fun (n6 : Int) ↦
 T (54 : Nat) [Go.Value.pointer b1, Go.Value.int Go.IntKind.u32 n6, Go.Value.int Go.IntKind.i64 (1 : Int)] σ fun (v7 : Go.Value) (σ8 : Go.AI.AS) ↦
 Go.AI.tP v7 fun (b9 : Option Go.Addr) ↦
 Go.AI.ptrEq σ8 b9 Option.none fun (r10 : Bool) ↦
 Go.AI.bmatch r10 (K (Go.Value.tuple (Array.mk [Go.Value.int Go.IntKind.u32 (0 : Int), Go.Value.int Go.IntKind.i64 (0 : Int)])) σ8)
 (Go.AI.pSome b9 fun (a11 : Go.Addr) ↦
 Go.AI.ldc σ8 (Go.Addr.mk (Go.Addr.block a11) (Go.Addr.off a11 + (3 : Nat)) Option.none) fun (v12 : Go.Value) ↦
 Go.AI.tI Go.IntKind.u32 v12 fun (n13 : Int) ↦
 Go.AI.bmatch (n13 == (4 : Int))
 (Go.AI.ldc σ8 (Go.Addr.mk c ((0 : Nat) + (2 : Nat)) Option.none) fun (v14 : Go.Value) ↦
 Go.AI.tL (1 : Nat) v14 fun (s15 : Go.AI.Sl) ↦
 Go.AI.req ((1 : Int) < (↑(Go.AI.Sl.n s15) : Int))
 (Go.AI.pSome (Go.AI.Sl.a s15) fun (a16 : Go.Addr) ↦
 Go.AI.ldc σ8 (Go.AI.aadd a16 (Int.toNat (1 : Int) * Go.AI.szOf Go.Proofs.Tryz.prog (32 : Nat))) fun (v17 : Go.Value) ↦
 Go.AI.tI Go.IntKind.u32 v17 fun (n18 : Int) ↦
 Go.AI.ldc σ8 (Go.Addr.mk c ((0 : Nat) + (2 : Nat)) Option.none) fun (v19 : Go.Value) ↦
 Go.AI.tL (1 : Nat) v19 fun (s20 : Go.AI.Sl) ↦
 Go.AI.req ((2 : Int) < (↑(Go.AI.Sl.n s20) : Int))
 (Go.AI.pSome (Go.AI.Sl.a s20) fun (a21 : Go.Addr) ↦
 Go.AI.ldc σ8 (Go.AI.aadd a21 (Int.toNat (2 : Int) * Go.AI.szOf Go.Proofs.Tryz.prog (32 : Nat))) fun (v22 : Go.Value) ↦
 Go.AI.tI Go.IntKind.u32 v22 fun (n23 : Int) ↦
 Go.AI.pSome b9 fun (a24 : Go.Addr) ↦
 Go.AI.put1 σ8 (Go.Addr.mk (Go.Addr.block a24) (Go.Addr.off a24 + (7 : Nat)) Option.none) (Go.Value.int Go.IntKind.u32 n18) fun (σ25 : Go.AI.AS) ↦
 Go.AI.pSome b9 fun (a26 : Go.Addr) ↦
 Go.AI.put1 σ25 (Go.Addr.mk (Go.Addr.block a26) (Go.Addr.off a26 + (8 : Nat)) Option.none) (Go.Value.int Go.IntKind.u32 n23) fun (σ27 : Go.AI.AS) ↦
 K (Go.Value.tuple (Array.mk [Go.Value.int Go.IntKind.u32 (0 : Int), Go.Value.int Go.IntKind.i64 (0 : Int)])) σ27)))
 (K (Go.Value.tuple (Array.mk [Go.Value.int Go.IntKind.u32 (0 : Int), Go.Value.int Go.IntKind.i64 (0 : Int)])) σ8))) := by
 intros
 kernel_rfl

theorem s49wk : ∀ (T : Go.AI.Ct) (c : Nat) (σ : Go.AI.AS) (K : Go.Value → Go.AI.AS → Prop),
 Go.AI.fw Go.Proofs.Tryz.prog Go.AI.hintsS T (49 : Nat) [Go.Value.pointer (Option.some (Go.Addr.mk c (0 : Nat) Option.none)), Go.Value.int Go.IntKind.u32 (42 : Int)] σ K =
 Go.AI.ldc σ (Go.Addr.mk c (0 : Nat) Option.none) fun (v0 : Go.Value) ↦
 Go.AI.tP v0 fun (b1 : Option Go.Addr) ↦
 Go.AI.ldc σ (Go.Addr.mk c ((0 : Nat) + (2 : Nat)) Option.none) fun (v2 : Go.Value) ↦
 Go.AI.tL (1 : Nat) v2 fun (s3 : Go.AI.Sl) ↦
 Go.AI.req ((0 : Int) < (↑(Go.AI.Sl.n s3) : Int))
 (Go.AI.pSome (Go.AI.Sl.a s3) fun (a4 : Go.Addr) ↦
 Go.AI.ldc σ (Go.AI.aadd a4 (Int.toNat (0 : Int) * Go.AI.szOf Go.Proofs.Tryz.prog (32 : Nat))) fun (v5 : Go.Value) ↦
 Go.AI.tI Go.IntKind.u32 v5 fun (n6 : Int) ↦
 T (54 : Nat) [Go.Value.pointer b1, Go.Value.int Go.IntKind.u32 n6, Go.Value.int Go.IntKind.i64 (1 : Int)] σ fun (v7 : Go.Value) (σ8 : Go.AI.AS) ↦
 Go.AI.tP v7 fun (b9 : Option Go.Addr) ↦
 Go.AI.ptrEq σ8 b9 Option.none fun (r10 : Bool) ↦
 Go.AI.bmatch r10 (K (Go.Value.tuple (Array.mk [Go.Value.int Go.IntKind.u32 (0 : Int), Go.Value.int Go.IntKind.i64 (0 : Int)])) σ8)
 (Go.AI.pSome b9 fun (a11 : Go.Addr) ↦
 Go.AI.put1 σ8 (Go.Addr.mk (Go.Addr.block a11) (Go.Addr.off a11 + (5 : Nat)) Option.none) (Go.Value.slice Option.none (0 : Nat) (0 : Nat)) fun (σ12 : Go.AI.AS) ↦
 Go.AI.pSome b9 fun (a13 : Go.Addr) ↦
 Go.AI.put1 σ12 (Go.Addr.mk (Go.Addr.block a13) (Go.Addr.off a13 + (6 : Nat)) Option.none) (Go.Value.map Option.none) fun (σ14 : Go.AI.AS) ↦
 Go.AI.pSome b9 fun (a15 : Go.Addr) ↦
 Go.AI.put1 σ14 (Go.Addr.mk (Go.Addr.block a15) (Go.Addr.off a15 + (7 : Nat)) Option.none) (Go.Value.int Go.IntKind.u32 (0 : Int)) fun (σ16 : Go.AI.AS) ↦
 Go.AI.pSome b9 fun (a17 : Go.Addr) ↦
 Go.AI.put1 σ16 (Go.Addr.mk (Go.Addr.block a17) (Go.Addr.off a17 + (8 : Nat)) Option.none) (Go.Value.int Go.IntKind.u32 (0 : Int)) fun (σ18 : Go.AI.AS) ↦
 K (Go.Value.tuple (Array.mk [Go.Value.int Go.IntKind.u32 (0 : Int), Go.Value.int Go.IntKind.i64 (0 : Int)])) σ18)) := by
 intros
 kernel_rfl

end Go.AI
end
section
/- The conditions ahead of the calls of the program's functions, reckoned as far as they go (equations that the kernel checks); no condition. -/
set_option maxRecDepth 1000000
set_option linter.unusedVariables false
namespace Go.AI
open Go.Proofs
theorem s3 : ∀ (T : Go.AI.Ct) (la : Option Go.Addr) (ln : Nat) (turna : Option Go.Addr) (turnn : Nat) (σ : Go.AI.AS) (K : Go.Value → Go.AI.AS → Prop),
 Go.AI.fw Go.Proofs.Tryz.prog Go.AI.hintsS T (3 : Nat) [Go.Value.slice la ln (1 : Nat), Go.Value.slice turna turnn (1 : Nat)] σ K =
 Go.AI.bmatch (Decidable.decide ((↑ln : Int) > (400 : Int))) (T (12 : Nat) [] σ fun (v0 : Go.Value) (σ1 : Go.AI.AS) ↦ Go.AI.tB v0 fun (b2 : Bool) ↦ K (Go.Value.bool b2) σ1)
 (T (13 : Nat) [Go.Value.int Go.IntKind.i64 (20 : Int), Go.Value.int Go.IntKind.i64 (10 : Int), Go.Value.slice Option.none (0 : Nat) (0 : Nat)] σ fun (v3 : Go.Value) (σ4 : Go.AI.AS) ↦
 Go.AI.tTup v3 fun (l5 : List Go.Value) ↦
 Go.AI.pSome l5[(0 : Nat)]? fun (u6 : Go.Value) ↦
 Go.AI.tP u6 fun (b7 : Option Go.Addr) ↦
 Go.AI.tTup v3 fun (l8 : List Go.Value) ↦
 Go.AI.pSome l8[(1 : Nat)]? fun (u9 : Go.Value) ↦
 Go.AI.tI Go.IntKind.i64 u9 fun (n10 : Int) ↦
 T (14 : Nat) [] σ4 fun (v11 : Go.Value) (σ12 : Go.AI.AS) ↦
 Go.AI.tP v11 fun (b13 : Option Go.Addr) ↦
 T (15 : Nat) [Go.Value.int Go.IntKind.i64 n10] σ12 fun (v14 : Go.Value) (σ15 : Go.AI.AS) ↦
 Go.AI.tI Go.IntKind.i64 v14 fun (n16 : Int) ↦
 Go.AI.bmatch (n16 != (0 : Int)) (K (Go.Value.bool Bool.false) σ15)
 (Go.AI.ptrEq σ15 b7 Option.none fun (r17 : Bool) ↦
 Go.AI.bmatch r17 (K (Go.Value.bool Bool.false) σ15)
 (Go.AI.newAt σ15
 (Go.AI.AObj.row Go.AI.RK.rw
 [Go.Value.int Go.IntKind.u32 (0 : Int), Go.Value.int Go.IntKind.u32 (0 : Int), Go.Value.int Go.IntKind.u32 (0 : Int), Go.Value.int Go.IntKind.u32 (3 : Int),
 Go.Value.int Go.IntKind.u32 (0 : Int)])
 fun (i18 : Nat) (σ19 : Go.AI.AS) ↦
 T (16 : Nat)
 [Go.Value.pointer b7, Go.Value.iface (29 : Nat) (Go.Value.pointer b13), Go.Value.int Go.IntKind.u32 (35 : Int),
 Go.Value.slice (Option.some (Go.Addr.mk i18 (0 : Nat) Option.none)) (5 : Nat) (1 : Nat)]
 σ19 fun (v20 : Go.Value) (σ21 : Go.AI.AS) ↦
 Go.AI.tTup v20 fun (l22 : List Go.Value) ↦
 Go.AI.pSome l22[(0 : Nat)]? fun (u23 : Go.Value) ↦
 Go.AI.tI Go.IntKind.u32 u23 fun (n24 : Int) ↦
 Go.AI.tTup v20 fun (l25 : List Go.Value) ↦
 Go.AI.pSome l25[(1 : Nat)]? fun (u26 : Go.Value) ↦
 Go.AI.tI Go.IntKind.i64 u26 fun (n27 : Int) ↦
 Go.AI.newAt σ21
 (Go.AI.AObj.row Go.AI.RK.rw
 [Go.Value.int Go.IntKind.u32 n24, Go.Value.int Go.IntKind.u32 (35 : Int), Go.Value.int Go.IntKind.u32 (50 : Int), Go.Value.int Go.IntKind.u32 (3 : Int),
 Go.Value.int Go.IntKind.u32 (0 : Int)])
 fun (i28 : Nat) (σ29 : Go.AI.AS) ↦
 T (16 : Nat)
 [Go.Value.pointer b7, Go.Value.iface (29 : Nat) (Go.Value.pointer b13), Go.Value.int Go.IntKind.u32 (35 : Int),
 Go.Value.slice (Option.some (Go.Addr.mk i28 (0 : Nat) Option.none)) (5 : Nat) (1 : Nat)]
 σ29 fun (v30 : Go.Value) (σ31 : Go.AI.AS) ↦
 Go.AI.tTup v30 fun (l32 : List Go.Value) ↦
 Go.AI.pSome l32[(0 : Nat)]? fun (u33 : Go.Value) ↦
 Go.AI.tI Go.IntKind.u32 u33 fun (n34 : Int) ↦
 Go.AI.tTup v30 fun (l35 : List Go.Value) ↦
 Go.AI.pSome l35[(1 : Nat)]? fun (u36 : Go.Value) ↦
 Go.AI.tI Go.IntKind.i64 u36 fun (n37 : Int) ↦
 Go.AI.ALoop
 (Go.AI.fl Go.Proofs.Tryz.prog Go.AI.hintsS T (3 : Nat)
 [Bool.true, Bool.true, Bool.true, Bool.true, Bool.true, Bool.true, Bool.true, Bool.true, Bool.false, Bool.true, Bool.false] [] K)
 [((0 : Nat), Option.some (Go.Value.slice la ln (1 : Nat))), ((1 : Nat), Option.some (Go.Value.slice turna turnn (1 : Nat))),
 ((5 : Nat), Option.some (Go.Value.pointer b7)), ((7 : Nat), Option.some (Go.Value.pointer b13)),
 ((8 : Nat), Option.some (Go.Value.int Go.IntKind.u32 n24)), ((10 : Nat), Option.some (Go.Value.int Go.IntKind.u32 n34)),
 ((12 : Nat), Option.some (Go.Value.slice Option.none (0 : Nat) (0 : Nat))),
 ((13 : Nat), Option.some (Go.Value.slice Option.none (0 : Nat) (0 : Nat))),
 ((14 : Nat), Option.some (Go.Value.slice Option.none (0 : Nat) (0 : Nat))), ((15 : Nat), Option.some (Go.Value.int Go.IntKind.i64 (0 : Int)))]
 σ31))) := by
 intros
 kernel_rfl

theorem s3l : ∀ (T : Go.AI.Ct) (la : Option Go.Addr) (ln le : Nat) (turna : Option Go.Addr) (turnn turne g m : Nat) (a b : Int) (xa : Option Go.Addr) (xn xe : Nat) (ya : Option Go.Addr) (yn ye : Nat)
 (botha : Option Go.Addr) (bothn bothe : Nat) (i : Int) (X : Go.AI.Regs → Go.AI.AS → Prop) (σ : Go.AI.AS) (K : Go.Value → Go.AI.AS → Prop),
 Go.AI.fl Go.Proofs.Tryz.prog Go.AI.hintsS T (3 : Nat) [Bool.true, Bool.true, Bool.true, Bool.true, Bool.true, Bool.true, Bool.true, Bool.true, Bool.false, Bool.true, Bool.false] [] K X
 [((0 : Nat), Option.some (Go.Value.slice la ln le)), ((1 : Nat), Option.some (Go.Value.slice turna turnn turne)),
 ((5 : Nat), Option.some (Go.Value.pointer (Option.some (Go.Addr.mk g (0 : Nat) Option.none)))), ((7 : Nat), Option.some (Go.Value.pointer (Option.some (Go.Addr.mk m (0 : Nat) Option.none)))),
 ((8 : Nat), Option.some (Go.Value.int Go.IntKind.u32 a)), ((10 : Nat), Option.some (Go.Value.int Go.IntKind.u32 b)), ((12 : Nat), Option.some (Go.Value.slice xa xn xe)),
 ((13 : Nat), Option.some (Go.Value.slice ya yn ye)), ((14 : Nat), Option.some (Go.Value.slice botha bothn bothe)), ((15 : Nat), Option.some (Go.Value.int Go.IntKind.i64 i))]
 σ =
 Go.AI.bmatch (Decidable.decide (i < (↑ln : Int)))
 (Go.AI.bmatch (Decidable.decide (i < (↑turnn : Int)))
 (Go.AI.req ((0 : Int) ≤ i)
 (Go.AI.req (i < (↑turnn : Int))
 (Go.AI.pSome turna fun (a0 : Go.Addr) ↦
 Go.AI.req (turne = Go.AI.szOf Go.Proofs.Tryz.prog (4 : Nat))
 (Go.AI.ldc σ (Go.AI.aadd a0 (Int.toNat i * Go.AI.szOf Go.Proofs.Tryz.prog (4 : Nat))) fun (v1 : Go.Value) ↦
 Go.AI.tB v1 fun (b2 : Bool) ↦
 Go.AI.bmatch b2
 (Go.AI.req ((0 : Int) ≤ i)
 (Go.AI.req (i < (↑ln : Int))
 (Go.AI.pSome la fun (a3 : Go.Addr) ↦
 Go.AI.req (le = Go.AI.szOf Go.Proofs.Tryz.prog (32 : Nat))
 (Go.AI.ldc σ (Go.AI.aadd a3 (Int.toNat i * Go.AI.szOf Go.Proofs.Tryz.prog (32 : Nat))) fun (v4 : Go.Value) ↦
 Go.AI.tI Go.IntKind.u32 v4 fun (n5 : Int) ↦
 Go.AI.newAt σ (Go.AI.AObj.row Go.AI.RK.rw [Go.Value.int Go.IntKind.u32 n5]) fun (i6 : Nat) (σ7 : Go.AI.AS) ↦
 Go.AI.chk (Go.AI.nilOr ya ye (Go.AI.szOf Go.Proofs.Tryz.prog (32 : Nat)))
 (Go.AI.lds σ7 (Go.Addr.mk i6 (0 : Nat) Option.none) (1 : Nat) fun (l8 : List Go.Value) ↦
 Go.AI.appendTo σ7 (1 : Nat) (4 : Nat) (Go.AI.Sl.mk ya yn) l8 (1 : Nat) fun (s9 : Go.AI.Sl) (σ10 : Go.AI.AS) ↦
 Go.AI.req ((0 : Int) ≤ i)
 (Go.AI.req (i < (↑ln : Int))
 (Go.AI.pSome la fun (a11 : Go.Addr) ↦
 Go.AI.req (le = Go.AI.szOf Go.Proofs.Tryz.prog (32 : Nat))
 (Go.AI.ldc σ10 (Go.AI.aadd a11 (Int.toNat i * Go.AI.szOf Go.Proofs.Tryz.prog (32 : Nat))) fun (v12 : Go.Value) ↦
 Go.AI.tI Go.IntKind.u32 v12 fun (n13 : Int) ↦
 Go.AI.newAt σ10 (Go.AI.AObj.row Go.AI.RK.rw [Go.Value.int Go.IntKind.u32 n13]) fun (i14 : Nat) (σ15 : Go.AI.AS) ↦
 Go.AI.chk (Go.AI.nilOr botha bothe (Go.AI.szOf Go.Proofs.Tryz.prog (32 : Nat)))
 (Go.AI.lds σ15 (Go.Addr.mk i14 (0 : Nat) Option.none) (1 : Nat) fun (l16 : List Go.Value) ↦
 Go.AI.appendTo σ15 (1 : Nat) (4 : Nat) (Go.AI.Sl.mk botha bothn) l16 (1 : Nat) fun (s17 : Go.AI.Sl) (σ18 : Go.AI.AS) ↦
 Go.AI.newAt σ18 (Go.AI.AObj.row Go.AI.RK.rw [Go.Value.int Go.IntKind.u32 b]) fun (i19 : Nat) (σ20 : Go.AI.AS) ↦
 T (16 : Nat)
 [Go.Value.pointer (Option.some (Go.Addr.mk g (0 : Nat) Option.none)),
 Go.Value.iface (29 : Nat) (Go.Value.pointer (Option.some (Go.Addr.mk m (0 : Nat) Option.none))), Go.Value.int Go.IntKind.u32 (47 : Int),
 Go.Value.slice (Option.some (Go.Addr.mk i19 (0 : Nat) Option.none)) (1 : Nat) (1 : Nat)]
 σ20 fun (v21 : Go.Value) (σ22 : Go.AI.AS) ↦
 Go.AI.req ((0 : Int) ≤ i)
 (Go.AI.req (i < (↑ln : Int))
 (Go.AI.pSome la fun (a23 : Go.Addr) ↦
 Go.AI.req (le = Go.AI.szOf Go.Proofs.Tryz.prog (32 : Nat))
 (Go.AI.ldc σ22 (Go.AI.aadd a23 (Int.toNat i * Go.AI.szOf Go.Proofs.Tryz.prog (32 : Nat))) fun (v24 : Go.Value) ↦
 Go.AI.tI Go.IntKind.u32 v24 fun (n25 : Int) ↦
 Go.AI.newAt σ22 (Go.AI.AObj.row Go.AI.RK.rw [Go.Value.int Go.IntKind.u32 n25]) fun (i26 : Nat) (σ27 : Go.AI.AS) ↦
 T (16 : Nat)
 [Go.Value.pointer (Option.some (Go.Addr.mk g (0 : Nat) Option.none)),
 Go.Value.iface (29 : Nat) (Go.Value.pointer (Option.some (Go.Addr.mk m (0 : Nat) Option.none))),
 Go.Value.int Go.IntKind.u32 (296 : Int), Go.Value.slice (Option.some (Go.Addr.mk i26 (0 : Nat) Option.none)) (1 : Nat) (1 : Nat)]
 σ27 fun (v28 : Go.Value) (σ29 : Go.AI.AS) ↦
 X
 [((0 : Nat), Option.some (Go.Value.slice la ln le)), ((1 : Nat), Option.some (Go.Value.slice turna turnn turne)),
 ((5 : Nat), Option.some (Go.Value.pointer (Option.some (Go.Addr.mk g (0 : Nat) Option.none)))),
 ((7 : Nat), Option.some (Go.Value.pointer (Option.some (Go.Addr.mk m (0 : Nat) Option.none)))),
 ((8 : Nat), Option.some (Go.Value.int Go.IntKind.u32 a)), ((10 : Nat), Option.some (Go.Value.int Go.IntKind.u32 b)),
 ((12 : Nat), Option.some (Go.Value.slice xa xn xe)),
 ((13 : Nat), Option.some (Go.Value.slice (Go.AI.Sl.a s9) (Go.AI.Sl.n s9) (1 : Nat))),
 ((14 : Nat), Option.some (Go.Value.slice (Go.AI.Sl.a s17) (Go.AI.Sl.n s17) (1 : Nat))),
 ((15 : Nat), Option.some (Go.Value.int Go.IntKind.i64 (Go.IntKind.wrap Go.IntKind.i64 (i + (1 : Int)))))]
 σ29))))))))))))
 (Go.AI.req ((0 : Int) ≤ i)
 (Go.AI.req (i < (↑ln : Int))
 (Go.AI.pSome la fun (a30 : Go.Addr) ↦
 Go.AI.req (le = Go.AI.szOf Go.Proofs.Tryz.prog (32 : Nat))
 (Go.AI.ldc σ (Go.AI.aadd a30 (Int.toNat i * Go.AI.szOf Go.Proofs.Tryz.prog (32 : Nat))) fun (v31 : Go.Value) ↦
 Go.AI.tI Go.IntKind.u32 v31 fun (n32 : Int) ↦
 Go.AI.newAt σ (Go.AI.AObj.row Go.AI.RK.rw [Go.Value.int Go.IntKind.u32 n32]) fun (i33 : Nat) (σ34 : Go.AI.AS) ↦
 Go.AI.chk (Go.AI.nilOr xa xe (Go.AI.szOf Go.Proofs.Tryz.prog (32 : Nat)))
 (Go.AI.lds σ34 (Go.Addr.mk i33 (0 : Nat) Option.none) (1 : Nat) fun (l35 : List Go.Value) ↦
 Go.AI.appendTo σ34 (1 : Nat) (4 : Nat) (Go.AI.Sl.mk xa xn) l35 (1 : Nat) fun (s36 : Go.AI.Sl) (σ37 : Go.AI.AS) ↦
 Go.AI.req ((0 : Int) ≤ i)
 (Go.AI.req (i < (↑ln : Int))
 (Go.AI.pSome la fun (a38 : Go.Addr) ↦
 Go.AI.req (le = Go.AI.szOf Go.Proofs.Tryz.prog (32 : Nat))
 (Go.AI.ldc σ37 (Go.AI.aadd a38 (Int.toNat i * Go.AI.szOf Go.Proofs.Tryz.prog (32 : Nat))) fun (v39 : Go.Value) ↦
 Go.AI.tI Go.IntKind.u32 v39 fun (n40 : Int) ↦
 Go.AI.newAt σ37 (Go.AI.AObj.row Go.AI.RK.rw [Go.Value.int Go.IntKind.u32 n40]) fun (i41 : Nat) (σ42 : Go.AI.AS) ↦
 Go.AI.chk (Go.AI.nilOr botha bothe (Go.AI.szOf Go.Proofs.Tryz.prog (32 : Nat)))
 (Go.AI.lds σ42 (Go.Addr.mk i41 (0 : Nat) Option.none) (1 : Nat) fun (l43 : List Go.Value) ↦
 Go.AI.appendTo σ42 (1 : Nat) (4 : Nat) (Go.AI.Sl.mk botha bothn) l43 (1 : Nat) fun (s44 : Go.AI.Sl) (σ45 : Go.AI.AS) ↦
 Go.AI.newAt σ45 (Go.AI.AObj.row Go.AI.RK.rw [Go.Value.int Go.IntKind.u32 a]) fun (i46 : Nat) (σ47 : Go.AI.AS) ↦
 T (16 : Nat)
 [Go.Value.pointer (Option.some (Go.Addr.mk g (0 : Nat) Option.none)),
 Go.Value.iface (29 : Nat) (Go.Value.pointer (Option.some (Go.Addr.mk m (0 : Nat) Option.none))), Go.Value.int Go.IntKind.u32 (47 : Int),
 Go.Value.slice (Option.some (Go.Addr.mk i46 (0 : Nat) Option.none)) (1 : Nat) (1 : Nat)]
 σ47 fun (v48 : Go.Value) (σ49 : Go.AI.AS) ↦
 Go.AI.req ((0 : Int) ≤ i)
 (Go.AI.req (i < (↑ln : Int))
 (Go.AI.pSome la fun (a50 : Go.Addr) ↦
 Go.AI.req (le = Go.AI.szOf Go.Proofs.Tryz.prog (32 : Nat))
 (Go.AI.ldc σ49 (Go.AI.aadd a50 (Int.toNat i * Go.AI.szOf Go.Proofs.Tryz.prog (32 : Nat))) fun (v51 : Go.Value) ↦
 Go.AI.tI Go.IntKind.u32 v51 fun (n52 : Int) ↦
 Go.AI.newAt σ49 (Go.AI.AObj.row Go.AI.RK.rw [Go.Value.int Go.IntKind.u32 n52]) fun (i53 : Nat) (σ54 : Go.AI.AS) ↦
 T (16 : Nat)
 [Go.Value.pointer (Option.some (Go.Addr.mk g (0 : Nat) Option.none)),
 Go.Value.iface (29 : Nat) (Go.Value.pointer (Option.some (Go.Addr.mk m (0 : Nat) Option.none))),
 Go.Value.int Go.IntKind.u32 (296 : Int), Go.Value.slice (Option.some (Go.Addr.mk i53 (0 : Nat) Option.none)) (1 : Nat) (1 : Nat)]
 σ54 fun (v55 : Go.Value) (σ56 : Go.AI.AS) ↦
 X
 [((0 : Nat), Option.some (Go.Value.slice la ln le)), ((1 : Nat), Option.some (Go.Value.slice turna turnn turne)),
 ((5 : Nat), Option.some (Go.Value.pointer (Option.some (Go.Addr.mk g (0 : Nat) Option.none)))),
 ((7 : Nat), Option.some (Go.Value.pointer (Option.some (Go.Addr.mk m (0 : Nat) Option.none)))),
 ((8 : Nat), Option.some (Go.Value.int Go.IntKind.u32 a)), ((10 : Nat), Option.some (Go.Value.int Go.IntKind.u32 b)),
 ((12 : Nat), Option.some (Go.Value.slice (Go.AI.Sl.a s36) (Go.AI.Sl.n s36) (1 : Nat))),
 ((13 : Nat), Option.some (Go.Value.slice ya yn ye)),
 ((14 : Nat), Option.some (Go.Value.slice (Go.AI.Sl.a s44) (Go.AI.Sl.n s44) (1 : Nat))),
 ((15 : Nat), Option.some (Go.Value.int Go.IntKind.i64 (Go.IntKind.wrap Go.IntKind.i64 (i + (1 : Int)))))]
 σ56))))))))))))))))
 (Go.AI.req ((0 : Int) ≤ i)
 (Go.AI.req (i < (↑ln : Int))
 (Go.AI.pSome la fun (a57 : Go.Addr) ↦
 Go.AI.req (le = Go.AI.szOf Go.Proofs.Tryz.prog (32 : Nat))
 (Go.AI.ldc σ (Go.AI.aadd a57 (Int.toNat i * Go.AI.szOf Go.Proofs.Tryz.prog (32 : Nat))) fun (v58 : Go.Value) ↦
 Go.AI.tI Go.IntKind.u32 v58 fun (n59 : Int) ↦
 Go.AI.newAt σ (Go.AI.AObj.row Go.AI.RK.rw [Go.Value.int Go.IntKind.u32 n59]) fun (i60 : Nat) (σ61 : Go.AI.AS) ↦
 Go.AI.chk (Go.AI.nilOr xa xe (Go.AI.szOf Go.Proofs.Tryz.prog (32 : Nat)))
 (Go.AI.lds σ61 (Go.Addr.mk i60 (0 : Nat) Option.none) (1 : Nat) fun (l62 : List Go.Value) ↦
 Go.AI.appendTo σ61 (1 : Nat) (4 : Nat) (Go.AI.Sl.mk xa xn) l62 (1 : Nat) fun (s63 : Go.AI.Sl) (σ64 : Go.AI.AS) ↦
 Go.AI.req ((0 : Int) ≤ i)
 (Go.AI.req (i < (↑ln : Int))
 (Go.AI.pSome la fun (a65 : Go.Addr) ↦
 Go.AI.req (le = Go.AI.szOf Go.Proofs.Tryz.prog (32 : Nat))
 (Go.AI.ldc σ64 (Go.AI.aadd a65 (Int.toNat i * Go.AI.szOf Go.Proofs.Tryz.prog (32 : Nat))) fun (v66 : Go.Value) ↦
 Go.AI.tI Go.IntKind.u32 v66 fun (n67 : Int) ↦
 Go.AI.newAt σ64 (Go.AI.AObj.row Go.AI.RK.rw [Go.Value.int Go.IntKind.u32 n67]) fun (i68 : Nat) (σ69 : Go.AI.AS) ↦
 Go.AI.chk (Go.AI.nilOr botha bothe (Go.AI.szOf Go.Proofs.Tryz.prog (32 : Nat)))
 (Go.AI.lds σ69 (Go.Addr.mk i68 (0 : Nat) Option.none) (1 : Nat) fun (l70 : List Go.Value) ↦
 Go.AI.appendTo σ69 (1 : Nat) (4 : Nat) (Go.AI.Sl.mk botha bothn) l70 (1 : Nat) fun (s71 : Go.AI.Sl) (σ72 : Go.AI.AS) ↦
 Go.AI.newAt σ72 (Go.AI.AObj.row Go.AI.RK.rw [Go.Value.int Go.IntKind.u32 a]) fun (i73 : Nat) (σ74 : Go.AI.AS) ↦
 T (16 : Nat)
 [Go.Value.pointer (Option.some (Go.Addr.mk g (0 : Nat) Option.none)),
 Go.Value.iface (29 : Nat) (Go.Value.pointer (Option.some (Go.Addr.mk m (0 : Nat) Option.none))), Go.Value.int Go.IntKind.u32 (47 : Int),
 Go.Value.slice (Option.some (Go.Addr.mk i73 (0 : Nat) Option.none)) (1 : Nat) (1 : Nat)]
 σ74 fun (v75 : Go.Value) (σ76 : Go.AI.AS) ↦
 Go.AI.req ((0 : Int) ≤ i)
 (Go.AI.req (i < (↑ln : Int))
 (Go.AI.pSome la fun (a77 : Go.Addr) ↦
 Go.AI.req (le = Go.AI.szOf Go.Proofs.Tryz.prog (32 : Nat))
 (Go.AI.ldc σ76 (Go.AI.aadd a77 (Int.toNat i * Go.AI.szOf Go.Proofs.Tryz.prog (32 : Nat))) fun (v78 : Go.Value) ↦
 Go.AI.tI Go.IntKind.u32 v78 fun (n79 : Int) ↦
 Go.AI.newAt σ76 (Go.AI.AObj.row Go.AI.RK.rw [Go.Value.int Go.IntKind.u32 n79]) fun (i80 : Nat) (σ81 : Go.AI.AS) ↦
 T (16 : Nat)
 [Go.Value.pointer (Option.some (Go.Addr.mk g (0 : Nat) Option.none)),
 Go.Value.iface (29 : Nat) (Go.Value.pointer (Option.some (Go.Addr.mk m (0 : Nat) Option.none))), Go.Value.int Go.IntKind.u32 (296 : Int),
 Go.Value.slice (Option.some (Go.Addr.mk i80 (0 : Nat) Option.none)) (1 : Nat) (1 : Nat)]
 σ81 fun (v82 : Go.Value) (σ83 : Go.AI.AS) ↦
 X
 [((0 : Nat), Option.some (Go.Value.slice la ln le)), ((1 : Nat), Option.some (Go.Value.slice turna turnn turne)),
 ((5 : Nat), Option.some (Go.Value.pointer (Option.some (Go.Addr.mk g (0 : Nat) Option.none)))),
 ((7 : Nat), Option.some (Go.Value.pointer (Option.some (Go.Addr.mk m (0 : Nat) Option.none)))),
 ((8 : Nat), Option.some (Go.Value.int Go.IntKind.u32 a)), ((10 : Nat), Option.some (Go.Value.int Go.IntKind.u32 b)),
 ((12 : Nat), Option.some (Go.Value.slice (Go.AI.Sl.a s63) (Go.AI.Sl.n s63) (1 : Nat))), ((13 : Nat), Option.some (Go.Value.slice ya yn ye)),
 ((14 : Nat), Option.some (Go.Value.slice (Go.AI.Sl.a s71) (Go.AI.Sl.n s71) (1 : Nat))),
 ((15 : Nat), Option.some (Go.Value.int Go.IntKind.i64 (Go.IntKind.wrap Go.IntKind.i64 (i + (1 : Int)))))]
 σ83)))))))))))))
 (T (17 : Nat) [Go.Value.pointer (Option.some (Go.Addr.mk g (0 : Nat) Option.none))] σ fun (v84 : Go.Value) (σ85 : Go.AI.AS) ↦
 Go.AI.tL (2 : Nat) v84 fun (s86 : Go.AI.Sl) ↦
 Go.AI.ALoop
 (Go.AI.fl Go.Proofs.Tryz.prog Go.AI.hintsS T (3 : Nat)
 [Bool.true, Bool.true, Bool.true, Bool.true, Bool.true, Bool.true, Bool.true, Bool.true, Bool.true, Bool.true, Bool.true, Bool.false, Bool.true, Bool.false] [] K)
 [((5 : Nat), Option.some (Go.Value.pointer (Option.some (Go.Addr.mk g (0 : Nat) Option.none)))), ((7 : Nat), Option.some (Go.Value.pointer (Option.some (Go.Addr.mk m (0 : Nat) Option.none)))),
 ((8 : Nat), Option.some (Go.Value.int Go.IntKind.u32 a)), ((10 : Nat), Option.some (Go.Value.int Go.IntKind.u32 b)), ((12 : Nat), Option.some (Go.Value.slice xa xn xe)),
 ((13 : Nat), Option.some (Go.Value.slice ya yn ye)), ((14 : Nat), Option.some (Go.Value.slice botha bothn bothe)),
 ((17 : Nat), Option.some (Go.Value.slice (Go.AI.Sl.a s86) (Go.AI.Sl.n s86) (2 : Nat))), ((18 : Nat), Option.some (Go.Value.slice Option.none (0 : Nat) (0 : Nat))),
 ((19 : Nat), Option.some (Go.Value.int Go.IntKind.i64 (0 : Int)))]
 σ85) := by
 intros
 kernel_rfl

theorem s3j : ∀ (T : Go.AI.Ct) (la : Option Go.Addr) (ln le : Nat) (turna : Option Go.Addr) (turnn turne g m : Nat) (a b : Int) (xa : Option Go.Addr) (xn xe : Nat) (ya : Option Go.Addr) (yn ye : Nat)
 (botha : Option Go.Addr) (bothn bothe : Nat) (i to : Int) (X : Go.AI.Regs → Go.AI.AS → Prop) (σ : Go.AI.AS) (K : Go.Value → Go.AI.AS → Prop),
 Go.AI.jn Go.Proofs.Tryz.prog Go.AI.hintsS T (3 : Nat)
 [Bool.true, Bool.true, Bool.true, Bool.true, Bool.true, Bool.true, Bool.true, Bool.true, Bool.false, Bool.true, Bool.false, Bool.false, Bool.true, Bool.false, Bool.false, Bool.true] [X] K
 [((0 : Nat), Option.some (Go.Value.slice la ln le)), ((1 : Nat), Option.some (Go.Value.slice turna turnn turne)),
 ((5 : Nat), Option.some (Go.Value.pointer (Option.some (Go.Addr.mk g (0 : Nat) Option.none)))), ((7 : Nat), Option.some (Go.Value.pointer (Option.some (Go.Addr.mk m (0 : Nat) Option.none)))),
 ((8 : Nat), Option.some (Go.Value.int Go.IntKind.u32 a)), ((10 : Nat), Option.some (Go.Value.int Go.IntKind.u32 b)), ((12 : Nat), Option.some (Go.Value.slice xa xn xe)),
 ((13 : Nat), Option.some (Go.Value.slice ya yn ye)), ((14 : Nat), Option.some (Go.Value.slice botha bothn bothe)), ((15 : Nat), Option.some (Go.Value.int Go.IntKind.i64 i)),
 ((16 : Nat), Option.some (Go.Value.int Go.IntKind.u32 to))]
 σ =
 Go.AI.req ((0 : Int) ≤ i)
 (Go.AI.req (i < (↑ln : Int))
 (Go.AI.pSome la fun (a0 : Go.Addr) ↦
 Go.AI.req (le = Go.AI.szOf Go.Proofs.Tryz.prog (32 : Nat))
 (Go.AI.ldc σ (Go.AI.aadd a0 (Int.toNat i * Go.AI.szOf Go.Proofs.Tryz.prog (32 : Nat))) fun (v1 : Go.Value) ↦
 Go.AI.tI Go.IntKind.u32 v1 fun (n2 : Int) ↦
 Go.AI.newAt σ (Go.AI.AObj.row Go.AI.RK.rw [Go.Value.int Go.IntKind.u32 n2]) fun (i3 : Nat) (σ4 : Go.AI.AS) ↦
 Go.AI.chk (Go.AI.nilOr botha bothe (Go.AI.szOf Go.Proofs.Tryz.prog (32 : Nat)))
 (Go.AI.lds σ4 (Go.Addr.mk i3 (0 : Nat) Option.none) (1 : Nat) fun (l5 : List Go.Value) ↦
 Go.AI.appendTo σ4 (1 : Nat) (4 : Nat) (Go.AI.Sl.mk botha bothn) l5 (1 : Nat) fun (s6 : Go.AI.Sl) (σ7 : Go.AI.AS) ↦
 Go.AI.newAt σ7 (Go.AI.AObj.row Go.AI.RK.rw [Go.Value.int Go.IntKind.u32 to]) fun (i8 : Nat) (σ9 : Go.AI.AS) ↦
 T (16 : Nat)
 [Go.Value.pointer (Option.some (Go.Addr.mk g (0 : Nat) Option.none)), Go.Value.iface (29 : Nat) (Go.Value.pointer (Option.some (Go.Addr.mk m (0 : Nat) Option.none))),
 Go.Value.int Go.IntKind.u32 (47 : Int), Go.Value.slice (Option.some (Go.Addr.mk i8 (0 : Nat) Option.none)) (1 : Nat) (1 : Nat)]
 σ9 fun (v10 : Go.Value) (σ11 : Go.AI.AS) ↦
 Go.AI.req ((0 : Int) ≤ i)
 (Go.AI.req (i < (↑ln : Int))
 (Go.AI.pSome la fun (a12 : Go.Addr) ↦
 Go.AI.req (le = Go.AI.szOf Go.Proofs.Tryz.prog (32 : Nat))
 (Go.AI.ldc σ11 (Go.AI.aadd a12 (Int.toNat i * Go.AI.szOf Go.Proofs.Tryz.prog (32 : Nat))) fun (v13 : Go.Value) ↦
 Go.AI.tI Go.IntKind.u32 v13 fun (n14 : Int) ↦
 Go.AI.newAt σ11 (Go.AI.AObj.row Go.AI.RK.rw [Go.Value.int Go.IntKind.u32 n14]) fun (i15 : Nat) (σ16 : Go.AI.AS) ↦
 T (16 : Nat)
 [Go.Value.pointer (Option.some (Go.Addr.mk g (0 : Nat) Option.none)), Go.Value.iface (29 : Nat) (Go.Value.pointer (Option.some (Go.Addr.mk m (0 : Nat) Option.none))),
 Go.Value.int Go.IntKind.u32 (296 : Int), Go.Value.slice (Option.some (Go.Addr.mk i15 (0 : Nat) Option.none)) (1 : Nat) (1 : Nat)]
 σ16 fun (v17 : Go.Value) (σ18 : Go.AI.AS) ↦
 X
 [((0 : Nat), Option.some (Go.Value.slice la ln le)), ((1 : Nat), Option.some (Go.Value.slice turna turnn turne)),
 ((5 : Nat), Option.some (Go.Value.pointer (Option.some (Go.Addr.mk g (0 : Nat) Option.none)))),
 ((7 : Nat), Option.some (Go.Value.pointer (Option.some (Go.Addr.mk m (0 : Nat) Option.none)))), ((8 : Nat), Option.some (Go.Value.int Go.IntKind.u32 a)),
 ((10 : Nat), Option.some (Go.Value.int Go.IntKind.u32 b)), ((12 : Nat), Option.some (Go.Value.slice xa xn xe)),
 ((13 : Nat), Option.some (Go.Value.slice ya yn ye)), ((14 : Nat), Option.some (Go.Value.slice (Go.AI.Sl.a s6) (Go.AI.Sl.n s6) (1 : Nat))),
 ((15 : Nat), Option.some (Go.Value.int Go.IntKind.i64 (Go.IntKind.wrap Go.IntKind.i64 (i + (1 : Int)))))]
 σ18))))))) := by
 intros
 kernel_rfl

theorem s3l1 : ∀ (T : Go.AI.Ct) (g m : Nat) (a b : Int) (xa : Option Go.Addr) (xn xe : Nat) (ya : Option Go.Addr) (yn ye : Nat) (botha : Option Go.Addr) (bothn bothe : Nat) (saida : Option Go.Addr)
 (saidn saide : Nat) (alla : Option Go.Addr) (alln alle : Nat) (i : Int) (X : Go.AI.Regs → Go.AI.AS → Prop) (σ : Go.AI.AS) (K : Go.Value → Go.AI.AS → Prop),
 Go.AI.fl Go.Proofs.Tryz.prog Go.AI.hintsS T (3 : Nat) [Bool.true, Bool.true, Bool.true, Bool.true, Bool.true, Bool.true, Bool.true, Bool.true, Bool.true, Bool.true, Bool.true, Bool.false, Bool.true, Bool.false] []
 K X
 [((5 : Nat), Option.some (Go.Value.pointer (Option.some (Go.Addr.mk g (0 : Nat) Option.none)))), ((7 : Nat), Option.some (Go.Value.pointer (Option.some (Go.Addr.mk m (0 : Nat) Option.none)))),
 ((8 : Nat), Option.some (Go.Value.int Go.IntKind.u32 a)), ((10 : Nat), Option.some (Go.Value.int Go.IntKind.u32 b)), ((12 : Nat), Option.some (Go.Value.slice xa xn xe)),
 ((13 : Nat), Option.some (Go.Value.slice ya yn ye)), ((14 : Nat), Option.some (Go.Value.slice botha bothn bothe)), ((17 : Nat), Option.some (Go.Value.slice saida saidn saide)),
 ((18 : Nat), Option.some (Go.Value.slice alla alln alle)), ((19 : Nat), Option.some (Go.Value.int Go.IntKind.i64 i))]
 σ =
 Go.AI.bmatch (Decidable.decide (i < (↑saidn : Int)))
 (Go.AI.req ((0 : Int) ≤ i)
 (Go.AI.req (i < (↑saidn : Int))
 (Go.AI.pSome saida fun (a0 : Go.Addr) ↦
 Go.AI.req (saide = Go.AI.szOf Go.Proofs.Tryz.prog (38 : Nat))
 (Go.AI.ldc σ
 (Go.Addr.mk (Go.Addr.block (Go.AI.aadd a0 (Int.toNat i * Go.AI.szOf Go.Proofs.Tryz.prog (38 : Nat))))
 (Go.Addr.off (Go.AI.aadd a0 (Int.toNat i * Go.AI.szOf Go.Proofs.Tryz.prog (38 : Nat))) + (1 : Nat)) Option.none)
 fun (v1 : Go.Value) ↦
 Go.AI.tL (1 : Nat) v1 fun (s2 : Go.AI.Sl) ↦
 Go.AI.chk (Go.AI.nilOr alla alle (Go.AI.szOf Go.Proofs.Tryz.prog (32 : Nat)))
 (Go.AI.srcCells σ (1 : Nat) (Option.some (Go.Value.slice (Go.AI.Sl.a s2) (Go.AI.Sl.n s2) (1 : Nat))) fun (m3 : Nat) (new4 : List Go.Value) ↦
 Go.AI.appendTo σ (1 : Nat) (4 : Nat) (Go.AI.Sl.mk alla alln) new4 m3 fun (s5 : Go.AI.Sl) (σ6 : Go.AI.AS) ↦
 Go.AI.req ((0 : Int) ≤ i)
 (Go.AI.req (i < (↑saidn : Int))
 (Go.AI.pSome saida fun (a7 : Go.Addr) ↦
 Go.AI.req (saide = Go.AI.szOf Go.Proofs.Tryz.prog (38 : Nat))
 (Go.AI.ldc σ6
 (Go.Addr.mk (Go.Addr.block (Go.AI.aadd a7 (Int.toNat i * Go.AI.szOf Go.Proofs.Tryz.prog (38 : Nat))))
 (Go.Addr.off (Go.AI.aadd a7 (Int.toNat i * Go.AI.szOf Go.Proofs.Tryz.prog (38 : Nat))) + (1 : Nat)) Option.none)
 fun (v8 : Go.Value) ↦
 Go.AI.tL (1 : Nat) v8 fun (s9 : Go.AI.Sl) ↦
 Go.AI.bmatch ((↑(Go.AI.Sl.n s9) : Int) == (0 : Int)) (K (Go.Value.bool Bool.false) σ6)
 (Go.AI.bmatch (Decidable.decide (i > (0 : Int)))
 (Go.AI.req ((0 : Int) ≤ i)
 (Go.AI.req (i < (↑saidn : Int))
 (Go.AI.pSome saida fun (a10 : Go.Addr) ↦
 Go.AI.req (saide = Go.AI.szOf Go.Proofs.Tryz.prog (38 : Nat))
 (Go.AI.ldc σ6 (Go.Addr.add (Go.AI.aadd a10 (Int.toNat i * Go.AI.szOf Go.Proofs.Tryz.prog (38 : Nat))) (0 : Nat)) fun (v11 : Go.Value) ↦
 Go.AI.tI Go.IntKind.u32 v11 fun (n12 : Int) ↦
 Go.AI.req ((0 : Int) ≤ Go.IntKind.wrap Go.IntKind.i64 (i - (1 : Int)))
 (Go.AI.req (Go.IntKind.wrap Go.IntKind.i64 (i - (1 : Int)) < (↑saidn : Int))
 (Go.AI.pSome saida fun (a13 : Go.Addr) ↦
 Go.AI.req (saide = Go.AI.szOf Go.Proofs.Tryz.prog (38 : Nat))
 (Go.AI.ldc σ6
 (Go.Addr.add (Go.AI.aadd a13 (Int.toNat (Go.IntKind.wrap Go.IntKind.i64 (i - (1 : Int))) * Go.AI.szOf Go.Proofs.Tryz.prog (38 : Nat))) (0 : Nat))
 fun (v14 : Go.Value) ↦
 Go.AI.tI Go.IntKind.u32 v14 fun (n15 : Int) ↦
 Go.AI.bmatch (n12 == n15) (K (Go.Value.bool Bool.false) σ6)
 (Go.AI.req ((0 : Int) ≤ i)
 (Go.AI.req (i < (↑saidn : Int))
 (Go.AI.pSome saida fun (a16 : Go.Addr) ↦
 Go.AI.req (saide = Go.AI.szOf Go.Proofs.Tryz.prog (38 : Nat))
 (Go.AI.ldc σ6 (Go.Addr.add (Go.AI.aadd a16 (Int.toNat i * Go.AI.szOf Go.Proofs.Tryz.prog (38 : Nat))) (0 : Nat)) fun (v17 : Go.Value) ↦
 Go.AI.tI Go.IntKind.u32 v17 fun (n18 : Int) ↦
 Go.AI.bmatch (n18 != a)
 (Go.AI.req ((0 : Int) ≤ i)
 (Go.AI.req (i < (↑saidn : Int))
 (Go.AI.pSome saida fun (a19 : Go.Addr) ↦
 Go.AI.req (saide = Go.AI.szOf Go.Proofs.Tryz.prog (38 : Nat))
 (Go.AI.ldc σ6 (Go.Addr.add (Go.AI.aadd a19 (Int.toNat i * Go.AI.szOf Go.Proofs.Tryz.prog (38 : Nat))) (0 : Nat))
 fun (v20 : Go.Value) ↦
 Go.AI.tI Go.IntKind.u32 v20 fun (n21 : Int) ↦
 Go.AI.bmatch (n21 != b) (K (Go.Value.bool Bool.false) σ6)
 (X
 [((5 : Nat), Option.some (Go.Value.pointer (Option.some (Go.Addr.mk g (0 : Nat) Option.none)))),
 ((7 : Nat), Option.some (Go.Value.pointer (Option.some (Go.Addr.mk m (0 : Nat) Option.none)))),
 ((8 : Nat), Option.some (Go.Value.int Go.IntKind.u32 a)), ((10 : Nat), Option.some (Go.Value.int Go.IntKind.u32 b)),
 ((12 : Nat), Option.some (Go.Value.slice xa xn xe)), ((13 : Nat), Option.some (Go.Value.slice ya yn ye)),
 ((14 : Nat), Option.some (Go.Value.slice botha bothn bothe)),
 ((17 : Nat), Option.some (Go.Value.slice saida saidn saide)),
 ((18 : Nat), Option.some (Go.Value.slice (Go.AI.Sl.a s5) (Go.AI.Sl.n s5) (1 : Nat))),
 ((19 : Nat), Option.some (Go.Value.int Go.IntKind.i64 (Go.IntKind.wrap Go.IntKind.i64 (i + (1 : Int)))))]
 σ6)))))
 (X
 [((5 : Nat), Option.some (Go.Value.pointer (Option.some (Go.Addr.mk g (0 : Nat) Option.none)))),
 ((7 : Nat), Option.some (Go.Value.pointer (Option.some (Go.Addr.mk m (0 : Nat) Option.none)))),
 ((8 : Nat), Option.some (Go.Value.int Go.IntKind.u32 a)), ((10 : Nat), Option.some (Go.Value.int Go.IntKind.u32 b)),
 ((12 : Nat), Option.some (Go.Value.slice xa xn xe)), ((13 : Nat), Option.some (Go.Value.slice ya yn ye)),
 ((14 : Nat), Option.some (Go.Value.slice botha bothn bothe)), ((17 : Nat), Option.some (Go.Value.slice saida saidn saide)),
 ((18 : Nat), Option.some (Go.Value.slice (Go.AI.Sl.a s5) (Go.AI.Sl.n s5) (1 : Nat))),
 ((19 : Nat), Option.some (Go.Value.int Go.IntKind.i64 (Go.IntKind.wrap Go.IntKind.i64 (i + (1 : Int)))))]
 σ6))))))))))))
 (Go.AI.req ((0 : Int) ≤ i)
 (Go.AI.req (i < (↑saidn : Int))
 (Go.AI.pSome saida fun (a22 : Go.Addr) ↦
 Go.AI.req (saide = Go.AI.szOf Go.Proofs.Tryz.prog (38 : Nat))
 (Go.AI.ldc σ6 (Go.Addr.add (Go.AI.aadd a22 (Int.toNat i * Go.AI.szOf Go.Proofs.Tryz.prog (38 : Nat))) (0 : Nat)) fun (v23 : Go.Value) ↦
 Go.AI.tI Go.IntKind.u32 v23 fun (n24 : Int) ↦
 Go.AI.bmatch (n24 != a)
 (Go.AI.req ((0 : Int) ≤ i)
 (Go.AI.req (i < (↑saidn : Int))
 (Go.AI.pSome saida fun (a25 : Go.Addr) ↦
 Go.AI.req (saide = Go.AI.szOf Go.Proofs.Tryz.prog (38 : Nat))
 (Go.AI.ldc σ6 (Go.Addr.add (Go.AI.aadd a25 (Int.toNat i * Go.AI.szOf Go.Proofs.Tryz.prog (38 : Nat))) (0 : Nat)) fun (v26 : Go.Value) ↦
 Go.AI.tI Go.IntKind.u32 v26 fun (n27 : Int) ↦
 Go.AI.bmatch (n27 != b) (K (Go.Value.bool Bool.false) σ6)
 (X
 [((5 : Nat), Option.some (Go.Value.pointer (Option.some (Go.Addr.mk g (0 : Nat) Option.none)))),
 ((7 : Nat), Option.some (Go.Value.pointer (Option.some (Go.Addr.mk m (0 : Nat) Option.none)))),
 ((8 : Nat), Option.some (Go.Value.int Go.IntKind.u32 a)), ((10 : Nat), Option.some (Go.Value.int Go.IntKind.u32 b)),
 ((12 : Nat), Option.some (Go.Value.slice xa xn xe)), ((13 : Nat), Option.some (Go.Value.slice ya yn ye)),
 ((14 : Nat), Option.some (Go.Value.slice botha bothn bothe)), ((17 : Nat), Option.some (Go.Value.slice saida saidn saide)),
 ((18 : Nat), Option.some (Go.Value.slice (Go.AI.Sl.a s5) (Go.AI.Sl.n s5) (1 : Nat))),
 ((19 : Nat), Option.some (Go.Value.int Go.IntKind.i64 (Go.IntKind.wrap Go.IntKind.i64 (i + (1 : Int)))))]
 σ6)))))
 (X
 [((5 : Nat), Option.some (Go.Value.pointer (Option.some (Go.Addr.mk g (0 : Nat) Option.none)))),
 ((7 : Nat), Option.some (Go.Value.pointer (Option.some (Go.Addr.mk m (0 : Nat) Option.none)))), ((8 : Nat), Option.some (Go.Value.int Go.IntKind.u32 a)),
 ((10 : Nat), Option.some (Go.Value.int Go.IntKind.u32 b)), ((12 : Nat), Option.some (Go.Value.slice xa xn xe)),
 ((13 : Nat), Option.some (Go.Value.slice ya yn ye)), ((14 : Nat), Option.some (Go.Value.slice botha bothn bothe)),
 ((17 : Nat), Option.some (Go.Value.slice saida saidn saide)), ((18 : Nat), Option.some (Go.Value.slice (Go.AI.Sl.a s5) (Go.AI.Sl.n s5) (1 : Nat))),
 ((19 : Nat), Option.some (Go.Value.int Go.IntKind.i64 (Go.IntKind.wrap Go.IntKind.i64 (i + (1 : Int)))))]
 σ6))))))))))))))
 (Go.AI.newAt σ (Go.AI.AObj.row Go.AI.RK.rw [Go.Value.int Go.IntKind.u32 a]) fun (i28 : Nat) (σ29 : Go.AI.AS) ↦
 T (16 : Nat)
 [Go.Value.pointer (Option.some (Go.Addr.mk g (0 : Nat) Option.none)), Go.Value.iface (29 : Nat) (Go.Value.pointer (Option.some (Go.Addr.mk m (0 : Nat) Option.none))), Go.Value.int Go.IntKind.u32 (44 : Int),
 Go.Value.slice (Option.some (Go.Addr.mk i28 (0 : Nat) Option.none)) (1 : Nat) (1 : Nat)]
 σ29 fun (v30 : Go.Value) (σ31 : Go.AI.AS) ↦
 Go.AI.tTup v30 fun (l32 : List Go.Value) ↦
 Go.AI.pSome l32[(0 : Nat)]? fun (u33 : Go.Value) ↦
 Go.AI.tI Go.IntKind.u32 u33 fun (n34 : Int) ↦
 Go.AI.tTup v30 fun (l35 : List Go.Value) ↦
 Go.AI.pSome l35[(1 : Nat)]? fun (u36 : Go.Value) ↦
 Go.AI.tI Go.IntKind.i64 u36 fun (n37 : Int) ↦
 Go.AI.newAt σ31 (Go.AI.AObj.row Go.AI.RK.rw [Go.Value.int Go.IntKind.u32 n34]) fun (i38 : Nat) (σ39 : Go.AI.AS) ↦
 T (16 : Nat)
 [Go.Value.pointer (Option.some (Go.Addr.mk g (0 : Nat) Option.none)), Go.Value.iface (29 : Nat) (Go.Value.pointer (Option.some (Go.Addr.mk m (0 : Nat) Option.none))),
 Go.Value.int Go.IntKind.u32 (70 : Int), Go.Value.slice (Option.some (Go.Addr.mk i38 (0 : Nat) Option.none)) (1 : Nat) (1 : Nat)]
 σ39 fun (v40 : Go.Value) (σ41 : Go.AI.AS) ↦
 Go.AI.tTup v40 fun (l42 : List Go.Value) ↦
 Go.AI.pSome l42[(0 : Nat)]? fun (u43 : Go.Value) ↦
 Go.AI.tI Go.IntKind.u32 u43 fun (n44 : Int) ↦
 Go.AI.tTup v40 fun (l45 : List Go.Value) ↦
 Go.AI.pSome l45[(1 : Nat)]? fun (u46 : Go.Value) ↦
 Go.AI.tI Go.IntKind.i64 u46 fun (n47 : Int) ↦
 Go.AI.bmatch (a != b)
 (Go.AI.bmatch (Decidable.decide (b > (0 : Int)))
 (T (19 : Nat) [Go.Value.pointer (Option.some (Go.Addr.mk g (0 : Nat) Option.none)), Go.Value.int Go.IntKind.u32 a] σ41 fun (v48 : Go.Value) (σ49 : Go.AI.AS) ↦
 Go.AI.tL (1 : Nat) v48 fun (s50 : Go.AI.Sl) ↦
 T (18 : Nat) [Go.Value.slice (Go.AI.Sl.a s50) (Go.AI.Sl.n s50) (1 : Nat), Go.Value.slice xa xn xe] σ49 fun (v51 : Go.Value) (σ52 : Go.AI.AS) ↦
 Go.AI.tB v51 fun (b53 : Bool) ↦
 Go.AI.bmatch b53
 (T (19 : Nat) [Go.Value.pointer (Option.some (Go.Addr.mk g (0 : Nat) Option.none)), Go.Value.int Go.IntKind.u32 b] σ52 fun (v54 : Go.Value) (σ55 : Go.AI.AS) ↦
 Go.AI.tL (1 : Nat) v54 fun (s56 : Go.AI.Sl) ↦
 T (18 : Nat) [Go.Value.slice (Go.AI.Sl.a s56) (Go.AI.Sl.n s56) (1 : Nat), Go.Value.slice ya yn ye] σ55 fun (v57 : Go.Value) (σ58 : Go.AI.AS) ↦
 Go.AI.tB v57 fun (b59 : Bool) ↦
 Go.AI.bmatch b59
 (T (18 : Nat) [Go.Value.slice alla alln alle, Go.Value.slice botha bothn bothe] σ58 fun (v60 : Go.Value) (σ61 : Go.AI.AS) ↦
 Go.AI.tB v60 fun (b62 : Bool) ↦
 Go.AI.bmatch b62
 (Go.AI.bmatch (Go.IntKind.wrap Go.IntKind.i64 n44 == (↑xn : Int))
 (T (15 : Nat) [Go.Value.int Go.IntKind.i64 n47] σ61 fun (v63 : Go.Value) (σ64 : Go.AI.AS) ↦
 Go.AI.tI Go.IntKind.i64 v63 fun (n65 : Int) ↦
 Go.AI.bmatch (n65 == (0 : Int))
 (T (12 : Nat) [] σ64 fun (v66 : Go.Value) (σ67 : Go.AI.AS) ↦ Go.AI.tB v66 fun (b68 : Bool) ↦ K (Go.Value.bool b68) σ67)
 (K (Go.Value.bool Bool.false) σ64))
 (K (Go.Value.bool Bool.false) σ61))
 (K (Go.Value.bool Bool.false) σ61))
 (K (Go.Value.bool Bool.false) σ58))
 (K (Go.Value.bool Bool.false) σ52))
 (K (Go.Value.bool Bool.false) σ41))
 (K (Go.Value.bool Bool.false) σ41)) := by
 intros
 kernel_rfl

theorem s17 : ∀ (T : Go.AI.Ct) (g : Nat) (σ : Go.AI.AS) (K : Go.Value → Go.AI.AS → Prop),
 Go.AI.fw Go.Proofs.Tryz.prog Go.AI.hintsS T (17 : Nat) [Go.Value.pointer (Option.some (Go.Addr.mk g (0 : Nat) Option.none))] σ K =
 Go.AI.ldc σ (Go.Addr.mk g ((0 : Nat) + (5 : Nat)) Option.none) fun (v0 : Go.Value) ↦
 Go.AI.tL (2 : Nat) v0 fun (s1 : Go.AI.Sl) ↦
 Go.AI.ALoop (Go.AI.fl Go.Proofs.Tryz.prog Go.AI.hintsS T (17 : Nat) [Bool.true, Bool.true, Bool.true, Bool.false, Bool.true, Bool.false] [] K)
 [((3 : Nat), Option.some (Go.Value.slice Option.none (0 : Nat) (0 : Nat))), ((11 : Nat), Option.some (Go.Value.slice (Go.AI.Sl.a s1) (Go.AI.Sl.n s1) (2 : Nat))),
 ((12 : Nat), Option.some (Go.Value.int Go.IntKind.i64 (↑(Go.AI.Sl.n s1) : Int))), ((13 : Nat), Option.some (Go.Value.int Go.IntKind.i64 (0 : Int)))]
 σ := by
 intros
 kernel_rfl

theorem s17l : ∀ (T : Go.AI.Ct) (la : Option Go.Addr) (ln le : Nat) (r11a_1 : Option Go.Addr) (r11n_1 r11e_1 : Nat) (r12_1 r13_1 : Int) (X : Go.AI.Regs → Go.AI.AS → Prop) (σ : Go.AI.AS) (K : Go.Value → Go.AI.AS → Prop),
 Go.AI.fl Go.Proofs.Tryz.prog Go.AI.hintsS T (17 : Nat) [Bool.true, Bool.true, Bool.true, Bool.false, Bool.true, Bool.false] [] K X
 [((3 : Nat), Option.some (Go.Value.slice la ln le)), ((11 : Nat), Option.some (Go.Value.slice r11a_1 r11n_1 r11e_1)), ((12 : Nat), Option.some (Go.Value.int Go.IntKind.i64 r12_1)),
 ((13 : Nat), Option.some (Go.Value.int Go.IntKind.i64 r13_1))]
 σ =
 Go.AI.bmatch (Decidable.decide (r13_1 < r12_1))
 (Go.AI.req ((0 : Int) ≤ r13_1)
 (Go.AI.req (r13_1 < (↑r11n_1 : Int))
 (Go.AI.pSome r11a_1 fun (a0 : Go.Addr) ↦
 Go.AI.req (r11e_1 = Go.AI.szOf Go.Proofs.Tryz.prog (38 : Nat))
 (Go.AI.lds σ (Go.AI.aadd a0 (Int.toNat r13_1 * Go.AI.szOf Go.Proofs.Tryz.prog (38 : Nat))) (2 : Nat) fun (l1 : List Go.Value) ↦
 Go.AI.tCons l1 fun (v2 : Go.Value) (l3 : List Go.Value) ↦
 Go.AI.tI Go.IntKind.u32 v2 fun (n4 : Int) ↦
 Go.AI.tCons l3 fun (v5 : Go.Value) (l6 : List Go.Value) ↦
 Go.AI.tL (1 : Nat) v5 fun (s7 : Go.AI.Sl) ↦
 Go.AI.tNil l6
 (Go.AI.newAt σ (Go.AI.AObj.row Go.AI.RK.plain [Go.Value.int Go.IntKind.u32 (0 : Int), Go.Value.slice Option.none (0 : Nat) (0 : Nat)]) fun (i8 : Nat) (σ9 : Go.AI.AS) ↦
 Go.AI.puts σ9 (Go.Addr.mk i8 (0 : Nat) Option.none) [Go.Value.int Go.IntKind.u32 n4, Go.Value.slice (Go.AI.Sl.a s7) (Go.AI.Sl.n s7) (1 : Nat)] fun (σ10 : Go.AI.AS) ↦
 Go.AI.ldc σ10 (Go.Addr.mk i8 (0 : Nat) Option.none) fun (v11 : Go.Value) ↦
 Go.AI.tI Go.IntKind.u32 v11 fun (n12 : Int) ↦
 Go.AI.ldc σ10 (Go.Addr.mk i8 ((0 : Nat) + (1 : Nat)) Option.none) fun (v13 : Go.Value) ↦
 Go.AI.tL (1 : Nat) v13 fun (s14 : Go.AI.Sl) ↦
 T (45 : Nat) [Go.Value.slice (Go.AI.Sl.a s14) (Go.AI.Sl.n s14) (1 : Nat)] σ10 fun (v15 : Go.Value) (σ16 : Go.AI.AS) ↦
 Go.AI.tL (1 : Nat) v15 fun (s17 : Go.AI.Sl) ↦
 Go.AI.ldc σ16 (Go.Addr.mk i8 (0 : Nat) Option.none) fun (v18 : Go.Value) ↦
 Go.AI.tI Go.IntKind.u32 v18 fun (n19 : Int) ↦
 Go.Value.int Go.IntKind.u32 n12 = Go.Value.int Go.IntKind.u32 n19 ∧
 Go.AI.newAt σ16 (Go.AI.AObj.row Go.AI.RK.rw [Go.Value.int Go.IntKind.u32 n12, Go.Value.slice (Go.AI.Sl.a s17) (Go.AI.Sl.n s17) (1 : Nat)])
 fun (i20 : Nat) (σ21 : Go.AI.AS) ↦
 Go.AI.chk (Go.AI.nilOr la le (Go.AI.szOf Go.Proofs.Tryz.prog (38 : Nat)))
 (Go.AI.lds σ21 (Go.Addr.mk i20 (0 : Nat) Option.none) (2 : Nat) fun (l22 : List Go.Value) ↦
 Go.AI.appendTo σ21 (2 : Nat) (32 : Nat) (Go.AI.Sl.mk la ln) l22 (1 : Nat) fun (s23 : Go.AI.Sl) (σ24 : Go.AI.AS) ↦
 X
 [((3 : Nat), Option.some (Go.Value.slice (Go.AI.Sl.a s23) (Go.AI.Sl.n s23) (2 : Nat))), ((11 : Nat), Option.some (Go.Value.slice r11a_1 r11n_1 r11e_1)),
 ((12 : Nat), Option.some (Go.Value.int Go.IntKind.i64 r12_1)),
 ((13 : Nat), Option.some (Go.Value.int Go.IntKind.i64 (Go.IntKind.wrap Go.IntKind.i64 (r13_1 + (1 : Int)))))]
 σ24))))))
 (K (Go.Value.slice la ln le) σ) := by
 intros
 kernel_rfl

theorem s19 : ∀ (T : Go.AI.Ct) (g : Nat) (win : Int) (σ : Go.AI.AS) (K : Go.Value → Go.AI.AS → Prop),
 Go.AI.fw Go.Proofs.Tryz.prog Go.AI.hintsS T (19 : Nat) [Go.Value.pointer (Option.some (Go.Addr.mk g (0 : Nat) Option.none)), Go.Value.int Go.IntKind.u32 win] σ K =
 T (54 : Nat) [Go.Value.pointer (Option.some (Go.Addr.mk g (0 : Nat) Option.none)), Go.Value.int Go.IntKind.u32 win, Go.Value.int Go.IntKind.i64 (1 : Int)] σ fun (v0 : Go.Value) (σ1 : Go.AI.AS) ↦
 Go.AI.tP v0 fun (b2 : Option Go.Addr) ↦
 Go.AI.ptrEq σ1 b2 Option.none fun (r3 : Bool) ↦
 Go.AI.bmatch r3 (K (Go.Value.slice Option.none (0 : Nat) (0 : Nat)) σ1)
 (Go.AI.ldc σ1 (Go.Addr.mk g ((0 : Nat) + (1 : Nat)) Option.none) fun (v4 : Go.Value) ↦
 Go.AI.tM v4 fun (b5 : Option Nat) ↦
 Go.AI.mget σ1 (Go.TypeDesc.int Go.IntKind.u32) b5 (Go.Value.int Go.IntKind.u32 win) fun (o6 : Option Go.Value) ↦
 Go.AI.tP (Option.getD o6 (Go.Value.pointer Option.none)) fun (b7 : Option Go.Addr) ↦
 Go.AI.pSome b7 fun (a8 : Go.Addr) ↦
 Go.AI.ldc σ1 (Go.Addr.mk (Go.Addr.block a8) (Go.Addr.off a8 + (5 : Nat)) Option.none) fun (v9 : Go.Value) ↦
 Go.AI.tL (1 : Nat) v9 fun (s10 : Go.AI.Sl) ↦
 T (45 : Nat) [Go.Value.slice (Go.AI.Sl.a s10) (Go.AI.Sl.n s10) (1 : Nat)] σ1 fun (v11 : Go.Value) (σ12 : Go.AI.AS) ↦
 Go.AI.tL (1 : Nat) v11 fun (s13 : Go.AI.Sl) ↦ K (Go.Value.slice (Go.AI.Sl.a s13) (Go.AI.Sl.n s13) (1 : Nat)) σ12) := by
 intros
 kernel_rfl

end Go.AI
end
section
/- The conditions ahead of the calls of the program's functions, reckoned as far as they go (equations that the kernel checks); no condition. -/
set_option maxRecDepth 1000000
set_option linter.unusedVariables false
namespace Go.AI
open Go.Proofs
theorem s16set : ∀ (T : Go.AI.Ct) (g m ar : Nat) (σ : Go.AI.AS) (K : Go.Value → Go.AI.AS → Prop),
 Go.AI.fw Go.Proofs.Tryz.prog Go.AI.hintsS T (16 : Nat)
 [Go.Value.pointer (Option.some (Go.Addr.mk g (0 : Nat) Option.none)), Go.Value.iface (29 : Go.TypeId) (Go.Value.pointer (Option.some (Go.Addr.mk m (0 : Nat) Option.none))),
 Go.Value.int Go.IntKind.u32 (47 : Int), Go.Value.slice (Option.some (Go.Addr.mk ar (0 : Nat) Option.none)) (1 : Nat) (1 : Nat)]
 σ K =
 Go.AI.ldc σ (Go.Addr.mk g ((0 : Nat) + (7 : Nat)) Option.none) fun (v0 : Go.Value) ↦
 Go.AI.tB v0 fun (b1 : Bool) ↦
 Go.AI.bmatch b1 (K (Go.Value.tuple (Array.mk [Go.Value.int Go.IntKind.u32 (0 : Int), Go.Value.int Go.IntKind.i64 (160 : Int)])) σ)
 (T (46 : Nat) [Go.Value.int Go.IntKind.u32 (47 : Int)] σ fun (v2 : Go.Value) (σ3 : Go.AI.AS) ↦
 Go.AI.tI Go.IntKind.i64 v2 fun (n4 : Int) ↦
 Go.AI.bmatch (n4 != (↑(1 : Nat) : Int)) (K (Go.Value.tuple (Array.mk [Go.Value.int Go.IntKind.u32 (0 : Int), Go.Value.int Go.IntKind.i64 (162 : Int)])) σ3)
 (Go.AI.newAt σ3
 (Go.AI.AObj.row Go.AI.RK.plain
 [Go.Value.pointer (Option.some (Go.Addr.mk g (0 : Nat) Option.none)), Go.Value.iface (29 : Nat) (Go.Value.pointer (Option.some (Go.Addr.mk m (0 : Nat) Option.none))),
 Go.Value.slice (Option.some (Go.Addr.mk ar (0 : Nat) Option.none)) (1 : Nat) (1 : Nat)])
 fun (i5 : Nat) (σ6 : Go.AI.AS) ↦
 T (49 : Nat) [Go.Value.pointer (Option.some (Go.Addr.mk i5 (0 : Nat) Option.none)), Go.Value.int Go.IntKind.u32 (47 : Int)] σ6 fun (v7 : Go.Value) (σ8 : Go.AI.AS) ↦
 Go.AI.tTup v7 fun (l9 : List Go.Value) ↦
 Go.AI.pSome l9[(0 : Nat)]? fun (u10 : Go.Value) ↦
 Go.AI.tI Go.IntKind.u32 u10 fun (n11 : Int) ↦
 Go.AI.tTup v7 fun (l12 : List Go.Value) ↦
 Go.AI.pSome l12[(1 : Nat)]? fun (u13 : Go.Value) ↦
 Go.AI.tI Go.IntKind.i64 u13 fun (n14 : Int) ↦ K (Go.Value.tuple (Array.mk [Go.Value.int Go.IntKind.u32 n11, Go.Value.int Go.IntKind.i64 n14])) σ8)) := by
 intros
 kernel_rfl

theorem s16pw : ∀ (T : Go.AI.Ct) (g m ar : Nat) (σ : Go.AI.AS) (K : Go.Value → Go.AI.AS → Prop),
 Go.AI.fw Go.Proofs.Tryz.prog Go.AI.hintsS T (16 : Nat)
 [Go.Value.pointer (Option.some (Go.Addr.mk g (0 : Nat) Option.none)), Go.Value.iface (29 : Go.TypeId) (Go.Value.pointer (Option.some (Go.Addr.mk m (0 : Nat) Option.none))),
 Go.Value.int Go.IntKind.u32 (296 : Int), Go.Value.slice (Option.some (Go.Addr.mk ar (0 : Nat) Option.none)) (1 : Nat) (1 : Nat)]
 σ K =
 Go.AI.ldc σ (Go.Addr.mk g ((0 : Nat) + (7 : Nat)) Option.none) fun (v0 : Go.Value) ↦
 Go.AI.tB v0 fun (b1 : Bool) ↦
 Go.AI.bmatch b1 (K (Go.Value.tuple (Array.mk [Go.Value.int Go.IntKind.u32 (0 : Int), Go.Value.int Go.IntKind.i64 (160 : Int)])) σ)
 (T (46 : Nat) [Go.Value.int Go.IntKind.u32 (296 : Int)] σ fun (v2 : Go.Value) (σ3 : Go.AI.AS) ↦
 Go.AI.tI Go.IntKind.i64 v2 fun (n4 : Int) ↦
 Go.AI.bmatch (n4 != (↑(1 : Nat) : Int)) (K (Go.Value.tuple (Array.mk [Go.Value.int Go.IntKind.u32 (0 : Int), Go.Value.int Go.IntKind.i64 (162 : Int)])) σ3)
 (Go.AI.newAt σ3
 (Go.AI.AObj.row Go.AI.RK.plain
 [Go.Value.pointer (Option.some (Go.Addr.mk g (0 : Nat) Option.none)), Go.Value.iface (29 : Nat) (Go.Value.pointer (Option.some (Go.Addr.mk m (0 : Nat) Option.none))),
 Go.Value.slice (Option.some (Go.Addr.mk ar (0 : Nat) Option.none)) (1 : Nat) (1 : Nat)])
 fun (i5 : Nat) (σ6 : Go.AI.AS) ↦
 T (53 : Nat) [Go.Value.pointer (Option.some (Go.Addr.mk i5 (0 : Nat) Option.none)), Go.Value.int Go.IntKind.u32 (296 : Int)] σ6 fun (v7 : Go.Value) (σ8 : Go.AI.AS) ↦
 Go.AI.tTup v7 fun (l9 : List Go.Value) ↦
 Go.AI.pSome l9[(0 : Nat)]? fun (u10 : Go.Value) ↦
 Go.AI.tI Go.IntKind.u32 u10 fun (n11 : Int) ↦
 Go.AI.tTup v7 fun (l12 : List Go.Value) ↦
 Go.AI.pSome l12[(1 : Nat)]? fun (u13 : Go.Value) ↦
 Go.AI.tI Go.IntKind.i64 u13 fun (n14 : Int) ↦ K (Go.Value.tuple (Array.mk [Go.Value.int Go.IntKind.u32 n11, Go.Value.int Go.IntKind.i64 n14])) σ8)) := by
 intros
 kernel_rfl

theorem s16ws : ∀ (T : Go.AI.Ct) (g m ar : Nat) (σ : Go.AI.AS) (K : Go.Value → Go.AI.AS → Prop),
 Go.AI.fw Go.Proofs.Tryz.prog Go.AI.hintsS T (16 : Nat)
 [Go.Value.pointer (Option.some (Go.Addr.mk g (0 : Nat) Option.none)), Go.Value.iface (29 : Go.TypeId) (Go.Value.pointer (Option.some (Go.Addr.mk m (0 : Nat) Option.none))),
 Go.Value.int Go.IntKind.u32 (44 : Int), Go.Value.slice (Option.some (Go.Addr.mk ar (0 : Nat) Option.none)) (1 : Nat) (1 : Nat)]
 σ K =
 Go.AI.ldc σ (Go.Addr.mk g ((0 : Nat) + (7 : Nat)) Option.none) fun (v0 : Go.Value) ↦
 Go.AI.tB v0 fun (b1 : Bool) ↦
 Go.AI.bmatch b1 (K (Go.Value.tuple (Array.mk [Go.Value.int Go.IntKind.u32 (0 : Int), Go.Value.int Go.IntKind.i64 (160 : Int)])) σ)
 (T (46 : Nat) [Go.Value.int Go.IntKind.u32 (44 : Int)] σ fun (v2 : Go.Value) (σ3 : Go.AI.AS) ↦
 Go.AI.tI Go.IntKind.i64 v2 fun (n4 : Int) ↦
 Go.AI.bmatch (n4 != (↑(1 : Nat) : Int)) (K (Go.Value.tuple (Array.mk [Go.Value.int Go.IntKind.u32 (0 : Int), Go.Value.int Go.IntKind.i64 (162 : Int)])) σ3)
 (Go.AI.newAt σ3
 (Go.AI.AObj.row Go.AI.RK.plain
 [Go.Value.pointer (Option.some (Go.Addr.mk g (0 : Nat) Option.none)), Go.Value.iface (29 : Nat) (Go.Value.pointer (Option.some (Go.Addr.mk m (0 : Nat) Option.none))),
 Go.Value.slice (Option.some (Go.Addr.mk ar (0 : Nat) Option.none)) (1 : Nat) (1 : Nat)])
 fun (i5 : Nat) (σ6 : Go.AI.AS) ↦
 T (49 : Nat) [Go.Value.pointer (Option.some (Go.Addr.mk i5 (0 : Nat) Option.none)), Go.Value.int Go.IntKind.u32 (44 : Int)] σ6 fun (v7 : Go.Value) (σ8 : Go.AI.AS) ↦
 Go.AI.tTup v7 fun (l9 : List Go.Value) ↦
 Go.AI.pSome l9[(0 : Nat)]? fun (u10 : Go.Value) ↦
 Go.AI.tI Go.IntKind.u32 u10 fun (n11 : Int) ↦
 Go.AI.tTup v7 fun (l12 : List Go.Value) ↦
 Go.AI.pSome l12[(1 : Nat)]? fun (u13 : Go.Value) ↦
 Go.AI.tI Go.IntKind.i64 u13 fun (n14 : Int) ↦ K (Go.Value.tuple (Array.mk [Go.Value.int Go.IntKind.u32 n11, Go.Value.int Go.IntKind.i64 n14])) σ8)) := by
 intros
 kernel_rfl

theorem s16tl : ∀ (T : Go.AI.Ct) (g m ar : Nat) (σ : Go.AI.AS) (K : Go.Value → Go.AI.AS → Prop),
 Go.AI.fw Go.Proofs.Tryz.prog Go.AI.hintsS T (16 : Nat)
 [Go.Value.pointer (Option.some (Go.Addr.mk g (0 : Nat) Option.none)), Go.Value.iface (29 : Go.TypeId) (Go.Value.pointer (Option.some (Go.Addr.mk m (0 : Nat) Option.none))),
 Go.Value.int Go.IntKind.u32 (70 : Int), Go.Value.slice (Option.some (Go.Addr.mk ar (0 : Nat) Option.none)) (1 : Nat) (1 : Nat)]
 σ K =
 Go.AI.ldc σ (Go.Addr.mk g ((0 : Nat) + (7 : Nat)) Option.none) fun (v0 : Go.Value) ↦
 Go.AI.tB v0 fun (b1 : Bool) ↦
 Go.AI.bmatch b1 (K (Go.Value.tuple (Array.mk [Go.Value.int Go.IntKind.u32 (0 : Int), Go.Value.int Go.IntKind.i64 (160 : Int)])) σ)
 (T (46 : Nat) [Go.Value.int Go.IntKind.u32 (70 : Int)] σ fun (v2 : Go.Value) (σ3 : Go.AI.AS) ↦
 Go.AI.tI Go.IntKind.i64 v2 fun (n4 : Int) ↦
 Go.AI.bmatch (n4 != (↑(1 : Nat) : Int)) (K (Go.Value.tuple (Array.mk [Go.Value.int Go.IntKind.u32 (0 : Int), Go.Value.int Go.IntKind.i64 (162 : Int)])) σ3)
 (Go.AI.newAt σ3
 (Go.AI.AObj.row Go.AI.RK.plain
 [Go.Value.pointer (Option.some (Go.Addr.mk g (0 : Nat) Option.none)), Go.Value.iface (29 : Nat) (Go.Value.pointer (Option.some (Go.Addr.mk m (0 : Nat) Option.none))),
 Go.Value.slice (Option.some (Go.Addr.mk ar (0 : Nat) Option.none)) (1 : Nat) (1 : Nat)])
 fun (i5 : Nat) (σ6 : Go.AI.AS) ↦
 T (50 : Nat) [Go.Value.pointer (Option.some (Go.Addr.mk i5 (0 : Nat) Option.none)), Go.Value.int Go.IntKind.u32 (70 : Int)] σ6 fun (v7 : Go.Value) (σ8 : Go.AI.AS) ↦
 Go.AI.tTup v7 fun (l9 : List Go.Value) ↦
 Go.AI.pSome l9[(0 : Nat)]? fun (u10 : Go.Value) ↦
 Go.AI.tI Go.IntKind.u32 u10 fun (n11 : Int) ↦
 Go.AI.tTup v7 fun (l12 : List Go.Value) ↦
 Go.AI.pSome l12[(1 : Nat)]? fun (u13 : Go.Value) ↦
 Go.AI.tI Go.IntKind.i64 u13 fun (n14 : Int) ↦ K (Go.Value.tuple (Array.mk [Go.Value.int Go.IntKind.u32 n11, Go.Value.int Go.IntKind.i64 n14])) σ8)) := by
 intros
 kernel_rfl

theorem s49set : ∀ (T : Go.AI.Ct) (c : Nat) (σ : Go.AI.AS) (K : Go.Value → Go.AI.AS → Prop),
 Go.AI.fw Go.Proofs.Tryz.prog Go.AI.hintsS T (49 : Nat) [Go.Value.pointer (Option.some (Go.Addr.mk c (0 : Nat) Option.none)), Go.Value.int Go.IntKind.u32 (47 : Int)] σ K =
 Go.AI.ldc σ (Go.Addr.mk c ((0 : Nat) + (2 : Nat)) Option.none) fun (v0 : Go.Value) ↦
 Go.AI.tL (1 : Nat) v0 fun (s1 : Go.AI.Sl) ↦
 Go.AI.req ((0 : Int) < (↑(Go.AI.Sl.n s1) : Int))
 (Go.AI.pSome (Go.AI.Sl.a s1) fun (a2 : Go.Addr) ↦
 Go.AI.ldc σ (Go.AI.aadd a2 (Int.toNat (0 : Int) * Go.AI.szOf Go.Proofs.Tryz.prog (32 : Nat))) fun (v3 : Go.Value) ↦
 Go.AI.tI Go.IntKind.u32 v3 fun (n4 : Int) ↦
 Go.AI.bmatch (n4 == (0 : Int))
 (Go.AI.ldc σ (Go.Addr.mk c (0 : Nat) Option.none) fun (v5 : Go.Value) ↦
 Go.AI.tP v5 fun (b6 : Option Go.Addr) ↦
 Go.AI.pSome b6 fun (a7 : Go.Addr) ↦
 Go.AI.put1 σ (Go.Addr.mk (Go.Addr.block a7) (Go.Addr.off a7 + (6 : Nat)) Option.none) (Go.Value.int Go.IntKind.u32 (0 : Int)) fun (σ8 : Go.AI.AS) ↦
 Go.AI.ldc σ8 (Go.Addr.mk c (0 : Nat) Option.none) fun (v9 : Go.Value) ↦
 Go.AI.tP v9 fun (b10 : Option Go.Addr) ↦
 Go.AI.ldc σ8 (Go.Addr.mk c ((0 : Nat) + (2 : Nat)) Option.none) fun (v11 : Go.Value) ↦
 Go.AI.tL (1 : Nat) v11 fun (s12 : Go.AI.Sl) ↦
 Go.AI.req ((0 : Int) < (↑(Go.AI.Sl.n s12) : Int))
 (Go.AI.pSome (Go.AI.Sl.a s12) fun (a13 : Go.Addr) ↦
 Go.AI.ldc σ8 (Go.AI.aadd a13 (Int.toNat (0 : Int) * Go.AI.szOf Go.Proofs.Tryz.prog (32 : Nat))) fun (v14 : Go.Value) ↦
 Go.AI.tI Go.IntKind.u32 v14 fun (n15 : Int) ↦
 T (54 : Nat) [Go.Value.pointer b10, Go.Value.int Go.IntKind.u32 n15, Go.Value.int Go.IntKind.i64 (1 : Int)] σ8 fun (v16 : Go.Value) (σ17 : Go.AI.AS) ↦
 Go.AI.tP v16 fun (b18 : Option Go.Addr) ↦
 Go.AI.ptrEq σ17 b18 Option.none fun (r19 : Bool) ↦
 Go.AI.bmatch r19 (K (Go.Value.tuple (Array.mk [Go.Value.int Go.IntKind.u32 (0 : Int), Go.Value.int Go.IntKind.i64 (0 : Int)])) σ17)
 (Go.AI.ldc σ17 (Go.Addr.mk c (0 : Nat) Option.none) fun (v20 : Go.Value) ↦
 Go.AI.tP v20 fun (b21 : Option Go.Addr) ↦
 Go.AI.pSome b18 fun (a22 : Go.Addr) ↦
 Go.AI.ldc σ17 (Go.Addr.mk (Go.Addr.block a22) (Go.Addr.off a22 + (4 : Nat)) Option.none) fun (v23 : Go.Value) ↦
 Go.AI.tI Go.IntKind.u32 v23 fun (n24 : Int) ↦
 Go.AI.pSome b21 fun (a25 : Go.Addr) ↦
 Go.AI.put1 σ17 (Go.Addr.mk (Go.Addr.block a25) (Go.Addr.off a25 + (6 : Nat)) Option.none) (Go.Value.int Go.IntKind.u32 n24) fun (σ26 : Go.AI.AS) ↦
 K (Go.Value.tuple (Array.mk [Go.Value.int Go.IntKind.u32 (0 : Int), Go.Value.int Go.IntKind.i64 (0 : Int)])) σ26)))
 (Go.AI.ldc σ (Go.Addr.mk c (0 : Nat) Option.none) fun (v27 : Go.Value) ↦
 Go.AI.tP v27 fun (b28 : Option Go.Addr) ↦
 Go.AI.ldc σ (Go.Addr.mk c ((0 : Nat) + (2 : Nat)) Option.none) fun (v29 : Go.Value) ↦
 Go.AI.tL (1 : Nat) v29 fun (s30 : Go.AI.Sl) ↦
 Go.AI.req ((0 : Int) < (↑(Go.AI.Sl.n s30) : Int))
 (Go.AI.pSome (Go.AI.Sl.a s30) fun (a31 : Go.Addr) ↦
 Go.AI.ldc σ (Go.AI.aadd a31 (Int.toNat (0 : Int) * Go.AI.szOf Go.Proofs.Tryz.prog (32 : Nat))) fun (v32 : Go.Value) ↦
 Go.AI.tI Go.IntKind.u32 v32 fun (n33 : Int) ↦
 T (54 : Nat) [Go.Value.pointer b28, Go.Value.int Go.IntKind.u32 n33, Go.Value.int Go.IntKind.i64 (1 : Int)] σ fun (v34 : Go.Value) (σ35 : Go.AI.AS) ↦
 Go.AI.tP v34 fun (b36 : Option Go.Addr) ↦
 Go.AI.ptrEq σ35 b36 Option.none fun (r37 : Bool) ↦
 Go.AI.bmatch r37 (K (Go.Value.tuple (Array.mk [Go.Value.int Go.IntKind.u32 (0 : Int), Go.Value.int Go.IntKind.i64 (0 : Int)])) σ35)
 (Go.AI.ldc σ35 (Go.Addr.mk c (0 : Nat) Option.none) fun (v38 : Go.Value) ↦
 Go.AI.tP v38 fun (b39 : Option Go.Addr) ↦
 Go.AI.pSome b36 fun (a40 : Go.Addr) ↦
 Go.AI.ldc σ35 (Go.Addr.mk (Go.Addr.block a40) (Go.Addr.off a40 + (4 : Nat)) Option.none) fun (v41 : Go.Value) ↦
 Go.AI.tI Go.IntKind.u32 v41 fun (n42 : Int) ↦
 Go.AI.pSome b39 fun (a43 : Go.Addr) ↦
 Go.AI.put1 σ35 (Go.Addr.mk (Go.Addr.block a43) (Go.Addr.off a43 + (6 : Nat)) Option.none) (Go.Value.int Go.IntKind.u32 n42) fun (σ44 : Go.AI.AS) ↦
 K (Go.Value.tuple (Array.mk [Go.Value.int Go.IntKind.u32 (0 : Int), Go.Value.int Go.IntKind.i64 (0 : Int)])) σ44)))) := by
 intros
 kernel_rfl

theorem s49ws : ∀ (T : Go.AI.Ct) (c : Nat) (σ : Go.AI.AS) (K : Go.Value → Go.AI.AS → Prop),
 Go.AI.fw Go.Proofs.Tryz.prog Go.AI.hintsS T (49 : Nat) [Go.Value.pointer (Option.some (Go.Addr.mk c (0 : Nat) Option.none)), Go.Value.int Go.IntKind.u32 (44 : Int)] σ K =
 Go.AI.ldc σ (Go.Addr.mk c (0 : Nat) Option.none) fun (v0 : Go.Value) ↦
 Go.AI.tP v0 fun (b1 : Option Go.Addr) ↦
 Go.AI.ldc σ (Go.Addr.mk c ((0 : Nat) + (2 : Nat)) Option.none) fun (v2 : Go.Value) ↦
 Go.AI.tL (1 : Nat) v2 fun (s3 : Go.AI.Sl) ↦
 Go.AI.req ((0 : Int) < (↑(Go.AI.Sl.n s3) : Int))
 (Go.AI.pSome (Go.AI.Sl.a s3) fun (a4 : Go.Addr) ↦
 Go.AI.ldc σ (Go.AI.aadd a4 (Int.toNat (0 : Int) * Go.AI.szOf Go.Proofs.Tryz.prog (32 : Nat))) fun (v5 : Go.Value) ↦
 Go.AI.tI Go.IntKind.u32 v5 fun (n6 : Int) ↦
 T (54 : Nat) [Go.Value.pointer b1, Go.Value.int Go.IntKind.u32 n6, Go.Value.int Go.IntKind.i64 (1 : Int)] σ fun (v7 : Go.Value) (σ8 : Go.AI.AS) ↦
 Go.AI.tP v7 fun (b9 : Option Go.Addr) ↦
 Go.AI.ptrEq σ8 b9 Option.none fun (r10 : Bool) ↦
 Go.AI.bmatch r10 (K (Go.Value.tuple (Array.mk [Go.Value.int Go.IntKind.u32 (0 : Int), Go.Value.int Go.IntKind.i64 (0 : Int)])) σ8)
 (Go.AI.pSome b9 fun (a11 : Go.Addr) ↦
 Go.AI.ldc σ8 (Go.Addr.mk (Go.Addr.block a11) (Go.Addr.off a11 + (4 : Nat)) Option.none) fun (v12 : Go.Value) ↦
 Go.AI.tI Go.IntKind.u32 v12 fun (n13 : Int) ↦ K (Go.Value.tuple (Array.mk [Go.Value.int Go.IntKind.u32 n13, Go.Value.int Go.IntKind.i64 (0 : Int)])) σ8)) := by
 intros
 kernel_rfl

theorem s53pw : ∀ (T : Go.AI.Ct) (c : Nat) (σ : Go.AI.AS) (K : Go.Value → Go.AI.AS → Prop),
 Go.AI.fw Go.Proofs.Tryz.prog Go.AI.hintsS T (53 : Nat) [Go.Value.pointer (Option.some (Go.Addr.mk c (0 : Nat) Option.none)), Go.Value.int Go.IntKind.u32 (296 : Int)] σ K =
 Go.AI.ldc σ (Go.Addr.mk c (0 : Nat) Option.none) fun (v0 : Go.Value) ↦
 Go.AI.tP v0 fun (b1 : Option Go.Addr) ↦
 Go.AI.ldc σ (Go.Addr.mk c (0 : Nat) Option.none) fun (v2 : Go.Value) ↦
 Go.AI.tP v2 fun (b3 : Option Go.Addr) ↦
 Go.AI.pSome b3 fun (a4 : Go.Addr) ↦
 Go.AI.ldc σ (Go.Addr.mk (Go.Addr.block a4) (Go.Addr.off a4 + (6 : Nat)) Option.none) fun (v5 : Go.Value) ↦
 Go.AI.tI Go.IntKind.u32 v5 fun (n6 : Int) ↦
 Go.AI.ldc σ (Go.Addr.mk c ((0 : Nat) + (2 : Nat)) Option.none) fun (v7 : Go.Value) ↦
 Go.AI.tL (1 : Nat) v7 fun (s8 : Go.AI.Sl) ↦
 Go.AI.req ((0 : Int) < (↑(Go.AI.Sl.n s8) : Int))
 (Go.AI.pSome (Go.AI.Sl.a s8) fun (a9 : Go.Addr) ↦
 Go.AI.ldc σ (Go.AI.aadd a9 (Int.toNat (0 : Int) * Go.AI.szOf Go.Proofs.Tryz.prog (32 : Nat))) fun (v10 : Go.Value) ↦
 Go.AI.tI Go.IntKind.u32 v10 fun (n11 : Int) ↦
 T (72 : Nat) [Go.Value.pointer b1, Go.Value.int Go.IntKind.u32 n6, Go.Value.int Go.IntKind.u32 n11] σ fun (v12 : Go.Value) (σ13 : Go.AI.AS) ↦
 K (Go.Value.tuple (Array.mk [Go.Value.int Go.IntKind.u32 (0 : Int), Go.Value.int Go.IntKind.i64 (0 : Int)])) σ13) := by
 intros
 kernel_rfl

theorem s50tl : ∀ (T : Go.AI.Ct) (c : Nat) (σ : Go.AI.AS) (K : Go.Value → Go.AI.AS → Prop),
 Go.AI.fw Go.Proofs.Tryz.prog Go.AI.hintsS T (50 : Nat) [Go.Value.pointer (Option.some (Go.Addr.mk c (0 : Nat) Option.none)), Go.Value.int Go.IntKind.u32 (70 : Int)] σ K =
 Go.AI.ldc σ (Go.Addr.mk c (0 : Nat) Option.none) fun (v0 : Go.Value) ↦
 Go.AI.tP v0 fun (b1 : Option Go.Addr) ↦
 Go.AI.ldc σ (Go.Addr.mk c ((0 : Nat) + (2 : Nat)) Option.none) fun (v2 : Go.Value) ↦
 Go.AI.tL (1 : Nat) v2 fun (s3 : Go.AI.Sl) ↦
 Go.AI.req ((0 : Int) < (↑(Go.AI.Sl.n s3) : Int))
 (Go.AI.pSome (Go.AI.Sl.a s3) fun (a4 : Go.Addr) ↦
 Go.AI.ldc σ (Go.AI.aadd a4 (Int.toNat (0 : Int) * Go.AI.szOf Go.Proofs.Tryz.prog (32 : Nat))) fun (v5 : Go.Value) ↦
 Go.AI.tI Go.IntKind.u32 v5 fun (n6 : Int) ↦
 T (54 : Nat) [Go.Value.pointer b1, Go.Value.int Go.IntKind.u32 n6, Go.Value.int Go.IntKind.i64 (2 : Int)] σ fun (v7 : Go.Value) (σ8 : Go.AI.AS) ↦
 Go.AI.tP v7 fun (b9 : Option Go.Addr) ↦
 Go.AI.ptrEq σ8 b9 Option.none fun (r10 : Bool) ↦
 Go.AI.bmatch r10 (K (Go.Value.tuple (Array.mk [Go.Value.int Go.IntKind.u32 (0 : Int), Go.Value.int Go.IntKind.i64 (0 : Int)])) σ8)
 (Go.AI.pSome b9 fun (a11 : Go.Addr) ↦
 Go.AI.ldc σ8 (Go.Addr.mk (Go.Addr.block a11) (Go.Addr.off a11 + (12 : Nat)) Option.none) fun (v12 : Go.Value) ↦
 Go.AI.tI Go.IntKind.u32 v12 fun (n13 : Int) ↦
 Go.AI.bmatch (n13 != (0 : Int))
 (Go.AI.pSome b9 fun (a14 : Go.Addr) ↦
 Go.AI.ldc σ8 (Go.Addr.mk (Go.Addr.block a14) (Go.Addr.off a14 + (17 : Nat)) Option.none) fun (v15 : Go.Value) ↦
 Go.AI.tI Go.IntKind.u32 v15 fun (n16 : Int) ↦ K (Go.Value.tuple (Array.mk [Go.Value.int Go.IntKind.u32 n16, Go.Value.int Go.IntKind.i64 (0 : Int)])) σ8)
 (Go.AI.pSome b9 fun (a17 : Go.Addr) ↦
 Go.AI.ldc σ8 (Go.Addr.mk (Go.Addr.block a17) (Go.Addr.off a17 + (12 : Nat)) Option.none) fun (v18 : Go.Value) ↦
 Go.AI.tI Go.IntKind.u32 v18 fun (n19 : Int) ↦
 Go.AI.bmatch (n19 != (0 : Int)) (K (Go.Value.tuple (Array.mk [Go.Value.int Go.IntKind.u32 (0 : Int), Go.Value.int Go.IntKind.i64 (0 : Int)])) σ8)
 (Go.AI.ldc σ8 (Go.Addr.mk c (0 : Nat) Option.none) fun (v20 : Go.Value) ↦
 Go.AI.tP v20 fun (b21 : Option Go.Addr) ↦
 Go.AI.pSome b21 fun (a22 : Go.Addr) ↦
 Go.AI.ldc σ8 (Go.Addr.mk (Go.Addr.block a22) (Go.Addr.off a22 + (3 : Nat)) Option.none) fun (v23 : Go.Value) ↦
 Go.AI.tP v23 fun (b24 : Option Go.Addr) ↦
 Go.AI.pSome b9 fun (a25 : Go.Addr) ↦
 Go.AI.ldc σ8 (Go.Addr.mk (Go.Addr.block a25) (Go.Addr.off a25 + (13 : Nat)) Option.none) fun (v26 : Go.Value) ↦
 Go.AI.tI Go.IntKind.i64 v26 fun (n27 : Int) ↦
 T (98 : Nat) [Go.Value.pointer b24, Go.Value.int Go.IntKind.i64 n27] σ8 fun (v28 : Go.Value) (σ29 : Go.AI.AS) ↦
 Go.AI.tTup v28 fun (l30 : List Go.Value) ↦
 Go.AI.pSome l30[(0 : Nat)]? fun (u31 : Go.Value) ↦
 Go.AI.tI Go.IntKind.i64 u31 fun (n32 : Int) ↦
 Go.AI.tTup v28 fun (l33 : List Go.Value) ↦
 Go.AI.pSome l33[(1 : Nat)]? fun (u34 : Go.Value) ↦
 Go.AI.tI Go.IntKind.i64 u34 fun (n35 : Int) ↦
 Go.AI.tTup v28 fun (l36 : List Go.Value) ↦
 Go.AI.pSome l36[(2 : Nat)]? fun (u37 : Go.Value) ↦
 Go.AI.tI Go.IntKind.i64 u37 fun (n38 : Int) ↦
 K (Go.Value.tuple (Array.mk [Go.Value.int Go.IntKind.u32 (Go.IntKind.wrap Go.IntKind.u32 n32), Go.Value.int Go.IntKind.i64 (0 : Int)]))
 σ29)))) := by
 intros
 kernel_rfl

theorem s72 : ∀ (T : Go.AI.Ct) (g : Nat) (id x : Int) (σ : Go.AI.AS) (K : Go.Value → Go.AI.AS → Prop),
 Go.AI.fw Go.Proofs.Tryz.prog Go.AI.hintsS T (72 : Nat) [Go.Value.pointer (Option.some (Go.Addr.mk g (0 : Nat) Option.none)), Go.Value.int Go.IntKind.u32 id, Go.Value.int Go.IntKind.u32 x] σ K =
 T (54 : Nat) [Go.Value.pointer (Option.some (Go.Addr.mk g (0 : Nat) Option.none)), Go.Value.int Go.IntKind.u32 id, Go.Value.int Go.IntKind.i64 (2 : Int)] σ fun (v0 : Go.Value) (σ1 : Go.AI.AS) ↦
 Go.AI.tP v0 fun (b2 : Option Go.Addr) ↦
 Go.AI.ptrEq σ1 b2 Option.none fun (r3 : Bool) ↦
 Go.AI.bmatch r3 (K (Go.Value.tuple (Array.mk [])) σ1)
 (Go.AI.pSome b2 fun (a4 : Go.Addr) ↦
 Go.AI.ldc σ1 (Go.Addr.mk (Go.Addr.block a4) (Go.Addr.off a4 + (12 : Nat)) Option.none) fun (v5 : Go.Value) ↦
 Go.AI.tI Go.IntKind.u32 v5 fun (n6 : Int) ↦
 Go.AI.bmatch (n6 != (0 : Int))
 (Go.AI.pSome b2 fun (a7 : Go.Addr) ↦
 Go.AI.ldc σ1 (Go.Addr.mk (Go.Addr.block a7) (Go.Addr.off a7 + (17 : Nat)) Option.none) fun (v8 : Go.Value) ↦
 Go.AI.tI Go.IntKind.u32 v8 fun (n9 : Int) ↦
 Go.AI.pSome b2 fun (a10 : Go.Addr) ↦
 Go.AI.put1 σ1 (Go.Addr.mk (Go.Addr.block a10) (Go.Addr.off a10 + (17 : Nat)) Option.none) (Go.Value.int Go.IntKind.u32 (Go.IntKind.wrap Go.IntKind.u32 (n9 + (1 : Int)))) fun (σ11 : Go.AI.AS) ↦
 Go.AI.pSome b2 fun (a12 : Go.Addr) ↦
 Go.AI.ldc σ11 (Go.Addr.mk (Go.Addr.block a12) (Go.Addr.off a12 + (12 : Nat)) Option.none) fun (v13 : Go.Value) ↦
 Go.AI.tI Go.IntKind.u32 v13 fun (n14 : Int) ↦
 T (132 : Nat) [Go.Value.pointer (Option.some (Go.Addr.mk g (0 : Nat) Option.none)), Go.Value.int Go.IntKind.u32 n14, Go.Value.int Go.IntKind.u32 x] σ11
 fun (v15 : Go.Value) (σ16 : Go.AI.AS) ↦ K (Go.Value.tuple (Array.mk [])) σ16)
 (Go.AI.ldc σ1 (Go.Addr.mk g ((0 : Nat) + (3 : Nat)) Option.none) fun (v17 : Go.Value) ↦
 Go.AI.tP v17 fun (b18 : Option Go.Addr) ↦
 Go.AI.pSome b2 fun (a19 : Go.Addr) ↦
 Go.AI.ldc σ1 (Go.Addr.mk (Go.Addr.block a19) (Go.Addr.off a19 + (13 : Nat)) Option.none) fun (v20 : Go.Value) ↦
 Go.AI.tI Go.IntKind.i64 v20 fun (n21 : Int) ↦
 Go.AI.newAt σ1 (Go.AI.AObj.row Go.AI.RK.rw [Go.Value.int Go.IntKind.u32 x]) fun (i22 : Nat) (σ23 : Go.AI.AS) ↦
 Go.AI.ldc σ23 (Go.Addr.mk (Go.Addr.block a19) (Go.Addr.off a19 + (13 : Nat)) Option.none) fun (v24 : Go.Value) ↦
 Go.AI.tI Go.IntKind.i64 v24 fun (n25 : Int) ↦
 Go.Value.int Go.IntKind.i64 n21 = Go.Value.int Go.IntKind.i64 n25 ∧
 Go.AI.ldc σ23 (Go.Addr.mk g ((0 : Nat) + (3 : Nat)) Option.none) fun (v26 : Go.Value) ↦
 Go.AI.tP v26 fun (b27 : Option Go.Addr) ↦
 Go.Value.pointer b18 = Go.Value.pointer b27 ∧
 T (78 : Nat) [Go.Value.pointer b18, Go.Value.int Go.IntKind.i64 n21, Go.Value.slice (Option.some (Go.Addr.mk i22 (0 : Nat) Option.none)) (1 : Nat) (1 : Nat)] σ23
 fun (v28 : Go.Value) (σ29 : Go.AI.AS) ↦ Go.AI.tI Go.IntKind.i64 v28 fun (n30 : Int) ↦ K (Go.Value.tuple (Array.mk [])) σ29)) := by
 intros
 kernel_rfl

theorem s45 : ∀ (T : Go.AI.Ct) (sa : Option Go.Addr) (sn : Nat) (σ : Go.AI.AS) (K : Go.Value → Go.AI.AS → Prop),
 Go.AI.fw Go.Proofs.Tryz.prog Go.AI.hintsS T (45 : Nat) [Go.Value.slice sa sn (1 : Nat)] σ K =
 Go.AI.bmatch (Option.isNone sa) (K (Go.Value.slice Option.none (0 : Nat) (0 : Nat)) σ)
 (Go.AI.newAt σ (Go.AI.AObj.row Go.AI.RK.rw []) fun (i0 : Nat) (σ1 : Go.AI.AS) ↦
 Go.AI.srcCells σ1 (1 : Nat) (Option.some (Go.Value.slice sa sn (1 : Nat))) fun (m2 : Nat) (new3 : List Go.Value) ↦
 Go.AI.appendTo σ1 (1 : Nat) (4 : Nat) (Go.AI.Sl.mk (Option.some (Go.Addr.mk i0 (0 : Nat) Option.none)) (0 : Nat)) new3 m2 fun (s4 : Go.AI.Sl) (σ5 : Go.AI.AS) ↦
 K (Go.Value.slice (Go.AI.Sl.a s4) (Go.AI.Sl.n s4) (1 : Nat)) σ5) := by
 intros
 kernel_rfl

end Go.AI
end
