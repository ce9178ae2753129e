/- Lemmas of the abstract condition ahead of code (a part of the library that the claim's proof stands on); they hold with no condition but those that each names. -/
import Derived.Test.YtlofpopejkohbaaGreatGkSoft
import Derived.Test.YtlofpopejkohbaaGreatAIJoin
section
/- The conditions ahead of the calls of the program's functions, reckoned as far as they go (equations that the kernel checks); no condition. -/
set_option maxRecDepth 1000000
set_option linter.unusedVariables false
namespace Go.AI
open Go.Proofs
theorem s16rn : ∀ (T : Go.AI.Ct) (g m ar : Nat) (σ : Go.AI.AS) (K : Go.Value → Go.AI.AS → Prop),
 Go.AI.fw Go.Proofs.Tryz.prog Go.AI.hintsS T (16 : Nat)
 [Go.Value.pointer (Option.some (Go.Addr.mk g (0 : Nat) Option.none)), Go.Value.iface (29 : Go.TypeId) (Go.Value.pointer (Option.some (Go.Addr.mk m (0 : Nat) Option.none))),
 Go.Value.int Go.IntKind.u32 (97 : Int), Go.Value.slice (Option.some (Go.Addr.mk ar (0 : Nat) Option.none)) (3 : Nat) (1 : Nat)]
 σ K =
 Go.AI.ldc σ (Go.Addr.mk g ((0 : Nat) + (7 : Nat)) Option.none) fun (v0 : Go.Value) ↦
 Go.AI.tB v0 fun (b1 : Bool) ↦
 Go.AI.bmatch b1 (K (Go.Value.tuple (Array.mk [Go.Value.int Go.IntKind.u32 (0 : Int), Go.Value.int Go.IntKind.i64 (160 : Int)])) σ)
 (T (46 : Nat) [Go.Value.int Go.IntKind.u32 (97 : Int)] σ fun (v2 : Go.Value) (σ3 : Go.AI.AS) ↦
 Go.AI.tI Go.IntKind.i64 v2 fun (n4 : Int) ↦
 Go.AI.bmatch (n4 != (↑(3 : Nat) : Int)) (K (Go.Value.tuple (Array.mk [Go.Value.int Go.IntKind.u32 (0 : Int), Go.Value.int Go.IntKind.i64 (162 : Int)])) σ3)
 (Go.AI.newAt σ3
 (Go.AI.AObj.row Go.AI.RK.plain
 [Go.Value.pointer (Option.some (Go.Addr.mk g (0 : Nat) Option.none)), Go.Value.iface (29 : Nat) (Go.Value.pointer (Option.some (Go.Addr.mk m (0 : Nat) Option.none))),
 Go.Value.slice (Option.some (Go.Addr.mk ar (0 : Nat) Option.none)) (3 : Nat) (1 : Nat)])
 fun (i5 : Nat) (σ6 : Go.AI.AS) ↦
 T (51 : Nat) [Go.Value.pointer (Option.some (Go.Addr.mk i5 (0 : Nat) Option.none)), Go.Value.int Go.IntKind.u32 (97 : Int)] σ6 fun (v7 : Go.Value) (σ8 : Go.AI.AS) ↦
 Go.AI.tTup v7 fun (l9 : List Go.Value) ↦
 Go.AI.pSome l9[(0 : Nat)]? fun (u10 : Go.Value) ↦
 Go.AI.tI Go.IntKind.u32 u10 fun (n11 : Int) ↦
 Go.AI.tTup v7 fun (l12 : List Go.Value) ↦
 Go.AI.pSome l12[(1 : Nat)]? fun (u13 : Go.Value) ↦
 Go.AI.tI Go.IntKind.i64 u13 fun (n14 : Int) ↦ K (Go.Value.tuple (Array.mk [Go.Value.int Go.IntKind.u32 n11, Go.Value.int Go.IntKind.i64 n14])) σ8)) := by
 intros
 kernel_rfl

theorem s16re : ∀ (T : Go.AI.Ct) (g m ar : Nat) (σ : Go.AI.AS) (K : Go.Value → Go.AI.AS → Prop),
 Go.AI.fw Go.Proofs.Tryz.prog Go.AI.hintsS T (16 : Nat)
 [Go.Value.pointer (Option.some (Go.Addr.mk g (0 : Nat) Option.none)), Go.Value.iface (29 : Go.TypeId) (Go.Value.pointer (Option.some (Go.Addr.mk m (0 : Nat) Option.none))),
 Go.Value.int Go.IntKind.u32 (103 : Int), Go.Value.slice (Option.some (Go.Addr.mk ar (0 : Nat) Option.none)) (1 : Nat) (1 : Nat)]
 σ K =
 Go.AI.ldc σ (Go.Addr.mk g ((0 : Nat) + (7 : Nat)) Option.none) fun (v0 : Go.Value) ↦
 Go.AI.tB v0 fun (b1 : Bool) ↦
 Go.AI.bmatch b1 (K (Go.Value.tuple (Array.mk [Go.Value.int Go.IntKind.u32 (0 : Int), Go.Value.int Go.IntKind.i64 (160 : Int)])) σ)
 (T (46 : Nat) [Go.Value.int Go.IntKind.u32 (103 : Int)] σ fun (v2 : Go.Value) (σ3 : Go.AI.AS) ↦
 Go.AI.tI Go.IntKind.i64 v2 fun (n4 : Int) ↦
 Go.AI.bmatch (n4 != (↑(1 : Nat) : Int)) (K (Go.Value.tuple (Array.mk [Go.Value.int Go.IntKind.u32 (0 : Int), Go.Value.int Go.IntKind.i64 (162 : Int)])) σ3)
 (Go.AI.newAt σ3
 (Go.AI.AObj.row Go.AI.RK.plain
 [Go.Value.pointer (Option.some (Go.Addr.mk g (0 : Nat) Option.none)), Go.Value.iface (29 : Nat) (Go.Value.pointer (Option.some (Go.Addr.mk m (0 : Nat) Option.none))),
 Go.Value.slice (Option.some (Go.Addr.mk ar (0 : Nat) Option.none)) (1 : Nat) (1 : Nat)])
 fun (i5 : Nat) (σ6 : Go.AI.AS) ↦
 T (51 : Nat) [Go.Value.pointer (Option.some (Go.Addr.mk i5 (0 : Nat) Option.none)), Go.Value.int Go.IntKind.u32 (103 : Int)] σ6 fun (v7 : Go.Value) (σ8 : Go.AI.AS) ↦
 Go.AI.tTup v7 fun (l9 : List Go.Value) ↦
 Go.AI.pSome l9[(0 : Nat)]? fun (u10 : Go.Value) ↦
 Go.AI.tI Go.IntKind.u32 u10 fun (n11 : Int) ↦
 Go.AI.tTup v7 fun (l12 : List Go.Value) ↦
 Go.AI.pSome l12[(1 : Nat)]? fun (u13 : Go.Value) ↦
 Go.AI.tI Go.IntKind.i64 u13 fun (n14 : Int) ↦ K (Go.Value.tuple (Array.mk [Go.Value.int Go.IntKind.u32 n11, Go.Value.int Go.IntKind.i64 n14])) σ8)) := by
 intros
 kernel_rfl

theorem s16sf : ∀ (T : Go.AI.Ct) (g m ar : Nat) (σ : Go.AI.AS) (K : Go.Value → Go.AI.AS → Prop),
 Go.AI.fw Go.Proofs.Tryz.prog Go.AI.hintsS T (16 : Nat)
 [Go.Value.pointer (Option.some (Go.Addr.mk g (0 : Nat) Option.none)), Go.Value.iface (29 : Go.TypeId) (Go.Value.pointer (Option.some (Go.Addr.mk m (0 : Nat) Option.none))),
 Go.Value.int Go.IntKind.u32 (66 : Int), Go.Value.slice (Option.some (Go.Addr.mk ar (0 : Nat) Option.none)) (3 : Nat) (1 : Nat)]
 σ K =
 Go.AI.ldc σ (Go.Addr.mk g ((0 : Nat) + (7 : Nat)) Option.none) fun (v0 : Go.Value) ↦
 Go.AI.tB v0 fun (b1 : Bool) ↦
 Go.AI.bmatch b1 (K (Go.Value.tuple (Array.mk [Go.Value.int Go.IntKind.u32 (0 : Int), Go.Value.int Go.IntKind.i64 (160 : Int)])) σ)
 (T (46 : Nat) [Go.Value.int Go.IntKind.u32 (66 : Int)] σ fun (v2 : Go.Value) (σ3 : Go.AI.AS) ↦
 Go.AI.tI Go.IntKind.i64 v2 fun (n4 : Int) ↦
 Go.AI.bmatch (n4 != (↑(3 : Nat) : Int)) (K (Go.Value.tuple (Array.mk [Go.Value.int Go.IntKind.u32 (0 : Int), Go.Value.int Go.IntKind.i64 (162 : Int)])) σ3)
 (Go.AI.newAt σ3
 (Go.AI.AObj.row Go.AI.RK.plain
 [Go.Value.pointer (Option.some (Go.Addr.mk g (0 : Nat) Option.none)), Go.Value.iface (29 : Nat) (Go.Value.pointer (Option.some (Go.Addr.mk m (0 : Nat) Option.none))),
 Go.Value.slice (Option.some (Go.Addr.mk ar (0 : Nat) Option.none)) (3 : Nat) (1 : Nat)])
 fun (i5 : Nat) (σ6 : Go.AI.AS) ↦
 T (50 : Nat) [Go.Value.pointer (Option.some (Go.Addr.mk i5 (0 : Nat) Option.none)), Go.Value.int Go.IntKind.u32 (66 : Int)] σ6 fun (v7 : Go.Value) (σ8 : Go.AI.AS) ↦
 Go.AI.tTup v7 fun (l9 : List Go.Value) ↦
 Go.AI.pSome l9[(0 : Nat)]? fun (u10 : Go.Value) ↦
 Go.AI.tI Go.IntKind.u32 u10 fun (n11 : Int) ↦
 Go.AI.tTup v7 fun (l12 : List Go.Value) ↦
 Go.AI.pSome l12[(1 : Nat)]? fun (u13 : Go.Value) ↦
 Go.AI.tI Go.IntKind.i64 u13 fun (n14 : Int) ↦ K (Go.Value.tuple (Array.mk [Go.Value.int Go.IntKind.u32 n11, Go.Value.int Go.IntKind.i64 n14])) σ8)) := by
 intros
 kernel_rfl

theorem s16sfw : ∀ (T : Go.AI.Ct) (g m ar : Nat) (σ : Go.AI.AS) (K : Go.Value → Go.AI.AS → Prop),
 Go.AI.fw Go.Proofs.Tryz.prog Go.AI.hintsS T (16 : Nat)
 [Go.Value.pointer (Option.some (Go.Addr.mk g (0 : Nat) Option.none)), Go.Value.iface (29 : Go.TypeId) (Go.Value.pointer (Option.some (Go.Addr.mk m (0 : Nat) Option.none))),
 Go.Value.int Go.IntKind.u32 (312 : Int), Go.Value.slice (Option.some (Go.Addr.mk ar (0 : Nat) Option.none)) (3 : Nat) (1 : Nat)]
 σ K =
 Go.AI.ldc σ (Go.Addr.mk g ((0 : Nat) + (7 : Nat)) Option.none) fun (v0 : Go.Value) ↦
 Go.AI.tB v0 fun (b1 : Bool) ↦
 Go.AI.bmatch b1 (K (Go.Value.tuple (Array.mk [Go.Value.int Go.IntKind.u32 (0 : Int), Go.Value.int Go.IntKind.i64 (160 : Int)])) σ)
 (T (46 : Nat) [Go.Value.int Go.IntKind.u32 (312 : Int)] σ fun (v2 : Go.Value) (σ3 : Go.AI.AS) ↦
 Go.AI.tI Go.IntKind.i64 v2 fun (n4 : Int) ↦
 Go.AI.bmatch (n4 != (↑(3 : Nat) : Int)) (K (Go.Value.tuple (Array.mk [Go.Value.int Go.IntKind.u32 (0 : Int), Go.Value.int Go.IntKind.i64 (162 : Int)])) σ3)
 (Go.AI.newAt σ3
 (Go.AI.AObj.row Go.AI.RK.plain
 [Go.Value.pointer (Option.some (Go.Addr.mk g (0 : Nat) Option.none)), Go.Value.iface (29 : Nat) (Go.Value.pointer (Option.some (Go.Addr.mk m (0 : Nat) Option.none))),
 Go.Value.slice (Option.some (Go.Addr.mk ar (0 : Nat) Option.none)) (3 : Nat) (1 : Nat)])
 fun (i5 : Nat) (σ6 : Go.AI.AS) ↦
 T (50 : Nat) [Go.Value.pointer (Option.some (Go.Addr.mk i5 (0 : Nat) Option.none)), Go.Value.int Go.IntKind.u32 (312 : Int)] σ6 fun (v7 : Go.Value) (σ8 : Go.AI.AS) ↦
 Go.AI.tTup v7 fun (l9 : List Go.Value) ↦
 Go.AI.pSome l9[(0 : Nat)]? fun (u10 : Go.Value) ↦
 Go.AI.tI Go.IntKind.u32 u10 fun (n11 : Int) ↦
 Go.AI.tTup v7 fun (l12 : List Go.Value) ↦
 Go.AI.pSome l12[(1 : Nat)]? fun (u13 : Go.Value) ↦
 Go.AI.tI Go.IntKind.i64 u13 fun (n14 : Int) ↦ K (Go.Value.tuple (Array.mk [Go.Value.int Go.IntKind.u32 n11, Go.Value.int Go.IntKind.i64 n14])) σ8)) := by
 intros
 kernel_rfl

theorem s16gs : ∀ (T : Go.AI.Ct) (g m ar : Nat) (σ : Go.AI.AS) (K : Go.Value → Go.AI.AS → Prop),
 Go.AI.fw Go.Proofs.Tryz.prog Go.AI.hintsS T (16 : Nat)
 [Go.Value.pointer (Option.some (Go.Addr.mk g (0 : Nat) Option.none)), Go.Value.iface (29 : Go.TypeId) (Go.Value.pointer (Option.some (Go.Addr.mk m (0 : Nat) Option.none))),
 Go.Value.int Go.IntKind.u32 (144 : Int), Go.Value.slice (Option.some (Go.Addr.mk ar (0 : Nat) Option.none)) (1 : Nat) (1 : Nat)]
 σ K =
 Go.AI.ldc σ (Go.Addr.mk g ((0 : Nat) + (7 : Nat)) Option.none) fun (v0 : Go.Value) ↦
 Go.AI.tB v0 fun (b1 : Bool) ↦
 Go.AI.bmatch b1 (K (Go.Value.tuple (Array.mk [Go.Value.int Go.IntKind.u32 (0 : Int), Go.Value.int Go.IntKind.i64 (160 : Int)])) σ)
 (T (46 : Nat) [Go.Value.int Go.IntKind.u32 (144 : Int)] σ fun (v2 : Go.Value) (σ3 : Go.AI.AS) ↦
 Go.AI.tI Go.IntKind.i64 v2 fun (n4 : Int) ↦
 Go.AI.bmatch (n4 != (↑(1 : Nat) : Int)) (K (Go.Value.tuple (Array.mk [Go.Value.int Go.IntKind.u32 (0 : Int), Go.Value.int Go.IntKind.i64 (162 : Int)])) σ3)
 (Go.AI.newAt σ3
 (Go.AI.AObj.row Go.AI.RK.plain
 [Go.Value.pointer (Option.some (Go.Addr.mk g (0 : Nat) Option.none)), Go.Value.iface (29 : Nat) (Go.Value.pointer (Option.some (Go.Addr.mk m (0 : Nat) Option.none))),
 Go.Value.slice (Option.some (Go.Addr.mk ar (0 : Nat) Option.none)) (1 : Nat) (1 : Nat)])
 fun (i5 : Nat) (σ6 : Go.AI.AS) ↦
 T (53 : Nat) [Go.Value.pointer (Option.some (Go.Addr.mk i5 (0 : Nat) Option.none)), Go.Value.int Go.IntKind.u32 (144 : Int)] σ6 fun (v7 : Go.Value) (σ8 : Go.AI.AS) ↦
 Go.AI.tTup v7 fun (l9 : List Go.Value) ↦
 Go.AI.pSome l9[(0 : Nat)]? fun (u10 : Go.Value) ↦
 Go.AI.tI Go.IntKind.u32 u10 fun (n11 : Int) ↦
 Go.AI.tTup v7 fun (l12 : List Go.Value) ↦
 Go.AI.pSome l12[(1 : Nat)]? fun (u13 : Go.Value) ↦
 Go.AI.tI Go.IntKind.i64 u13 fun (n14 : Int) ↦ K (Go.Value.tuple (Array.mk [Go.Value.int Go.IntKind.u32 n11, Go.Value.int Go.IntKind.i64 n14])) σ8)) := by
 intros
 kernel_rfl

theorem s16gsw : ∀ (T : Go.AI.Ct) (g m ar : Nat) (σ : Go.AI.AS) (K : Go.Value → Go.AI.AS → Prop),
 Go.AI.fw Go.Proofs.Tryz.prog Go.AI.hintsS T (16 : Nat)
 [Go.Value.pointer (Option.some (Go.Addr.mk g (0 : Nat) Option.none)), Go.Value.iface (29 : Go.TypeId) (Go.Value.pointer (Option.some (Go.Addr.mk m (0 : Nat) Option.none))),
 Go.Value.int Go.IntKind.u32 (304 : Int), Go.Value.slice (Option.some (Go.Addr.mk ar (0 : Nat) Option.none)) (1 : Nat) (1 : Nat)]
 σ K =
 Go.AI.ldc σ (Go.Addr.mk g ((0 : Nat) + (7 : Nat)) Option.none) fun (v0 : Go.Value) ↦
 Go.AI.tB v0 fun (b1 : Bool) ↦
 Go.AI.bmatch b1 (K (Go.Value.tuple (Array.mk [Go.Value.int Go.IntKind.u32 (0 : Int), Go.Value.int Go.IntKind.i64 (160 : Int)])) σ)
 (T (46 : Nat) [Go.Value.int Go.IntKind.u32 (304 : Int)] σ fun (v2 : Go.Value) (σ3 : Go.AI.AS) ↦
 Go.AI.tI Go.IntKind.i64 v2 fun (n4 : Int) ↦
 Go.AI.bmatch (n4 != (↑(1 : Nat) : Int)) (K (Go.Value.tuple (Array.mk [Go.Value.int Go.IntKind.u32 (0 : Int), Go.Value.int Go.IntKind.i64 (162 : Int)])) σ3)
 (Go.AI.newAt σ3
 (Go.AI.AObj.row Go.AI.RK.plain
 [Go.Value.pointer (Option.some (Go.Addr.mk g (0 : Nat) Option.none)), Go.Value.iface (29 : Nat) (Go.Value.pointer (Option.some (Go.Addr.mk m (0 : Nat) Option.none))),
 Go.Value.slice (Option.some (Go.Addr.mk ar (0 : Nat) Option.none)) (1 : Nat) (1 : Nat)])
 fun (i5 : Nat) (σ6 : Go.AI.AS) ↦
 T (53 : Nat) [Go.Value.pointer (Option.some (Go.Addr.mk i5 (0 : Nat) Option.none)), Go.Value.int Go.IntKind.u32 (304 : Int)] σ6 fun (v7 : Go.Value) (σ8 : Go.AI.AS) ↦
 Go.AI.tTup v7 fun (l9 : List Go.Value) ↦
 Go.AI.pSome l9[(0 : Nat)]? fun (u10 : Go.Value) ↦
 Go.AI.tI Go.IntKind.u32 u10 fun (n11 : Int) ↦
 Go.AI.tTup v7 fun (l12 : List Go.Value) ↦
 Go.AI.pSome l12[(1 : Nat)]? fun (u13 : Go.Value) ↦
 Go.AI.tI Go.IntKind.i64 u13 fun (n14 : Int) ↦ K (Go.Value.tuple (Array.mk [Go.Value.int Go.IntKind.u32 n11, Go.Value.int Go.IntKind.i64 n14])) σ8)) := by
 intros
 kernel_rfl

theorem s51rn : ∀ (T : Go.AI.Ct) (c : Nat) (σ : Go.AI.AS) (K : Go.Value → Go.AI.AS → Prop),
 Go.AI.fw Go.Proofs.Tryz.prog Go.AI.hintsS T (51 : Nat) [Go.Value.pointer (Option.some (Go.Addr.mk c (0 : Nat) Option.none)), Go.Value.int Go.IntKind.u32 (97 : Int)] σ K =
 T (101 : Nat) [Go.Value.pointer (Option.some (Go.Addr.mk c (0 : Nat) Option.none))] σ fun (v0 : Go.Value) (σ1 : Go.AI.AS) ↦
 Go.AI.tTup v0 fun (l2 : List Go.Value) ↦
 Go.AI.pSome l2[(0 : Nat)]? fun (u3 : Go.Value) ↦
 Go.AI.tI Go.IntKind.u32 u3 fun (n4 : Int) ↦
 Go.AI.tTup v0 fun (l5 : List Go.Value) ↦
 Go.AI.pSome l5[(1 : Nat)]? fun (u6 : Go.Value) ↦ Go.AI.tI Go.IntKind.i64 u6 fun (n7 : Int) ↦ K (Go.Value.tuple (Array.mk [Go.Value.int Go.IntKind.u32 n4, Go.Value.int Go.IntKind.i64 n7])) σ1 := by
 intros
 kernel_rfl

theorem s51re : ∀ (T : Go.AI.Ct) (c : Nat) (σ : Go.AI.AS) (K : Go.Value → Go.AI.AS → Prop),
 Go.AI.fw Go.Proofs.Tryz.prog Go.AI.hintsS T (51 : Nat) [Go.Value.pointer (Option.some (Go.Addr.mk c (0 : Nat) Option.none)), Go.Value.int Go.IntKind.u32 (103 : Int)] σ K =
 Go.AI.ldc σ (Go.Addr.mk c (0 : Nat) Option.none) fun (v0 : Go.Value) ↦
 Go.AI.tP v0 fun (b1 : Option Go.Addr) ↦
 Go.AI.ldc σ (Go.Addr.mk c ((0 : Nat) + (2 : Nat)) Option.none) fun (v2 : Go.Value) ↦
 Go.AI.tL (1 : Nat) v2 fun (s3 : Go.AI.Sl) ↦
 Go.AI.req ((0 : Int) < (↑(Go.AI.Sl.n s3) : Int))
 (Go.AI.pSome (Go.AI.Sl.a s3) fun (a4 : Go.Addr) ↦
 Go.AI.ldc σ (Go.AI.aadd a4 (Int.toNat (0 : Int) * Go.AI.szOf Go.Proofs.Tryz.prog (32 : Nat))) fun (v5 : Go.Value) ↦
 Go.AI.tI Go.IntKind.u32 v5 fun (n6 : Int) ↦
 T (54 : Nat) [Go.Value.pointer b1, Go.Value.int Go.IntKind.u32 n6, Go.Value.int Go.IntKind.i64 (3 : Int)] σ fun (v7 : Go.Value) (σ8 : Go.AI.AS) ↦
 Go.AI.tP v7 fun (b9 : Option Go.Addr) ↦
 Go.AI.ptrEq σ8 b9 Option.none fun (r10 : Bool) ↦
 Go.AI.bmatch r10 (K (Go.Value.tuple (Array.mk [Go.Value.int Go.IntKind.u32 (0 : Int), Go.Value.int Go.IntKind.i64 (0 : Int)])) σ8)
 (Go.AI.ldc σ8 (Go.Addr.mk c (0 : Nat) Option.none) fun (v11 : Go.Value) ↦
 Go.AI.tP v11 fun (b12 : Option Go.Addr) ↦
 Go.AI.pSome b12 fun (a13 : Go.Addr) ↦
 Go.AI.ldc σ8 (Go.Addr.mk (Go.Addr.block a13) (Go.Addr.off a13 + (3 : Nat)) Option.none) fun (v14 : Go.Value) ↦
 Go.AI.tP v14 fun (b15 : Option Go.Addr) ↦
 Go.AI.pSome b9 fun (a16 : Go.Addr) ↦
 Go.AI.ldc σ8 (Go.Addr.mk (Go.Addr.block a16) (Go.Addr.off a16 + (18 : Nat)) Option.none) fun (v17 : Go.Value) ↦
 Go.AI.tS v17 fun (b18 : ByteArray) ↦
 T (71 : Nat) [Go.Value.pointer b15, Go.Value.string b18] σ8 fun (v19 : Go.Value) (σ20 : Go.AI.AS) ↦
 Go.AI.tTup v19 fun (l21 : List Go.Value) ↦
 Go.AI.pSome l21[(0 : Nat)]? fun (u22 : Go.Value) ↦
 Go.AI.tL (1 : Nat) u22 fun (s23 : Go.AI.Sl) ↦
 Go.AI.tTup v19 fun (l24 : List Go.Value) ↦
 Go.AI.pSome l24[(1 : Nat)]? fun (u25 : Go.Value) ↦
 Go.AI.tB u25 fun (b26 : Bool) ↦
 Go.AI.bmatch b26 (K (Go.Value.tuple (Array.mk [Go.Value.int Go.IntKind.u32 (1 : Int), Go.Value.int Go.IntKind.i64 (0 : Int)])) σ20)
 (K (Go.Value.tuple (Array.mk [Go.Value.int Go.IntKind.u32 (0 : Int), Go.Value.int Go.IntKind.i64 (0 : Int)])) σ20))) := by
 intros
 kernel_rfl

theorem s50sf : ∀ (T : Go.AI.Ct) (c : Nat) (σ : Go.AI.AS) (K : Go.Value → Go.AI.AS → Prop),
 Go.AI.fw Go.Proofs.Tryz.prog Go.AI.hintsS T (50 : Nat) [Go.Value.pointer (Option.some (Go.Addr.mk c (0 : Nat) Option.none)), Go.Value.int Go.IntKind.u32 (66 : Int)] σ K =
 T (96 : Nat) [Go.Value.pointer (Option.some (Go.Addr.mk c (0 : Nat) Option.none)), Go.Value.bool Bool.false] σ fun (v0 : Go.Value) (σ1 : Go.AI.AS) ↦
 Go.AI.tI Go.IntKind.u32 v0 fun (n2 : Int) ↦ K (Go.Value.tuple (Array.mk [Go.Value.int Go.IntKind.u32 n2, Go.Value.int Go.IntKind.i64 (0 : Int)])) σ1 := by
 intros
 kernel_rfl

theorem s50sfw : ∀ (T : Go.AI.Ct) (c : Nat) (σ : Go.AI.AS) (K : Go.Value → Go.AI.AS → Prop),
 Go.AI.fw Go.Proofs.Tryz.prog Go.AI.hintsS T (50 : Nat) [Go.Value.pointer (Option.some (Go.Addr.mk c (0 : Nat) Option.none)), Go.Value.int Go.IntKind.u32 (312 : Int)] σ K =
 T (96 : Nat) [Go.Value.pointer (Option.some (Go.Addr.mk c (0 : Nat) Option.none)), Go.Value.bool Bool.true] σ fun (v0 : Go.Value) (σ1 : Go.AI.AS) ↦
 Go.AI.tI Go.IntKind.u32 v0 fun (n2 : Int) ↦ K (Go.Value.tuple (Array.mk [Go.Value.int Go.IntKind.u32 n2, Go.Value.int Go.IntKind.i64 (0 : Int)])) σ1 := by
 intros
 kernel_rfl

theorem s53gs : ∀ (T : Go.AI.Ct) (c : Nat) (σ : Go.AI.AS) (K : Go.Value → Go.AI.AS → Prop),
 Go.AI.fw Go.Proofs.Tryz.prog Go.AI.hintsS T (53 : Nat) [Go.Value.pointer (Option.some (Go.Addr.mk c (0 : Nat) Option.none)), Go.Value.int Go.IntKind.u32 (144 : Int)] σ K =
 Go.AI.ldc σ (Go.Addr.mk c (0 : Nat) Option.none) fun (v0 : Go.Value) ↦
 Go.AI.tP v0 fun (b1 : Option Go.Addr) ↦
 Go.AI.ldc σ (Go.Addr.mk c ((0 : Nat) + (2 : Nat)) Option.none) fun (v2 : Go.Value) ↦
 Go.AI.tL (1 : Nat) v2 fun (s3 : Go.AI.Sl) ↦
 Go.AI.req ((0 : Int) < (↑(Go.AI.Sl.n s3) : Int))
 (Go.AI.pSome (Go.AI.Sl.a s3) fun (a4 : Go.Addr) ↦
 Go.AI.ldc σ (Go.AI.aadd a4 (Int.toNat (0 : Int) * Go.AI.szOf Go.Proofs.Tryz.prog (32 : Nat))) fun (v5 : Go.Value) ↦
 Go.AI.tI Go.IntKind.u32 v5 fun (n6 : Int) ↦
 T (54 : Nat) [Go.Value.pointer b1, Go.Value.int Go.IntKind.u32 n6, Go.Value.int Go.IntKind.i64 (2 : Int)] σ fun (v7 : Go.Value) (σ8 : Go.AI.AS) ↦
 Go.AI.tP v7 fun (b9 : Option Go.Addr) ↦
 Go.AI.ptrEq σ8 b9 Option.none fun (r10 : Bool) ↦
 Go.AI.bmatch r10 (K (Go.Value.tuple (Array.mk [Go.Value.int Go.IntKind.u32 (4294967295 : Int), Go.Value.int Go.IntKind.i64 (0 : Int)])) σ8)
 (Go.AI.pSome b9 fun (a11 : Go.Addr) ↦
 Go.AI.ldc σ8 (Go.Addr.mk (Go.Addr.block a11) (Go.Addr.off a11 + (12 : Nat)) Option.none) fun (v12 : Go.Value) ↦
 Go.AI.tI Go.IntKind.u32 v12 fun (n13 : Int) ↦
 Go.AI.bmatch (n13 != (0 : Int)) (K (Go.Value.tuple (Array.mk [Go.Value.int Go.IntKind.u32 (4294967295 : Int), Go.Value.int Go.IntKind.i64 (0 : Int)])) σ8)
 (Go.AI.ldc σ8 (Go.Addr.mk c (0 : Nat) Option.none) fun (v14 : Go.Value) ↦
 Go.AI.tP v14 fun (b15 : Option Go.Addr) ↦
 Go.AI.pSome b15 fun (a16 : Go.Addr) ↦
 Go.AI.ldc σ8 (Go.Addr.mk (Go.Addr.block a16) (Go.Addr.off a16 + (3 : Nat)) Option.none) fun (v17 : Go.Value) ↦
 Go.AI.tP v17 fun (b18 : Option Go.Addr) ↦
 Go.AI.pSome b9 fun (a19 : Go.Addr) ↦
 Go.AI.ldc σ8 (Go.Addr.mk (Go.Addr.block a19) (Go.Addr.off a19 + (13 : Nat)) Option.none) fun (v20 : Go.Value) ↦
 Go.AI.tI Go.IntKind.i64 v20 fun (n21 : Int) ↦
 T (81 : Nat) [Go.Value.pointer b18, Go.Value.int Go.IntKind.i64 n21] σ8 fun (v22 : Go.Value) (σ23 : Go.AI.AS) ↦
 Go.AI.tTup v22 fun (l24 : List Go.Value) ↦
 Go.AI.pSome l24[(0 : Nat)]? fun (u25 : Go.Value) ↦
 Go.AI.tI Go.IntKind.u32 u25 fun (n26 : Int) ↦
 Go.AI.tTup v22 fun (l27 : List Go.Value) ↦
 Go.AI.pSome l27[(1 : Nat)]? fun (u28 : Go.Value) ↦
 Go.AI.tB u28 fun (b29 : Bool) ↦
 Go.AI.tTup v22 fun (l30 : List Go.Value) ↦
 Go.AI.pSome l30[(2 : Nat)]? fun (u31 : Go.Value) ↦
 Go.AI.tI Go.IntKind.i64 u31 fun (n32 : Int) ↦
 Go.AI.bmatch (!b29) (K (Go.Value.tuple (Array.mk [Go.Value.int Go.IntKind.u32 (4294967295 : Int), Go.Value.int Go.IntKind.i64 (0 : Int)])) σ23)
 (T (82 : Nat) [Go.Value.int Go.IntKind.u32 n26] σ23 fun (v33 : Go.Value) (σ34 : Go.AI.AS) ↦
 Go.AI.tI Go.IntKind.u32 v33 fun (n35 : Int) ↦
 K (Go.Value.tuple (Array.mk [Go.Value.int Go.IntKind.u32 n35, Go.Value.int Go.IntKind.i64 (0 : Int)])) σ34)))) := by
 intros
 kernel_rfl

theorem s53gsw : ∀ (T : Go.AI.Ct) (c : Nat) (σ : Go.AI.AS) (K : Go.Value → Go.AI.AS → Prop),
 Go.AI.fw Go.Proofs.Tryz.prog Go.AI.hintsS T (53 : Nat) [Go.Value.pointer (Option.some (Go.Addr.mk c (0 : Nat) Option.none)), Go.Value.int Go.IntKind.u32 (304 : Int)] σ K =
 Go.AI.ldc σ (Go.Addr.mk c (0 : Nat) Option.none) fun (v0 : Go.Value) ↦
 Go.AI.tP v0 fun (b1 : Option Go.Addr) ↦
 Go.AI.ldc σ (Go.Addr.mk c ((0 : Nat) + (2 : Nat)) Option.none) fun (v2 : Go.Value) ↦
 Go.AI.tL (1 : Nat) v2 fun (s3 : Go.AI.Sl) ↦
 Go.AI.req ((0 : Int) < (↑(Go.AI.Sl.n s3) : Int))
 (Go.AI.pSome (Go.AI.Sl.a s3) fun (a4 : Go.Addr) ↦
 Go.AI.ldc σ (Go.AI.aadd a4 (Int.toNat (0 : Int) * Go.AI.szOf Go.Proofs.Tryz.prog (32 : Nat))) fun (v5 : Go.Value) ↦
 Go.AI.tI Go.IntKind.u32 v5 fun (n6 : Int) ↦
 T (54 : Nat) [Go.Value.pointer b1, Go.Value.int Go.IntKind.u32 n6, Go.Value.int Go.IntKind.i64 (2 : Int)] σ fun (v7 : Go.Value) (σ8 : Go.AI.AS) ↦
 Go.AI.tP v7 fun (b9 : Option Go.Addr) ↦
 Go.AI.ptrEq σ8 b9 Option.none fun (r10 : Bool) ↦
 Go.AI.bmatch r10 (K (Go.Value.tuple (Array.mk [Go.Value.int Go.IntKind.u32 (4294967295 : Int), Go.Value.int Go.IntKind.i64 (0 : Int)])) σ8)
 (Go.AI.pSome b9 fun (a11 : Go.Addr) ↦
 Go.AI.ldc σ8 (Go.Addr.mk (Go.Addr.block a11) (Go.Addr.off a11 + (12 : Nat)) Option.none) fun (v12 : Go.Value) ↦
 Go.AI.tI Go.IntKind.u32 v12 fun (n13 : Int) ↦
 Go.AI.bmatch (n13 != (0 : Int)) (K (Go.Value.tuple (Array.mk [Go.Value.int Go.IntKind.u32 (4294967295 : Int), Go.Value.int Go.IntKind.i64 (0 : Int)])) σ8)
 (Go.AI.ldc σ8 (Go.Addr.mk c (0 : Nat) Option.none) fun (v14 : Go.Value) ↦
 Go.AI.tP v14 fun (b15 : Option Go.Addr) ↦
 Go.AI.pSome b15 fun (a16 : Go.Addr) ↦
 Go.AI.ldc σ8 (Go.Addr.mk (Go.Addr.block a16) (Go.Addr.off a16 + (3 : Nat)) Option.none) fun (v17 : Go.Value) ↦
 Go.AI.tP v17 fun (b18 : Option Go.Addr) ↦
 Go.AI.pSome b9 fun (a19 : Go.Addr) ↦
 Go.AI.ldc σ8 (Go.Addr.mk (Go.Addr.block a19) (Go.Addr.off a19 + (13 : Nat)) Option.none) fun (v20 : Go.Value) ↦
 Go.AI.tI Go.IntKind.i64 v20 fun (n21 : Int) ↦
 T (81 : Nat) [Go.Value.pointer b18, Go.Value.int Go.IntKind.i64 n21] σ8 fun (v22 : Go.Value) (σ23 : Go.AI.AS) ↦
 Go.AI.tTup v22 fun (l24 : List Go.Value) ↦
 Go.AI.pSome l24[(0 : Nat)]? fun (u25 : Go.Value) ↦
 Go.AI.tI Go.IntKind.u32 u25 fun (n26 : Int) ↦
 Go.AI.tTup v22 fun (l27 : List Go.Value) ↦
 Go.AI.pSome l27[(1 : Nat)]? fun (u28 : Go.Value) ↦
 Go.AI.tB u28 fun (b29 : Bool) ↦
 Go.AI.tTup v22 fun (l30 : List Go.Value) ↦
 Go.AI.pSome l30[(2 : Nat)]? fun (u31 : Go.Value) ↦
 Go.AI.tI Go.IntKind.i64 u31 fun (n32 : Int) ↦
 Go.AI.bmatch (!b29) (K (Go.Value.tuple (Array.mk [Go.Value.int Go.IntKind.u32 (4294967295 : Int), Go.Value.int Go.IntKind.i64 (0 : Int)])) σ23)
 (K (Go.Value.tuple (Array.mk [Go.Value.int Go.IntKind.u32 n26, Go.Value.int Go.IntKind.i64 (0 : Int)])) σ23)))) := by
 intros
 kernel_rfl

end Go.AI
end
section
/- The conditions ahead of the calls of the program's functions, reckoned as far as they go (equations that the kernel checks); no condition. -/
set_option maxRecDepth 1000000
set_option linter.unusedVariables false
namespace Go.AI
open Go.Proofs
theorem s101 : ∀ (T : Go.AI.Ct) (c : Nat) (σ : Go.AI.AS) (K : Go.Value → Go.AI.AS → Prop),
 Go.AI.fw Go.Proofs.Tryz.prog Go.AI.hintsS T (101 : Nat) [Go.Value.pointer (Option.some (Go.Addr.mk c (0 : Nat) Option.none))] σ K =
 Go.AI.newAt σ (Go.AI.AObj.row Go.AI.RK.rw []) fun (i0 : Nat) (σ1 : Go.AI.AS) ↦
 Go.AI.ALoop (Go.AI.fl Go.Proofs.Tryz.prog Go.AI.hintsS T (101 : Nat) [Bool.true, Bool.true, Bool.false, Bool.true, Bool.false] [] K)
 [((0 : Nat), Option.some (Go.Value.pointer (Option.some (Go.Addr.mk c (0 : Nat) Option.none)))),
 ((4 : Nat), Option.some (Go.Value.slice (Option.some (Go.Addr.mk i0 (0 : Nat) Option.none)) (0 : Nat) (1 : Nat))), ((12 : Nat), Option.some (Go.Value.int Go.IntKind.u32 (0 : Int)))]
 σ1 := by
 intros
 kernel_rfl

theorem s101l : ∀ (T : Go.AI.Ct) (c : Nat) (namea : Option Go.Addr) (namen namee : Nat) (r12_1 : Int) (X : Go.AI.Regs → Go.AI.AS → Prop) (σ : Go.AI.AS) (K : Go.Value → Go.AI.AS → Prop),
 Go.AI.fl Go.Proofs.Tryz.prog Go.AI.hintsS T (101 : Nat) [Bool.true, Bool.true, Bool.false, Bool.true, Bool.false] [] K X
 [((0 : Nat), Option.some (Go.Value.pointer (Option.some (Go.Addr.mk c (0 : Nat) Option.none)))), ((4 : Nat), Option.some (Go.Value.slice namea namen namee)),
 ((12 : Nat), Option.some (Go.Value.int Go.IntKind.u32 r12_1))]
 σ =
 Go.AI.bmatch (Decidable.decide (r12_1 < (33 : Int)))
 (Go.AI.ldc σ (Go.Addr.mk c ((0 : Nat) + (1 : Nat)) Option.none) fun (v0 : Go.Value) ↦
 Go.AI.tIf v0
 (fun (t1 : Nat) (u2 : Go.Value) ↦
 Go.AI.ldc σ (Go.Addr.mk c ((0 : Nat) + (2 : Nat)) Option.none) fun (v3 : Go.Value) ↦
 Go.AI.tL (1 : Nat) v3 fun (s4 : Go.AI.Sl) ↦
 Go.AI.req ((1 : Int) < (↑(Go.AI.Sl.n s4) : Int))
 (Go.AI.pSome (Go.AI.Sl.a s4) fun (a5 : Go.Addr) ↦
 Go.AI.ldc σ (Go.AI.aadd a5 (Int.toNat (1 : Int) * Go.AI.szOf Go.Proofs.Tryz.prog (32 : Nat))) fun (v6 : Go.Value) ↦
 Go.AI.tI Go.IntKind.u32 v6 fun (n7 : Int) ↦
 Go.AI.pSome (Go.AI.methodOf Go.Proofs.Tryz.prog t1 "Get") fun (f8 : Go.FuncId) ↦
 T f8 [u2, Go.Value.int Go.IntKind.u32 (Go.IntKind.wrap Go.IntKind.u32 (n7 + r12_1)), Go.Value.int Go.IntKind.i64 (1 : Int)] σ fun (v9 : Go.Value) (σ10 : Go.AI.AS) ↦
 Go.AI.tTup v9 fun (l11 : List Go.Value) ↦
 Go.AI.pSome l11[(0 : Nat)]? fun (u12 : Go.Value) ↦
 Go.AI.tI Go.IntKind.u32 u12 fun (n13 : Int) ↦
 Go.AI.tTup v9 fun (l14 : List Go.Value) ↦
 Go.AI.pSome l14[(1 : Nat)]? fun (u15 : Go.Value) ↦
 Go.AI.tI Go.IntKind.i64 u15 fun (n16 : Int) ↦
 Go.AI.bmatch (n16 != (0 : Int)) (K (Go.Value.tuple (Array.mk [Go.Value.int Go.IntKind.u32 (0 : Int), Go.Value.int Go.IntKind.i64 n16])) σ10)
 (Go.AI.bmatch (n13 == (0 : Int))
 (Go.AI.ldc σ10 (Go.Addr.mk c (0 : Nat) Option.none) fun (v17 : Go.Value) ↦
 Go.AI.tP v17 fun (b18 : Option Go.Addr) ↦
 Go.AI.pSome b18 fun (a19 : Go.Addr) ↦
 Go.AI.ldc σ10 (Go.Addr.mk (Go.Addr.block a19) (Go.Addr.off a19 + (1 : Nat)) Option.none) fun (v20 : Go.Value) ↦
 Go.AI.tM v20 fun (b21 : Option Nat) ↦
 Go.AI.rngM σ10 b21 fun (j22 : Nat) (σ23 : Go.AI.AS) ↦
 Go.AI.ALoop (Go.AI.fl Go.Proofs.Tryz.prog Go.AI.hintsS T (101 : Nat) [Bool.true, Bool.true, Bool.true, Bool.true, Bool.false, Bool.true, Bool.false] [] K)
 [((0 : Nat), Option.some (Go.Value.pointer (Option.some (Go.Addr.mk c (0 : Nat) Option.none)))),
 ((4 : Nat), Option.some (Go.Value.slice namea namen namee)), ((8 : Nat), Option.some (Go.Value.int Go.IntKind.i64 (0 : Int))),
 ((51 : Nat), Option.some (Go.Value.pointer (Option.some (Go.Addr.mk j22 (0 : Nat) Option.none))))]
 σ23)
 (Go.AI.newAt σ10 (Go.AI.AObj.row Go.AI.RK.rw [Go.Value.int Go.IntKind.u8 (Go.IntKind.wrap Go.IntKind.u8 n13)]) fun (i24 : Nat) (σ25 : Go.AI.AS) ↦
 Go.AI.chk (Go.AI.nilOr namea namee (Go.AI.szOf Go.Proofs.Tryz.prog (5 : Nat)))
 (Go.AI.lds σ25 (Go.Addr.mk i24 (0 : Nat) Option.none) (1 : Nat) fun (l26 : List Go.Value) ↦
 Go.AI.appendTo σ25 (1 : Nat) (1 : Nat) (Go.AI.Sl.mk namea namen) l26 (1 : Nat) fun (s27 : Go.AI.Sl) (σ28 : Go.AI.AS) ↦
 X
 [((0 : Nat), Option.some (Go.Value.pointer (Option.some (Go.Addr.mk c (0 : Nat) Option.none)))),
 ((4 : Nat), Option.some (Go.Value.slice (Go.AI.Sl.a s27) (Go.AI.Sl.n s27) (1 : Nat))),
 ((12 : Nat), Option.some (Go.Value.int Go.IntKind.u32 (Go.IntKind.wrap Go.IntKind.u32 (r12_1 + (1 : Int)))))]
 σ28)))))
 (Go.AI.ldc σ (Go.Addr.mk c ((0 : Nat) + (2 : Nat)) Option.none) fun (v29 : Go.Value) ↦
 Go.AI.tL (1 : Nat) v29 fun (s30 : Go.AI.Sl) ↦
 Go.AI.req ((1 : Int) < (↑(Go.AI.Sl.n s30) : Int))
 (Go.AI.pSome (Go.AI.Sl.a s30) fun (a31 : Go.Addr) ↦
 Go.AI.ldc σ (Go.AI.aadd a31 (Int.toNat (1 : Int) * Go.AI.szOf Go.Proofs.Tryz.prog (32 : Nat))) fun (v32 : Go.Value) ↦ Go.AI.tI Go.IntKind.u32 v32 fun (n33 : Int) ↦ False)))
 (Go.AI.ldc σ (Go.Addr.mk c (0 : Nat) Option.none) fun (v34 : Go.Value) ↦
 Go.AI.tP v34 fun (b35 : Option Go.Addr) ↦
 Go.AI.pSome b35 fun (a36 : Go.Addr) ↦
 Go.AI.ldc σ (Go.Addr.mk (Go.Addr.block a36) (Go.Addr.off a36 + (1 : Nat)) Option.none) fun (v37 : Go.Value) ↦
 Go.AI.tM v37 fun (b38 : Option Nat) ↦
 Go.AI.rngM σ b38 fun (j39 : Nat) (σ40 : Go.AI.AS) ↦
 Go.AI.ALoop (Go.AI.fl Go.Proofs.Tryz.prog Go.AI.hintsS T (101 : Nat) [Bool.true, Bool.true, Bool.true, Bool.true, Bool.false, Bool.true, Bool.false] [] K)
 [((0 : Nat), Option.some (Go.Value.pointer (Option.some (Go.Addr.mk c (0 : Nat) Option.none)))), ((4 : Nat), Option.some (Go.Value.slice namea namen namee)),
 ((8 : Nat), Option.some (Go.Value.int Go.IntKind.i64 (0 : Int))), ((51 : Nat), Option.some (Go.Value.pointer (Option.some (Go.Addr.mk j39 (0 : Nat) Option.none))))]
 σ40) := by
 intros
 kernel_rfl

theorem s101l1 : ∀ (T : Go.AI.Ct) (c : Nat) (namea : Option Go.Addr) (namen namee : Nat) (n : Int) (r51_1 : Nat) (X : Go.AI.Regs → Go.AI.AS → Prop) (σ : Go.AI.AS) (K : Go.Value → Go.AI.AS → Prop),
 Go.AI.fl Go.Proofs.Tryz.prog Go.AI.hintsS T (101 : Nat) [Bool.true, Bool.true, Bool.true, Bool.true, Bool.false, Bool.true, Bool.false] [] K X
 [((0 : Nat), Option.some (Go.Value.pointer (Option.some (Go.Addr.mk c (0 : Nat) Option.none)))), ((4 : Nat), Option.some (Go.Value.slice namea namen namee)),
 ((8 : Nat), Option.some (Go.Value.int Go.IntKind.i64 n)), ((51 : Nat), Option.some (Go.Value.pointer (Option.some (Go.Addr.mk r51_1 (0 : Nat) Option.none))))]
 σ =
 Go.AI.mnext σ r51_1 fun (r0 : Option (Go.Value × Go.Value)) (σ1 : Go.AI.AS) ↦
 Go.AI.onNx r0
 (fun (k2 v3 : Go.Value) ↦
 Go.AI.mentry σ1 r51_1 fun (k4 v5 : Go.Value) ↦
 Go.AI.tP v5 fun (b6 : Option Go.Addr) ↦
 Go.AI.pSome b6 fun (a7 : Go.Addr) ↦
 Go.AI.ldc σ1 (Go.Addr.add a7 (0 : Nat)) fun (v8 : Go.Value) ↦
 Go.AI.tI Go.IntKind.i64 v8 fun (n9 : Int) ↦
 Go.AI.bmatch (n9 == (3 : Int))
 (X
 [((0 : Nat), Option.some (Go.Value.pointer (Option.some (Go.Addr.mk c (0 : Nat) Option.none)))), ((4 : Nat), Option.some (Go.Value.slice namea namen namee)),
 ((8 : Nat), Option.some (Go.Value.int Go.IntKind.i64 (Go.IntKind.wrap Go.IntKind.i64 (n + (1 : Int))))),
 ((51 : Nat), Option.some (Go.Value.pointer (Option.some (Go.Addr.mk r51_1 (0 : Nat) Option.none))))]
 σ1)
 (X
 [((0 : Nat), Option.some (Go.Value.pointer (Option.some (Go.Addr.mk c (0 : Nat) Option.none)))), ((4 : Nat), Option.some (Go.Value.slice namea namen namee)),
 ((8 : Nat), Option.some (Go.Value.int Go.IntKind.i64 n)), ((51 : Nat), Option.some (Go.Value.pointer (Option.some (Go.Addr.mk r51_1 (0 : Nat) Option.none))))]
 σ1))
 (Go.AI.bmatch ((↑namen : Int) == (0 : Int)) (K (Go.Value.tuple (Array.mk [Go.Value.int Go.IntKind.u32 (0 : Int), Go.Value.int Go.IntKind.i64 (0 : Int)])) σ1)
 (Go.AI.bmatch (Decidable.decide ((↑namen : Int) > (32 : Int))) (K (Go.Value.tuple (Array.mk [Go.Value.int Go.IntKind.u32 (0 : Int), Go.Value.int Go.IntKind.i64 (0 : Int)])) σ1)
 (Go.AI.bmatch (Decidable.decide (n ≥ (64 : Int))) (K (Go.Value.tuple (Array.mk [Go.Value.int Go.IntKind.u32 (0 : Int), Go.Value.int Go.IntKind.i64 (0 : Int)])) σ1)
 (Go.AI.ldc σ1 (Go.Addr.mk c (0 : Nat) Option.none) fun (v10 : Go.Value) ↦
 Go.AI.tP v10 fun (b11 : Option Go.Addr) ↦
 Go.AI.ldc σ1 (Go.Addr.mk c ((0 : Nat) + (2 : Nat)) Option.none) fun (v12 : Go.Value) ↦
 Go.AI.tL (1 : Nat) v12 fun (s13 : Go.AI.Sl) ↦
 Go.AI.req ((2 : Int) < (↑(Go.AI.Sl.n s13) : Int))
 (Go.AI.pSome (Go.AI.Sl.a s13) fun (a14 : Go.Addr) ↦
 Go.AI.ldc σ1 (Go.AI.aadd a14 (Int.toNat (2 : Int) * Go.AI.szOf Go.Proofs.Tryz.prog (32 : Nat))) fun (v15 : Go.Value) ↦
 Go.AI.tI Go.IntKind.u32 v15 fun (n16 : Int) ↦
 Go.AI.bts σ1 (Go.AI.Sl.mk namea namen) fun (l17 : List UInt8) ↦
 Go.AI.newAt σ1
 (Go.AI.AObj.row Go.AI.RK.plain
 [Go.Value.int Go.IntKind.i64 (3 : Int), Go.Value.int Go.IntKind.u32 n16, Go.Value.int Go.IntKind.i64 (0 : Int), Go.Value.int Go.IntKind.u32 (0 : Int),
 Go.Value.int Go.IntKind.u32 (0 : Int), Go.Value.slice Option.none (0 : Nat) (0 : Nat), Go.Value.map Option.none, Go.Value.int Go.IntKind.u32 (0 : Int),
 Go.Value.int Go.IntKind.u32 (0 : Int), Go.Value.int Go.IntKind.i64 (0 : Int), Go.Value.int Go.IntKind.u32 (0 : Int), Go.Value.int Go.IntKind.u32 (0 : Int),
 Go.Value.int Go.IntKind.u32 (0 : Int), Go.Value.int Go.IntKind.i64 (0 : Int), Go.Value.int Go.IntKind.u32 (0 : Int), Go.Value.int Go.IntKind.i64 (0 : Int), Go.Value.bool Bool.false,
 Go.Value.int Go.IntKind.u32 (0 : Int), Go.Value.string (ByteArray.mk (List.toArray l17))])
 fun (i18 : Nat) (σ19 : Go.AI.AS) ↦
 Go.AI.ldc σ19 (Go.Addr.mk c (0 : Nat) Option.none) fun (v20 : Go.Value) ↦
 Go.AI.tP v20 fun (b21 : Option Go.Addr) ↦
 Go.Value.pointer b11 = Go.Value.pointer b21 ∧
 T (157 : Nat) [Go.Value.pointer b11, Go.Value.pointer (Option.some (Go.Addr.mk i18 (0 : Nat) Option.none))] σ19 fun (v22 : Go.Value) (σ23 : Go.AI.AS) ↦
 Go.AI.tI Go.IntKind.u32 v22 fun (n24 : Int) ↦ K (Go.Value.tuple (Array.mk [Go.Value.int Go.IntKind.u32 n24, Go.Value.int Go.IntKind.i64 (0 : Int)])) σ23))))) := by
 intros
 kernel_rfl

theorem s96 : ∀ (T : Go.AI.Ct) (c : Nat) (wide : Bool) (σ : Go.AI.AS) (K : Go.Value → Go.AI.AS → Prop),
 Go.AI.fw Go.Proofs.Tryz.prog Go.AI.hintsS T (96 : Nat) [Go.Value.pointer (Option.some (Go.Addr.mk c (0 : Nat) Option.none)), Go.Value.bool wide] σ K =
 Go.AI.ldc σ (Go.Addr.mk c (0 : Nat) Option.none) fun (v0 : Go.Value) ↦
 Go.AI.tP v0 fun (b1 : Option Go.Addr) ↦
 Go.AI.ldc σ (Go.Addr.mk c ((0 : Nat) + (2 : Nat)) Option.none) fun (v2 : Go.Value) ↦
 Go.AI.tL (1 : Nat) v2 fun (s3 : Go.AI.Sl) ↦
 Go.AI.req ((0 : Int) < (↑(Go.AI.Sl.n s3) : Int))
 (Go.AI.pSome (Go.AI.Sl.a s3) fun (a4 : Go.Addr) ↦
 Go.AI.ldc σ (Go.AI.aadd a4 (Int.toNat (0 : Int) * Go.AI.szOf Go.Proofs.Tryz.prog (32 : Nat))) fun (v5 : Go.Value) ↦
 Go.AI.tI Go.IntKind.u32 v5 fun (n6 : Int) ↦
 T (54 : Nat) [Go.Value.pointer b1, Go.Value.int Go.IntKind.u32 n6, Go.Value.int Go.IntKind.i64 (3 : Int)] σ fun (v7 : Go.Value) (σ8 : Go.AI.AS) ↦
 Go.AI.tP v7 fun (b9 : Option Go.Addr) ↦
 Go.AI.ptrEq σ8 b9 Option.none fun (r10 : Bool) ↦
 Go.AI.bmatch r10 (K (Go.Value.int Go.IntKind.u32 (0 : Int)) σ8)
 (Go.AI.ldc σ8 (Go.Addr.mk c ((0 : Nat) + (2 : Nat)) Option.none) fun (v11 : Go.Value) ↦
 Go.AI.tL (1 : Nat) v11 fun (s12 : Go.AI.Sl) ↦
 Go.AI.req ((1 : Int) < (↑(Go.AI.Sl.n s12) : Int))
 (Go.AI.pSome (Go.AI.Sl.a s12) fun (a13 : Go.Addr) ↦
 Go.AI.ldc σ8 (Go.AI.aadd a13 (Int.toNat (1 : Int) * Go.AI.szOf Go.Proofs.Tryz.prog (32 : Nat))) fun (v14 : Go.Value) ↦
 Go.AI.tI Go.IntKind.u32 v14 fun (n15 : Int) ↦
 Go.AI.bmatch (Decidable.decide (n15 > (5 : Int))) (K (Go.Value.int Go.IntKind.u32 (0 : Int)) σ8)
 (Go.AI.ldc σ8 (Go.Addr.mk c (0 : Nat) Option.none) fun (v16 : Go.Value) ↦
 Go.AI.tP v16 fun (b17 : Option Go.Addr) ↦
 Go.AI.pSome b17 fun (a18 : Go.Addr) ↦
 Go.AI.ldc σ8 (Go.Addr.mk (Go.Addr.block a18) (Go.Addr.off a18 + (3 : Nat)) Option.none) fun (v19 : Go.Value) ↦
 Go.AI.tP v19 fun (b20 : Option Go.Addr) ↦
 Go.AI.pSome b9 fun (a21 : Go.Addr) ↦
 Go.AI.ldc σ8 (Go.Addr.mk (Go.Addr.block a21) (Go.Addr.off a21 + (18 : Nat)) Option.none) fun (v22 : Go.Value) ↦
 Go.AI.tS v22 fun (b23 : ByteArray) ↦
 Go.AI.ldc σ8 (Go.Addr.mk c ((0 : Nat) + (2 : Nat)) Option.none) fun (v24 : Go.Value) ↦
 Go.AI.tL (1 : Nat) v24 fun (s25 : Go.AI.Sl) ↦
 Go.AI.req ((1 : Int) < (↑(Go.AI.Sl.n s25) : Int))
 (Go.AI.pSome (Go.AI.Sl.a s25) fun (a26 : Go.Addr) ↦
 Go.AI.ldc σ8 (Go.AI.aadd a26 (Int.toNat (1 : Int) * Go.AI.szOf Go.Proofs.Tryz.prog (32 : Nat))) fun (v27 : Go.Value) ↦
 Go.AI.tI Go.IntKind.u32 v27 fun (n28 : Int) ↦
 T (156 : Nat) [Go.Value.pointer b20, Go.Value.string b23, Go.Value.int Go.IntKind.i64 (Go.IntKind.wrap Go.IntKind.i64 n28), Go.Value.bool wide] σ8
 fun (v29 : Go.Value) (σ30 : Go.AI.AS) ↦
 Go.AI.tTup v29 fun (l31 : List Go.Value) ↦
 Go.AI.pSome l31[(0 : Nat)]? fun (u32 : Go.Value) ↦
 Go.AI.tI Go.IntKind.i64 u32 fun (n33 : Int) ↦
 Go.AI.tTup v29 fun (l34 : List Go.Value) ↦
 Go.AI.pSome l34[(1 : Nat)]? fun (u35 : Go.Value) ↦
 Go.AI.tI Go.IntKind.i64 u35 fun (n36 : Int) ↦
 Go.AI.bmatch (n36 != (0 : Int)) (K (Go.Value.int Go.IntKind.u32 (0 : Int)) σ30)
 (Go.AI.ldc σ30 (Go.Addr.mk c (0 : Nat) Option.none) fun (v37 : Go.Value) ↦
 Go.AI.tP v37 fun (b38 : Option Go.Addr) ↦
 Go.AI.ldc σ30 (Go.Addr.mk c ((0 : Nat) + (2 : Nat)) Option.none) fun (v39 : Go.Value) ↦
 Go.AI.tL (1 : Nat) v39 fun (s40 : Go.AI.Sl) ↦
 Go.AI.req ((2 : Int) < (↑(Go.AI.Sl.n s40) : Int))
 (Go.AI.pSome (Go.AI.Sl.a s40) fun (a41 : Go.Addr) ↦
 Go.AI.ldc σ30 (Go.AI.aadd a41 (Int.toNat (2 : Int) * Go.AI.szOf Go.Proofs.Tryz.prog (32 : Nat))) fun (v42 : Go.Value) ↦
 Go.AI.tI Go.IntKind.u32 v42 fun (n43 : Int) ↦
 Go.AI.newAt σ30
 (Go.AI.AObj.row Go.AI.RK.plain
 [Go.Value.int Go.IntKind.i64 (2 : Int), Go.Value.int Go.IntKind.u32 n43, Go.Value.int Go.IntKind.i64 (0 : Int),
 Go.Value.int Go.IntKind.u32 (0 : Int), Go.Value.int Go.IntKind.u32 (0 : Int),
 Go.Value.slice Option.none (0 : Nat) (0 : Nat), Go.Value.map Option.none, Go.Value.int Go.IntKind.u32 (0 : Int),
 Go.Value.int Go.IntKind.u32 (0 : Int), Go.Value.int Go.IntKind.i64 (0 : Int),
 Go.Value.int Go.IntKind.u32 (0 : Int), Go.Value.int Go.IntKind.u32 (0 : Int),
 Go.Value.int Go.IntKind.u32 (0 : Int), Go.Value.int Go.IntKind.i64 n33, Go.Value.int Go.IntKind.u32 (0 : Int),
 Go.Value.int Go.IntKind.i64 (0 : Int), Go.Value.bool Bool.false, Go.Value.int Go.IntKind.u32 (0 : Int),
 Go.Value.string (ByteArray.mk #[])])
 fun (i44 : Nat) (σ45 : Go.AI.AS) ↦
 Go.AI.ldc σ45 (Go.Addr.mk c (0 : Nat) Option.none) fun (v46 : Go.Value) ↦
 Go.AI.tP v46 fun (b47 : Option Go.Addr) ↦
 Go.Value.pointer b38 = Go.Value.pointer b47 ∧
 T (157 : Nat) [Go.Value.pointer b38, Go.Value.pointer (Option.some (Go.Addr.mk i44 (0 : Nat) Option.none))]
 σ45 fun (v48 : Go.Value) (σ49 : Go.AI.AS) ↦
 Go.AI.tI Go.IntKind.u32 v48 fun (n50 : Int) ↦ K (Go.Value.int Go.IntKind.u32 n50) σ49))))))) := by
 intros
 kernel_rfl

theorem s26 : ∀ (T : Go.AI.Ct) (g : Nat) (name : ByteArray) (σ : Go.AI.AS) (K : Go.Value → Go.AI.AS → Prop),
 Go.AI.fw Go.Proofs.Tryz.prog Go.AI.hintsS T (26 : Nat) [Go.Value.pointer (Option.some (Go.Addr.mk g (0 : Nat) Option.none)), Go.Value.string name] σ K =
 Go.AI.ldc σ (Go.Addr.mk g ((0 : Nat) + (3 : Nat)) Option.none) fun (v0 : Go.Value) ↦
 Go.AI.tP v0 fun (b1 : Option Go.Addr) ↦
 T (71 : Nat) [Go.Value.pointer b1, Go.Value.string name] σ fun (v2 : Go.Value) (σ3 : Go.AI.AS) ↦
 Go.AI.tTup v2 fun (l4 : List Go.Value) ↦
 Go.AI.pSome l4[(0 : Nat)]? fun (u5 : Go.Value) ↦
 Go.AI.tL (1 : Nat) u5 fun (s6 : Go.AI.Sl) ↦
 Go.AI.tTup v2 fun (l7 : List Go.Value) ↦
 Go.AI.pSome l7[(1 : Nat)]? fun (u8 : Go.Value) ↦ Go.AI.tB u8 fun (b9 : Bool) ↦ K (Go.Value.tuple (Array.mk [Go.Value.slice (Go.AI.Sl.a s6) (Go.AI.Sl.n s6) (1 : Nat), Go.Value.bool b9])) σ3 := by
 intros
 kernel_rfl

theorem s6 : ∀ (T : Go.AI.Ct) (name : ByteArray) (la : Option Go.Addr) (ln : Nat) (r2_1 : Bool) (σ : Go.AI.AS) (K : Go.Value → Go.AI.AS → Prop),
 Go.AI.fw Go.Proofs.Tryz.prog Go.AI.hintsS T (6 : Nat) [Go.Value.string name, Go.Value.slice la ln (1 : Nat), Go.Value.bool r2_1] σ K =
 Go.AI.bmatch (Decidable.decide ((↑ln : Int) > (300 : Int))) (T (12 : Nat) [] σ fun (v0 : Go.Value) (σ1 : Go.AI.AS) ↦ Go.AI.tB v0 fun (b2 : Bool) ↦ K (Go.Value.bool b2) σ1)
 (Go.AI.bmatch (Decidable.decide ((↑(ByteArray.size name) : Int) > (100 : Int))) (T (12 : Nat) [] σ fun (v3 : Go.Value) (σ4 : Go.AI.AS) ↦ Go.AI.tB v3 fun (b5 : Bool) ↦ K (Go.Value.bool b5) σ4)
 (Go.AI.ALoop (Go.AI.fl Go.Proofs.Tryz.prog Go.AI.hintsS T (6 : Nat) [Bool.true, Bool.true, Bool.true, Bool.false, Bool.true, Bool.false] [] K)
 [((0 : Nat), Option.some (Go.Value.string name)), ((1 : Nat), Option.some (Go.Value.slice la ln (1 : Nat))), ((2 : Nat), Option.some (Go.Value.bool r2_1)),
 ((7 : Nat), Option.some (Go.Value.bool Bool.false)), ((8 : Nat), Option.some (Go.Value.int Go.IntKind.i64 (0 : Int)))]
 σ)) := by
 intros
 kernel_rfl

theorem s6l : ∀ (T : Go.AI.Ct) (name : ByteArray) (la : Option Go.Addr) (ln le : Nat) (r2_1 zero : Bool) (i : Int) (X : Go.AI.Regs → Go.AI.AS → Prop) (σ : Go.AI.AS) (K : Go.Value → Go.AI.AS → Prop),
 Go.AI.fl Go.Proofs.Tryz.prog Go.AI.hintsS T (6 : Nat) [Bool.true, Bool.true, Bool.true, Bool.false, Bool.true, Bool.false] [] K X
 [((0 : Nat), Option.some (Go.Value.string name)), ((1 : Nat), Option.some (Go.Value.slice la ln le)), ((2 : Nat), Option.some (Go.Value.bool r2_1)), ((7 : Nat), Option.some (Go.Value.bool zero)),
 ((8 : Nat), Option.some (Go.Value.int Go.IntKind.i64 i))]
 σ =
 Go.AI.bmatch (Decidable.decide (i < (↑(ByteArray.size name) : Int)))
 (Go.AI.bmatch zero
 (X
 [((0 : Nat), Option.some (Go.Value.string name)), ((1 : Nat), Option.some (Go.Value.slice la ln le)), ((2 : Nat), Option.some (Go.Value.bool r2_1)), ((7 : Nat), Option.some (Go.Value.bool Bool.true)),
 ((8 : Nat), Option.some (Go.Value.int Go.IntKind.i64 (Go.IntKind.wrap Go.IntKind.i64 (i + (1 : Int)))))]
 σ)
 (Go.AI.req ((0 : Int) ≤ i)
 (Go.AI.req (i < (↑(ByteArray.size name) : Int))
 (X
 [((0 : Nat), Option.some (Go.Value.string name)), ((1 : Nat), Option.some (Go.Value.slice la ln le)), ((2 : Nat), Option.some (Go.Value.bool r2_1)),
 ((7 : Nat), Option.some (Go.Value.bool ((↑(UInt8.toNat (List.getD (Array.toList (ByteArray.data name)) (Int.toNat i) (0 : UInt8))) : Int) == (0 : Int)))),
 ((8 : Nat), Option.some (Go.Value.int Go.IntKind.i64 (Go.IntKind.wrap Go.IntKind.i64 (i + (1 : Int)))))]
 σ))))
 (T (13 : Nat) [Go.Value.int Go.IntKind.i64 (20 : Int), Go.Value.int Go.IntKind.i64 (10 : Int), Go.Value.slice Option.none (0 : Nat) (0 : Nat)] σ fun (v0 : Go.Value) (σ1 : Go.AI.AS) ↦
 Go.AI.tTup v0 fun (l2 : List Go.Value) ↦
 Go.AI.pSome l2[(0 : Nat)]? fun (u3 : Go.Value) ↦
 Go.AI.tP u3 fun (b4 : Option Go.Addr) ↦
 Go.AI.tTup v0 fun (l5 : List Go.Value) ↦
 Go.AI.pSome l5[(1 : Nat)]? fun (u6 : Go.Value) ↦
 Go.AI.tI Go.IntKind.i64 u6 fun (n7 : Int) ↦
 T (14 : Nat) [] σ1 fun (v8 : Go.Value) (σ9 : Go.AI.AS) ↦
 Go.AI.tP v8 fun (b10 : Option Go.Addr) ↦
 T (15 : Nat) [Go.Value.int Go.IntKind.i64 n7] σ9 fun (v11 : Go.Value) (σ12 : Go.AI.AS) ↦
 Go.AI.tI Go.IntKind.i64 v11 fun (n13 : Int) ↦
 Go.AI.bmatch (n13 != (0 : Int))
 (Go.AI.bmatch zero (T (12 : Nat) [] σ12 fun (v14 : Go.Value) (σ15 : Go.AI.AS) ↦ Go.AI.tB v14 fun (b16 : Bool) ↦ K (Go.Value.bool b16) σ15) (K (Go.Value.bool Bool.false) σ12))
 (Go.AI.ptrEq σ12 b4 Option.none fun (r17 : Bool) ↦
 Go.AI.bmatch r17
 (Go.AI.bmatch zero (T (12 : Nat) [] σ12 fun (v18 : Go.Value) (σ19 : Go.AI.AS) ↦ Go.AI.tB v18 fun (b20 : Bool) ↦ K (Go.Value.bool b20) σ19) (K (Go.Value.bool Bool.false) σ12))
 (Go.AI.bmatch zero
 (Go.AI.bmatch zero (T (12 : Nat) [] σ12 fun (v21 : Go.Value) (σ22 : Go.AI.AS) ↦ Go.AI.tB v21 fun (b23 : Bool) ↦ K (Go.Value.bool b23) σ22) (K (Go.Value.bool Bool.false) σ12))
 (Go.AI.pSome b10 fun (a24 : Go.Addr) ↦
 Go.AI.ldc σ12 (Go.Addr.add a24 (0 : Nat)) fun (v25 : Go.Value) ↦
 Go.AI.tL (1 : Nat) v25 fun (s26 : Go.AI.Sl) ↦
 Go.AI.req ((500 : Int) ≤ (↑(Go.AI.Sl.n s26) : Int))
 (Go.AI.req ((↑(Go.AI.Sl.n s26) : Int) ≤ (↑(Go.AI.capLo σ12 (Go.AI.Sl.a s26) (Go.AI.szOf Go.Proofs.Tryz.prog (5 : Nat)) (Go.AI.Sl.n s26)) : Int))
 (Go.AI.srcCells σ12 (1 : Nat) (Option.some (Go.Value.string name)) fun (m27 : Nat) (l28 : List Go.Value) ↦
 Go.AI.copyTo σ12 (1 : Nat) (Option.map (fun (x : Go.Addr) ↦ Go.AI.aadd x (Int.toNat (500 : Int) * Go.AI.szOf Go.Proofs.Tryz.prog (5 : Nat))) (Go.AI.Sl.a s26))
 (Int.toNat ((↑(Go.AI.Sl.n s26) : Int) - (500 : Int))) m27 l28 fun (r29 : Int) (σ30 : Go.AI.AS) ↦
 Go.AI.newAt σ30 (Go.AI.AObj.row Go.AI.RK.rw [Go.Value.int Go.IntKind.u32 (0 : Int), Go.Value.int Go.IntKind.u32 (500 : Int), Go.Value.int Go.IntKind.u32 (9 : Int)])
 fun (i31 : Nat) (σ32 : Go.AI.AS) ↦
 T (16 : Nat)
 [Go.Value.pointer b4, Go.Value.iface (29 : Nat) (Go.Value.pointer b10), Go.Value.int Go.IntKind.u32 (97 : Int),
 Go.Value.slice (Option.some (Go.Addr.mk i31 (0 : Nat) Option.none)) (3 : Nat) (1 : Nat)]
 σ32 fun (v33 : Go.Value) (σ34 : Go.AI.AS) ↦
 Go.AI.tTup v33 fun (l35 : List Go.Value) ↦
 Go.AI.pSome l35[(0 : Nat)]? fun (u36 : Go.Value) ↦
 Go.AI.tI Go.IntKind.u32 u36 fun (n37 : Int) ↦
 Go.AI.tTup v33 fun (l38 : List Go.Value) ↦
 Go.AI.pSome l38[(1 : Nat)]? fun (u39 : Go.Value) ↦
 Go.AI.tI Go.IntKind.i64 u39 fun (n40 : Int) ↦
 Go.AI.bmatch ((↑(ByteArray.size name) : Int) == (0 : Int))
 (Go.AI.bmatch (n37 == (0 : Int))
 (T (15 : Nat) [Go.Value.int Go.IntKind.i64 n40] σ34 fun (v41 : Go.Value) (σ42 : Go.AI.AS) ↦
 Go.AI.tI Go.IntKind.i64 v41 fun (n43 : Int) ↦
 Go.AI.bmatch (n43 == (0 : Int))
 (T (12 : Nat) [] σ42 fun (v44 : Go.Value) (σ45 : Go.AI.AS) ↦ Go.AI.tB v44 fun (b46 : Bool) ↦ K (Go.Value.bool b46) σ45)
 (K (Go.Value.bool Bool.false) σ42))
 (K (Go.Value.bool Bool.false) σ34))
 (Go.AI.bmatch (Decidable.decide ((↑(ByteArray.size name) : Int) > (32 : Int)))
 (Go.AI.bmatch (n37 == (0 : Int))
 (T (15 : Nat) [Go.Value.int Go.IntKind.i64 n40] σ34 fun (v47 : Go.Value) (σ48 : Go.AI.AS) ↦
 Go.AI.tI Go.IntKind.i64 v47 fun (n49 : Int) ↦
 Go.AI.bmatch (n49 == (0 : Int))
 (T (12 : Nat) [] σ48 fun (v50 : Go.Value) (σ51 : Go.AI.AS) ↦ Go.AI.tB v50 fun (b52 : Bool) ↦ K (Go.Value.bool b52) σ51)
 (K (Go.Value.bool Bool.false) σ48))
 (K (Go.Value.bool Bool.false) σ34))
 (Go.AI.bmatch r2_1
 (Go.AI.newAt σ34 (Go.AI.AObj.row Go.AI.RK.rw [Go.Value.int Go.IntKind.u32 n37]) fun (i53 : Nat) (σ54 : Go.AI.AS) ↦
 T (16 : Nat)
 [Go.Value.pointer b4, Go.Value.iface (29 : Nat) (Go.Value.pointer b10), Go.Value.int Go.IntKind.u32 (103 : Int),
 Go.Value.slice (Option.some (Go.Addr.mk i53 (0 : Nat) Option.none)) (1 : Nat) (1 : Nat)]
 σ54 fun (v55 : Go.Value) (σ56 : Go.AI.AS) ↦
 Go.AI.tTup v55 fun (l57 : List Go.Value) ↦
 Go.AI.pSome l57[(0 : Nat)]? fun (u58 : Go.Value) ↦
 Go.AI.tI Go.IntKind.u32 u58 fun (n59 : Int) ↦
 Go.AI.tTup v55 fun (l60 : List Go.Value) ↦
 Go.AI.pSome l60[(1 : Nat)]? fun (u61 : Go.Value) ↦
 Go.AI.tI Go.IntKind.i64 u61 fun (n62 : Int) ↦
 Go.AI.newAt σ56
 (Go.AI.AObj.row Go.AI.RK.rw
 [Go.Value.int Go.IntKind.u32 n37, Go.Value.int Go.IntKind.u32 (1 : Int), Go.Value.int Go.IntKind.u32 (0 : Int)])
 fun (i63 : Nat) (σ64 : Go.AI.AS) ↦
 T (16 : Nat)
 [Go.Value.pointer b4, Go.Value.iface (29 : Nat) (Go.Value.pointer b10), Go.Value.int Go.IntKind.u32 (312 : Int),
 Go.Value.slice (Option.some (Go.Addr.mk i63 (0 : Nat) Option.none)) (3 : Nat) (1 : Nat)]
 σ64 fun (v65 : Go.Value) (σ66 : Go.AI.AS) ↦
 Go.AI.tTup v65 fun (l67 : List Go.Value) ↦
 Go.AI.pSome l67[(0 : Nat)]? fun (u68 : Go.Value) ↦
 Go.AI.tI Go.IntKind.u32 u68 fun (n69 : Int) ↦
 Go.AI.tTup v65 fun (l70 : List Go.Value) ↦
 Go.AI.pSome l70[(1 : Nat)]? fun (u71 : Go.Value) ↦
 Go.AI.tI Go.IntKind.i64 u71 fun (n72 : Int) ↦
 Go.AI.ALoop
 (Go.AI.fl Go.Proofs.Tryz.prog Go.AI.hintsS T (6 : Nat)
 [Bool.true, Bool.true, Bool.true, Bool.true, Bool.true, Bool.true, Bool.true, Bool.true, Bool.true, Bool.true,
 Bool.true, Bool.true, Bool.true, Bool.true, Bool.false, Bool.true, Bool.false]
 [] K)
 [((0 : Nat), Option.some (Go.Value.string name)), ((1 : Nat), Option.some (Go.Value.slice la ln le)),
 ((2 : Nat), Option.some (Go.Value.bool r2_1)), ((9 : Nat), Option.some (Go.Value.pointer b4)),
 ((11 : Nat), Option.some (Go.Value.pointer b10)), ((12 : Nat), Option.some (Go.Value.int Go.IntKind.u32 n37)),
 ((14 : Nat), Option.some (Go.Value.int Go.IntKind.u32 (312 : Int))),
 ((15 : Nat), Option.some (Go.Value.int Go.IntKind.u32 (304 : Int))),
 ((16 : Nat), Option.some (Go.Value.int Go.IntKind.u32 n59)),
 ((18 : Nat), Option.some (Go.Value.int Go.IntKind.u32 n69)),
 ((20 : Nat), Option.some (Go.Value.int Go.IntKind.i64 (0 : Int)))]
 σ66)
 (Go.AI.newAt σ34 (Go.AI.AObj.row Go.AI.RK.rw [Go.Value.int Go.IntKind.u32 n37]) fun (i73 : Nat) (σ74 : Go.AI.AS) ↦
 T (16 : Nat)
 [Go.Value.pointer b4, Go.Value.iface (29 : Nat) (Go.Value.pointer b10), Go.Value.int Go.IntKind.u32 (103 : Int),
 Go.Value.slice (Option.some (Go.Addr.mk i73 (0 : Nat) Option.none)) (1 : Nat) (1 : Nat)]
 σ74 fun (v75 : Go.Value) (σ76 : Go.AI.AS) ↦
 Go.AI.tTup v75 fun (l77 : List Go.Value) ↦
 Go.AI.pSome l77[(0 : Nat)]? fun (u78 : Go.Value) ↦
 Go.AI.tI Go.IntKind.u32 u78 fun (n79 : Int) ↦
 Go.AI.tTup v75 fun (l80 : List Go.Value) ↦
 Go.AI.pSome l80[(1 : Nat)]? fun (u81 : Go.Value) ↦
 Go.AI.tI Go.IntKind.i64 u81 fun (n82 : Int) ↦
 Go.AI.newAt σ76
 (Go.AI.AObj.row Go.AI.RK.rw
 [Go.Value.int Go.IntKind.u32 n37, Go.Value.int Go.IntKind.u32 (1 : Int), Go.Value.int Go.IntKind.u32 (0 : Int)])
 fun (i83 : Nat) (σ84 : Go.AI.AS) ↦
 T (16 : Nat)
 [Go.Value.pointer b4, Go.Value.iface (29 : Nat) (Go.Value.pointer b10), Go.Value.int Go.IntKind.u32 (66 : Int),
 Go.Value.slice (Option.some (Go.Addr.mk i83 (0 : Nat) Option.none)) (3 : Nat) (1 : Nat)]
 σ84 fun (v85 : Go.Value) (σ86 : Go.AI.AS) ↦
 Go.AI.tTup v85 fun (l87 : List Go.Value) ↦
 Go.AI.pSome l87[(0 : Nat)]? fun (u88 : Go.Value) ↦
 Go.AI.tI Go.IntKind.u32 u88 fun (n89 : Int) ↦
 Go.AI.tTup v85 fun (l90 : List Go.Value) ↦
 Go.AI.pSome l90[(1 : Nat)]? fun (u91 : Go.Value) ↦
 Go.AI.tI Go.IntKind.i64 u91 fun (n92 : Int) ↦
 Go.AI.ALoop
 (Go.AI.fl Go.Proofs.Tryz.prog Go.AI.hintsS T (6 : Nat)
 [Bool.true, Bool.true, Bool.true, Bool.true, Bool.true, Bool.true, Bool.true, Bool.true, Bool.true, Bool.true,
 Bool.true, Bool.true, Bool.true, Bool.true, Bool.false, Bool.true, Bool.false]
 [] K)
 [((0 : Nat), Option.some (Go.Value.string name)), ((1 : Nat), Option.some (Go.Value.slice la ln le)),
 ((2 : Nat), Option.some (Go.Value.bool r2_1)), ((9 : Nat), Option.some (Go.Value.pointer b4)),
 ((11 : Nat), Option.some (Go.Value.pointer b10)), ((12 : Nat), Option.some (Go.Value.int Go.IntKind.u32 n37)),
 ((14 : Nat), Option.some (Go.Value.int Go.IntKind.u32 (66 : Int))),
 ((15 : Nat), Option.some (Go.Value.int Go.IntKind.u32 (144 : Int))),
 ((16 : Nat), Option.some (Go.Value.int Go.IntKind.u32 n79)),
 ((18 : Nat), Option.some (Go.Value.int Go.IntKind.u32 n89)),
 ((20 : Nat), Option.some (Go.Value.int Go.IntKind.i64 (0 : Int)))]
 σ86))))))))) := by
 intros
 kernel_rfl

theorem s6l1 : ∀ (T : Go.AI.Ct) (name : ByteArray) (la : Option Go.Addr) (ln le : Nat) (r2_1 : Bool) (g m : Nat) (r r14_1 get no s i : Int) (X : Go.AI.Regs → Go.AI.AS → Prop) (σ : Go.AI.AS)
 (K : Go.Value → Go.AI.AS → Prop),
 Go.AI.fl Go.Proofs.Tryz.prog Go.AI.hintsS T (6 : Nat)
 [Bool.true, Bool.true, Bool.true, Bool.true, Bool.true, Bool.true, Bool.true, Bool.true, Bool.true, Bool.true, Bool.true, Bool.true, Bool.true, Bool.true, Bool.false, Bool.true, Bool.false] [] K X
 [((0 : Nat), Option.some (Go.Value.string name)), ((1 : Nat), Option.some (Go.Value.slice la ln le)), ((2 : Nat), Option.some (Go.Value.bool r2_1)),
 ((9 : Nat), Option.some (Go.Value.pointer (Option.some (Go.Addr.mk g (0 : Nat) Option.none)))), ((11 : Nat), Option.some (Go.Value.pointer (Option.some (Go.Addr.mk m (0 : Nat) Option.none)))),
 ((12 : Nat), Option.some (Go.Value.int Go.IntKind.u32 r)), ((14 : Nat), Option.some (Go.Value.int Go.IntKind.u32 r14_1)), ((15 : Nat), Option.some (Go.Value.int Go.IntKind.u32 get)),
 ((16 : Nat), Option.some (Go.Value.int Go.IntKind.u32 no)), ((18 : Nat), Option.some (Go.Value.int Go.IntKind.u32 s)), ((20 : Nat), Option.some (Go.Value.int Go.IntKind.i64 i))]
 σ =
 Go.AI.bmatch (Decidable.decide (i < (↑ln : Int)))
 (Go.AI.req ((0 : Int) ≤ i)
 (Go.AI.req (i < (↑ln : Int))
 (Go.AI.pSome la fun (a0 : Go.Addr) ↦
 Go.AI.req (le = Go.AI.szOf Go.Proofs.Tryz.prog (32 : Nat))
 (Go.AI.ldc σ (Go.AI.aadd a0 (Int.toNat i * Go.AI.szOf Go.Proofs.Tryz.prog (32 : Nat))) fun (v1 : Go.Value) ↦
 Go.AI.tI Go.IntKind.u32 v1 fun (n2 : Int) ↦
 Go.AI.newAt σ (Go.AI.AObj.row Go.AI.RK.rw [Go.Value.int Go.IntKind.u32 s, Go.Value.int Go.IntKind.u32 n2]) fun (i3 : Nat) (σ4 : Go.AI.AS) ↦
 T (16 : Nat)
 [Go.Value.pointer (Option.some (Go.Addr.mk g (0 : Nat) Option.none)), Go.Value.iface (29 : Nat) (Go.Value.pointer (Option.some (Go.Addr.mk m (0 : Nat) Option.none))),
 Go.Value.int Go.IntKind.u32 (299 : Int), Go.Value.slice (Option.some (Go.Addr.mk i3 (0 : Nat) Option.none)) (2 : Nat) (1 : Nat)]
 σ4 fun (v5 : Go.Value) (σ6 : Go.AI.AS) ↦
 X
 [((0 : Nat), Option.some (Go.Value.string name)), ((1 : Nat), Option.some (Go.Value.slice la ln le)), ((2 : Nat), Option.some (Go.Value.bool r2_1)),
 ((9 : Nat), Option.some (Go.Value.pointer (Option.some (Go.Addr.mk g (0 : Nat) Option.none)))),
 ((11 : Nat), Option.some (Go.Value.pointer (Option.some (Go.Addr.mk m (0 : Nat) Option.none)))), ((12 : Nat), Option.some (Go.Value.int Go.IntKind.u32 r)),
 ((14 : Nat), Option.some (Go.Value.int Go.IntKind.u32 r14_1)), ((15 : Nat), Option.some (Go.Value.int Go.IntKind.u32 get)), ((16 : Nat), Option.some (Go.Value.int Go.IntKind.u32 no)),
 ((18 : Nat), Option.some (Go.Value.int Go.IntKind.u32 s)), ((20 : Nat), Option.some (Go.Value.int Go.IntKind.i64 (Go.IntKind.wrap Go.IntKind.i64 (i + (1 : Int)))))]
 σ6))))
 (Go.AI.newAt σ (Go.AI.AObj.row Go.AI.RK.rw [Go.Value.int Go.IntKind.u32 s, Go.Value.int Go.IntKind.u32 (700 : Int)]) fun (i7 : Nat) (σ8 : Go.AI.AS) ↦
 T (16 : Nat)
 [Go.Value.pointer (Option.some (Go.Addr.mk g (0 : Nat) Option.none)), Go.Value.iface (29 : Nat) (Go.Value.pointer (Option.some (Go.Addr.mk m (0 : Nat) Option.none))), Go.Value.int Go.IntKind.u32 (68 : Int),
 Go.Value.slice (Option.some (Go.Addr.mk i7 (0 : Nat) Option.none)) (2 : Nat) (1 : Nat)]
 σ8 fun (v9 : Go.Value) (σ10 : Go.AI.AS) ↦
 Go.AI.newAt σ10 (Go.AI.AObj.row Go.AI.RK.rw [Go.Value.int Go.IntKind.u32 r]) fun (i11 : Nat) (σ12 : Go.AI.AS) ↦
 T (16 : Nat)
 [Go.Value.pointer (Option.some (Go.Addr.mk g (0 : Nat) Option.none)), Go.Value.iface (29 : Nat) (Go.Value.pointer (Option.some (Go.Addr.mk m (0 : Nat) Option.none))),
 Go.Value.int Go.IntKind.u32 (103 : Int), Go.Value.slice (Option.some (Go.Addr.mk i11 (0 : Nat) Option.none)) (1 : Nat) (1 : Nat)]
 σ12 fun (v13 : Go.Value) (σ14 : Go.AI.AS) ↦
 Go.AI.tTup v13 fun (l15 : List Go.Value) ↦
 Go.AI.pSome l15[(0 : Nat)]? fun (u16 : Go.Value) ↦
 Go.AI.tI Go.IntKind.u32 u16 fun (n17 : Int) ↦
 Go.AI.tTup v13 fun (l18 : List Go.Value) ↦
 Go.AI.pSome l18[(1 : Nat)]? fun (u19 : Go.Value) ↦
 Go.AI.tI Go.IntKind.i64 u19 fun (n20 : Int) ↦
 Go.AI.newAt σ14 (Go.AI.AObj.row Go.AI.RK.rw [Go.Value.int Go.IntKind.u32 r, Go.Value.int Go.IntKind.u32 (2 : Int), Go.Value.int Go.IntKind.u32 (0 : Int)]) fun (i21 : Nat) (σ22 : Go.AI.AS) ↦
 T (16 : Nat)
 [Go.Value.pointer (Option.some (Go.Addr.mk g (0 : Nat) Option.none)), Go.Value.iface (29 : Nat) (Go.Value.pointer (Option.some (Go.Addr.mk m (0 : Nat) Option.none))),
 Go.Value.int Go.IntKind.u32 r14_1, Go.Value.slice (Option.some (Go.Addr.mk i21 (0 : Nat) Option.none)) (3 : Nat) (1 : Nat)]
 σ22 fun (v23 : Go.Value) (σ24 : Go.AI.AS) ↦
 Go.AI.tTup v23 fun (l25 : List Go.Value) ↦
 Go.AI.pSome l25[(0 : Nat)]? fun (u26 : Go.Value) ↦
 Go.AI.tI Go.IntKind.u32 u26 fun (n27 : Int) ↦
 Go.AI.tTup v23 fun (l28 : List Go.Value) ↦
 Go.AI.pSome l28[(1 : Nat)]? fun (u29 : Go.Value) ↦
 Go.AI.tI Go.IntKind.i64 u29 fun (n30 : Int) ↦
 Go.AI.ALoop
 (Go.AI.fl Go.Proofs.Tryz.prog Go.AI.hintsS T (6 : Nat)
 [Bool.true, Bool.true, Bool.true, Bool.true, Bool.true, Bool.true, Bool.true, Bool.true, Bool.true, Bool.true, Bool.true, Bool.true, Bool.true, Bool.true, Bool.true,
 Bool.true, Bool.true, Bool.true, Bool.false, Bool.true, Bool.false]
 [] K)
 [((0 : Nat), Option.some (Go.Value.string name)), ((1 : Nat), Option.some (Go.Value.slice la ln le)), ((2 : Nat), Option.some (Go.Value.bool r2_1)),
 ((9 : Nat), Option.some (Go.Value.pointer (Option.some (Go.Addr.mk g (0 : Nat) Option.none)))),
 ((11 : Nat), Option.some (Go.Value.pointer (Option.some (Go.Addr.mk m (0 : Nat) Option.none)))), ((12 : Nat), Option.some (Go.Value.int Go.IntKind.u32 r)),
 ((15 : Nat), Option.some (Go.Value.int Go.IntKind.u32 get)), ((16 : Nat), Option.some (Go.Value.int Go.IntKind.u32 no)),
 ((18 : Nat), Option.some (Go.Value.int Go.IntKind.u32 s)), ((21 : Nat), Option.some (Go.Value.int Go.IntKind.u32 n17)),
 ((23 : Nat), Option.some (Go.Value.int Go.IntKind.u32 n27)), ((25 : Nat), Option.some (Go.Value.int Go.IntKind.i64 (0 : Int)))]
 σ24) := by
 intros
 kernel_rfl

theorem s6l2 : ∀ (T : Go.AI.Ct) (name : ByteArray) (la : Option Go.Addr) (ln le : Nat) (r2_1 : Bool) (g m : Nat) (r get no s yes t i : Int) (X : Go.AI.Regs → Go.AI.AS → Prop) (σ : Go.AI.AS)
 (K : Go.Value → Go.AI.AS → Prop),
 Go.AI.fl Go.Proofs.Tryz.prog Go.AI.hintsS T (6 : Nat)
 [Bool.true, Bool.true, Bool.true, Bool.true, Bool.true, Bool.true, Bool.true, Bool.true, Bool.true, Bool.true, Bool.true, Bool.true, Bool.true, Bool.true, Bool.true, Bool.true, Bool.true, Bool.true, Bool.false,
 Bool.true, Bool.false]
 [] K X
 [((0 : Nat), Option.some (Go.Value.string name)), ((1 : Nat), Option.some (Go.Value.slice la ln le)), ((2 : Nat), Option.some (Go.Value.bool r2_1)),
 ((9 : Nat), Option.some (Go.Value.pointer (Option.some (Go.Addr.mk g (0 : Nat) Option.none)))), ((11 : Nat), Option.some (Go.Value.pointer (Option.some (Go.Addr.mk m (0 : Nat) Option.none)))),
 ((12 : Nat), Option.some (Go.Value.int Go.IntKind.u32 r)), ((15 : Nat), Option.some (Go.Value.int Go.IntKind.u32 get)), ((16 : Nat), Option.some (Go.Value.int Go.IntKind.u32 no)),
 ((18 : Nat), Option.some (Go.Value.int Go.IntKind.u32 s)), ((21 : Nat), Option.some (Go.Value.int Go.IntKind.u32 yes)), ((23 : Nat), Option.some (Go.Value.int Go.IntKind.u32 t)),
 ((25 : Nat), Option.some (Go.Value.int Go.IntKind.i64 i))]
 σ =
 Go.AI.bmatch (Decidable.decide (i < (↑ln : Int)))
 (Go.AI.req ((0 : Int) ≤ i)
 (Go.AI.req (i < (↑ln : Int))
 (Go.AI.pSome la fun (a0 : Go.Addr) ↦
 Go.AI.req (le = Go.AI.szOf Go.Proofs.Tryz.prog (32 : Nat))
 (Go.AI.ldc σ (Go.AI.aadd a0 (Int.toNat i * Go.AI.szOf Go.Proofs.Tryz.prog (32 : Nat))) fun (v1 : Go.Value) ↦
 Go.AI.tI Go.IntKind.u32 v1 fun (n2 : Int) ↦
 Go.AI.bmatch (!r2_1)
 (Go.AI.bmatch (Decidable.decide (n2 > (255 : Int)))
 (Go.AI.newAt σ (Go.AI.AObj.row Go.AI.RK.rw [Go.Value.int Go.IntKind.u32 t]) fun (i3 : Nat) (σ4 : Go.AI.AS) ↦
 T (16 : Nat)
 [Go.Value.pointer (Option.some (Go.Addr.mk g (0 : Nat) Option.none)), Go.Value.iface (29 : Nat) (Go.Value.pointer (Option.some (Go.Addr.mk m (0 : Nat) Option.none))),
 Go.Value.int Go.IntKind.u32 get, Go.Value.slice (Option.some (Go.Addr.mk i3 (0 : Nat) Option.none)) (1 : Nat) (1 : Nat)]
 σ4 fun (v5 : Go.Value) (σ6 : Go.AI.AS) ↦
 Go.AI.tTup v5 fun (l7 : List Go.Value) ↦
 Go.AI.pSome l7[(0 : Nat)]? fun (u8 : Go.Value) ↦
 Go.AI.tI Go.IntKind.u32 u8 fun (n9 : Int) ↦
 Go.AI.tTup v5 fun (l10 : List Go.Value) ↦
 Go.AI.pSome l10[(1 : Nat)]? fun (u11 : Go.Value) ↦
 Go.AI.tI Go.IntKind.i64 u11 fun (n12 : Int) ↦
 Go.AI.bmatch (n9 != (63 : Int)) (K (Go.Value.bool Bool.false) σ6)
 (T (15 : Nat) [Go.Value.int Go.IntKind.i64 n12] σ6 fun (v13 : Go.Value) (σ14 : Go.AI.AS) ↦
 Go.AI.tI Go.IntKind.i64 v13 fun (n15 : Int) ↦
 Go.AI.bmatch (n15 != (0 : Int)) (K (Go.Value.bool Bool.false) σ14)
 (X
 [((0 : Nat), Option.some (Go.Value.string name)), ((1 : Nat), Option.some (Go.Value.slice la ln le)), ((2 : Nat), Option.some (Go.Value.bool r2_1)),
 ((9 : Nat), Option.some (Go.Value.pointer (Option.some (Go.Addr.mk g (0 : Nat) Option.none)))),
 ((11 : Nat), Option.some (Go.Value.pointer (Option.some (Go.Addr.mk m (0 : Nat) Option.none)))), ((12 : Nat), Option.some (Go.Value.int Go.IntKind.u32 r)),
 ((15 : Nat), Option.some (Go.Value.int Go.IntKind.u32 get)), ((16 : Nat), Option.some (Go.Value.int Go.IntKind.u32 no)),
 ((18 : Nat), Option.some (Go.Value.int Go.IntKind.u32 s)), ((21 : Nat), Option.some (Go.Value.int Go.IntKind.u32 yes)),
 ((23 : Nat), Option.some (Go.Value.int Go.IntKind.u32 t)), ((25 : Nat), Option.some (Go.Value.int Go.IntKind.i64 (Go.IntKind.wrap Go.IntKind.i64 (i + (1 : Int)))))]
 σ14)))
 (Go.AI.newAt σ (Go.AI.AObj.row Go.AI.RK.rw [Go.Value.int Go.IntKind.u32 t]) fun (i16 : Nat) (σ17 : Go.AI.AS) ↦
 T (16 : Nat)
 [Go.Value.pointer (Option.some (Go.Addr.mk g (0 : Nat) Option.none)), Go.Value.iface (29 : Nat) (Go.Value.pointer (Option.some (Go.Addr.mk m (0 : Nat) Option.none))),
 Go.Value.int Go.IntKind.u32 get, Go.Value.slice (Option.some (Go.Addr.mk i16 (0 : Nat) Option.none)) (1 : Nat) (1 : Nat)]
 σ17 fun (v18 : Go.Value) (σ19 : Go.AI.AS) ↦
 Go.AI.tTup v18 fun (l20 : List Go.Value) ↦
 Go.AI.pSome l20[(0 : Nat)]? fun (u21 : Go.Value) ↦
 Go.AI.tI Go.IntKind.u32 u21 fun (n22 : Int) ↦
 Go.AI.tTup v18 fun (l23 : List Go.Value) ↦
 Go.AI.pSome l23[(1 : Nat)]? fun (u24 : Go.Value) ↦
 Go.AI.tI Go.IntKind.i64 u24 fun (n25 : Int) ↦
 Go.AI.bmatch (n22 != n2) (K (Go.Value.bool Bool.false) σ19)
 (T (15 : Nat) [Go.Value.int Go.IntKind.i64 n25] σ19 fun (v26 : Go.Value) (σ27 : Go.AI.AS) ↦
 Go.AI.tI Go.IntKind.i64 v26 fun (n28 : Int) ↦
 Go.AI.bmatch (n28 != (0 : Int)) (K (Go.Value.bool Bool.false) σ27)
 (X
 [((0 : Nat), Option.some (Go.Value.string name)), ((1 : Nat), Option.some (Go.Value.slice la ln le)), ((2 : Nat), Option.some (Go.Value.bool r2_1)),
 ((9 : Nat), Option.some (Go.Value.pointer (Option.some (Go.Addr.mk g (0 : Nat) Option.none)))),
 ((11 : Nat), Option.some (Go.Value.pointer (Option.some (Go.Addr.mk m (0 : Nat) Option.none)))), ((12 : Nat), Option.some (Go.Value.int Go.IntKind.u32 r)),
 ((15 : Nat), Option.some (Go.Value.int Go.IntKind.u32 get)), ((16 : Nat), Option.some (Go.Value.int Go.IntKind.u32 no)),
 ((18 : Nat), Option.some (Go.Value.int Go.IntKind.u32 s)), ((21 : Nat), Option.some (Go.Value.int Go.IntKind.u32 yes)),
 ((23 : Nat), Option.some (Go.Value.int Go.IntKind.u32 t)), ((25 : Nat), Option.some (Go.Value.int Go.IntKind.i64 (Go.IntKind.wrap Go.IntKind.i64 (i + (1 : Int)))))]
 σ27))))
 (Go.AI.newAt σ (Go.AI.AObj.row Go.AI.RK.rw [Go.Value.int Go.IntKind.u32 t]) fun (i29 : Nat) (σ30 : Go.AI.AS) ↦
 T (16 : Nat)
 [Go.Value.pointer (Option.some (Go.Addr.mk g (0 : Nat) Option.none)), Go.Value.iface (29 : Nat) (Go.Value.pointer (Option.some (Go.Addr.mk m (0 : Nat) Option.none))),
 Go.Value.int Go.IntKind.u32 get, Go.Value.slice (Option.some (Go.Addr.mk i29 (0 : Nat) Option.none)) (1 : Nat) (1 : Nat)]
 σ30 fun (v31 : Go.Value) (σ32 : Go.AI.AS) ↦
 Go.AI.tTup v31 fun (l33 : List Go.Value) ↦
 Go.AI.pSome l33[(0 : Nat)]? fun (u34 : Go.Value) ↦
 Go.AI.tI Go.IntKind.u32 u34 fun (n35 : Int) ↦
 Go.AI.tTup v31 fun (l36 : List Go.Value) ↦
 Go.AI.pSome l36[(1 : Nat)]? fun (u37 : Go.Value) ↦
 Go.AI.tI Go.IntKind.i64 u37 fun (n38 : Int) ↦
 Go.AI.bmatch (n35 != n2) (K (Go.Value.bool Bool.false) σ32)
 (T (15 : Nat) [Go.Value.int Go.IntKind.i64 n38] σ32 fun (v39 : Go.Value) (σ40 : Go.AI.AS) ↦
 Go.AI.tI Go.IntKind.i64 v39 fun (n41 : Int) ↦
 Go.AI.bmatch (n41 != (0 : Int)) (K (Go.Value.bool Bool.false) σ40)
 (X
 [((0 : Nat), Option.some (Go.Value.string name)), ((1 : Nat), Option.some (Go.Value.slice la ln le)), ((2 : Nat), Option.some (Go.Value.bool r2_1)),
 ((9 : Nat), Option.some (Go.Value.pointer (Option.some (Go.Addr.mk g (0 : Nat) Option.none)))),
 ((11 : Nat), Option.some (Go.Value.pointer (Option.some (Go.Addr.mk m (0 : Nat) Option.none)))), ((12 : Nat), Option.some (Go.Value.int Go.IntKind.u32 r)),
 ((15 : Nat), Option.some (Go.Value.int Go.IntKind.u32 get)), ((16 : Nat), Option.some (Go.Value.int Go.IntKind.u32 no)),
 ((18 : Nat), Option.some (Go.Value.int Go.IntKind.u32 s)), ((21 : Nat), Option.some (Go.Value.int Go.IntKind.u32 yes)),
 ((23 : Nat), Option.some (Go.Value.int Go.IntKind.u32 t)), ((25 : Nat), Option.some (Go.Value.int Go.IntKind.i64 (Go.IntKind.wrap Go.IntKind.i64 (i + (1 : Int)))))]
 σ40)))))))
 (Go.AI.newAt σ (Go.AI.AObj.row Go.AI.RK.rw [Go.Value.int Go.IntKind.u32 t]) fun (i42 : Nat) (σ43 : Go.AI.AS) ↦
 T (16 : Nat)
 [Go.Value.pointer (Option.some (Go.Addr.mk g (0 : Nat) Option.none)), Go.Value.iface (29 : Nat) (Go.Value.pointer (Option.some (Go.Addr.mk m (0 : Nat) Option.none))), Go.Value.int Go.IntKind.u32 get,
 Go.Value.slice (Option.some (Go.Addr.mk i42 (0 : Nat) Option.none)) (1 : Nat) (1 : Nat)]
 σ43 fun (v44 : Go.Value) (σ45 : Go.AI.AS) ↦
 Go.AI.tTup v44 fun (l46 : List Go.Value) ↦
 Go.AI.pSome l46[(0 : Nat)]? fun (u47 : Go.Value) ↦
 Go.AI.tI Go.IntKind.u32 u47 fun (n48 : Int) ↦
 Go.AI.tTup v44 fun (l49 : List Go.Value) ↦
 Go.AI.pSome l49[(1 : Nat)]? fun (u50 : Go.Value) ↦
 Go.AI.tI Go.IntKind.i64 u50 fun (n51 : Int) ↦
 T (26 : Nat) [Go.Value.pointer (Option.some (Go.Addr.mk g (0 : Nat) Option.none)), Go.Value.string name] σ45 fun (v52 : Go.Value) (σ53 : Go.AI.AS) ↦
 Go.AI.tTup v52 fun (l54 : List Go.Value) ↦
 Go.AI.pSome l54[(0 : Nat)]? fun (u55 : Go.Value) ↦
 Go.AI.tL (1 : Nat) u55 fun (s56 : Go.AI.Sl) ↦
 Go.AI.tTup v52 fun (l57 : List Go.Value) ↦
 Go.AI.pSome l57[(1 : Nat)]? fun (u58 : Go.Value) ↦
 Go.AI.tB u58 fun (b59 : Bool) ↦
 Go.AI.bmatch r2_1
 (Go.AI.ldc σ53 (Go.Addr.mk m (0 : Nat) Option.none) fun (v60 : Go.Value) ↦
 Go.AI.tL (1 : Nat) v60 fun (s61 : Go.AI.Sl) ↦
 T (20 : Nat) [Go.Value.slice (Go.AI.Sl.a s61) (Go.AI.Sl.n s61) (1 : Nat), Go.Value.int Go.IntKind.i64 (700 : Int), Go.Value.int Go.IntKind.i64 (4 : Int)] σ53
 fun (v62 : Go.Value) (σ63 : Go.AI.AS) ↦
 Go.AI.tTup v62 fun (l64 : List Go.Value) ↦
 Go.AI.pSome l64[(0 : Nat)]? fun (u65 : Go.Value) ↦
 Go.AI.tI Go.IntKind.u32 u65 fun (n66 : Int) ↦
 Go.AI.tTup v62 fun (l67 : List Go.Value) ↦
 Go.AI.pSome l67[(1 : Nat)]? fun (u68 : Go.Value) ↦
 Go.AI.tI Go.IntKind.i64 u68 fun (n69 : Int) ↦
 Go.AI.ldc σ63 (Go.Addr.mk m (0 : Nat) Option.none) fun (v70 : Go.Value) ↦
 Go.AI.tL (1 : Nat) v70 fun (s71 : Go.AI.Sl) ↦
 T (20 : Nat) [Go.Value.slice (Go.AI.Sl.a s71) (Go.AI.Sl.n s71) (1 : Nat), Go.Value.int Go.IntKind.i64 (704 : Int), Go.Value.int Go.IntKind.i64 (4 : Int)] σ63
 fun (v72 : Go.Value) (σ73 : Go.AI.AS) ↦
 Go.AI.tTup v72 fun (l74 : List Go.Value) ↦
 Go.AI.pSome l74[(0 : Nat)]? fun (u75 : Go.Value) ↦
 Go.AI.tI Go.IntKind.u32 u75 fun (n76 : Int) ↦
 Go.AI.tTup v72 fun (l77 : List Go.Value) ↦
 Go.AI.pSome l77[(1 : Nat)]? fun (u78 : Go.Value) ↦
 Go.AI.tI Go.IntKind.i64 u78 fun (n79 : Int) ↦
 Go.AI.bmatch (Decidable.decide (r > (0 : Int)))
 (Go.AI.bmatch (Decidable.decide (s > r))
 (Go.AI.bmatch (Decidable.decide (t > s))
 (Go.AI.bmatch (no == (0 : Int))
 (Go.AI.bmatch (yes == (1 : Int))
 (Go.AI.bmatch (n48 == (4294967295 : Int))
 (Go.AI.bmatch b59
 (Go.AI.bmatch ((↑(Go.AI.Sl.n s56) : Int) == Go.IntKind.wrap Go.IntKind.i64 ((4 : Int) * (↑ln : Int)))
 (Go.AI.bmatch (n66 == (0 : Int))
 (Go.AI.bmatch (Go.IntKind.wrap Go.IntKind.i64 n76 == (↑ln : Int))
 (T (12 : Nat) [] σ73 fun (v80 : Go.Value) (σ81 : Go.AI.AS) ↦ Go.AI.tB v80 fun (b82 : Bool) ↦ K (Go.Value.bool b82) σ81)
 (K (Go.Value.bool Bool.false) σ73))
 (K (Go.Value.bool Bool.false) σ73))
 (K (Go.Value.bool Bool.false) σ73))
 (K (Go.Value.bool Bool.false) σ73))
 (K (Go.Value.bool Bool.false) σ73))
 (K (Go.Value.bool Bool.false) σ73))
 (K (Go.Value.bool Bool.false) σ73))
 (K (Go.Value.bool Bool.false) σ73))
 (K (Go.Value.bool Bool.false) σ73))
 (K (Go.Value.bool Bool.false) σ73))
 (Go.AI.ldc σ53 (Go.Addr.mk m (0 : Nat) Option.none) fun (v83 : Go.Value) ↦
 Go.AI.tL (1 : Nat) v83 fun (s84 : Go.AI.Sl) ↦
 T (20 : Nat) [Go.Value.slice (Go.AI.Sl.a s84) (Go.AI.Sl.n s84) (1 : Nat), Go.Value.int Go.IntKind.i64 (700 : Int), Go.Value.int Go.IntKind.i64 (4 : Int)] σ53
 fun (v85 : Go.Value) (σ86 : Go.AI.AS) ↦
 Go.AI.tTup v85 fun (l87 : List Go.Value) ↦
 Go.AI.pSome l87[(0 : Nat)]? fun (u88 : Go.Value) ↦
 Go.AI.tI Go.IntKind.u32 u88 fun (n89 : Int) ↦
 Go.AI.tTup v85 fun (l90 : List Go.Value) ↦
 Go.AI.pSome l90[(1 : Nat)]? fun (u91 : Go.Value) ↦
 Go.AI.tI Go.IntKind.i64 u91 fun (n92 : Int) ↦
 Go.AI.ldc σ86 (Go.Addr.mk m (0 : Nat) Option.none) fun (v93 : Go.Value) ↦
 Go.AI.tL (1 : Nat) v93 fun (s94 : Go.AI.Sl) ↦
 T (20 : Nat) [Go.Value.slice (Go.AI.Sl.a s94) (Go.AI.Sl.n s94) (1 : Nat), Go.Value.int Go.IntKind.i64 (704 : Int), Go.Value.int Go.IntKind.i64 (4 : Int)] σ86
 fun (v95 : Go.Value) (σ96 : Go.AI.AS) ↦
 Go.AI.tTup v95 fun (l97 : List Go.Value) ↦
 Go.AI.pSome l97[(0 : Nat)]? fun (u98 : Go.Value) ↦
 Go.AI.tI Go.IntKind.u32 u98 fun (n99 : Int) ↦
 Go.AI.tTup v95 fun (l100 : List Go.Value) ↦
 Go.AI.pSome l100[(1 : Nat)]? fun (u101 : Go.Value) ↦
 Go.AI.tI Go.IntKind.i64 u101 fun (n102 : Int) ↦
 Go.AI.bmatch (Decidable.decide (r > (0 : Int)))
 (Go.AI.bmatch (Decidable.decide (s > r))
 (Go.AI.bmatch (Decidable.decide (t > s))
 (Go.AI.bmatch (no == (0 : Int))
 (Go.AI.bmatch (yes == (1 : Int))
 (Go.AI.bmatch (n48 == (4294967295 : Int))
 (Go.AI.bmatch b59
 (Go.AI.bmatch ((↑(Go.AI.Sl.n s56) : Int) == Go.IntKind.wrap Go.IntKind.i64 ((1 : Int) * (↑ln : Int)))
 (Go.AI.bmatch (n89 == (0 : Int))
 (Go.AI.bmatch (Go.IntKind.wrap Go.IntKind.i64 n99 == (↑ln : Int))
 (T (12 : Nat) [] σ96 fun (v103 : Go.Value) (σ104 : Go.AI.AS) ↦
 Go.AI.tB v103 fun (b105 : Bool) ↦ K (Go.Value.bool b105) σ104)
 (K (Go.Value.bool Bool.false) σ96))
 (K (Go.Value.bool Bool.false) σ96))
 (K (Go.Value.bool Bool.false) σ96))
 (K (Go.Value.bool Bool.false) σ96))
 (K (Go.Value.bool Bool.false) σ96))
 (K (Go.Value.bool Bool.false) σ96))
 (K (Go.Value.bool Bool.false) σ96))
 (K (Go.Value.bool Bool.false) σ96))
 (K (Go.Value.bool Bool.false) σ96))
 (K (Go.Value.bool Bool.false) σ96))) := by
 intros
 kernel_rfl

end Go.AI
end
section
/- The conditions ahead of the calls of the program's functions, reckoned as far as they go (equations that the kernel checks); no condition. -/
set_option maxRecDepth 1000000
set_option linter.unusedVariables false
namespace Go.AI
open Go.Proofs
theorem s16ps : ∀ (T : Go.AI.Ct) (g m ar : Nat) (σ : Go.AI.AS) (K : Go.Value → Go.AI.AS → Prop),
 Go.AI.fw Go.Proofs.Tryz.prog Go.AI.hintsS T (16 : Nat)
 [Go.Value.pointer (Option.some (Go.Addr.mk g (0 : Nat) Option.none)), Go.Value.iface (29 : Go.TypeId) (Go.Value.pointer (Option.some (Go.Addr.mk m (0 : Nat) Option.none))),
 Go.Value.int Go.IntKind.u32 (299 : Int), Go.Value.slice (Option.some (Go.Addr.mk ar (0 : Nat) Option.none)) (2 : Nat) (1 : Nat)]
 σ K =
 Go.AI.ldc σ (Go.Addr.mk g ((0 : Nat) + (7 : Nat)) Option.none) fun (v0 : Go.Value) ↦
 Go.AI.tB v0 fun (b1 : Bool) ↦
 Go.AI.bmatch b1 (K (Go.Value.tuple (Array.mk [Go.Value.int Go.IntKind.u32 (0 : Int), Go.Value.int Go.IntKind.i64 (160 : Int)])) σ)
 (T (46 : Nat) [Go.Value.int Go.IntKind.u32 (299 : Int)] σ fun (v2 : Go.Value) (σ3 : Go.AI.AS) ↦
 Go.AI.tI Go.IntKind.i64 v2 fun (n4 : Int) ↦
 Go.AI.bmatch (n4 != (↑(2 : Nat) : Int)) (K (Go.Value.tuple (Array.mk [Go.Value.int Go.IntKind.u32 (0 : Int), Go.Value.int Go.IntKind.i64 (162 : Int)])) σ3)
 (Go.AI.newAt σ3
 (Go.AI.AObj.row Go.AI.RK.plain
 [Go.Value.pointer (Option.some (Go.Addr.mk g (0 : Nat) Option.none)), Go.Value.iface (29 : Nat) (Go.Value.pointer (Option.some (Go.Addr.mk m (0 : Nat) Option.none))),
 Go.Value.slice (Option.some (Go.Addr.mk ar (0 : Nat) Option.none)) (2 : Nat) (1 : Nat)])
 fun (i5 : Nat) (σ6 : Go.AI.AS) ↦
 T (53 : Nat) [Go.Value.pointer (Option.some (Go.Addr.mk i5 (0 : Nat) Option.none)), Go.Value.int Go.IntKind.u32 (299 : Int)] σ6 fun (v7 : Go.Value) (σ8 : Go.AI.AS) ↦
 Go.AI.tTup v7 fun (l9 : List Go.Value) ↦
 Go.AI.pSome l9[(0 : Nat)]? fun (u10 : Go.Value) ↦
 Go.AI.tI Go.IntKind.u32 u10 fun (n11 : Int) ↦
 Go.AI.tTup v7 fun (l12 : List Go.Value) ↦
 Go.AI.pSome l12[(1 : Nat)]? fun (u13 : Go.Value) ↦
 Go.AI.tI Go.IntKind.i64 u13 fun (n14 : Int) ↦ K (Go.Value.tuple (Array.mk [Go.Value.int Go.IntKind.u32 n11, Go.Value.int Go.IntKind.i64 n14])) σ8)) := by
 intros
 kernel_rfl

theorem s53ps : ∀ (T : Go.AI.Ct) (c : Nat) (σ : Go.AI.AS) (K : Go.Value → Go.AI.AS → Prop),
 Go.AI.fw Go.Proofs.Tryz.prog Go.AI.hintsS T (53 : Nat) [Go.Value.pointer (Option.some (Go.Addr.mk c (0 : Nat) Option.none)), Go.Value.int Go.IntKind.u32 (299 : Int)] σ K =
 Go.AI.ldc σ (Go.Addr.mk c (0 : Nat) Option.none) fun (v0 : Go.Value) ↦
 Go.AI.tP v0 fun (b1 : Option Go.Addr) ↦
 Go.AI.ldc σ (Go.Addr.mk c ((0 : Nat) + (2 : Nat)) Option.none) fun (v2 : Go.Value) ↦
 Go.AI.tL (1 : Nat) v2 fun (s3 : Go.AI.Sl) ↦
 Go.AI.req ((0 : Int) < (↑(Go.AI.Sl.n s3) : Int))
 (Go.AI.pSome (Go.AI.Sl.a s3) fun (a4 : Go.Addr) ↦
 Go.AI.ldc σ (Go.AI.aadd a4 (Int.toNat (0 : Int) * Go.AI.szOf Go.Proofs.Tryz.prog (32 : Nat))) fun (v5 : Go.Value) ↦
 Go.AI.tI Go.IntKind.u32 v5 fun (n6 : Int) ↦
 Go.AI.ldc σ (Go.Addr.mk c ((0 : Nat) + (2 : Nat)) Option.none) fun (v7 : Go.Value) ↦
 Go.AI.tL (1 : Nat) v7 fun (s8 : Go.AI.Sl) ↦
 Go.AI.req ((1 : Int) < (↑(Go.AI.Sl.n s8) : Int))
 (Go.AI.pSome (Go.AI.Sl.a s8) fun (a9 : Go.Addr) ↦
 Go.AI.ldc σ (Go.AI.aadd a9 (Int.toNat (1 : Int) * Go.AI.szOf Go.Proofs.Tryz.prog (32 : Nat))) fun (v10 : Go.Value) ↦
 Go.AI.tI Go.IntKind.u32 v10 fun (n11 : Int) ↦
 T (72 : Nat) [Go.Value.pointer b1, Go.Value.int Go.IntKind.u32 n6, Go.Value.int Go.IntKind.u32 n11] σ fun (v12 : Go.Value) (σ13 : Go.AI.AS) ↦
 K (Go.Value.tuple (Array.mk [Go.Value.int Go.IntKind.u32 (0 : Int), Go.Value.int Go.IntKind.i64 (0 : Int)])) σ13)) := by
 intros
 kernel_rfl

end Go.AI
end
section
/- The conditions ahead of the calls of the program's functions, reckoned as far as they go (equations that the kernel checks); no condition. -/
set_option maxRecDepth 1000000
set_option linter.unusedVariables false
namespace Go.AI
open Go.Proofs
theorem s72 : ∀ (T : Go.AI.Ct) (g : Nat) (id x : Int) (σ : Go.AI.AS) (K : Go.Value → Go.AI.AS → Prop),
 Go.AI.fw Go.Proofs.Tryz.prog Go.AI.hintsS T (72 : Nat) [Go.Value.pointer (Option.some (Go.Addr.mk g (0 : Nat) Option.none)), Go.Value.int Go.IntKind.u32 id, Go.Value.int Go.IntKind.u32 x] σ K =
 T (54 : Nat) [Go.Value.pointer (Option.some (Go.Addr.mk g (0 : Nat) Option.none)), Go.Value.int Go.IntKind.u32 id, Go.Value.int Go.IntKind.i64 (2 : Int)] σ fun (v0 : Go.Value) (σ1 : Go.AI.AS) ↦
 Go.AI.tP v0 fun (b2 : Option Go.Addr) ↦
 Go.AI.ptrEq σ1 b2 Option.none fun (r3 : Bool) ↦
 Go.AI.bmatch r3 (K (Go.Value.tuple (Array.mk [])) σ1)
 (Go.AI.pSome b2 fun (a4 : Go.Addr) ↦
 Go.AI.ldc σ1 (Go.Addr.mk (Go.Addr.block a4) (Go.Addr.off a4 + (12 : Nat)) Option.none) fun (v5 : Go.Value) ↦
 Go.AI.tI Go.IntKind.u32 v5 fun (n6 : Int) ↦
 Go.AI.bmatch (n6 != (0 : Int))
 (Go.AI.pSome b2 fun (a7 : Go.Addr) ↦
 Go.AI.ldc σ1 (Go.Addr.mk (Go.Addr.block a7) (Go.Addr.off a7 + (17 : Nat)) Option.none) fun (v8 : Go.Value) ↦
 Go.AI.tI Go.IntKind.u32 v8 fun (n9 : Int) ↦
 Go.AI.pSome b2 fun (a10 : Go.Addr) ↦
 Go.AI.put1 σ1 (Go.Addr.mk (Go.Addr.block a10) (Go.Addr.off a10 + (17 : Nat)) Option.none) (Go.Value.int Go.IntKind.u32 (Go.IntKind.wrap Go.IntKind.u32 (n9 + (1 : Int)))) fun (σ11 : Go.AI.AS) ↦
 Go.AI.pSome b2 fun (a12 : Go.Addr) ↦
 Go.AI.ldc σ11 (Go.Addr.mk (Go.Addr.block a12) (Go.Addr.off a12 + (12 : Nat)) Option.none) fun (v13 : Go.Value) ↦
 Go.AI.tI Go.IntKind.u32 v13 fun (n14 : Int) ↦
 T (132 : Nat) [Go.Value.pointer (Option.some (Go.Addr.mk g (0 : Nat) Option.none)), Go.Value.int Go.IntKind.u32 n14, Go.Value.int Go.IntKind.u32 x] σ11
 fun (v15 : Go.Value) (σ16 : Go.AI.AS) ↦ K (Go.Value.tuple (Array.mk [])) σ16)
 (Go.AI.ldc σ1 (Go.Addr.mk g ((0 : Nat) + (3 : Nat)) Option.none) fun (v17 : Go.Value) ↦
 Go.AI.tP v17 fun (b18 : Option Go.Addr) ↦
 Go.AI.pSome b2 fun (a19 : Go.Addr) ↦
 Go.AI.ldc σ1 (Go.Addr.mk (Go.Addr.block a19) (Go.Addr.off a19 + (13 : Nat)) Option.none) fun (v20 : Go.Value) ↦
 Go.AI.tI Go.IntKind.i64 v20 fun (n21 : Int) ↦
 Go.AI.newAt σ1 (Go.AI.AObj.row Go.AI.RK.rw [Go.Value.int Go.IntKind.u32 x]) fun (i22 : Nat) (σ23 : Go.AI.AS) ↦
 Go.AI.ldc σ23 (Go.Addr.mk (Go.Addr.block a19) (Go.Addr.off a19 + (13 : Nat)) Option.none) fun (v24 : Go.Value) ↦
 Go.AI.tI Go.IntKind.i64 v24 fun (n25 : Int) ↦
 Go.Value.int Go.IntKind.i64 n21 = Go.Value.int Go.IntKind.i64 n25 ∧
 Go.AI.ldc σ23 (Go.Addr.mk g ((0 : Nat) + (3 : Nat)) Option.none) fun (v26 : Go.Value) ↦
 Go.AI.tP v26 fun (b27 : Option Go.Addr) ↦
 Go.Value.pointer b18 = Go.Value.pointer b27 ∧
 T (78 : Nat) [Go.Value.pointer b18, Go.Value.int Go.IntKind.i64 n21, Go.Value.slice (Option.some (Go.Addr.mk i22 (0 : Nat) Option.none)) (1 : Nat) (1 : Nat)] σ23
 fun (v28 : Go.Value) (σ29 : Go.AI.AS) ↦ Go.AI.tI Go.IntKind.i64 v28 fun (n30 : Int) ↦ K (Go.Value.tuple (Array.mk [])) σ29)) := by
 intros
 kernel_rfl

end Go.AI
end
