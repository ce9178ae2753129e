/- The conditions ahead of the calls of the program's functions, reckoned as far as they go (equations that the kernel checks); no condition. -/
import Derived.Test.YtcjicaolgjialaaPySoft
import Derived.Test.YtcjicaolgjialaaAIJoin
set_option maxRecDepth 1000000
set_option linter.unusedVariables false
namespace Go.AI
open Go.Proofs
theorem s47 : ∀ (T : Go.AI.Ct) (x : Nat) (n : Int) (σ : Go.AI.AS) (K : Go.Value → Go.AI.AS → Prop),
  Go.AI.fw Go.Proofs.Try.prog Go.AI.hintsS T (47 : Nat) [Go.Value.pointer (Option.some (Go.Addr.mk x (0 : Nat) Option.none)), Go.Value.int Go.IntKind.i64 n] σ K =
  Go.AI.ALoop (Go.AI.fl Go.Proofs.Try.prog Go.AI.hintsS T (47 : Nat) [Bool.true, Bool.false, Bool.true, Bool.false] [] K)
  [((0 : Nat), Option.some (Go.Value.pointer (Option.some (Go.Addr.mk x (0 : Nat) Option.none)))), ((1 : Nat), Option.some (Go.Value.int Go.IntKind.i64 n)),
  ((5 : Nat), Option.some (Go.Value.int Go.IntKind.i64 (0 : Int)))]
  σ := by
  intros
  kernel_rfl

theorem s47l : ∀ (T : Go.AI.Ct) (x : Nat) (n i : Int) (X : Go.AI.Regs → Go.AI.AS → Prop) (σ : Go.AI.AS) (K : Go.Value → Go.AI.AS → Prop),
  Go.AI.fl Go.Proofs.Try.prog Go.AI.hintsS T (47 : Nat) [Bool.true, Bool.false, Bool.true, Bool.false] [] K X
  [((0 : Nat), Option.some (Go.Value.pointer (Option.some (Go.Addr.mk x (0 : Nat) Option.none)))), ((1 : Nat), Option.some (Go.Value.int Go.IntKind.i64 n)),
  ((5 : Nat), Option.some (Go.Value.int Go.IntKind.i64 i))]
  σ =
  Go.AI.ldc σ (Go.Addr.mk x ((0 : Nat) + (2 : Nat)) Option.none) fun (v0 : Go.Value) ↦
  Go.AI.tL (8 : Nat) v0 fun (s1 : Go.AI.Sl) ↦
  Go.AI.bmatch (Decidable.decide (i < (↑(Go.AI.Sl.n s1) : Int)))
  (Go.AI.ldc σ (Go.Addr.mk x ((0 : Nat) + (2 : Nat)) Option.none) fun (v2 : Go.Value) ↦
  Go.AI.tL (8 : Nat) v2 fun (s3 : Go.AI.Sl) ↦
  Go.AI.req ((0 : Int) ≤ i)
  (Go.AI.req (i < (↑(Go.AI.Sl.n s3) : Int))
  (Go.AI.pSome (Go.AI.Sl.a s3) fun (a4 : Go.Addr) ↦
  Go.AI.ldc σ (Go.Addr.add (Go.Addr.add a4 (Int.toNat i * Go.AI.szOf Go.Proofs.Try.prog (58 : Nat))) (0 : Nat)) fun (v5 : Go.Value) ↦
  Go.AI.tI Go.IntKind.i64 v5 fun (n6 : Int) ↦
  Go.AI.bmatch (n6 == n) (K (Go.Value.int Go.IntKind.i64 i) σ)
  (X
  [((0 : Nat), Option.some (Go.Value.pointer (Option.some (Go.Addr.mk x (0 : Nat) Option.none)))), ((1 : Nat), Option.some (Go.Value.int Go.IntKind.i64 n)),
  ((5 : Nat), Option.some (Go.Value.int Go.IntKind.i64 (Go.IntKind.wrap Go.IntKind.i64 (i + (1 : Int)))))]
  σ))))
  (K (Go.Value.int Go.IntKind.i64 (-1 : Int)) σ) := by
  intros
  kernel_rfl

theorem s29 : ∀ (T : Go.AI.Ct) (x : Nat) (n : Int) (σ : Go.AI.AS) (K : Go.Value → Go.AI.AS → Prop),
  Go.AI.fw Go.Proofs.Try.prog Go.AI.hintsS T (29 : Nat) [Go.Value.pointer (Option.some (Go.Addr.mk x (0 : Nat) Option.none)), Go.Value.int Go.IntKind.i64 n] σ K =
  Go.AI.newAt σ
  (Go.AI.AObj.row Go.AI.RK.plain
  [Go.Value.int Go.IntKind.i64 (0 : Int), Go.Value.int Go.IntKind.i64 (0 : Int), Go.Value.int Go.IntKind.i64 (0 : Int), Go.Value.int Go.IntKind.i64 (0 : Int), Go.Value.int Go.IntKind.i64 (0 : Int),
  Go.Value.int Go.IntKind.i64 (0 : Int), Go.Value.int Go.IntKind.u32 (0 : Int), Go.Value.int Go.IntKind.i64 (0 : Int)])
  fun (i0 : Nat) (σ1 : Go.AI.AS) ↦
  T (47 : Nat) [Go.Value.pointer (Option.some (Go.Addr.mk x (0 : Nat) Option.none)), Go.Value.int Go.IntKind.i64 n] σ1 fun (v2 : Go.Value) (σ3 : Go.AI.AS) ↦
  Go.AI.tI Go.IntKind.i64 v2 fun (n4 : Int) ↦
  Go.AI.bmatch (Decidable.decide (n4 < (0 : Int)))
  (Go.AI.puts σ3 (Go.Addr.mk i0 (0 : Nat) Option.none)
  [Go.Value.int Go.IntKind.i64 (0 : Int), Go.Value.int Go.IntKind.i64 (0 : Int), Go.Value.int Go.IntKind.i64 (0 : Int), Go.Value.int Go.IntKind.i64 (0 : Int), Go.Value.int Go.IntKind.i64 (0 : Int),
  Go.Value.int Go.IntKind.i64 (0 : Int), Go.Value.int Go.IntKind.u32 (0 : Int), Go.Value.int Go.IntKind.i64 (0 : Int)]
  fun (σ5 : Go.AI.AS) ↦
  Go.AI.lds σ5 (Go.Addr.mk i0 (0 : Nat) Option.none) (8 : Nat) fun (l6 : List Go.Value) ↦
  Go.AI.tCons l6 fun (v7 : Go.Value) (l8 : List Go.Value) ↦
  Go.AI.tI Go.IntKind.i64 v7 fun (n9 : Int) ↦
  Go.AI.tCons l8 fun (v10 : Go.Value) (l11 : List Go.Value) ↦
  Go.AI.tI Go.IntKind.i64 v10 fun (n12 : Int) ↦
  Go.AI.tCons l11 fun (v13 : Go.Value) (l14 : List Go.Value) ↦
  Go.AI.tI Go.IntKind.i64 v13 fun (n15 : Int) ↦
  Go.AI.tCons l14 fun (v16 : Go.Value) (l17 : List Go.Value) ↦
  Go.AI.tI Go.IntKind.i64 v16 fun (n18 : Int) ↦
  Go.AI.tCons l17 fun (v19 : Go.Value) (l20 : List Go.Value) ↦
  Go.AI.tI Go.IntKind.i64 v19 fun (n21 : Int) ↦
  Go.AI.tCons l20 fun (v22 : Go.Value) (l23 : List Go.Value) ↦
  Go.AI.tI Go.IntKind.i64 v22 fun (n24 : Int) ↦
  Go.AI.tCons l23 fun (v25 : Go.Value) (l26 : List Go.Value) ↦
  Go.AI.tI Go.IntKind.u32 v25 fun (n27 : Int) ↦
  Go.AI.tCons l26 fun (v28 : Go.Value) (l29 : List Go.Value) ↦
  Go.AI.tI Go.IntKind.i64 v28 fun (n30 : Int) ↦
  Go.AI.tNil l29
  (K
  (Go.Value.agg
  (Array.mk
  [Go.Value.int Go.IntKind.i64 n9, Go.Value.int Go.IntKind.i64 n12, Go.Value.int Go.IntKind.i64 n15, Go.Value.int Go.IntKind.i64 n18, Go.Value.int Go.IntKind.i64 n21,
  Go.Value.int Go.IntKind.i64 n24, Go.Value.int Go.IntKind.u32 n27, Go.Value.int Go.IntKind.i64 n30]))
  σ5))
  (Go.AI.ldc σ3 (Go.Addr.mk x ((0 : Nat) + (2 : Nat)) Option.none) fun (v31 : Go.Value) ↦
  Go.AI.tL (8 : Nat) v31 fun (s32 : Go.AI.Sl) ↦
  Go.AI.req ((0 : Int) ≤ n4)
  (Go.AI.req (n4 < (↑(Go.AI.Sl.n s32) : Int))
  (Go.AI.pSome (Go.AI.Sl.a s32) fun (a33 : Go.Addr) ↦
  Go.AI.lds σ3 (Go.Addr.add a33 (Int.toNat n4 * Go.AI.szOf Go.Proofs.Try.prog (58 : Nat))) (8 : Nat) fun (l34 : List Go.Value) ↦
  Go.AI.tCons l34 fun (v35 : Go.Value) (l36 : List Go.Value) ↦
  Go.AI.tI Go.IntKind.i64 v35 fun (n37 : Int) ↦
  Go.AI.tCons l36 fun (v38 : Go.Value) (l39 : List Go.Value) ↦
  Go.AI.tI Go.IntKind.i64 v38 fun (n40 : Int) ↦
  Go.AI.tCons l39 fun (v41 : Go.Value) (l42 : List Go.Value) ↦
  Go.AI.tI Go.IntKind.i64 v41 fun (n43 : Int) ↦
  Go.AI.tCons l42 fun (v44 : Go.Value) (l45 : List Go.Value) ↦
  Go.AI.tI Go.IntKind.i64 v44 fun (n46 : Int) ↦
  Go.AI.tCons l45 fun (v47 : Go.Value) (l48 : List Go.Value) ↦
  Go.AI.tI Go.IntKind.i64 v47 fun (n49 : Int) ↦
  Go.AI.tCons l48 fun (v50 : Go.Value) (l51 : List Go.Value) ↦
  Go.AI.tI Go.IntKind.i64 v50 fun (n52 : Int) ↦
  Go.AI.tCons l51 fun (v53 : Go.Value) (l54 : List Go.Value) ↦
  Go.AI.tI Go.IntKind.u32 v53 fun (n55 : Int) ↦
  Go.AI.tCons l54 fun (v56 : Go.Value) (l57 : List Go.Value) ↦
  Go.AI.tI Go.IntKind.i64 v56 fun (n58 : Int) ↦
  Go.AI.tNil l57
  (Go.AI.puts σ3 (Go.Addr.mk i0 (0 : Nat) Option.none)
  [Go.Value.int Go.IntKind.i64 n37, Go.Value.int Go.IntKind.i64 n40, Go.Value.int Go.IntKind.i64 n43, Go.Value.int Go.IntKind.i64 n46,
  Go.Value.int Go.IntKind.i64 n49, Go.Value.int Go.IntKind.i64 n52, Go.Value.int Go.IntKind.u32 n55, Go.Value.int Go.IntKind.i64 n58]
  fun (σ59 : Go.AI.AS) ↦
  Go.AI.lds σ59 (Go.Addr.mk i0 (0 : Nat) Option.none) (8 : Nat) fun (l60 : List Go.Value) ↦
  Go.AI.tCons l60 fun (v61 : Go.Value) (l62 : List Go.Value) ↦
  Go.AI.tI Go.IntKind.i64 v61 fun (n63 : Int) ↦
  Go.AI.tCons l62 fun (v64 : Go.Value) (l65 : List Go.Value) ↦
  Go.AI.tI Go.IntKind.i64 v64 fun (n66 : Int) ↦
  Go.AI.tCons l65 fun (v67 : Go.Value) (l68 : List Go.Value) ↦
  Go.AI.tI Go.IntKind.i64 v67 fun (n69 : Int) ↦
  Go.AI.tCons l68 fun (v70 : Go.Value) (l71 : List Go.Value) ↦
  Go.AI.tI Go.IntKind.i64 v70 fun (n72 : Int) ↦
  Go.AI.tCons l71 fun (v73 : Go.Value) (l74 : List Go.Value) ↦
  Go.AI.tI Go.IntKind.i64 v73 fun (n75 : Int) ↦
  Go.AI.tCons l74 fun (v76 : Go.Value) (l77 : List Go.Value) ↦
  Go.AI.tI Go.IntKind.i64 v76 fun (n78 : Int) ↦
  Go.AI.tCons l77 fun (v79 : Go.Value) (l80 : List Go.Value) ↦
  Go.AI.tI Go.IntKind.u32 v79 fun (n81 : Int) ↦
  Go.AI.tCons l80 fun (v82 : Go.Value) (l83 : List Go.Value) ↦
  Go.AI.tI Go.IntKind.i64 v82 fun (n84 : Int) ↦
  Go.AI.tNil l83
  (K
  (Go.Value.agg
  (Array.mk
  [Go.Value.int Go.IntKind.i64 n63, Go.Value.int Go.IntKind.i64 n66, Go.Value.int Go.IntKind.i64 n69,
  Go.Value.int Go.IntKind.i64 n72, Go.Value.int Go.IntKind.i64 n75, Go.Value.int Go.IntKind.i64 n78,
  Go.Value.int Go.IntKind.u32 n81, Go.Value.int Go.IntKind.i64 n84]))
  σ59))))) := by
  intros
  kernel_rfl

theorem s55 : ∀ (T : Go.AI.Ct) (x : Nat) (σ : Go.AI.AS) (K : Go.Value → Go.AI.AS → Prop),
  Go.AI.fw Go.Proofs.Try.prog Go.AI.hintsS T (55 : Nat) [Go.Value.pointer (Option.some (Go.Addr.mk x (0 : Nat) Option.none))] σ K =
  Go.AI.ALoop (Go.AI.fl Go.Proofs.Try.prog Go.AI.hintsS T (55 : Nat) [Bool.true, Bool.false, Bool.true, Bool.false] [] K)
  [((0 : Nat), Option.some (Go.Value.pointer (Option.some (Go.Addr.mk x (0 : Nat) Option.none)))), ((3 : Nat), Option.some (Go.Value.int Go.IntKind.i64 (0 : Int)))] σ := by
  intros
  kernel_rfl

theorem s55l : ∀ (T : Go.AI.Ct) (x : Nat) (i : Int) (X : Go.AI.Regs → Go.AI.AS → Prop) (σ : Go.AI.AS) (K : Go.Value → Go.AI.AS → Prop),
  Go.AI.fl Go.Proofs.Try.prog Go.AI.hintsS T (55 : Nat) [Bool.true, Bool.false, Bool.true, Bool.false] [] K X
  [((0 : Nat), Option.some (Go.Value.pointer (Option.some (Go.Addr.mk x (0 : Nat) Option.none)))), ((3 : Nat), Option.some (Go.Value.int Go.IntKind.i64 i))] σ =
  Go.AI.ldc σ (Go.Addr.mk x ((0 : Nat) + (2 : Nat)) Option.none) fun (v0 : Go.Value) ↦
  Go.AI.tL (8 : Nat) v0 fun (s1 : Go.AI.Sl) ↦
  Go.AI.bmatch (Decidable.decide (i < (↑(Go.AI.Sl.n s1) : Int)))
  (Go.AI.ldc σ (Go.Addr.mk x ((0 : Nat) + (2 : Nat)) Option.none) fun (v2 : Go.Value) ↦
  Go.AI.tL (8 : Nat) v2 fun (s3 : Go.AI.Sl) ↦
  Go.AI.req ((0 : Int) ≤ i)
  (Go.AI.req (i < (↑(Go.AI.Sl.n s3) : Int))
  (Go.AI.pSome (Go.AI.Sl.a s3) fun (a4 : Go.Addr) ↦
  Go.AI.ldc σ
  (Go.Addr.mk (Go.Addr.block (Go.Addr.add a4 (Int.toNat i * Go.AI.szOf Go.Proofs.Try.prog (58 : Nat))))
  (Go.Addr.off (Go.Addr.add a4 (Int.toNat i * Go.AI.szOf Go.Proofs.Try.prog (58 : Nat))) + (2 : Nat)) Option.none)
  fun (v5 : Go.Value) ↦
  Go.AI.tI Go.IntKind.i64 v5 fun (n6 : Int) ↦
  Go.AI.bmatch (n6 == (0 : Int))
  (Go.AI.ldc σ (Go.Addr.mk x ((0 : Nat) + (2 : Nat)) Option.none) fun (v7 : Go.Value) ↦
  Go.AI.tL (8 : Nat) v7 fun (s8 : Go.AI.Sl) ↦
  Go.AI.req ((0 : Int) ≤ i)
  (Go.AI.req (i < (↑(Go.AI.Sl.n s8) : Int))
  (Go.AI.pSome (Go.AI.Sl.a s8) fun (a9 : Go.Addr) ↦
  Go.AI.ldc σ (Go.Addr.add (Go.Addr.add a9 (Int.toNat i * Go.AI.szOf Go.Proofs.Try.prog (58 : Nat))) (0 : Nat)) fun (v10 : Go.Value) ↦
  Go.AI.tI Go.IntKind.i64 v10 fun (n11 : Int) ↦ K (Go.Value.int Go.IntKind.i64 n11) σ)))
  (X
  [((0 : Nat), Option.some (Go.Value.pointer (Option.some (Go.Addr.mk x (0 : Nat) Option.none)))),
  ((3 : Nat), Option.some (Go.Value.int Go.IntKind.i64 (Go.IntKind.wrap Go.IntKind.i64 (i + (1 : Int)))))]
  σ))))
  (K (Go.Value.int Go.IntKind.i64 (0 : Int)) σ) := by
  intros
  kernel_rfl

theorem s63 : ∀ (T : Go.AI.Ct) (n : Int) (σ : Go.AI.AS) (K : Go.Value → Go.AI.AS → Prop),
  Go.AI.fw Go.Proofs.Try.prog Go.AI.hintsS T (63 : Nat) [Go.Value.int Go.IntKind.i64 n] σ K =
  Go.AI.bmatch (Decidable.decide (n ≥ (16 : Int)))
  (Go.AI.bmatch (Decidable.decide (n < (20 : Int))) (K (Go.Value.bool Bool.true) σ)
  (Go.AI.bmatch (Decidable.decide (n ≥ (32 : Int))) (K (Go.Value.bool (Decidable.decide (n < (36 : Int)))) σ) (K (Go.Value.bool Bool.false) σ)))
  (Go.AI.bmatch (Decidable.decide (n ≥ (32 : Int))) (K (Go.Value.bool (Decidable.decide (n < (36 : Int)))) σ) (K (Go.Value.bool Bool.false) σ)) := by
  intros
  kernel_rfl

theorem s64 : ∀ (T : Go.AI.Ct) (n : Int) (σ : Go.AI.AS) (K : Go.Value → Go.AI.AS → Prop),
  Go.AI.fw Go.Proofs.Try.prog Go.AI.hintsS T (64 : Nat) [Go.Value.int Go.IntKind.i64 n] σ K = K (Go.Value.bool (Decidable.decide (Int.tmod n (16 : Int) < (2 : Int)))) σ := by
  intros
  kernel_rfl

theorem s32 : ∀ (T : Go.AI.Ct) (w h : Int) (σ : Go.AI.AS) (K : Go.Value → Go.AI.AS → Prop),
  Go.AI.fw Go.Proofs.Try.prog Go.AI.hintsS T (32 : Nat) [Go.Value.int Go.IntKind.i64 w, Go.Value.int Go.IntKind.i64 h] σ K =
  Go.AI.bmatch (Decidable.decide (w < (0 : Int))) (K (Go.Value.tuple (Array.mk [Go.Value.pointer Option.none, Go.Value.int Go.IntKind.i64 (1 : Int)])) σ)
  (Go.AI.bmatch (Decidable.decide (w > (1000 : Int))) (K (Go.Value.tuple (Array.mk [Go.Value.pointer Option.none, Go.Value.int Go.IntKind.i64 (1 : Int)])) σ)
  (Go.AI.bmatch (Decidable.decide (h < (0 : Int))) (K (Go.Value.tuple (Array.mk [Go.Value.pointer Option.none, Go.Value.int Go.IntKind.i64 (1 : Int)])) σ)
  (Go.AI.bmatch (Decidable.decide (h > (1000 : Int))) (K (Go.Value.tuple (Array.mk [Go.Value.pointer Option.none, Go.Value.int Go.IntKind.i64 (1 : Int)])) σ)
  (Go.AI.newAt σ (Go.AI.AObj.row Go.AI.RK.plain [Go.Value.int Go.IntKind.i64 w, Go.Value.int Go.IntKind.i64 h, Go.Value.slice Option.none (0 : Nat) (0 : Nat), Go.Value.int Go.IntKind.i64 (0 : Int)])
  fun (i0 : Nat) (σ1 : Go.AI.AS) ↦ K (Go.Value.tuple (Array.mk [Go.Value.pointer (Option.some (Go.Addr.mk i0 (0 : Nat) Option.none)), Go.Value.int Go.IntKind.i64 (0 : Int)])) σ1)))) := by
  intros
  kernel_rfl

theorem s60 : ∀ (T : Go.AI.Ct) (x : Nat) (p was now : Int) (σ : Go.AI.AS) (K : Go.Value → Go.AI.AS → Prop),
  Go.AI.fw Go.Proofs.Try.prog Go.AI.hintsS T (60 : Nat)
  [Go.Value.pointer (Option.some (Go.Addr.mk x (0 : Nat) Option.none)), Go.Value.int Go.IntKind.i64 p, Go.Value.int Go.IntKind.i64 was, Go.Value.int Go.IntKind.i64 now] σ K =
  Go.AI.ALoop (Go.AI.fl Go.Proofs.Try.prog Go.AI.hintsS T (60 : Nat) [Bool.true, Bool.false] [] K)
  [((0 : Nat), Option.some (Go.Value.pointer (Option.some (Go.Addr.mk x (0 : Nat) Option.none)))), ((1 : Nat), Option.some (Go.Value.int Go.IntKind.i64 p)),
  ((2 : Nat), Option.some (Go.Value.int Go.IntKind.i64 was)), ((3 : Nat), Option.some (Go.Value.int Go.IntKind.i64 now)), ((8 : Nat), Option.some (Go.Value.int Go.IntKind.i64 (0 : Int)))]
  σ := by
  intros
  kernel_rfl

theorem s60l : ∀ (T : Go.AI.Ct) (x : Nat) (p was now i : Int) (X : Go.AI.Regs → Go.AI.AS → Prop) (σ : Go.AI.AS) (K : Go.Value → Go.AI.AS → Prop),
  Go.AI.fl Go.Proofs.Try.prog Go.AI.hintsS T (60 : Nat) [Bool.true, Bool.false] [] K X
  [((0 : Nat), Option.some (Go.Value.pointer (Option.some (Go.Addr.mk x (0 : Nat) Option.none)))), ((1 : Nat), Option.some (Go.Value.int Go.IntKind.i64 p)),
  ((2 : Nat), Option.some (Go.Value.int Go.IntKind.i64 was)), ((3 : Nat), Option.some (Go.Value.int Go.IntKind.i64 now)), ((8 : Nat), Option.some (Go.Value.int Go.IntKind.i64 i))]
  σ =
  Go.AI.ldc σ (Go.Addr.mk x ((0 : Nat) + (2 : Nat)) Option.none) fun (v0 : Go.Value) ↦
  Go.AI.tL (8 : Nat) v0 fun (s1 : Go.AI.Sl) ↦
  Go.AI.bmatch (Decidable.decide (i < (↑(Go.AI.Sl.n s1) : Int)))
  (Go.AI.ldc σ (Go.Addr.mk x ((0 : Nat) + (2 : Nat)) Option.none) fun (v2 : Go.Value) ↦
  Go.AI.tL (8 : Nat) v2 fun (s3 : Go.AI.Sl) ↦
  Go.AI.req ((0 : Int) ≤ i)
  (Go.AI.req (i < (↑(Go.AI.Sl.n s3) : Int))
  (Go.AI.pSome (Go.AI.Sl.a s3) fun (a4 : Go.Addr) ↦
  Go.AI.ldc σ (Go.Addr.add (Go.Addr.add a4 (Int.toNat i * Go.AI.szOf Go.Proofs.Try.prog (58 : Nat))) (0 : Nat)) fun (v5 : Go.Value) ↦
  Go.AI.tI Go.IntKind.i64 v5 fun (n6 : Int) ↦
  Go.AI.bmatch (n6 == now)
  (Go.AI.ldc σ (Go.Addr.mk x ((0 : Nat) + (2 : Nat)) Option.none) fun (v7 : Go.Value) ↦
  Go.AI.tL (8 : Nat) v7 fun (s8 : Go.AI.Sl) ↦
  Go.AI.req ((0 : Int) ≤ i)
  (Go.AI.req (i < (↑(Go.AI.Sl.n s8) : Int))
  (Go.AI.pSome (Go.AI.Sl.a s8) fun (a9 : Go.Addr) ↦
  Go.AI.put1 σ
  (Go.Addr.mk (Go.Addr.block (Go.Addr.add a9 (Int.toNat i * Go.AI.szOf Go.Proofs.Try.prog (58 : Nat))))
  (Go.Addr.off (Go.Addr.add a9 (Int.toNat i * Go.AI.szOf Go.Proofs.Try.prog (58 : Nat))) + (2 : Nat)) Option.none)
  (Go.Value.int Go.IntKind.i64 p) fun (σ10 : Go.AI.AS) ↦
  Go.AI.JoinS (Go.AI.jn Go.Proofs.Try.prog Go.AI.hintsS T (60 : Nat) [Bool.true, Bool.false, Bool.false, Bool.true, Bool.false, Bool.false] [X] K)
  [((0 : Nat), Option.some (Go.Value.pointer (Option.some (Go.Addr.mk x (0 : Nat) Option.none)))), ((1 : Nat), Option.some (Go.Value.int Go.IntKind.i64 p)),
  ((2 : Nat), Option.some (Go.Value.int Go.IntKind.i64 was)), ((3 : Nat), Option.some (Go.Value.int Go.IntKind.i64 now)),
  ((8 : Nat), Option.some (Go.Value.int Go.IntKind.i64 i))]
  σ10)))
  (Go.AI.JoinS (Go.AI.jn Go.Proofs.Try.prog Go.AI.hintsS T (60 : Nat) [Bool.true, Bool.false, Bool.false, Bool.true, Bool.false, Bool.false] [X] K)
  [((0 : Nat), Option.some (Go.Value.pointer (Option.some (Go.Addr.mk x (0 : Nat) Option.none)))), ((1 : Nat), Option.some (Go.Value.int Go.IntKind.i64 p)),
  ((2 : Nat), Option.some (Go.Value.int Go.IntKind.i64 was)), ((3 : Nat), Option.some (Go.Value.int Go.IntKind.i64 now)), ((8 : Nat), Option.some (Go.Value.int Go.IntKind.i64 i))]
  σ))))
  (K (Go.Value.tuple (Array.mk [])) σ) := by
  intros
  kernel_rfl

theorem s60j : ∀ (T : Go.AI.Ct) (x : Nat) (p was now i : Int) (X : Go.AI.Regs → Go.AI.AS → Prop) (σ : Go.AI.AS) (K : Go.Value → Go.AI.AS → Prop),
  Go.AI.jn Go.Proofs.Try.prog Go.AI.hintsS T (60 : Nat) [Bool.true, Bool.false, Bool.false, Bool.true, Bool.false, Bool.false] [X] K
  [((0 : Nat), Option.some (Go.Value.pointer (Option.some (Go.Addr.mk x (0 : Nat) Option.none)))), ((1 : Nat), Option.some (Go.Value.int Go.IntKind.i64 p)),
  ((2 : Nat), Option.some (Go.Value.int Go.IntKind.i64 was)), ((3 : Nat), Option.some (Go.Value.int Go.IntKind.i64 now)), ((8 : Nat), Option.some (Go.Value.int Go.IntKind.i64 i))]
  σ =
  Go.AI.ldc σ (Go.Addr.mk x ((0 : Nat) + (2 : Nat)) Option.none) fun (v0 : Go.Value) ↦
  Go.AI.tL (8 : Nat) v0 fun (s1 : Go.AI.Sl) ↦
  Go.AI.req ((0 : Int) ≤ i)
  (Go.AI.req (i < (↑(Go.AI.Sl.n s1) : Int))
  (Go.AI.pSome (Go.AI.Sl.a s1) fun (a2 : Go.Addr) ↦
  Go.AI.ldc σ (Go.Addr.add (Go.Addr.add a2 (Int.toNat i * Go.AI.szOf Go.Proofs.Try.prog (58 : Nat))) (0 : Nat)) fun (v3 : Go.Value) ↦
  Go.AI.tI Go.IntKind.i64 v3 fun (n4 : Int) ↦
  Go.AI.bmatch (n4 == p)
  (Go.AI.ldc σ (Go.Addr.mk x ((0 : Nat) + (2 : Nat)) Option.none) fun (v5 : Go.Value) ↦
  Go.AI.tL (8 : Nat) v5 fun (s6 : Go.AI.Sl) ↦
  Go.AI.req ((0 : Int) ≤ i)
  (Go.AI.req (i < (↑(Go.AI.Sl.n s6) : Int))
  (Go.AI.pSome (Go.AI.Sl.a s6) fun (a7 : Go.Addr) ↦
  Go.AI.ldc σ
  (Go.Addr.mk (Go.Addr.block (Go.Addr.add a7 (Int.toNat i * Go.AI.szOf Go.Proofs.Try.prog (58 : Nat))))
  (Go.Addr.off (Go.Addr.add a7 (Int.toNat i * Go.AI.szOf Go.Proofs.Try.prog (58 : Nat))) + (3 : Nat)) Option.none)
  fun (v8 : Go.Value) ↦
  Go.AI.tI Go.IntKind.i64 v8 fun (n9 : Int) ↦
  Go.AI.bmatch (n9 == was)
  (Go.AI.ldc σ (Go.Addr.mk x ((0 : Nat) + (2 : Nat)) Option.none) fun (v10 : Go.Value) ↦
  Go.AI.tL (8 : Nat) v10 fun (s11 : Go.AI.Sl) ↦
  Go.AI.req ((0 : Int) ≤ i)
  (Go.AI.req (i < (↑(Go.AI.Sl.n s11) : Int))
  (Go.AI.pSome (Go.AI.Sl.a s11) fun (a12 : Go.Addr) ↦
  Go.AI.put1 σ
  (Go.Addr.mk (Go.Addr.block (Go.Addr.add a12 (Int.toNat i * Go.AI.szOf Go.Proofs.Try.prog (58 : Nat))))
  (Go.Addr.off (Go.Addr.add a12 (Int.toNat i * Go.AI.szOf Go.Proofs.Try.prog (58 : Nat))) + (3 : Nat)) Option.none)
  (Go.Value.int Go.IntKind.i64 now) fun (σ13 : Go.AI.AS) ↦
  X
  [((0 : Nat), Option.some (Go.Value.pointer (Option.some (Go.Addr.mk x (0 : Nat) Option.none)))), ((1 : Nat), Option.some (Go.Value.int Go.IntKind.i64 p)),
  ((2 : Nat), Option.some (Go.Value.int Go.IntKind.i64 was)), ((3 : Nat), Option.some (Go.Value.int Go.IntKind.i64 now)),
  ((8 : Nat), Option.some (Go.Value.int Go.IntKind.i64 (Go.IntKind.wrap Go.IntKind.i64 (i + (1 : Int)))))]
  σ13)))
  (Go.AI.ldc σ (Go.Addr.mk x ((0 : Nat) + (2 : Nat)) Option.none) fun (v14 : Go.Value) ↦
  Go.AI.tL (8 : Nat) v14 fun (s15 : Go.AI.Sl) ↦
  Go.AI.req ((0 : Int) ≤ i)
  (Go.AI.req (i < (↑(Go.AI.Sl.n s15) : Int))
  (Go.AI.pSome (Go.AI.Sl.a s15) fun (a16 : Go.Addr) ↦
  Go.AI.ldc σ (Go.Addr.add (Go.Addr.add a16 (Int.toNat i * Go.AI.szOf Go.Proofs.Try.prog (58 : Nat))) (0 : Nat)) fun (v17 : Go.Value) ↦
  Go.AI.tI Go.IntKind.i64 v17 fun (n18 : Int) ↦
  Go.AI.bmatch (n18 == p)
  (Go.AI.ldc σ (Go.Addr.mk x ((0 : Nat) + (2 : Nat)) Option.none) fun (v19 : Go.Value) ↦
  Go.AI.tL (8 : Nat) v19 fun (s20 : Go.AI.Sl) ↦
  Go.AI.req ((0 : Int) ≤ i)
  (Go.AI.req (i < (↑(Go.AI.Sl.n s20) : Int))
  (Go.AI.pSome (Go.AI.Sl.a s20) fun (a21 : Go.Addr) ↦
  Go.AI.ldc σ
  (Go.Addr.mk (Go.Addr.block (Go.Addr.add a21 (Int.toNat i * Go.AI.szOf Go.Proofs.Try.prog (58 : Nat))))
  (Go.Addr.off (Go.Addr.add a21 (Int.toNat i * Go.AI.szOf Go.Proofs.Try.prog (58 : Nat))) + (4 : Nat)) Option.none)
  fun (v22 : Go.Value) ↦
  Go.AI.tI Go.IntKind.i64 v22 fun (n23 : Int) ↦
  Go.AI.bmatch (n23 == was)
  (Go.AI.ldc σ (Go.Addr.mk x ((0 : Nat) + (2 : Nat)) Option.none) fun (v24 : Go.Value) ↦
  Go.AI.tL (8 : Nat) v24 fun (s25 : Go.AI.Sl) ↦
  Go.AI.req ((0 : Int) ≤ i)
  (Go.AI.req (i < (↑(Go.AI.Sl.n s25) : Int))
  (Go.AI.pSome (Go.AI.Sl.a s25) fun (a26 : Go.Addr) ↦
  Go.AI.put1 σ
  (Go.Addr.mk (Go.Addr.block (Go.Addr.add a26 (Int.toNat i * Go.AI.szOf Go.Proofs.Try.prog (58 : Nat))))
  (Go.Addr.off (Go.Addr.add a26 (Int.toNat i * Go.AI.szOf Go.Proofs.Try.prog (58 : Nat))) + (4 : Nat)) Option.none)
  (Go.Value.int Go.IntKind.i64 now) fun (σ27 : Go.AI.AS) ↦
  X
  [((0 : Nat), Option.some (Go.Value.pointer (Option.some (Go.Addr.mk x (0 : Nat) Option.none)))),
  ((1 : Nat), Option.some (Go.Value.int Go.IntKind.i64 p)), ((2 : Nat), Option.some (Go.Value.int Go.IntKind.i64 was)),
  ((3 : Nat), Option.some (Go.Value.int Go.IntKind.i64 now)),
  ((8 : Nat), Option.some (Go.Value.int Go.IntKind.i64 (Go.IntKind.wrap Go.IntKind.i64 (i + (1 : Int)))))]
  σ27)))
  (X
  [((0 : Nat), Option.some (Go.Value.pointer (Option.some (Go.Addr.mk x (0 : Nat) Option.none)))),
  ((1 : Nat), Option.some (Go.Value.int Go.IntKind.i64 p)), ((2 : Nat), Option.some (Go.Value.int Go.IntKind.i64 was)),
  ((3 : Nat), Option.some (Go.Value.int Go.IntKind.i64 now)),
  ((8 : Nat), Option.some (Go.Value.int Go.IntKind.i64 (Go.IntKind.wrap Go.IntKind.i64 (i + (1 : Int)))))]
  σ))))
  (X
  [((0 : Nat), Option.some (Go.Value.pointer (Option.some (Go.Addr.mk x (0 : Nat) Option.none)))), ((1 : Nat), Option.some (Go.Value.int Go.IntKind.i64 p)),
  ((2 : Nat), Option.some (Go.Value.int Go.IntKind.i64 was)), ((3 : Nat), Option.some (Go.Value.int Go.IntKind.i64 now)),
  ((8 : Nat), Option.some (Go.Value.int Go.IntKind.i64 (Go.IntKind.wrap Go.IntKind.i64 (i + (1 : Int)))))]
  σ)))))))
  (Go.AI.ldc σ (Go.Addr.mk x ((0 : Nat) + (2 : Nat)) Option.none) fun (v28 : Go.Value) ↦
  Go.AI.tL (8 : Nat) v28 fun (s29 : Go.AI.Sl) ↦
  Go.AI.req ((0 : Int) ≤ i)
  (Go.AI.req (i < (↑(Go.AI.Sl.n s29) : Int))
  (Go.AI.pSome (Go.AI.Sl.a s29) fun (a30 : Go.Addr) ↦
  Go.AI.ldc σ (Go.Addr.add (Go.Addr.add a30 (Int.toNat i * Go.AI.szOf Go.Proofs.Try.prog (58 : Nat))) (0 : Nat)) fun (v31 : Go.Value) ↦
  Go.AI.tI Go.IntKind.i64 v31 fun (n32 : Int) ↦
  Go.AI.bmatch (n32 == p)
  (Go.AI.ldc σ (Go.Addr.mk x ((0 : Nat) + (2 : Nat)) Option.none) fun (v33 : Go.Value) ↦
  Go.AI.tL (8 : Nat) v33 fun (s34 : Go.AI.Sl) ↦
  Go.AI.req ((0 : Int) ≤ i)
  (Go.AI.req (i < (↑(Go.AI.Sl.n s34) : Int))
  (Go.AI.pSome (Go.AI.Sl.a s34) fun (a35 : Go.Addr) ↦
  Go.AI.ldc σ
  (Go.Addr.mk (Go.Addr.block (Go.Addr.add a35 (Int.toNat i * Go.AI.szOf Go.Proofs.Try.prog (58 : Nat))))
  (Go.Addr.off (Go.Addr.add a35 (Int.toNat i * Go.AI.szOf Go.Proofs.Try.prog (58 : Nat))) + (4 : Nat)) Option.none)
  fun (v36 : Go.Value) ↦
  Go.AI.tI Go.IntKind.i64 v36 fun (n37 : Int) ↦
  Go.AI.bmatch (n37 == was)
  (Go.AI.ldc σ (Go.Addr.mk x ((0 : Nat) + (2 : Nat)) Option.none) fun (v38 : Go.Value) ↦
  Go.AI.tL (8 : Nat) v38 fun (s39 : Go.AI.Sl) ↦
  Go.AI.req ((0 : Int) ≤ i)
  (Go.AI.req (i < (↑(Go.AI.Sl.n s39) : Int))
  (Go.AI.pSome (Go.AI.Sl.a s39) fun (a40 : Go.Addr) ↦
  Go.AI.put1 σ
  (Go.Addr.mk (Go.Addr.block (Go.Addr.add a40 (Int.toNat i * Go.AI.szOf Go.Proofs.Try.prog (58 : Nat))))
  (Go.Addr.off (Go.Addr.add a40 (Int.toNat i * Go.AI.szOf Go.Proofs.Try.prog (58 : Nat))) + (4 : Nat)) Option.none)
  (Go.Value.int Go.IntKind.i64 now) fun (σ41 : Go.AI.AS) ↦
  X
  [((0 : Nat), Option.some (Go.Value.pointer (Option.some (Go.Addr.mk x (0 : Nat) Option.none)))),
  ((1 : Nat), Option.some (Go.Value.int Go.IntKind.i64 p)), ((2 : Nat), Option.some (Go.Value.int Go.IntKind.i64 was)),
  ((3 : Nat), Option.some (Go.Value.int Go.IntKind.i64 now)),
  ((8 : Nat), Option.some (Go.Value.int Go.IntKind.i64 (Go.IntKind.wrap Go.IntKind.i64 (i + (1 : Int)))))]
  σ41)))
  (X
  [((0 : Nat), Option.some (Go.Value.pointer (Option.some (Go.Addr.mk x (0 : Nat) Option.none)))), ((1 : Nat), Option.some (Go.Value.int Go.IntKind.i64 p)),
  ((2 : Nat), Option.some (Go.Value.int Go.IntKind.i64 was)), ((3 : Nat), Option.some (Go.Value.int Go.IntKind.i64 now)),
  ((8 : Nat), Option.some (Go.Value.int Go.IntKind.i64 (Go.IntKind.wrap Go.IntKind.i64 (i + (1 : Int)))))]
  σ))))
  (X
  [((0 : Nat), Option.some (Go.Value.pointer (Option.some (Go.Addr.mk x (0 : Nat) Option.none)))), ((1 : Nat), Option.some (Go.Value.int Go.IntKind.i64 p)),
  ((2 : Nat), Option.some (Go.Value.int Go.IntKind.i64 was)), ((3 : Nat), Option.some (Go.Value.int Go.IntKind.i64 now)),
  ((8 : Nat), Option.some (Go.Value.int Go.IntKind.i64 (Go.IntKind.wrap Go.IntKind.i64 (i + (1 : Int)))))]
  σ)))))) := by
  intros
  kernel_rfl

theorem s53 : ∀ (T : Go.AI.Ct) (x : Nat) (split m size kind : Int) (σ : Go.AI.AS) (K : Go.Value → Go.AI.AS → Prop),
  Go.AI.fw Go.Proofs.Try.prog Go.AI.hintsS T (53 : Nat)
  [Go.Value.pointer (Option.some (Go.Addr.mk x (0 : Nat) Option.none)), Go.Value.int Go.IntKind.i64 split, Go.Value.int Go.IntKind.i64 m, Go.Value.int Go.IntKind.u32 size, Go.Value.int Go.IntKind.i64 kind]
  σ K =
  Go.AI.bmatch (Decidable.decide (kind < (1 : Int))) (K (Go.Value.tuple (Array.mk [Go.Value.int Go.IntKind.i64 (0 : Int), Go.Value.int Go.IntKind.i64 (1 : Int)])) σ)
  (Go.AI.bmatch (Decidable.decide (kind > (3 : Int))) (K (Go.Value.tuple (Array.mk [Go.Value.int Go.IntKind.i64 (0 : Int), Go.Value.int Go.IntKind.i64 (1 : Int)])) σ)
  (Go.AI.bmatch (split == (0 : Int))
  (Go.AI.ldc σ (Go.Addr.mk x ((0 : Nat) + (2 : Nat)) Option.none) fun (v0 : Go.Value) ↦
  Go.AI.tL (8 : Nat) v0 fun (s1 : Go.AI.Sl) ↦
  Go.AI.bmatch (Decidable.decide ((↑(Go.AI.Sl.n s1) : Int) > (0 : Int))) (K (Go.Value.tuple (Array.mk [Go.Value.int Go.IntKind.i64 (0 : Int), Go.Value.int Go.IntKind.i64 (6 : Int)])) σ)
  (Go.AI.bmatch (split != (0 : Int))
  (T (47 : Nat) [Go.Value.pointer (Option.some (Go.Addr.mk x (0 : Nat) Option.none)), Go.Value.int Go.IntKind.i64 split] σ fun (v2 : Go.Value) (σ3 : Go.AI.AS) ↦
  Go.AI.tI Go.IntKind.i64 v2 fun (n4 : Int) ↦
  Go.AI.bmatch (Decidable.decide (n4 < (0 : Int))) (K (Go.Value.tuple (Array.mk [Go.Value.int Go.IntKind.i64 (0 : Int), Go.Value.int Go.IntKind.i64 (5 : Int)])) σ3)
  (Go.AI.bmatch (split != (0 : Int))
  (T (63 : Nat) [Go.Value.int Go.IntKind.i64 m] σ3 fun (v5 : Go.Value) (σ6 : Go.AI.AS) ↦
  Go.AI.tB v5 fun (b7 : Bool) ↦
  Go.AI.bmatch (!b7) (K (Go.Value.tuple (Array.mk [Go.Value.int Go.IntKind.i64 (0 : Int), Go.Value.int Go.IntKind.i64 (1 : Int)])) σ6)
  (Go.AI.bmatch (split != (0 : Int))
  (Go.AI.ldc σ6 (Go.Addr.mk x ((0 : Nat) + (2 : Nat)) Option.none) fun (v8 : Go.Value) ↦
  Go.AI.tL (8 : Nat) v8 fun (s9 : Go.AI.Sl) ↦
  Go.AI.bmatch (Decidable.decide ((↑(Go.AI.Sl.n s9) : Int) > (62 : Int)))
  (K (Go.Value.tuple (Array.mk [Go.Value.int Go.IntKind.i64 (0 : Int), Go.Value.int Go.IntKind.i64 (4 : Int)])) σ6)
  (Go.AI.ldc σ6 (Go.Addr.mk x ((0 : Nat) + (3 : Nat)) Option.none) fun (v10 : Go.Value) ↦
  Go.AI.tI Go.IntKind.i64 v10 fun (n11 : Int) ↦
  Go.AI.bmatch (split == (0 : Int))
  (Go.AI.ldc σ6 (Go.Addr.mk x ((0 : Nat) + (2 : Nat)) Option.none) fun (v12 : Go.Value) ↦
  Go.AI.tL (8 : Nat) v12 fun (s13 : Go.AI.Sl) ↦
  Go.AI.newAt σ6
  (Go.AI.AObj.row Go.AI.RK.rw
  [Go.Value.int Go.IntKind.i64 (Go.IntKind.wrap Go.IntKind.i64 (n11 + (1 : Int))), Go.Value.int Go.IntKind.i64 kind, Go.Value.int Go.IntKind.i64 (0 : Int),
  Go.Value.int Go.IntKind.i64 (0 : Int), Go.Value.int Go.IntKind.i64 (0 : Int), Go.Value.int Go.IntKind.i64 (0 : Int), Go.Value.int Go.IntKind.u32 (0 : Int),
  Go.Value.int Go.IntKind.i64 (0 : Int)])
  fun (i14 : Nat) (σ15 : Go.AI.AS) ↦
  Go.AI.lds σ15 (Go.Addr.mk i14 (0 : Nat) Option.none) (8 : Nat) fun (l16 : List Go.Value) ↦
  Go.AI.appendTo σ15 (8 : Nat) (64 : Nat) (Go.AI.Sl.mk (Go.AI.Sl.a s13) (Go.AI.Sl.n s13)) l16 (1 : Nat) fun (s17 : Go.AI.Sl) (σ18 : Go.AI.AS) ↦
  Go.AI.put1 σ18 (Go.Addr.mk x ((0 : Nat) + (2 : Nat)) Option.none) (Go.Value.slice (Go.AI.Sl.a s17) (Go.AI.Sl.n s17) (8 : Nat)) fun (σ19 : Go.AI.AS) ↦
  Go.AI.put1 σ19 (Go.Addr.mk x ((0 : Nat) + (3 : Nat)) Option.none) (Go.Value.int Go.IntKind.i64 (Go.IntKind.wrap Go.IntKind.i64 (n11 + (1 : Int))))
  fun (σ20 : Go.AI.AS) ↦
  K (Go.Value.tuple (Array.mk [Go.Value.int Go.IntKind.i64 (Go.IntKind.wrap Go.IntKind.i64 (n11 + (1 : Int))), Go.Value.int Go.IntKind.i64 (0 : Int)])) σ20)
  (T (29 : Nat) [Go.Value.pointer (Option.some (Go.Addr.mk x (0 : Nat) Option.none)), Go.Value.int Go.IntKind.i64 split] σ6 fun (v21 : Go.Value) (σ22 : Go.AI.AS) ↦
  Go.AI.tAgg v21 fun (l23 : List Go.Value) ↦
  Go.AI.tCons l23 fun (v24 : Go.Value) (l25 : List Go.Value) ↦
  Go.AI.tI Go.IntKind.i64 v24 fun (n26 : Int) ↦
  Go.AI.tCons l25 fun (v27 : Go.Value) (l28 : List Go.Value) ↦
  Go.AI.tI Go.IntKind.i64 v27 fun (n29 : Int) ↦
  Go.AI.tCons l28 fun (v30 : Go.Value) (l31 : List Go.Value) ↦
  Go.AI.tI Go.IntKind.i64 v30 fun (n32 : Int) ↦
  Go.AI.tCons l31 fun (v33 : Go.Value) (l34 : List Go.Value) ↦
  Go.AI.tI Go.IntKind.i64 v33 fun (n35 : Int) ↦
  Go.AI.tCons l34 fun (v36 : Go.Value) (l37 : List Go.Value) ↦
  Go.AI.tI Go.IntKind.i64 v36 fun (n38 : Int) ↦
  Go.AI.tCons l37 fun (v39 : Go.Value) (l40 : List Go.Value) ↦
  Go.AI.tI Go.IntKind.i64 v39 fun (n41 : Int) ↦
  Go.AI.tCons l40 fun (v42 : Go.Value) (l43 : List Go.Value) ↦
  Go.AI.tI Go.IntKind.u32 v42 fun (n44 : Int) ↦
  Go.AI.tCons l43 fun (v45 : Go.Value) (l46 : List Go.Value) ↦
  Go.AI.tI Go.IntKind.i64 v45 fun (n47 : Int) ↦
  Go.AI.tNil l46
  (Go.AI.newAt σ22
  (Go.AI.AObj.row Go.AI.RK.plain
  [Go.Value.int Go.IntKind.i64 (0 : Int), Go.Value.int Go.IntKind.i64 (0 : Int), Go.Value.int Go.IntKind.i64 (0 : Int),
  Go.Value.int Go.IntKind.i64 (0 : Int), Go.Value.int Go.IntKind.i64 (0 : Int), Go.Value.int Go.IntKind.i64 (0 : Int),
  Go.Value.int Go.IntKind.u32 (0 : Int), Go.Value.int Go.IntKind.i64 (0 : Int)])
  fun (i48 : Nat) (σ49 : Go.AI.AS) ↦
  Go.AI.puts σ49 (Go.Addr.mk i48 (0 : Nat) Option.none)
  [Go.Value.int Go.IntKind.i64 n26, Go.Value.int Go.IntKind.i64 n29, Go.Value.int Go.IntKind.i64 n32, Go.Value.int Go.IntKind.i64 n35,
  Go.Value.int Go.IntKind.i64 n38, Go.Value.int Go.IntKind.i64 n41, Go.Value.int Go.IntKind.u32 n44,
  Go.Value.int Go.IntKind.i64 n47]
  fun (σ50 : Go.AI.AS) ↦
  Go.AI.newAt σ50
  (Go.AI.AObj.row Go.AI.RK.plain
  [Go.Value.int Go.IntKind.i64 (0 : Int), Go.Value.int Go.IntKind.i64 (0 : Int), Go.Value.int Go.IntKind.i64 (0 : Int),
  Go.Value.int Go.IntKind.i64 (0 : Int), Go.Value.int Go.IntKind.i64 (0 : Int), Go.Value.int Go.IntKind.i64 (0 : Int),
  Go.Value.int Go.IntKind.u32 (0 : Int), Go.Value.int Go.IntKind.i64 (0 : Int)])
  fun (i51 : Nat) (σ52 : Go.AI.AS) ↦
  Go.AI.puts σ52 (Go.Addr.mk i51 (0 : Nat) Option.none)
  [Go.Value.int Go.IntKind.i64 (Go.IntKind.wrap Go.IntKind.i64 (Go.IntKind.wrap Go.IntKind.i64 (n11 + (1 : Int)) + (1 : Int))),
  Go.Value.int Go.IntKind.i64 (4 : Int), Go.Value.int Go.IntKind.i64 (0 : Int), Go.Value.int Go.IntKind.i64 split,
  Go.Value.int Go.IntKind.i64 (Go.IntKind.wrap Go.IntKind.i64 (n11 + (1 : Int))), Go.Value.int Go.IntKind.i64 m,
  Go.Value.int Go.IntKind.u32 size, Go.Value.int Go.IntKind.i64 (Go.IntKind.wrap Go.IntKind.i64 (n11 + (1 : Int)))]
  fun (σ53 : Go.AI.AS) ↦
  Go.AI.bmatch (Int.tmod m (2 : Int) == (0 : Int))
  (Go.AI.put1 σ53 (Go.Addr.mk i51 ((0 : Nat) + (3 : Nat)) Option.none)
  (Go.Value.int Go.IntKind.i64 (Go.IntKind.wrap Go.IntKind.i64 (n11 + (1 : Int)))) fun (σ54 : Go.AI.AS) ↦
  Go.AI.put1 σ54 (Go.Addr.mk i51 ((0 : Nat) + (4 : Nat)) Option.none) (Go.Value.int Go.IntKind.i64 split)
  fun (σ55 : Go.AI.AS) ↦
  Go.AI.JoinS
  (Go.AI.jn Go.Proofs.Try.prog Go.AI.hintsS T (53 : Nat)
  [Bool.true, Bool.true, Bool.true, Bool.true, Bool.true, Bool.true, Bool.true, Bool.true, Bool.true, Bool.true] [] K)
  [((0 : Nat), Option.some (Go.Value.pointer (Option.some (Go.Addr.mk x (0 : Nat) Option.none)))),
  ((1 : Nat), Option.some (Go.Value.int Go.IntKind.i64 split)),
  ((4 : Nat), Option.some (Go.Value.int Go.IntKind.i64 kind)),
  ((12 : Nat), Option.some (Go.Value.int Go.IntKind.i64 (Go.IntKind.wrap Go.IntKind.i64 (n11 + (1 : Int))))),
  ((13 : Nat), Option.some (Go.Value.pointer (Option.some (Go.Addr.mk i48 (0 : Nat) Option.none)))),
  ((14 : Nat), Option.some (Go.Value.pointer (Option.some (Go.Addr.mk i51 (0 : Nat) Option.none))))]
  σ55)
  (Go.AI.JoinS
  (Go.AI.jn Go.Proofs.Try.prog Go.AI.hintsS T (53 : Nat)
  [Bool.true, Bool.true, Bool.true, Bool.true, Bool.true, Bool.true, Bool.true, Bool.true, Bool.true, Bool.true] [] K)
  [((0 : Nat), Option.some (Go.Value.pointer (Option.some (Go.Addr.mk x (0 : Nat) Option.none)))),
  ((1 : Nat), Option.some (Go.Value.int Go.IntKind.i64 split)),
  ((4 : Nat), Option.some (Go.Value.int Go.IntKind.i64 kind)),
  ((12 : Nat), Option.some (Go.Value.int Go.IntKind.i64 (Go.IntKind.wrap Go.IntKind.i64 (n11 + (1 : Int))))),
  ((13 : Nat), Option.some (Go.Value.pointer (Option.some (Go.Addr.mk i48 (0 : Nat) Option.none)))),
  ((14 : Nat), Option.some (Go.Value.pointer (Option.some (Go.Addr.mk i51 (0 : Nat) Option.none))))]
  σ53)))))
  (Go.AI.ldc σ6 (Go.Addr.mk x ((0 : Nat) + (3 : Nat)) Option.none) fun (v56 : Go.Value) ↦
  Go.AI.tI Go.IntKind.i64 v56 fun (n57 : Int) ↦
  Go.AI.bmatch (split == (0 : Int))
  (Go.AI.ldc σ6 (Go.Addr.mk x ((0 : Nat) + (2 : Nat)) Option.none) fun (v58 : Go.Value) ↦
  Go.AI.tL (8 : Nat) v58 fun (s59 : Go.AI.Sl) ↦
  Go.AI.newAt σ6
  (Go.AI.AObj.row Go.AI.RK.rw
  [Go.Value.int Go.IntKind.i64 (Go.IntKind.wrap Go.IntKind.i64 (n57 + (1 : Int))), Go.Value.int Go.IntKind.i64 kind, Go.Value.int Go.IntKind.i64 (0 : Int),
  Go.Value.int Go.IntKind.i64 (0 : Int), Go.Value.int Go.IntKind.i64 (0 : Int), Go.Value.int Go.IntKind.i64 (0 : Int), Go.Value.int Go.IntKind.u32 (0 : Int),
  Go.Value.int Go.IntKind.i64 (0 : Int)])
  fun (i60 : Nat) (σ61 : Go.AI.AS) ↦
  Go.AI.lds σ61 (Go.Addr.mk i60 (0 : Nat) Option.none) (8 : Nat) fun (l62 : List Go.Value) ↦
  Go.AI.appendTo σ61 (8 : Nat) (64 : Nat) (Go.AI.Sl.mk (Go.AI.Sl.a s59) (Go.AI.Sl.n s59)) l62 (1 : Nat) fun (s63 : Go.AI.Sl) (σ64 : Go.AI.AS) ↦
  Go.AI.put1 σ64 (Go.Addr.mk x ((0 : Nat) + (2 : Nat)) Option.none) (Go.Value.slice (Go.AI.Sl.a s63) (Go.AI.Sl.n s63) (8 : Nat)) fun (σ65 : Go.AI.AS) ↦
  Go.AI.put1 σ65 (Go.Addr.mk x ((0 : Nat) + (3 : Nat)) Option.none) (Go.Value.int Go.IntKind.i64 (Go.IntKind.wrap Go.IntKind.i64 (n57 + (1 : Int))))
  fun (σ66 : Go.AI.AS) ↦
  K (Go.Value.tuple (Array.mk [Go.Value.int Go.IntKind.i64 (Go.IntKind.wrap Go.IntKind.i64 (n57 + (1 : Int))), Go.Value.int Go.IntKind.i64 (0 : Int)])) σ66)
  (T (29 : Nat) [Go.Value.pointer (Option.some (Go.Addr.mk x (0 : Nat) Option.none)), Go.Value.int Go.IntKind.i64 split] σ6 fun (v67 : Go.Value) (σ68 : Go.AI.AS) ↦
  Go.AI.tAgg v67 fun (l69 : List Go.Value) ↦
  Go.AI.tCons l69 fun (v70 : Go.Value) (l71 : List Go.Value) ↦
  Go.AI.tI Go.IntKind.i64 v70 fun (n72 : Int) ↦
  Go.AI.tCons l71 fun (v73 : Go.Value) (l74 : List Go.Value) ↦
  Go.AI.tI Go.IntKind.i64 v73 fun (n75 : Int) ↦
  Go.AI.tCons l74 fun (v76 : Go.Value) (l77 : List Go.Value) ↦
  Go.AI.tI Go.IntKind.i64 v76 fun (n78 : Int) ↦
  Go.AI.tCons l77 fun (v79 : Go.Value) (l80 : List Go.Value) ↦
  Go.AI.tI Go.IntKind.i64 v79 fun (n81 : Int) ↦
  Go.AI.tCons l80 fun (v82 : Go.Value) (l83 : List Go.Value) ↦
  Go.AI.tI Go.IntKind.i64 v82 fun (n84 : Int) ↦
  Go.AI.tCons l83 fun (v85 : Go.Value) (l86 : List Go.Value) ↦
  Go.AI.tI Go.IntKind.i64 v85 fun (n87 : Int) ↦
  Go.AI.tCons l86 fun (v88 : Go.Value) (l89 : List Go.Value) ↦
  Go.AI.tI Go.IntKind.u32 v88 fun (n90 : Int) ↦
  Go.AI.tCons l89 fun (v91 : Go.Value) (l92 : List Go.Value) ↦
  Go.AI.tI Go.IntKind.i64 v91 fun (n93 : Int) ↦
  Go.AI.tNil l92
  (Go.AI.newAt σ68
  (Go.AI.AObj.row Go.AI.RK.plain
  [Go.Value.int Go.IntKind.i64 (0 : Int), Go.Value.int Go.IntKind.i64 (0 : Int), Go.Value.int Go.IntKind.i64 (0 : Int),
  Go.Value.int Go.IntKind.i64 (0 : Int), Go.Value.int Go.IntKind.i64 (0 : Int), Go.Value.int Go.IntKind.i64 (0 : Int),
  Go.Value.int Go.IntKind.u32 (0 : Int), Go.Value.int Go.IntKind.i64 (0 : Int)])
  fun (i94 : Nat) (σ95 : Go.AI.AS) ↦
  Go.AI.puts σ95 (Go.Addr.mk i94 (0 : Nat) Option.none)
  [Go.Value.int Go.IntKind.i64 n72, Go.Value.int Go.IntKind.i64 n75, Go.Value.int Go.IntKind.i64 n78, Go.Value.int Go.IntKind.i64 n81,
  Go.Value.int Go.IntKind.i64 n84, Go.Value.int Go.IntKind.i64 n87, Go.Value.int Go.IntKind.u32 n90, Go.Value.int Go.IntKind.i64 n93]
  fun (σ96 : Go.AI.AS) ↦
  Go.AI.newAt σ96
  (Go.AI.AObj.row Go.AI.RK.plain
  [Go.Value.int Go.IntKind.i64 (0 : Int), Go.Value.int Go.IntKind.i64 (0 : Int), Go.Value.int Go.IntKind.i64 (0 : Int),
  Go.Value.int Go.IntKind.i64 (0 : Int), Go.Value.int Go.IntKind.i64 (0 : Int), Go.Value.int Go.IntKind.i64 (0 : Int),
  Go.Value.int Go.IntKind.u32 (0 : Int), Go.Value.int Go.IntKind.i64 (0 : Int)])
  fun (i97 : Nat) (σ98 : Go.AI.AS) ↦
  Go.AI.puts σ98 (Go.Addr.mk i97 (0 : Nat) Option.none)
  [Go.Value.int Go.IntKind.i64 (Go.IntKind.wrap Go.IntKind.i64 (Go.IntKind.wrap Go.IntKind.i64 (n57 + (1 : Int)) + (1 : Int))),
  Go.Value.int Go.IntKind.i64 (4 : Int), Go.Value.int Go.IntKind.i64 (0 : Int), Go.Value.int Go.IntKind.i64 split,
  Go.Value.int Go.IntKind.i64 (Go.IntKind.wrap Go.IntKind.i64 (n57 + (1 : Int))), Go.Value.int Go.IntKind.i64 m,
  Go.Value.int Go.IntKind.u32 size, Go.Value.int Go.IntKind.i64 (Go.IntKind.wrap Go.IntKind.i64 (n57 + (1 : Int)))]
  fun (σ99 : Go.AI.AS) ↦
  Go.AI.bmatch (Int.tmod m (2 : Int) == (0 : Int))
  (Go.AI.put1 σ99 (Go.Addr.mk i97 ((0 : Nat) + (3 : Nat)) Option.none)
  (Go.Value.int Go.IntKind.i64 (Go.IntKind.wrap Go.IntKind.i64 (n57 + (1 : Int)))) fun (σ100 : Go.AI.AS) ↦
  Go.AI.put1 σ100 (Go.Addr.mk i97 ((0 : Nat) + (4 : Nat)) Option.none) (Go.Value.int Go.IntKind.i64 split) fun (σ101 : Go.AI.AS) ↦
  Go.AI.JoinS
  (Go.AI.jn Go.Proofs.Try.prog Go.AI.hintsS T (53 : Nat)
  [Bool.true, Bool.true, Bool.true, Bool.true, Bool.true, Bool.true, Bool.true, Bool.true, Bool.true, Bool.true] [] K)
  [((0 : Nat), Option.some (Go.Value.pointer (Option.some (Go.Addr.mk x (0 : Nat) Option.none)))),
  ((1 : Nat), Option.some (Go.Value.int Go.IntKind.i64 split)),
  ((4 : Nat), Option.some (Go.Value.int Go.IntKind.i64 kind)),
  ((12 : Nat), Option.some (Go.Value.int Go.IntKind.i64 (Go.IntKind.wrap Go.IntKind.i64 (n57 + (1 : Int))))),
  ((13 : Nat), Option.some (Go.Value.pointer (Option.some (Go.Addr.mk i94 (0 : Nat) Option.none)))),
  ((14 : Nat), Option.some (Go.Value.pointer (Option.some (Go.Addr.mk i97 (0 : Nat) Option.none))))]
  σ101)
  (Go.AI.JoinS
  (Go.AI.jn Go.Proofs.Try.prog Go.AI.hintsS T (53 : Nat)
  [Bool.true, Bool.true, Bool.true, Bool.true, Bool.true, Bool.true, Bool.true, Bool.true, Bool.true, Bool.true] [] K)
  [((0 : Nat), Option.some (Go.Value.pointer (Option.some (Go.Addr.mk x (0 : Nat) Option.none)))),
  ((1 : Nat), Option.some (Go.Value.int Go.IntKind.i64 split)), ((4 : Nat), Option.some (Go.Value.int Go.IntKind.i64 kind)),
  ((12 : Nat), Option.some (Go.Value.int Go.IntKind.i64 (Go.IntKind.wrap Go.IntKind.i64 (n57 + (1 : Int))))),
  ((13 : Nat), Option.some (Go.Value.pointer (Option.some (Go.Addr.mk i94 (0 : Nat) Option.none)))),
  ((14 : Nat), Option.some (Go.Value.pointer (Option.some (Go.Addr.mk i97 (0 : Nat) Option.none))))]
  σ99))))))
  (Go.AI.bmatch (split != (0 : Int))
  (Go.AI.ldc σ3 (Go.Addr.mk x ((0 : Nat) + (2 : Nat)) Option.none) fun (v102 : Go.Value) ↦
  Go.AI.tL (8 : Nat) v102 fun (s103 : Go.AI.Sl) ↦
  Go.AI.bmatch (Decidable.decide ((↑(Go.AI.Sl.n s103) : Int) > (62 : Int)))
  (K (Go.Value.tuple (Array.mk [Go.Value.int Go.IntKind.i64 (0 : Int), Go.Value.int Go.IntKind.i64 (4 : Int)])) σ3)
  (Go.AI.ldc σ3 (Go.Addr.mk x ((0 : Nat) + (3 : Nat)) Option.none) fun (v104 : Go.Value) ↦
  Go.AI.tI Go.IntKind.i64 v104 fun (n105 : Int) ↦
  Go.AI.bmatch (split == (0 : Int))
  (Go.AI.ldc σ3 (Go.Addr.mk x ((0 : Nat) + (2 : Nat)) Option.none) fun (v106 : Go.Value) ↦
  Go.AI.tL (8 : Nat) v106 fun (s107 : Go.AI.Sl) ↦
  Go.AI.newAt σ3
  (Go.AI.AObj.row Go.AI.RK.rw
  [Go.Value.int Go.IntKind.i64 (Go.IntKind.wrap Go.IntKind.i64 (n105 + (1 : Int))), Go.Value.int Go.IntKind.i64 kind, Go.Value.int Go.IntKind.i64 (0 : Int),
  Go.Value.int Go.IntKind.i64 (0 : Int), Go.Value.int Go.IntKind.i64 (0 : Int), Go.Value.int Go.IntKind.i64 (0 : Int), Go.Value.int Go.IntKind.u32 (0 : Int),
  Go.Value.int Go.IntKind.i64 (0 : Int)])
  fun (i108 : Nat) (σ109 : Go.AI.AS) ↦
  Go.AI.lds σ109 (Go.Addr.mk i108 (0 : Nat) Option.none) (8 : Nat) fun (l110 : List Go.Value) ↦
  Go.AI.appendTo σ109 (8 : Nat) (64 : Nat) (Go.AI.Sl.mk (Go.AI.Sl.a s107) (Go.AI.Sl.n s107)) l110 (1 : Nat) fun (s111 : Go.AI.Sl) (σ112 : Go.AI.AS) ↦
  Go.AI.put1 σ112 (Go.Addr.mk x ((0 : Nat) + (2 : Nat)) Option.none) (Go.Value.slice (Go.AI.Sl.a s111) (Go.AI.Sl.n s111) (8 : Nat)) fun (σ113 : Go.AI.AS) ↦
  Go.AI.put1 σ113 (Go.Addr.mk x ((0 : Nat) + (3 : Nat)) Option.none) (Go.Value.int Go.IntKind.i64 (Go.IntKind.wrap Go.IntKind.i64 (n105 + (1 : Int))))
  fun (σ114 : Go.AI.AS) ↦
  K (Go.Value.tuple (Array.mk [Go.Value.int Go.IntKind.i64 (Go.IntKind.wrap Go.IntKind.i64 (n105 + (1 : Int))), Go.Value.int Go.IntKind.i64 (0 : Int)])) σ114)
  (T (29 : Nat) [Go.Value.pointer (Option.some (Go.Addr.mk x (0 : Nat) Option.none)), Go.Value.int Go.IntKind.i64 split] σ3 fun (v115 : Go.Value) (σ116 : Go.AI.AS) ↦
  Go.AI.tAgg v115 fun (l117 : List Go.Value) ↦
  Go.AI.tCons l117 fun (v118 : Go.Value) (l119 : List Go.Value) ↦
  Go.AI.tI Go.IntKind.i64 v118 fun (n120 : Int) ↦
  Go.AI.tCons l119 fun (v121 : Go.Value) (l122 : List Go.Value) ↦
  Go.AI.tI Go.IntKind.i64 v121 fun (n123 : Int) ↦
  Go.AI.tCons l122 fun (v124 : Go.Value) (l125 : List Go.Value) ↦
  Go.AI.tI Go.IntKind.i64 v124 fun (n126 : Int) ↦
  Go.AI.tCons l125 fun (v127 : Go.Value) (l128 : List Go.Value) ↦
  Go.AI.tI Go.IntKind.i64 v127 fun (n129 : Int) ↦
  Go.AI.tCons l128 fun (v130 : Go.Value) (l131 : List Go.Value) ↦
  Go.AI.tI Go.IntKind.i64 v130 fun (n132 : Int) ↦
  Go.AI.tCons l131 fun (v133 : Go.Value) (l134 : List Go.Value) ↦
  Go.AI.tI Go.IntKind.i64 v133 fun (n135 : Int) ↦
  Go.AI.tCons l134 fun (v136 : Go.Value) (l137 : List Go.Value) ↦
  Go.AI.tI Go.IntKind.u32 v136 fun (n138 : Int) ↦
  Go.AI.tCons l137 fun (v139 : Go.Value) (l140 : List Go.Value) ↦
  Go.AI.tI Go.IntKind.i64 v139 fun (n141 : Int) ↦
  Go.AI.tNil l140
  (Go.AI.newAt σ116
  (Go.AI.AObj.row Go.AI.RK.plain
  [Go.Value.int Go.IntKind.i64 (0 : Int), Go.Value.int Go.IntKind.i64 (0 : Int), Go.Value.int Go.IntKind.i64 (0 : Int),
  Go.Value.int Go.IntKind.i64 (0 : Int), Go.Value.int Go.IntKind.i64 (0 : Int), Go.Value.int Go.IntKind.i64 (0 : Int),
  Go.Value.int Go.IntKind.u32 (0 : Int), Go.Value.int Go.IntKind.i64 (0 : Int)])
  fun (i142 : Nat) (σ143 : Go.AI.AS) ↦
  Go.AI.puts σ143 (Go.Addr.mk i142 (0 : Nat) Option.none)
  [Go.Value.int Go.IntKind.i64 n120, Go.Value.int Go.IntKind.i64 n123, Go.Value.int Go.IntKind.i64 n126, Go.Value.int Go.IntKind.i64 n129,
  Go.Value.int Go.IntKind.i64 n132, Go.Value.int Go.IntKind.i64 n135, Go.Value.int Go.IntKind.u32 n138, Go.Value.int Go.IntKind.i64 n141]
  fun (σ144 : Go.AI.AS) ↦
  Go.AI.newAt σ144
  (Go.AI.AObj.row Go.AI.RK.plain
  [Go.Value.int Go.IntKind.i64 (0 : Int), Go.Value.int Go.IntKind.i64 (0 : Int), Go.Value.int Go.IntKind.i64 (0 : Int),
  Go.Value.int Go.IntKind.i64 (0 : Int), Go.Value.int Go.IntKind.i64 (0 : Int), Go.Value.int Go.IntKind.i64 (0 : Int),
  Go.Value.int Go.IntKind.u32 (0 : Int), Go.Value.int Go.IntKind.i64 (0 : Int)])
  fun (i145 : Nat) (σ146 : Go.AI.AS) ↦
  Go.AI.puts σ146 (Go.Addr.mk i145 (0 : Nat) Option.none)
  [Go.Value.int Go.IntKind.i64 (Go.IntKind.wrap Go.IntKind.i64 (Go.IntKind.wrap Go.IntKind.i64 (n105 + (1 : Int)) + (1 : Int))),
  Go.Value.int Go.IntKind.i64 (4 : Int), Go.Value.int Go.IntKind.i64 (0 : Int), Go.Value.int Go.IntKind.i64 split,
  Go.Value.int Go.IntKind.i64 (Go.IntKind.wrap Go.IntKind.i64 (n105 + (1 : Int))), Go.Value.int Go.IntKind.i64 m,
  Go.Value.int Go.IntKind.u32 size, Go.Value.int Go.IntKind.i64 (Go.IntKind.wrap Go.IntKind.i64 (n105 + (1 : Int)))]
  fun (σ147 : Go.AI.AS) ↦
  Go.AI.bmatch (Int.tmod m (2 : Int) == (0 : Int))
  (Go.AI.put1 σ147 (Go.Addr.mk i145 ((0 : Nat) + (3 : Nat)) Option.none)
  (Go.Value.int Go.IntKind.i64 (Go.IntKind.wrap Go.IntKind.i64 (n105 + (1 : Int)))) fun (σ148 : Go.AI.AS) ↦
  Go.AI.put1 σ148 (Go.Addr.mk i145 ((0 : Nat) + (4 : Nat)) Option.none) (Go.Value.int Go.IntKind.i64 split)
  fun (σ149 : Go.AI.AS) ↦
  Go.AI.JoinS
  (Go.AI.jn Go.Proofs.Try.prog Go.AI.hintsS T (53 : Nat)
  [Bool.true, Bool.true, Bool.true, Bool.true, Bool.true, Bool.true, Bool.true, Bool.true, Bool.true, Bool.true] [] K)
  [((0 : Nat), Option.some (Go.Value.pointer (Option.some (Go.Addr.mk x (0 : Nat) Option.none)))),
  ((1 : Nat), Option.some (Go.Value.int Go.IntKind.i64 split)),
  ((4 : Nat), Option.some (Go.Value.int Go.IntKind.i64 kind)),
  ((12 : Nat), Option.some (Go.Value.int Go.IntKind.i64 (Go.IntKind.wrap Go.IntKind.i64 (n105 + (1 : Int))))),
  ((13 : Nat), Option.some (Go.Value.pointer (Option.some (Go.Addr.mk i142 (0 : Nat) Option.none)))),
  ((14 : Nat), Option.some (Go.Value.pointer (Option.some (Go.Addr.mk i145 (0 : Nat) Option.none))))]
  σ149)
  (Go.AI.JoinS
  (Go.AI.jn Go.Proofs.Try.prog Go.AI.hintsS T (53 : Nat)
  [Bool.true, Bool.true, Bool.true, Bool.true, Bool.true, Bool.true, Bool.true, Bool.true, Bool.true, Bool.true] [] K)
  [((0 : Nat), Option.some (Go.Value.pointer (Option.some (Go.Addr.mk x (0 : Nat) Option.none)))),
  ((1 : Nat), Option.some (Go.Value.int Go.IntKind.i64 split)), ((4 : Nat), Option.some (Go.Value.int Go.IntKind.i64 kind)),
  ((12 : Nat), Option.some (Go.Value.int Go.IntKind.i64 (Go.IntKind.wrap Go.IntKind.i64 (n105 + (1 : Int))))),
  ((13 : Nat), Option.some (Go.Value.pointer (Option.some (Go.Addr.mk i142 (0 : Nat) Option.none)))),
  ((14 : Nat), Option.some (Go.Value.pointer (Option.some (Go.Addr.mk i145 (0 : Nat) Option.none))))]
  σ147)))))
  (Go.AI.ldc σ3 (Go.Addr.mk x ((0 : Nat) + (3 : Nat)) Option.none) fun (v150 : Go.Value) ↦
  Go.AI.tI Go.IntKind.i64 v150 fun (n151 : Int) ↦
  Go.AI.bmatch (split == (0 : Int))
  (Go.AI.ldc σ3 (Go.Addr.mk x ((0 : Nat) + (2 : Nat)) Option.none) fun (v152 : Go.Value) ↦
  Go.AI.tL (8 : Nat) v152 fun (s153 : Go.AI.Sl) ↦
  Go.AI.newAt σ3
  (Go.AI.AObj.row Go.AI.RK.rw
  [Go.Value.int Go.IntKind.i64 (Go.IntKind.wrap Go.IntKind.i64 (n151 + (1 : Int))), Go.Value.int Go.IntKind.i64 kind, Go.Value.int Go.IntKind.i64 (0 : Int),
  Go.Value.int Go.IntKind.i64 (0 : Int), Go.Value.int Go.IntKind.i64 (0 : Int), Go.Value.int Go.IntKind.i64 (0 : Int), Go.Value.int Go.IntKind.u32 (0 : Int),
  Go.Value.int Go.IntKind.i64 (0 : Int)])
  fun (i154 : Nat) (σ155 : Go.AI.AS) ↦
  Go.AI.lds σ155 (Go.Addr.mk i154 (0 : Nat) Option.none) (8 : Nat) fun (l156 : List Go.Value) ↦
  Go.AI.appendTo σ155 (8 : Nat) (64 : Nat) (Go.AI.Sl.mk (Go.AI.Sl.a s153) (Go.AI.Sl.n s153)) l156 (1 : Nat) fun (s157 : Go.AI.Sl) (σ158 : Go.AI.AS) ↦
  Go.AI.put1 σ158 (Go.Addr.mk x ((0 : Nat) + (2 : Nat)) Option.none) (Go.Value.slice (Go.AI.Sl.a s157) (Go.AI.Sl.n s157) (8 : Nat)) fun (σ159 : Go.AI.AS) ↦
  Go.AI.put1 σ159 (Go.Addr.mk x ((0 : Nat) + (3 : Nat)) Option.none) (Go.Value.int Go.IntKind.i64 (Go.IntKind.wrap Go.IntKind.i64 (n151 + (1 : Int)))) fun (σ160 : Go.AI.AS) ↦
  K (Go.Value.tuple (Array.mk [Go.Value.int Go.IntKind.i64 (Go.IntKind.wrap Go.IntKind.i64 (n151 + (1 : Int))), Go.Value.int Go.IntKind.i64 (0 : Int)])) σ160)
  (T (29 : Nat) [Go.Value.pointer (Option.some (Go.Addr.mk x (0 : Nat) Option.none)), Go.Value.int Go.IntKind.i64 split] σ3 fun (v161 : Go.Value) (σ162 : Go.AI.AS) ↦
  Go.AI.tAgg v161 fun (l163 : List Go.Value) ↦
  Go.AI.tCons l163 fun (v164 : Go.Value) (l165 : List Go.Value) ↦
  Go.AI.tI Go.IntKind.i64 v164 fun (n166 : Int) ↦
  Go.AI.tCons l165 fun (v167 : Go.Value) (l168 : List Go.Value) ↦
  Go.AI.tI Go.IntKind.i64 v167 fun (n169 : Int) ↦
  Go.AI.tCons l168 fun (v170 : Go.Value) (l171 : List Go.Value) ↦
  Go.AI.tI Go.IntKind.i64 v170 fun (n172 : Int) ↦
  Go.AI.tCons l171 fun (v173 : Go.Value) (l174 : List Go.Value) ↦
  Go.AI.tI Go.IntKind.i64 v173 fun (n175 : Int) ↦
  Go.AI.tCons l174 fun (v176 : Go.Value) (l177 : List Go.Value) ↦
  Go.AI.tI Go.IntKind.i64 v176 fun (n178 : Int) ↦
  Go.AI.tCons l177 fun (v179 : Go.Value) (l180 : List Go.Value) ↦
  Go.AI.tI Go.IntKind.i64 v179 fun (n181 : Int) ↦
  Go.AI.tCons l180 fun (v182 : Go.Value) (l183 : List Go.Value) ↦
  Go.AI.tI Go.IntKind.u32 v182 fun (n184 : Int) ↦
  Go.AI.tCons l183 fun (v185 : Go.Value) (l186 : List Go.Value) ↦
  Go.AI.tI Go.IntKind.i64 v185 fun (n187 : Int) ↦
  Go.AI.tNil l186
  (Go.AI.newAt σ162
  (Go.AI.AObj.row Go.AI.RK.plain
  [Go.Value.int Go.IntKind.i64 (0 : Int), Go.Value.int Go.IntKind.i64 (0 : Int), Go.Value.int Go.IntKind.i64 (0 : Int),
  Go.Value.int Go.IntKind.i64 (0 : Int), Go.Value.int Go.IntKind.i64 (0 : Int), Go.Value.int Go.IntKind.i64 (0 : Int),
  Go.Value.int Go.IntKind.u32 (0 : Int), Go.Value.int Go.IntKind.i64 (0 : Int)])
  fun (i188 : Nat) (σ189 : Go.AI.AS) ↦
  Go.AI.puts σ189 (Go.Addr.mk i188 (0 : Nat) Option.none)
  [Go.Value.int Go.IntKind.i64 n166, Go.Value.int Go.IntKind.i64 n169, Go.Value.int Go.IntKind.i64 n172, Go.Value.int Go.IntKind.i64 n175,
  Go.Value.int Go.IntKind.i64 n178, Go.Value.int Go.IntKind.i64 n181, Go.Value.int Go.IntKind.u32 n184, Go.Value.int Go.IntKind.i64 n187]
  fun (σ190 : Go.AI.AS) ↦
  Go.AI.newAt σ190
  (Go.AI.AObj.row Go.AI.RK.plain
  [Go.Value.int Go.IntKind.i64 (0 : Int), Go.Value.int Go.IntKind.i64 (0 : Int), Go.Value.int Go.IntKind.i64 (0 : Int),
  Go.Value.int Go.IntKind.i64 (0 : Int), Go.Value.int Go.IntKind.i64 (0 : Int), Go.Value.int Go.IntKind.i64 (0 : Int),
  Go.Value.int Go.IntKind.u32 (0 : Int), Go.Value.int Go.IntKind.i64 (0 : Int)])
  fun (i191 : Nat) (σ192 : Go.AI.AS) ↦
  Go.AI.puts σ192 (Go.Addr.mk i191 (0 : Nat) Option.none)
  [Go.Value.int Go.IntKind.i64 (Go.IntKind.wrap Go.IntKind.i64 (Go.IntKind.wrap Go.IntKind.i64 (n151 + (1 : Int)) + (1 : Int))),
  Go.Value.int Go.IntKind.i64 (4 : Int), Go.Value.int Go.IntKind.i64 (0 : Int), Go.Value.int Go.IntKind.i64 split,
  Go.Value.int Go.IntKind.i64 (Go.IntKind.wrap Go.IntKind.i64 (n151 + (1 : Int))), Go.Value.int Go.IntKind.i64 m,
  Go.Value.int Go.IntKind.u32 size, Go.Value.int Go.IntKind.i64 (Go.IntKind.wrap Go.IntKind.i64 (n151 + (1 : Int)))]
  fun (σ193 : Go.AI.AS) ↦
  Go.AI.bmatch (Int.tmod m (2 : Int) == (0 : Int))
  (Go.AI.put1 σ193 (Go.Addr.mk i191 ((0 : Nat) + (3 : Nat)) Option.none)
  (Go.Value.int Go.IntKind.i64 (Go.IntKind.wrap Go.IntKind.i64 (n151 + (1 : Int)))) fun (σ194 : Go.AI.AS) ↦
  Go.AI.put1 σ194 (Go.Addr.mk i191 ((0 : Nat) + (4 : Nat)) Option.none) (Go.Value.int Go.IntKind.i64 split) fun (σ195 : Go.AI.AS) ↦
  Go.AI.JoinS
  (Go.AI.jn Go.Proofs.Try.prog Go.AI.hintsS T (53 : Nat)
  [Bool.true, Bool.true, Bool.true, Bool.true, Bool.true, Bool.true, Bool.true, Bool.true, Bool.true, Bool.true] [] K)
  [((0 : Nat), Option.some (Go.Value.pointer (Option.some (Go.Addr.mk x (0 : Nat) Option.none)))),
  ((1 : Nat), Option.some (Go.Value.int Go.IntKind.i64 split)), ((4 : Nat), Option.some (Go.Value.int Go.IntKind.i64 kind)),
  ((12 : Nat), Option.some (Go.Value.int Go.IntKind.i64 (Go.IntKind.wrap Go.IntKind.i64 (n151 + (1 : Int))))),
  ((13 : Nat), Option.some (Go.Value.pointer (Option.some (Go.Addr.mk i188 (0 : Nat) Option.none)))),
  ((14 : Nat), Option.some (Go.Value.pointer (Option.some (Go.Addr.mk i191 (0 : Nat) Option.none))))]
  σ195)
  (Go.AI.JoinS
  (Go.AI.jn Go.Proofs.Try.prog Go.AI.hintsS T (53 : Nat)
  [Bool.true, Bool.true, Bool.true, Bool.true, Bool.true, Bool.true, Bool.true, Bool.true, Bool.true, Bool.true] [] K)
  [((0 : Nat), Option.some (Go.Value.pointer (Option.some (Go.Addr.mk x (0 : Nat) Option.none)))),
  ((1 : Nat), Option.some (Go.Value.int Go.IntKind.i64 split)), ((4 : Nat), Option.some (Go.Value.int Go.IntKind.i64 kind)),
  ((12 : Nat), Option.some (Go.Value.int Go.IntKind.i64 (Go.IntKind.wrap Go.IntKind.i64 (n151 + (1 : Int))))),
  ((13 : Nat), Option.some (Go.Value.pointer (Option.some (Go.Addr.mk i188 (0 : Nat) Option.none)))),
  ((14 : Nat), Option.some (Go.Value.pointer (Option.some (Go.Addr.mk i191 (0 : Nat) Option.none))))]
  σ193)))))))
  (Go.AI.bmatch (split != (0 : Int))
  (T (63 : Nat) [Go.Value.int Go.IntKind.i64 m] σ fun (v196 : Go.Value) (σ197 : Go.AI.AS) ↦
  Go.AI.tB v196 fun (b198 : Bool) ↦
  Go.AI.bmatch (!b198) (K (Go.Value.tuple (Array.mk [Go.Value.int Go.IntKind.i64 (0 : Int), Go.Value.int Go.IntKind.i64 (1 : Int)])) σ197)
  (Go.AI.bmatch (split != (0 : Int))
  (Go.AI.ldc σ197 (Go.Addr.mk x ((0 : Nat) + (2 : Nat)) Option.none) fun (v199 : Go.Value) ↦
  Go.AI.tL (8 : Nat) v199 fun (s200 : Go.AI.Sl) ↦
  Go.AI.bmatch (Decidable.decide ((↑(Go.AI.Sl.n s200) : Int) > (62 : Int)))
  (K (Go.Value.tuple (Array.mk [Go.Value.int Go.IntKind.i64 (0 : Int), Go.Value.int Go.IntKind.i64 (4 : Int)])) σ197)
  (Go.AI.ldc σ197 (Go.Addr.mk x ((0 : Nat) + (3 : Nat)) Option.none) fun (v201 : Go.Value) ↦
  Go.AI.tI Go.IntKind.i64 v201 fun (n202 : Int) ↦
  Go.AI.bmatch (split == (0 : Int))
  (Go.AI.ldc σ197 (Go.Addr.mk x ((0 : Nat) + (2 : Nat)) Option.none) fun (v203 : Go.Value) ↦
  Go.AI.tL (8 : Nat) v203 fun (s204 : Go.AI.Sl) ↦
  Go.AI.newAt σ197
  (Go.AI.AObj.row Go.AI.RK.rw
  [Go.Value.int Go.IntKind.i64 (Go.IntKind.wrap Go.IntKind.i64 (n202 + (1 : Int))), Go.Value.int Go.IntKind.i64 kind, Go.Value.int Go.IntKind.i64 (0 : Int),
  Go.Value.int Go.IntKind.i64 (0 : Int), Go.Value.int Go.IntKind.i64 (0 : Int), Go.Value.int Go.IntKind.i64 (0 : Int), Go.Value.int Go.IntKind.u32 (0 : Int),
  Go.Value.int Go.IntKind.i64 (0 : Int)])
  fun (i205 : Nat) (σ206 : Go.AI.AS) ↦
  Go.AI.lds σ206 (Go.Addr.mk i205 (0 : Nat) Option.none) (8 : Nat) fun (l207 : List Go.Value) ↦
  Go.AI.appendTo σ206 (8 : Nat) (64 : Nat) (Go.AI.Sl.mk (Go.AI.Sl.a s204) (Go.AI.Sl.n s204)) l207 (1 : Nat) fun (s208 : Go.AI.Sl) (σ209 : Go.AI.AS) ↦
  Go.AI.put1 σ209 (Go.Addr.mk x ((0 : Nat) + (2 : Nat)) Option.none) (Go.Value.slice (Go.AI.Sl.a s208) (Go.AI.Sl.n s208) (8 : Nat)) fun (σ210 : Go.AI.AS) ↦
  Go.AI.put1 σ210 (Go.Addr.mk x ((0 : Nat) + (3 : Nat)) Option.none) (Go.Value.int Go.IntKind.i64 (Go.IntKind.wrap Go.IntKind.i64 (n202 + (1 : Int))))
  fun (σ211 : Go.AI.AS) ↦
  K (Go.Value.tuple (Array.mk [Go.Value.int Go.IntKind.i64 (Go.IntKind.wrap Go.IntKind.i64 (n202 + (1 : Int))), Go.Value.int Go.IntKind.i64 (0 : Int)])) σ211)
  (T (29 : Nat) [Go.Value.pointer (Option.some (Go.Addr.mk x (0 : Nat) Option.none)), Go.Value.int Go.IntKind.i64 split] σ197 fun (v212 : Go.Value) (σ213 : Go.AI.AS) ↦
  Go.AI.tAgg v212 fun (l214 : List Go.Value) ↦
  Go.AI.tCons l214 fun (v215 : Go.Value) (l216 : List Go.Value) ↦
  Go.AI.tI Go.IntKind.i64 v215 fun (n217 : Int) ↦
  Go.AI.tCons l216 fun (v218 : Go.Value) (l219 : List Go.Value) ↦
  Go.AI.tI Go.IntKind.i64 v218 fun (n220 : Int) ↦
  Go.AI.tCons l219 fun (v221 : Go.Value) (l222 : List Go.Value) ↦
  Go.AI.tI Go.IntKind.i64 v221 fun (n223 : Int) ↦
  Go.AI.tCons l222 fun (v224 : Go.Value) (l225 : List Go.Value) ↦
  Go.AI.tI Go.IntKind.i64 v224 fun (n226 : Int) ↦
  Go.AI.tCons l225 fun (v227 : Go.Value) (l228 : List Go.Value) ↦
  Go.AI.tI Go.IntKind.i64 v227 fun (n229 : Int) ↦
  Go.AI.tCons l228 fun (v230 : Go.Value) (l231 : List Go.Value) ↦
  Go.AI.tI Go.IntKind.i64 v230 fun (n232 : Int) ↦
  Go.AI.tCons l231 fun (v233 : Go.Value) (l234 : List Go.Value) ↦
  Go.AI.tI Go.IntKind.u32 v233 fun (n235 : Int) ↦
  Go.AI.tCons l234 fun (v236 : Go.Value) (l237 : List Go.Value) ↦
  Go.AI.tI Go.IntKind.i64 v236 fun (n238 : Int) ↦
  Go.AI.tNil l237
  (Go.AI.newAt σ213
  (Go.AI.AObj.row Go.AI.RK.plain
  [Go.Value.int Go.IntKind.i64 (0 : Int), Go.Value.int Go.IntKind.i64 (0 : Int), Go.Value.int Go.IntKind.i64 (0 : Int),
  Go.Value.int Go.IntKind.i64 (0 : Int), Go.Value.int Go.IntKind.i64 (0 : Int), Go.Value.int Go.IntKind.i64 (0 : Int),
  Go.Value.int Go.IntKind.u32 (0 : Int), Go.Value.int Go.IntKind.i64 (0 : Int)])
  fun (i239 : Nat) (σ240 : Go.AI.AS) ↦
  Go.AI.puts σ240 (Go.Addr.mk i239 (0 : Nat) Option.none)
  [Go.Value.int Go.IntKind.i64 n217, Go.Value.int Go.IntKind.i64 n220, Go.Value.int Go.IntKind.i64 n223, Go.Value.int Go.IntKind.i64 n226,
  Go.Value.int Go.IntKind.i64 n229, Go.Value.int Go.IntKind.i64 n232, Go.Value.int Go.IntKind.u32 n235, Go.Value.int Go.IntKind.i64 n238]
  fun (σ241 : Go.AI.AS) ↦
  Go.AI.newAt σ241
  (Go.AI.AObj.row Go.AI.RK.plain
  [Go.Value.int Go.IntKind.i64 (0 : Int), Go.Value.int Go.IntKind.i64 (0 : Int), Go.Value.int Go.IntKind.i64 (0 : Int),
  Go.Value.int Go.IntKind.i64 (0 : Int), Go.Value.int Go.IntKind.i64 (0 : Int), Go.Value.int Go.IntKind.i64 (0 : Int),
  Go.Value.int Go.IntKind.u32 (0 : Int), Go.Value.int Go.IntKind.i64 (0 : Int)])
  fun (i242 : Nat) (σ243 : Go.AI.AS) ↦
  Go.AI.puts σ243 (Go.Addr.mk i242 (0 : Nat) Option.none)
  [Go.Value.int Go.IntKind.i64 (Go.IntKind.wrap Go.IntKind.i64 (Go.IntKind.wrap Go.IntKind.i64 (n202 + (1 : Int)) + (1 : Int))),
  Go.Value.int Go.IntKind.i64 (4 : Int), Go.Value.int Go.IntKind.i64 (0 : Int), Go.Value.int Go.IntKind.i64 split,
  Go.Value.int Go.IntKind.i64 (Go.IntKind.wrap Go.IntKind.i64 (n202 + (1 : Int))), Go.Value.int Go.IntKind.i64 m,
  Go.Value.int Go.IntKind.u32 size, Go.Value.int Go.IntKind.i64 (Go.IntKind.wrap Go.IntKind.i64 (n202 + (1 : Int)))]
  fun (σ244 : Go.AI.AS) ↦
  Go.AI.bmatch (Int.tmod m (2 : Int) == (0 : Int))
  (Go.AI.put1 σ244 (Go.Addr.mk i242 ((0 : Nat) + (3 : Nat)) Option.none)
  (Go.Value.int Go.IntKind.i64 (Go.IntKind.wrap Go.IntKind.i64 (n202 + (1 : Int)))) fun (σ245 : Go.AI.AS) ↦
  Go.AI.put1 σ245 (Go.Addr.mk i242 ((0 : Nat) + (4 : Nat)) Option.none) (Go.Value.int Go.IntKind.i64 split)
  fun (σ246 : Go.AI.AS) ↦
  Go.AI.JoinS
  (Go.AI.jn Go.Proofs.Try.prog Go.AI.hintsS T (53 : Nat)
  [Bool.true, Bool.true, Bool.true, Bool.true, Bool.true, Bool.true, Bool.true, Bool.true, Bool.true, Bool.true] [] K)
  [((0 : Nat), Option.some (Go.Value.pointer (Option.some (Go.Addr.mk x (0 : Nat) Option.none)))),
  ((1 : Nat), Option.some (Go.Value.int Go.IntKind.i64 split)),
  ((4 : Nat), Option.some (Go.Value.int Go.IntKind.i64 kind)),
  ((12 : Nat), Option.some (Go.Value.int Go.IntKind.i64 (Go.IntKind.wrap Go.IntKind.i64 (n202 + (1 : Int))))),
  ((13 : Nat), Option.some (Go.Value.pointer (Option.some (Go.Addr.mk i239 (0 : Nat) Option.none)))),
  ((14 : Nat), Option.some (Go.Value.pointer (Option.some (Go.Addr.mk i242 (0 : Nat) Option.none))))]
  σ246)
  (Go.AI.JoinS
  (Go.AI.jn Go.Proofs.Try.prog Go.AI.hintsS T (53 : Nat)
  [Bool.true, Bool.true, Bool.true, Bool.true, Bool.true, Bool.true, Bool.true, Bool.true, Bool.true, Bool.true] [] K)
  [((0 : Nat), Option.some (Go.Value.pointer (Option.some (Go.Addr.mk x (0 : Nat) Option.none)))),
  ((1 : Nat), Option.some (Go.Value.int Go.IntKind.i64 split)), ((4 : Nat), Option.some (Go.Value.int Go.IntKind.i64 kind)),
  ((12 : Nat), Option.some (Go.Value.int Go.IntKind.i64 (Go.IntKind.wrap Go.IntKind.i64 (n202 + (1 : Int))))),
  ((13 : Nat), Option.some (Go.Value.pointer (Option.some (Go.Addr.mk i239 (0 : Nat) Option.none)))),
  ((14 : Nat), Option.some (Go.Value.pointer (Option.some (Go.Addr.mk i242 (0 : Nat) Option.none))))]
  σ244)))))
  (Go.AI.ldc σ197 (Go.Addr.mk x ((0 : Nat) + (3 : Nat)) Option.none) fun (v247 : Go.Value) ↦
  Go.AI.tI Go.IntKind.i64 v247 fun (n248 : Int) ↦
  Go.AI.bmatch (split == (0 : Int))
  (Go.AI.ldc σ197 (Go.Addr.mk x ((0 : Nat) + (2 : Nat)) Option.none) fun (v249 : Go.Value) ↦
  Go.AI.tL (8 : Nat) v249 fun (s250 : Go.AI.Sl) ↦
  Go.AI.newAt σ197
  (Go.AI.AObj.row Go.AI.RK.rw
  [Go.Value.int Go.IntKind.i64 (Go.IntKind.wrap Go.IntKind.i64 (n248 + (1 : Int))), Go.Value.int Go.IntKind.i64 kind, Go.Value.int Go.IntKind.i64 (0 : Int),
  Go.Value.int Go.IntKind.i64 (0 : Int), Go.Value.int Go.IntKind.i64 (0 : Int), Go.Value.int Go.IntKind.i64 (0 : Int), Go.Value.int Go.IntKind.u32 (0 : Int),
  Go.Value.int Go.IntKind.i64 (0 : Int)])
  fun (i251 : Nat) (σ252 : Go.AI.AS) ↦
  Go.AI.lds σ252 (Go.Addr.mk i251 (0 : Nat) Option.none) (8 : Nat) fun (l253 : List Go.Value) ↦
  Go.AI.appendTo σ252 (8 : Nat) (64 : Nat) (Go.AI.Sl.mk (Go.AI.Sl.a s250) (Go.AI.Sl.n s250)) l253 (1 : Nat) fun (s254 : Go.AI.Sl) (σ255 : Go.AI.AS) ↦
  Go.AI.put1 σ255 (Go.Addr.mk x ((0 : Nat) + (2 : Nat)) Option.none) (Go.Value.slice (Go.AI.Sl.a s254) (Go.AI.Sl.n s254) (8 : Nat)) fun (σ256 : Go.AI.AS) ↦
  Go.AI.put1 σ256 (Go.Addr.mk x ((0 : Nat) + (3 : Nat)) Option.none) (Go.Value.int Go.IntKind.i64 (Go.IntKind.wrap Go.IntKind.i64 (n248 + (1 : Int)))) fun (σ257 : Go.AI.AS) ↦
  K (Go.Value.tuple (Array.mk [Go.Value.int Go.IntKind.i64 (Go.IntKind.wrap Go.IntKind.i64 (n248 + (1 : Int))), Go.Value.int Go.IntKind.i64 (0 : Int)])) σ257)
  (T (29 : Nat) [Go.Value.pointer (Option.some (Go.Addr.mk x (0 : Nat) Option.none)), Go.Value.int Go.IntKind.i64 split] σ197 fun (v258 : Go.Value) (σ259 : Go.AI.AS) ↦
  Go.AI.tAgg v258 fun (l260 : List Go.Value) ↦
  Go.AI.tCons l260 fun (v261 : Go.Value) (l262 : List Go.Value) ↦
  Go.AI.tI Go.IntKind.i64 v261 fun (n263 : Int) ↦
  Go.AI.tCons l262 fun (v264 : Go.Value) (l265 : List Go.Value) ↦
  Go.AI.tI Go.IntKind.i64 v264 fun (n266 : Int) ↦
  Go.AI.tCons l265 fun (v267 : Go.Value) (l268 : List Go.Value) ↦
  Go.AI.tI Go.IntKind.i64 v267 fun (n269 : Int) ↦
  Go.AI.tCons l268 fun (v270 : Go.Value) (l271 : List Go.Value) ↦
  Go.AI.tI Go.IntKind.i64 v270 fun (n272 : Int) ↦
  Go.AI.tCons l271 fun (v273 : Go.Value) (l274 : List Go.Value) ↦
  Go.AI.tI Go.IntKind.i64 v273 fun (n275 : Int) ↦
  Go.AI.tCons l274 fun (v276 : Go.Value) (l277 : List Go.Value) ↦
  Go.AI.tI Go.IntKind.i64 v276 fun (n278 : Int) ↦
  Go.AI.tCons l277 fun (v279 : Go.Value) (l280 : List Go.Value) ↦
  Go.AI.tI Go.IntKind.u32 v279 fun (n281 : Int) ↦
  Go.AI.tCons l280 fun (v282 : Go.Value) (l283 : List Go.Value) ↦
  Go.AI.tI Go.IntKind.i64 v282 fun (n284 : Int) ↦
  Go.AI.tNil l283
  (Go.AI.newAt σ259
  (Go.AI.AObj.row Go.AI.RK.plain
  [Go.Value.int Go.IntKind.i64 (0 : Int), Go.Value.int Go.IntKind.i64 (0 : Int), Go.Value.int Go.IntKind.i64 (0 : Int),
  Go.Value.int Go.IntKind.i64 (0 : Int), Go.Value.int Go.IntKind.i64 (0 : Int), Go.Value.int Go.IntKind.i64 (0 : Int),
  Go.Value.int Go.IntKind.u32 (0 : Int), Go.Value.int Go.IntKind.i64 (0 : Int)])
  fun (i285 : Nat) (σ286 : Go.AI.AS) ↦
  Go.AI.puts σ286 (Go.Addr.mk i285 (0 : Nat) Option.none)
  [Go.Value.int Go.IntKind.i64 n263, Go.Value.int Go.IntKind.i64 n266, Go.Value.int Go.IntKind.i64 n269, Go.Value.int Go.IntKind.i64 n272,
  Go.Value.int Go.IntKind.i64 n275, Go.Value.int Go.IntKind.i64 n278, Go.Value.int Go.IntKind.u32 n281, Go.Value.int Go.IntKind.i64 n284]
  fun (σ287 : Go.AI.AS) ↦
  Go.AI.newAt σ287
  (Go.AI.AObj.row Go.AI.RK.plain
  [Go.Value.int Go.IntKind.i64 (0 : Int), Go.Value.int Go.IntKind.i64 (0 : Int), Go.Value.int Go.IntKind.i64 (0 : Int),
  Go.Value.int Go.IntKind.i64 (0 : Int), Go.Value.int Go.IntKind.i64 (0 : Int), Go.Value.int Go.IntKind.i64 (0 : Int),
  Go.Value.int Go.IntKind.u32 (0 : Int), Go.Value.int Go.IntKind.i64 (0 : Int)])
  fun (i288 : Nat) (σ289 : Go.AI.AS) ↦
  Go.AI.puts σ289 (Go.Addr.mk i288 (0 : Nat) Option.none)
  [Go.Value.int Go.IntKind.i64 (Go.IntKind.wrap Go.IntKind.i64 (Go.IntKind.wrap Go.IntKind.i64 (n248 + (1 : Int)) + (1 : Int))),
  Go.Value.int Go.IntKind.i64 (4 : Int), Go.Value.int Go.IntKind.i64 (0 : Int), Go.Value.int Go.IntKind.i64 split,
  Go.Value.int Go.IntKind.i64 (Go.IntKind.wrap Go.IntKind.i64 (n248 + (1 : Int))), Go.Value.int Go.IntKind.i64 m,
  Go.Value.int Go.IntKind.u32 size, Go.Value.int Go.IntKind.i64 (Go.IntKind.wrap Go.IntKind.i64 (n248 + (1 : Int)))]
  fun (σ290 : Go.AI.AS) ↦
  Go.AI.bmatch (Int.tmod m (2 : Int) == (0 : Int))
  (Go.AI.put1 σ290 (Go.Addr.mk i288 ((0 : Nat) + (3 : Nat)) Option.none)
  (Go.Value.int Go.IntKind.i64 (Go.IntKind.wrap Go.IntKind.i64 (n248 + (1 : Int)))) fun (σ291 : Go.AI.AS) ↦
  Go.AI.put1 σ291 (Go.Addr.mk i288 ((0 : Nat) + (4 : Nat)) Option.none) (Go.Value.int Go.IntKind.i64 split) fun (σ292 : Go.AI.AS) ↦
  Go.AI.JoinS
  (Go.AI.jn Go.Proofs.Try.prog Go.AI.hintsS T (53 : Nat)
  [Bool.true, Bool.true, Bool.true, Bool.true, Bool.true, Bool.true, Bool.true, Bool.true, Bool.true, Bool.true] [] K)
  [((0 : Nat), Option.some (Go.Value.pointer (Option.some (Go.Addr.mk x (0 : Nat) Option.none)))),
  ((1 : Nat), Option.some (Go.Value.int Go.IntKind.i64 split)), ((4 : Nat), Option.some (Go.Value.int Go.IntKind.i64 kind)),
  ((12 : Nat), Option.some (Go.Value.int Go.IntKind.i64 (Go.IntKind.wrap Go.IntKind.i64 (n248 + (1 : Int))))),
  ((13 : Nat), Option.some (Go.Value.pointer (Option.some (Go.Addr.mk i285 (0 : Nat) Option.none)))),
  ((14 : Nat), Option.some (Go.Value.pointer (Option.some (Go.Addr.mk i288 (0 : Nat) Option.none))))]
  σ292)
  (Go.AI.JoinS
  (Go.AI.jn Go.Proofs.Try.prog Go.AI.hintsS T (53 : Nat)
  [Bool.true, Bool.true, Bool.true, Bool.true, Bool.true, Bool.true, Bool.true, Bool.true, Bool.true, Bool.true] [] K)
  [((0 : Nat), Option.some (Go.Value.pointer (Option.some (Go.Addr.mk x (0 : Nat) Option.none)))),
  ((1 : Nat), Option.some (Go.Value.int Go.IntKind.i64 split)), ((4 : Nat), Option.some (Go.Value.int Go.IntKind.i64 kind)),
  ((12 : Nat), Option.some (Go.Value.int Go.IntKind.i64 (Go.IntKind.wrap Go.IntKind.i64 (n248 + (1 : Int))))),
  ((13 : Nat), Option.some (Go.Value.pointer (Option.some (Go.Addr.mk i285 (0 : Nat) Option.none)))),
  ((14 : Nat), Option.some (Go.Value.pointer (Option.some (Go.Addr.mk i288 (0 : Nat) Option.none))))]
  σ290))))))
  (Go.AI.bmatch (split != (0 : Int))
  (Go.AI.ldc σ (Go.Addr.mk x ((0 : Nat) + (2 : Nat)) Option.none) fun (v293 : Go.Value) ↦
  Go.AI.tL (8 : Nat) v293 fun (s294 : Go.AI.Sl) ↦
  Go.AI.bmatch (Decidable.decide ((↑(Go.AI.Sl.n s294) : Int) > (62 : Int))) (K (Go.Value.tuple (Array.mk [Go.Value.int Go.IntKind.i64 (0 : Int), Go.Value.int Go.IntKind.i64 (4 : Int)])) σ)
  (Go.AI.ldc σ (Go.Addr.mk x ((0 : Nat) + (3 : Nat)) Option.none) fun (v295 : Go.Value) ↦
  Go.AI.tI Go.IntKind.i64 v295 fun (n296 : Int) ↦
  Go.AI.bmatch (split == (0 : Int))
  (Go.AI.ldc σ (Go.Addr.mk x ((0 : Nat) + (2 : Nat)) Option.none) fun (v297 : Go.Value) ↦
  Go.AI.tL (8 : Nat) v297 fun (s298 : Go.AI.Sl) ↦
  Go.AI.newAt σ
  (Go.AI.AObj.row Go.AI.RK.rw
  [Go.Value.int Go.IntKind.i64 (Go.IntKind.wrap Go.IntKind.i64 (n296 + (1 : Int))), Go.Value.int Go.IntKind.i64 kind, Go.Value.int Go.IntKind.i64 (0 : Int),
  Go.Value.int Go.IntKind.i64 (0 : Int), Go.Value.int Go.IntKind.i64 (0 : Int), Go.Value.int Go.IntKind.i64 (0 : Int), Go.Value.int Go.IntKind.u32 (0 : Int),
  Go.Value.int Go.IntKind.i64 (0 : Int)])
  fun (i299 : Nat) (σ300 : Go.AI.AS) ↦
  Go.AI.lds σ300 (Go.Addr.mk i299 (0 : Nat) Option.none) (8 : Nat) fun (l301 : List Go.Value) ↦
  Go.AI.appendTo σ300 (8 : Nat) (64 : Nat) (Go.AI.Sl.mk (Go.AI.Sl.a s298) (Go.AI.Sl.n s298)) l301 (1 : Nat) fun (s302 : Go.AI.Sl) (σ303 : Go.AI.AS) ↦
  Go.AI.put1 σ303 (Go.Addr.mk x ((0 : Nat) + (2 : Nat)) Option.none) (Go.Value.slice (Go.AI.Sl.a s302) (Go.AI.Sl.n s302) (8 : Nat)) fun (σ304 : Go.AI.AS) ↦
  Go.AI.put1 σ304 (Go.Addr.mk x ((0 : Nat) + (3 : Nat)) Option.none) (Go.Value.int Go.IntKind.i64 (Go.IntKind.wrap Go.IntKind.i64 (n296 + (1 : Int)))) fun (σ305 : Go.AI.AS) ↦
  K (Go.Value.tuple (Array.mk [Go.Value.int Go.IntKind.i64 (Go.IntKind.wrap Go.IntKind.i64 (n296 + (1 : Int))), Go.Value.int Go.IntKind.i64 (0 : Int)])) σ305)
  (T (29 : Nat) [Go.Value.pointer (Option.some (Go.Addr.mk x (0 : Nat) Option.none)), Go.Value.int Go.IntKind.i64 split] σ fun (v306 : Go.Value) (σ307 : Go.AI.AS) ↦
  Go.AI.tAgg v306 fun (l308 : List Go.Value) ↦
  Go.AI.tCons l308 fun (v309 : Go.Value) (l310 : List Go.Value) ↦
  Go.AI.tI Go.IntKind.i64 v309 fun (n311 : Int) ↦
  Go.AI.tCons l310 fun (v312 : Go.Value) (l313 : List Go.Value) ↦
  Go.AI.tI Go.IntKind.i64 v312 fun (n314 : Int) ↦
  Go.AI.tCons l313 fun (v315 : Go.Value) (l316 : List Go.Value) ↦
  Go.AI.tI Go.IntKind.i64 v315 fun (n317 : Int) ↦
  Go.AI.tCons l316 fun (v318 : Go.Value) (l319 : List Go.Value) ↦
  Go.AI.tI Go.IntKind.i64 v318 fun (n320 : Int) ↦
  Go.AI.tCons l319 fun (v321 : Go.Value) (l322 : List Go.Value) ↦
  Go.AI.tI Go.IntKind.i64 v321 fun (n323 : Int) ↦
  Go.AI.tCons l322 fun (v324 : Go.Value) (l325 : List Go.Value) ↦
  Go.AI.tI Go.IntKind.i64 v324 fun (n326 : Int) ↦
  Go.AI.tCons l325 fun (v327 : Go.Value) (l328 : List Go.Value) ↦
  Go.AI.tI Go.IntKind.u32 v327 fun (n329 : Int) ↦
  Go.AI.tCons l328 fun (v330 : Go.Value) (l331 : List Go.Value) ↦
  Go.AI.tI Go.IntKind.i64 v330 fun (n332 : Int) ↦
  Go.AI.tNil l331
  (Go.AI.newAt σ307
  (Go.AI.AObj.row Go.AI.RK.plain
  [Go.Value.int Go.IntKind.i64 (0 : Int), Go.Value.int Go.IntKind.i64 (0 : Int), Go.Value.int Go.IntKind.i64 (0 : Int),
  Go.Value.int Go.IntKind.i64 (0 : Int), Go.Value.int Go.IntKind.i64 (0 : Int), Go.Value.int Go.IntKind.i64 (0 : Int),
  Go.Value.int Go.IntKind.u32 (0 : Int), Go.Value.int Go.IntKind.i64 (0 : Int)])
  fun (i333 : Nat) (σ334 : Go.AI.AS) ↦
  Go.AI.puts σ334 (Go.Addr.mk i333 (0 : Nat) Option.none)
  [Go.Value.int Go.IntKind.i64 n311, Go.Value.int Go.IntKind.i64 n314, Go.Value.int Go.IntKind.i64 n317, Go.Value.int Go.IntKind.i64 n320,
  Go.Value.int Go.IntKind.i64 n323, Go.Value.int Go.IntKind.i64 n326, Go.Value.int Go.IntKind.u32 n329, Go.Value.int Go.IntKind.i64 n332]
  fun (σ335 : Go.AI.AS) ↦
  Go.AI.newAt σ335
  (Go.AI.AObj.row Go.AI.RK.plain
  [Go.Value.int Go.IntKind.i64 (0 : Int), Go.Value.int Go.IntKind.i64 (0 : Int), Go.Value.int Go.IntKind.i64 (0 : Int),
  Go.Value.int Go.IntKind.i64 (0 : Int), Go.Value.int Go.IntKind.i64 (0 : Int), Go.Value.int Go.IntKind.i64 (0 : Int),
  Go.Value.int Go.IntKind.u32 (0 : Int), Go.Value.int Go.IntKind.i64 (0 : Int)])
  fun (i336 : Nat) (σ337 : Go.AI.AS) ↦
  Go.AI.puts σ337 (Go.Addr.mk i336 (0 : Nat) Option.none)
  [Go.Value.int Go.IntKind.i64 (Go.IntKind.wrap Go.IntKind.i64 (Go.IntKind.wrap Go.IntKind.i64 (n296 + (1 : Int)) + (1 : Int))),
  Go.Value.int Go.IntKind.i64 (4 : Int), Go.Value.int Go.IntKind.i64 (0 : Int), Go.Value.int Go.IntKind.i64 split,
  Go.Value.int Go.IntKind.i64 (Go.IntKind.wrap Go.IntKind.i64 (n296 + (1 : Int))), Go.Value.int Go.IntKind.i64 m,
  Go.Value.int Go.IntKind.u32 size, Go.Value.int Go.IntKind.i64 (Go.IntKind.wrap Go.IntKind.i64 (n296 + (1 : Int)))]
  fun (σ338 : Go.AI.AS) ↦
  Go.AI.bmatch (Int.tmod m (2 : Int) == (0 : Int))
  (Go.AI.put1 σ338 (Go.Addr.mk i336 ((0 : Nat) + (3 : Nat)) Option.none)
  (Go.Value.int Go.IntKind.i64 (Go.IntKind.wrap Go.IntKind.i64 (n296 + (1 : Int)))) fun (σ339 : Go.AI.AS) ↦
  Go.AI.put1 σ339 (Go.Addr.mk i336 ((0 : Nat) + (4 : Nat)) Option.none) (Go.Value.int Go.IntKind.i64 split) fun (σ340 : Go.AI.AS) ↦
  Go.AI.JoinS
  (Go.AI.jn Go.Proofs.Try.prog Go.AI.hintsS T (53 : Nat)
  [Bool.true, Bool.true, Bool.true, Bool.true, Bool.true, Bool.true, Bool.true, Bool.true, Bool.true, Bool.true] [] K)
  [((0 : Nat), Option.some (Go.Value.pointer (Option.some (Go.Addr.mk x (0 : Nat) Option.none)))),
  ((1 : Nat), Option.some (Go.Value.int Go.IntKind.i64 split)), ((4 : Nat), Option.some (Go.Value.int Go.IntKind.i64 kind)),
  ((12 : Nat), Option.some (Go.Value.int Go.IntKind.i64 (Go.IntKind.wrap Go.IntKind.i64 (n296 + (1 : Int))))),
  ((13 : Nat), Option.some (Go.Value.pointer (Option.some (Go.Addr.mk i333 (0 : Nat) Option.none)))),
  ((14 : Nat), Option.some (Go.Value.pointer (Option.some (Go.Addr.mk i336 (0 : Nat) Option.none))))]
  σ340)
  (Go.AI.JoinS
  (Go.AI.jn Go.Proofs.Try.prog Go.AI.hintsS T (53 : Nat)
  [Bool.true, Bool.true, Bool.true, Bool.true, Bool.true, Bool.true, Bool.true, Bool.true, Bool.true, Bool.true] [] K)
  [((0 : Nat), Option.some (Go.Value.pointer (Option.some (Go.Addr.mk x (0 : Nat) Option.none)))),
  ((1 : Nat), Option.some (Go.Value.int Go.IntKind.i64 split)), ((4 : Nat), Option.some (Go.Value.int Go.IntKind.i64 kind)),
  ((12 : Nat), Option.some (Go.Value.int Go.IntKind.i64 (Go.IntKind.wrap Go.IntKind.i64 (n296 + (1 : Int))))),
  ((13 : Nat), Option.some (Go.Value.pointer (Option.some (Go.Addr.mk i333 (0 : Nat) Option.none)))),
  ((14 : Nat), Option.some (Go.Value.pointer (Option.some (Go.Addr.mk i336 (0 : Nat) Option.none))))]
  σ338)))))
  (Go.AI.ldc σ (Go.Addr.mk x ((0 : Nat) + (3 : Nat)) Option.none) fun (v341 : Go.Value) ↦
  Go.AI.tI Go.IntKind.i64 v341 fun (n342 : Int) ↦
  Go.AI.bmatch (split == (0 : Int))
  (Go.AI.ldc σ (Go.Addr.mk x ((0 : Nat) + (2 : Nat)) Option.none) fun (v343 : Go.Value) ↦
  Go.AI.tL (8 : Nat) v343 fun (s344 : Go.AI.Sl) ↦
  Go.AI.newAt σ
  (Go.AI.AObj.row Go.AI.RK.rw
  [Go.Value.int Go.IntKind.i64 (Go.IntKind.wrap Go.IntKind.i64 (n342 + (1 : Int))), Go.Value.int Go.IntKind.i64 kind, Go.Value.int Go.IntKind.i64 (0 : Int),
  Go.Value.int Go.IntKind.i64 (0 : Int), Go.Value.int Go.IntKind.i64 (0 : Int), Go.Value.int Go.IntKind.i64 (0 : Int), Go.Value.int Go.IntKind.u32 (0 : Int),
  Go.Value.int Go.IntKind.i64 (0 : Int)])
  fun (i345 : Nat) (σ346 : Go.AI.AS) ↦
  Go.AI.lds σ346 (Go.Addr.mk i345 (0 : Nat) Option.none) (8 : Nat) fun (l347 : List Go.Value) ↦
  Go.AI.appendTo σ346 (8 : Nat) (64 : Nat) (Go.AI.Sl.mk (Go.AI.Sl.a s344) (Go.AI.Sl.n s344)) l347 (1 : Nat) fun (s348 : Go.AI.Sl) (σ349 : Go.AI.AS) ↦
  Go.AI.put1 σ349 (Go.Addr.mk x ((0 : Nat) + (2 : Nat)) Option.none) (Go.Value.slice (Go.AI.Sl.a s348) (Go.AI.Sl.n s348) (8 : Nat)) fun (σ350 : Go.AI.AS) ↦
  Go.AI.put1 σ350 (Go.Addr.mk x ((0 : Nat) + (3 : Nat)) Option.none) (Go.Value.int Go.IntKind.i64 (Go.IntKind.wrap Go.IntKind.i64 (n342 + (1 : Int)))) fun (σ351 : Go.AI.AS) ↦
  K (Go.Value.tuple (Array.mk [Go.Value.int Go.IntKind.i64 (Go.IntKind.wrap Go.IntKind.i64 (n342 + (1 : Int))), Go.Value.int Go.IntKind.i64 (0 : Int)])) σ351)
  (T (29 : Nat) [Go.Value.pointer (Option.some (Go.Addr.mk x (0 : Nat) Option.none)), Go.Value.int Go.IntKind.i64 split] σ fun (v352 : Go.Value) (σ353 : Go.AI.AS) ↦
  Go.AI.tAgg v352 fun (l354 : List Go.Value) ↦
  Go.AI.tCons l354 fun (v355 : Go.Value) (l356 : List Go.Value) ↦
  Go.AI.tI Go.IntKind.i64 v355 fun (n357 : Int) ↦
  Go.AI.tCons l356 fun (v358 : Go.Value) (l359 : List Go.Value) ↦
  Go.AI.tI Go.IntKind.i64 v358 fun (n360 : Int) ↦
  Go.AI.tCons l359 fun (v361 : Go.Value) (l362 : List Go.Value) ↦
  Go.AI.tI Go.IntKind.i64 v361 fun (n363 : Int) ↦
  Go.AI.tCons l362 fun (v364 : Go.Value) (l365 : List Go.Value) ↦
  Go.AI.tI Go.IntKind.i64 v364 fun (n366 : Int) ↦
  Go.AI.tCons l365 fun (v367 : Go.Value) (l368 : List Go.Value) ↦
  Go.AI.tI Go.IntKind.i64 v367 fun (n369 : Int) ↦
  Go.AI.tCons l368 fun (v370 : Go.Value) (l371 : List Go.Value) ↦
  Go.AI.tI Go.IntKind.i64 v370 fun (n372 : Int) ↦
  Go.AI.tCons l371 fun (v373 : Go.Value) (l374 : List Go.Value) ↦
  Go.AI.tI Go.IntKind.u32 v373 fun (n375 : Int) ↦
  Go.AI.tCons l374 fun (v376 : Go.Value) (l377 : List Go.Value) ↦
  Go.AI.tI Go.IntKind.i64 v376 fun (n378 : Int) ↦
  Go.AI.tNil l377
  (Go.AI.newAt σ353
  (Go.AI.AObj.row Go.AI.RK.plain
  [Go.Value.int Go.IntKind.i64 (0 : Int), Go.Value.int Go.IntKind.i64 (0 : Int), Go.Value.int Go.IntKind.i64 (0 : Int),
  Go.Value.int Go.IntKind.i64 (0 : Int), Go.Value.int Go.IntKind.i64 (0 : Int), Go.Value.int Go.IntKind.i64 (0 : Int),
  Go.Value.int Go.IntKind.u32 (0 : Int), Go.Value.int Go.IntKind.i64 (0 : Int)])
  fun (i379 : Nat) (σ380 : Go.AI.AS) ↦
  Go.AI.puts σ380 (Go.Addr.mk i379 (0 : Nat) Option.none)
  [Go.Value.int Go.IntKind.i64 n357, Go.Value.int Go.IntKind.i64 n360, Go.Value.int Go.IntKind.i64 n363, Go.Value.int Go.IntKind.i64 n366,
  Go.Value.int Go.IntKind.i64 n369, Go.Value.int Go.IntKind.i64 n372, Go.Value.int Go.IntKind.u32 n375, Go.Value.int Go.IntKind.i64 n378]
  fun (σ381 : Go.AI.AS) ↦
  Go.AI.newAt σ381
  (Go.AI.AObj.row Go.AI.RK.plain
  [Go.Value.int Go.IntKind.i64 (0 : Int), Go.Value.int Go.IntKind.i64 (0 : Int), Go.Value.int Go.IntKind.i64 (0 : Int),
  Go.Value.int Go.IntKind.i64 (0 : Int), Go.Value.int Go.IntKind.i64 (0 : Int), Go.Value.int Go.IntKind.i64 (0 : Int),
  Go.Value.int Go.IntKind.u32 (0 : Int), Go.Value.int Go.IntKind.i64 (0 : Int)])
  fun (i382 : Nat) (σ383 : Go.AI.AS) ↦
  Go.AI.puts σ383 (Go.Addr.mk i382 (0 : Nat) Option.none)
  [Go.Value.int Go.IntKind.i64 (Go.IntKind.wrap Go.IntKind.i64 (Go.IntKind.wrap Go.IntKind.i64 (n342 + (1 : Int)) + (1 : Int))),
  Go.Value.int Go.IntKind.i64 (4 : Int), Go.Value.int Go.IntKind.i64 (0 : Int), Go.Value.int Go.IntKind.i64 split,
  Go.Value.int Go.IntKind.i64 (Go.IntKind.wrap Go.IntKind.i64 (n342 + (1 : Int))), Go.Value.int Go.IntKind.i64 m,
  Go.Value.int Go.IntKind.u32 size, Go.Value.int Go.IntKind.i64 (Go.IntKind.wrap Go.IntKind.i64 (n342 + (1 : Int)))]
  fun (σ384 : Go.AI.AS) ↦
  Go.AI.bmatch (Int.tmod m (2 : Int) == (0 : Int))
  (Go.AI.put1 σ384 (Go.Addr.mk i382 ((0 : Nat) + (3 : Nat)) Option.none)
  (Go.Value.int Go.IntKind.i64 (Go.IntKind.wrap Go.IntKind.i64 (n342 + (1 : Int)))) fun (σ385 : Go.AI.AS) ↦
  Go.AI.put1 σ385 (Go.Addr.mk i382 ((0 : Nat) + (4 : Nat)) Option.none) (Go.Value.int Go.IntKind.i64 split) fun (σ386 : Go.AI.AS) ↦
  Go.AI.JoinS
  (Go.AI.jn Go.Proofs.Try.prog Go.AI.hintsS T (53 : Nat)
  [Bool.true, Bool.true, Bool.true, Bool.true, Bool.true, Bool.true, Bool.true, Bool.true, Bool.true, Bool.true] [] K)
  [((0 : Nat), Option.some (Go.Value.pointer (Option.some (Go.Addr.mk x (0 : Nat) Option.none)))),
  ((1 : Nat), Option.some (Go.Value.int Go.IntKind.i64 split)), ((4 : Nat), Option.some (Go.Value.int Go.IntKind.i64 kind)),
  ((12 : Nat), Option.some (Go.Value.int Go.IntKind.i64 (Go.IntKind.wrap Go.IntKind.i64 (n342 + (1 : Int))))),
  ((13 : Nat), Option.some (Go.Value.pointer (Option.some (Go.Addr.mk i379 (0 : Nat) Option.none)))),
  ((14 : Nat), Option.some (Go.Value.pointer (Option.some (Go.Addr.mk i382 (0 : Nat) Option.none))))]
  σ386)
  (Go.AI.JoinS
  (Go.AI.jn Go.Proofs.Try.prog Go.AI.hintsS T (53 : Nat)
  [Bool.true, Bool.true, Bool.true, Bool.true, Bool.true, Bool.true, Bool.true, Bool.true, Bool.true, Bool.true] [] K)
  [((0 : Nat), Option.some (Go.Value.pointer (Option.some (Go.Addr.mk x (0 : Nat) Option.none)))),
  ((1 : Nat), Option.some (Go.Value.int Go.IntKind.i64 split)), ((4 : Nat), Option.some (Go.Value.int Go.IntKind.i64 kind)),
  ((12 : Nat), Option.some (Go.Value.int Go.IntKind.i64 (Go.IntKind.wrap Go.IntKind.i64 (n342 + (1 : Int))))),
  ((13 : Nat), Option.some (Go.Value.pointer (Option.some (Go.Addr.mk i379 (0 : Nat) Option.none)))),
  ((14 : Nat), Option.some (Go.Value.pointer (Option.some (Go.Addr.mk i382 (0 : Nat) Option.none))))]
  σ384))))))))
  (Go.AI.bmatch (split != (0 : Int))
  (T (47 : Nat) [Go.Value.pointer (Option.some (Go.Addr.mk x (0 : Nat) Option.none)), Go.Value.int Go.IntKind.i64 split] σ fun (v387 : Go.Value) (σ388 : Go.AI.AS) ↦
  Go.AI.tI Go.IntKind.i64 v387 fun (n389 : Int) ↦
  Go.AI.bmatch (Decidable.decide (n389 < (0 : Int))) (K (Go.Value.tuple (Array.mk [Go.Value.int Go.IntKind.i64 (0 : Int), Go.Value.int Go.IntKind.i64 (5 : Int)])) σ388)
  (Go.AI.bmatch (split != (0 : Int))
  (T (63 : Nat) [Go.Value.int Go.IntKind.i64 m] σ388 fun (v390 : Go.Value) (σ391 : Go.AI.AS) ↦
  Go.AI.tB v390 fun (b392 : Bool) ↦
  Go.AI.bmatch (!b392) (K (Go.Value.tuple (Array.mk [Go.Value.int Go.IntKind.i64 (0 : Int), Go.Value.int Go.IntKind.i64 (1 : Int)])) σ391)
  (Go.AI.bmatch (split != (0 : Int))
  (Go.AI.ldc σ391 (Go.Addr.mk x ((0 : Nat) + (2 : Nat)) Option.none) fun (v393 : Go.Value) ↦
  Go.AI.tL (8 : Nat) v393 fun (s394 : Go.AI.Sl) ↦
  Go.AI.bmatch (Decidable.decide ((↑(Go.AI.Sl.n s394) : Int) > (62 : Int)))
  (K (Go.Value.tuple (Array.mk [Go.Value.int Go.IntKind.i64 (0 : Int), Go.Value.int Go.IntKind.i64 (4 : Int)])) σ391)
  (Go.AI.ldc σ391 (Go.Addr.mk x ((0 : Nat) + (3 : Nat)) Option.none) fun (v395 : Go.Value) ↦
  Go.AI.tI Go.IntKind.i64 v395 fun (n396 : Int) ↦
  Go.AI.bmatch (split == (0 : Int))
  (Go.AI.ldc σ391 (Go.Addr.mk x ((0 : Nat) + (2 : Nat)) Option.none) fun (v397 : Go.Value) ↦
  Go.AI.tL (8 : Nat) v397 fun (s398 : Go.AI.Sl) ↦
  Go.AI.newAt σ391
  (Go.AI.AObj.row Go.AI.RK.rw
  [Go.Value.int Go.IntKind.i64 (Go.IntKind.wrap Go.IntKind.i64 (n396 + (1 : Int))), Go.Value.int Go.IntKind.i64 kind, Go.Value.int Go.IntKind.i64 (0 : Int),
  Go.Value.int Go.IntKind.i64 (0 : Int), Go.Value.int Go.IntKind.i64 (0 : Int), Go.Value.int Go.IntKind.i64 (0 : Int), Go.Value.int Go.IntKind.u32 (0 : Int),
  Go.Value.int Go.IntKind.i64 (0 : Int)])
  fun (i399 : Nat) (σ400 : Go.AI.AS) ↦
  Go.AI.lds σ400 (Go.Addr.mk i399 (0 : Nat) Option.none) (8 : Nat) fun (l401 : List Go.Value) ↦
  Go.AI.appendTo σ400 (8 : Nat) (64 : Nat) (Go.AI.Sl.mk (Go.AI.Sl.a s398) (Go.AI.Sl.n s398)) l401 (1 : Nat) fun (s402 : Go.AI.Sl) (σ403 : Go.AI.AS) ↦
  Go.AI.put1 σ403 (Go.Addr.mk x ((0 : Nat) + (2 : Nat)) Option.none) (Go.Value.slice (Go.AI.Sl.a s402) (Go.AI.Sl.n s402) (8 : Nat)) fun (σ404 : Go.AI.AS) ↦
  Go.AI.put1 σ404 (Go.Addr.mk x ((0 : Nat) + (3 : Nat)) Option.none) (Go.Value.int Go.IntKind.i64 (Go.IntKind.wrap Go.IntKind.i64 (n396 + (1 : Int))))
  fun (σ405 : Go.AI.AS) ↦
  K (Go.Value.tuple (Array.mk [Go.Value.int Go.IntKind.i64 (Go.IntKind.wrap Go.IntKind.i64 (n396 + (1 : Int))), Go.Value.int Go.IntKind.i64 (0 : Int)])) σ405)
  (T (29 : Nat) [Go.Value.pointer (Option.some (Go.Addr.mk x (0 : Nat) Option.none)), Go.Value.int Go.IntKind.i64 split] σ391 fun (v406 : Go.Value) (σ407 : Go.AI.AS) ↦
  Go.AI.tAgg v406 fun (l408 : List Go.Value) ↦
  Go.AI.tCons l408 fun (v409 : Go.Value) (l410 : List Go.Value) ↦
  Go.AI.tI Go.IntKind.i64 v409 fun (n411 : Int) ↦
  Go.AI.tCons l410 fun (v412 : Go.Value) (l413 : List Go.Value) ↦
  Go.AI.tI Go.IntKind.i64 v412 fun (n414 : Int) ↦
  Go.AI.tCons l413 fun (v415 : Go.Value) (l416 : List Go.Value) ↦
  Go.AI.tI Go.IntKind.i64 v415 fun (n417 : Int) ↦
  Go.AI.tCons l416 fun (v418 : Go.Value) (l419 : List Go.Value) ↦
  Go.AI.tI Go.IntKind.i64 v418 fun (n420 : Int) ↦
  Go.AI.tCons l419 fun (v421 : Go.Value) (l422 : List Go.Value) ↦
  Go.AI.tI Go.IntKind.i64 v421 fun (n423 : Int) ↦
  Go.AI.tCons l422 fun (v424 : Go.Value) (l425 : List Go.Value) ↦
  Go.AI.tI Go.IntKind.i64 v424 fun (n426 : Int) ↦
  Go.AI.tCons l425 fun (v427 : Go.Value) (l428 : List Go.Value) ↦
  Go.AI.tI Go.IntKind.u32 v427 fun (n429 : Int) ↦
  Go.AI.tCons l428 fun (v430 : Go.Value) (l431 : List Go.Value) ↦
  Go.AI.tI Go.IntKind.i64 v430 fun (n432 : Int) ↦
  Go.AI.tNil l431
  (Go.AI.newAt σ407
  (Go.AI.AObj.row Go.AI.RK.plain
  [Go.Value.int Go.IntKind.i64 (0 : Int), Go.Value.int Go.IntKind.i64 (0 : Int), Go.Value.int Go.IntKind.i64 (0 : Int),
  Go.Value.int Go.IntKind.i64 (0 : Int), Go.Value.int Go.IntKind.i64 (0 : Int), Go.Value.int Go.IntKind.i64 (0 : Int),
  Go.Value.int Go.IntKind.u32 (0 : Int), Go.Value.int Go.IntKind.i64 (0 : Int)])
  fun (i433 : Nat) (σ434 : Go.AI.AS) ↦
  Go.AI.puts σ434 (Go.Addr.mk i433 (0 : Nat) Option.none)
  [Go.Value.int Go.IntKind.i64 n411, Go.Value.int Go.IntKind.i64 n414, Go.Value.int Go.IntKind.i64 n417, Go.Value.int Go.IntKind.i64 n420,
  Go.Value.int Go.IntKind.i64 n423, Go.Value.int Go.IntKind.i64 n426, Go.Value.int Go.IntKind.u32 n429, Go.Value.int Go.IntKind.i64 n432]
  fun (σ435 : Go.AI.AS) ↦
  Go.AI.newAt σ435
  (Go.AI.AObj.row Go.AI.RK.plain
  [Go.Value.int Go.IntKind.i64 (0 : Int), Go.Value.int Go.IntKind.i64 (0 : Int), Go.Value.int Go.IntKind.i64 (0 : Int),
  Go.Value.int Go.IntKind.i64 (0 : Int), Go.Value.int Go.IntKind.i64 (0 : Int), Go.Value.int Go.IntKind.i64 (0 : Int),
  Go.Value.int Go.IntKind.u32 (0 : Int), Go.Value.int Go.IntKind.i64 (0 : Int)])
  fun (i436 : Nat) (σ437 : Go.AI.AS) ↦
  Go.AI.puts σ437 (Go.Addr.mk i436 (0 : Nat) Option.none)
  [Go.Value.int Go.IntKind.i64 (Go.IntKind.wrap Go.IntKind.i64 (Go.IntKind.wrap Go.IntKind.i64 (n396 + (1 : Int)) + (1 : Int))),
  Go.Value.int Go.IntKind.i64 (4 : Int), Go.Value.int Go.IntKind.i64 (0 : Int), Go.Value.int Go.IntKind.i64 split,
  Go.Value.int Go.IntKind.i64 (Go.IntKind.wrap Go.IntKind.i64 (n396 + (1 : Int))), Go.Value.int Go.IntKind.i64 m,
  Go.Value.int Go.IntKind.u32 size, Go.Value.int Go.IntKind.i64 (Go.IntKind.wrap Go.IntKind.i64 (n396 + (1 : Int)))]
  fun (σ438 : Go.AI.AS) ↦
  Go.AI.bmatch (Int.tmod m (2 : Int) == (0 : Int))
  (Go.AI.put1 σ438 (Go.Addr.mk i436 ((0 : Nat) + (3 : Nat)) Option.none)
  (Go.Value.int Go.IntKind.i64 (Go.IntKind.wrap Go.IntKind.i64 (n396 + (1 : Int)))) fun (σ439 : Go.AI.AS) ↦
  Go.AI.put1 σ439 (Go.Addr.mk i436 ((0 : Nat) + (4 : Nat)) Option.none) (Go.Value.int Go.IntKind.i64 split)
  fun (σ440 : Go.AI.AS) ↦
  Go.AI.JoinS
  (Go.AI.jn Go.Proofs.Try.prog Go.AI.hintsS T (53 : Nat)
  [Bool.true, Bool.true, Bool.true, Bool.true, Bool.true, Bool.true, Bool.true, Bool.true, Bool.true, Bool.true] [] K)
  [((0 : Nat), Option.some (Go.Value.pointer (Option.some (Go.Addr.mk x (0 : Nat) Option.none)))),
  ((1 : Nat), Option.some (Go.Value.int Go.IntKind.i64 split)),
  ((4 : Nat), Option.some (Go.Value.int Go.IntKind.i64 kind)),
  ((12 : Nat), Option.some (Go.Value.int Go.IntKind.i64 (Go.IntKind.wrap Go.IntKind.i64 (n396 + (1 : Int))))),
  ((13 : Nat), Option.some (Go.Value.pointer (Option.some (Go.Addr.mk i433 (0 : Nat) Option.none)))),
  ((14 : Nat), Option.some (Go.Value.pointer (Option.some (Go.Addr.mk i436 (0 : Nat) Option.none))))]
  σ440)
  (Go.AI.JoinS
  (Go.AI.jn Go.Proofs.Try.prog Go.AI.hintsS T (53 : Nat)
  [Bool.true, Bool.true, Bool.true, Bool.true, Bool.true, Bool.true, Bool.true, Bool.true, Bool.true, Bool.true] [] K)
  [((0 : Nat), Option.some (Go.Value.pointer (Option.some (Go.Addr.mk x (0 : Nat) Option.none)))),
  ((1 : Nat), Option.some (Go.Value.int Go.IntKind.i64 split)), ((4 : Nat), Option.some (Go.Value.int Go.IntKind.i64 kind)),
  ((12 : Nat), Option.some (Go.Value.int Go.IntKind.i64 (Go.IntKind.wrap Go.IntKind.i64 (n396 + (1 : Int))))),
  ((13 : Nat), Option.some (Go.Value.pointer (Option.some (Go.Addr.mk i433 (0 : Nat) Option.none)))),
  ((14 : Nat), Option.some (Go.Value.pointer (Option.some (Go.Addr.mk i436 (0 : Nat) Option.none))))]
  σ438)))))
  (Go.AI.ldc σ391 (Go.Addr.mk x ((0 : Nat) + (3 : Nat)) Option.none) fun (v441 : Go.Value) ↦
  Go.AI.tI Go.IntKind.i64 v441 fun (n442 : Int) ↦
  Go.AI.bmatch (split == (0 : Int))
  (Go.AI.ldc σ391 (Go.Addr.mk x ((0 : Nat) + (2 : Nat)) Option.none) fun (v443 : Go.Value) ↦
  Go.AI.tL (8 : Nat) v443 fun (s444 : Go.AI.Sl) ↦
  Go.AI.newAt σ391
  (Go.AI.AObj.row Go.AI.RK.rw
  [Go.Value.int Go.IntKind.i64 (Go.IntKind.wrap Go.IntKind.i64 (n442 + (1 : Int))), Go.Value.int Go.IntKind.i64 kind, Go.Value.int Go.IntKind.i64 (0 : Int),
  Go.Value.int Go.IntKind.i64 (0 : Int), Go.Value.int Go.IntKind.i64 (0 : Int), Go.Value.int Go.IntKind.i64 (0 : Int), Go.Value.int Go.IntKind.u32 (0 : Int),
  Go.Value.int Go.IntKind.i64 (0 : Int)])
  fun (i445 : Nat) (σ446 : Go.AI.AS) ↦
  Go.AI.lds σ446 (Go.Addr.mk i445 (0 : Nat) Option.none) (8 : Nat) fun (l447 : List Go.Value) ↦
  Go.AI.appendTo σ446 (8 : Nat) (64 : Nat) (Go.AI.Sl.mk (Go.AI.Sl.a s444) (Go.AI.Sl.n s444)) l447 (1 : Nat) fun (s448 : Go.AI.Sl) (σ449 : Go.AI.AS) ↦
  Go.AI.put1 σ449 (Go.Addr.mk x ((0 : Nat) + (2 : Nat)) Option.none) (Go.Value.slice (Go.AI.Sl.a s448) (Go.AI.Sl.n s448) (8 : Nat)) fun (σ450 : Go.AI.AS) ↦
  Go.AI.put1 σ450 (Go.Addr.mk x ((0 : Nat) + (3 : Nat)) Option.none) (Go.Value.int Go.IntKind.i64 (Go.IntKind.wrap Go.IntKind.i64 (n442 + (1 : Int)))) fun (σ451 : Go.AI.AS) ↦
  K (Go.Value.tuple (Array.mk [Go.Value.int Go.IntKind.i64 (Go.IntKind.wrap Go.IntKind.i64 (n442 + (1 : Int))), Go.Value.int Go.IntKind.i64 (0 : Int)])) σ451)
  (T (29 : Nat) [Go.Value.pointer (Option.some (Go.Addr.mk x (0 : Nat) Option.none)), Go.Value.int Go.IntKind.i64 split] σ391 fun (v452 : Go.Value) (σ453 : Go.AI.AS) ↦
  Go.AI.tAgg v452 fun (l454 : List Go.Value) ↦
  Go.AI.tCons l454 fun (v455 : Go.Value) (l456 : List Go.Value) ↦
  Go.AI.tI Go.IntKind.i64 v455 fun (n457 : Int) ↦
  Go.AI.tCons l456 fun (v458 : Go.Value) (l459 : List Go.Value) ↦
  Go.AI.tI Go.IntKind.i64 v458 fun (n460 : Int) ↦
  Go.AI.tCons l459 fun (v461 : Go.Value) (l462 : List Go.Value) ↦
  Go.AI.tI Go.IntKind.i64 v461 fun (n463 : Int) ↦
  Go.AI.tCons l462 fun (v464 : Go.Value) (l465 : List Go.Value) ↦
  Go.AI.tI Go.IntKind.i64 v464 fun (n466 : Int) ↦
  Go.AI.tCons l465 fun (v467 : Go.Value) (l468 : List Go.Value) ↦
  Go.AI.tI Go.IntKind.i64 v467 fun (n469 : Int) ↦
  Go.AI.tCons l468 fun (v470 : Go.Value) (l471 : List Go.Value) ↦
  Go.AI.tI Go.IntKind.i64 v470 fun (n472 : Int) ↦
  Go.AI.tCons l471 fun (v473 : Go.Value) (l474 : List Go.Value) ↦
  Go.AI.tI Go.IntKind.u32 v473 fun (n475 : Int) ↦
  Go.AI.tCons l474 fun (v476 : Go.Value) (l477 : List Go.Value) ↦
  Go.AI.tI Go.IntKind.i64 v476 fun (n478 : Int) ↦
  Go.AI.tNil l477
  (Go.AI.newAt σ453
  (Go.AI.AObj.row Go.AI.RK.plain
  [Go.Value.int Go.IntKind.i64 (0 : Int), Go.Value.int Go.IntKind.i64 (0 : Int), Go.Value.int Go.IntKind.i64 (0 : Int),
  Go.Value.int Go.IntKind.i64 (0 : Int), Go.Value.int Go.IntKind.i64 (0 : Int), Go.Value.int Go.IntKind.i64 (0 : Int),
  Go.Value.int Go.IntKind.u32 (0 : Int), Go.Value.int Go.IntKind.i64 (0 : Int)])
  fun (i479 : Nat) (σ480 : Go.AI.AS) ↦
  Go.AI.puts σ480 (Go.Addr.mk i479 (0 : Nat) Option.none)
  [Go.Value.int Go.IntKind.i64 n457, Go.Value.int Go.IntKind.i64 n460, Go.Value.int Go.IntKind.i64 n463, Go.Value.int Go.IntKind.i64 n466,
  Go.Value.int Go.IntKind.i64 n469, Go.Value.int Go.IntKind.i64 n472, Go.Value.int Go.IntKind.u32 n475, Go.Value.int Go.IntKind.i64 n478]
  fun (σ481 : Go.AI.AS) ↦
  Go.AI.newAt σ481
  (Go.AI.AObj.row Go.AI.RK.plain
  [Go.Value.int Go.IntKind.i64 (0 : Int), Go.Value.int Go.IntKind.i64 (0 : Int), Go.Value.int Go.IntKind.i64 (0 : Int),
  Go.Value.int Go.IntKind.i64 (0 : Int), Go.Value.int Go.IntKind.i64 (0 : Int), Go.Value.int Go.IntKind.i64 (0 : Int),
  Go.Value.int Go.IntKind.u32 (0 : Int), Go.Value.int Go.IntKind.i64 (0 : Int)])
  fun (i482 : Nat) (σ483 : Go.AI.AS) ↦
  Go.AI.puts σ483 (Go.Addr.mk i482 (0 : Nat) Option.none)
  [Go.Value.int Go.IntKind.i64 (Go.IntKind.wrap Go.IntKind.i64 (Go.IntKind.wrap Go.IntKind.i64 (n442 + (1 : Int)) + (1 : Int))),
  Go.Value.int Go.IntKind.i64 (4 : Int), Go.Value.int Go.IntKind.i64 (0 : Int), Go.Value.int Go.IntKind.i64 split,
  Go.Value.int Go.IntKind.i64 (Go.IntKind.wrap Go.IntKind.i64 (n442 + (1 : Int))), Go.Value.int Go.IntKind.i64 m,
  Go.Value.int Go.IntKind.u32 size, Go.Value.int Go.IntKind.i64 (Go.IntKind.wrap Go.IntKind.i64 (n442 + (1 : Int)))]
  fun (σ484 : Go.AI.AS) ↦
  Go.AI.bmatch (Int.tmod m (2 : Int) == (0 : Int))
  (Go.AI.put1 σ484 (Go.Addr.mk i482 ((0 : Nat) + (3 : Nat)) Option.none)
  (Go.Value.int Go.IntKind.i64 (Go.IntKind.wrap Go.IntKind.i64 (n442 + (1 : Int)))) fun (σ485 : Go.AI.AS) ↦
  Go.AI.put1 σ485 (Go.Addr.mk i482 ((0 : Nat) + (4 : Nat)) Option.none) (Go.Value.int Go.IntKind.i64 split) fun (σ486 : Go.AI.AS) ↦
  Go.AI.JoinS
  (Go.AI.jn Go.Proofs.Try.prog Go.AI.hintsS T (53 : Nat)
  [Bool.true, Bool.true, Bool.true, Bool.true, Bool.true, Bool.true, Bool.true, Bool.true, Bool.true, Bool.true] [] K)
  [((0 : Nat), Option.some (Go.Value.pointer (Option.some (Go.Addr.mk x (0 : Nat) Option.none)))),
  ((1 : Nat), Option.some (Go.Value.int Go.IntKind.i64 split)), ((4 : Nat), Option.some (Go.Value.int Go.IntKind.i64 kind)),
  ((12 : Nat), Option.some (Go.Value.int Go.IntKind.i64 (Go.IntKind.wrap Go.IntKind.i64 (n442 + (1 : Int))))),
  ((13 : Nat), Option.some (Go.Value.pointer (Option.some (Go.Addr.mk i479 (0 : Nat) Option.none)))),
  ((14 : Nat), Option.some (Go.Value.pointer (Option.some (Go.Addr.mk i482 (0 : Nat) Option.none))))]
  σ486)
  (Go.AI.JoinS
  (Go.AI.jn Go.Proofs.Try.prog Go.AI.hintsS T (53 : Nat)
  [Bool.true, Bool.true, Bool.true, Bool.true, Bool.true, Bool.true, Bool.true, Bool.true, Bool.true, Bool.true] [] K)
  [((0 : Nat), Option.some (Go.Value.pointer (Option.some (Go.Addr.mk x (0 : Nat) Option.none)))),
  ((1 : Nat), Option.some (Go.Value.int Go.IntKind.i64 split)), ((4 : Nat), Option.some (Go.Value.int Go.IntKind.i64 kind)),
  ((12 : Nat), Option.some (Go.Value.int Go.IntKind.i64 (Go.IntKind.wrap Go.IntKind.i64 (n442 + (1 : Int))))),
  ((13 : Nat), Option.some (Go.Value.pointer (Option.some (Go.Addr.mk i479 (0 : Nat) Option.none)))),
  ((14 : Nat), Option.some (Go.Value.pointer (Option.some (Go.Addr.mk i482 (0 : Nat) Option.none))))]
  σ484))))))
  (Go.AI.bmatch (split != (0 : Int))
  (Go.AI.ldc σ388 (Go.Addr.mk x ((0 : Nat) + (2 : Nat)) Option.none) fun (v487 : Go.Value) ↦
  Go.AI.tL (8 : Nat) v487 fun (s488 : Go.AI.Sl) ↦
  Go.AI.bmatch (Decidable.decide ((↑(Go.AI.Sl.n s488) : Int) > (62 : Int))) (K (Go.Value.tuple (Array.mk [Go.Value.int Go.IntKind.i64 (0 : Int), Go.Value.int Go.IntKind.i64 (4 : Int)])) σ388)
  (Go.AI.ldc σ388 (Go.Addr.mk x ((0 : Nat) + (3 : Nat)) Option.none) fun (v489 : Go.Value) ↦
  Go.AI.tI Go.IntKind.i64 v489 fun (n490 : Int) ↦
  Go.AI.bmatch (split == (0 : Int))
  (Go.AI.ldc σ388 (Go.Addr.mk x ((0 : Nat) + (2 : Nat)) Option.none) fun (v491 : Go.Value) ↦
  Go.AI.tL (8 : Nat) v491 fun (s492 : Go.AI.Sl) ↦
  Go.AI.newAt σ388
  (Go.AI.AObj.row Go.AI.RK.rw
  [Go.Value.int Go.IntKind.i64 (Go.IntKind.wrap Go.IntKind.i64 (n490 + (1 : Int))), Go.Value.int Go.IntKind.i64 kind, Go.Value.int Go.IntKind.i64 (0 : Int),
  Go.Value.int Go.IntKind.i64 (0 : Int), Go.Value.int Go.IntKind.i64 (0 : Int), Go.Value.int Go.IntKind.i64 (0 : Int), Go.Value.int Go.IntKind.u32 (0 : Int),
  Go.Value.int Go.IntKind.i64 (0 : Int)])
  fun (i493 : Nat) (σ494 : Go.AI.AS) ↦
  Go.AI.lds σ494 (Go.Addr.mk i493 (0 : Nat) Option.none) (8 : Nat) fun (l495 : List Go.Value) ↦
  Go.AI.appendTo σ494 (8 : Nat) (64 : Nat) (Go.AI.Sl.mk (Go.AI.Sl.a s492) (Go.AI.Sl.n s492)) l495 (1 : Nat) fun (s496 : Go.AI.Sl) (σ497 : Go.AI.AS) ↦
  Go.AI.put1 σ497 (Go.Addr.mk x ((0 : Nat) + (2 : Nat)) Option.none) (Go.Value.slice (Go.AI.Sl.a s496) (Go.AI.Sl.n s496) (8 : Nat)) fun (σ498 : Go.AI.AS) ↦
  Go.AI.put1 σ498 (Go.Addr.mk x ((0 : Nat) + (3 : Nat)) Option.none) (Go.Value.int Go.IntKind.i64 (Go.IntKind.wrap Go.IntKind.i64 (n490 + (1 : Int)))) fun (σ499 : Go.AI.AS) ↦
  K (Go.Value.tuple (Array.mk [Go.Value.int Go.IntKind.i64 (Go.IntKind.wrap Go.IntKind.i64 (n490 + (1 : Int))), Go.Value.int Go.IntKind.i64 (0 : Int)])) σ499)
  (T (29 : Nat) [Go.Value.pointer (Option.some (Go.Addr.mk x (0 : Nat) Option.none)), Go.Value.int Go.IntKind.i64 split] σ388 fun (v500 : Go.Value) (σ501 : Go.AI.AS) ↦
  Go.AI.tAgg v500 fun (l502 : List Go.Value) ↦
  Go.AI.tCons l502 fun (v503 : Go.Value) (l504 : List Go.Value) ↦
  Go.AI.tI Go.IntKind.i64 v503 fun (n505 : Int) ↦
  Go.AI.tCons l504 fun (v506 : Go.Value) (l507 : List Go.Value) ↦
  Go.AI.tI Go.IntKind.i64 v506 fun (n508 : Int) ↦
  Go.AI.tCons l507 fun (v509 : Go.Value) (l510 : List Go.Value) ↦
  Go.AI.tI Go.IntKind.i64 v509 fun (n511 : Int) ↦
  Go.AI.tCons l510 fun (v512 : Go.Value) (l513 : List Go.Value) ↦
  Go.AI.tI Go.IntKind.i64 v512 fun (n514 : Int) ↦
  Go.AI.tCons l513 fun (v515 : Go.Value) (l516 : List Go.Value) ↦
  Go.AI.tI Go.IntKind.i64 v515 fun (n517 : Int) ↦
  Go.AI.tCons l516 fun (v518 : Go.Value) (l519 : List Go.Value) ↦
  Go.AI.tI Go.IntKind.i64 v518 fun (n520 : Int) ↦
  Go.AI.tCons l519 fun (v521 : Go.Value) (l522 : List Go.Value) ↦
  Go.AI.tI Go.IntKind.u32 v521 fun (n523 : Int) ↦
  Go.AI.tCons l522 fun (v524 : Go.Value) (l525 : List Go.Value) ↦
  Go.AI.tI Go.IntKind.i64 v524 fun (n526 : Int) ↦
  Go.AI.tNil l525
  (Go.AI.newAt σ501
  (Go.AI.AObj.row Go.AI.RK.plain
  [Go.Value.int Go.IntKind.i64 (0 : Int), Go.Value.int Go.IntKind.i64 (0 : Int), Go.Value.int Go.IntKind.i64 (0 : Int),
  Go.Value.int Go.IntKind.i64 (0 : Int), Go.Value.int Go.IntKind.i64 (0 : Int), Go.Value.int Go.IntKind.i64 (0 : Int),
  Go.Value.int Go.IntKind.u32 (0 : Int), Go.Value.int Go.IntKind.i64 (0 : Int)])
  fun (i527 : Nat) (σ528 : Go.AI.AS) ↦
  Go.AI.puts σ528 (Go.Addr.mk i527 (0 : Nat) Option.none)
  [Go.Value.int Go.IntKind.i64 n505, Go.Value.int Go.IntKind.i64 n508, Go.Value.int Go.IntKind.i64 n511, Go.Value.int Go.IntKind.i64 n514,
  Go.Value.int Go.IntKind.i64 n517, Go.Value.int Go.IntKind.i64 n520, Go.Value.int Go.IntKind.u32 n523, Go.Value.int Go.IntKind.i64 n526]
  fun (σ529 : Go.AI.AS) ↦
  Go.AI.newAt σ529
  (Go.AI.AObj.row Go.AI.RK.plain
  [Go.Value.int Go.IntKind.i64 (0 : Int), Go.Value.int Go.IntKind.i64 (0 : Int), Go.Value.int Go.IntKind.i64 (0 : Int),
  Go.Value.int Go.IntKind.i64 (0 : Int), Go.Value.int Go.IntKind.i64 (0 : Int), Go.Value.int Go.IntKind.i64 (0 : Int),
  Go.Value.int Go.IntKind.u32 (0 : Int), Go.Value.int Go.IntKind.i64 (0 : Int)])
  fun (i530 : Nat) (σ531 : Go.AI.AS) ↦
  Go.AI.puts σ531 (Go.Addr.mk i530 (0 : Nat) Option.none)
  [Go.Value.int Go.IntKind.i64 (Go.IntKind.wrap Go.IntKind.i64 (Go.IntKind.wrap Go.IntKind.i64 (n490 + (1 : Int)) + (1 : Int))),
  Go.Value.int Go.IntKind.i64 (4 : Int), Go.Value.int Go.IntKind.i64 (0 : Int), Go.Value.int Go.IntKind.i64 split,
  Go.Value.int Go.IntKind.i64 (Go.IntKind.wrap Go.IntKind.i64 (n490 + (1 : Int))), Go.Value.int Go.IntKind.i64 m,
  Go.Value.int Go.IntKind.u32 size, Go.Value.int Go.IntKind.i64 (Go.IntKind.wrap Go.IntKind.i64 (n490 + (1 : Int)))]
  fun (σ532 : Go.AI.AS) ↦
  Go.AI.bmatch (Int.tmod m (2 : Int) == (0 : Int))
  (Go.AI.put1 σ532 (Go.Addr.mk i530 ((0 : Nat) + (3 : Nat)) Option.none)
  (Go.Value.int Go.IntKind.i64 (Go.IntKind.wrap Go.IntKind.i64 (n490 + (1 : Int)))) fun (σ533 : Go.AI.AS) ↦
  Go.AI.put1 σ533 (Go.Addr.mk i530 ((0 : Nat) + (4 : Nat)) Option.none) (Go.Value.int Go.IntKind.i64 split) fun (σ534 : Go.AI.AS) ↦
  Go.AI.JoinS
  (Go.AI.jn Go.Proofs.Try.prog Go.AI.hintsS T (53 : Nat)
  [Bool.true, Bool.true, Bool.true, Bool.true, Bool.true, Bool.true, Bool.true, Bool.true, Bool.true, Bool.true] [] K)
  [((0 : Nat), Option.some (Go.Value.pointer (Option.some (Go.Addr.mk x (0 : Nat) Option.none)))),
  ((1 : Nat), Option.some (Go.Value.int Go.IntKind.i64 split)), ((4 : Nat), Option.some (Go.Value.int Go.IntKind.i64 kind)),
  ((12 : Nat), Option.some (Go.Value.int Go.IntKind.i64 (Go.IntKind.wrap Go.IntKind.i64 (n490 + (1 : Int))))),
  ((13 : Nat), Option.some (Go.Value.pointer (Option.some (Go.Addr.mk i527 (0 : Nat) Option.none)))),
  ((14 : Nat), Option.some (Go.Value.pointer (Option.some (Go.Addr.mk i530 (0 : Nat) Option.none))))]
  σ534)
  (Go.AI.JoinS
  (Go.AI.jn Go.Proofs.Try.prog Go.AI.hintsS T (53 : Nat)
  [Bool.true, Bool.true, Bool.true, Bool.true, Bool.true, Bool.true, Bool.true, Bool.true, Bool.true, Bool.true] [] K)
  [((0 : Nat), Option.some (Go.Value.pointer (Option.some (Go.Addr.mk x (0 : Nat) Option.none)))),
  ((1 : Nat), Option.some (Go.Value.int Go.IntKind.i64 split)), ((4 : Nat), Option.some (Go.Value.int Go.IntKind.i64 kind)),
  ((12 : Nat), Option.some (Go.Value.int Go.IntKind.i64 (Go.IntKind.wrap Go.IntKind.i64 (n490 + (1 : Int))))),
  ((13 : Nat), Option.some (Go.Value.pointer (Option.some (Go.Addr.mk i527 (0 : Nat) Option.none)))),
  ((14 : Nat), Option.some (Go.Value.pointer (Option.some (Go.Addr.mk i530 (0 : Nat) Option.none))))]
  σ532)))))
  (Go.AI.ldc σ388 (Go.Addr.mk x ((0 : Nat) + (3 : Nat)) Option.none) fun (v535 : Go.Value) ↦
  Go.AI.tI Go.IntKind.i64 v535 fun (n536 : Int) ↦
  Go.AI.bmatch (split == (0 : Int))
  (Go.AI.ldc σ388 (Go.Addr.mk x ((0 : Nat) + (2 : Nat)) Option.none) fun (v537 : Go.Value) ↦
  Go.AI.tL (8 : Nat) v537 fun (s538 : Go.AI.Sl) ↦
  Go.AI.newAt σ388
  (Go.AI.AObj.row Go.AI.RK.rw
  [Go.Value.int Go.IntKind.i64 (Go.IntKind.wrap Go.IntKind.i64 (n536 + (1 : Int))), Go.Value.int Go.IntKind.i64 kind, Go.Value.int Go.IntKind.i64 (0 : Int),
  Go.Value.int Go.IntKind.i64 (0 : Int), Go.Value.int Go.IntKind.i64 (0 : Int), Go.Value.int Go.IntKind.i64 (0 : Int), Go.Value.int Go.IntKind.u32 (0 : Int),
  Go.Value.int Go.IntKind.i64 (0 : Int)])
  fun (i539 : Nat) (σ540 : Go.AI.AS) ↦
  Go.AI.lds σ540 (Go.Addr.mk i539 (0 : Nat) Option.none) (8 : Nat) fun (l541 : List Go.Value) ↦
  Go.AI.appendTo σ540 (8 : Nat) (64 : Nat) (Go.AI.Sl.mk (Go.AI.Sl.a s538) (Go.AI.Sl.n s538)) l541 (1 : Nat) fun (s542 : Go.AI.Sl) (σ543 : Go.AI.AS) ↦
  Go.AI.put1 σ543 (Go.Addr.mk x ((0 : Nat) + (2 : Nat)) Option.none) (Go.Value.slice (Go.AI.Sl.a s542) (Go.AI.Sl.n s542) (8 : Nat)) fun (σ544 : Go.AI.AS) ↦
  Go.AI.put1 σ544 (Go.Addr.mk x ((0 : Nat) + (3 : Nat)) Option.none) (Go.Value.int Go.IntKind.i64 (Go.IntKind.wrap Go.IntKind.i64 (n536 + (1 : Int)))) fun (σ545 : Go.AI.AS) ↦
  K (Go.Value.tuple (Array.mk [Go.Value.int Go.IntKind.i64 (Go.IntKind.wrap Go.IntKind.i64 (n536 + (1 : Int))), Go.Value.int Go.IntKind.i64 (0 : Int)])) σ545)
  (T (29 : Nat) [Go.Value.pointer (Option.some (Go.Addr.mk x (0 : Nat) Option.none)), Go.Value.int Go.IntKind.i64 split] σ388 fun (v546 : Go.Value) (σ547 : Go.AI.AS) ↦
  Go.AI.tAgg v546 fun (l548 : List Go.Value) ↦
  Go.AI.tCons l548 fun (v549 : Go.Value) (l550 : List Go.Value) ↦
  Go.AI.tI Go.IntKind.i64 v549 fun (n551 : Int) ↦
  Go.AI.tCons l550 fun (v552 : Go.Value) (l553 : List Go.Value) ↦
  Go.AI.tI Go.IntKind.i64 v552 fun (n554 : Int) ↦
  Go.AI.tCons l553 fun (v555 : Go.Value) (l556 : List Go.Value) ↦
  Go.AI.tI Go.IntKind.i64 v555 fun (n557 : Int) ↦
  Go.AI.tCons l556 fun (v558 : Go.Value) (l559 : List Go.Value) ↦
  Go.AI.tI Go.IntKind.i64 v558 fun (n560 : Int) ↦
  Go.AI.tCons l559 fun (v561 : Go.Value) (l562 : List Go.Value) ↦
  Go.AI.tI Go.IntKind.i64 v561 fun (n563 : Int) ↦
  Go.AI.tCons l562 fun (v564 : Go.Value) (l565 : List Go.Value) ↦
  Go.AI.tI Go.IntKind.i64 v564 fun (n566 : Int) ↦
  Go.AI.tCons l565 fun (v567 : Go.Value) (l568 : List Go.Value) ↦
  Go.AI.tI Go.IntKind.u32 v567 fun (n569 : Int) ↦
  Go.AI.tCons l568 fun (v570 : Go.Value) (l571 : List Go.Value) ↦
  Go.AI.tI Go.IntKind.i64 v570 fun (n572 : Int) ↦
  Go.AI.tNil l571
  (Go.AI.newAt σ547
  (Go.AI.AObj.row Go.AI.RK.plain
  [Go.Value.int Go.IntKind.i64 (0 : Int), Go.Value.int Go.IntKind.i64 (0 : Int), Go.Value.int Go.IntKind.i64 (0 : Int),
  Go.Value.int Go.IntKind.i64 (0 : Int), Go.Value.int Go.IntKind.i64 (0 : Int), Go.Value.int Go.IntKind.i64 (0 : Int),
  Go.Value.int Go.IntKind.u32 (0 : Int), Go.Value.int Go.IntKind.i64 (0 : Int)])
  fun (i573 : Nat) (σ574 : Go.AI.AS) ↦
  Go.AI.puts σ574 (Go.Addr.mk i573 (0 : Nat) Option.none)
  [Go.Value.int Go.IntKind.i64 n551, Go.Value.int Go.IntKind.i64 n554, Go.Value.int Go.IntKind.i64 n557, Go.Value.int Go.IntKind.i64 n560,
  Go.Value.int Go.IntKind.i64 n563, Go.Value.int Go.IntKind.i64 n566, Go.Value.int Go.IntKind.u32 n569, Go.Value.int Go.IntKind.i64 n572]
  fun (σ575 : Go.AI.AS) ↦
  Go.AI.newAt σ575
  (Go.AI.AObj.row Go.AI.RK.plain
  [Go.Value.int Go.IntKind.i64 (0 : Int), Go.Value.int Go.IntKind.i64 (0 : Int), Go.Value.int Go.IntKind.i64 (0 : Int),
  Go.Value.int Go.IntKind.i64 (0 : Int), Go.Value.int Go.IntKind.i64 (0 : Int), Go.Value.int Go.IntKind.i64 (0 : Int),
  Go.Value.int Go.IntKind.u32 (0 : Int), Go.Value.int Go.IntKind.i64 (0 : Int)])
  fun (i576 : Nat) (σ577 : Go.AI.AS) ↦
  Go.AI.puts σ577 (Go.Addr.mk i576 (0 : Nat) Option.none)
  [Go.Value.int Go.IntKind.i64 (Go.IntKind.wrap Go.IntKind.i64 (Go.IntKind.wrap Go.IntKind.i64 (n536 + (1 : Int)) + (1 : Int))),
  Go.Value.int Go.IntKind.i64 (4 : Int), Go.Value.int Go.IntKind.i64 (0 : Int), Go.Value.int Go.IntKind.i64 split,
  Go.Value.int Go.IntKind.i64 (Go.IntKind.wrap Go.IntKind.i64 (n536 + (1 : Int))), Go.Value.int Go.IntKind.i64 m,
  Go.Value.int Go.IntKind.u32 size, Go.Value.int Go.IntKind.i64 (Go.IntKind.wrap Go.IntKind.i64 (n536 + (1 : Int)))]
  fun (σ578 : Go.AI.AS) ↦
  Go.AI.bmatch (Int.tmod m (2 : Int) == (0 : Int))
  (Go.AI.put1 σ578 (Go.Addr.mk i576 ((0 : Nat) + (3 : Nat)) Option.none)
  (Go.Value.int Go.IntKind.i64 (Go.IntKind.wrap Go.IntKind.i64 (n536 + (1 : Int)))) fun (σ579 : Go.AI.AS) ↦
  Go.AI.put1 σ579 (Go.Addr.mk i576 ((0 : Nat) + (4 : Nat)) Option.none) (Go.Value.int Go.IntKind.i64 split) fun (σ580 : Go.AI.AS) ↦
  Go.AI.JoinS
  (Go.AI.jn Go.Proofs.Try.prog Go.AI.hintsS T (53 : Nat)
  [Bool.true, Bool.true, Bool.true, Bool.true, Bool.true, Bool.true, Bool.true, Bool.true, Bool.true, Bool.true] [] K)
  [((0 : Nat), Option.some (Go.Value.pointer (Option.some (Go.Addr.mk x (0 : Nat) Option.none)))),
  ((1 : Nat), Option.some (Go.Value.int Go.IntKind.i64 split)), ((4 : Nat), Option.some (Go.Value.int Go.IntKind.i64 kind)),
  ((12 : Nat), Option.some (Go.Value.int Go.IntKind.i64 (Go.IntKind.wrap Go.IntKind.i64 (n536 + (1 : Int))))),
  ((13 : Nat), Option.some (Go.Value.pointer (Option.some (Go.Addr.mk i573 (0 : Nat) Option.none)))),
  ((14 : Nat), Option.some (Go.Value.pointer (Option.some (Go.Addr.mk i576 (0 : Nat) Option.none))))]
  σ580)
  (Go.AI.JoinS
  (Go.AI.jn Go.Proofs.Try.prog Go.AI.hintsS T (53 : Nat)
  [Bool.true, Bool.true, Bool.true, Bool.true, Bool.true, Bool.true, Bool.true, Bool.true, Bool.true, Bool.true] [] K)
  [((0 : Nat), Option.some (Go.Value.pointer (Option.some (Go.Addr.mk x (0 : Nat) Option.none)))),
  ((1 : Nat), Option.some (Go.Value.int Go.IntKind.i64 split)), ((4 : Nat), Option.some (Go.Value.int Go.IntKind.i64 kind)),
  ((12 : Nat), Option.some (Go.Value.int Go.IntKind.i64 (Go.IntKind.wrap Go.IntKind.i64 (n536 + (1 : Int))))),
  ((13 : Nat), Option.some (Go.Value.pointer (Option.some (Go.Addr.mk i573 (0 : Nat) Option.none)))),
  ((14 : Nat), Option.some (Go.Value.pointer (Option.some (Go.Addr.mk i576 (0 : Nat) Option.none))))]
  σ578)))))))
  (Go.AI.bmatch (split != (0 : Int))
  (T (63 : Nat) [Go.Value.int Go.IntKind.i64 m] σ fun (v581 : Go.Value) (σ582 : Go.AI.AS) ↦
  Go.AI.tB v581 fun (b583 : Bool) ↦
  Go.AI.bmatch (!b583) (K (Go.Value.tuple (Array.mk [Go.Value.int Go.IntKind.i64 (0 : Int), Go.Value.int Go.IntKind.i64 (1 : Int)])) σ582)
  (Go.AI.bmatch (split != (0 : Int))
  (Go.AI.ldc σ582 (Go.Addr.mk x ((0 : Nat) + (2 : Nat)) Option.none) fun (v584 : Go.Value) ↦
  Go.AI.tL (8 : Nat) v584 fun (s585 : Go.AI.Sl) ↦
  Go.AI.bmatch (Decidable.decide ((↑(Go.AI.Sl.n s585) : Int) > (62 : Int))) (K (Go.Value.tuple (Array.mk [Go.Value.int Go.IntKind.i64 (0 : Int), Go.Value.int Go.IntKind.i64 (4 : Int)])) σ582)
  (Go.AI.ldc σ582 (Go.Addr.mk x ((0 : Nat) + (3 : Nat)) Option.none) fun (v586 : Go.Value) ↦
  Go.AI.tI Go.IntKind.i64 v586 fun (n587 : Int) ↦
  Go.AI.bmatch (split == (0 : Int))
  (Go.AI.ldc σ582 (Go.Addr.mk x ((0 : Nat) + (2 : Nat)) Option.none) fun (v588 : Go.Value) ↦
  Go.AI.tL (8 : Nat) v588 fun (s589 : Go.AI.Sl) ↦
  Go.AI.newAt σ582
  (Go.AI.AObj.row Go.AI.RK.rw
  [Go.Value.int Go.IntKind.i64 (Go.IntKind.wrap Go.IntKind.i64 (n587 + (1 : Int))), Go.Value.int Go.IntKind.i64 kind, Go.Value.int Go.IntKind.i64 (0 : Int),
  Go.Value.int Go.IntKind.i64 (0 : Int), Go.Value.int Go.IntKind.i64 (0 : Int), Go.Value.int Go.IntKind.i64 (0 : Int), Go.Value.int Go.IntKind.u32 (0 : Int),
  Go.Value.int Go.IntKind.i64 (0 : Int)])
  fun (i590 : Nat) (σ591 : Go.AI.AS) ↦
  Go.AI.lds σ591 (Go.Addr.mk i590 (0 : Nat) Option.none) (8 : Nat) fun (l592 : List Go.Value) ↦
  Go.AI.appendTo σ591 (8 : Nat) (64 : Nat) (Go.AI.Sl.mk (Go.AI.Sl.a s589) (Go.AI.Sl.n s589)) l592 (1 : Nat) fun (s593 : Go.AI.Sl) (σ594 : Go.AI.AS) ↦
  Go.AI.put1 σ594 (Go.Addr.mk x ((0 : Nat) + (2 : Nat)) Option.none) (Go.Value.slice (Go.AI.Sl.a s593) (Go.AI.Sl.n s593) (8 : Nat)) fun (σ595 : Go.AI.AS) ↦
  Go.AI.put1 σ595 (Go.Addr.mk x ((0 : Nat) + (3 : Nat)) Option.none) (Go.Value.int Go.IntKind.i64 (Go.IntKind.wrap Go.IntKind.i64 (n587 + (1 : Int)))) fun (σ596 : Go.AI.AS) ↦
  K (Go.Value.tuple (Array.mk [Go.Value.int Go.IntKind.i64 (Go.IntKind.wrap Go.IntKind.i64 (n587 + (1 : Int))), Go.Value.int Go.IntKind.i64 (0 : Int)])) σ596)
  (T (29 : Nat) [Go.Value.pointer (Option.some (Go.Addr.mk x (0 : Nat) Option.none)), Go.Value.int Go.IntKind.i64 split] σ582 fun (v597 : Go.Value) (σ598 : Go.AI.AS) ↦
  Go.AI.tAgg v597 fun (l599 : List Go.Value) ↦
  Go.AI.tCons l599 fun (v600 : Go.Value) (l601 : List Go.Value) ↦
  Go.AI.tI Go.IntKind.i64 v600 fun (n602 : Int) ↦
  Go.AI.tCons l601 fun (v603 : Go.Value) (l604 : List Go.Value) ↦
  Go.AI.tI Go.IntKind.i64 v603 fun (n605 : Int) ↦
  Go.AI.tCons l604 fun (v606 : Go.Value) (l607 : List Go.Value) ↦
  Go.AI.tI Go.IntKind.i64 v606 fun (n608 : Int) ↦
  Go.AI.tCons l607 fun (v609 : Go.Value) (l610 : List Go.Value) ↦
  Go.AI.tI Go.IntKind.i64 v609 fun (n611 : Int) ↦
  Go.AI.tCons l610 fun (v612 : Go.Value) (l613 : List Go.Value) ↦
  Go.AI.tI Go.IntKind.i64 v612 fun (n614 : Int) ↦
  Go.AI.tCons l613 fun (v615 : Go.Value) (l616 : List Go.Value) ↦
  Go.AI.tI Go.IntKind.i64 v615 fun (n617 : Int) ↦
  Go.AI.tCons l616 fun (v618 : Go.Value) (l619 : List Go.Value) ↦
  Go.AI.tI Go.IntKind.u32 v618 fun (n620 : Int) ↦
  Go.AI.tCons l619 fun (v621 : Go.Value) (l622 : List Go.Value) ↦
  Go.AI.tI Go.IntKind.i64 v621 fun (n623 : Int) ↦
  Go.AI.tNil l622
  (Go.AI.newAt σ598
  (Go.AI.AObj.row Go.AI.RK.plain
  [Go.Value.int Go.IntKind.i64 (0 : Int), Go.Value.int Go.IntKind.i64 (0 : Int), Go.Value.int Go.IntKind.i64 (0 : Int),
  Go.Value.int Go.IntKind.i64 (0 : Int), Go.Value.int Go.IntKind.i64 (0 : Int), Go.Value.int Go.IntKind.i64 (0 : Int),
  Go.Value.int Go.IntKind.u32 (0 : Int), Go.Value.int Go.IntKind.i64 (0 : Int)])
  fun (i624 : Nat) (σ625 : Go.AI.AS) ↦
  Go.AI.puts σ625 (Go.Addr.mk i624 (0 : Nat) Option.none)
  [Go.Value.int Go.IntKind.i64 n602, Go.Value.int Go.IntKind.i64 n605, Go.Value.int Go.IntKind.i64 n608, Go.Value.int Go.IntKind.i64 n611,
  Go.Value.int Go.IntKind.i64 n614, Go.Value.int Go.IntKind.i64 n617, Go.Value.int Go.IntKind.u32 n620, Go.Value.int Go.IntKind.i64 n623]
  fun (σ626 : Go.AI.AS) ↦
  Go.AI.newAt σ626
  (Go.AI.AObj.row Go.AI.RK.plain
  [Go.Value.int Go.IntKind.i64 (0 : Int), Go.Value.int Go.IntKind.i64 (0 : Int), Go.Value.int Go.IntKind.i64 (0 : Int),
  Go.Value.int Go.IntKind.i64 (0 : Int), Go.Value.int Go.IntKind.i64 (0 : Int), Go.Value.int Go.IntKind.i64 (0 : Int),
  Go.Value.int Go.IntKind.u32 (0 : Int), Go.Value.int Go.IntKind.i64 (0 : Int)])
  fun (i627 : Nat) (σ628 : Go.AI.AS) ↦
  Go.AI.puts σ628 (Go.Addr.mk i627 (0 : Nat) Option.none)
  [Go.Value.int Go.IntKind.i64 (Go.IntKind.wrap Go.IntKind.i64 (Go.IntKind.wrap Go.IntKind.i64 (n587 + (1 : Int)) + (1 : Int))),
  Go.Value.int Go.IntKind.i64 (4 : Int), Go.Value.int Go.IntKind.i64 (0 : Int), Go.Value.int Go.IntKind.i64 split,
  Go.Value.int Go.IntKind.i64 (Go.IntKind.wrap Go.IntKind.i64 (n587 + (1 : Int))), Go.Value.int Go.IntKind.i64 m,
  Go.Value.int Go.IntKind.u32 size, Go.Value.int Go.IntKind.i64 (Go.IntKind.wrap Go.IntKind.i64 (n587 + (1 : Int)))]
  fun (σ629 : Go.AI.AS) ↦
  Go.AI.bmatch (Int.tmod m (2 : Int) == (0 : Int))
  (Go.AI.put1 σ629 (Go.Addr.mk i627 ((0 : Nat) + (3 : Nat)) Option.none)
  (Go.Value.int Go.IntKind.i64 (Go.IntKind.wrap Go.IntKind.i64 (n587 + (1 : Int)))) fun (σ630 : Go.AI.AS) ↦
  Go.AI.put1 σ630 (Go.Addr.mk i627 ((0 : Nat) + (4 : Nat)) Option.none) (Go.Value.int Go.IntKind.i64 split) fun (σ631 : Go.AI.AS) ↦
  Go.AI.JoinS
  (Go.AI.jn Go.Proofs.Try.prog Go.AI.hintsS T (53 : Nat)
  [Bool.true, Bool.true, Bool.true, Bool.true, Bool.true, Bool.true, Bool.true, Bool.true, Bool.true, Bool.true] [] K)
  [((0 : Nat), Option.some (Go.Value.pointer (Option.some (Go.Addr.mk x (0 : Nat) Option.none)))),
  ((1 : Nat), Option.some (Go.Value.int Go.IntKind.i64 split)), ((4 : Nat), Option.some (Go.Value.int Go.IntKind.i64 kind)),
  ((12 : Nat), Option.some (Go.Value.int Go.IntKind.i64 (Go.IntKind.wrap Go.IntKind.i64 (n587 + (1 : Int))))),
  ((13 : Nat), Option.some (Go.Value.pointer (Option.some (Go.Addr.mk i624 (0 : Nat) Option.none)))),
  ((14 : Nat), Option.some (Go.Value.pointer (Option.some (Go.Addr.mk i627 (0 : Nat) Option.none))))]
  σ631)
  (Go.AI.JoinS
  (Go.AI.jn Go.Proofs.Try.prog Go.AI.hintsS T (53 : Nat)
  [Bool.true, Bool.true, Bool.true, Bool.true, Bool.true, Bool.true, Bool.true, Bool.true, Bool.true, Bool.true] [] K)
  [((0 : Nat), Option.some (Go.Value.pointer (Option.some (Go.Addr.mk x (0 : Nat) Option.none)))),
  ((1 : Nat), Option.some (Go.Value.int Go.IntKind.i64 split)), ((4 : Nat), Option.some (Go.Value.int Go.IntKind.i64 kind)),
  ((12 : Nat), Option.some (Go.Value.int Go.IntKind.i64 (Go.IntKind.wrap Go.IntKind.i64 (n587 + (1 : Int))))),
  ((13 : Nat), Option.some (Go.Value.pointer (Option.some (Go.Addr.mk i624 (0 : Nat) Option.none)))),
  ((14 : Nat), Option.some (Go.Value.pointer (Option.some (Go.Addr.mk i627 (0 : Nat) Option.none))))]
  σ629)))))
  (Go.AI.ldc σ582 (Go.Addr.mk x ((0 : Nat) + (3 : Nat)) Option.none) fun (v632 : Go.Value) ↦
  Go.AI.tI Go.IntKind.i64 v632 fun (n633 : Int) ↦
  Go.AI.bmatch (split == (0 : Int))
  (Go.AI.ldc σ582 (Go.Addr.mk x ((0 : Nat) + (2 : Nat)) Option.none) fun (v634 : Go.Value) ↦
  Go.AI.tL (8 : Nat) v634 fun (s635 : Go.AI.Sl) ↦
  Go.AI.newAt σ582
  (Go.AI.AObj.row Go.AI.RK.rw
  [Go.Value.int Go.IntKind.i64 (Go.IntKind.wrap Go.IntKind.i64 (n633 + (1 : Int))), Go.Value.int Go.IntKind.i64 kind, Go.Value.int Go.IntKind.i64 (0 : Int),
  Go.Value.int Go.IntKind.i64 (0 : Int), Go.Value.int Go.IntKind.i64 (0 : Int), Go.Value.int Go.IntKind.i64 (0 : Int), Go.Value.int Go.IntKind.u32 (0 : Int),
  Go.Value.int Go.IntKind.i64 (0 : Int)])
  fun (i636 : Nat) (σ637 : Go.AI.AS) ↦
  Go.AI.lds σ637 (Go.Addr.mk i636 (0 : Nat) Option.none) (8 : Nat) fun (l638 : List Go.Value) ↦
  Go.AI.appendTo σ637 (8 : Nat) (64 : Nat) (Go.AI.Sl.mk (Go.AI.Sl.a s635) (Go.AI.Sl.n s635)) l638 (1 : Nat) fun (s639 : Go.AI.Sl) (σ640 : Go.AI.AS) ↦
  Go.AI.put1 σ640 (Go.Addr.mk x ((0 : Nat) + (2 : Nat)) Option.none) (Go.Value.slice (Go.AI.Sl.a s639) (Go.AI.Sl.n s639) (8 : Nat)) fun (σ641 : Go.AI.AS) ↦
  Go.AI.put1 σ641 (Go.Addr.mk x ((0 : Nat) + (3 : Nat)) Option.none) (Go.Value.int Go.IntKind.i64 (Go.IntKind.wrap Go.IntKind.i64 (n633 + (1 : Int)))) fun (σ642 : Go.AI.AS) ↦
  K (Go.Value.tuple (Array.mk [Go.Value.int Go.IntKind.i64 (Go.IntKind.wrap Go.IntKind.i64 (n633 + (1 : Int))), Go.Value.int Go.IntKind.i64 (0 : Int)])) σ642)
  (T (29 : Nat) [Go.Value.pointer (Option.some (Go.Addr.mk x (0 : Nat) Option.none)), Go.Value.int Go.IntKind.i64 split] σ582 fun (v643 : Go.Value) (σ644 : Go.AI.AS) ↦
  Go.AI.tAgg v643 fun (l645 : List Go.Value) ↦
  Go.AI.tCons l645 fun (v646 : Go.Value) (l647 : List Go.Value) ↦
  Go.AI.tI Go.IntKind.i64 v646 fun (n648 : Int) ↦
  Go.AI.tCons l647 fun (v649 : Go.Value) (l650 : List Go.Value) ↦
  Go.AI.tI Go.IntKind.i64 v649 fun (n651 : Int) ↦
  Go.AI.tCons l650 fun (v652 : Go.Value) (l653 : List Go.Value) ↦
  Go.AI.tI Go.IntKind.i64 v652 fun (n654 : Int) ↦
  Go.AI.tCons l653 fun (v655 : Go.Value) (l656 : List Go.Value) ↦
  Go.AI.tI Go.IntKind.i64 v655 fun (n657 : Int) ↦
  Go.AI.tCons l656 fun (v658 : Go.Value) (l659 : List Go.Value) ↦
  Go.AI.tI Go.IntKind.i64 v658 fun (n660 : Int) ↦
  Go.AI.tCons l659 fun (v661 : Go.Value) (l662 : List Go.Value) ↦
  Go.AI.tI Go.IntKind.i64 v661 fun (n663 : Int) ↦
  Go.AI.tCons l662 fun (v664 : Go.Value) (l665 : List Go.Value) ↦
  Go.AI.tI Go.IntKind.u32 v664 fun (n666 : Int) ↦
  Go.AI.tCons l665 fun (v667 : Go.Value) (l668 : List Go.Value) ↦
  Go.AI.tI Go.IntKind.i64 v667 fun (n669 : Int) ↦
  Go.AI.tNil l668
  (Go.AI.newAt σ644
  (Go.AI.AObj.row Go.AI.RK.plain
  [Go.Value.int Go.IntKind.i64 (0 : Int), Go.Value.int Go.IntKind.i64 (0 : Int), Go.Value.int Go.IntKind.i64 (0 : Int),
  Go.Value.int Go.IntKind.i64 (0 : Int), Go.Value.int Go.IntKind.i64 (0 : Int), Go.Value.int Go.IntKind.i64 (0 : Int),
  Go.Value.int Go.IntKind.u32 (0 : Int), Go.Value.int Go.IntKind.i64 (0 : Int)])
  fun (i670 : Nat) (σ671 : Go.AI.AS) ↦
  Go.AI.puts σ671 (Go.Addr.mk i670 (0 : Nat) Option.none)
  [Go.Value.int Go.IntKind.i64 n648, Go.Value.int Go.IntKind.i64 n651, Go.Value.int Go.IntKind.i64 n654, Go.Value.int Go.IntKind.i64 n657,
  Go.Value.int Go.IntKind.i64 n660, Go.Value.int Go.IntKind.i64 n663, Go.Value.int Go.IntKind.u32 n666, Go.Value.int Go.IntKind.i64 n669]
  fun (σ672 : Go.AI.AS) ↦
  Go.AI.newAt σ672
  (Go.AI.AObj.row Go.AI.RK.plain
  [Go.Value.int Go.IntKind.i64 (0 : Int), Go.Value.int Go.IntKind.i64 (0 : Int), Go.Value.int Go.IntKind.i64 (0 : Int),
  Go.Value.int Go.IntKind.i64 (0 : Int), Go.Value.int Go.IntKind.i64 (0 : Int), Go.Value.int Go.IntKind.i64 (0 : Int),
  Go.Value.int Go.IntKind.u32 (0 : Int), Go.Value.int Go.IntKind.i64 (0 : Int)])
  fun (i673 : Nat) (σ674 : Go.AI.AS) ↦
  Go.AI.puts σ674 (Go.Addr.mk i673 (0 : Nat) Option.none)
  [Go.Value.int Go.IntKind.i64 (Go.IntKind.wrap Go.IntKind.i64 (Go.IntKind.wrap Go.IntKind.i64 (n633 + (1 : Int)) + (1 : Int))),
  Go.Value.int Go.IntKind.i64 (4 : Int), Go.Value.int Go.IntKind.i64 (0 : Int), Go.Value.int Go.IntKind.i64 split,
  Go.Value.int Go.IntKind.i64 (Go.IntKind.wrap Go.IntKind.i64 (n633 + (1 : Int))), Go.Value.int Go.IntKind.i64 m,
  Go.Value.int Go.IntKind.u32 size, Go.Value.int Go.IntKind.i64 (Go.IntKind.wrap Go.IntKind.i64 (n633 + (1 : Int)))]
  fun (σ675 : Go.AI.AS) ↦
  Go.AI.bmatch (Int.tmod m (2 : Int) == (0 : Int))
  (Go.AI.put1 σ675 (Go.Addr.mk i673 ((0 : Nat) + (3 : Nat)) Option.none)
  (Go.Value.int Go.IntKind.i64 (Go.IntKind.wrap Go.IntKind.i64 (n633 + (1 : Int)))) fun (σ676 : Go.AI.AS) ↦
  Go.AI.put1 σ676 (Go.Addr.mk i673 ((0 : Nat) + (4 : Nat)) Option.none) (Go.Value.int Go.IntKind.i64 split) fun (σ677 : Go.AI.AS) ↦
  Go.AI.JoinS
  (Go.AI.jn Go.Proofs.Try.prog Go.AI.hintsS T (53 : Nat)
  [Bool.true, Bool.true, Bool.true, Bool.true, Bool.true, Bool.true, Bool.true, Bool.true, Bool.true, Bool.true] [] K)
  [((0 : Nat), Option.some (Go.Value.pointer (Option.some (Go.Addr.mk x (0 : Nat) Option.none)))),
  ((1 : Nat), Option.some (Go.Value.int Go.IntKind.i64 split)), ((4 : Nat), Option.some (Go.Value.int Go.IntKind.i64 kind)),
  ((12 : Nat), Option.some (Go.Value.int Go.IntKind.i64 (Go.IntKind.wrap Go.IntKind.i64 (n633 + (1 : Int))))),
  ((13 : Nat), Option.some (Go.Value.pointer (Option.some (Go.Addr.mk i670 (0 : Nat) Option.none)))),
  ((14 : Nat), Option.some (Go.Value.pointer (Option.some (Go.Addr.mk i673 (0 : Nat) Option.none))))]
  σ677)
  (Go.AI.JoinS
  (Go.AI.jn Go.Proofs.Try.prog Go.AI.hintsS T (53 : Nat)
  [Bool.true, Bool.true, Bool.true, Bool.true, Bool.true, Bool.true, Bool.true, Bool.true, Bool.true, Bool.true] [] K)
  [((0 : Nat), Option.some (Go.Value.pointer (Option.some (Go.Addr.mk x (0 : Nat) Option.none)))),
  ((1 : Nat), Option.some (Go.Value.int Go.IntKind.i64 split)), ((4 : Nat), Option.some (Go.Value.int Go.IntKind.i64 kind)),
  ((12 : Nat), Option.some (Go.Value.int Go.IntKind.i64 (Go.IntKind.wrap Go.IntKind.i64 (n633 + (1 : Int))))),
  ((13 : Nat), Option.some (Go.Value.pointer (Option.some (Go.Addr.mk i670 (0 : Nat) Option.none)))),
  ((14 : Nat), Option.some (Go.Value.pointer (Option.some (Go.Addr.mk i673 (0 : Nat) Option.none))))]
  σ675))))))
  (Go.AI.bmatch (split != (0 : Int))
  (Go.AI.ldc σ (Go.Addr.mk x ((0 : Nat) + (2 : Nat)) Option.none) fun (v678 : Go.Value) ↦
  Go.AI.tL (8 : Nat) v678 fun (s679 : Go.AI.Sl) ↦
  Go.AI.bmatch (Decidable.decide ((↑(Go.AI.Sl.n s679) : Int) > (62 : Int))) (K (Go.Value.tuple (Array.mk [Go.Value.int Go.IntKind.i64 (0 : Int), Go.Value.int Go.IntKind.i64 (4 : Int)])) σ)
  (Go.AI.ldc σ (Go.Addr.mk x ((0 : Nat) + (3 : Nat)) Option.none) fun (v680 : Go.Value) ↦
  Go.AI.tI Go.IntKind.i64 v680 fun (n681 : Int) ↦
  Go.AI.bmatch (split == (0 : Int))
  (Go.AI.ldc σ (Go.Addr.mk x ((0 : Nat) + (2 : Nat)) Option.none) fun (v682 : Go.Value) ↦
  Go.AI.tL (8 : Nat) v682 fun (s683 : Go.AI.Sl) ↦
  Go.AI.newAt σ
  (Go.AI.AObj.row Go.AI.RK.rw
  [Go.Value.int Go.IntKind.i64 (Go.IntKind.wrap Go.IntKind.i64 (n681 + (1 : Int))), Go.Value.int Go.IntKind.i64 kind, Go.Value.int Go.IntKind.i64 (0 : Int),
  Go.Value.int Go.IntKind.i64 (0 : Int), Go.Value.int Go.IntKind.i64 (0 : Int), Go.Value.int Go.IntKind.i64 (0 : Int), Go.Value.int Go.IntKind.u32 (0 : Int),
  Go.Value.int Go.IntKind.i64 (0 : Int)])
  fun (i684 : Nat) (σ685 : Go.AI.AS) ↦
  Go.AI.lds σ685 (Go.Addr.mk i684 (0 : Nat) Option.none) (8 : Nat) fun (l686 : List Go.Value) ↦
  Go.AI.appendTo σ685 (8 : Nat) (64 : Nat) (Go.AI.Sl.mk (Go.AI.Sl.a s683) (Go.AI.Sl.n s683)) l686 (1 : Nat) fun (s687 : Go.AI.Sl) (σ688 : Go.AI.AS) ↦
  Go.AI.put1 σ688 (Go.Addr.mk x ((0 : Nat) + (2 : Nat)) Option.none) (Go.Value.slice (Go.AI.Sl.a s687) (Go.AI.Sl.n s687) (8 : Nat)) fun (σ689 : Go.AI.AS) ↦
  Go.AI.put1 σ689 (Go.Addr.mk x ((0 : Nat) + (3 : Nat)) Option.none) (Go.Value.int Go.IntKind.i64 (Go.IntKind.wrap Go.IntKind.i64 (n681 + (1 : Int)))) fun (σ690 : Go.AI.AS) ↦
  K (Go.Value.tuple (Array.mk [Go.Value.int Go.IntKind.i64 (Go.IntKind.wrap Go.IntKind.i64 (n681 + (1 : Int))), Go.Value.int Go.IntKind.i64 (0 : Int)])) σ690)
  (T (29 : Nat) [Go.Value.pointer (Option.some (Go.Addr.mk x (0 : Nat) Option.none)), Go.Value.int Go.IntKind.i64 split] σ fun (v691 : Go.Value) (σ692 : Go.AI.AS) ↦
  Go.AI.tAgg v691 fun (l693 : List Go.Value) ↦
  Go.AI.tCons l693 fun (v694 : Go.Value) (l695 : List Go.Value) ↦
  Go.AI.tI Go.IntKind.i64 v694 fun (n696 : Int) ↦
  Go.AI.tCons l695 fun (v697 : Go.Value) (l698 : List Go.Value) ↦
  Go.AI.tI Go.IntKind.i64 v697 fun (n699 : Int) ↦
  Go.AI.tCons l698 fun (v700 : Go.Value) (l701 : List Go.Value) ↦
  Go.AI.tI Go.IntKind.i64 v700 fun (n702 : Int) ↦
  Go.AI.tCons l701 fun (v703 : Go.Value) (l704 : List Go.Value) ↦
  Go.AI.tI Go.IntKind.i64 v703 fun (n705 : Int) ↦
  Go.AI.tCons l704 fun (v706 : Go.Value) (l707 : List Go.Value) ↦
  Go.AI.tI Go.IntKind.i64 v706 fun (n708 : Int) ↦
  Go.AI.tCons l707 fun (v709 : Go.Value) (l710 : List Go.Value) ↦
  Go.AI.tI Go.IntKind.i64 v709 fun (n711 : Int) ↦
  Go.AI.tCons l710 fun (v712 : Go.Value) (l713 : List Go.Value) ↦
  Go.AI.tI Go.IntKind.u32 v712 fun (n714 : Int) ↦
  Go.AI.tCons l713 fun (v715 : Go.Value) (l716 : List Go.Value) ↦
  Go.AI.tI Go.IntKind.i64 v715 fun (n717 : Int) ↦
  Go.AI.tNil l716
  (Go.AI.newAt σ692
  (Go.AI.AObj.row Go.AI.RK.plain
  [Go.Value.int Go.IntKind.i64 (0 : Int), Go.Value.int Go.IntKind.i64 (0 : Int), Go.Value.int Go.IntKind.i64 (0 : Int),
  Go.Value.int Go.IntKind.i64 (0 : Int), Go.Value.int Go.IntKind.i64 (0 : Int), Go.Value.int Go.IntKind.i64 (0 : Int),
  Go.Value.int Go.IntKind.u32 (0 : Int), Go.Value.int Go.IntKind.i64 (0 : Int)])
  fun (i718 : Nat) (σ719 : Go.AI.AS) ↦
  Go.AI.puts σ719 (Go.Addr.mk i718 (0 : Nat) Option.none)
  [Go.Value.int Go.IntKind.i64 n696, Go.Value.int Go.IntKind.i64 n699, Go.Value.int Go.IntKind.i64 n702, Go.Value.int Go.IntKind.i64 n705,
  Go.Value.int Go.IntKind.i64 n708, Go.Value.int Go.IntKind.i64 n711, Go.Value.int Go.IntKind.u32 n714, Go.Value.int Go.IntKind.i64 n717]
  fun (σ720 : Go.AI.AS) ↦
  Go.AI.newAt σ720
  (Go.AI.AObj.row Go.AI.RK.plain
  [Go.Value.int Go.IntKind.i64 (0 : Int), Go.Value.int Go.IntKind.i64 (0 : Int), Go.Value.int Go.IntKind.i64 (0 : Int),
  Go.Value.int Go.IntKind.i64 (0 : Int), Go.Value.int Go.IntKind.i64 (0 : Int), Go.Value.int Go.IntKind.i64 (0 : Int),
  Go.Value.int Go.IntKind.u32 (0 : Int), Go.Value.int Go.IntKind.i64 (0 : Int)])
  fun (i721 : Nat) (σ722 : Go.AI.AS) ↦
  Go.AI.puts σ722 (Go.Addr.mk i721 (0 : Nat) Option.none)
  [Go.Value.int Go.IntKind.i64 (Go.IntKind.wrap Go.IntKind.i64 (Go.IntKind.wrap Go.IntKind.i64 (n681 + (1 : Int)) + (1 : Int))),
  Go.Value.int Go.IntKind.i64 (4 : Int), Go.Value.int Go.IntKind.i64 (0 : Int), Go.Value.int Go.IntKind.i64 split,
  Go.Value.int Go.IntKind.i64 (Go.IntKind.wrap Go.IntKind.i64 (n681 + (1 : Int))), Go.Value.int Go.IntKind.i64 m,
  Go.Value.int Go.IntKind.u32 size, Go.Value.int Go.IntKind.i64 (Go.IntKind.wrap Go.IntKind.i64 (n681 + (1 : Int)))]
  fun (σ723 : Go.AI.AS) ↦
  Go.AI.bmatch (Int.tmod m (2 : Int) == (0 : Int))
  (Go.AI.put1 σ723 (Go.Addr.mk i721 ((0 : Nat) + (3 : Nat)) Option.none)
  (Go.Value.int Go.IntKind.i64 (Go.IntKind.wrap Go.IntKind.i64 (n681 + (1 : Int)))) fun (σ724 : Go.AI.AS) ↦
  Go.AI.put1 σ724 (Go.Addr.mk i721 ((0 : Nat) + (4 : Nat)) Option.none) (Go.Value.int Go.IntKind.i64 split) fun (σ725 : Go.AI.AS) ↦
  Go.AI.JoinS
  (Go.AI.jn Go.Proofs.Try.prog Go.AI.hintsS T (53 : Nat)
  [Bool.true, Bool.true, Bool.true, Bool.true, Bool.true, Bool.true, Bool.true, Bool.true, Bool.true, Bool.true] [] K)
  [((0 : Nat), Option.some (Go.Value.pointer (Option.some (Go.Addr.mk x (0 : Nat) Option.none)))),
  ((1 : Nat), Option.some (Go.Value.int Go.IntKind.i64 split)), ((4 : Nat), Option.some (Go.Value.int Go.IntKind.i64 kind)),
  ((12 : Nat), Option.some (Go.Value.int Go.IntKind.i64 (Go.IntKind.wrap Go.IntKind.i64 (n681 + (1 : Int))))),
  ((13 : Nat), Option.some (Go.Value.pointer (Option.some (Go.Addr.mk i718 (0 : Nat) Option.none)))),
  ((14 : Nat), Option.some (Go.Value.pointer (Option.some (Go.Addr.mk i721 (0 : Nat) Option.none))))]
  σ725)
  (Go.AI.JoinS
  (Go.AI.jn Go.Proofs.Try.prog Go.AI.hintsS T (53 : Nat)
  [Bool.true, Bool.true, Bool.true, Bool.true, Bool.true, Bool.true, Bool.true, Bool.true, Bool.true, Bool.true] [] K)
  [((0 : Nat), Option.some (Go.Value.pointer (Option.some (Go.Addr.mk x (0 : Nat) Option.none)))),
  ((1 : Nat), Option.some (Go.Value.int Go.IntKind.i64 split)), ((4 : Nat), Option.some (Go.Value.int Go.IntKind.i64 kind)),
  ((12 : Nat), Option.some (Go.Value.int Go.IntKind.i64 (Go.IntKind.wrap Go.IntKind.i64 (n681 + (1 : Int))))),
  ((13 : Nat), Option.some (Go.Value.pointer (Option.some (Go.Addr.mk i718 (0 : Nat) Option.none)))),
  ((14 : Nat), Option.some (Go.Value.pointer (Option.some (Go.Addr.mk i721 (0 : Nat) Option.none))))]
  σ723)))))
  (Go.AI.ldc σ (Go.Addr.mk x ((0 : Nat) + (3 : Nat)) Option.none) fun (v726 : Go.Value) ↦
  Go.AI.tI Go.IntKind.i64 v726 fun (n727 : Int) ↦
  Go.AI.bmatch (split == (0 : Int))
  (Go.AI.ldc σ (Go.Addr.mk x ((0 : Nat) + (2 : Nat)) Option.none) fun (v728 : Go.Value) ↦
  Go.AI.tL (8 : Nat) v728 fun (s729 : Go.AI.Sl) ↦
  Go.AI.newAt σ
  (Go.AI.AObj.row Go.AI.RK.rw
  [Go.Value.int Go.IntKind.i64 (Go.IntKind.wrap Go.IntKind.i64 (n727 + (1 : Int))), Go.Value.int Go.IntKind.i64 kind, Go.Value.int Go.IntKind.i64 (0 : Int),
  Go.Value.int Go.IntKind.i64 (0 : Int), Go.Value.int Go.IntKind.i64 (0 : Int), Go.Value.int Go.IntKind.i64 (0 : Int), Go.Value.int Go.IntKind.u32 (0 : Int),
  Go.Value.int Go.IntKind.i64 (0 : Int)])
  fun (i730 : Nat) (σ731 : Go.AI.AS) ↦
  Go.AI.lds σ731 (Go.Addr.mk i730 (0 : Nat) Option.none) (8 : Nat) fun (l732 : List Go.Value) ↦
  Go.AI.appendTo σ731 (8 : Nat) (64 : Nat) (Go.AI.Sl.mk (Go.AI.Sl.a s729) (Go.AI.Sl.n s729)) l732 (1 : Nat) fun (s733 : Go.AI.Sl) (σ734 : Go.AI.AS) ↦
  Go.AI.put1 σ734 (Go.Addr.mk x ((0 : Nat) + (2 : Nat)) Option.none) (Go.Value.slice (Go.AI.Sl.a s733) (Go.AI.Sl.n s733) (8 : Nat)) fun (σ735 : Go.AI.AS) ↦
  Go.AI.put1 σ735 (Go.Addr.mk x ((0 : Nat) + (3 : Nat)) Option.none) (Go.Value.int Go.IntKind.i64 (Go.IntKind.wrap Go.IntKind.i64 (n727 + (1 : Int)))) fun (σ736 : Go.AI.AS) ↦
  K (Go.Value.tuple (Array.mk [Go.Value.int Go.IntKind.i64 (Go.IntKind.wrap Go.IntKind.i64 (n727 + (1 : Int))), Go.Value.int Go.IntKind.i64 (0 : Int)])) σ736)
  (T (29 : Nat) [Go.Value.pointer (Option.some (Go.Addr.mk x (0 : Nat) Option.none)), Go.Value.int Go.IntKind.i64 split] σ fun (v737 : Go.Value) (σ738 : Go.AI.AS) ↦
  Go.AI.tAgg v737 fun (l739 : List Go.Value) ↦
  Go.AI.tCons l739 fun (v740 : Go.Value) (l741 : List Go.Value) ↦
  Go.AI.tI Go.IntKind.i64 v740 fun (n742 : Int) ↦
  Go.AI.tCons l741 fun (v743 : Go.Value) (l744 : List Go.Value) ↦
  Go.AI.tI Go.IntKind.i64 v743 fun (n745 : Int) ↦
  Go.AI.tCons l744 fun (v746 : Go.Value) (l747 : List Go.Value) ↦
  Go.AI.tI Go.IntKind.i64 v746 fun (n748 : Int) ↦
  Go.AI.tCons l747 fun (v749 : Go.Value) (l750 : List Go.Value) ↦
  Go.AI.tI Go.IntKind.i64 v749 fun (n751 : Int) ↦
  Go.AI.tCons l750 fun (v752 : Go.Value) (l753 : List Go.Value) ↦
  Go.AI.tI Go.IntKind.i64 v752 fun (n754 : Int) ↦
  Go.AI.tCons l753 fun (v755 : Go.Value) (l756 : List Go.Value) ↦
  Go.AI.tI Go.IntKind.i64 v755 fun (n757 : Int) ↦
  Go.AI.tCons l756 fun (v758 : Go.Value) (l759 : List Go.Value) ↦
  Go.AI.tI Go.IntKind.u32 v758 fun (n760 : Int) ↦
  Go.AI.tCons l759 fun (v761 : Go.Value) (l762 : List Go.Value) ↦
  Go.AI.tI Go.IntKind.i64 v761 fun (n763 : Int) ↦
  Go.AI.tNil l762
  (Go.AI.newAt σ738
  (Go.AI.AObj.row Go.AI.RK.plain
  [Go.Value.int Go.IntKind.i64 (0 : Int), Go.Value.int Go.IntKind.i64 (0 : Int), Go.Value.int Go.IntKind.i64 (0 : Int), Go.Value.int Go.IntKind.i64 (0 : Int),
  Go.Value.int Go.IntKind.i64 (0 : Int), Go.Value.int Go.IntKind.i64 (0 : Int), Go.Value.int Go.IntKind.u32 (0 : Int),
  Go.Value.int Go.IntKind.i64 (0 : Int)])
  fun (i764 : Nat) (σ765 : Go.AI.AS) ↦
  Go.AI.puts σ765 (Go.Addr.mk i764 (0 : Nat) Option.none)
  [Go.Value.int Go.IntKind.i64 n742, Go.Value.int Go.IntKind.i64 n745, Go.Value.int Go.IntKind.i64 n748, Go.Value.int Go.IntKind.i64 n751,
  Go.Value.int Go.IntKind.i64 n754, Go.Value.int Go.IntKind.i64 n757, Go.Value.int Go.IntKind.u32 n760, Go.Value.int Go.IntKind.i64 n763]
  fun (σ766 : Go.AI.AS) ↦
  Go.AI.newAt σ766
  (Go.AI.AObj.row Go.AI.RK.plain
  [Go.Value.int Go.IntKind.i64 (0 : Int), Go.Value.int Go.IntKind.i64 (0 : Int), Go.Value.int Go.IntKind.i64 (0 : Int),
  Go.Value.int Go.IntKind.i64 (0 : Int), Go.Value.int Go.IntKind.i64 (0 : Int), Go.Value.int Go.IntKind.i64 (0 : Int),
  Go.Value.int Go.IntKind.u32 (0 : Int), Go.Value.int Go.IntKind.i64 (0 : Int)])
  fun (i767 : Nat) (σ768 : Go.AI.AS) ↦
  Go.AI.puts σ768 (Go.Addr.mk i767 (0 : Nat) Option.none)
  [Go.Value.int Go.IntKind.i64 (Go.IntKind.wrap Go.IntKind.i64 (Go.IntKind.wrap Go.IntKind.i64 (n727 + (1 : Int)) + (1 : Int))),
  Go.Value.int Go.IntKind.i64 (4 : Int), Go.Value.int Go.IntKind.i64 (0 : Int), Go.Value.int Go.IntKind.i64 split,
  Go.Value.int Go.IntKind.i64 (Go.IntKind.wrap Go.IntKind.i64 (n727 + (1 : Int))), Go.Value.int Go.IntKind.i64 m, Go.Value.int Go.IntKind.u32 size,
  Go.Value.int Go.IntKind.i64 (Go.IntKind.wrap Go.IntKind.i64 (n727 + (1 : Int)))]
  fun (σ769 : Go.AI.AS) ↦
  Go.AI.bmatch (Int.tmod m (2 : Int) == (0 : Int))
  (Go.AI.put1 σ769 (Go.Addr.mk i767 ((0 : Nat) + (3 : Nat)) Option.none)
  (Go.Value.int Go.IntKind.i64 (Go.IntKind.wrap Go.IntKind.i64 (n727 + (1 : Int)))) fun (σ770 : Go.AI.AS) ↦
  Go.AI.put1 σ770 (Go.Addr.mk i767 ((0 : Nat) + (4 : Nat)) Option.none) (Go.Value.int Go.IntKind.i64 split) fun (σ771 : Go.AI.AS) ↦
  Go.AI.JoinS
  (Go.AI.jn Go.Proofs.Try.prog Go.AI.hintsS T (53 : Nat)
  [Bool.true, Bool.true, Bool.true, Bool.true, Bool.true, Bool.true, Bool.true, Bool.true, Bool.true, Bool.true] [] K)
  [((0 : Nat), Option.some (Go.Value.pointer (Option.some (Go.Addr.mk x (0 : Nat) Option.none)))),
  ((1 : Nat), Option.some (Go.Value.int Go.IntKind.i64 split)), ((4 : Nat), Option.some (Go.Value.int Go.IntKind.i64 kind)),
  ((12 : Nat), Option.some (Go.Value.int Go.IntKind.i64 (Go.IntKind.wrap Go.IntKind.i64 (n727 + (1 : Int))))),
  ((13 : Nat), Option.some (Go.Value.pointer (Option.some (Go.Addr.mk i764 (0 : Nat) Option.none)))),
  ((14 : Nat), Option.some (Go.Value.pointer (Option.some (Go.Addr.mk i767 (0 : Nat) Option.none))))]
  σ771)
  (Go.AI.JoinS
  (Go.AI.jn Go.Proofs.Try.prog Go.AI.hintsS T (53 : Nat)
  [Bool.true, Bool.true, Bool.true, Bool.true, Bool.true, Bool.true, Bool.true, Bool.true, Bool.true, Bool.true] [] K)
  [((0 : Nat), Option.some (Go.Value.pointer (Option.some (Go.Addr.mk x (0 : Nat) Option.none)))),
  ((1 : Nat), Option.some (Go.Value.int Go.IntKind.i64 split)), ((4 : Nat), Option.some (Go.Value.int Go.IntKind.i64 kind)),
  ((12 : Nat), Option.some (Go.Value.int Go.IntKind.i64 (Go.IntKind.wrap Go.IntKind.i64 (n727 + (1 : Int))))),
  ((13 : Nat), Option.some (Go.Value.pointer (Option.some (Go.Addr.mk i764 (0 : Nat) Option.none)))),
  ((14 : Nat), Option.some (Go.Value.pointer (Option.some (Go.Addr.mk i767 (0 : Nat) Option.none))))]
  σ769))))))))) := by
  intros
  kernel_rfl

theorem s53j : ∀ (T : Go.AI.Ct) (x o p : Nat) (split kind win : Int) (σ : Go.AI.AS) (K : Go.Value → Go.AI.AS → Prop),
  Go.AI.jn Go.Proofs.Try.prog Go.AI.hintsS T (53 : Nat) [Bool.true, Bool.true, Bool.true, Bool.true, Bool.true, Bool.true, Bool.true, Bool.true, Bool.true, Bool.true] [] K
  [((0 : Nat), Option.some (Go.Value.pointer (Option.some (Go.Addr.mk x (0 : Nat) Option.none)))), ((1 : Nat), Option.some (Go.Value.int Go.IntKind.i64 split)),
  ((4 : Nat), Option.some (Go.Value.int Go.IntKind.i64 kind)), ((12 : Nat), Option.some (Go.Value.int Go.IntKind.i64 win)),
  ((13 : Nat), Option.some (Go.Value.pointer (Option.some (Go.Addr.mk o (0 : Nat) Option.none)))), ((14 : Nat), Option.some (Go.Value.pointer (Option.some (Go.Addr.mk p (0 : Nat) Option.none))))]
  σ =
  Go.AI.ldc σ (Go.Addr.mk x ((0 : Nat) + (2 : Nat)) Option.none) fun (v0 : Go.Value) ↦
  Go.AI.tL (8 : Nat) v0 fun (s1 : Go.AI.Sl) ↦
  Go.AI.lds σ (Go.Addr.mk p (0 : Nat) Option.none) (8 : Nat) fun (l2 : List Go.Value) ↦
  Go.AI.tCons l2 fun (v3 : Go.Value) (l4 : List Go.Value) ↦
  Go.AI.tI Go.IntKind.i64 v3 fun (n5 : Int) ↦
  Go.AI.tCons l4 fun (v6 : Go.Value) (l7 : List Go.Value) ↦
  Go.AI.tI Go.IntKind.i64 v6 fun (n8 : Int) ↦
  Go.AI.tCons l7 fun (v9 : Go.Value) (l10 : List Go.Value) ↦
  Go.AI.tI Go.IntKind.i64 v9 fun (n11 : Int) ↦
  Go.AI.tCons l10 fun (v12 : Go.Value) (l13 : List Go.Value) ↦
  Go.AI.tI Go.IntKind.i64 v12 fun (n14 : Int) ↦
  Go.AI.tCons l13 fun (v15 : Go.Value) (l16 : List Go.Value) ↦
  Go.AI.tI Go.IntKind.i64 v15 fun (n17 : Int) ↦
  Go.AI.tCons l16 fun (v18 : Go.Value) (l19 : List Go.Value) ↦
  Go.AI.tI Go.IntKind.i64 v18 fun (n20 : Int) ↦
  Go.AI.tCons l19 fun (v21 : Go.Value) (l22 : List Go.Value) ↦
  Go.AI.tI Go.IntKind.u32 v21 fun (n23 : Int) ↦
  Go.AI.tCons l22 fun (v24 : Go.Value) (l25 : List Go.Value) ↦
  Go.AI.tI Go.IntKind.i64 v24 fun (n26 : Int) ↦
  Go.AI.tNil l25
  (Go.AI.newAt σ
  (Go.AI.AObj.row Go.AI.RK.rw
  [Go.Value.int Go.IntKind.i64 win, Go.Value.int Go.IntKind.i64 kind, Go.Value.int Go.IntKind.i64 (Go.IntKind.wrap Go.IntKind.i64 (win + (1 : Int))),
  Go.Value.int Go.IntKind.i64 (0 : Int), Go.Value.int Go.IntKind.i64 (0 : Int), Go.Value.int Go.IntKind.i64 (0 : Int), Go.Value.int Go.IntKind.u32 (0 : Int),
  Go.Value.int Go.IntKind.i64 (0 : Int), Go.Value.int Go.IntKind.i64 n5, Go.Value.int Go.IntKind.i64 n8, Go.Value.int Go.IntKind.i64 n11, Go.Value.int Go.IntKind.i64 n14,
  Go.Value.int Go.IntKind.i64 n17, Go.Value.int Go.IntKind.i64 n20, Go.Value.int Go.IntKind.u32 n23, Go.Value.int Go.IntKind.i64 n26])
  fun (i27 : Nat) (σ28 : Go.AI.AS) ↦
  Go.AI.ldc σ28 (Go.Addr.mk x ((0 : Nat) + (2 : Nat)) Option.none) fun (v29 : Go.Value) ↦
  Go.AI.tL (8 : Nat) v29 fun (s30 : Go.AI.Sl) ↦
  Go.Value.slice (Go.AI.Sl.a s1) (Go.AI.Sl.n s1) (Go.AI.szOf Go.Proofs.Try.prog (58 : Nat)) =
  Go.Value.slice (Go.AI.Sl.a s30) (Go.AI.Sl.n s30) (Go.AI.szOf Go.Proofs.Try.prog (58 : Nat)) ∧
  Go.AI.lds σ28 (Go.Addr.mk i27 (0 : Nat) Option.none) (16 : Nat) fun (l31 : List Go.Value) ↦
  Go.AI.appendTo σ28 (8 : Nat) (64 : Nat) (Go.AI.Sl.mk (Go.AI.Sl.a s1) (Go.AI.Sl.n s1)) l31 (2 : Nat) fun (s32 : Go.AI.Sl) (σ33 : Go.AI.AS) ↦
  Go.AI.put1 σ33 (Go.Addr.mk x ((0 : Nat) + (2 : Nat)) Option.none) (Go.Value.slice (Go.AI.Sl.a s32) (Go.AI.Sl.n s32) (8 : Nat)) fun (σ34 : Go.AI.AS) ↦
  Go.AI.ldc σ34 (Go.Addr.mk o ((0 : Nat) + (2 : Nat)) Option.none) fun (v35 : Go.Value) ↦
  Go.AI.tI Go.IntKind.i64 v35 fun (n36 : Int) ↦
  T (60 : Nat)
  [Go.Value.pointer (Option.some (Go.Addr.mk x (0 : Nat) Option.none)), Go.Value.int Go.IntKind.i64 n36, Go.Value.int Go.IntKind.i64 split,
  Go.Value.int Go.IntKind.i64 (Go.IntKind.wrap Go.IntKind.i64 (win + (1 : Int)))]
  σ34 fun (v37 : Go.Value) (σ38 : Go.AI.AS) ↦
  Go.AI.ALoop
  (Go.AI.fl Go.Proofs.Try.prog Go.AI.hintsS T (53 : Nat)
  [Bool.true, Bool.true, Bool.true, Bool.true, Bool.true, Bool.true, Bool.true, Bool.true, Bool.true, Bool.true, Bool.true, Bool.true, Bool.true,
  Bool.false, Bool.true, Bool.false]
  [] K)
  [((0 : Nat), Option.some (Go.Value.pointer (Option.some (Go.Addr.mk x (0 : Nat) Option.none)))),
  ((1 : Nat), Option.some (Go.Value.int Go.IntKind.i64 split)), ((12 : Nat), Option.some (Go.Value.int Go.IntKind.i64 win)),
  ((15 : Nat), Option.some (Go.Value.int Go.IntKind.i64 (0 : Int)))]
  σ38) := by
  intros
  kernel_rfl

theorem s53l : ∀ (T : Go.AI.Ct) (x : Nat) (split win i : Int) (X : Go.AI.Regs → Go.AI.AS → Prop) (σ : Go.AI.AS) (K : Go.Value → Go.AI.AS → Prop),
  Go.AI.fl Go.Proofs.Try.prog Go.AI.hintsS T (53 : Nat)
  [Bool.true, Bool.true, Bool.true, Bool.true, Bool.true, Bool.true, Bool.true, Bool.true, Bool.true, Bool.true, Bool.true, Bool.true, Bool.true, Bool.false, Bool.true, Bool.false] [] K X
  [((0 : Nat), Option.some (Go.Value.pointer (Option.some (Go.Addr.mk x (0 : Nat) Option.none)))), ((1 : Nat), Option.some (Go.Value.int Go.IntKind.i64 split)),
  ((12 : Nat), Option.some (Go.Value.int Go.IntKind.i64 win)), ((15 : Nat), Option.some (Go.Value.int Go.IntKind.i64 i))]
  σ =
  Go.AI.ldc σ (Go.Addr.mk x ((0 : Nat) + (2 : Nat)) Option.none) fun (v0 : Go.Value) ↦
  Go.AI.tL (8 : Nat) v0 fun (s1 : Go.AI.Sl) ↦
  Go.AI.bmatch (Decidable.decide (i < (↑(Go.AI.Sl.n s1) : Int)))
  (Go.AI.ldc σ (Go.Addr.mk x ((0 : Nat) + (2 : Nat)) Option.none) fun (v2 : Go.Value) ↦
  Go.AI.tL (8 : Nat) v2 fun (s3 : Go.AI.Sl) ↦
  Go.AI.req ((0 : Int) ≤ i)
  (Go.AI.req (i < (↑(Go.AI.Sl.n s3) : Int))
  (Go.AI.pSome (Go.AI.Sl.a s3) fun (a4 : Go.Addr) ↦
  Go.AI.ldc σ (Go.Addr.add (Go.Addr.add a4 (Int.toNat i * Go.AI.szOf Go.Proofs.Try.prog (58 : Nat))) (0 : Nat)) fun (v5 : Go.Value) ↦
  Go.AI.tI Go.IntKind.i64 v5 fun (n6 : Int) ↦
  Go.AI.bmatch (n6 == split)
  (Go.AI.ldc σ (Go.Addr.mk x ((0 : Nat) + (2 : Nat)) Option.none) fun (v7 : Go.Value) ↦
  Go.AI.tL (8 : Nat) v7 fun (s8 : Go.AI.Sl) ↦
  Go.AI.req ((0 : Int) ≤ i)
  (Go.AI.req (i < (↑(Go.AI.Sl.n s8) : Int))
  (Go.AI.pSome (Go.AI.Sl.a s8) fun (a9 : Go.Addr) ↦
  Go.AI.put1 σ
  (Go.Addr.mk (Go.Addr.block (Go.Addr.add a9 (Int.toNat i * Go.AI.szOf Go.Proofs.Try.prog (58 : Nat))))
  (Go.Addr.off (Go.Addr.add a9 (Int.toNat i * Go.AI.szOf Go.Proofs.Try.prog (58 : Nat))) + (2 : Nat)) Option.none)
  (Go.Value.int Go.IntKind.i64 (Go.IntKind.wrap Go.IntKind.i64 (win + (1 : Int)))) fun (σ10 : Go.AI.AS) ↦
  X
  [((0 : Nat), Option.some (Go.Value.pointer (Option.some (Go.Addr.mk x (0 : Nat) Option.none)))), ((1 : Nat), Option.some (Go.Value.int Go.IntKind.i64 split)),
  ((12 : Nat), Option.some (Go.Value.int Go.IntKind.i64 win)), ((15 : Nat), Option.some (Go.Value.int Go.IntKind.i64 (Go.IntKind.wrap Go.IntKind.i64 (i + (1 : Int)))))]
  σ10)))
  (X
  [((0 : Nat), Option.some (Go.Value.pointer (Option.some (Go.Addr.mk x (0 : Nat) Option.none)))), ((1 : Nat), Option.some (Go.Value.int Go.IntKind.i64 split)),
  ((12 : Nat), Option.some (Go.Value.int Go.IntKind.i64 win)), ((15 : Nat), Option.some (Go.Value.int Go.IntKind.i64 (Go.IntKind.wrap Go.IntKind.i64 (i + (1 : Int)))))]
  σ))))
  (Go.AI.put1 σ (Go.Addr.mk x ((0 : Nat) + (3 : Nat)) Option.none) (Go.Value.int Go.IntKind.i64 (Go.IntKind.wrap Go.IntKind.i64 (Go.IntKind.wrap Go.IntKind.i64 (win + (2 : Int)) - (1 : Int))))
  fun (σ11 : Go.AI.AS) ↦ K (Go.Value.tuple (Array.mk [Go.Value.int Go.IntKind.i64 win, Go.Value.int Go.IntKind.i64 (0 : Int)])) σ11) := by
  intros
  kernel_rfl

theorem s25 : ∀ (T : Go.AI.Ct) (x : Nat) (win top : Int) (σ : Go.AI.AS) (K : Go.Value → Go.AI.AS → Prop),
  Go.AI.fw Go.Proofs.Try.prog Go.AI.hintsS T (25 : Nat) [Go.Value.pointer (Option.some (Go.Addr.mk x (0 : Nat) Option.none)), Go.Value.int Go.IntKind.i64 win, Go.Value.int Go.IntKind.i64 top] σ K =
  Go.AI.ALoop (Go.AI.fl Go.Proofs.Try.prog Go.AI.hintsS T (25 : Nat) [Bool.true, Bool.false, Bool.true, Bool.false] [] K)
  [((0 : Nat), Option.some (Go.Value.pointer (Option.some (Go.Addr.mk x (0 : Nat) Option.none)))), ((1 : Nat), Option.some (Go.Value.int Go.IntKind.i64 win)),
  ((2 : Nat), Option.some (Go.Value.int Go.IntKind.i64 top)), ((7 : Nat), Option.some (Go.Value.int Go.IntKind.i64 (0 : Int)))]
  σ := by
  intros
  kernel_rfl

theorem s25l : ∀ (T : Go.AI.Ct) (x : Nat) (win top i : Int) (X : Go.AI.Regs → Go.AI.AS → Prop) (σ : Go.AI.AS) (K : Go.Value → Go.AI.AS → Prop),
  Go.AI.fl Go.Proofs.Try.prog Go.AI.hintsS T (25 : Nat) [Bool.true, Bool.false, Bool.true, Bool.false] [] K X
  [((0 : Nat), Option.some (Go.Value.pointer (Option.some (Go.Addr.mk x (0 : Nat) Option.none)))), ((1 : Nat), Option.some (Go.Value.int Go.IntKind.i64 win)),
  ((2 : Nat), Option.some (Go.Value.int Go.IntKind.i64 top)), ((7 : Nat), Option.some (Go.Value.int Go.IntKind.i64 i))]
  σ =
  Go.AI.bmatch (win != (0 : Int))
  (Go.AI.bmatch (Decidable.decide (i < (100 : Int)))
  (Go.AI.bmatch (win == top) (K (Go.Value.bool Bool.true) σ)
  (T (29 : Nat) [Go.Value.pointer (Option.some (Go.Addr.mk x (0 : Nat) Option.none)), Go.Value.int Go.IntKind.i64 win] σ fun (v0 : Go.Value) (σ1 : Go.AI.AS) ↦
  Go.AI.tAgg v0 fun (l2 : List Go.Value) ↦
  Go.AI.tCons l2 fun (v3 : Go.Value) (l4 : List Go.Value) ↦
  Go.AI.tI Go.IntKind.i64 v3 fun (n5 : Int) ↦
  Go.AI.tCons l4 fun (v6 : Go.Value) (l7 : List Go.Value) ↦
  Go.AI.tI Go.IntKind.i64 v6 fun (n8 : Int) ↦
  Go.AI.tCons l7 fun (v9 : Go.Value) (l10 : List Go.Value) ↦
  Go.AI.tI Go.IntKind.i64 v9 fun (n11 : Int) ↦
  Go.AI.tCons l10 fun (v12 : Go.Value) (l13 : List Go.Value) ↦
  Go.AI.tI Go.IntKind.i64 v12 fun (n14 : Int) ↦
  Go.AI.tCons l13 fun (v15 : Go.Value) (l16 : List Go.Value) ↦
  Go.AI.tI Go.IntKind.i64 v15 fun (n17 : Int) ↦
  Go.AI.tCons l16 fun (v18 : Go.Value) (l19 : List Go.Value) ↦
  Go.AI.tI Go.IntKind.i64 v18 fun (n20 : Int) ↦
  Go.AI.tCons l19 fun (v21 : Go.Value) (l22 : List Go.Value) ↦
  Go.AI.tI Go.IntKind.u32 v21 fun (n23 : Int) ↦
  Go.AI.tCons l22 fun (v24 : Go.Value) (l25 : List Go.Value) ↦
  Go.AI.tI Go.IntKind.i64 v24 fun (n26 : Int) ↦
  Go.AI.tNil l25
  (X
  [((0 : Nat), Option.some (Go.Value.pointer (Option.some (Go.Addr.mk x (0 : Nat) Option.none)))), ((1 : Nat), Option.some (Go.Value.int Go.IntKind.i64 n11)),
  ((2 : Nat), Option.some (Go.Value.int Go.IntKind.i64 top)), ((7 : Nat), Option.some (Go.Value.int Go.IntKind.i64 (Go.IntKind.wrap Go.IntKind.i64 (i + (1 : Int)))))]
  σ1)))
  (K (Go.Value.bool Bool.false) σ))
  (K (Go.Value.bool Bool.false) σ) := by
  intros
  kernel_rfl

theorem s61 : ∀ (T : Go.AI.Ct) (x : Nat) (n : Int) (σ : Go.AI.AS) (K : Go.Value → Go.AI.AS → Prop),
  Go.AI.fw Go.Proofs.Try.prog Go.AI.hintsS T (61 : Nat) [Go.Value.pointer (Option.some (Go.Addr.mk x (0 : Nat) Option.none)), Go.Value.int Go.IntKind.i64 n] σ K =
  T (29 : Nat) [Go.Value.pointer (Option.some (Go.Addr.mk x (0 : Nat) Option.none)), Go.Value.int Go.IntKind.i64 n] σ fun (v0 : Go.Value) (σ1 : Go.AI.AS) ↦
  Go.AI.tAgg v0 fun (l2 : List Go.Value) ↦
  Go.AI.tCons l2 fun (v3 : Go.Value) (l4 : List Go.Value) ↦
  Go.AI.tI Go.IntKind.i64 v3 fun (n5 : Int) ↦
  Go.AI.tCons l4 fun (v6 : Go.Value) (l7 : List Go.Value) ↦
  Go.AI.tI Go.IntKind.i64 v6 fun (n8 : Int) ↦
  Go.AI.tCons l7 fun (v9 : Go.Value) (l10 : List Go.Value) ↦
  Go.AI.tI Go.IntKind.i64 v9 fun (n11 : Int) ↦
  Go.AI.tCons l10 fun (v12 : Go.Value) (l13 : List Go.Value) ↦
  Go.AI.tI Go.IntKind.i64 v12 fun (n14 : Int) ↦
  Go.AI.tCons l13 fun (v15 : Go.Value) (l16 : List Go.Value) ↦
  Go.AI.tI Go.IntKind.i64 v15 fun (n17 : Int) ↦
  Go.AI.tCons l16 fun (v18 : Go.Value) (l19 : List Go.Value) ↦
  Go.AI.tI Go.IntKind.i64 v18 fun (n20 : Int) ↦
  Go.AI.tCons l19 fun (v21 : Go.Value) (l22 : List Go.Value) ↦
  Go.AI.tI Go.IntKind.u32 v21 fun (n23 : Int) ↦
  Go.AI.tCons l22 fun (v24 : Go.Value) (l25 : List Go.Value) ↦
  Go.AI.tI Go.IntKind.i64 v24 fun (n26 : Int) ↦
  Go.AI.tNil l25
  (T (29 : Nat) [Go.Value.pointer (Option.some (Go.Addr.mk x (0 : Nat) Option.none)), Go.Value.int Go.IntKind.i64 n11] σ1 fun (v27 : Go.Value) (σ28 : Go.AI.AS) ↦
  Go.AI.tAgg v27 fun (l29 : List Go.Value) ↦
  Go.AI.tCons l29 fun (v30 : Go.Value) (l31 : List Go.Value) ↦
  Go.AI.tI Go.IntKind.i64 v30 fun (n32 : Int) ↦
  Go.AI.tCons l31 fun (v33 : Go.Value) (l34 : List Go.Value) ↦
  Go.AI.tI Go.IntKind.i64 v33 fun (n35 : Int) ↦
  Go.AI.tCons l34 fun (v36 : Go.Value) (l37 : List Go.Value) ↦
  Go.AI.tI Go.IntKind.i64 v36 fun (n38 : Int) ↦
  Go.AI.tCons l37 fun (v39 : Go.Value) (l40 : List Go.Value) ↦
  Go.AI.tI Go.IntKind.i64 v39 fun (n41 : Int) ↦
  Go.AI.tCons l40 fun (v42 : Go.Value) (l43 : List Go.Value) ↦
  Go.AI.tI Go.IntKind.i64 v42 fun (n44 : Int) ↦
  Go.AI.tCons l43 fun (v45 : Go.Value) (l46 : List Go.Value) ↦
  Go.AI.tI Go.IntKind.i64 v45 fun (n47 : Int) ↦
  Go.AI.tCons l46 fun (v48 : Go.Value) (l49 : List Go.Value) ↦
  Go.AI.tI Go.IntKind.u32 v48 fun (n50 : Int) ↦
  Go.AI.tCons l49 fun (v51 : Go.Value) (l52 : List Go.Value) ↦
  Go.AI.tI Go.IntKind.i64 v51 fun (n53 : Int) ↦
  Go.AI.tNil l52
  (Go.AI.newAt σ28
  (Go.AI.AObj.row Go.AI.RK.plain
  [Go.Value.int Go.IntKind.i64 (0 : Int), Go.Value.int Go.IntKind.i64 (0 : Int), Go.Value.int Go.IntKind.i64 (0 : Int),
  Go.Value.int Go.IntKind.i64 (0 : Int), Go.Value.int Go.IntKind.i64 (0 : Int), Go.Value.int Go.IntKind.i64 (0 : Int),
  Go.Value.int Go.IntKind.u32 (0 : Int), Go.Value.int Go.IntKind.i64 (0 : Int)])
  fun (i54 : Nat) (σ55 : Go.AI.AS) ↦
  Go.AI.puts σ55 (Go.Addr.mk i54 (0 : Nat) Option.none)
  [Go.Value.int Go.IntKind.i64 n32, Go.Value.int Go.IntKind.i64 n35, Go.Value.int Go.IntKind.i64 n38, Go.Value.int Go.IntKind.i64 n41,
  Go.Value.int Go.IntKind.i64 n44, Go.Value.int Go.IntKind.i64 n47, Go.Value.int Go.IntKind.u32 n50, Go.Value.int Go.IntKind.i64 n53]
  fun (σ56 : Go.AI.AS) ↦
  Go.AI.ldc σ56 (Go.Addr.mk i54 ((0 : Nat) + (3 : Nat)) Option.none) fun (v57 : Go.Value) ↦
  Go.AI.tI Go.IntKind.i64 v57 fun (n58 : Int) ↦
  Go.AI.bmatch (n58 == n)
  (Go.AI.ldc σ56 (Go.Addr.mk i54 ((0 : Nat) + (4 : Nat)) Option.none) fun (v59 : Go.Value) ↦
  Go.AI.tI Go.IntKind.i64 v59 fun (n60 : Int) ↦ K (Go.Value.int Go.IntKind.i64 n60) σ56)
  (Go.AI.ldc σ56 (Go.Addr.mk i54 ((0 : Nat) + (3 : Nat)) Option.none) fun (v61 : Go.Value) ↦
  Go.AI.tI Go.IntKind.i64 v61 fun (n62 : Int) ↦ K (Go.Value.int Go.IntKind.i64 n62) σ56))) := by
  intros
  kernel_rfl

theorem s50 : ∀ (T : Go.AI.Ct) (x : Nat) (n : Int) (σ : Go.AI.AS) (K : Go.Value → Go.AI.AS → Prop),
  Go.AI.fw Go.Proofs.Try.prog Go.AI.hintsS T (50 : Nat) [Go.Value.pointer (Option.some (Go.Addr.mk x (0 : Nat) Option.none)), Go.Value.int Go.IntKind.i64 n] σ K =
  T (47 : Nat) [Go.Value.pointer (Option.some (Go.Addr.mk x (0 : Nat) Option.none)), Go.Value.int Go.IntKind.i64 n] σ fun (v0 : Go.Value) (σ1 : Go.AI.AS) ↦
  Go.AI.tI Go.IntKind.i64 v0 fun (n2 : Int) ↦
  Go.AI.bmatch (Decidable.decide (n2 < (0 : Int))) (K (Go.Value.tuple (Array.mk [Go.Value.slice Option.none (0 : Nat) (0 : Nat), Go.Value.int Go.IntKind.i64 (5 : Int)])) σ1)
  (T (29 : Nat) [Go.Value.pointer (Option.some (Go.Addr.mk x (0 : Nat) Option.none)), Go.Value.int Go.IntKind.i64 n] σ1 fun (v3 : Go.Value) (σ4 : Go.AI.AS) ↦
  Go.AI.tAgg v3 fun (l5 : List Go.Value) ↦
  Go.AI.tCons l5 fun (v6 : Go.Value) (l7 : List Go.Value) ↦
  Go.AI.tI Go.IntKind.i64 v6 fun (n8 : Int) ↦
  Go.AI.tCons l7 fun (v9 : Go.Value) (l10 : List Go.Value) ↦
  Go.AI.tI Go.IntKind.i64 v9 fun (n11 : Int) ↦
  Go.AI.tCons l10 fun (v12 : Go.Value) (l13 : List Go.Value) ↦
  Go.AI.tI Go.IntKind.i64 v12 fun (n14 : Int) ↦
  Go.AI.tCons l13 fun (v15 : Go.Value) (l16 : List Go.Value) ↦
  Go.AI.tI Go.IntKind.i64 v15 fun (n17 : Int) ↦
  Go.AI.tCons l16 fun (v18 : Go.Value) (l19 : List Go.Value) ↦
  Go.AI.tI Go.IntKind.i64 v18 fun (n20 : Int) ↦
  Go.AI.tCons l19 fun (v21 : Go.Value) (l22 : List Go.Value) ↦
  Go.AI.tI Go.IntKind.i64 v21 fun (n23 : Int) ↦
  Go.AI.tCons l22 fun (v24 : Go.Value) (l25 : List Go.Value) ↦
  Go.AI.tI Go.IntKind.u32 v24 fun (n26 : Int) ↦
  Go.AI.tCons l25 fun (v27 : Go.Value) (l28 : List Go.Value) ↦
  Go.AI.tI Go.IntKind.i64 v27 fun (n29 : Int) ↦
  Go.AI.tNil l28
  (Go.AI.ALoop (Go.AI.fl Go.Proofs.Try.prog Go.AI.hintsS T (50 : Nat) [Bool.true, Bool.true, Bool.true, Bool.true, Bool.true, Bool.false, Bool.true, Bool.false] [] K)
  [((0 : Nat), Option.some (Go.Value.pointer (Option.some (Go.Addr.mk x (0 : Nat) Option.none)))), ((1 : Nat), Option.some (Go.Value.int Go.IntKind.i64 n)),
  ((6 : Nat), Option.some (Go.Value.int Go.IntKind.i64 n14)), ((7 : Nat), Option.some (Go.Value.slice Option.none (0 : Nat) (0 : Nat))),
  ((8 : Nat), Option.some (Go.Value.slice Option.none (0 : Nat) (0 : Nat))), ((9 : Nat), Option.some (Go.Value.int Go.IntKind.i64 (0 : Int)))]
  σ4)) := by
  intros
  kernel_rfl

theorem s50l : ∀ (T : Go.AI.Ct) (x : Nat) (n p i : Int) (a : Option Go.Addr) (k e : Nat) (b : Option Go.Addr) (m f : Nat) (X : Go.AI.Regs → Go.AI.AS → Prop) (σ : Go.AI.AS) (K : Go.Value → Go.AI.AS → Prop),
  Go.AI.fl Go.Proofs.Try.prog Go.AI.hintsS T (50 : Nat) [Bool.true, Bool.true, Bool.true, Bool.true, Bool.true, Bool.false, Bool.true, Bool.false] [] K X
  [((0 : Nat), Option.some (Go.Value.pointer (Option.some (Go.Addr.mk x (0 : Nat) Option.none)))), ((1 : Nat), Option.some (Go.Value.int Go.IntKind.i64 n)),
  ((6 : Nat), Option.some (Go.Value.int Go.IntKind.i64 p)), ((7 : Nat), Option.some (Go.Value.slice a k e)), ((8 : Nat), Option.some (Go.Value.slice b m f)),
  ((9 : Nat), Option.some (Go.Value.int Go.IntKind.i64 i))]
  σ =
  Go.AI.ldc σ (Go.Addr.mk x ((0 : Nat) + (2 : Nat)) Option.none) fun (v0 : Go.Value) ↦
  Go.AI.tL (8 : Nat) v0 fun (s1 : Go.AI.Sl) ↦
  Go.AI.bmatch (Decidable.decide (i < (↑(Go.AI.Sl.n s1) : Int)))
  (Go.AI.ldc σ (Go.Addr.mk x ((0 : Nat) + (2 : Nat)) Option.none) fun (v2 : Go.Value) ↦
  Go.AI.tL (8 : Nat) v2 fun (s3 : Go.AI.Sl) ↦
  Go.AI.req ((0 : Int) ≤ i)
  (Go.AI.req (i < (↑(Go.AI.Sl.n s3) : Int))
  (Go.AI.pSome (Go.AI.Sl.a s3) fun (a4 : Go.Addr) ↦
  Go.AI.ldc σ (Go.Addr.add (Go.Addr.add a4 (Int.toNat i * Go.AI.szOf Go.Proofs.Try.prog (58 : Nat))) (0 : Nat)) fun (v5 : Go.Value) ↦
  Go.AI.tI Go.IntKind.i64 v5 fun (n6 : Int) ↦
  T (25 : Nat) [Go.Value.pointer (Option.some (Go.Addr.mk x (0 : Nat) Option.none)), Go.Value.int Go.IntKind.i64 n6, Go.Value.int Go.IntKind.i64 n] σ fun (v7 : Go.Value) (σ8 : Go.AI.AS) ↦
  Go.AI.tB v7 fun (b9 : Bool) ↦
  Go.AI.bmatch b9
  (Go.AI.newAt σ8 (Go.AI.AObj.row Go.AI.RK.rw [Go.Value.bool Bool.true]) fun (i10 : Nat) (σ11 : Go.AI.AS) ↦
  Go.AI.chk (Go.AI.nilOr b f (Go.AI.szOf Go.Proofs.Try.prog (4 : Nat)))
  (Go.AI.lds σ11 (Go.Addr.mk i10 (0 : Nat) Option.none) (1 : Nat) fun (l12 : List Go.Value) ↦
  Go.AI.appendTo σ11 (1 : Nat) (1 : Nat) (Go.AI.Sl.mk b m) l12 (1 : Nat) fun (s13 : Go.AI.Sl) (σ14 : Go.AI.AS) ↦
  Go.AI.ldc σ14 (Go.Addr.mk x ((0 : Nat) + (2 : Nat)) Option.none) fun (v15 : Go.Value) ↦
  Go.AI.tL (8 : Nat) v15 fun (s16 : Go.AI.Sl) ↦
  Go.AI.req ((0 : Int) ≤ i)
  (Go.AI.req (i < (↑(Go.AI.Sl.n s16) : Int))
  (Go.AI.pSome (Go.AI.Sl.a s16) fun (a17 : Go.Addr) ↦
  Go.AI.ldc σ14 (Go.Addr.add (Go.Addr.add a17 (Int.toNat i * Go.AI.szOf Go.Proofs.Try.prog (58 : Nat))) (0 : Nat)) fun (v18 : Go.Value) ↦
  Go.AI.tI Go.IntKind.i64 v18 fun (n19 : Int) ↦
  Go.AI.newAt σ14 (Go.AI.AObj.row Go.AI.RK.rw [Go.Value.int Go.IntKind.i64 n19]) fun (i20 : Nat) (σ21 : Go.AI.AS) ↦
  Go.AI.chk (Go.AI.nilOr a e (Go.AI.szOf Go.Proofs.Try.prog (3 : Nat)))
  (Go.AI.lds σ21 (Go.Addr.mk i20 (0 : Nat) Option.none) (1 : Nat) fun (l22 : List Go.Value) ↦
  Go.AI.appendTo σ21 (1 : Nat) (8 : Nat) (Go.AI.Sl.mk a k) l22 (1 : Nat) fun (s23 : Go.AI.Sl) (σ24 : Go.AI.AS) ↦
  X
  [((0 : Nat), Option.some (Go.Value.pointer (Option.some (Go.Addr.mk x (0 : Nat) Option.none)))), ((1 : Nat), Option.some (Go.Value.int Go.IntKind.i64 n)),
  ((6 : Nat), Option.some (Go.Value.int Go.IntKind.i64 p)), ((7 : Nat), Option.some (Go.Value.slice (Go.AI.Sl.a s23) (Go.AI.Sl.n s23) (1 : Nat))),
  ((8 : Nat), Option.some (Go.Value.slice (Go.AI.Sl.a s13) (Go.AI.Sl.n s13) (1 : Nat))),
  ((9 : Nat), Option.some (Go.Value.int Go.IntKind.i64 (Go.IntKind.wrap Go.IntKind.i64 (i + (1 : Int)))))]
  σ24)))))
  (Go.AI.ldc σ8 (Go.Addr.mk x ((0 : Nat) + (2 : Nat)) Option.none) fun (v25 : Go.Value) ↦
  Go.AI.tL (8 : Nat) v25 fun (s26 : Go.AI.Sl) ↦
  Go.AI.req ((0 : Int) ≤ i)
  (Go.AI.req (i < (↑(Go.AI.Sl.n s26) : Int))
  (Go.AI.pSome (Go.AI.Sl.a s26) fun (a27 : Go.Addr) ↦
  Go.AI.ldc σ8 (Go.Addr.add (Go.Addr.add a27 (Int.toNat i * Go.AI.szOf Go.Proofs.Try.prog (58 : Nat))) (0 : Nat)) fun (v28 : Go.Value) ↦
  Go.AI.tI Go.IntKind.i64 v28 fun (n29 : Int) ↦
  Go.AI.newAt σ8 (Go.AI.AObj.row Go.AI.RK.rw [Go.Value.bool (n29 == p)]) fun (i30 : Nat) (σ31 : Go.AI.AS) ↦
  Go.AI.chk (Go.AI.nilOr b f (Go.AI.szOf Go.Proofs.Try.prog (4 : Nat)))
  (Go.AI.lds σ31 (Go.Addr.mk i30 (0 : Nat) Option.none) (1 : Nat) fun (l32 : List Go.Value) ↦
  Go.AI.appendTo σ31 (1 : Nat) (1 : Nat) (Go.AI.Sl.mk b m) l32 (1 : Nat) fun (s33 : Go.AI.Sl) (σ34 : Go.AI.AS) ↦
  Go.AI.bmatch (n29 == p)
  (Go.AI.ldc σ34 (Go.Addr.mk x ((0 : Nat) + (2 : Nat)) Option.none) fun (v35 : Go.Value) ↦
  Go.AI.tL (8 : Nat) v35 fun (s36 : Go.AI.Sl) ↦
  Go.AI.req ((0 : Int) ≤ i)
  (Go.AI.req (i < (↑(Go.AI.Sl.n s36) : Int))
  (Go.AI.pSome (Go.AI.Sl.a s36) fun (a37 : Go.Addr) ↦
  Go.AI.ldc σ34 (Go.Addr.add (Go.Addr.add a37 (Int.toNat i * Go.AI.szOf Go.Proofs.Try.prog (58 : Nat))) (0 : Nat)) fun (v38 : Go.Value) ↦
  Go.AI.tI Go.IntKind.i64 v38 fun (n39 : Int) ↦
  Go.AI.newAt σ34 (Go.AI.AObj.row Go.AI.RK.rw [Go.Value.int Go.IntKind.i64 n39]) fun (i40 : Nat) (σ41 : Go.AI.AS) ↦
  Go.AI.chk (Go.AI.nilOr a e (Go.AI.szOf Go.Proofs.Try.prog (3 : Nat)))
  (Go.AI.lds σ41 (Go.Addr.mk i40 (0 : Nat) Option.none) (1 : Nat) fun (l42 : List Go.Value) ↦
  Go.AI.appendTo σ41 (1 : Nat) (8 : Nat) (Go.AI.Sl.mk a k) l42 (1 : Nat) fun (s43 : Go.AI.Sl) (σ44 : Go.AI.AS) ↦
  X
  [((0 : Nat), Option.some (Go.Value.pointer (Option.some (Go.Addr.mk x (0 : Nat) Option.none)))),
  ((1 : Nat), Option.some (Go.Value.int Go.IntKind.i64 n)), ((6 : Nat), Option.some (Go.Value.int Go.IntKind.i64 p)),
  ((7 : Nat), Option.some (Go.Value.slice (Go.AI.Sl.a s43) (Go.AI.Sl.n s43) (1 : Nat))),
  ((8 : Nat), Option.some (Go.Value.slice (Go.AI.Sl.a s33) (Go.AI.Sl.n s33) (1 : Nat))),
  ((9 : Nat), Option.some (Go.Value.int Go.IntKind.i64 (Go.IntKind.wrap Go.IntKind.i64 (i + (1 : Int)))))]
  σ44))))
  (X
  [((0 : Nat), Option.some (Go.Value.pointer (Option.some (Go.Addr.mk x (0 : Nat) Option.none)))), ((1 : Nat), Option.some (Go.Value.int Go.IntKind.i64 n)),
  ((6 : Nat), Option.some (Go.Value.int Go.IntKind.i64 p)), ((7 : Nat), Option.some (Go.Value.slice a k e)),
  ((8 : Nat), Option.some (Go.Value.slice (Go.AI.Sl.a s33) (Go.AI.Sl.n s33) (1 : Nat))),
  ((9 : Nat), Option.some (Go.Value.int Go.IntKind.i64 (Go.IntKind.wrap Go.IntKind.i64 (i + (1 : Int)))))]
  σ34))))))))
  (Go.AI.bmatch (p != (0 : Int))
  (T (29 : Nat) [Go.Value.pointer (Option.some (Go.Addr.mk x (0 : Nat) Option.none)), Go.Value.int Go.IntKind.i64 p] σ fun (v45 : Go.Value) (σ46 : Go.AI.AS) ↦
  Go.AI.tAgg v45 fun (l47 : List Go.Value) ↦
  Go.AI.tCons l47 fun (v48 : Go.Value) (l49 : List Go.Value) ↦
  Go.AI.tI Go.IntKind.i64 v48 fun (n50 : Int) ↦
  Go.AI.tCons l49 fun (v51 : Go.Value) (l52 : List Go.Value) ↦
  Go.AI.tI Go.IntKind.i64 v51 fun (n53 : Int) ↦
  Go.AI.tCons l52 fun (v54 : Go.Value) (l55 : List Go.Value) ↦
  Go.AI.tI Go.IntKind.i64 v54 fun (n56 : Int) ↦
  Go.AI.tCons l55 fun (v57 : Go.Value) (l58 : List Go.Value) ↦
  Go.AI.tI Go.IntKind.i64 v57 fun (n59 : Int) ↦
  Go.AI.tCons l58 fun (v60 : Go.Value) (l61 : List Go.Value) ↦
  Go.AI.tI Go.IntKind.i64 v60 fun (n62 : Int) ↦
  Go.AI.tCons l61 fun (v63 : Go.Value) (l64 : List Go.Value) ↦
  Go.AI.tI Go.IntKind.i64 v63 fun (n65 : Int) ↦
  Go.AI.tCons l64 fun (v66 : Go.Value) (l67 : List Go.Value) ↦
  Go.AI.tI Go.IntKind.u32 v66 fun (n68 : Int) ↦
  Go.AI.tCons l67 fun (v69 : Go.Value) (l70 : List Go.Value) ↦
  Go.AI.tI Go.IntKind.i64 v69 fun (n71 : Int) ↦
  Go.AI.tNil l70
  (T (61 : Nat) [Go.Value.pointer (Option.some (Go.Addr.mk x (0 : Nat) Option.none)), Go.Value.int Go.IntKind.i64 n] σ46 fun (v72 : Go.Value) (σ73 : Go.AI.AS) ↦
  Go.AI.tI Go.IntKind.i64 v72 fun (n74 : Int) ↦
  T (60 : Nat)
  [Go.Value.pointer (Option.some (Go.Addr.mk x (0 : Nat) Option.none)), Go.Value.int Go.IntKind.i64 n56, Go.Value.int Go.IntKind.i64 p,
  Go.Value.int Go.IntKind.i64 n74]
  σ73 fun (v75 : Go.Value) (σ76 : Go.AI.AS) ↦
  Go.AI.JoinS (Go.AI.jn Go.Proofs.Try.prog Go.AI.hintsS T (50 : Nat) [Bool.true, Bool.true, Bool.true, Bool.true, Bool.true, Bool.true] [] K)
  [((0 : Nat), Option.some (Go.Value.pointer (Option.some (Go.Addr.mk x (0 : Nat) Option.none)))), ((7 : Nat), Option.some (Go.Value.slice a k e)),
  ((8 : Nat), Option.some (Go.Value.slice b m f))]
  σ76))
  (Go.AI.JoinS (Go.AI.jn Go.Proofs.Try.prog Go.AI.hintsS T (50 : Nat) [Bool.true, Bool.true, Bool.true, Bool.true, Bool.true, Bool.true] [] K)
  [((0 : Nat), Option.some (Go.Value.pointer (Option.some (Go.Addr.mk x (0 : Nat) Option.none)))), ((7 : Nat), Option.some (Go.Value.slice a k e)),
  ((8 : Nat), Option.some (Go.Value.slice b m f))]
  σ)) := by
  intros
  kernel_rfl

theorem s50j : ∀ (T : Go.AI.Ct) (x : Nat) (a : Option Go.Addr) (k e : Nat) (b : Option Go.Addr) (m f : Nat) (σ : Go.AI.AS) (K : Go.Value → Go.AI.AS → Prop),
  Go.AI.jn Go.Proofs.Try.prog Go.AI.hintsS T (50 : Nat) [Bool.true, Bool.true, Bool.true, Bool.true, Bool.true, Bool.true] [] K
  [((0 : Nat), Option.some (Go.Value.pointer (Option.some (Go.Addr.mk x (0 : Nat) Option.none)))), ((7 : Nat), Option.some (Go.Value.slice a k e)), ((8 : Nat), Option.some (Go.Value.slice b m f))] σ =
  Go.AI.ALoop (Go.AI.fl Go.Proofs.Try.prog Go.AI.hintsS T (50 : Nat) [Bool.true, Bool.true, Bool.true, Bool.true, Bool.true, Bool.true, Bool.true, Bool.true, Bool.false, Bool.true, Bool.false] [] K)
  [((0 : Nat), Option.some (Go.Value.pointer (Option.some (Go.Addr.mk x (0 : Nat) Option.none)))), ((7 : Nat), Option.some (Go.Value.slice a k e)), ((8 : Nat), Option.some (Go.Value.slice b m f)),
  ((11 : Nat), Option.some (Go.Value.slice Option.none (0 : Nat) (0 : Nat))), ((12 : Nat), Option.some (Go.Value.int Go.IntKind.i64 (0 : Int)))]
  σ := by
  intros
  kernel_rfl

theorem s50k : ∀ (T : Go.AI.Ct) (x : Nat) (i : Int) (a : Option Go.Addr) (k e : Nat) (b : Option Go.Addr) (m f : Nat) (c : Option Go.Addr) (q g : Nat) (X : Go.AI.Regs → Go.AI.AS → Prop) (σ : Go.AI.AS)
  (K : Go.Value → Go.AI.AS → Prop),
  Go.AI.fl Go.Proofs.Try.prog Go.AI.hintsS T (50 : Nat) [Bool.true, Bool.true, Bool.true, Bool.true, Bool.true, Bool.true, Bool.true, Bool.true, Bool.false, Bool.true, Bool.false] [] K X
  [((0 : Nat), Option.some (Go.Value.pointer (Option.some (Go.Addr.mk x (0 : Nat) Option.none)))), ((7 : Nat), Option.some (Go.Value.slice a k e)), ((8 : Nat), Option.some (Go.Value.slice b m f)),
  ((11 : Nat), Option.some (Go.Value.slice c q g)), ((12 : Nat), Option.some (Go.Value.int Go.IntKind.i64 i))]
  σ =
  Go.AI.ldc σ (Go.Addr.mk x ((0 : Nat) + (2 : Nat)) Option.none) fun (v0 : Go.Value) ↦
  Go.AI.tL (8 : Nat) v0 fun (s1 : Go.AI.Sl) ↦
  Go.AI.bmatch (Decidable.decide (i < (↑(Go.AI.Sl.n s1) : Int)))
  (Go.AI.req ((0 : Int) ≤ i)
  (Go.AI.req (i < (↑m : Int))
  (Go.AI.pSome b fun (a2 : Go.Addr) ↦
  Go.AI.req (f = Go.AI.szOf Go.Proofs.Try.prog (4 : Nat))
  (Go.AI.ldc σ (Go.Addr.add a2 (Int.toNat i * Go.AI.szOf Go.Proofs.Try.prog (4 : Nat))) fun (v3 : Go.Value) ↦
  Go.AI.tB v3 fun (b4 : Bool) ↦
  Go.AI.bmatch (!b4)
  (Go.AI.ldc σ (Go.Addr.mk x ((0 : Nat) + (2 : Nat)) Option.none) fun (v5 : Go.Value) ↦
  Go.AI.tL (8 : Nat) v5 fun (s6 : Go.AI.Sl) ↦
  Go.AI.req ((0 : Int) ≤ i)
  (Go.AI.req (i < (↑(Go.AI.Sl.n s6) : Int))
  (Go.AI.pSome (Go.AI.Sl.a s6) fun (a7 : Go.Addr) ↦
  Go.AI.lds σ (Go.Addr.add a7 (Int.toNat i * Go.AI.szOf Go.Proofs.Try.prog (58 : Nat))) (8 : Nat) fun (l8 : List Go.Value) ↦
  Go.AI.tCons l8 fun (v9 : Go.Value) (l10 : List Go.Value) ↦
  Go.AI.tI Go.IntKind.i64 v9 fun (n11 : Int) ↦
  Go.AI.tCons l10 fun (v12 : Go.Value) (l13 : List Go.Value) ↦
  Go.AI.tI Go.IntKind.i64 v12 fun (n14 : Int) ↦
  Go.AI.tCons l13 fun (v15 : Go.Value) (l16 : List Go.Value) ↦
  Go.AI.tI Go.IntKind.i64 v15 fun (n17 : Int) ↦
  Go.AI.tCons l16 fun (v18 : Go.Value) (l19 : List Go.Value) ↦
  Go.AI.tI Go.IntKind.i64 v18 fun (n20 : Int) ↦
  Go.AI.tCons l19 fun (v21 : Go.Value) (l22 : List Go.Value) ↦
  Go.AI.tI Go.IntKind.i64 v21 fun (n23 : Int) ↦
  Go.AI.tCons l22 fun (v24 : Go.Value) (l25 : List Go.Value) ↦
  Go.AI.tI Go.IntKind.i64 v24 fun (n26 : Int) ↦
  Go.AI.tCons l25 fun (v27 : Go.Value) (l28 : List Go.Value) ↦
  Go.AI.tI Go.IntKind.u32 v27 fun (n29 : Int) ↦
  Go.AI.tCons l28 fun (v30 : Go.Value) (l31 : List Go.Value) ↦
  Go.AI.tI Go.IntKind.i64 v30 fun (n32 : Int) ↦
  Go.AI.tNil l31
  (Go.AI.newAt σ
  (Go.AI.AObj.row Go.AI.RK.rw
  [Go.Value.int Go.IntKind.i64 n11, Go.Value.int Go.IntKind.i64 n14, Go.Value.int Go.IntKind.i64 n17, Go.Value.int Go.IntKind.i64 n20,
  Go.Value.int Go.IntKind.i64 n23, Go.Value.int Go.IntKind.i64 n26, Go.Value.int Go.IntKind.u32 n29, Go.Value.int Go.IntKind.i64 n32])
  fun (i33 : Nat) (σ34 : Go.AI.AS) ↦
  Go.AI.chk (Go.AI.nilOr c g (Go.AI.szOf Go.Proofs.Try.prog (58 : Nat)))
  (Go.AI.lds σ34 (Go.Addr.mk i33 (0 : Nat) Option.none) (8 : Nat) fun (l35 : List Go.Value) ↦
  Go.AI.appendTo σ34 (8 : Nat) (64 : Nat) (Go.AI.Sl.mk c q) l35 (1 : Nat) fun (s36 : Go.AI.Sl) (σ37 : Go.AI.AS) ↦
  X
  [((0 : Nat), Option.some (Go.Value.pointer (Option.some (Go.Addr.mk x (0 : Nat) Option.none)))),
  ((7 : Nat), Option.some (Go.Value.slice a k e)), ((8 : Nat), Option.some (Go.Value.slice b m f)),
  ((11 : Nat), Option.some (Go.Value.slice (Go.AI.Sl.a s36) (Go.AI.Sl.n s36) (8 : Nat))),
  ((12 : Nat), Option.some (Go.Value.int Go.IntKind.i64 (Go.IntKind.wrap Go.IntKind.i64 (i + (1 : Int)))))]
  σ37)))))
  (X
  [((0 : Nat), Option.some (Go.Value.pointer (Option.some (Go.Addr.mk x (0 : Nat) Option.none)))), ((7 : Nat), Option.some (Go.Value.slice a k e)),
  ((8 : Nat), Option.some (Go.Value.slice b m f)), ((11 : Nat), Option.some (Go.Value.slice c q g)),
  ((12 : Nat), Option.some (Go.Value.int Go.IntKind.i64 (Go.IntKind.wrap Go.IntKind.i64 (i + (1 : Int)))))]
  σ)))))
  (Go.AI.put1 σ (Go.Addr.mk x ((0 : Nat) + (2 : Nat)) Option.none) (Go.Value.slice c q g) fun (σ38 : Go.AI.AS) ↦
  Go.AI.ALoop
  (Go.AI.fl Go.Proofs.Try.prog Go.AI.hintsS T (50 : Nat) [Bool.true, Bool.true, Bool.true, Bool.true, Bool.true, Bool.true, Bool.true, Bool.true, Bool.true, Bool.true, Bool.false, Bool.true, Bool.false] []
  K)
  [((0 : Nat), Option.some (Go.Value.pointer (Option.some (Go.Addr.mk x (0 : Nat) Option.none)))), ((7 : Nat), Option.some (Go.Value.slice a k e)),
  ((13 : Nat), Option.some (Go.Value.int Go.IntKind.i64 (0 : Int)))]
  σ38) := by
  intros
  kernel_rfl

theorem s50m : ∀ (T : Go.AI.Ct) (x : Nat) (i : Int) (a : Option Go.Addr) (k e : Nat) (X : Go.AI.Regs → Go.AI.AS → Prop) (σ : Go.AI.AS) (K : Go.Value → Go.AI.AS → Prop),
  Go.AI.fl Go.Proofs.Try.prog Go.AI.hintsS T (50 : Nat) [Bool.true, Bool.true, Bool.true, Bool.true, Bool.true, Bool.true, Bool.true, Bool.true, Bool.true, Bool.true, Bool.false, Bool.true, Bool.false] [] K X
  [((0 : Nat), Option.some (Go.Value.pointer (Option.some (Go.Addr.mk x (0 : Nat) Option.none)))), ((7 : Nat), Option.some (Go.Value.slice a k e)), ((13 : Nat), Option.some (Go.Value.int Go.IntKind.i64 i))]
  σ =
  Go.AI.ldc σ (Go.Addr.mk x ((0 : Nat) + (2 : Nat)) Option.none) fun (v0 : Go.Value) ↦
  Go.AI.tL (8 : Nat) v0 fun (s1 : Go.AI.Sl) ↦
  Go.AI.bmatch (Decidable.decide (i < (↑(Go.AI.Sl.n s1) : Int)))
  (Go.AI.ldc σ (Go.Addr.mk x ((0 : Nat) + (2 : Nat)) Option.none) fun (v2 : Go.Value) ↦
  Go.AI.tL (8 : Nat) v2 fun (s3 : Go.AI.Sl) ↦
  Go.AI.req ((0 : Int) ≤ i)
  (Go.AI.req (i < (↑(Go.AI.Sl.n s3) : Int))
  (Go.AI.pSome (Go.AI.Sl.a s3) fun (a4 : Go.Addr) ↦
  Go.AI.ldc σ
  (Go.Addr.mk (Go.Addr.block (Go.Addr.add a4 (Int.toNat i * Go.AI.szOf Go.Proofs.Try.prog (58 : Nat))))
  (Go.Addr.off (Go.Addr.add a4 (Int.toNat i * Go.AI.szOf Go.Proofs.Try.prog (58 : Nat))) + (7 : Nat)) Option.none)
  fun (v5 : Go.Value) ↦
  Go.AI.tI Go.IntKind.i64 v5 fun (n6 : Int) ↦
  T (47 : Nat) [Go.Value.pointer (Option.some (Go.Addr.mk x (0 : Nat) Option.none)), Go.Value.int Go.IntKind.i64 n6] σ fun (v7 : Go.Value) (σ8 : Go.AI.AS) ↦
  Go.AI.tI Go.IntKind.i64 v7 fun (n9 : Int) ↦
  Go.AI.bmatch (Decidable.decide (n9 < (0 : Int)))
  (Go.AI.ldc σ8 (Go.Addr.mk x ((0 : Nat) + (2 : Nat)) Option.none) fun (v10 : Go.Value) ↦
  Go.AI.tL (8 : Nat) v10 fun (s11 : Go.AI.Sl) ↦
  Go.AI.req ((0 : Int) ≤ i)
  (Go.AI.req (i < (↑(Go.AI.Sl.n s11) : Int))
  (Go.AI.pSome (Go.AI.Sl.a s11) fun (a12 : Go.Addr) ↦
  Go.AI.put1 σ8
  (Go.Addr.mk (Go.Addr.block (Go.Addr.add a12 (Int.toNat i * Go.AI.szOf Go.Proofs.Try.prog (58 : Nat))))
  (Go.Addr.off (Go.Addr.add a12 (Int.toNat i * Go.AI.szOf Go.Proofs.Try.prog (58 : Nat))) + (7 : Nat)) Option.none)
  (Go.Value.int Go.IntKind.i64 (0 : Int)) fun (σ13 : Go.AI.AS) ↦
  X
  [((0 : Nat), Option.some (Go.Value.pointer (Option.some (Go.Addr.mk x (0 : Nat) Option.none)))), ((7 : Nat), Option.some (Go.Value.slice a k e)),
  ((13 : Nat), Option.some (Go.Value.int Go.IntKind.i64 (Go.IntKind.wrap Go.IntKind.i64 (i + (1 : Int)))))]
  σ13)))
  (X
  [((0 : Nat), Option.some (Go.Value.pointer (Option.some (Go.Addr.mk x (0 : Nat) Option.none)))), ((7 : Nat), Option.some (Go.Value.slice a k e)),
  ((13 : Nat), Option.some (Go.Value.int Go.IntKind.i64 (Go.IntKind.wrap Go.IntKind.i64 (i + (1 : Int)))))]
  σ8))))
  (K (Go.Value.tuple (Array.mk [Go.Value.slice a k e, Go.Value.int Go.IntKind.i64 (0 : Int)])) σ) := by
  intros
  kernel_rfl

theorem s62 : ∀ (T : Go.AI.Ct) (x : Nat) (n : Int) (σ : Go.AI.AS) (K : Go.Value → Go.AI.AS → Prop),
  Go.AI.fw Go.Proofs.Try.prog Go.AI.hintsS T (62 : Nat) [Go.Value.pointer (Option.some (Go.Addr.mk x (0 : Nat) Option.none)), Go.Value.int Go.IntKind.i64 n] σ K =
  T (47 : Nat) [Go.Value.pointer (Option.some (Go.Addr.mk x (0 : Nat) Option.none)), Go.Value.int Go.IntKind.i64 n] σ fun (v0 : Go.Value) (σ1 : Go.AI.AS) ↦
  Go.AI.tI Go.IntKind.i64 v0 fun (n2 : Int) ↦
  Go.AI.bmatch (Decidable.decide (n2 < (0 : Int))) (K (Go.Value.int Go.IntKind.i64 (5 : Int)) σ1)
  (T (29 : Nat) [Go.Value.pointer (Option.some (Go.Addr.mk x (0 : Nat) Option.none)), Go.Value.int Go.IntKind.i64 n] σ1 fun (v3 : Go.Value) (σ4 : Go.AI.AS) ↦
  Go.AI.tAgg v3 fun (l5 : List Go.Value) ↦
  Go.AI.tCons l5 fun (v6 : Go.Value) (l7 : List Go.Value) ↦
  Go.AI.tI Go.IntKind.i64 v6 fun (n8 : Int) ↦
  Go.AI.tCons l7 fun (v9 : Go.Value) (l10 : List Go.Value) ↦
  Go.AI.tI Go.IntKind.i64 v9 fun (n11 : Int) ↦
  Go.AI.tCons l10 fun (v12 : Go.Value) (l13 : List Go.Value) ↦
  Go.AI.tI Go.IntKind.i64 v12 fun (n14 : Int) ↦
  Go.AI.tCons l13 fun (v15 : Go.Value) (l16 : List Go.Value) ↦
  Go.AI.tI Go.IntKind.i64 v15 fun (n17 : Int) ↦
  Go.AI.tCons l16 fun (v18 : Go.Value) (l19 : List Go.Value) ↦
  Go.AI.tI Go.IntKind.i64 v18 fun (n20 : Int) ↦
  Go.AI.tCons l19 fun (v21 : Go.Value) (l22 : List Go.Value) ↦
  Go.AI.tI Go.IntKind.i64 v21 fun (n23 : Int) ↦
  Go.AI.tCons l22 fun (v24 : Go.Value) (l25 : List Go.Value) ↦
  Go.AI.tI Go.IntKind.u32 v24 fun (n26 : Int) ↦
  Go.AI.tCons l25 fun (v27 : Go.Value) (l28 : List Go.Value) ↦
  Go.AI.tI Go.IntKind.i64 v27 fun (n29 : Int) ↦
  Go.AI.tNil l28 (Go.AI.bmatch (n11 != (4 : Int)) (K (Go.Value.int Go.IntKind.i64 (1 : Int)) σ4) (K (Go.Value.int Go.IntKind.i64 (0 : Int)) σ4))) := by
  intros
  kernel_rfl

theorem s51 : ∀ (T : Go.AI.Ct) (x : Nat) (pair m size key : Int) (σ : Go.AI.AS) (K : Go.Value → Go.AI.AS → Prop),
  Go.AI.fw Go.Proofs.Try.prog Go.AI.hintsS T (51 : Nat)
  [Go.Value.pointer (Option.some (Go.Addr.mk x (0 : Nat) Option.none)), Go.Value.int Go.IntKind.i64 pair, Go.Value.int Go.IntKind.i64 m, Go.Value.int Go.IntKind.u32 size, Go.Value.int Go.IntKind.i64 key]
  σ K =
  T (62 : Nat) [Go.Value.pointer (Option.some (Go.Addr.mk x (0 : Nat) Option.none)), Go.Value.int Go.IntKind.i64 pair] σ fun (v0 : Go.Value) (σ1 : Go.AI.AS) ↦
  Go.AI.tI Go.IntKind.i64 v0 fun (n2 : Int) ↦
  Go.AI.bmatch (n2 != (0 : Int)) (K (Go.Value.int Go.IntKind.i64 n2) σ1)
  (T (63 : Nat) [Go.Value.int Go.IntKind.i64 m] σ1 fun (v3 : Go.Value) (σ4 : Go.AI.AS) ↦
  Go.AI.tB v3 fun (b5 : Bool) ↦
  Go.AI.bmatch (!b5) (K (Go.Value.int Go.IntKind.i64 (1 : Int)) σ4)
  (T (64 : Nat) [Go.Value.int Go.IntKind.i64 m] σ4 fun (v6 : Go.Value) (σ7 : Go.AI.AS) ↦
  Go.AI.tB v6 fun (b8 : Bool) ↦
  T (29 : Nat) [Go.Value.pointer (Option.some (Go.Addr.mk x (0 : Nat) Option.none)), Go.Value.int Go.IntKind.i64 pair] σ7 fun (v9 : Go.Value) (σ10 : Go.AI.AS) ↦
  Go.AI.tAgg v9 fun (l11 : List Go.Value) ↦
  Go.AI.tCons l11 fun (v12 : Go.Value) (l13 : List Go.Value) ↦
  Go.AI.tI Go.IntKind.i64 v12 fun (n14 : Int) ↦
  Go.AI.tCons l13 fun (v15 : Go.Value) (l16 : List Go.Value) ↦
  Go.AI.tI Go.IntKind.i64 v15 fun (n17 : Int) ↦
  Go.AI.tCons l16 fun (v18 : Go.Value) (l19 : List Go.Value) ↦
  Go.AI.tI Go.IntKind.i64 v18 fun (n20 : Int) ↦
  Go.AI.tCons l19 fun (v21 : Go.Value) (l22 : List Go.Value) ↦
  Go.AI.tI Go.IntKind.i64 v21 fun (n23 : Int) ↦
  Go.AI.tCons l22 fun (v24 : Go.Value) (l25 : List Go.Value) ↦
  Go.AI.tI Go.IntKind.i64 v24 fun (n26 : Int) ↦
  Go.AI.tCons l25 fun (v27 : Go.Value) (l28 : List Go.Value) ↦
  Go.AI.tI Go.IntKind.i64 v27 fun (n29 : Int) ↦
  Go.AI.tCons l28 fun (v30 : Go.Value) (l31 : List Go.Value) ↦
  Go.AI.tI Go.IntKind.u32 v30 fun (n32 : Int) ↦
  Go.AI.tCons l31 fun (v33 : Go.Value) (l34 : List Go.Value) ↦
  Go.AI.tI Go.IntKind.i64 v33 fun (n35 : Int) ↦
  Go.AI.tNil l34
  (T (64 : Nat) [Go.Value.int Go.IntKind.i64 n29] σ10 fun (v36 : Go.Value) (σ37 : Go.AI.AS) ↦
  Go.AI.tB v36 fun (b38 : Bool) ↦
  Go.AI.bmatch (!b8 == b38) (K (Go.Value.int Go.IntKind.i64 (1 : Int)) σ37)
  (Go.AI.bmatch (key != (0 : Int))
  (T (47 : Nat) [Go.Value.pointer (Option.some (Go.Addr.mk x (0 : Nat) Option.none)), Go.Value.int Go.IntKind.i64 key] σ37
  fun (v39 : Go.Value) (σ40 : Go.AI.AS) ↦
  Go.AI.tI Go.IntKind.i64 v39 fun (n41 : Int) ↦
  Go.AI.bmatch (Decidable.decide (n41 < (0 : Int))) (K (Go.Value.int Go.IntKind.i64 (1 : Int)) σ40)
  (T (29 : Nat) [Go.Value.pointer (Option.some (Go.Addr.mk x (0 : Nat) Option.none)), Go.Value.int Go.IntKind.i64 key] σ40
  fun (v42 : Go.Value) (σ43 : Go.AI.AS) ↦
  Go.AI.tAgg v42 fun (l44 : List Go.Value) ↦
  Go.AI.tCons l44 fun (v45 : Go.Value) (l46 : List Go.Value) ↦
  Go.AI.tI Go.IntKind.i64 v45 fun (n47 : Int) ↦
  Go.AI.tCons l46 fun (v48 : Go.Value) (l49 : List Go.Value) ↦
  Go.AI.tI Go.IntKind.i64 v48 fun (n50 : Int) ↦
  Go.AI.tCons l49 fun (v51 : Go.Value) (l52 : List Go.Value) ↦
  Go.AI.tI Go.IntKind.i64 v51 fun (n53 : Int) ↦
  Go.AI.tCons l52 fun (v54 : Go.Value) (l55 : List Go.Value) ↦
  Go.AI.tI Go.IntKind.i64 v54 fun (n56 : Int) ↦
  Go.AI.tCons l55 fun (v57 : Go.Value) (l58 : List Go.Value) ↦
  Go.AI.tI Go.IntKind.i64 v57 fun (n59 : Int) ↦
  Go.AI.tCons l58 fun (v60 : Go.Value) (l61 : List Go.Value) ↦
  Go.AI.tI Go.IntKind.i64 v60 fun (n62 : Int) ↦
  Go.AI.tCons l61 fun (v63 : Go.Value) (l64 : List Go.Value) ↦
  Go.AI.tI Go.IntKind.u32 v63 fun (n65 : Int) ↦
  Go.AI.tCons l64 fun (v66 : Go.Value) (l67 : List Go.Value) ↦
  Go.AI.tI Go.IntKind.i64 v66 fun (n68 : Int) ↦
  Go.AI.tNil l67
  (Go.AI.bmatch (n50 == (4 : Int)) (K (Go.Value.int Go.IntKind.i64 (1 : Int)) σ43)
  (T (25 : Nat)
  [Go.Value.pointer (Option.some (Go.Addr.mk x (0 : Nat) Option.none)), Go.Value.int Go.IntKind.i64 key,
  Go.Value.int Go.IntKind.i64 pair]
  σ43 fun (v69 : Go.Value) (σ70 : Go.AI.AS) ↦
  Go.AI.tB v69 fun (b71 : Bool) ↦
  Go.AI.bmatch (!b71) (K (Go.Value.int Go.IntKind.i64 (1 : Int)) σ70)
  (T (47 : Nat)
  [Go.Value.pointer (Option.some (Go.Addr.mk x (0 : Nat) Option.none)),
  Go.Value.int Go.IntKind.i64 pair]
  σ70 fun (v72 : Go.Value) (σ73 : Go.AI.AS) ↦
  Go.AI.tI Go.IntKind.i64 v72 fun (n74 : Int) ↦
  Go.AI.ldc σ73 (Go.Addr.mk x ((0 : Nat) + (2 : Nat)) Option.none) fun (v75 : Go.Value) ↦
  Go.AI.tL (8 : Nat) v75 fun (s76 : Go.AI.Sl) ↦
  Go.AI.ldc σ73 (Go.Addr.mk x ((0 : Nat) + (2 : Nat)) Option.none) fun (v77 : Go.Value) ↦
  Go.AI.tL (8 : Nat) v77 fun (s78 : Go.AI.Sl) ↦
  Go.AI.req ((0 : Int) ≤ n74)
  (Go.AI.req (n74 < (↑(Go.AI.Sl.n s76) : Int))
  (Go.AI.pSome (Go.AI.Sl.a s76) fun (a79 : Go.Addr) ↦
  Go.AI.put1 σ73
  (Go.Addr.mk
  (Go.Addr.block
  (Go.Addr.add a79 (Int.toNat n74 * Go.AI.szOf Go.Proofs.Try.prog (58 : Nat))))
  (Go.Addr.off
  (Go.Addr.add a79
  (Int.toNat n74 * Go.AI.szOf Go.Proofs.Try.prog (58 : Nat))) +
  (5 : Nat))
  Option.none)
  (Go.Value.int Go.IntKind.i64 m) fun (σ80 : Go.AI.AS) ↦
  Go.AI.req ((0 : Int) ≤ n74)
  (Go.AI.req (n74 < (↑(Go.AI.Sl.n s78) : Int))
  (Go.AI.pSome (Go.AI.Sl.a s78) fun (a81 : Go.Addr) ↦
  Go.AI.put1 σ80
  (Go.Addr.mk
  (Go.Addr.block
  (Go.Addr.add a81
  (Int.toNat n74 * Go.AI.szOf Go.Proofs.Try.prog (58 : Nat))))
  (Go.Addr.off
  (Go.Addr.add a81
  (Int.toNat n74 * Go.AI.szOf Go.Proofs.Try.prog (58 : Nat))) +
  (6 : Nat))
  Option.none)
  (Go.Value.int Go.IntKind.u32 size) fun (σ82 : Go.AI.AS) ↦
  Go.AI.bmatch (key != (0 : Int))
  (Go.AI.ldc σ82 (Go.Addr.mk x ((0 : Nat) + (2 : Nat)) Option.none)
  fun (v83 : Go.Value) ↦
  Go.AI.tL (8 : Nat) v83 fun (s84 : Go.AI.Sl) ↦
  Go.AI.req ((0 : Int) ≤ n74)
  (Go.AI.req (n74 < (↑(Go.AI.Sl.n s84) : Int))
  (Go.AI.pSome (Go.AI.Sl.a s84) fun (a85 : Go.Addr) ↦
  Go.AI.put1 σ82
  (Go.Addr.mk
  (Go.Addr.block
  (Go.Addr.add a85
  (Int.toNat n74 *
  Go.AI.szOf Go.Proofs.Try.prog (58 : Nat))))
  (Go.Addr.off
  (Go.Addr.add a85
  (Int.toNat n74 *
  Go.AI.szOf Go.Proofs.Try.prog (58 : Nat))) +
  (7 : Nat))
  Option.none)
  (Go.Value.int Go.IntKind.i64 key) fun (σ86 : Go.AI.AS) ↦
  K (Go.Value.int Go.IntKind.i64 (0 : Int)) σ86)))
  (K (Go.Value.int Go.IntKind.i64 (0 : Int)) σ82))))))))))
  (T (47 : Nat) [Go.Value.pointer (Option.some (Go.Addr.mk x (0 : Nat) Option.none)), Go.Value.int Go.IntKind.i64 pair] σ37
  fun (v87 : Go.Value) (σ88 : Go.AI.AS) ↦
  Go.AI.tI Go.IntKind.i64 v87 fun (n89 : Int) ↦
  Go.AI.ldc σ88 (Go.Addr.mk x ((0 : Nat) + (2 : Nat)) Option.none) fun (v90 : Go.Value) ↦
  Go.AI.tL (8 : Nat) v90 fun (s91 : Go.AI.Sl) ↦
  Go.AI.ldc σ88 (Go.Addr.mk x ((0 : Nat) + (2 : Nat)) Option.none) fun (v92 : Go.Value) ↦
  Go.AI.tL (8 : Nat) v92 fun (s93 : Go.AI.Sl) ↦
  Go.AI.req ((0 : Int) ≤ n89)
  (Go.AI.req (n89 < (↑(Go.AI.Sl.n s91) : Int))
  (Go.AI.pSome (Go.AI.Sl.a s91) fun (a94 : Go.Addr) ↦
  Go.AI.put1 σ88
  (Go.Addr.mk (Go.Addr.block (Go.Addr.add a94 (Int.toNat n89 * Go.AI.szOf Go.Proofs.Try.prog (58 : Nat))))
  (Go.Addr.off (Go.Addr.add a94 (Int.toNat n89 * Go.AI.szOf Go.Proofs.Try.prog (58 : Nat))) + (5 : Nat)) Option.none)
  (Go.Value.int Go.IntKind.i64 m) fun (σ95 : Go.AI.AS) ↦
  Go.AI.req ((0 : Int) ≤ n89)
  (Go.AI.req (n89 < (↑(Go.AI.Sl.n s93) : Int))
  (Go.AI.pSome (Go.AI.Sl.a s93) fun (a96 : Go.Addr) ↦
  Go.AI.put1 σ95
  (Go.Addr.mk (Go.Addr.block (Go.Addr.add a96 (Int.toNat n89 * Go.AI.szOf Go.Proofs.Try.prog (58 : Nat))))
  (Go.Addr.off (Go.Addr.add a96 (Int.toNat n89 * Go.AI.szOf Go.Proofs.Try.prog (58 : Nat))) + (6 : Nat)) Option.none)
  (Go.Value.int Go.IntKind.u32 size) fun (σ97 : Go.AI.AS) ↦
  Go.AI.bmatch (key != (0 : Int))
  (Go.AI.ldc σ97 (Go.Addr.mk x ((0 : Nat) + (2 : Nat)) Option.none) fun (v98 : Go.Value) ↦
  Go.AI.tL (8 : Nat) v98 fun (s99 : Go.AI.Sl) ↦
  Go.AI.req ((0 : Int) ≤ n89)
  (Go.AI.req (n89 < (↑(Go.AI.Sl.n s99) : Int))
  (Go.AI.pSome (Go.AI.Sl.a s99) fun (a100 : Go.Addr) ↦
  Go.AI.put1 σ97
  (Go.Addr.mk (Go.Addr.block (Go.Addr.add a100 (Int.toNat n89 * Go.AI.szOf Go.Proofs.Try.prog (58 : Nat))))
  (Go.Addr.off (Go.Addr.add a100 (Int.toNat n89 * Go.AI.szOf Go.Proofs.Try.prog (58 : Nat))) + (7 : Nat))
  Option.none)
  (Go.Value.int Go.IntKind.i64 key) fun (σ101 : Go.AI.AS) ↦ K (Go.Value.int Go.IntKind.i64 (0 : Int)) σ101)))
  (K (Go.Value.int Go.IntKind.i64 (0 : Int)) σ97)))))))))) := by
  intros
  kernel_rfl

theorem s52 : ∀ (T : Go.AI.Ct) (x : Nat) (w h : Int) (σ : Go.AI.AS) (K : Go.Value → Go.AI.AS → Prop),
  Go.AI.fw Go.Proofs.Try.prog Go.AI.hintsS T (52 : Nat) [Go.Value.pointer (Option.some (Go.Addr.mk x (0 : Nat) Option.none)), Go.Value.int Go.IntKind.i64 w, Go.Value.int Go.IntKind.i64 h] σ K =
  Go.AI.bmatch (Decidable.decide (w < (0 : Int))) (K (Go.Value.int Go.IntKind.i64 (1 : Int)) σ)
  (Go.AI.bmatch (Decidable.decide (w > (1000 : Int))) (K (Go.Value.int Go.IntKind.i64 (1 : Int)) σ)
  (Go.AI.bmatch (Decidable.decide (h < (0 : Int))) (K (Go.Value.int Go.IntKind.i64 (1 : Int)) σ)
  (Go.AI.bmatch (Decidable.decide (h > (1000 : Int))) (K (Go.Value.int Go.IntKind.i64 (1 : Int)) σ)
  (Go.AI.put1 σ (Go.Addr.mk x (0 : Nat) Option.none) (Go.Value.int Go.IntKind.i64 w) fun (σ0 : Go.AI.AS) ↦
  Go.AI.put1 σ0 (Go.Addr.mk x ((0 : Nat) + (1 : Nat)) Option.none) (Go.Value.int Go.IntKind.i64 h) fun (σ1 : Go.AI.AS) ↦ K (Go.Value.int Go.IntKind.i64 (0 : Int)) σ1)))) := by
  intros
  kernel_rfl

theorem s78 : ∀ (T : Go.AI.Ct) (x : Nat) (p0_1 p1_1 p2_1 p3_1 p4_1 p5_1 p6_1 p7_1 n : Int) (σ : Go.AI.AS) (K : Go.Value → Go.AI.AS → Prop),
  Go.AI.fw Go.Proofs.Try.prog Go.AI.hintsS T (78 : Nat)
  [Go.Value.pointer (Option.some (Go.Addr.mk x (0 : Nat) Option.none)),
  Go.Value.agg
  (Array.mk
  [Go.Value.int Go.IntKind.i64 p0_1, Go.Value.int Go.IntKind.i64 p1_1, Go.Value.int Go.IntKind.i64 p2_1, Go.Value.int Go.IntKind.i64 p3_1, Go.Value.int Go.IntKind.i64 p4_1, Go.Value.int Go.IntKind.i64 p5_1,
  Go.Value.int Go.IntKind.u32 p6_1, Go.Value.int Go.IntKind.i64 p7_1]),
  Go.Value.int Go.IntKind.i64 n]
  σ K =
  Go.AI.newAt σ
  (Go.AI.AObj.row Go.AI.RK.plain
  [Go.Value.int Go.IntKind.i64 p0_1, Go.Value.int Go.IntKind.i64 p1_1, Go.Value.int Go.IntKind.i64 p2_1, Go.Value.int Go.IntKind.i64 p3_1, Go.Value.int Go.IntKind.i64 p4_1, Go.Value.int Go.IntKind.i64 p5_1,
  Go.Value.int Go.IntKind.u32 p6_1, Go.Value.int Go.IntKind.i64 p7_1])
  fun (i0 : Nat) (σ1 : Go.AI.AS) ↦
  Go.AI.ldc σ1 (Go.Addr.mk i0 ((0 : Nat) + (6 : Nat)) Option.none) fun (v2 : Go.Value) ↦
  Go.AI.tI Go.IntKind.u32 v2 fun (n3 : Int) ↦
  Go.AI.ldc σ1 (Go.Addr.mk i0 ((0 : Nat) + (5 : Nat)) Option.none) fun (v4 : Go.Value) ↦
  Go.AI.tI Go.IntKind.i64 v4 fun (n5 : Int) ↦
  Go.AI.bmatch (Decidable.decide (n5 ≥ (32 : Int)))
  (Go.AI.bmatch (Decidable.decide (Go.IntKind.wrap Go.IntKind.i64 (Int.tdiv (Go.IntKind.wrap Go.IntKind.i64 (n * Go.IntKind.wrap Go.IntKind.i64 n3)) (100 : Int)) > n))
  (K (Go.Value.int Go.IntKind.i64 n) σ1)
  (K (Go.Value.int Go.IntKind.i64 (Go.IntKind.wrap Go.IntKind.i64 (Int.tdiv (Go.IntKind.wrap Go.IntKind.i64 (n * Go.IntKind.wrap Go.IntKind.i64 n3)) (100 : Int)))) σ1))
  (Go.AI.ldc σ1 (Go.Addr.mk i0 ((0 : Nat) + (7 : Nat)) Option.none) fun (v6 : Go.Value) ↦
  Go.AI.tI Go.IntKind.i64 v6 fun (n7 : Int) ↦
  Go.AI.bmatch (n7 == (0 : Int)) (Go.AI.bmatch (Decidable.decide ((0 : Int) > n)) (K (Go.Value.int Go.IntKind.i64 n) σ1) (K (Go.Value.int Go.IntKind.i64 (0 : Int)) σ1))
  (Go.AI.ldc σ1 (Go.Addr.mk i0 ((0 : Nat) + (7 : Nat)) Option.none) fun (v8 : Go.Value) ↦
  Go.AI.tI Go.IntKind.i64 v8 fun (n9 : Int) ↦
  T (29 : Nat) [Go.Value.pointer (Option.some (Go.Addr.mk x (0 : Nat) Option.none)), Go.Value.int Go.IntKind.i64 n9] σ1 fun (v10 : Go.Value) (σ11 : Go.AI.AS) ↦
  Go.AI.tAgg v10 fun (l12 : List Go.Value) ↦
  Go.AI.tCons l12 fun (v13 : Go.Value) (l14 : List Go.Value) ↦
  Go.AI.tI Go.IntKind.i64 v13 fun (n15 : Int) ↦
  Go.AI.tCons l14 fun (v16 : Go.Value) (l17 : List Go.Value) ↦
  Go.AI.tI Go.IntKind.i64 v16 fun (n18 : Int) ↦
  Go.AI.tCons l17 fun (v19 : Go.Value) (l20 : List Go.Value) ↦
  Go.AI.tI Go.IntKind.i64 v19 fun (n21 : Int) ↦
  Go.AI.tCons l20 fun (v22 : Go.Value) (l23 : List Go.Value) ↦
  Go.AI.tI Go.IntKind.i64 v22 fun (n24 : Int) ↦
  Go.AI.tCons l23 fun (v25 : Go.Value) (l26 : List Go.Value) ↦
  Go.AI.tI Go.IntKind.i64 v25 fun (n27 : Int) ↦
  Go.AI.tCons l26 fun (v28 : Go.Value) (l29 : List Go.Value) ↦
  Go.AI.tI Go.IntKind.i64 v28 fun (n30 : Int) ↦
  Go.AI.tCons l29 fun (v31 : Go.Value) (l32 : List Go.Value) ↦
  Go.AI.tI Go.IntKind.u32 v31 fun (n33 : Int) ↦
  Go.AI.tCons l32 fun (v34 : Go.Value) (l35 : List Go.Value) ↦
  Go.AI.tI Go.IntKind.i64 v34 fun (n36 : Int) ↦
  Go.AI.tNil l35
  (Go.AI.bmatch (n18 == (1 : Int))
  (Go.AI.bmatch (Decidable.decide ((0 : Int) > n)) (K (Go.Value.int Go.IntKind.i64 n) σ11) (K (Go.Value.int Go.IntKind.i64 (0 : Int)) σ11))
  (Go.AI.bmatch (Decidable.decide (Go.IntKind.wrap Go.IntKind.i64 n3 > n)) (K (Go.Value.int Go.IntKind.i64 n) σ11)
  (K (Go.Value.int Go.IntKind.i64 (Go.IntKind.wrap Go.IntKind.i64 n3)) σ11))))) := by
  intros
  kernel_rfl

theorem s65 : ∀ (T : Go.AI.Ct) (x : Nat) (n : Int) (σ : Go.AI.AS) (K : Go.Value → Go.AI.AS → Prop),
  Go.AI.fw Go.Proofs.Try.prog Go.AI.hintsS T (65 : Nat) [Go.Value.pointer (Option.some (Go.Addr.mk x (0 : Nat) Option.none)), Go.Value.int Go.IntKind.i64 n] σ K =
  Go.AI.newAt σ (Go.AI.AObj.row Go.AI.RK.plain [Go.Value.int Go.IntKind.i64 (0 : Int), Go.Value.int Go.IntKind.i64 (0 : Int), Go.Value.int Go.IntKind.i64 (0 : Int), Go.Value.int Go.IntKind.i64 (0 : Int)])
  fun (i0 : Nat) (σ1 : Go.AI.AS) ↦
  T (47 : Nat) [Go.Value.pointer (Option.some (Go.Addr.mk x (0 : Nat) Option.none)), Go.Value.int Go.IntKind.i64 n] σ1 fun (v2 : Go.Value) (σ3 : Go.AI.AS) ↦
  Go.AI.tI Go.IntKind.i64 v2 fun (n4 : Int) ↦
  Go.AI.bmatch (Decidable.decide (n4 < (0 : Int)))
  (Go.AI.puts σ3 (Go.Addr.mk i0 (0 : Nat) Option.none)
  [Go.Value.int Go.IntKind.i64 (0 : Int), Go.Value.int Go.IntKind.i64 (0 : Int), Go.Value.int Go.IntKind.i64 (0 : Int), Go.Value.int Go.IntKind.i64 (0 : Int)] fun (σ5 : Go.AI.AS) ↦
  Go.AI.lds σ5 (Go.Addr.mk i0 (0 : Nat) Option.none) (4 : Nat) fun (l6 : List Go.Value) ↦
  Go.AI.tCons l6 fun (v7 : Go.Value) (l8 : List Go.Value) ↦
  Go.AI.tI Go.IntKind.i64 v7 fun (n9 : Int) ↦
  Go.AI.tCons l8 fun (v10 : Go.Value) (l11 : List Go.Value) ↦
  Go.AI.tI Go.IntKind.i64 v10 fun (n12 : Int) ↦
  Go.AI.tCons l11 fun (v13 : Go.Value) (l14 : List Go.Value) ↦
  Go.AI.tI Go.IntKind.i64 v13 fun (n15 : Int) ↦
  Go.AI.tCons l14 fun (v16 : Go.Value) (l17 : List Go.Value) ↦
  Go.AI.tI Go.IntKind.i64 v16 fun (n18 : Int) ↦
  Go.AI.tNil l17
  (K
  (Go.Value.tuple
  (Array.mk
  [Go.Value.agg (Array.mk [Go.Value.int Go.IntKind.i64 n9, Go.Value.int Go.IntKind.i64 n12, Go.Value.int Go.IntKind.i64 n15, Go.Value.int Go.IntKind.i64 n18]),
  Go.Value.bool Bool.false]))
  σ5))
  (T (29 : Nat) [Go.Value.pointer (Option.some (Go.Addr.mk x (0 : Nat) Option.none)), Go.Value.int Go.IntKind.i64 n] σ3 fun (v19 : Go.Value) (σ20 : Go.AI.AS) ↦
  Go.AI.tAgg v19 fun (l21 : List Go.Value) ↦
  Go.AI.tCons l21 fun (v22 : Go.Value) (l23 : List Go.Value) ↦
  Go.AI.tI Go.IntKind.i64 v22 fun (n24 : Int) ↦
  Go.AI.tCons l23 fun (v25 : Go.Value) (l26 : List Go.Value) ↦
  Go.AI.tI Go.IntKind.i64 v25 fun (n27 : Int) ↦
  Go.AI.tCons l26 fun (v28 : Go.Value) (l29 : List Go.Value) ↦
  Go.AI.tI Go.IntKind.i64 v28 fun (n30 : Int) ↦
  Go.AI.tCons l29 fun (v31 : Go.Value) (l32 : List Go.Value) ↦
  Go.AI.tI Go.IntKind.i64 v31 fun (n33 : Int) ↦
  Go.AI.tCons l32 fun (v34 : Go.Value) (l35 : List Go.Value) ↦
  Go.AI.tI Go.IntKind.i64 v34 fun (n36 : Int) ↦
  Go.AI.tCons l35 fun (v37 : Go.Value) (l38 : List Go.Value) ↦
  Go.AI.tI Go.IntKind.i64 v37 fun (n39 : Int) ↦
  Go.AI.tCons l38 fun (v40 : Go.Value) (l41 : List Go.Value) ↦
  Go.AI.tI Go.IntKind.u32 v40 fun (n42 : Int) ↦
  Go.AI.tCons l41 fun (v43 : Go.Value) (l44 : List Go.Value) ↦
  Go.AI.tI Go.IntKind.i64 v43 fun (n45 : Int) ↦
  Go.AI.tNil l44
  (T (29 : Nat) [Go.Value.pointer (Option.some (Go.Addr.mk x (0 : Nat) Option.none)), Go.Value.int Go.IntKind.i64 n30] σ20 fun (v46 : Go.Value) (σ47 : Go.AI.AS) ↦
  Go.AI.tAgg v46 fun (l48 : List Go.Value) ↦
  Go.AI.tCons l48 fun (v49 : Go.Value) (l50 : List Go.Value) ↦
  Go.AI.tI Go.IntKind.i64 v49 fun (n51 : Int) ↦
  Go.AI.tCons l50 fun (v52 : Go.Value) (l53 : List Go.Value) ↦
  Go.AI.tI Go.IntKind.i64 v52 fun (n54 : Int) ↦
  Go.AI.tCons l53 fun (v55 : Go.Value) (l56 : List Go.Value) ↦
  Go.AI.tI Go.IntKind.i64 v55 fun (n57 : Int) ↦
  Go.AI.tCons l56 fun (v58 : Go.Value) (l59 : List Go.Value) ↦
  Go.AI.tI Go.IntKind.i64 v58 fun (n60 : Int) ↦
  Go.AI.tCons l59 fun (v61 : Go.Value) (l62 : List Go.Value) ↦
  Go.AI.tI Go.IntKind.i64 v61 fun (n63 : Int) ↦
  Go.AI.tCons l62 fun (v64 : Go.Value) (l65 : List Go.Value) ↦
  Go.AI.tI Go.IntKind.i64 v64 fun (n66 : Int) ↦
  Go.AI.tCons l65 fun (v67 : Go.Value) (l68 : List Go.Value) ↦
  Go.AI.tI Go.IntKind.u32 v67 fun (n69 : Int) ↦
  Go.AI.tCons l68 fun (v70 : Go.Value) (l71 : List Go.Value) ↦
  Go.AI.tI Go.IntKind.i64 v70 fun (n72 : Int) ↦
  Go.AI.tNil l71
  (Go.AI.newAt σ47
  (Go.AI.AObj.row Go.AI.RK.plain
  [Go.Value.int Go.IntKind.i64 (0 : Int), Go.Value.int Go.IntKind.i64 (0 : Int), Go.Value.int Go.IntKind.i64 (0 : Int),
  Go.Value.int Go.IntKind.i64 (0 : Int), Go.Value.int Go.IntKind.i64 (0 : Int), Go.Value.int Go.IntKind.i64 (0 : Int),
  Go.Value.int Go.IntKind.u32 (0 : Int), Go.Value.int Go.IntKind.i64 (0 : Int)])
  fun (i73 : Nat) (σ74 : Go.AI.AS) ↦
  Go.AI.puts σ74 (Go.Addr.mk i73 (0 : Nat) Option.none)
  [Go.Value.int Go.IntKind.i64 n51, Go.Value.int Go.IntKind.i64 n54, Go.Value.int Go.IntKind.i64 n57,
  Go.Value.int Go.IntKind.i64 n60, Go.Value.int Go.IntKind.i64 n63, Go.Value.int Go.IntKind.i64 n66,
  Go.Value.int Go.IntKind.u32 n69, Go.Value.int Go.IntKind.i64 n72]
  fun (σ75 : Go.AI.AS) ↦
  Go.AI.ldc σ75 (Go.Addr.mk i73 (0 : Nat) Option.none) fun (v76 : Go.Value) ↦
  Go.AI.tI Go.IntKind.i64 v76 fun (n77 : Int) ↦
  Go.AI.bmatch (n77 == (0 : Int))
  (Go.AI.ldc σ75 (Go.Addr.mk x (0 : Nat) Option.none) fun (v78 : Go.Value) ↦
  Go.AI.tI Go.IntKind.i64 v78 fun (n79 : Int) ↦
  Go.AI.ldc σ75 (Go.Addr.mk x ((0 : Nat) + (1 : Nat)) Option.none) fun (v80 : Go.Value) ↦
  Go.AI.tI Go.IntKind.i64 v80 fun (n81 : Int) ↦
  Go.AI.puts σ75 (Go.Addr.mk i0 (0 : Nat) Option.none)
  [Go.Value.int Go.IntKind.i64 (0 : Int), Go.Value.int Go.IntKind.i64 (0 : Int), Go.Value.int Go.IntKind.i64 n79,
  Go.Value.int Go.IntKind.i64 n81]
  fun (σ82 : Go.AI.AS) ↦
  Go.AI.lds σ82 (Go.Addr.mk i0 (0 : Nat) Option.none) (4 : Nat) fun (l83 : List Go.Value) ↦
  Go.AI.tCons l83 fun (v84 : Go.Value) (l85 : List Go.Value) ↦
  Go.AI.tI Go.IntKind.i64 v84 fun (n86 : Int) ↦
  Go.AI.tCons l85 fun (v87 : Go.Value) (l88 : List Go.Value) ↦
  Go.AI.tI Go.IntKind.i64 v87 fun (n89 : Int) ↦
  Go.AI.tCons l88 fun (v90 : Go.Value) (l91 : List Go.Value) ↦
  Go.AI.tI Go.IntKind.i64 v90 fun (n92 : Int) ↦
  Go.AI.tCons l91 fun (v93 : Go.Value) (l94 : List Go.Value) ↦
  Go.AI.tI Go.IntKind.i64 v93 fun (n95 : Int) ↦
  Go.AI.tNil l94
  (K
  (Go.Value.tuple
  (Array.mk
  [Go.Value.agg
  (Array.mk
  [Go.Value.int Go.IntKind.i64 n86, Go.Value.int Go.IntKind.i64 n89,
  Go.Value.int Go.IntKind.i64 n92, Go.Value.int Go.IntKind.i64 n95]),
  Go.Value.bool Bool.true]))
  σ82))
  (Go.AI.ldc σ75 (Go.Addr.mk i73 (0 : Nat) Option.none) fun (v96 : Go.Value) ↦
  Go.AI.tI Go.IntKind.i64 v96 fun (n97 : Int) ↦
  T (65 : Nat)
  [Go.Value.pointer (Option.some (Go.Addr.mk x (0 : Nat) Option.none)), Go.Value.int Go.IntKind.i64 n97] σ75
  fun (v98 : Go.Value) (σ99 : Go.AI.AS) ↦
  Go.AI.tTup v98 fun (l100 : List Go.Value) ↦
  Go.AI.pSome l100[(0 : Nat)]? fun (u101 : Go.Value) ↦
  Go.AI.tAgg u101 fun (l102 : List Go.Value) ↦
  Go.AI.tCons l102 fun (v103 : Go.Value) (l104 : List Go.Value) ↦
  Go.AI.tI Go.IntKind.i64 v103 fun (n105 : Int) ↦
  Go.AI.tCons l104 fun (v106 : Go.Value) (l107 : List Go.Value) ↦
  Go.AI.tI Go.IntKind.i64 v106 fun (n108 : Int) ↦
  Go.AI.tCons l107 fun (v109 : Go.Value) (l110 : List Go.Value) ↦
  Go.AI.tI Go.IntKind.i64 v109 fun (n111 : Int) ↦
  Go.AI.tCons l110 fun (v112 : Go.Value) (l113 : List Go.Value) ↦
  Go.AI.tI Go.IntKind.i64 v112 fun (n114 : Int) ↦
  Go.AI.tNil l113
  (Go.AI.tTup v98 fun (l115 : List Go.Value) ↦
  Go.AI.pSome l115[(1 : Nat)]? fun (u116 : Go.Value) ↦
  Go.AI.tB u116 fun (b117 : Bool) ↦
  Go.AI.newAt σ99
  (Go.AI.AObj.row Go.AI.RK.plain
  [Go.Value.int Go.IntKind.i64 (0 : Int), Go.Value.int Go.IntKind.i64 (0 : Int),
  Go.Value.int Go.IntKind.i64 (0 : Int), Go.Value.int Go.IntKind.i64 (0 : Int)])
  fun (i118 : Nat) (σ119 : Go.AI.AS) ↦
  Go.AI.puts σ119 (Go.Addr.mk i118 (0 : Nat) Option.none)
  [Go.Value.int Go.IntKind.i64 n105, Go.Value.int Go.IntKind.i64 n108,
  Go.Value.int Go.IntKind.i64 n111, Go.Value.int Go.IntKind.i64 n114]
  fun (σ120 : Go.AI.AS) ↦
  Go.AI.ldc σ120 (Go.Addr.mk i118 ((0 : Nat) + (3 : Nat)) Option.none)
  fun (v121 : Go.Value) ↦
  Go.AI.tI Go.IntKind.i64 v121 fun (n122 : Int) ↦
  Go.AI.ldc σ120 (Go.Addr.mk i73 ((0 : Nat) + (5 : Nat)) Option.none)
  fun (v123 : Go.Value) ↦
  Go.AI.tI Go.IntKind.i64 v123 fun (n124 : Int) ↦
  T (64 : Nat) [Go.Value.int Go.IntKind.i64 n124] σ120
  fun (v125 : Go.Value) (σ126 : Go.AI.AS) ↦
  Go.AI.tB v125 fun (b127 : Bool) ↦
  Go.AI.bmatch b127
  (Go.AI.ldc σ126
  (Go.Addr.mk i118 ((0 : Nat) + (2 : Nat)) Option.none)
  fun (v128 : Go.Value) ↦
  Go.AI.tI Go.IntKind.i64 v128 fun (n129 : Int) ↦
  Go.AI.JoinS
  (Go.AI.jn Go.Proofs.Try.prog Go.AI.hintsS T (65 : Nat)
  [Bool.true, Bool.true, Bool.true, Bool.true, Bool.true,
  Bool.true]
  [] K)
  [((0 : Nat),
  Option.some
  (Go.Value.pointer
  (Option.some
  (Go.Addr.mk x (0 : Nat) Option.none)))),
  ((1 : Nat), Option.some (Go.Value.int Go.IntKind.i64 n)),
  ((4 : Nat),
  Option.some
  (Go.Value.pointer
  (Option.some (Go.Addr.mk i0 (0 : Nat) Option.none)))),
  ((6 : Nat),
  Option.some
  (Go.Value.pointer
  (Option.some
  (Go.Addr.mk i73 (0 : Nat) Option.none)))),
  ((7 : Nat),
  Option.some
  (Go.Value.pointer
  (Option.some
  (Go.Addr.mk i118 (0 : Nat) Option.none)))),
  ((9 : Nat), Option.some (Go.Value.int Go.IntKind.i64 n129))]
  σ126)
  (Go.AI.JoinS
  (Go.AI.jn Go.Proofs.Try.prog Go.AI.hintsS T (65 : Nat)
  [Bool.true, Bool.true, Bool.true, Bool.true, Bool.true,
  Bool.true]
  [] K)
  [((0 : Nat),
  Option.some
  (Go.Value.pointer
  (Option.some (Go.Addr.mk x (0 : Nat) Option.none)))),
  ((1 : Nat), Option.some (Go.Value.int Go.IntKind.i64 n)),
  ((4 : Nat),
  Option.some
  (Go.Value.pointer
  (Option.some (Go.Addr.mk i0 (0 : Nat) Option.none)))),
  ((6 : Nat),
  Option.some
  (Go.Value.pointer
  (Option.some (Go.Addr.mk i73 (0 : Nat) Option.none)))),
  ((7 : Nat),
  Option.some
  (Go.Value.pointer
  (Option.some (Go.Addr.mk i118 (0 : Nat) Option.none)))),
  ((9 : Nat), Option.some (Go.Value.int Go.IntKind.i64 n122))]
  σ126)))))) := by
  intros
  kernel_rfl

theorem s65a : ∀ (T : Go.AI.Ct) (x c p r : Nat) (n m : Int) (σ : Go.AI.AS) (K : Go.Value → Go.AI.AS → Prop),
  Go.AI.jn Go.Proofs.Try.prog Go.AI.hintsS T (65 : Nat) [Bool.true, Bool.true, Bool.true, Bool.true, Bool.true, Bool.true] [] K
  [((0 : Nat), Option.some (Go.Value.pointer (Option.some (Go.Addr.mk x (0 : Nat) Option.none)))), ((1 : Nat), Option.some (Go.Value.int Go.IntKind.i64 n)),
  ((4 : Nat), Option.some (Go.Value.pointer (Option.some (Go.Addr.mk c (0 : Nat) Option.none)))), ((6 : Nat), Option.some (Go.Value.pointer (Option.some (Go.Addr.mk p (0 : Nat) Option.none)))),
  ((7 : Nat), Option.some (Go.Value.pointer (Option.some (Go.Addr.mk r (0 : Nat) Option.none)))), ((9 : Nat), Option.some (Go.Value.int Go.IntKind.i64 m))]
  σ =
  Go.AI.lds σ (Go.Addr.mk p (0 : Nat) Option.none) (8 : Nat) fun (l0 : List Go.Value) ↦
  Go.AI.tCons l0 fun (v1 : Go.Value) (l2 : List Go.Value) ↦
  Go.AI.tI Go.IntKind.i64 v1 fun (n3 : Int) ↦
  Go.AI.tCons l2 fun (v4 : Go.Value) (l5 : List Go.Value) ↦
  Go.AI.tI Go.IntKind.i64 v4 fun (n6 : Int) ↦
  Go.AI.tCons l5 fun (v7 : Go.Value) (l8 : List Go.Value) ↦
  Go.AI.tI Go.IntKind.i64 v7 fun (n9 : Int) ↦
  Go.AI.tCons l8 fun (v10 : Go.Value) (l11 : List Go.Value) ↦
  Go.AI.tI Go.IntKind.i64 v10 fun (n12 : Int) ↦
  Go.AI.tCons l11 fun (v13 : Go.Value) (l14 : List Go.Value) ↦
  Go.AI.tI Go.IntKind.i64 v13 fun (n15 : Int) ↦
  Go.AI.tCons l14 fun (v16 : Go.Value) (l17 : List Go.Value) ↦
  Go.AI.tI Go.IntKind.i64 v16 fun (n18 : Int) ↦
  Go.AI.tCons l17 fun (v19 : Go.Value) (l20 : List Go.Value) ↦
  Go.AI.tI Go.IntKind.u32 v19 fun (n21 : Int) ↦
  Go.AI.tCons l20 fun (v22 : Go.Value) (l23 : List Go.Value) ↦
  Go.AI.tI Go.IntKind.i64 v22 fun (n24 : Int) ↦
  Go.AI.tNil l23
  (T (78 : Nat)
  [Go.Value.pointer (Option.some (Go.Addr.mk x (0 : Nat) Option.none)),
  Go.Value.agg
  (Array.mk
  [Go.Value.int Go.IntKind.i64 n3, Go.Value.int Go.IntKind.i64 n6, Go.Value.int Go.IntKind.i64 n9, Go.Value.int Go.IntKind.i64 n12, Go.Value.int Go.IntKind.i64 n15,
  Go.Value.int Go.IntKind.i64 n18, Go.Value.int Go.IntKind.u32 n21, Go.Value.int Go.IntKind.i64 n24]),
  Go.Value.int Go.IntKind.i64 m]
  σ fun (v25 : Go.Value) (σ26 : Go.AI.AS) ↦
  Go.AI.tI Go.IntKind.i64 v25 fun (n27 : Int) ↦
  Go.AI.ldc σ26 (Go.Addr.mk p ((0 : Nat) + (5 : Nat)) Option.none) fun (v28 : Go.Value) ↦
  Go.AI.tI Go.IntKind.i64 v28 fun (n29 : Int) ↦
  Go.AI.bmatch (Int.tmod n29 (2 : Int) == (1 : Int))
  (Go.AI.JoinS (Go.AI.jn Go.Proofs.Try.prog Go.AI.hintsS T (65 : Nat) [Bool.true, Bool.true, Bool.true, Bool.true, Bool.true, Bool.true, Bool.true, Bool.true] [] K)
  [((1 : Nat), Option.some (Go.Value.int Go.IntKind.i64 n)), ((4 : Nat), Option.some (Go.Value.pointer (Option.some (Go.Addr.mk c (0 : Nat) Option.none)))),
  ((6 : Nat), Option.some (Go.Value.pointer (Option.some (Go.Addr.mk p (0 : Nat) Option.none)))),
  ((7 : Nat), Option.some (Go.Value.pointer (Option.some (Go.Addr.mk r (0 : Nat) Option.none)))), ((9 : Nat), Option.some (Go.Value.int Go.IntKind.i64 m)),
  ((10 : Nat), Option.some (Go.Value.int Go.IntKind.i64 (Go.IntKind.wrap Go.IntKind.i64 (m - n27))))]
  σ26)
  (Go.AI.JoinS (Go.AI.jn Go.Proofs.Try.prog Go.AI.hintsS T (65 : Nat) [Bool.true, Bool.true, Bool.true, Bool.true, Bool.true, Bool.true, Bool.true, Bool.true] [] K)
  [((1 : Nat), Option.some (Go.Value.int Go.IntKind.i64 n)), ((4 : Nat), Option.some (Go.Value.pointer (Option.some (Go.Addr.mk c (0 : Nat) Option.none)))),
  ((6 : Nat), Option.some (Go.Value.pointer (Option.some (Go.Addr.mk p (0 : Nat) Option.none)))),
  ((7 : Nat), Option.some (Go.Value.pointer (Option.some (Go.Addr.mk r (0 : Nat) Option.none)))), ((9 : Nat), Option.some (Go.Value.int Go.IntKind.i64 m)),
  ((10 : Nat), Option.some (Go.Value.int Go.IntKind.i64 n27))]
  σ26)) := by
  intros
  kernel_rfl

theorem s65b : ∀ (T : Go.AI.Ct) (c p r : Nat) (n m q : Int) (σ : Go.AI.AS) (K : Go.Value → Go.AI.AS → Prop),
  Go.AI.jn Go.Proofs.Try.prog Go.AI.hintsS T (65 : Nat) [Bool.true, Bool.true, Bool.true, Bool.true, Bool.true, Bool.true, Bool.true, Bool.true] [] K
  [((1 : Nat), Option.some (Go.Value.int Go.IntKind.i64 n)), ((4 : Nat), Option.some (Go.Value.pointer (Option.some (Go.Addr.mk c (0 : Nat) Option.none)))),
  ((6 : Nat), Option.some (Go.Value.pointer (Option.some (Go.Addr.mk p (0 : Nat) Option.none)))), ((7 : Nat), Option.some (Go.Value.pointer (Option.some (Go.Addr.mk r (0 : Nat) Option.none)))),
  ((9 : Nat), Option.some (Go.Value.int Go.IntKind.i64 m)), ((10 : Nat), Option.some (Go.Value.int Go.IntKind.i64 q))]
  σ =
  Go.AI.ldc σ (Go.Addr.mk p ((0 : Nat) + (4 : Nat)) Option.none) fun (v0 : Go.Value) ↦
  Go.AI.tI Go.IntKind.i64 v0 fun (n1 : Int) ↦
  Go.AI.bmatch (n == n1)
  (Go.AI.JoinS (Go.AI.jn Go.Proofs.Try.prog Go.AI.hintsS T (65 : Nat) [Bool.true, Bool.true, Bool.true, Bool.true, Bool.true, Bool.true, Bool.true, Bool.true, Bool.true, Bool.true] [] K)
  [((4 : Nat), Option.some (Go.Value.pointer (Option.some (Go.Addr.mk c (0 : Nat) Option.none)))), ((6 : Nat), Option.some (Go.Value.pointer (Option.some (Go.Addr.mk p (0 : Nat) Option.none)))),
  ((7 : Nat), Option.some (Go.Value.pointer (Option.some (Go.Addr.mk r (0 : Nat) Option.none)))), ((11 : Nat), Option.some (Go.Value.int Go.IntKind.i64 q)),
  ((12 : Nat), Option.some (Go.Value.int Go.IntKind.i64 (Go.IntKind.wrap Go.IntKind.i64 (m - q))))]
  σ)
  (Go.AI.JoinS (Go.AI.jn Go.Proofs.Try.prog Go.AI.hintsS T (65 : Nat) [Bool.true, Bool.true, Bool.true, Bool.true, Bool.true, Bool.true, Bool.true, Bool.true, Bool.true, Bool.true] [] K)
  [((4 : Nat), Option.some (Go.Value.pointer (Option.some (Go.Addr.mk c (0 : Nat) Option.none)))), ((6 : Nat), Option.some (Go.Value.pointer (Option.some (Go.Addr.mk p (0 : Nat) Option.none)))),
  ((7 : Nat), Option.some (Go.Value.pointer (Option.some (Go.Addr.mk r (0 : Nat) Option.none)))), ((11 : Nat), Option.some (Go.Value.int Go.IntKind.i64 (0 : Int))),
  ((12 : Nat), Option.some (Go.Value.int Go.IntKind.i64 q))]
  σ) := by
  intros
  kernel_rfl

theorem s65c : ∀ (T : Go.AI.Ct) (c p r : Nat) (m q : Int) (σ : Go.AI.AS) (K : Go.Value → Go.AI.AS → Prop),
  Go.AI.jn Go.Proofs.Try.prog Go.AI.hintsS T (65 : Nat) [Bool.true, Bool.true, Bool.true, Bool.true, Bool.true, Bool.true, Bool.true, Bool.true, Bool.true, Bool.true] [] K
  [((4 : Nat), Option.some (Go.Value.pointer (Option.some (Go.Addr.mk c (0 : Nat) Option.none)))), ((6 : Nat), Option.some (Go.Value.pointer (Option.some (Go.Addr.mk p (0 : Nat) Option.none)))),
  ((7 : Nat), Option.some (Go.Value.pointer (Option.some (Go.Addr.mk r (0 : Nat) Option.none)))), ((11 : Nat), Option.some (Go.Value.int Go.IntKind.i64 m)),
  ((12 : Nat), Option.some (Go.Value.int Go.IntKind.i64 q))]
  σ =
  Go.AI.ldc σ (Go.Addr.mk p ((0 : Nat) + (5 : Nat)) Option.none) fun (v0 : Go.Value) ↦
  Go.AI.tI Go.IntKind.i64 v0 fun (n1 : Int) ↦
  T (64 : Nat) [Go.Value.int Go.IntKind.i64 n1] σ fun (v2 : Go.Value) (σ3 : Go.AI.AS) ↦
  Go.AI.tB v2 fun (b4 : Bool) ↦
  Go.AI.bmatch b4
  (Go.AI.ldc σ3 (Go.Addr.mk r (0 : Nat) Option.none) fun (v5 : Go.Value) ↦
  Go.AI.tI Go.IntKind.i64 v5 fun (n6 : Int) ↦
  Go.AI.ldc σ3 (Go.Addr.mk r ((0 : Nat) + (1 : Nat)) Option.none) fun (v7 : Go.Value) ↦
  Go.AI.tI Go.IntKind.i64 v7 fun (n8 : Int) ↦
  Go.AI.ldc σ3 (Go.Addr.mk r ((0 : Nat) + (3 : Nat)) Option.none) fun (v9 : Go.Value) ↦
  Go.AI.tI Go.IntKind.i64 v9 fun (n10 : Int) ↦
  Go.AI.puts σ3 (Go.Addr.mk c (0 : Nat) Option.none)
  [Go.Value.int Go.IntKind.i64 (Go.IntKind.wrap Go.IntKind.i64 (n6 + m)), Go.Value.int Go.IntKind.i64 n8, Go.Value.int Go.IntKind.i64 q, Go.Value.int Go.IntKind.i64 n10]
  fun (σ11 : Go.AI.AS) ↦
  Go.AI.lds σ11 (Go.Addr.mk c (0 : Nat) Option.none) (4 : Nat) fun (l12 : List Go.Value) ↦
  Go.AI.tCons l12 fun (v13 : Go.Value) (l14 : List Go.Value) ↦
  Go.AI.tI Go.IntKind.i64 v13 fun (n15 : Int) ↦
  Go.AI.tCons l14 fun (v16 : Go.Value) (l17 : List Go.Value) ↦
  Go.AI.tI Go.IntKind.i64 v16 fun (n18 : Int) ↦
  Go.AI.tCons l17 fun (v19 : Go.Value) (l20 : List Go.Value) ↦
  Go.AI.tI Go.IntKind.i64 v19 fun (n21 : Int) ↦
  Go.AI.tCons l20 fun (v22 : Go.Value) (l23 : List Go.Value) ↦
  Go.AI.tI Go.IntKind.i64 v22 fun (n24 : Int) ↦
  Go.AI.tNil l23
  (K
  (Go.Value.tuple
  (Array.mk
  [Go.Value.agg (Array.mk [Go.Value.int Go.IntKind.i64 n15, Go.Value.int Go.IntKind.i64 n18, Go.Value.int Go.IntKind.i64 n21, Go.Value.int Go.IntKind.i64 n24]),
  Go.Value.bool Bool.true]))
  σ11))
  (Go.AI.ldc σ3 (Go.Addr.mk r (0 : Nat) Option.none) fun (v25 : Go.Value) ↦
  Go.AI.tI Go.IntKind.i64 v25 fun (n26 : Int) ↦
  Go.AI.ldc σ3 (Go.Addr.mk r ((0 : Nat) + (1 : Nat)) Option.none) fun (v27 : Go.Value) ↦
  Go.AI.tI Go.IntKind.i64 v27 fun (n28 : Int) ↦
  Go.AI.ldc σ3 (Go.Addr.mk r ((0 : Nat) + (2 : Nat)) Option.none) fun (v29 : Go.Value) ↦
  Go.AI.tI Go.IntKind.i64 v29 fun (n30 : Int) ↦
  Go.AI.puts σ3 (Go.Addr.mk c (0 : Nat) Option.none)
  [Go.Value.int Go.IntKind.i64 n26, Go.Value.int Go.IntKind.i64 (Go.IntKind.wrap Go.IntKind.i64 (n28 + m)), Go.Value.int Go.IntKind.i64 n30, Go.Value.int Go.IntKind.i64 q]
  fun (σ31 : Go.AI.AS) ↦
  Go.AI.lds σ31 (Go.Addr.mk c (0 : Nat) Option.none) (4 : Nat) fun (l32 : List Go.Value) ↦
  Go.AI.tCons l32 fun (v33 : Go.Value) (l34 : List Go.Value) ↦
  Go.AI.tI Go.IntKind.i64 v33 fun (n35 : Int) ↦
  Go.AI.tCons l34 fun (v36 : Go.Value) (l37 : List Go.Value) ↦
  Go.AI.tI Go.IntKind.i64 v36 fun (n38 : Int) ↦
  Go.AI.tCons l37 fun (v39 : Go.Value) (l40 : List Go.Value) ↦
  Go.AI.tI Go.IntKind.i64 v39 fun (n41 : Int) ↦
  Go.AI.tCons l40 fun (v42 : Go.Value) (l43 : List Go.Value) ↦
  Go.AI.tI Go.IntKind.i64 v42 fun (n44 : Int) ↦
  Go.AI.tNil l43
  (K
  (Go.Value.tuple
  (Array.mk
  [Go.Value.agg (Array.mk [Go.Value.int Go.IntKind.i64 n35, Go.Value.int Go.IntKind.i64 n38, Go.Value.int Go.IntKind.i64 n41, Go.Value.int Go.IntKind.i64 n44]),
  Go.Value.bool Bool.true]))
  σ31)) := by
  intros
  kernel_rfl

theorem s38 : ∀ (T : Go.AI.Ct) (x : Nat) (σ : Go.AI.AS) (K : Go.Value → Go.AI.AS → Prop),
  Go.AI.fw Go.Proofs.Try.prog Go.AI.hintsS T (38 : Nat) [Go.Value.pointer (Option.some (Go.Addr.mk x (0 : Nat) Option.none))] σ K =
  Go.AI.ldc σ (Go.Addr.mk x (0 : Nat) Option.none) fun (v0 : Go.Value) ↦
  Go.AI.tI Go.IntKind.i64 v0 fun (n1 : Int) ↦
  Go.AI.ldc σ (Go.Addr.mk x ((0 : Nat) + (1 : Nat)) Option.none) fun (v2 : Go.Value) ↦
  Go.AI.tI Go.IntKind.i64 v2 fun (n3 : Int) ↦
  Go.AI.ldc σ (Go.Addr.mk x ((0 : Nat) + (2 : Nat)) Option.none) fun (v4 : Go.Value) ↦
  Go.AI.tL (8 : Nat) v4 fun (s5 : Go.AI.Sl) ↦
  Go.AI.ldc σ (Go.Addr.mk x ((0 : Nat) + (3 : Nat)) Option.none) fun (v6 : Go.Value) ↦
  Go.AI.tI Go.IntKind.i64 v6 fun (n7 : Int) ↦
  Go.AI.newAt σ (Go.AI.AObj.row Go.AI.RK.rw []) fun (i8 : Nat) (σ9 : Go.AI.AS) ↦
  Go.AI.ldc σ9 (Go.Addr.mk x ((0 : Nat) + (3 : Nat)) Option.none) fun (v10 : Go.Value) ↦
  Go.AI.tI Go.IntKind.i64 v10 fun (n11 : Int) ↦
  Go.Value.int Go.IntKind.i64 n7 = Go.Value.int Go.IntKind.i64 n11 ∧
  Go.AI.ldc σ9 (Go.Addr.mk x ((0 : Nat) + (2 : Nat)) Option.none) fun (v12 : Go.Value) ↦
  Go.AI.tL (8 : Nat) v12 fun (s13 : Go.AI.Sl) ↦
  Go.Value.slice (Go.AI.Sl.a s5) (Go.AI.Sl.n s5) (Go.AI.szOf Go.Proofs.Try.prog (58 : Nat)) = Go.Value.slice (Go.AI.Sl.a s13) (Go.AI.Sl.n s13) (Go.AI.szOf Go.Proofs.Try.prog (58 : Nat)) ∧
  Go.AI.ldc σ9 (Go.Addr.mk x ((0 : Nat) + (1 : Nat)) Option.none) fun (v14 : Go.Value) ↦
  Go.AI.tI Go.IntKind.i64 v14 fun (n15 : Int) ↦
  Go.Value.int Go.IntKind.i64 n3 = Go.Value.int Go.IntKind.i64 n15 ∧
  Go.AI.ldc σ9 (Go.Addr.mk x (0 : Nat) Option.none) fun (v16 : Go.Value) ↦
  Go.AI.tI Go.IntKind.i64 v16 fun (n17 : Int) ↦
  Go.Value.int Go.IntKind.i64 n1 = Go.Value.int Go.IntKind.i64 n17 ∧
  Go.AI.srcCells σ9 (8 : Nat) (Option.some (Go.Value.slice (Go.AI.Sl.a s5) (Go.AI.Sl.n s5) (8 : Nat))) fun (m18 : Nat) (new19 : List Go.Value) ↦
  Go.AI.appendTo σ9 (8 : Nat) (64 : Nat) (Go.AI.Sl.mk (Option.some (Go.Addr.mk i8 (0 : Nat) Option.none)) (0 : Nat)) new19 m18 fun (s20 : Go.AI.Sl) (σ21 : Go.AI.AS) ↦
  Go.AI.ldc σ21 (Go.Addr.mk x ((0 : Nat) + (3 : Nat)) Option.none) fun (v22 : Go.Value) ↦
  Go.AI.tI Go.IntKind.i64 v22 fun (n23 : Int) ↦
  Go.Value.int Go.IntKind.i64 n7 = Go.Value.int Go.IntKind.i64 n23 ∧
  Go.AI.ldc σ21 (Go.Addr.mk x ((0 : Nat) + (1 : Nat)) Option.none) fun (v24 : Go.Value) ↦
  Go.AI.tI Go.IntKind.i64 v24 fun (n25 : Int) ↦
  Go.Value.int Go.IntKind.i64 n3 = Go.Value.int Go.IntKind.i64 n25 ∧
  Go.AI.ldc σ21 (Go.Addr.mk x (0 : Nat) Option.none) fun (v26 : Go.Value) ↦
  Go.AI.tI Go.IntKind.i64 v26 fun (n27 : Int) ↦
  Go.Value.int Go.IntKind.i64 n1 = Go.Value.int Go.IntKind.i64 n27 ∧
  Go.AI.newAt σ21
  (Go.AI.AObj.row Go.AI.RK.plain
  [Go.Value.int Go.IntKind.i64 n1, Go.Value.int Go.IntKind.i64 n3, Go.Value.slice (Go.AI.Sl.a s20) (Go.AI.Sl.n s20) (8 : Nat),
  Go.Value.int Go.IntKind.i64 n7])
  fun (i28 : Nat) (σ29 : Go.AI.AS) ↦ K (Go.Value.pointer (Option.some (Go.Addr.mk i28 (0 : Nat) Option.none))) σ29 := by
  intros
  kernel_rfl

theorem s23 : ∀ (T : Go.AI.Ct) (n : Int) (σ : Go.AI.AS) (K : Go.Value → Go.AI.AS → Prop),
  Go.AI.fw Go.Proofs.Try.prog Go.AI.hintsS T (23 : Nat) [Go.Value.int Go.IntKind.i64 n] σ K = K (Go.Value.int Go.IntKind.i64 n) σ := by
  intros
  kernel_rfl

theorem s14 : ∀ (T : Go.AI.Ct) (a b : Int) (σ : Go.AI.AS) (K : Go.Value → Go.AI.AS → Prop),
  Go.AI.fw Go.Proofs.Try.prog Go.AI.hintsS T (14 : Nat) [Go.Value.int Go.IntKind.u8 a, Go.Value.int Go.IntKind.u8 b] σ K =
  K (Go.Value.tuple (Array.mk [Go.Value.int Go.IntKind.i64 (Int.tmod (Go.IntKind.wrap Go.IntKind.i64 a) (60 : Int)), Go.Value.int Go.IntKind.i64 (Int.tmod (Go.IntKind.wrap Go.IntKind.i64 b) (40 : Int))])) σ := by
  intros
  kernel_rfl

theorem s21 : ∀ (T : Go.AI.Ct) (x : Nat) (n : Int) (σ : Go.AI.AS) (K : Go.Value → Go.AI.AS → Prop),
  Go.AI.fw Go.Proofs.Try.prog Go.AI.hintsS T (21 : Nat) [Go.Value.pointer (Option.some (Go.Addr.mk x (0 : Nat) Option.none)), Go.Value.int Go.IntKind.i64 n] σ K =
  Go.AI.ldc σ (Go.Addr.mk x ((0 : Nat) + (2 : Nat)) Option.none) fun (v0 : Go.Value) ↦
  Go.AI.tL (8 : Nat) v0 fun (s1 : Go.AI.Sl) ↦
  Go.AI.bmatch ((↑(Go.AI.Sl.n s1) : Int) == (0 : Int)) (K (Go.Value.int Go.IntKind.i64 (0 : Int)) σ)
  (Go.AI.ldc σ (Go.Addr.mk x ((0 : Nat) + (2 : Nat)) Option.none) fun (v2 : Go.Value) ↦
  Go.AI.tL (8 : Nat) v2 fun (s3 : Go.AI.Sl) ↦
  Go.AI.req ((↑(Go.AI.Sl.n s3) : Int) ≠ (0 : Int))
  (Go.AI.bmatch (Decidable.decide (Int.tmod n (↑(Go.AI.Sl.n s3) : Int) < (0 : Int)))
  (Go.AI.ldc σ (Go.Addr.mk x ((0 : Nat) + (2 : Nat)) Option.none) fun (v4 : Go.Value) ↦
  Go.AI.tL (8 : Nat) v4 fun (s5 : Go.AI.Sl) ↦
  Go.AI.ldc σ (Go.Addr.mk x ((0 : Nat) + (2 : Nat)) Option.none) fun (v6 : Go.Value) ↦
  Go.AI.tL (8 : Nat) v6 fun (s7 : Go.AI.Sl) ↦
  Go.AI.req ((0 : Int) ≤ Go.IntKind.wrap Go.IntKind.i64 (Int.tmod n (↑(Go.AI.Sl.n s3) : Int) + (↑(Go.AI.Sl.n s5) : Int)))
  (Go.AI.req (Go.IntKind.wrap Go.IntKind.i64 (Int.tmod n (↑(Go.AI.Sl.n s3) : Int) + (↑(Go.AI.Sl.n s5) : Int)) < (↑(Go.AI.Sl.n s7) : Int))
  (Go.AI.pSome (Go.AI.Sl.a s7) fun (a8 : Go.Addr) ↦
  Go.AI.ldc σ
  (Go.Addr.add (Go.Addr.add a8 (Int.toNat (Go.IntKind.wrap Go.IntKind.i64 (Int.tmod n (↑(Go.AI.Sl.n s3) : Int) + (↑(Go.AI.Sl.n s5) : Int))) * Go.AI.szOf Go.Proofs.Try.prog (58 : Nat)))
  (0 : Nat))
  fun (v9 : Go.Value) ↦ Go.AI.tI Go.IntKind.i64 v9 fun (n10 : Int) ↦ K (Go.Value.int Go.IntKind.i64 n10) σ)))
  (Go.AI.ldc σ (Go.Addr.mk x ((0 : Nat) + (2 : Nat)) Option.none) fun (v11 : Go.Value) ↦
  Go.AI.tL (8 : Nat) v11 fun (s12 : Go.AI.Sl) ↦
  Go.AI.req ((0 : Int) ≤ Int.tmod n (↑(Go.AI.Sl.n s3) : Int))
  (Go.AI.req (Int.tmod n (↑(Go.AI.Sl.n s3) : Int) < (↑(Go.AI.Sl.n s12) : Int))
  (Go.AI.pSome (Go.AI.Sl.a s12) fun (a13 : Go.Addr) ↦
  Go.AI.ldc σ (Go.Addr.add (Go.Addr.add a13 (Int.toNat (Int.tmod n (↑(Go.AI.Sl.n s3) : Int)) * Go.AI.szOf Go.Proofs.Try.prog (58 : Nat))) (0 : Nat)) fun (v14 : Go.Value) ↦
  Go.AI.tI Go.IntKind.i64 v14 fun (n15 : Int) ↦ K (Go.Value.int Go.IntKind.i64 n15) σ))))) := by
  intros
  kernel_rfl

theorem s54 : ∀ (T : Go.AI.Ct) (x : Nat) (σ : Go.AI.AS) (K : Go.Value → Go.AI.AS → Prop),
  Go.AI.fw Go.Proofs.Try.prog Go.AI.hintsS T (54 : Nat) [Go.Value.pointer (Option.some (Go.Addr.mk x (0 : Nat) Option.none))] σ K =
  Go.AI.ALoop (Go.AI.fl Go.Proofs.Try.prog Go.AI.hintsS T (54 : Nat) [Bool.true, Bool.true, Bool.false, Bool.true, Bool.false] [] K)
  [((0 : Nat), Option.some (Go.Value.pointer (Option.some (Go.Addr.mk x (0 : Nat) Option.none)))), ((3 : Nat), Option.some (Go.Value.slice Option.none (0 : Nat) (0 : Nat))),
  ((4 : Nat), Option.some (Go.Value.int Go.IntKind.i64 (0 : Int)))]
  σ := by
  intros
  kernel_rfl

theorem s54l : ∀ (T : Go.AI.Ct) (x : Nat) (i : Int) (a : Option Go.Addr) (k e : Nat) (X : Go.AI.Regs → Go.AI.AS → Prop) (σ : Go.AI.AS) (K : Go.Value → Go.AI.AS → Prop),
  Go.AI.fl Go.Proofs.Try.prog Go.AI.hintsS T (54 : Nat) [Bool.true, Bool.true, Bool.false, Bool.true, Bool.false] [] K X
  [((0 : Nat), Option.some (Go.Value.pointer (Option.some (Go.Addr.mk x (0 : Nat) Option.none)))), ((3 : Nat), Option.some (Go.Value.slice a k e)), ((4 : Nat), Option.some (Go.Value.int Go.IntKind.i64 i))]
  σ =
  Go.AI.ldc σ (Go.Addr.mk x ((0 : Nat) + (2 : Nat)) Option.none) fun (v0 : Go.Value) ↦
  Go.AI.tL (8 : Nat) v0 fun (s1 : Go.AI.Sl) ↦
  Go.AI.bmatch (Decidable.decide (i < (↑(Go.AI.Sl.n s1) : Int)))
  (Go.AI.ldc σ (Go.Addr.mk x ((0 : Nat) + (2 : Nat)) Option.none) fun (v2 : Go.Value) ↦
  Go.AI.tL (8 : Nat) v2 fun (s3 : Go.AI.Sl) ↦
  Go.AI.req ((0 : Int) ≤ i)
  (Go.AI.req (i < (↑(Go.AI.Sl.n s3) : Int))
  (Go.AI.pSome (Go.AI.Sl.a s3) fun (a4 : Go.Addr) ↦
  Go.AI.ldc σ (Go.Addr.add (Go.Addr.add a4 (Int.toNat i * Go.AI.szOf Go.Proofs.Try.prog (58 : Nat))) (0 : Nat)) fun (v5 : Go.Value) ↦
  Go.AI.tI Go.IntKind.i64 v5 fun (n6 : Int) ↦
  Go.AI.newAt σ (Go.AI.AObj.row Go.AI.RK.rw [Go.Value.int Go.IntKind.i64 n6]) fun (i7 : Nat) (σ8 : Go.AI.AS) ↦
  Go.AI.chk (Go.AI.nilOr a e (Go.AI.szOf Go.Proofs.Try.prog (3 : Nat)))
  (Go.AI.lds σ8 (Go.Addr.mk i7 (0 : Nat) Option.none) (1 : Nat) fun (l9 : List Go.Value) ↦
  Go.AI.appendTo σ8 (1 : Nat) (8 : Nat) (Go.AI.Sl.mk a k) l9 (1 : Nat) fun (s10 : Go.AI.Sl) (σ11 : Go.AI.AS) ↦
  X
  [((0 : Nat), Option.some (Go.Value.pointer (Option.some (Go.Addr.mk x (0 : Nat) Option.none)))), ((3 : Nat), Option.some (Go.Value.slice (Go.AI.Sl.a s10) (Go.AI.Sl.n s10) (1 : Nat))),
  ((4 : Nat), Option.some (Go.Value.int Go.IntKind.i64 (Go.IntKind.wrap Go.IntKind.i64 (i + (1 : Int)))))]
  σ11))))
  (K (Go.Value.slice a k e) σ) := by
  intros
  kernel_rfl

theorem s34 : ∀ (T : Go.AI.Ct) (t x : Nat) (σ : Go.AI.AS) (K : Go.Value → Go.AI.AS → Prop),
  Go.AI.fw Go.Proofs.Try.prog Go.AI.hintsS T (34 : Nat) [Go.Value.pointer (Option.some (Go.Addr.mk t (0 : Nat) Option.none)), Go.Value.pointer (Option.some (Go.Addr.mk x (0 : Nat) Option.none))] σ K =
  T (54 : Nat) [Go.Value.pointer (Option.some (Go.Addr.mk x (0 : Nat) Option.none))] σ fun (v0 : Go.Value) (σ1 : Go.AI.AS) ↦
  Go.AI.tL (1 : Nat) v0 fun (s2 : Go.AI.Sl) ↦
  T (16 : Nat) [Go.Value.pointer (Option.some (Go.Addr.mk t (0 : Nat) Option.none))] σ1 fun (v3 : Go.Value) (σ4 : Go.AI.AS) ↦
  Go.AI.tL (1 : Nat) v3 fun (s5 : Go.AI.Sl) ↦
  T (35 : Nat) [Go.Value.slice (Go.AI.Sl.a s5) (Go.AI.Sl.n s5) (1 : Nat), Go.Value.slice (Go.AI.Sl.a s2) (Go.AI.Sl.n s2) (1 : Nat)] σ4 fun (v6 : Go.Value) (σ7 : Go.AI.AS) ↦
  Go.AI.tB v6 fun (b8 : Bool) ↦
  Go.AI.bmatch (!b8) (K (Go.Value.bool Bool.false) σ7)
  (T (27 : Nat) [Go.Value.pointer (Option.some (Go.Addr.mk t (0 : Nat) Option.none))] σ7 fun (v9 : Go.Value) (σ10 : Go.AI.AS) ↦
  Go.AI.tI Go.IntKind.i64 v9 fun (n11 : Int) ↦
  T (55 : Nat) [Go.Value.pointer (Option.some (Go.Addr.mk x (0 : Nat) Option.none))] σ10 fun (v12 : Go.Value) (σ13 : Go.AI.AS) ↦
  Go.AI.tI Go.IntKind.i64 v12 fun (n14 : Int) ↦
  Go.AI.bmatch (n11 != n14) (K (Go.Value.bool Bool.false) σ13)
  (Go.AI.ALoop (Go.AI.fl Go.Proofs.Try.prog Go.AI.hintsS T (34 : Nat) [Bool.true, Bool.true, Bool.true, Bool.false, Bool.true, Bool.false] [] K)
  [((0 : Nat), Option.some (Go.Value.pointer (Option.some (Go.Addr.mk t (0 : Nat) Option.none)))),
  ((1 : Nat), Option.some (Go.Value.pointer (Option.some (Go.Addr.mk x (0 : Nat) Option.none)))), ((5 : Nat), Option.some (Go.Value.slice (Go.AI.Sl.a s2) (Go.AI.Sl.n s2) (1 : Nat))),
  ((6 : Nat), Option.some (Go.Value.int Go.IntKind.i64 (0 : Int)))]
  σ13)) := by
  intros
  kernel_rfl

theorem s34l : ∀ (T : Go.AI.Ct) (t x : Nat) (i : Int) (a : Option Go.Addr) (k e : Nat) (X : Go.AI.Regs → Go.AI.AS → Prop) (σ : Go.AI.AS) (K : Go.Value → Go.AI.AS → Prop),
  Go.AI.fl Go.Proofs.Try.prog Go.AI.hintsS T (34 : Nat) [Bool.true, Bool.true, Bool.true, Bool.false, Bool.true, Bool.false] [] K X
  [((0 : Nat), Option.some (Go.Value.pointer (Option.some (Go.Addr.mk t (0 : Nat) Option.none)))), ((1 : Nat), Option.some (Go.Value.pointer (Option.some (Go.Addr.mk x (0 : Nat) Option.none)))),
  ((5 : Nat), Option.some (Go.Value.slice a k e)), ((6 : Nat), Option.some (Go.Value.int Go.IntKind.i64 i))]
  σ =
  Go.AI.bmatch (Decidable.decide (i < (↑k : Int)))
  (Go.AI.req ((0 : Int) ≤ i)
  (Go.AI.req (i < (↑k : Int))
  (Go.AI.pSome a fun (a0 : Go.Addr) ↦
  Go.AI.req (e = Go.AI.szOf Go.Proofs.Try.prog (3 : Nat))
  (Go.AI.ldc σ (Go.Addr.add a0 (Int.toNat i * Go.AI.szOf Go.Proofs.Try.prog (3 : Nat))) fun (v1 : Go.Value) ↦
  Go.AI.tI Go.IntKind.i64 v1 fun (n2 : Int) ↦
  T (56 : Nat) [Go.Value.pointer (Option.some (Go.Addr.mk t (0 : Nat) Option.none)), Go.Value.pointer (Option.some (Go.Addr.mk x (0 : Nat) Option.none)), Go.Value.int Go.IntKind.i64 n2] σ
  fun (v3 : Go.Value) (σ4 : Go.AI.AS) ↦
  Go.AI.tB v3 fun (b5 : Bool) ↦
  Go.AI.bmatch (!b5) (K (Go.Value.bool Bool.false) σ4)
  (X
  [((0 : Nat), Option.some (Go.Value.pointer (Option.some (Go.Addr.mk t (0 : Nat) Option.none)))),
  ((1 : Nat), Option.some (Go.Value.pointer (Option.some (Go.Addr.mk x (0 : Nat) Option.none)))), ((5 : Nat), Option.some (Go.Value.slice a k e)),
  ((6 : Nat), Option.some (Go.Value.int Go.IntKind.i64 (Go.IntKind.wrap Go.IntKind.i64 (i + (1 : Int)))))]
  σ4)))))
  (T (56 : Nat) [Go.Value.pointer (Option.some (Go.Addr.mk t (0 : Nat) Option.none)), Go.Value.pointer (Option.some (Go.Addr.mk x (0 : Nat) Option.none)), Go.Value.int Go.IntKind.i64 (0 : Int)] σ
  fun (v6 : Go.Value) (σ7 : Go.AI.AS) ↦
  Go.AI.tB v6 fun (b8 : Bool) ↦
  Go.AI.bmatch b8
  (T (56 : Nat) [Go.Value.pointer (Option.some (Go.Addr.mk t (0 : Nat) Option.none)), Go.Value.pointer (Option.some (Go.Addr.mk x (0 : Nat) Option.none)), Go.Value.int Go.IntKind.i64 (-1 : Int)] σ7
  fun (v9 : Go.Value) (σ10 : Go.AI.AS) ↦
  Go.AI.tB v9 fun (b11 : Bool) ↦
  Go.AI.bmatch b11
  (Go.AI.ldc σ10 (Go.Addr.mk x ((0 : Nat) + (3 : Nat)) Option.none) fun (v12 : Go.Value) ↦
  Go.AI.tI Go.IntKind.i64 v12 fun (n13 : Int) ↦
  T (56 : Nat)
  [Go.Value.pointer (Option.some (Go.Addr.mk t (0 : Nat) Option.none)), Go.Value.pointer (Option.some (Go.Addr.mk x (0 : Nat) Option.none)),
  Go.Value.int Go.IntKind.i64 (Go.IntKind.wrap Go.IntKind.i64 (n13 + (1 : Int)))]
  σ10 fun (v14 : Go.Value) (σ15 : Go.AI.AS) ↦ Go.AI.tB v14 fun (b16 : Bool) ↦ K (Go.Value.bool b16) σ15)
  (K (Go.Value.bool Bool.false) σ10))
  (K (Go.Value.bool Bool.false) σ7)) := by
  intros
  kernel_rfl

theorem s35 : ∀ (T : Go.AI.Ct) (a : Option Go.Addr) (k e : Nat) (b : Option Go.Addr) (m f : Nat) (σ : Go.AI.AS) (K : Go.Value → Go.AI.AS → Prop),
  Go.AI.fw Go.Proofs.Try.prog Go.AI.hintsS T (35 : Nat) [Go.Value.slice a k e, Go.Value.slice b m f] σ K =
  Go.AI.bmatch ((↑k : Int) != (↑m : Int)) (K (Go.Value.bool Bool.false) σ)
  (Go.AI.ALoop (Go.AI.fl Go.Proofs.Try.prog Go.AI.hintsS T (35 : Nat) [Bool.true, Bool.true, Bool.false, Bool.true, Bool.false] [] K)
  [((0 : Nat), Option.some (Go.Value.slice a k e)), ((1 : Nat), Option.some (Go.Value.slice b m f)), ((5 : Nat), Option.some (Go.Value.int Go.IntKind.i64 (0 : Int)))] σ) := by
  intros
  kernel_rfl

theorem s35l : ∀ (T : Go.AI.Ct) (a : Option Go.Addr) (k e : Nat) (b : Option Go.Addr) (m f : Nat) (i : Int) (X : Go.AI.Regs → Go.AI.AS → Prop) (σ : Go.AI.AS) (K : Go.Value → Go.AI.AS → Prop),
  Go.AI.fl Go.Proofs.Try.prog Go.AI.hintsS T (35 : Nat) [Bool.true, Bool.true, Bool.false, Bool.true, Bool.false] [] K X
  [((0 : Nat), Option.some (Go.Value.slice a k e)), ((1 : Nat), Option.some (Go.Value.slice b m f)), ((5 : Nat), Option.some (Go.Value.int Go.IntKind.i64 i))] σ =
  Go.AI.bmatch (Decidable.decide (i < (↑k : Int)))
  (Go.AI.req ((0 : Int) ≤ i)
  (Go.AI.req (i < (↑k : Int))
  (Go.AI.pSome a fun (a0 : Go.Addr) ↦
  Go.AI.req (e = Go.AI.szOf Go.Proofs.Try.prog (3 : Nat))
  (Go.AI.ldc σ (Go.Addr.add a0 (Int.toNat i * Go.AI.szOf Go.Proofs.Try.prog (3 : Nat))) fun (v1 : Go.Value) ↦
  Go.AI.tI Go.IntKind.i64 v1 fun (n2 : Int) ↦
  Go.AI.req ((0 : Int) ≤ i)
  (Go.AI.req (i < (↑m : Int))
  (Go.AI.pSome b fun (a3 : Go.Addr) ↦
  Go.AI.req (f = Go.AI.szOf Go.Proofs.Try.prog (3 : Nat))
  (Go.AI.ldc σ (Go.Addr.add a3 (Int.toNat i * Go.AI.szOf Go.Proofs.Try.prog (3 : Nat))) fun (v4 : Go.Value) ↦
  Go.AI.tI Go.IntKind.i64 v4 fun (n5 : Int) ↦
  Go.AI.bmatch (n2 != n5) (K (Go.Value.bool Bool.false) σ)
  (X
  [((0 : Nat), Option.some (Go.Value.slice a k e)), ((1 : Nat), Option.some (Go.Value.slice b m f)),
  ((5 : Nat), Option.some (Go.Value.int Go.IntKind.i64 (Go.IntKind.wrap Go.IntKind.i64 (i + (1 : Int)))))]
  σ))))))))
  (K (Go.Value.bool Bool.true) σ) := by
  intros
  kernel_rfl

theorem s15 : ∀ (T : Go.AI.Ct) (w h : Int) (a : Option Go.Addr) (k e : Nat) (σ : Go.AI.AS) (K : Go.Value → Go.AI.AS → Prop),
  Go.AI.fw Go.Proofs.Try.prog Go.AI.hintsS T (15 : Nat) [Go.Value.int Go.IntKind.i64 w, Go.Value.int Go.IntKind.i64 h, Go.Value.slice a k e] σ K =
  T (31 : Nat) [Go.Value.int Go.IntKind.i64 w, Go.Value.int Go.IntKind.i64 h] σ fun (v0 : Go.Value) (σ1 : Go.AI.AS) ↦
  Go.AI.tTup v0 fun (l2 : List Go.Value) ↦
  Go.AI.pSome l2[(0 : Nat)]? fun (u3 : Go.Value) ↦
  Go.AI.tP u3 fun (b4 : Option Go.Addr) ↦
  Go.AI.tTup v0 fun (l5 : List Go.Value) ↦
  Go.AI.pSome l5[(1 : Nat)]? fun (u6 : Go.Value) ↦
  Go.AI.tI Go.IntKind.i64 u6 fun (n7 : Int) ↦
  T (32 : Nat) [Go.Value.int Go.IntKind.i64 w, Go.Value.int Go.IntKind.i64 h] σ1 fun (v8 : Go.Value) (σ9 : Go.AI.AS) ↦
  Go.AI.tTup v8 fun (l10 : List Go.Value) ↦
  Go.AI.pSome l10[(0 : Nat)]? fun (u11 : Go.Value) ↦
  Go.AI.tP u11 fun (b12 : Option Go.Addr) ↦
  Go.AI.tTup v8 fun (l13 : List Go.Value) ↦
  Go.AI.pSome l13[(1 : Nat)]? fun (u14 : Go.Value) ↦
  Go.AI.tI Go.IntKind.i64 u14 fun (n15 : Int) ↦
  T (23 : Nat) [Go.Value.int Go.IntKind.i64 n7] σ9 fun (v16 : Go.Value) (σ17 : Go.AI.AS) ↦
  Go.AI.tI Go.IntKind.i64 v16 fun (n18 : Int) ↦
  Go.AI.bmatch (Go.IntKind.wrap Go.IntKind.i64 (n18 + n15) != (0 : Int)) (K (Go.Value.tuple (Array.mk [Go.Value.pointer Option.none, Go.Value.pointer Option.none])) σ17)
  (Go.AI.ptrEq σ17 b4 Option.none fun (r19 : Bool) ↦
  Go.AI.bmatch r19 (K (Go.Value.tuple (Array.mk [Go.Value.pointer Option.none, Go.Value.pointer Option.none])) σ17)
  (Go.AI.ALoop (Go.AI.fl Go.Proofs.Try.prog Go.AI.hintsS T (15 : Nat) [Bool.true, Bool.true, Bool.true, Bool.true, Bool.false, Bool.true, Bool.false] [] K)
  [((2 : Nat), Option.some (Go.Value.slice a k e)), ((8 : Nat), Option.some (Go.Value.pointer b4)), ((10 : Nat), Option.some (Go.Value.pointer b12)),
  ((12 : Nat), Option.some (Go.Value.int Go.IntKind.i64 (0 : Int)))]
  σ17)) := by
  intros
  kernel_rfl

theorem s15l : ∀ (T : Go.AI.Ct) (t x : Nat) (i : Int) (a : Option Go.Addr) (k e : Nat) (X : Go.AI.Regs → Go.AI.AS → Prop) (σ : Go.AI.AS) (K : Go.Value → Go.AI.AS → Prop),
  Go.AI.fl Go.Proofs.Try.prog Go.AI.hintsS T (15 : Nat) [Bool.true, Bool.true, Bool.true, Bool.true, Bool.false, Bool.true, Bool.false] [] K X
  [((2 : Nat), Option.some (Go.Value.slice a k e)), ((8 : Nat), Option.some (Go.Value.pointer (Option.some (Go.Addr.mk t (0 : Nat) Option.none)))),
  ((10 : Nat), Option.some (Go.Value.pointer (Option.some (Go.Addr.mk x (0 : Nat) Option.none)))), ((12 : Nat), Option.some (Go.Value.int Go.IntKind.i64 i))]
  σ =
  Go.AI.bmatch (Decidable.decide (i < (↑k : Int)))
  (Go.AI.req ((0 : Int) ≤ i)
  (Go.AI.req (i < (↑k : Int))
  (Go.AI.pSome a fun (a0 : Go.Addr) ↦
  Go.AI.req (e = Go.AI.szOf Go.Proofs.Try.prog (26 : Nat))
  (Go.AI.lds σ (Go.Addr.add a0 (Int.toNat i * Go.AI.szOf Go.Proofs.Try.prog (26 : Nat))) (6 : Nat) fun (l1 : List Go.Value) ↦
  Go.AI.tCons l1 fun (v2 : Go.Value) (l3 : List Go.Value) ↦
  Go.AI.tI Go.IntKind.i64 v2 fun (n4 : Int) ↦
  Go.AI.tCons l3 fun (v5 : Go.Value) (l6 : List Go.Value) ↦
  Go.AI.tI Go.IntKind.i64 v5 fun (n7 : Int) ↦
  Go.AI.tCons l6 fun (v8 : Go.Value) (l9 : List Go.Value) ↦
  Go.AI.tI Go.IntKind.i64 v8 fun (n10 : Int) ↦
  Go.AI.tCons l9 fun (v11 : Go.Value) (l12 : List Go.Value) ↦
  Go.AI.tI Go.IntKind.i64 v11 fun (n13 : Int) ↦
  Go.AI.tCons l12 fun (v14 : Go.Value) (l15 : List Go.Value) ↦
  Go.AI.tI Go.IntKind.u32 v14 fun (n16 : Int) ↦
  Go.AI.tCons l15 fun (v17 : Go.Value) (l18 : List Go.Value) ↦
  Go.AI.tB v17 fun (b19 : Bool) ↦
  Go.AI.tNil l18
  (T (33 : Nat)
  [Go.Value.pointer (Option.some (Go.Addr.mk t (0 : Nat) Option.none)), Go.Value.pointer (Option.some (Go.Addr.mk x (0 : Nat) Option.none)),
  Go.Value.agg
  (Array.mk
  [Go.Value.int Go.IntKind.i64 n4, Go.Value.int Go.IntKind.i64 n7, Go.Value.int Go.IntKind.i64 n10, Go.Value.int Go.IntKind.i64 n13, Go.Value.int Go.IntKind.u32 n16,
  Go.Value.bool b19])]
  σ fun (v20 : Go.Value) (σ21 : Go.AI.AS) ↦
  Go.AI.tB v20 fun (b22 : Bool) ↦
  Go.AI.bmatch (!b22) (K (Go.Value.tuple (Array.mk [Go.Value.pointer Option.none, Go.Value.pointer Option.none])) σ21)
  (X
  [((2 : Nat), Option.some (Go.Value.slice a k e)), ((8 : Nat), Option.some (Go.Value.pointer (Option.some (Go.Addr.mk t (0 : Nat) Option.none)))),
  ((10 : Nat), Option.some (Go.Value.pointer (Option.some (Go.Addr.mk x (0 : Nat) Option.none)))),
  ((12 : Nat), Option.some (Go.Value.int Go.IntKind.i64 (Go.IntKind.wrap Go.IntKind.i64 (i + (1 : Int)))))]
  σ21))))))
  (K (Go.Value.tuple (Array.mk [Go.Value.pointer (Option.some (Go.Addr.mk t (0 : Nat) Option.none)), Go.Value.pointer (Option.some (Go.Addr.mk x (0 : Nat) Option.none))])) σ) := by
  intros
  kernel_rfl

theorem s19 : ∀ (T : Go.AI.Ct) (r0_1 r1_1 r2_1 r3_1 x y : Int) (σ : Go.AI.AS) (K : Go.Value → Go.AI.AS → Prop),
  Go.AI.fw Go.Proofs.Try.prog Go.AI.hintsS T (19 : Nat)
  [Go.Value.agg (Array.mk [Go.Value.int Go.IntKind.i64 r0_1, Go.Value.int Go.IntKind.i64 r1_1, Go.Value.int Go.IntKind.i64 r2_1, Go.Value.int Go.IntKind.i64 r3_1]), Go.Value.int Go.IntKind.i64 x,
  Go.Value.int Go.IntKind.i64 y]
  σ K =
  Go.AI.newAt σ (Go.AI.AObj.row Go.AI.RK.plain [Go.Value.int Go.IntKind.i64 r0_1, Go.Value.int Go.IntKind.i64 r1_1, Go.Value.int Go.IntKind.i64 r2_1, Go.Value.int Go.IntKind.i64 r3_1])
  fun (i0 : Nat) (σ1 : Go.AI.AS) ↦
  Go.AI.ldc σ1 (Go.Addr.mk i0 (0 : Nat) Option.none) fun (v2 : Go.Value) ↦
  Go.AI.tI Go.IntKind.i64 v2 fun (n3 : Int) ↦
  Go.AI.bmatch (Decidable.decide (x ≥ n3))
  (Go.AI.ldc σ1 (Go.Addr.mk i0 (0 : Nat) Option.none) fun (v4 : Go.Value) ↦
  Go.AI.tI Go.IntKind.i64 v4 fun (n5 : Int) ↦
  Go.AI.ldc σ1 (Go.Addr.mk i0 ((0 : Nat) + (2 : Nat)) Option.none) fun (v6 : Go.Value) ↦
  Go.AI.tI Go.IntKind.i64 v6 fun (n7 : Int) ↦
  Go.AI.bmatch (Decidable.decide (x < Go.IntKind.wrap Go.IntKind.i64 (n5 + n7)))
  (Go.AI.ldc σ1 (Go.Addr.mk i0 ((0 : Nat) + (1 : Nat)) Option.none) fun (v8 : Go.Value) ↦
  Go.AI.tI Go.IntKind.i64 v8 fun (n9 : Int) ↦
  Go.AI.bmatch (Decidable.decide (y ≥ n9))
  (Go.AI.ldc σ1 (Go.Addr.mk i0 ((0 : Nat) + (1 : Nat)) Option.none) fun (v10 : Go.Value) ↦
  Go.AI.tI Go.IntKind.i64 v10 fun (n11 : Int) ↦
  Go.AI.ldc σ1 (Go.Addr.mk i0 ((0 : Nat) + (3 : Nat)) Option.none) fun (v12 : Go.Value) ↦
  Go.AI.tI Go.IntKind.i64 v12 fun (n13 : Int) ↦ K (Go.Value.bool (Decidable.decide (y < Go.IntKind.wrap Go.IntKind.i64 (n11 + n13)))) σ1)
  (K (Go.Value.bool Bool.false) σ1))
  (K (Go.Value.bool Bool.false) σ1))
  (K (Go.Value.bool Bool.false) σ1) := by
  intros
  kernel_rfl

end Go.AI
