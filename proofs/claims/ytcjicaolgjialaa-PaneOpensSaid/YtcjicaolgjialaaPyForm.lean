/- Lemmas of the abstract condition ahead of code (a part of the library that the claim's proof stands on); they hold with no condition but those that each names. -/
import Derived.Test.YtcjicaolgjialaaPySoft
import Derived.Test.YtcjicaolgjialaaAIJoin
section
/- The conditions ahead of the calls of the program's functions, reckoned as far as they go (equations that the kernel checks); no condition. -/
set_option maxRecDepth 1000000
set_option linter.unusedVariables false
namespace Go.AI
open Go.Proofs
theorem s31 : ∀ (T : Go.AI.Ct) (w h : Int) (σ : Go.AI.AS) (K : Go.Value → Go.AI.AS → Prop),
  Go.AI.fw Go.Proofs.Try.prog Go.AI.hintsS T (31 : Nat) [Go.Value.int Go.IntKind.i64 w, Go.Value.int Go.IntKind.i64 h] σ K =
  T (49 : Nat) [Go.Value.int Go.IntKind.i64 w] σ fun (v0 : Go.Value) (σ1 : Go.AI.AS) ↦
  Go.AI.tB v0 fun (b2 : Bool) ↦
  Go.AI.bmatch (!b2) (K (Go.Value.tuple (Array.mk [Go.Value.pointer Option.none, Go.Value.int Go.IntKind.i64 (1 : Int)])) σ1)
  (T (49 : Nat) [Go.Value.int Go.IntKind.i64 h] σ1 fun (v3 : Go.Value) (σ4 : Go.AI.AS) ↦
  Go.AI.tB v3 fun (b5 : Bool) ↦
  Go.AI.bmatch (!b5) (K (Go.Value.tuple (Array.mk [Go.Value.pointer Option.none, Go.Value.int Go.IntKind.i64 (1 : Int)])) σ4)
  (Go.AI.newAt σ4 (Go.AI.AObj.map [] (0 : Nat)) fun (i6 : Nat) (σ7 : Go.AI.AS) ↦
  Go.AI.newAt σ7
  (Go.AI.AObj.row Go.AI.RK.plain
  [Go.Value.int Go.IntKind.i64 w, Go.Value.int Go.IntKind.i64 h, Go.Value.int Go.IntKind.i64 (0 : Int), Go.Value.int Go.IntKind.i64 (0 : Int), Go.Value.map (Option.some i6)])
  fun (i8 : Nat) (σ9 : Go.AI.AS) ↦ K (Go.Value.tuple (Array.mk [Go.Value.pointer (Option.some (Go.Addr.mk i8 (0 : Nat) Option.none)), Go.Value.int Go.IntKind.i64 (0 : Int)])) σ9)) := by
  intros
  kernel_rfl

theorem s49 : ∀ (T : Go.AI.Ct) (n : Int) (σ : Go.AI.AS) (K : Go.Value → Go.AI.AS → Prop),
  Go.AI.fw Go.Proofs.Try.prog Go.AI.hintsS T (49 : Nat) [Go.Value.int Go.IntKind.i64 n] σ K =
  Go.AI.bmatch (Decidable.decide (n ≥ (0 : Int))) (K (Go.Value.bool (Decidable.decide (n ≤ (1000 : Int)))) σ) (K (Go.Value.bool Bool.false) σ) := by
  intros
  kernel_rfl

theorem s44 : ∀ (T : Go.AI.Ct) (n : Int) (σ : Go.AI.AS) (K : Go.Value → Go.AI.AS → Prop),
  Go.AI.fw Go.Proofs.Try.prog Go.AI.hintsS T (44 : Nat) [Go.Value.int Go.IntKind.i64 n] σ K =
  Go.AI.bmatch (Go.AI.iandn Go.IntKind.i64 n (15 : Int) == (16 : Int))
  (Go.AI.bmatch (Decidable.decide (Go.AI.iand Go.IntKind.i64 n (15 : Int) ≤ (3 : Int))) (K (Go.Value.bool Bool.true) σ)
  (Go.AI.bmatch (Go.AI.iandn Go.IntKind.i64 n (15 : Int) == (32 : Int)) (K (Go.Value.bool (Decidable.decide (Go.AI.iand Go.IntKind.i64 n (15 : Int) ≤ (3 : Int)))) σ) (K (Go.Value.bool Bool.false) σ)))
  (Go.AI.bmatch (Go.AI.iandn Go.IntKind.i64 n (15 : Int) == (32 : Int)) (K (Go.Value.bool (Decidable.decide (Go.AI.iand Go.IntKind.i64 n (15 : Int) ≤ (3 : Int)))) σ) (K (Go.Value.bool Bool.false) σ)) := by
  intros
  kernel_rfl

theorem s41 : ∀ (T : Go.AI.Ct) (n : Int) (σ : Go.AI.AS) (K : Go.Value → Go.AI.AS → Prop),
  Go.AI.fw Go.Proofs.Try.prog Go.AI.hintsS T (41 : Nat) [Go.Value.int Go.IntKind.i64 n] σ K = K (Go.Value.bool (Decidable.decide (Go.AI.iand Go.IntKind.i64 n (15 : Int) < (2 : Int)))) σ := by
  intros
  kernel_rfl

theorem s43 : ∀ (T : Go.AI.Ct) (t w : Nat) (σ : Go.AI.AS) (K : Go.Value → Go.AI.AS → Prop),
  Go.AI.fw Go.Proofs.Try.prog Go.AI.hintsS T (43 : Nat) [Go.Value.pointer (Option.some (Go.Addr.mk t (0 : Nat) Option.none)), Go.Value.pointer (Option.some (Go.Addr.mk w (0 : Nat) Option.none))] σ K =
  Go.AI.ldc σ (Go.Addr.mk t ((0 : Nat) + (3 : Nat)) Option.none) fun (v0 : Go.Value) ↦
  Go.AI.tI Go.IntKind.i64 v0 fun (n1 : Int) ↦
  Go.AI.put1 σ (Go.Addr.mk t ((0 : Nat) + (3 : Nat)) Option.none) (Go.Value.int Go.IntKind.i64 (Go.IntKind.wrap Go.IntKind.i64 (n1 + (1 : Int)))) fun (σ2 : Go.AI.AS) ↦
  Go.AI.ldc σ2 (Go.Addr.mk t ((0 : Nat) + (4 : Nat)) Option.none) fun (v3 : Go.Value) ↦
  Go.AI.tM v3 fun (b4 : Option Nat) ↦
  Go.AI.ldc σ2 (Go.Addr.mk t ((0 : Nat) + (3 : Nat)) Option.none) fun (v5 : Go.Value) ↦
  Go.AI.tI Go.IntKind.i64 v5 fun (n6 : Int) ↦
  Go.AI.pSome b4 fun (i7 : Nat) ↦
  Go.AI.mset σ2 (Go.TypeDesc.int Go.IntKind.i64) i7 (Go.Value.int Go.IntKind.i64 n6) (Go.Value.pointer (Option.some (Go.Addr.mk w (0 : Nat) Option.none))) fun (σ8 : Go.AI.AS) ↦
  Go.AI.ldc σ8 (Go.Addr.mk t ((0 : Nat) + (3 : Nat)) Option.none) fun (v9 : Go.Value) ↦ Go.AI.tI Go.IntKind.i64 v9 fun (n10 : Int) ↦ K (Go.Value.int Go.IntKind.i64 n10) σ8 := by
  intros
  kernel_rfl

theorem s45 : ∀ (T : Go.AI.Ct) (t : Nat) (p was now : Int) (σ : Go.AI.AS) (K : Go.Value → Go.AI.AS → Prop),
  Go.AI.fw Go.Proofs.Try.prog Go.AI.hintsS T (45 : Nat)
  [Go.Value.pointer (Option.some (Go.Addr.mk t (0 : Nat) Option.none)), Go.Value.int Go.IntKind.i64 p, Go.Value.int Go.IntKind.i64 was, Go.Value.int Go.IntKind.i64 now] σ K =
  Go.AI.ldc σ (Go.Addr.mk t ((0 : Nat) + (4 : Nat)) Option.none) fun (v0 : Go.Value) ↦
  Go.AI.tM v0 fun (b1 : Option Nat) ↦
  Go.AI.mget σ (Go.TypeDesc.int Go.IntKind.i64) b1 (Go.Value.int Go.IntKind.i64 now) fun (o2 : Option Go.Value) ↦
  Go.AI.tP (Option.getD o2 (Go.Value.pointer Option.none)) fun (b3 : Option Go.Addr) ↦
  Go.AI.pSome b3 fun (a4 : Go.Addr) ↦
  Go.AI.put1 σ (Go.Addr.mk (Go.Addr.block a4) (Go.Addr.off a4 + (1 : Nat)) Option.none) (Go.Value.int Go.IntKind.i64 p) fun (σ5 : Go.AI.AS) ↦
  Go.AI.bmatch (p == (0 : Int)) (Go.AI.put1 σ5 (Go.Addr.mk t ((0 : Nat) + (2 : Nat)) Option.none) (Go.Value.int Go.IntKind.i64 now) fun (σ6 : Go.AI.AS) ↦ K (Go.Value.tuple (Array.mk [])) σ6)
  (Go.AI.ldc σ5 (Go.Addr.mk t ((0 : Nat) + (4 : Nat)) Option.none) fun (v7 : Go.Value) ↦
  Go.AI.tM v7 fun (b8 : Option Nat) ↦
  Go.AI.mget σ5 (Go.TypeDesc.int Go.IntKind.i64) b8 (Go.Value.int Go.IntKind.i64 p) fun (o9 : Option Go.Value) ↦
  Go.AI.tP (Option.getD o9 (Go.Value.pointer Option.none)) fun (b10 : Option Go.Addr) ↦
  Go.AI.pSome b10 fun (a11 : Go.Addr) ↦
  Go.AI.lds σ5 (Go.Addr.mk (Go.Addr.block a11) (Go.Addr.off a11 + (2 : Nat)) Option.none) (2 : Nat) fun (l12 : List Go.Value) ↦
  Go.AI.tCons l12 fun (v13 : Go.Value) (l14 : List Go.Value) ↦
  Go.AI.tI Go.IntKind.i64 v13 fun (n15 : Int) ↦
  Go.AI.tCons l14 fun (v16 : Go.Value) (l17 : List Go.Value) ↦
  Go.AI.tI Go.IntKind.i64 v16 fun (n18 : Int) ↦
  Go.AI.tNil l17
  (Go.AI.ALoop (Go.AI.fl Go.Proofs.Try.prog Go.AI.hintsS T (45 : Nat) [Bool.true, Bool.true, Bool.true, Bool.true, Bool.false] [] K)
  [((2 : Nat), Option.some (Go.Value.int Go.IntKind.i64 was)), ((3 : Nat), Option.some (Go.Value.int Go.IntKind.i64 now)), ((8 : Nat), Option.some (Go.Value.pointer b10)),
  ((35 : Nat), Option.some (Go.Value.agg (Array.mk [Go.Value.int Go.IntKind.i64 n15, Go.Value.int Go.IntKind.i64 n18]))),
  ((36 : Nat), Option.some (Go.Value.int Go.IntKind.i64 (0 : Int)))]
  σ5)) := by
  intros
  kernel_rfl

theorem s45l0 : ∀ (T : Go.AI.Ct) (was now : Int) (p : Nat) (k0_1 k1_1 : Int) (X : Go.AI.Regs → Go.AI.AS → Prop) (σ : Go.AI.AS) (K : Go.Value → Go.AI.AS → Prop),
  Go.AI.fl Go.Proofs.Try.prog Go.AI.hintsS T (45 : Nat) [Bool.true, Bool.true, Bool.true, Bool.true, Bool.false] [] K X
  [((2 : Nat), Option.some (Go.Value.int Go.IntKind.i64 was)), ((3 : Nat), Option.some (Go.Value.int Go.IntKind.i64 now)),
  ((8 : Nat), Option.some (Go.Value.pointer (Option.some (Go.Addr.mk p (0 : Nat) Option.none)))),
  ((35 : Nat), Option.some (Go.Value.agg (Array.mk [Go.Value.int Go.IntKind.i64 k0_1, Go.Value.int Go.IntKind.i64 k1_1]))), ((36 : Nat), Option.some (Go.Value.int Go.IntKind.i64 (0 : Int)))]
  σ =
  Go.AI.bmatch (k0_1 == was)
  (Go.AI.put1 σ (Go.Addr.mk p ((0 : Nat) + (2 : Nat)) Option.none) (Go.Value.int Go.IntKind.i64 now) fun (σ0 : Go.AI.AS) ↦
  X
  [((2 : Nat), Option.some (Go.Value.int Go.IntKind.i64 was)), ((3 : Nat), Option.some (Go.Value.int Go.IntKind.i64 now)),
  ((8 : Nat), Option.some (Go.Value.pointer (Option.some (Go.Addr.mk p (0 : Nat) Option.none)))),
  ((35 : Nat), Option.some (Go.Value.agg (Array.mk [Go.Value.int Go.IntKind.i64 k0_1, Go.Value.int Go.IntKind.i64 k1_1]))), ((36 : Nat), Option.some (Go.Value.int Go.IntKind.i64 (1 : Int)))]
  σ0)
  (X
  [((2 : Nat), Option.some (Go.Value.int Go.IntKind.i64 was)), ((3 : Nat), Option.some (Go.Value.int Go.IntKind.i64 now)),
  ((8 : Nat), Option.some (Go.Value.pointer (Option.some (Go.Addr.mk p (0 : Nat) Option.none)))),
  ((35 : Nat), Option.some (Go.Value.agg (Array.mk [Go.Value.int Go.IntKind.i64 k0_1, Go.Value.int Go.IntKind.i64 k1_1]))), ((36 : Nat), Option.some (Go.Value.int Go.IntKind.i64 (1 : Int)))]
  σ) := by
  intros
  kernel_rfl

theorem s45l1 : ∀ (T : Go.AI.Ct) (was now : Int) (p : Nat) (k0_1 k1_1 : Int) (X : Go.AI.Regs → Go.AI.AS → Prop) (σ : Go.AI.AS) (K : Go.Value → Go.AI.AS → Prop),
  Go.AI.fl Go.Proofs.Try.prog Go.AI.hintsS T (45 : Nat) [Bool.true, Bool.true, Bool.true, Bool.true, Bool.false] [] K X
  [((2 : Nat), Option.some (Go.Value.int Go.IntKind.i64 was)), ((3 : Nat), Option.some (Go.Value.int Go.IntKind.i64 now)),
  ((8 : Nat), Option.some (Go.Value.pointer (Option.some (Go.Addr.mk p (0 : Nat) Option.none)))),
  ((35 : Nat), Option.some (Go.Value.agg (Array.mk [Go.Value.int Go.IntKind.i64 k0_1, Go.Value.int Go.IntKind.i64 k1_1]))), ((36 : Nat), Option.some (Go.Value.int Go.IntKind.i64 (1 : Int)))]
  σ =
  Go.AI.bmatch (k1_1 == was)
  (Go.AI.put1 σ (Go.Addr.mk p ((0 : Nat) + (2 : Nat) + Int.toNat (1 : Int) * Go.AI.szOf Go.Proofs.Try.prog (3 : Nat)) Option.none) (Go.Value.int Go.IntKind.i64 now) fun (σ0 : Go.AI.AS) ↦
  X
  [((2 : Nat), Option.some (Go.Value.int Go.IntKind.i64 was)), ((3 : Nat), Option.some (Go.Value.int Go.IntKind.i64 now)),
  ((8 : Nat), Option.some (Go.Value.pointer (Option.some (Go.Addr.mk p (0 : Nat) Option.none)))),
  ((35 : Nat), Option.some (Go.Value.agg (Array.mk [Go.Value.int Go.IntKind.i64 k0_1, Go.Value.int Go.IntKind.i64 k1_1]))), ((36 : Nat), Option.some (Go.Value.int Go.IntKind.i64 (2 : Int)))]
  σ0)
  (X
  [((2 : Nat), Option.some (Go.Value.int Go.IntKind.i64 was)), ((3 : Nat), Option.some (Go.Value.int Go.IntKind.i64 now)),
  ((8 : Nat), Option.some (Go.Value.pointer (Option.some (Go.Addr.mk p (0 : Nat) Option.none)))),
  ((35 : Nat), Option.some (Go.Value.agg (Array.mk [Go.Value.int Go.IntKind.i64 k0_1, Go.Value.int Go.IntKind.i64 k1_1]))), ((36 : Nat), Option.some (Go.Value.int Go.IntKind.i64 (2 : Int)))]
  σ) := by
  intros
  kernel_rfl

theorem s45l2 : ∀ (T : Go.AI.Ct) (was now : Int) (p : Nat) (k0_1 k1_1 : Int) (X : Go.AI.Regs → Go.AI.AS → Prop) (σ : Go.AI.AS) (K : Go.Value → Go.AI.AS → Prop),
  Go.AI.fl Go.Proofs.Try.prog Go.AI.hintsS T (45 : Nat) [Bool.true, Bool.true, Bool.true, Bool.true, Bool.false] [] K X
  [((2 : Nat), Option.some (Go.Value.int Go.IntKind.i64 was)), ((3 : Nat), Option.some (Go.Value.int Go.IntKind.i64 now)),
  ((8 : Nat), Option.some (Go.Value.pointer (Option.some (Go.Addr.mk p (0 : Nat) Option.none)))),
  ((35 : Nat), Option.some (Go.Value.agg (Array.mk [Go.Value.int Go.IntKind.i64 k0_1, Go.Value.int Go.IntKind.i64 k1_1]))), ((36 : Nat), Option.some (Go.Value.int Go.IntKind.i64 (2 : Int)))]
  σ =
  K (Go.Value.tuple (Array.mk [])) σ := by
  intros
  kernel_rfl

theorem s22 : ∀ (T : Go.AI.Ct) (t : Nat) (split m size kind : Int) (σ : Go.AI.AS) (K : Go.Value → Go.AI.AS → Prop),
  Go.AI.fw Go.Proofs.Try.prog Go.AI.hintsS T (22 : Nat)
  [Go.Value.pointer (Option.some (Go.Addr.mk t (0 : Nat) Option.none)), Go.Value.int Go.IntKind.i64 split, Go.Value.int Go.IntKind.i64 m, Go.Value.int Go.IntKind.u32 size, Go.Value.int Go.IntKind.i64 kind]
  σ K =
  Go.AI.bmatch (Decidable.decide (kind < (1 : Int))) (K (Go.Value.tuple (Array.mk [Go.Value.int Go.IntKind.i64 (0 : Int), Go.Value.int Go.IntKind.i64 (1 : Int)])) σ)
  (Go.AI.bmatch (Decidable.decide (kind > (3 : Int))) (K (Go.Value.tuple (Array.mk [Go.Value.int Go.IntKind.i64 (0 : Int), Go.Value.int Go.IntKind.i64 (1 : Int)])) σ)
  (Go.AI.bmatch (split == (0 : Int))
  (Go.AI.ldc σ (Go.Addr.mk t ((0 : Nat) + (2 : Nat)) Option.none) fun (v0 : Go.Value) ↦
  Go.AI.tI Go.IntKind.i64 v0 fun (n1 : Int) ↦
  Go.AI.bmatch (n1 != (0 : Int)) (K (Go.Value.tuple (Array.mk [Go.Value.int Go.IntKind.i64 (0 : Int), Go.Value.int Go.IntKind.i64 (6 : Int)])) σ)
  (Go.AI.bmatch (split == (0 : Int))
  (Go.AI.newAt σ
  (Go.AI.AObj.row Go.AI.RK.plain
  [Go.Value.int Go.IntKind.i64 kind, Go.Value.int Go.IntKind.i64 (0 : Int), Go.Value.int Go.IntKind.i64 (0 : Int), Go.Value.int Go.IntKind.i64 (0 : Int), Go.Value.int Go.IntKind.i64 (0 : Int),
  Go.Value.int Go.IntKind.u32 (0 : Int), Go.Value.int Go.IntKind.i64 (0 : Int)])
  fun (i2 : Nat) (σ3 : Go.AI.AS) ↦
  T (43 : Nat) [Go.Value.pointer (Option.some (Go.Addr.mk t (0 : Nat) Option.none)), Go.Value.pointer (Option.some (Go.Addr.mk i2 (0 : Nat) Option.none))] σ3 fun (v4 : Go.Value) (σ5 : Go.AI.AS) ↦
  Go.AI.tI Go.IntKind.i64 v4 fun (n6 : Int) ↦
  Go.AI.put1 σ5 (Go.Addr.mk t ((0 : Nat) + (2 : Nat)) Option.none) (Go.Value.int Go.IntKind.i64 n6) fun (σ7 : Go.AI.AS) ↦
  Go.AI.ldc σ7 (Go.Addr.mk t ((0 : Nat) + (2 : Nat)) Option.none) fun (v8 : Go.Value) ↦
  Go.AI.tI Go.IntKind.i64 v8 fun (n9 : Int) ↦ K (Go.Value.tuple (Array.mk [Go.Value.int Go.IntKind.i64 n9, Go.Value.int Go.IntKind.i64 (0 : Int)])) σ7)
  (Go.AI.ldc σ (Go.Addr.mk t ((0 : Nat) + (4 : Nat)) Option.none) fun (v10 : Go.Value) ↦
  Go.AI.tM v10 fun (b11 : Option Nat) ↦
  Go.AI.mget σ (Go.TypeDesc.int Go.IntKind.i64) b11 (Go.Value.int Go.IntKind.i64 split) fun (o12 : Option Go.Value) ↦
  Go.AI.tP (Option.getD o12 (Go.Value.pointer Option.none)) fun (b13 : Option Go.Addr) ↦
  Go.AI.ptrEq σ b13 Option.none fun (r14 : Bool) ↦
  Go.AI.bmatch r14 (K (Go.Value.tuple (Array.mk [Go.Value.int Go.IntKind.i64 (0 : Int), Go.Value.int Go.IntKind.i64 (5 : Int)])) σ)
  (T (44 : Nat) [Go.Value.int Go.IntKind.i64 m] σ fun (v15 : Go.Value) (σ16 : Go.AI.AS) ↦
  Go.AI.tB v15 fun (b17 : Bool) ↦
  Go.AI.bmatch (!b17) (K (Go.Value.tuple (Array.mk [Go.Value.int Go.IntKind.i64 (0 : Int), Go.Value.int Go.IntKind.i64 (1 : Int)])) σ16)
  (Go.AI.ldc σ16 (Go.Addr.mk t ((0 : Nat) + (4 : Nat)) Option.none) fun (v18 : Go.Value) ↦
  Go.AI.tM v18 fun (b19 : Option Nat) ↦
  Go.AI.mlen σ16 b19 fun (n20 : Int) ↦
  Go.AI.bmatch (Decidable.decide (Go.IntKind.wrap Go.IntKind.i64 (n20 + (2 : Int)) > (64 : Int)))
  (K (Go.Value.tuple (Array.mk [Go.Value.int Go.IntKind.i64 (0 : Int), Go.Value.int Go.IntKind.i64 (4 : Int)])) σ16)
  (Go.AI.newAt σ16
  (Go.AI.AObj.row Go.AI.RK.plain
  [Go.Value.int Go.IntKind.i64 kind, Go.Value.int Go.IntKind.i64 (0 : Int), Go.Value.int Go.IntKind.i64 (0 : Int), Go.Value.int Go.IntKind.i64 (0 : Int),
  Go.Value.int Go.IntKind.i64 (0 : Int), Go.Value.int Go.IntKind.u32 (0 : Int), Go.Value.int Go.IntKind.i64 (0 : Int)])
  fun (i21 : Nat) (σ22 : Go.AI.AS) ↦
  T (43 : Nat) [Go.Value.pointer (Option.some (Go.Addr.mk t (0 : Nat) Option.none)), Go.Value.pointer (Option.some (Go.Addr.mk i21 (0 : Nat) Option.none))] σ22
  fun (v23 : Go.Value) (σ24 : Go.AI.AS) ↦
  Go.AI.tI Go.IntKind.i64 v23 fun (n25 : Int) ↦
  Go.AI.newAt σ24
  (Go.AI.AObj.row Go.AI.RK.plain
  [Go.Value.int Go.IntKind.i64 (4 : Int), Go.Value.int Go.IntKind.i64 (0 : Int), Go.Value.int Go.IntKind.i64 split, Go.Value.int Go.IntKind.i64 n25,
  Go.Value.int Go.IntKind.i64 m, Go.Value.int Go.IntKind.u32 size, Go.Value.int Go.IntKind.i64 n25])
  fun (i26 : Nat) (σ27 : Go.AI.AS) ↦
  Go.AI.bmatch (Go.AI.iand Go.IntKind.i64 m (1 : Int) == (0 : Int))
  (Go.AI.puts σ27 (Go.Addr.mk i26 ((0 : Nat) + (2 : Nat)) Option.none) [Go.Value.int Go.IntKind.i64 n25, Go.Value.int Go.IntKind.i64 split] fun (σ28 : Go.AI.AS) ↦
  Go.AI.JoinS (Go.AI.jn Go.Proofs.Try.prog Go.AI.hintsS T (22 : Nat) [Bool.true, Bool.true, Bool.true, Bool.true, Bool.true, Bool.true] [] K)
  [((0 : Nat), Option.some (Go.Value.pointer (Option.some (Go.Addr.mk t (0 : Nat) Option.none)))), ((1 : Nat), Option.some (Go.Value.int Go.IntKind.i64 split)),
  ((12 : Nat), Option.some (Go.Value.pointer b13)), ((13 : Nat), Option.some (Go.Value.int Go.IntKind.i64 n25)),
  ((14 : Nat), Option.some (Go.Value.pointer (Option.some (Go.Addr.mk i26 (0 : Nat) Option.none))))]
  σ28)
  (Go.AI.JoinS (Go.AI.jn Go.Proofs.Try.prog Go.AI.hintsS T (22 : Nat) [Bool.true, Bool.true, Bool.true, Bool.true, Bool.true, Bool.true] [] K)
  [((0 : Nat), Option.some (Go.Value.pointer (Option.some (Go.Addr.mk t (0 : Nat) Option.none)))), ((1 : Nat), Option.some (Go.Value.int Go.IntKind.i64 split)),
  ((12 : Nat), Option.some (Go.Value.pointer b13)), ((13 : Nat), Option.some (Go.Value.int Go.IntKind.i64 n25)),
  ((14 : Nat), Option.some (Go.Value.pointer (Option.some (Go.Addr.mk i26 (0 : Nat) Option.none))))]
  σ27)))))))
  (Go.AI.bmatch (split == (0 : Int))
  (Go.AI.newAt σ
  (Go.AI.AObj.row Go.AI.RK.plain
  [Go.Value.int Go.IntKind.i64 kind, Go.Value.int Go.IntKind.i64 (0 : Int), Go.Value.int Go.IntKind.i64 (0 : Int), Go.Value.int Go.IntKind.i64 (0 : Int), Go.Value.int Go.IntKind.i64 (0 : Int),
  Go.Value.int Go.IntKind.u32 (0 : Int), Go.Value.int Go.IntKind.i64 (0 : Int)])
  fun (i29 : Nat) (σ30 : Go.AI.AS) ↦
  T (43 : Nat) [Go.Value.pointer (Option.some (Go.Addr.mk t (0 : Nat) Option.none)), Go.Value.pointer (Option.some (Go.Addr.mk i29 (0 : Nat) Option.none))] σ30 fun (v31 : Go.Value) (σ32 : Go.AI.AS) ↦
  Go.AI.tI Go.IntKind.i64 v31 fun (n33 : Int) ↦
  Go.AI.put1 σ32 (Go.Addr.mk t ((0 : Nat) + (2 : Nat)) Option.none) (Go.Value.int Go.IntKind.i64 n33) fun (σ34 : Go.AI.AS) ↦
  Go.AI.ldc σ34 (Go.Addr.mk t ((0 : Nat) + (2 : Nat)) Option.none) fun (v35 : Go.Value) ↦
  Go.AI.tI Go.IntKind.i64 v35 fun (n36 : Int) ↦ K (Go.Value.tuple (Array.mk [Go.Value.int Go.IntKind.i64 n36, Go.Value.int Go.IntKind.i64 (0 : Int)])) σ34)
  (Go.AI.ldc σ (Go.Addr.mk t ((0 : Nat) + (4 : Nat)) Option.none) fun (v37 : Go.Value) ↦
  Go.AI.tM v37 fun (b38 : Option Nat) ↦
  Go.AI.mget σ (Go.TypeDesc.int Go.IntKind.i64) b38 (Go.Value.int Go.IntKind.i64 split) fun (o39 : Option Go.Value) ↦
  Go.AI.tP (Option.getD o39 (Go.Value.pointer Option.none)) fun (b40 : Option Go.Addr) ↦
  Go.AI.ptrEq σ b40 Option.none fun (r41 : Bool) ↦
  Go.AI.bmatch r41 (K (Go.Value.tuple (Array.mk [Go.Value.int Go.IntKind.i64 (0 : Int), Go.Value.int Go.IntKind.i64 (5 : Int)])) σ)
  (T (44 : Nat) [Go.Value.int Go.IntKind.i64 m] σ fun (v42 : Go.Value) (σ43 : Go.AI.AS) ↦
  Go.AI.tB v42 fun (b44 : Bool) ↦
  Go.AI.bmatch (!b44) (K (Go.Value.tuple (Array.mk [Go.Value.int Go.IntKind.i64 (0 : Int), Go.Value.int Go.IntKind.i64 (1 : Int)])) σ43)
  (Go.AI.ldc σ43 (Go.Addr.mk t ((0 : Nat) + (4 : Nat)) Option.none) fun (v45 : Go.Value) ↦
  Go.AI.tM v45 fun (b46 : Option Nat) ↦
  Go.AI.mlen σ43 b46 fun (n47 : Int) ↦
  Go.AI.bmatch (Decidable.decide (Go.IntKind.wrap Go.IntKind.i64 (n47 + (2 : Int)) > (64 : Int)))
  (K (Go.Value.tuple (Array.mk [Go.Value.int Go.IntKind.i64 (0 : Int), Go.Value.int Go.IntKind.i64 (4 : Int)])) σ43)
  (Go.AI.newAt σ43
  (Go.AI.AObj.row Go.AI.RK.plain
  [Go.Value.int Go.IntKind.i64 kind, Go.Value.int Go.IntKind.i64 (0 : Int), Go.Value.int Go.IntKind.i64 (0 : Int), Go.Value.int Go.IntKind.i64 (0 : Int),
  Go.Value.int Go.IntKind.i64 (0 : Int), Go.Value.int Go.IntKind.u32 (0 : Int), Go.Value.int Go.IntKind.i64 (0 : Int)])
  fun (i48 : Nat) (σ49 : Go.AI.AS) ↦
  T (43 : Nat) [Go.Value.pointer (Option.some (Go.Addr.mk t (0 : Nat) Option.none)), Go.Value.pointer (Option.some (Go.Addr.mk i48 (0 : Nat) Option.none))] σ49
  fun (v50 : Go.Value) (σ51 : Go.AI.AS) ↦
  Go.AI.tI Go.IntKind.i64 v50 fun (n52 : Int) ↦
  Go.AI.newAt σ51
  (Go.AI.AObj.row Go.AI.RK.plain
  [Go.Value.int Go.IntKind.i64 (4 : Int), Go.Value.int Go.IntKind.i64 (0 : Int), Go.Value.int Go.IntKind.i64 split, Go.Value.int Go.IntKind.i64 n52,
  Go.Value.int Go.IntKind.i64 m, Go.Value.int Go.IntKind.u32 size, Go.Value.int Go.IntKind.i64 n52])
  fun (i53 : Nat) (σ54 : Go.AI.AS) ↦
  Go.AI.bmatch (Go.AI.iand Go.IntKind.i64 m (1 : Int) == (0 : Int))
  (Go.AI.puts σ54 (Go.Addr.mk i53 ((0 : Nat) + (2 : Nat)) Option.none) [Go.Value.int Go.IntKind.i64 n52, Go.Value.int Go.IntKind.i64 split] fun (σ55 : Go.AI.AS) ↦
  Go.AI.JoinS (Go.AI.jn Go.Proofs.Try.prog Go.AI.hintsS T (22 : Nat) [Bool.true, Bool.true, Bool.true, Bool.true, Bool.true, Bool.true] [] K)
  [((0 : Nat), Option.some (Go.Value.pointer (Option.some (Go.Addr.mk t (0 : Nat) Option.none)))), ((1 : Nat), Option.some (Go.Value.int Go.IntKind.i64 split)),
  ((12 : Nat), Option.some (Go.Value.pointer b40)), ((13 : Nat), Option.some (Go.Value.int Go.IntKind.i64 n52)),
  ((14 : Nat), Option.some (Go.Value.pointer (Option.some (Go.Addr.mk i53 (0 : Nat) Option.none))))]
  σ55)
  (Go.AI.JoinS (Go.AI.jn Go.Proofs.Try.prog Go.AI.hintsS T (22 : Nat) [Bool.true, Bool.true, Bool.true, Bool.true, Bool.true, Bool.true] [] K)
  [((0 : Nat), Option.some (Go.Value.pointer (Option.some (Go.Addr.mk t (0 : Nat) Option.none)))), ((1 : Nat), Option.some (Go.Value.int Go.IntKind.i64 split)),
  ((12 : Nat), Option.some (Go.Value.pointer b40)), ((13 : Nat), Option.some (Go.Value.int Go.IntKind.i64 n52)),
  ((14 : Nat), Option.some (Go.Value.pointer (Option.some (Go.Addr.mk i53 (0 : Nat) Option.none))))]
  σ54)))))))) := by
  intros
  kernel_rfl

theorem s22j : ∀ (T : Go.AI.Ct) (t o p : Nat) (split win : Int) (σ : Go.AI.AS) (K : Go.Value → Go.AI.AS → Prop),
  Go.AI.jn Go.Proofs.Try.prog Go.AI.hintsS T (22 : Nat) [Bool.true, Bool.true, Bool.true, Bool.true, Bool.true, Bool.true] [] K
  [((0 : Nat), Option.some (Go.Value.pointer (Option.some (Go.Addr.mk t (0 : Nat) Option.none)))), ((1 : Nat), Option.some (Go.Value.int Go.IntKind.i64 split)),
  ((12 : Nat), Option.some (Go.Value.pointer (Option.some (Go.Addr.mk o (0 : Nat) Option.none)))), ((13 : Nat), Option.some (Go.Value.int Go.IntKind.i64 win)),
  ((14 : Nat), Option.some (Go.Value.pointer (Option.some (Go.Addr.mk p (0 : Nat) Option.none))))]
  σ =
  T (43 : Nat) [Go.Value.pointer (Option.some (Go.Addr.mk t (0 : Nat) Option.none)), Go.Value.pointer (Option.some (Go.Addr.mk p (0 : Nat) Option.none))] σ fun (v0 : Go.Value) (σ1 : Go.AI.AS) ↦
  Go.AI.tI Go.IntKind.i64 v0 fun (n2 : Int) ↦
  Go.AI.ldc σ1 (Go.Addr.mk o ((0 : Nat) + (1 : Nat)) Option.none) fun (v3 : Go.Value) ↦
  Go.AI.tI Go.IntKind.i64 v3 fun (n4 : Int) ↦
  T (45 : Nat) [Go.Value.pointer (Option.some (Go.Addr.mk t (0 : Nat) Option.none)), Go.Value.int Go.IntKind.i64 n4, Go.Value.int Go.IntKind.i64 split, Go.Value.int Go.IntKind.i64 n2] σ1
  fun (v5 : Go.Value) (σ6 : Go.AI.AS) ↦
  Go.AI.ldc σ6 (Go.Addr.mk t ((0 : Nat) + (4 : Nat)) Option.none) fun (v7 : Go.Value) ↦
  Go.AI.tM v7 fun (b8 : Option Nat) ↦
  Go.AI.mget σ6 (Go.TypeDesc.int Go.IntKind.i64) b8 (Go.Value.int Go.IntKind.i64 win) fun (o9 : Option Go.Value) ↦
  Go.AI.tP (Option.getD o9 (Go.Value.pointer Option.none)) fun (b10 : Option Go.Addr) ↦
  Go.AI.put1 σ6 (Go.Addr.mk o ((0 : Nat) + (1 : Nat)) Option.none) (Go.Value.int Go.IntKind.i64 n2) fun (σ11 : Go.AI.AS) ↦
  Go.AI.pSome b10 fun (a12 : Go.Addr) ↦
  Go.AI.put1 σ11 (Go.Addr.mk (Go.Addr.block a12) (Go.Addr.off a12 + (1 : Nat)) Option.none) (Go.Value.int Go.IntKind.i64 n2) fun (σ13 : Go.AI.AS) ↦
  K (Go.Value.tuple (Array.mk [Go.Value.int Go.IntKind.i64 win, Go.Value.int Go.IntKind.i64 (0 : Int)])) σ13 := by
  intros
  kernel_rfl

theorem s46 : ∀ (T : Go.AI.Ct) (t : Nat) (win : Int) (a : Option Go.Addr) (n e : Nat) (σ : Go.AI.AS) (K : Go.Value → Go.AI.AS → Prop),
  Go.AI.fw Go.Proofs.Try.prog Go.AI.hintsS T (46 : Nat) [Go.Value.pointer (Option.some (Go.Addr.mk t (0 : Nat) Option.none)), Go.Value.int Go.IntKind.i64 win, Go.Value.slice a n e] σ K =
  Go.AI.newAt σ (Go.AI.AObj.row Go.AI.RK.rw [Go.Value.int Go.IntKind.i64 win]) fun (i0 : Nat) (σ1 : Go.AI.AS) ↦
  Go.AI.chk (Go.AI.nilOr a e (Go.AI.szOf Go.Proofs.Try.prog (3 : Nat)))
  (Go.AI.lds σ1 (Go.Addr.mk i0 (0 : Nat) Option.none) (1 : Nat) fun (l2 : List Go.Value) ↦
  Go.AI.appendTo σ1 (1 : Nat) (8 : Nat) (Go.AI.Sl.mk a n) l2 (1 : Nat) fun (s3 : Go.AI.Sl) (σ4 : Go.AI.AS) ↦
  Go.AI.ldc σ4 (Go.Addr.mk t ((0 : Nat) + (4 : Nat)) Option.none) fun (v5 : Go.Value) ↦
  Go.AI.tM v5 fun (b6 : Option Nat) ↦
  Go.AI.mget σ4 (Go.TypeDesc.int Go.IntKind.i64) b6 (Go.Value.int Go.IntKind.i64 win) fun (o7 : Option Go.Value) ↦
  Go.AI.tP (Option.getD o7 (Go.Value.pointer Option.none)) fun (b8 : Option Go.Addr) ↦
  Go.AI.pSome b8 fun (a9 : Go.Addr) ↦
  Go.AI.ldc σ4 (Go.Addr.add a9 (0 : Nat)) fun (v10 : Go.Value) ↦
  Go.AI.tI Go.IntKind.i64 v10 fun (n11 : Int) ↦
  Go.AI.bmatch (n11 == (4 : Int))
  (Go.AI.pSome b8 fun (a12 : Go.Addr) ↦
  Go.AI.lds σ4 (Go.Addr.mk (Go.Addr.block a12) (Go.Addr.off a12 + (2 : Nat)) Option.none) (2 : Nat) fun (l13 : List Go.Value) ↦
  Go.AI.tCons l13 fun (v14 : Go.Value) (l15 : List Go.Value) ↦
  Go.AI.tI Go.IntKind.i64 v14 fun (n16 : Int) ↦
  Go.AI.tCons l15 fun (v17 : Go.Value) (l18 : List Go.Value) ↦
  Go.AI.tI Go.IntKind.i64 v17 fun (n19 : Int) ↦
  Go.AI.tNil l18
  (Go.AI.ALoop (Go.AI.fl Go.Proofs.Try.prog Go.AI.hintsS T (46 : Nat) [Bool.true, Bool.true, Bool.false, Bool.true, Bool.true, Bool.false, Bool.true, Bool.false] [] K)
  [((0 : Nat), Option.some (Go.Value.pointer (Option.some (Go.Addr.mk t (0 : Nat) Option.none)))),
  ((2 : Nat), Option.some (Go.Value.slice (Go.AI.Sl.a s3) (Go.AI.Sl.n s3) (1 : Nat))),
  ((28 : Nat), Option.some (Go.Value.agg (Array.mk [Go.Value.int Go.IntKind.i64 n16, Go.Value.int Go.IntKind.i64 n19]))),
  ((29 : Nat), Option.some (Go.Value.int Go.IntKind.i64 (0 : Int)))]
  σ4))
  (K (Go.Value.slice (Go.AI.Sl.a s3) (Go.AI.Sl.n s3) (1 : Nat)) σ4)) := by
  intros
  kernel_rfl

theorem s46l0 : ∀ (T : Go.AI.Ct) (t : Nat) (a : Option Go.Addr) (n e : Nat) (k0_1 k1_1 : Int) (X : Go.AI.Regs → Go.AI.AS → Prop) (σ : Go.AI.AS) (K : Go.Value → Go.AI.AS → Prop),
  Go.AI.fl Go.Proofs.Try.prog Go.AI.hintsS T (46 : Nat) [Bool.true, Bool.true, Bool.false, Bool.true, Bool.true, Bool.false, Bool.true, Bool.false] [] K X
  [((0 : Nat), Option.some (Go.Value.pointer (Option.some (Go.Addr.mk t (0 : Nat) Option.none)))), ((2 : Nat), Option.some (Go.Value.slice a n e)),
  ((28 : Nat), Option.some (Go.Value.agg (Array.mk [Go.Value.int Go.IntKind.i64 k0_1, Go.Value.int Go.IntKind.i64 k1_1]))), ((29 : Nat), Option.some (Go.Value.int Go.IntKind.i64 (0 : Int)))]
  σ =
  T (46 : Nat) [Go.Value.pointer (Option.some (Go.Addr.mk t (0 : Nat) Option.none)), Go.Value.int Go.IntKind.i64 k0_1, Go.Value.slice a n e] σ fun (v0 : Go.Value) (σ1 : Go.AI.AS) ↦
  Go.AI.tL (1 : Nat) v0 fun (s2 : Go.AI.Sl) ↦
  X
  [((0 : Nat), Option.some (Go.Value.pointer (Option.some (Go.Addr.mk t (0 : Nat) Option.none)))), ((2 : Nat), Option.some (Go.Value.slice (Go.AI.Sl.a s2) (Go.AI.Sl.n s2) (1 : Nat))),
  ((28 : Nat), Option.some (Go.Value.agg (Array.mk [Go.Value.int Go.IntKind.i64 k0_1, Go.Value.int Go.IntKind.i64 k1_1]))), ((29 : Nat), Option.some (Go.Value.int Go.IntKind.i64 (1 : Int)))]
  σ1 := by
  intros
  kernel_rfl

theorem s46l1 : ∀ (T : Go.AI.Ct) (t : Nat) (a : Option Go.Addr) (n e : Nat) (k0_1 k1_1 : Int) (X : Go.AI.Regs → Go.AI.AS → Prop) (σ : Go.AI.AS) (K : Go.Value → Go.AI.AS → Prop),
  Go.AI.fl Go.Proofs.Try.prog Go.AI.hintsS T (46 : Nat) [Bool.true, Bool.true, Bool.false, Bool.true, Bool.true, Bool.false, Bool.true, Bool.false] [] K X
  [((0 : Nat), Option.some (Go.Value.pointer (Option.some (Go.Addr.mk t (0 : Nat) Option.none)))), ((2 : Nat), Option.some (Go.Value.slice a n e)),
  ((28 : Nat), Option.some (Go.Value.agg (Array.mk [Go.Value.int Go.IntKind.i64 k0_1, Go.Value.int Go.IntKind.i64 k1_1]))), ((29 : Nat), Option.some (Go.Value.int Go.IntKind.i64 (1 : Int)))]
  σ =
  T (46 : Nat) [Go.Value.pointer (Option.some (Go.Addr.mk t (0 : Nat) Option.none)), Go.Value.int Go.IntKind.i64 k1_1, Go.Value.slice a n e] σ fun (v0 : Go.Value) (σ1 : Go.AI.AS) ↦
  Go.AI.tL (1 : Nat) v0 fun (s2 : Go.AI.Sl) ↦
  X
  [((0 : Nat), Option.some (Go.Value.pointer (Option.some (Go.Addr.mk t (0 : Nat) Option.none)))), ((2 : Nat), Option.some (Go.Value.slice (Go.AI.Sl.a s2) (Go.AI.Sl.n s2) (1 : Nat))),
  ((28 : Nat), Option.some (Go.Value.agg (Array.mk [Go.Value.int Go.IntKind.i64 k0_1, Go.Value.int Go.IntKind.i64 k1_1]))), ((29 : Nat), Option.some (Go.Value.int Go.IntKind.i64 (2 : Int)))]
  σ1 := by
  intros
  kernel_rfl

theorem s46l2 : ∀ (T : Go.AI.Ct) (t : Nat) (a : Option Go.Addr) (n e : Nat) (k0_1 k1_1 : Int) (X : Go.AI.Regs → Go.AI.AS → Prop) (σ : Go.AI.AS) (K : Go.Value → Go.AI.AS → Prop),
  Go.AI.fl Go.Proofs.Try.prog Go.AI.hintsS T (46 : Nat) [Bool.true, Bool.true, Bool.false, Bool.true, Bool.true, Bool.false, Bool.true, Bool.false] [] K X
  [((0 : Nat), Option.some (Go.Value.pointer (Option.some (Go.Addr.mk t (0 : Nat) Option.none)))), ((2 : Nat), Option.some (Go.Value.slice a n e)),
  ((28 : Nat), Option.some (Go.Value.agg (Array.mk [Go.Value.int Go.IntKind.i64 k0_1, Go.Value.int Go.IntKind.i64 k1_1]))), ((29 : Nat), Option.some (Go.Value.int Go.IntKind.i64 (2 : Int)))]
  σ =
  K (Go.Value.slice a n e) σ := by
  intros
  kernel_rfl

theorem s48 : ∀ (T : Go.AI.Ct) (t : Nat) (n : Int) (σ : Go.AI.AS) (K : Go.Value → Go.AI.AS → Prop),
  Go.AI.fw Go.Proofs.Try.prog Go.AI.hintsS T (48 : Nat) [Go.Value.pointer (Option.some (Go.Addr.mk t (0 : Nat) Option.none)), Go.Value.int Go.IntKind.i64 n] σ K =
  Go.AI.ldc σ (Go.Addr.mk t ((0 : Nat) + (4 : Nat)) Option.none) fun (v0 : Go.Value) ↦
  Go.AI.tM v0 fun (b1 : Option Nat) ↦
  Go.AI.mget σ (Go.TypeDesc.int Go.IntKind.i64) b1 (Go.Value.int Go.IntKind.i64 n) fun (o2 : Option Go.Value) ↦
  Go.AI.tP (Option.getD o2 (Go.Value.pointer Option.none)) fun (b3 : Option Go.Addr) ↦
  Go.AI.ptrEq σ b3 Option.none fun (r4 : Bool) ↦
  Go.AI.bmatch r4 (K (Go.Value.tuple (Array.mk [Go.Value.pointer Option.none, Go.Value.int Go.IntKind.i64 (5 : Int)])) σ)
  (Go.AI.pSome b3 fun (a5 : Go.Addr) ↦
  Go.AI.ldc σ (Go.Addr.add a5 (0 : Nat)) fun (v6 : Go.Value) ↦
  Go.AI.tI Go.IntKind.i64 v6 fun (n7 : Int) ↦
  Go.AI.bmatch (n7 != (4 : Int)) (K (Go.Value.tuple (Array.mk [Go.Value.pointer Option.none, Go.Value.int Go.IntKind.i64 (1 : Int)])) σ)
  (K (Go.Value.tuple (Array.mk [Go.Value.pointer b3, Go.Value.int Go.IntKind.i64 (0 : Int)])) σ)) := by
  intros
  kernel_rfl

theorem s36 : ∀ (T : Go.AI.Ct) (t : Nat) (pair m size key : Int) (σ : Go.AI.AS) (K : Go.Value → Go.AI.AS → Prop),
  Go.AI.fw Go.Proofs.Try.prog Go.AI.hintsS T (36 : Nat)
  [Go.Value.pointer (Option.some (Go.Addr.mk t (0 : Nat) Option.none)), Go.Value.int Go.IntKind.i64 pair, Go.Value.int Go.IntKind.i64 m, Go.Value.int Go.IntKind.u32 size, Go.Value.int Go.IntKind.i64 key]
  σ K =
  T (48 : Nat) [Go.Value.pointer (Option.some (Go.Addr.mk t (0 : Nat) Option.none)), Go.Value.int Go.IntKind.i64 pair] σ fun (v0 : Go.Value) (σ1 : Go.AI.AS) ↦
  Go.AI.tTup v0 fun (l2 : List Go.Value) ↦
  Go.AI.pSome l2[(0 : Nat)]? fun (u3 : Go.Value) ↦
  Go.AI.tP u3 fun (b4 : Option Go.Addr) ↦
  Go.AI.tTup v0 fun (l5 : List Go.Value) ↦
  Go.AI.pSome l5[(1 : Nat)]? fun (u6 : Go.Value) ↦
  Go.AI.tI Go.IntKind.i64 u6 fun (n7 : Int) ↦
  Go.AI.bmatch (n7 != (0 : Int)) (K (Go.Value.int Go.IntKind.i64 n7) σ1)
  (T (44 : Nat) [Go.Value.int Go.IntKind.i64 m] σ1 fun (v8 : Go.Value) (σ9 : Go.AI.AS) ↦
  Go.AI.tB v8 fun (b10 : Bool) ↦
  Go.AI.bmatch (!b10) (K (Go.Value.int Go.IntKind.i64 (1 : Int)) σ9)
  (Go.AI.pSome b4 fun (a11 : Go.Addr) ↦
  Go.AI.ldc σ9 (Go.Addr.mk (Go.Addr.block a11) (Go.Addr.off a11 + (4 : Nat)) Option.none) fun (v12 : Go.Value) ↦
  Go.AI.tI Go.IntKind.i64 v12 fun (n13 : Int) ↦
  T (41 : Nat) [Go.Value.int Go.IntKind.i64 m] σ9 fun (v14 : Go.Value) (σ15 : Go.AI.AS) ↦
  Go.AI.tB v14 fun (b16 : Bool) ↦
  Go.AI.ldc σ15 (Go.Addr.mk (Go.Addr.block a11) (Go.Addr.off a11 + (4 : Nat)) Option.none) fun (v17 : Go.Value) ↦
  Go.AI.tI Go.IntKind.i64 v17 fun (n18 : Int) ↦
  Go.Value.int Go.IntKind.i64 n13 = Go.Value.int Go.IntKind.i64 n18 ∧
  T (41 : Nat) [Go.Value.int Go.IntKind.i64 n13] σ15 fun (v19 : Go.Value) (σ20 : Go.AI.AS) ↦
  Go.AI.tB v19 fun (b21 : Bool) ↦
  Go.AI.bmatch (!b16 == b21) (K (Go.Value.int Go.IntKind.i64 (1 : Int)) σ20)
  (Go.AI.bmatch (key != (0 : Int))
  (T (18 : Nat) [Go.Value.pointer (Option.some (Go.Addr.mk t (0 : Nat) Option.none)), Go.Value.int Go.IntKind.i64 key] σ20 fun (v22 : Go.Value) (σ23 : Go.AI.AS) ↦
  Go.AI.tI Go.IntKind.i64 v22 fun (n24 : Int) ↦
  Go.AI.bmatch (n24 == (4 : Int)) (K (Go.Value.int Go.IntKind.i64 (1 : Int)) σ23)
  (T (46 : Nat)
  [Go.Value.pointer (Option.some (Go.Addr.mk t (0 : Nat) Option.none)), Go.Value.int Go.IntKind.i64 pair, Go.Value.slice Option.none (0 : Nat) (0 : Nat)] σ23
  fun (v25 : Go.Value) (σ26 : Go.AI.AS) ↦
  Go.AI.tL (1 : Nat) v25 fun (s27 : Go.AI.Sl) ↦
  T (57 : Nat) [Go.Value.slice (Go.AI.Sl.a s27) (Go.AI.Sl.n s27) (1 : Nat), Go.Value.int Go.IntKind.i64 key] σ26 fun (v28 : Go.Value) (σ29 : Go.AI.AS) ↦
  Go.AI.tB v28 fun (b30 : Bool) ↦
  Go.AI.bmatch (!b30) (K (Go.Value.int Go.IntKind.i64 (1 : Int)) σ29)
  (Go.AI.pSome b4 fun (a31 : Go.Addr) ↦
  Go.AI.put1 σ29 (Go.Addr.mk (Go.Addr.block a31) (Go.Addr.off a31 + (4 : Nat)) Option.none) (Go.Value.int Go.IntKind.i64 m) fun (σ32 : Go.AI.AS) ↦
  Go.AI.pSome b4 fun (a33 : Go.Addr) ↦
  Go.AI.put1 σ32 (Go.Addr.mk (Go.Addr.block a33) (Go.Addr.off a33 + (5 : Nat)) Option.none) (Go.Value.int Go.IntKind.u32 size)
  fun (σ34 : Go.AI.AS) ↦
  Go.AI.bmatch (key != (0 : Int))
  (Go.AI.pSome b4 fun (a35 : Go.Addr) ↦
  Go.AI.put1 σ34 (Go.Addr.mk (Go.Addr.block a35) (Go.Addr.off a35 + (6 : Nat)) Option.none) (Go.Value.int Go.IntKind.i64 key)
  fun (σ36 : Go.AI.AS) ↦ K (Go.Value.int Go.IntKind.i64 (0 : Int)) σ36)
  (K (Go.Value.int Go.IntKind.i64 (0 : Int)) σ34))))
  (Go.AI.pSome b4 fun (a37 : Go.Addr) ↦
  Go.AI.put1 σ20 (Go.Addr.mk (Go.Addr.block a37) (Go.Addr.off a37 + (4 : Nat)) Option.none) (Go.Value.int Go.IntKind.i64 m) fun (σ38 : Go.AI.AS) ↦
  Go.AI.pSome b4 fun (a39 : Go.Addr) ↦
  Go.AI.put1 σ38 (Go.Addr.mk (Go.Addr.block a39) (Go.Addr.off a39 + (5 : Nat)) Option.none) (Go.Value.int Go.IntKind.u32 size) fun (σ40 : Go.AI.AS) ↦
  Go.AI.bmatch (key != (0 : Int))
  (Go.AI.pSome b4 fun (a41 : Go.Addr) ↦
  Go.AI.put1 σ40 (Go.Addr.mk (Go.Addr.block a41) (Go.Addr.off a41 + (6 : Nat)) Option.none) (Go.Value.int Go.IntKind.i64 key) fun (σ42 : Go.AI.AS) ↦
  K (Go.Value.int Go.IntKind.i64 (0 : Int)) σ42)
  (K (Go.Value.int Go.IntKind.i64 (0 : Int)) σ40))))) := by
  intros
  kernel_rfl

theorem s30 : ∀ (T : Go.AI.Ct) (t : Nat) (n : Int) (σ : Go.AI.AS) (K : Go.Value → Go.AI.AS → Prop),
  Go.AI.fw Go.Proofs.Try.prog Go.AI.hintsS T (30 : Nat) [Go.Value.pointer (Option.some (Go.Addr.mk t (0 : Nat) Option.none)), Go.Value.int Go.IntKind.i64 n] σ K =
  T (48 : Nat) [Go.Value.pointer (Option.some (Go.Addr.mk t (0 : Nat) Option.none)), Go.Value.int Go.IntKind.i64 n] σ fun (v0 : Go.Value) (σ1 : Go.AI.AS) ↦
  Go.AI.tTup v0 fun (l2 : List Go.Value) ↦
  Go.AI.pSome l2[(0 : Nat)]? fun (u3 : Go.Value) ↦
  Go.AI.tP u3 fun (b4 : Option Go.Addr) ↦
  Go.AI.tTup v0 fun (l5 : List Go.Value) ↦
  Go.AI.pSome l5[(1 : Nat)]? fun (u6 : Go.Value) ↦
  Go.AI.tI Go.IntKind.i64 u6 fun (n7 : Int) ↦
  Go.AI.bmatch (n7 != (0 : Int))
  (K (Go.Value.tuple (Array.mk [Go.Value.int Go.IntKind.i64 (0 : Int), Go.Value.int Go.IntKind.u32 (0 : Int), Go.Value.int Go.IntKind.i64 (0 : Int), Go.Value.int Go.IntKind.i64 n7])) σ1)
  (Go.AI.pSome b4 fun (a8 : Go.Addr) ↦
  Go.AI.ldc σ1 (Go.Addr.mk (Go.Addr.block a8) (Go.Addr.off a8 + (4 : Nat)) Option.none) fun (v9 : Go.Value) ↦
  Go.AI.tI Go.IntKind.i64 v9 fun (n10 : Int) ↦
  Go.AI.pSome b4 fun (a11 : Go.Addr) ↦
  Go.AI.ldc σ1 (Go.Addr.mk (Go.Addr.block a11) (Go.Addr.off a11 + (5 : Nat)) Option.none) fun (v12 : Go.Value) ↦
  Go.AI.tI Go.IntKind.u32 v12 fun (n13 : Int) ↦
  Go.AI.pSome b4 fun (a14 : Go.Addr) ↦
  Go.AI.ldc σ1 (Go.Addr.mk (Go.Addr.block a14) (Go.Addr.off a14 + (6 : Nat)) Option.none) fun (v15 : Go.Value) ↦
  Go.AI.tI Go.IntKind.i64 v15 fun (n16 : Int) ↦
  K (Go.Value.tuple (Array.mk [Go.Value.int Go.IntKind.i64 n10, Go.Value.int Go.IntKind.u32 n13, Go.Value.int Go.IntKind.i64 n16, Go.Value.int Go.IntKind.i64 (0 : Int)])) σ1) := by
  intros
  kernel_rfl

theorem s37 : ∀ (T : Go.AI.Ct) (t : Nat) (w h : Int) (σ : Go.AI.AS) (K : Go.Value → Go.AI.AS → Prop),
  Go.AI.fw Go.Proofs.Try.prog Go.AI.hintsS T (37 : Nat) [Go.Value.pointer (Option.some (Go.Addr.mk t (0 : Nat) Option.none)), Go.Value.int Go.IntKind.i64 w, Go.Value.int Go.IntKind.i64 h] σ K =
  T (49 : Nat) [Go.Value.int Go.IntKind.i64 w] σ fun (v0 : Go.Value) (σ1 : Go.AI.AS) ↦
  Go.AI.tB v0 fun (b2 : Bool) ↦
  Go.AI.bmatch (!b2) (K (Go.Value.int Go.IntKind.i64 (1 : Int)) σ1)
  (T (49 : Nat) [Go.Value.int Go.IntKind.i64 h] σ1 fun (v3 : Go.Value) (σ4 : Go.AI.AS) ↦
  Go.AI.tB v3 fun (b5 : Bool) ↦
  Go.AI.bmatch (!b5) (K (Go.Value.int Go.IntKind.i64 (1 : Int)) σ4)
  (Go.AI.put1 σ4 (Go.Addr.mk t (0 : Nat) Option.none) (Go.Value.int Go.IntKind.i64 w) fun (σ6 : Go.AI.AS) ↦
  Go.AI.put1 σ6 (Go.Addr.mk t ((0 : Nat) + (1 : Nat)) Option.none) (Go.Value.int Go.IntKind.i64 h) fun (σ7 : Go.AI.AS) ↦ K (Go.Value.int Go.IntKind.i64 (0 : Int)) σ7)) := by
  intros
  kernel_rfl

theorem s27 : ∀ (T : Go.AI.Ct) (t : Nat) (σ : Go.AI.AS) (K : Go.Value → Go.AI.AS → Prop),
  Go.AI.fw Go.Proofs.Try.prog Go.AI.hintsS T (27 : Nat) [Go.Value.pointer (Option.some (Go.Addr.mk t (0 : Nat) Option.none))] σ K =
  Go.AI.ldc σ (Go.Addr.mk t ((0 : Nat) + (2 : Nat)) Option.none) fun (v0 : Go.Value) ↦ Go.AI.tI Go.IntKind.i64 v0 fun (n1 : Int) ↦ K (Go.Value.int Go.IntKind.i64 n1) σ := by
  intros
  kernel_rfl

theorem s16 : ∀ (T : Go.AI.Ct) (t : Nat) (σ : Go.AI.AS) (K : Go.Value → Go.AI.AS → Prop),
  Go.AI.fw Go.Proofs.Try.prog Go.AI.hintsS T (16 : Nat) [Go.Value.pointer (Option.some (Go.Addr.mk t (0 : Nat) Option.none))] σ K =
  Go.AI.ldc σ (Go.Addr.mk t ((0 : Nat) + (4 : Nat)) Option.none) fun (v0 : Go.Value) ↦
  Go.AI.tM v0 fun (b1 : Option Nat) ↦
  Go.AI.mlen σ b1 fun (n2 : Int) ↦
  Go.AI.req ((0 : Int) ≤ n2)
  (Go.AI.req (n2 * (↑(Go.AI.bytesOf Go.Proofs.Try.prog (3 : Nat)) : Int) ≤ (140737488355328 : Int))
  (Go.AI.newAt σ (Go.AI.AObj.row Go.AI.RK.rw []) fun (i3 : Nat) (σ4 : Go.AI.AS) ↦
  Go.AI.ldc σ4 (Go.Addr.mk t ((0 : Nat) + (4 : Nat)) Option.none) fun (v5 : Go.Value) ↦
  Go.AI.tM v5 fun (b6 : Option Nat) ↦
  Go.AI.rngM σ4 b6 fun (j7 : Nat) (σ8 : Go.AI.AS) ↦
  Go.AI.ALoop (Go.AI.fl Go.Proofs.Try.prog Go.AI.hintsS T (16 : Nat) [Bool.true, Bool.true, Bool.true, Bool.false, Bool.true, Bool.false] [] K)
  [((3 : Nat), Option.some (Go.Value.slice (Option.some (Go.Addr.mk i3 (0 : Nat) Option.none)) (0 : Nat) (1 : Nat))),
  ((17 : Nat), Option.some (Go.Value.pointer (Option.some (Go.Addr.mk j7 (0 : Nat) Option.none))))]
  σ8)) := by
  intros
  kernel_rfl

theorem s16l : ∀ (T : Go.AI.Ct) (a : Option Go.Addr) (n e j : Nat) (X : Go.AI.Regs → Go.AI.AS → Prop) (σ : Go.AI.AS) (K : Go.Value → Go.AI.AS → Prop),
  Go.AI.fl Go.Proofs.Try.prog Go.AI.hintsS T (16 : Nat) [Bool.true, Bool.true, Bool.true, Bool.false, Bool.true, Bool.false] [] K X
  [((3 : Nat), Option.some (Go.Value.slice a n e)), ((17 : Nat), Option.some (Go.Value.pointer (Option.some (Go.Addr.mk j (0 : Nat) Option.none))))] σ =
  Go.AI.mnext σ j fun (r0 : Option (Go.Value × Go.Value)) (σ1 : Go.AI.AS) ↦
  Go.AI.onNx r0
  (fun (k2 v3 : Go.Value) ↦
  Go.AI.mentry σ1 j fun (k4 v5 : Go.Value) ↦
  Go.AI.tI Go.IntKind.i64 k4 fun (n6 : Int) ↦
  Go.AI.newAt σ1 (Go.AI.AObj.row Go.AI.RK.rw [Go.Value.int Go.IntKind.i64 n6]) fun (i7 : Nat) (σ8 : Go.AI.AS) ↦
  Go.AI.chk (Go.AI.nilOr a e (Go.AI.szOf Go.Proofs.Try.prog (3 : Nat)))
  (Go.AI.lds σ8 (Go.Addr.mk i7 (0 : Nat) Option.none) (1 : Nat) fun (l9 : List Go.Value) ↦
  Go.AI.appendTo σ8 (1 : Nat) (8 : Nat) (Go.AI.Sl.mk a n) l9 (1 : Nat) fun (s10 : Go.AI.Sl) (σ11 : Go.AI.AS) ↦
  X [((3 : Nat), Option.some (Go.Value.slice (Go.AI.Sl.a s10) (Go.AI.Sl.n s10) (1 : Nat))), ((17 : Nat), Option.some (Go.Value.pointer (Option.some (Go.Addr.mk j (0 : Nat) Option.none))))] σ11))
  (T (39 : Nat) [Go.Value.slice a n e] σ1 fun (v12 : Go.Value) (σ13 : Go.AI.AS) ↦ K (Go.Value.slice a n e) σ13) := by
  intros
  kernel_rfl

theorem s40 : ∀ (T : Go.AI.Ct) (t : Nat) (n : Int) (σ : Go.AI.AS) (K : Go.Value → Go.AI.AS → Prop),
  Go.AI.fw Go.Proofs.Try.prog Go.AI.hintsS T (40 : Nat) [Go.Value.pointer (Option.some (Go.Addr.mk t (0 : Nat) Option.none)), Go.Value.int Go.IntKind.i64 n] σ K =
  Go.AI.ldc σ (Go.Addr.mk t ((0 : Nat) + (4 : Nat)) Option.none) fun (v0 : Go.Value) ↦
  Go.AI.tM v0 fun (b1 : Option Nat) ↦
  Go.AI.mget σ (Go.TypeDesc.int Go.IntKind.i64) b1 (Go.Value.int Go.IntKind.i64 n) fun (o2 : Option Go.Value) ↦
  Go.AI.tP (Option.getD o2 (Go.Value.pointer Option.none)) fun (b3 : Option Go.Addr) ↦
  Go.AI.ptrEq σ b3 Option.none fun (r4 : Bool) ↦
  Go.AI.bmatch (!r4)
  (Go.AI.ldc σ (Go.Addr.mk t ((0 : Nat) + (4 : Nat)) Option.none) fun (v5 : Go.Value) ↦
  Go.AI.tM v5 fun (b6 : Option Nat) ↦
  Go.AI.mget σ (Go.TypeDesc.int Go.IntKind.i64) b6 (Go.Value.int Go.IntKind.i64 n) fun (o7 : Option Go.Value) ↦
  Go.AI.tP (Option.getD o7 (Go.Value.pointer Option.none)) fun (b8 : Option Go.Addr) ↦ K (Go.Value.pointer b8) σ)
  (Go.AI.newAt σ
  (Go.AI.AObj.row Go.AI.RK.plain
  [Go.Value.int Go.IntKind.i64 (0 : Int), Go.Value.int Go.IntKind.i64 (0 : Int), Go.Value.int Go.IntKind.i64 (0 : Int), Go.Value.int Go.IntKind.i64 (0 : Int), Go.Value.int Go.IntKind.i64 (0 : Int),
  Go.Value.int Go.IntKind.u32 (0 : Int), Go.Value.int Go.IntKind.i64 (0 : Int)])
  fun (i9 : Nat) (σ10 : Go.AI.AS) ↦ K (Go.Value.pointer (Option.some (Go.Addr.mk i9 (0 : Nat) Option.none))) σ10) := by
  intros
  kernel_rfl

theorem s18 : ∀ (T : Go.AI.Ct) (t : Nat) (n : Int) (σ : Go.AI.AS) (K : Go.Value → Go.AI.AS → Prop),
  Go.AI.fw Go.Proofs.Try.prog Go.AI.hintsS T (18 : Nat) [Go.Value.pointer (Option.some (Go.Addr.mk t (0 : Nat) Option.none)), Go.Value.int Go.IntKind.i64 n] σ K =
  T (40 : Nat) [Go.Value.pointer (Option.some (Go.Addr.mk t (0 : Nat) Option.none)), Go.Value.int Go.IntKind.i64 n] σ fun (v0 : Go.Value) (σ1 : Go.AI.AS) ↦
  Go.AI.tP v0 fun (b2 : Option Go.Addr) ↦
  Go.AI.pSome b2 fun (a3 : Go.Addr) ↦ Go.AI.ldc σ1 (Go.Addr.add a3 (0 : Nat)) fun (v4 : Go.Value) ↦ Go.AI.tI Go.IntKind.i64 v4 fun (n5 : Int) ↦ K (Go.Value.int Go.IntKind.i64 n5) σ1 := by
  intros
  kernel_rfl

theorem s24 : ∀ (T : Go.AI.Ct) (t : Nat) (n : Int) (σ : Go.AI.AS) (K : Go.Value → Go.AI.AS → Prop),
  Go.AI.fw Go.Proofs.Try.prog Go.AI.hintsS T (24 : Nat) [Go.Value.pointer (Option.some (Go.Addr.mk t (0 : Nat) Option.none)), Go.Value.int Go.IntKind.i64 n] σ K =
  T (40 : Nat) [Go.Value.pointer (Option.some (Go.Addr.mk t (0 : Nat) Option.none)), Go.Value.int Go.IntKind.i64 n] σ fun (v0 : Go.Value) (σ1 : Go.AI.AS) ↦
  Go.AI.tP v0 fun (b2 : Option Go.Addr) ↦
  Go.AI.pSome b2 fun (a3 : Go.Addr) ↦
  Go.AI.ldc σ1 (Go.Addr.mk (Go.Addr.block a3) (Go.Addr.off a3 + (1 : Nat)) Option.none) fun (v4 : Go.Value) ↦ Go.AI.tI Go.IntKind.i64 v4 fun (n5 : Int) ↦ K (Go.Value.int Go.IntKind.i64 n5) σ1 := by
  intros
  kernel_rfl

theorem s26 : ∀ (T : Go.AI.Ct) (t : Nat) (n : Int) (σ : Go.AI.AS) (K : Go.Value → Go.AI.AS → Prop),
  Go.AI.fw Go.Proofs.Try.prog Go.AI.hintsS T (26 : Nat) [Go.Value.pointer (Option.some (Go.Addr.mk t (0 : Nat) Option.none)), Go.Value.int Go.IntKind.i64 n] σ K =
  T (24 : Nat) [Go.Value.pointer (Option.some (Go.Addr.mk t (0 : Nat) Option.none)), Go.Value.int Go.IntKind.i64 n] σ fun (v0 : Go.Value) (σ1 : Go.AI.AS) ↦
  Go.AI.tI Go.IntKind.i64 v0 fun (n2 : Int) ↦
  T (20 : Nat) [Go.Value.pointer (Option.some (Go.Addr.mk t (0 : Nat) Option.none)), Go.Value.int Go.IntKind.i64 n2] σ1 fun (v3 : Go.Value) (σ4 : Go.AI.AS) ↦
  Go.AI.tTup v3 fun (l5 : List Go.Value) ↦
  Go.AI.pSome l5[(0 : Nat)]? fun (u6 : Go.Value) ↦
  Go.AI.tI Go.IntKind.i64 u6 fun (n7 : Int) ↦
  Go.AI.tTup v3 fun (l8 : List Go.Value) ↦
  Go.AI.pSome l8[(1 : Nat)]? fun (u9 : Go.Value) ↦
  Go.AI.tI Go.IntKind.i64 u9 fun (n10 : Int) ↦ Go.AI.bmatch (n7 == n) (K (Go.Value.int Go.IntKind.i64 n10) σ4) (K (Go.Value.int Go.IntKind.i64 n7) σ4) := by
  intros
  kernel_rfl

theorem s20 : ∀ (T : Go.AI.Ct) (t : Nat) (n : Int) (σ : Go.AI.AS) (K : Go.Value → Go.AI.AS → Prop),
  Go.AI.fw Go.Proofs.Try.prog Go.AI.hintsS T (20 : Nat) [Go.Value.pointer (Option.some (Go.Addr.mk t (0 : Nat) Option.none)), Go.Value.int Go.IntKind.i64 n] σ K =
  T (40 : Nat) [Go.Value.pointer (Option.some (Go.Addr.mk t (0 : Nat) Option.none)), Go.Value.int Go.IntKind.i64 n] σ fun (v0 : Go.Value) (σ1 : Go.AI.AS) ↦
  Go.AI.tP v0 fun (b2 : Option Go.Addr) ↦
  Go.AI.pSome b2 fun (a3 : Go.Addr) ↦
  Go.AI.ldc σ1 (Go.Addr.mk (Go.Addr.block a3) (Go.Addr.off a3 + (2 : Nat)) Option.none) fun (v4 : Go.Value) ↦
  Go.AI.tI Go.IntKind.i64 v4 fun (n5 : Int) ↦
  Go.AI.pSome b2 fun (a6 : Go.Addr) ↦
  Go.AI.ldc σ1 (Go.Addr.mk (Go.Addr.block a6) (Go.Addr.off a6 + (2 : Nat) + Int.toNat (1 : Int) * Go.AI.szOf Go.Proofs.Try.prog (3 : Nat)) Option.none) fun (v7 : Go.Value) ↦
  Go.AI.tI Go.IntKind.i64 v7 fun (n8 : Int) ↦ K (Go.Value.tuple (Array.mk [Go.Value.int Go.IntKind.i64 n5, Go.Value.int Go.IntKind.i64 n8])) σ1 := by
  intros
  kernel_rfl

theorem s17 : ∀ (T : Go.AI.Ct) (t : Nat) (n : Int) (σ : Go.AI.AS) (K : Go.Value → Go.AI.AS → Prop),
  Go.AI.fw Go.Proofs.Try.prog Go.AI.hintsS T (17 : Nat) [Go.Value.pointer (Option.some (Go.Addr.mk t (0 : Nat) Option.none)), Go.Value.int Go.IntKind.i64 n] σ K =
  Go.AI.newAt σ (Go.AI.AObj.row Go.AI.RK.plain [Go.Value.int Go.IntKind.i64 (0 : Int), Go.Value.int Go.IntKind.i64 (0 : Int), Go.Value.int Go.IntKind.i64 (0 : Int), Go.Value.int Go.IntKind.i64 (0 : Int)])
  fun (i0 : Nat) (σ1 : Go.AI.AS) ↦
  T (40 : Nat) [Go.Value.pointer (Option.some (Go.Addr.mk t (0 : Nat) Option.none)), Go.Value.int Go.IntKind.i64 n] σ1 fun (v2 : Go.Value) (σ3 : Go.AI.AS) ↦
  Go.AI.tP v2 fun (b4 : Option Go.Addr) ↦
  Go.AI.pSome b4 fun (a5 : Go.Addr) ↦
  Go.AI.ldc σ3 (Go.Addr.add a5 (0 : Nat)) fun (v6 : Go.Value) ↦
  Go.AI.tI Go.IntKind.i64 v6 fun (n7 : Int) ↦
  Go.AI.bmatch (n7 == (0 : Int))
  (Go.AI.puts σ3 (Go.Addr.mk i0 (0 : Nat) Option.none)
  [Go.Value.int Go.IntKind.i64 (0 : Int), Go.Value.int Go.IntKind.i64 (0 : Int), Go.Value.int Go.IntKind.i64 (0 : Int), Go.Value.int Go.IntKind.i64 (0 : Int)] fun (σ8 : Go.AI.AS) ↦
  Go.AI.lds σ8 (Go.Addr.mk i0 (0 : Nat) Option.none) (4 : Nat) fun (l9 : List Go.Value) ↦
  Go.AI.tCons l9 fun (v10 : Go.Value) (l11 : List Go.Value) ↦
  Go.AI.tI Go.IntKind.i64 v10 fun (n12 : Int) ↦
  Go.AI.tCons l11 fun (v13 : Go.Value) (l14 : List Go.Value) ↦
  Go.AI.tI Go.IntKind.i64 v13 fun (n15 : Int) ↦
  Go.AI.tCons l14 fun (v16 : Go.Value) (l17 : List Go.Value) ↦
  Go.AI.tI Go.IntKind.i64 v16 fun (n18 : Int) ↦
  Go.AI.tCons l17 fun (v19 : Go.Value) (l20 : List Go.Value) ↦
  Go.AI.tI Go.IntKind.i64 v19 fun (n21 : Int) ↦
  Go.AI.tNil l20
  (K
  (Go.Value.tuple
  (Array.mk
  [Go.Value.agg (Array.mk [Go.Value.int Go.IntKind.i64 n12, Go.Value.int Go.IntKind.i64 n15, Go.Value.int Go.IntKind.i64 n18, Go.Value.int Go.IntKind.i64 n21]),
  Go.Value.bool Bool.false]))
  σ8))
  (Go.AI.pSome b4 fun (a22 : Go.Addr) ↦
  Go.AI.ldc σ3 (Go.Addr.mk (Go.Addr.block a22) (Go.Addr.off a22 + (1 : Nat)) Option.none) fun (v23 : Go.Value) ↦
  Go.AI.tI Go.IntKind.i64 v23 fun (n24 : Int) ↦
  Go.AI.bmatch (n24 == (0 : Int))
  (Go.AI.ldc σ3 (Go.Addr.mk t (0 : Nat) Option.none) fun (v25 : Go.Value) ↦
  Go.AI.tI Go.IntKind.i64 v25 fun (n26 : Int) ↦
  Go.AI.ldc σ3 (Go.Addr.mk t ((0 : Nat) + (1 : Nat)) Option.none) fun (v27 : Go.Value) ↦
  Go.AI.tI Go.IntKind.i64 v27 fun (n28 : Int) ↦
  Go.AI.puts σ3 (Go.Addr.mk i0 (0 : Nat) Option.none)
  [Go.Value.int Go.IntKind.i64 (0 : Int), Go.Value.int Go.IntKind.i64 (0 : Int), Go.Value.int Go.IntKind.i64 n26, Go.Value.int Go.IntKind.i64 n28] fun (σ29 : Go.AI.AS) ↦
  Go.AI.lds σ29 (Go.Addr.mk i0 (0 : Nat) Option.none) (4 : Nat) fun (l30 : List Go.Value) ↦
  Go.AI.tCons l30 fun (v31 : Go.Value) (l32 : List Go.Value) ↦
  Go.AI.tI Go.IntKind.i64 v31 fun (n33 : Int) ↦
  Go.AI.tCons l32 fun (v34 : Go.Value) (l35 : List Go.Value) ↦
  Go.AI.tI Go.IntKind.i64 v34 fun (n36 : Int) ↦
  Go.AI.tCons l35 fun (v37 : Go.Value) (l38 : List Go.Value) ↦
  Go.AI.tI Go.IntKind.i64 v37 fun (n39 : Int) ↦
  Go.AI.tCons l38 fun (v40 : Go.Value) (l41 : List Go.Value) ↦
  Go.AI.tI Go.IntKind.i64 v40 fun (n42 : Int) ↦
  Go.AI.tNil l41
  (K
  (Go.Value.tuple
  (Array.mk
  [Go.Value.agg (Array.mk [Go.Value.int Go.IntKind.i64 n33, Go.Value.int Go.IntKind.i64 n36, Go.Value.int Go.IntKind.i64 n39, Go.Value.int Go.IntKind.i64 n42]),
  Go.Value.bool Bool.true]))
  σ29))
  (Go.AI.ldc σ3 (Go.Addr.mk t ((0 : Nat) + (4 : Nat)) Option.none) fun (v43 : Go.Value) ↦
  Go.AI.tM v43 fun (b44 : Option Nat) ↦
  Go.AI.pSome b4 fun (a45 : Go.Addr) ↦
  Go.AI.ldc σ3 (Go.Addr.mk (Go.Addr.block a45) (Go.Addr.off a45 + (1 : Nat)) Option.none) fun (v46 : Go.Value) ↦
  Go.AI.tI Go.IntKind.i64 v46 fun (n47 : Int) ↦
  Go.AI.mget σ3 (Go.TypeDesc.int Go.IntKind.i64) b44 (Go.Value.int Go.IntKind.i64 n47) fun (o48 : Option Go.Value) ↦
  Go.AI.tP (Option.getD o48 (Go.Value.pointer Option.none)) fun (b49 : Option Go.Addr) ↦
  Go.AI.pSome b4 fun (a50 : Go.Addr) ↦
  Go.AI.ldc σ3 (Go.Addr.mk (Go.Addr.block a50) (Go.Addr.off a50 + (1 : Nat)) Option.none) fun (v51 : Go.Value) ↦
  Go.AI.tI Go.IntKind.i64 v51 fun (n52 : Int) ↦
  T (17 : Nat) [Go.Value.pointer (Option.some (Go.Addr.mk t (0 : Nat) Option.none)), Go.Value.int Go.IntKind.i64 n52] σ3 fun (v53 : Go.Value) (σ54 : Go.AI.AS) ↦
  Go.AI.tTup v53 fun (l55 : List Go.Value) ↦
  Go.AI.pSome l55[(0 : Nat)]? fun (u56 : Go.Value) ↦
  Go.AI.tAgg u56 fun (l57 : List Go.Value) ↦
  Go.AI.tCons l57 fun (v58 : Go.Value) (l59 : List Go.Value) ↦
  Go.AI.tI Go.IntKind.i64 v58 fun (n60 : Int) ↦
  Go.AI.tCons l59 fun (v61 : Go.Value) (l62 : List Go.Value) ↦
  Go.AI.tI Go.IntKind.i64 v61 fun (n63 : Int) ↦
  Go.AI.tCons l62 fun (v64 : Go.Value) (l65 : List Go.Value) ↦
  Go.AI.tI Go.IntKind.i64 v64 fun (n66 : Int) ↦
  Go.AI.tCons l65 fun (v67 : Go.Value) (l68 : List Go.Value) ↦
  Go.AI.tI Go.IntKind.i64 v67 fun (n69 : Int) ↦
  Go.AI.tNil l68
  (Go.AI.tTup v53 fun (l70 : List Go.Value) ↦
  Go.AI.pSome l70[(1 : Nat)]? fun (u71 : Go.Value) ↦
  Go.AI.tB u71 fun (b72 : Bool) ↦
  Go.AI.newAt σ54
  (Go.AI.AObj.row Go.AI.RK.plain
  [Go.Value.int Go.IntKind.i64 (0 : Int), Go.Value.int Go.IntKind.i64 (0 : Int), Go.Value.int Go.IntKind.i64 (0 : Int),
  Go.Value.int Go.IntKind.i64 (0 : Int)])
  fun (i73 : Nat) (σ74 : Go.AI.AS) ↦
  Go.AI.puts σ74 (Go.Addr.mk i73 (0 : Nat) Option.none)
  [Go.Value.int Go.IntKind.i64 n60, Go.Value.int Go.IntKind.i64 n63, Go.Value.int Go.IntKind.i64 n66, Go.Value.int Go.IntKind.i64 n69]
  fun (σ75 : Go.AI.AS) ↦
  Go.AI.pSome b49 fun (a76 : Go.Addr) ↦
  Go.AI.ldc σ75 (Go.Addr.mk (Go.Addr.block a76) (Go.Addr.off a76 + (4 : Nat)) Option.none) fun (v77 : Go.Value) ↦
  Go.AI.tI Go.IntKind.i64 v77 fun (n78 : Int) ↦
  T (41 : Nat) [Go.Value.int Go.IntKind.i64 n78] σ75 fun (v79 : Go.Value) (σ80 : Go.AI.AS) ↦
  Go.AI.tB v79 fun (b81 : Bool) ↦
  Go.AI.bmatch b81
  (Go.AI.JoinS
  (Go.AI.jn Go.Proofs.Try.prog Go.AI.hintsS T (17 : Nat)
  [Bool.true, Bool.true, Bool.true, Bool.true, Bool.true, Bool.true, Bool.true] [] K)
  [((0 : Nat), Option.some (Go.Value.pointer (Option.some (Go.Addr.mk t (0 : Nat) Option.none)))),
  ((1 : Nat), Option.some (Go.Value.int Go.IntKind.i64 n)),
  ((4 : Nat), Option.some (Go.Value.pointer (Option.some (Go.Addr.mk i0 (0 : Nat) Option.none)))),
  ((7 : Nat), Option.some (Go.Value.pointer b49)),
  ((8 : Nat), Option.some (Go.Value.pointer (Option.some (Go.Addr.mk i73 (0 : Nat) Option.none)))),
  ((10 : Nat), Option.some (Go.Value.pointer (Option.some (Go.Addr.mk i73 (0 : Nat) Option.none)))),
  ((11 : Nat), Option.some (Go.Value.pointer (Option.some (Go.Addr.mk i73 ((0 : Nat) + (2 : Nat)) Option.none))))]
  σ80)
  (Go.AI.JoinS
  (Go.AI.jn Go.Proofs.Try.prog Go.AI.hintsS T (17 : Nat)
  [Bool.true, Bool.true, Bool.true, Bool.true, Bool.true, Bool.true, Bool.true] [] K)
  [((0 : Nat), Option.some (Go.Value.pointer (Option.some (Go.Addr.mk t (0 : Nat) Option.none)))),
  ((1 : Nat), Option.some (Go.Value.int Go.IntKind.i64 n)),
  ((4 : Nat), Option.some (Go.Value.pointer (Option.some (Go.Addr.mk i0 (0 : Nat) Option.none)))),
  ((7 : Nat), Option.some (Go.Value.pointer b49)),
  ((8 : Nat), Option.some (Go.Value.pointer (Option.some (Go.Addr.mk i73 (0 : Nat) Option.none)))),
  ((10 : Nat), Option.some (Go.Value.pointer (Option.some (Go.Addr.mk i73 ((0 : Nat) + (1 : Nat)) Option.none)))),
  ((11 : Nat), Option.some (Go.Value.pointer (Option.some (Go.Addr.mk i73 ((0 : Nat) + (3 : Nat)) Option.none))))]
  σ80)))) := by
  intros
  kernel_rfl

theorem s17aX : ∀ (T : Go.AI.Ct) (t c p r : Nat) (n : Int) (σ : Go.AI.AS) (K : Go.Value → Go.AI.AS → Prop),
  Go.AI.jn Go.Proofs.Try.prog Go.AI.hintsS T (17 : Nat) [Bool.true, Bool.true, Bool.true, Bool.true, Bool.true, Bool.true, Bool.true] [] K
  [((0 : Nat), Option.some (Go.Value.pointer (Option.some (Go.Addr.mk t (0 : Nat) Option.none)))), ((1 : Nat), Option.some (Go.Value.int Go.IntKind.i64 n)),
  ((4 : Nat), Option.some (Go.Value.pointer (Option.some (Go.Addr.mk c (0 : Nat) Option.none)))), ((7 : Nat), Option.some (Go.Value.pointer (Option.some (Go.Addr.mk p (0 : Nat) Option.none)))),
  ((8 : Nat), Option.some (Go.Value.pointer (Option.some (Go.Addr.mk r (0 : Nat) Option.none)))), ((10 : Nat), Option.some (Go.Value.pointer (Option.some (Go.Addr.mk r (0 : Nat) Option.none)))),
  ((11 : Nat), Option.some (Go.Value.pointer (Option.some (Go.Addr.mk r (2 : Nat) Option.none))))]
  σ =
  Go.AI.ldc σ (Go.Addr.mk r (2 : Nat) Option.none) fun (v0 : Go.Value) ↦
  Go.AI.tI Go.IntKind.i64 v0 fun (n1 : Int) ↦
  T (42 : Nat) [Go.Value.pointer (Option.some (Go.Addr.mk t (0 : Nat) Option.none)), Go.Value.pointer (Option.some (Go.Addr.mk p (0 : Nat) Option.none)), Go.Value.int Go.IntKind.i64 n1] σ
  fun (v2 : Go.Value) (σ3 : Go.AI.AS) ↦
  Go.AI.tI Go.IntKind.i64 v2 fun (n4 : Int) ↦
  Go.AI.ldc σ3 (Go.Addr.mk p ((0 : Nat) + (4 : Nat)) Option.none) fun (v5 : Go.Value) ↦
  Go.AI.tI Go.IntKind.i64 v5 fun (n6 : Int) ↦
  Go.AI.bmatch (Go.AI.iand Go.IntKind.i64 n6 (1 : Int) == (1 : Int))
  (Go.AI.ldc σ3 (Go.Addr.mk r (2 : Nat) Option.none) fun (v7 : Go.Value) ↦
  Go.AI.tI Go.IntKind.i64 v7 fun (n8 : Int) ↦
  Go.AI.JoinS (Go.AI.jn Go.Proofs.Try.prog Go.AI.hintsS T (17 : Nat) [Bool.true, Bool.true, Bool.true, Bool.true, Bool.true, Bool.true, Bool.true, Bool.true, Bool.true] [] K)
  [((1 : Nat), Option.some (Go.Value.int Go.IntKind.i64 n)), ((4 : Nat), Option.some (Go.Value.pointer (Option.some (Go.Addr.mk c (0 : Nat) Option.none)))),
  ((7 : Nat), Option.some (Go.Value.pointer (Option.some (Go.Addr.mk p (0 : Nat) Option.none)))),
  ((8 : Nat), Option.some (Go.Value.pointer (Option.some (Go.Addr.mk r (0 : Nat) Option.none)))),
  ((10 : Nat), Option.some (Go.Value.pointer (Option.some (Go.Addr.mk r (0 : Nat) Option.none)))),
  ((11 : Nat), Option.some (Go.Value.pointer (Option.some (Go.Addr.mk r (2 : Nat) Option.none)))),
  ((12 : Nat), Option.some (Go.Value.int Go.IntKind.i64 (Go.IntKind.wrap Go.IntKind.i64 (n8 - n4))))]
  σ3)
  (Go.AI.JoinS (Go.AI.jn Go.Proofs.Try.prog Go.AI.hintsS T (17 : Nat) [Bool.true, Bool.true, Bool.true, Bool.true, Bool.true, Bool.true, Bool.true, Bool.true, Bool.true] [] K)
  [((1 : Nat), Option.some (Go.Value.int Go.IntKind.i64 n)), ((4 : Nat), Option.some (Go.Value.pointer (Option.some (Go.Addr.mk c (0 : Nat) Option.none)))),
  ((7 : Nat), Option.some (Go.Value.pointer (Option.some (Go.Addr.mk p (0 : Nat) Option.none)))), ((8 : Nat), Option.some (Go.Value.pointer (Option.some (Go.Addr.mk r (0 : Nat) Option.none)))),
  ((10 : Nat), Option.some (Go.Value.pointer (Option.some (Go.Addr.mk r (0 : Nat) Option.none)))), ((11 : Nat), Option.some (Go.Value.pointer (Option.some (Go.Addr.mk r (2 : Nat) Option.none)))),
  ((12 : Nat), Option.some (Go.Value.int Go.IntKind.i64 n4))]
  σ3) := by
  intros
  kernel_rfl

theorem s17bX : ∀ (T : Go.AI.Ct) (c p r : Nat) (n m : Int) (σ : Go.AI.AS) (K : Go.Value → Go.AI.AS → Prop),
  Go.AI.jn Go.Proofs.Try.prog Go.AI.hintsS T (17 : Nat) [Bool.true, Bool.true, Bool.true, Bool.true, Bool.true, Bool.true, Bool.true, Bool.true, Bool.true] [] K
  [((1 : Nat), Option.some (Go.Value.int Go.IntKind.i64 n)), ((4 : Nat), Option.some (Go.Value.pointer (Option.some (Go.Addr.mk c (0 : Nat) Option.none)))),
  ((7 : Nat), Option.some (Go.Value.pointer (Option.some (Go.Addr.mk p (0 : Nat) Option.none)))), ((8 : Nat), Option.some (Go.Value.pointer (Option.some (Go.Addr.mk r (0 : Nat) Option.none)))),
  ((10 : Nat), Option.some (Go.Value.pointer (Option.some (Go.Addr.mk r (0 : Nat) Option.none)))), ((11 : Nat), Option.some (Go.Value.pointer (Option.some (Go.Addr.mk r (2 : Nat) Option.none)))),
  ((12 : Nat), Option.some (Go.Value.int Go.IntKind.i64 m))]
  σ =
  Go.AI.ldc σ (Go.Addr.mk p ((0 : Nat) + (2 : Nat)) Option.none) fun (v0 : Go.Value) ↦
  Go.AI.tI Go.IntKind.i64 v0 fun (n1 : Int) ↦
  Go.AI.bmatch (n == n1)
  (Go.AI.put1 σ (Go.Addr.mk r (2 : Nat) Option.none) (Go.Value.int Go.IntKind.i64 m) fun (σ2 : Go.AI.AS) ↦
  Go.AI.JoinS (Go.AI.jn Go.Proofs.Try.prog Go.AI.hintsS T (17 : Nat) [Bool.true, Bool.true, Bool.true, Bool.true, Bool.true, Bool.true, Bool.true, Bool.true, Bool.true, Bool.true] [] K)
  [((4 : Nat), Option.some (Go.Value.pointer (Option.some (Go.Addr.mk c (0 : Nat) Option.none)))), ((8 : Nat), Option.some (Go.Value.pointer (Option.some (Go.Addr.mk r (0 : Nat) Option.none))))] σ2)
  (Go.AI.ldc σ (Go.Addr.mk r (0 : Nat) Option.none) fun (v3 : Go.Value) ↦
  Go.AI.tI Go.IntKind.i64 v3 fun (n4 : Int) ↦
  Go.AI.put1 σ (Go.Addr.mk r (0 : Nat) Option.none) (Go.Value.int Go.IntKind.i64 (Go.IntKind.wrap Go.IntKind.i64 (n4 + m))) fun (σ5 : Go.AI.AS) ↦
  Go.AI.ldc σ5 (Go.Addr.mk r (2 : Nat) Option.none) fun (v6 : Go.Value) ↦
  Go.AI.tI Go.IntKind.i64 v6 fun (n7 : Int) ↦
  Go.AI.put1 σ5 (Go.Addr.mk r (2 : Nat) Option.none) (Go.Value.int Go.IntKind.i64 (Go.IntKind.wrap Go.IntKind.i64 (n7 - m))) fun (σ8 : Go.AI.AS) ↦
  Go.AI.JoinS (Go.AI.jn Go.Proofs.Try.prog Go.AI.hintsS T (17 : Nat) [Bool.true, Bool.true, Bool.true, Bool.true, Bool.true, Bool.true, Bool.true, Bool.true, Bool.true, Bool.true] [] K)
  [((4 : Nat), Option.some (Go.Value.pointer (Option.some (Go.Addr.mk c (0 : Nat) Option.none)))), ((8 : Nat), Option.some (Go.Value.pointer (Option.some (Go.Addr.mk r (0 : Nat) Option.none))))]
  σ8) := by
  intros
  kernel_rfl

theorem s17aY : ∀ (T : Go.AI.Ct) (t c p r : Nat) (n : Int) (σ : Go.AI.AS) (K : Go.Value → Go.AI.AS → Prop),
  Go.AI.jn Go.Proofs.Try.prog Go.AI.hintsS T (17 : Nat) [Bool.true, Bool.true, Bool.true, Bool.true, Bool.true, Bool.true, Bool.true] [] K
  [((0 : Nat), Option.some (Go.Value.pointer (Option.some (Go.Addr.mk t (0 : Nat) Option.none)))), ((1 : Nat), Option.some (Go.Value.int Go.IntKind.i64 n)),
  ((4 : Nat), Option.some (Go.Value.pointer (Option.some (Go.Addr.mk c (0 : Nat) Option.none)))), ((7 : Nat), Option.some (Go.Value.pointer (Option.some (Go.Addr.mk p (0 : Nat) Option.none)))),
  ((8 : Nat), Option.some (Go.Value.pointer (Option.some (Go.Addr.mk r (0 : Nat) Option.none)))), ((10 : Nat), Option.some (Go.Value.pointer (Option.some (Go.Addr.mk r (1 : Nat) Option.none)))),
  ((11 : Nat), Option.some (Go.Value.pointer (Option.some (Go.Addr.mk r (3 : Nat) Option.none))))]
  σ =
  Go.AI.ldc σ (Go.Addr.mk r (3 : Nat) Option.none) fun (v0 : Go.Value) ↦
  Go.AI.tI Go.IntKind.i64 v0 fun (n1 : Int) ↦
  T (42 : Nat) [Go.Value.pointer (Option.some (Go.Addr.mk t (0 : Nat) Option.none)), Go.Value.pointer (Option.some (Go.Addr.mk p (0 : Nat) Option.none)), Go.Value.int Go.IntKind.i64 n1] σ
  fun (v2 : Go.Value) (σ3 : Go.AI.AS) ↦
  Go.AI.tI Go.IntKind.i64 v2 fun (n4 : Int) ↦
  Go.AI.ldc σ3 (Go.Addr.mk p ((0 : Nat) + (4 : Nat)) Option.none) fun (v5 : Go.Value) ↦
  Go.AI.tI Go.IntKind.i64 v5 fun (n6 : Int) ↦
  Go.AI.bmatch (Go.AI.iand Go.IntKind.i64 n6 (1 : Int) == (1 : Int))
  (Go.AI.ldc σ3 (Go.Addr.mk r (3 : Nat) Option.none) fun (v7 : Go.Value) ↦
  Go.AI.tI Go.IntKind.i64 v7 fun (n8 : Int) ↦
  Go.AI.JoinS (Go.AI.jn Go.Proofs.Try.prog Go.AI.hintsS T (17 : Nat) [Bool.true, Bool.true, Bool.true, Bool.true, Bool.true, Bool.true, Bool.true, Bool.true, Bool.true] [] K)
  [((1 : Nat), Option.some (Go.Value.int Go.IntKind.i64 n)), ((4 : Nat), Option.some (Go.Value.pointer (Option.some (Go.Addr.mk c (0 : Nat) Option.none)))),
  ((7 : Nat), Option.some (Go.Value.pointer (Option.some (Go.Addr.mk p (0 : Nat) Option.none)))),
  ((8 : Nat), Option.some (Go.Value.pointer (Option.some (Go.Addr.mk r (0 : Nat) Option.none)))),
  ((10 : Nat), Option.some (Go.Value.pointer (Option.some (Go.Addr.mk r (1 : Nat) Option.none)))),
  ((11 : Nat), Option.some (Go.Value.pointer (Option.some (Go.Addr.mk r (3 : Nat) Option.none)))),
  ((12 : Nat), Option.some (Go.Value.int Go.IntKind.i64 (Go.IntKind.wrap Go.IntKind.i64 (n8 - n4))))]
  σ3)
  (Go.AI.JoinS (Go.AI.jn Go.Proofs.Try.prog Go.AI.hintsS T (17 : Nat) [Bool.true, Bool.true, Bool.true, Bool.true, Bool.true, Bool.true, Bool.true, Bool.true, Bool.true] [] K)
  [((1 : Nat), Option.some (Go.Value.int Go.IntKind.i64 n)), ((4 : Nat), Option.some (Go.Value.pointer (Option.some (Go.Addr.mk c (0 : Nat) Option.none)))),
  ((7 : Nat), Option.some (Go.Value.pointer (Option.some (Go.Addr.mk p (0 : Nat) Option.none)))), ((8 : Nat), Option.some (Go.Value.pointer (Option.some (Go.Addr.mk r (0 : Nat) Option.none)))),
  ((10 : Nat), Option.some (Go.Value.pointer (Option.some (Go.Addr.mk r (1 : Nat) Option.none)))), ((11 : Nat), Option.some (Go.Value.pointer (Option.some (Go.Addr.mk r (3 : Nat) Option.none)))),
  ((12 : Nat), Option.some (Go.Value.int Go.IntKind.i64 n4))]
  σ3) := by
  intros
  kernel_rfl

theorem s17bY : ∀ (T : Go.AI.Ct) (c p r : Nat) (n m : Int) (σ : Go.AI.AS) (K : Go.Value → Go.AI.AS → Prop),
  Go.AI.jn Go.Proofs.Try.prog Go.AI.hintsS T (17 : Nat) [Bool.true, Bool.true, Bool.true, Bool.true, Bool.true, Bool.true, Bool.true, Bool.true, Bool.true] [] K
  [((1 : Nat), Option.some (Go.Value.int Go.IntKind.i64 n)), ((4 : Nat), Option.some (Go.Value.pointer (Option.some (Go.Addr.mk c (0 : Nat) Option.none)))),
  ((7 : Nat), Option.some (Go.Value.pointer (Option.some (Go.Addr.mk p (0 : Nat) Option.none)))), ((8 : Nat), Option.some (Go.Value.pointer (Option.some (Go.Addr.mk r (0 : Nat) Option.none)))),
  ((10 : Nat), Option.some (Go.Value.pointer (Option.some (Go.Addr.mk r (1 : Nat) Option.none)))), ((11 : Nat), Option.some (Go.Value.pointer (Option.some (Go.Addr.mk r (3 : Nat) Option.none)))),
  ((12 : Nat), Option.some (Go.Value.int Go.IntKind.i64 m))]
  σ =
  Go.AI.ldc σ (Go.Addr.mk p ((0 : Nat) + (2 : Nat)) Option.none) fun (v0 : Go.Value) ↦
  Go.AI.tI Go.IntKind.i64 v0 fun (n1 : Int) ↦
  Go.AI.bmatch (n == n1)
  (Go.AI.put1 σ (Go.Addr.mk r (3 : Nat) Option.none) (Go.Value.int Go.IntKind.i64 m) fun (σ2 : Go.AI.AS) ↦
  Go.AI.JoinS (Go.AI.jn Go.Proofs.Try.prog Go.AI.hintsS T (17 : Nat) [Bool.true, Bool.true, Bool.true, Bool.true, Bool.true, Bool.true, Bool.true, Bool.true, Bool.true, Bool.true] [] K)
  [((4 : Nat), Option.some (Go.Value.pointer (Option.some (Go.Addr.mk c (0 : Nat) Option.none)))), ((8 : Nat), Option.some (Go.Value.pointer (Option.some (Go.Addr.mk r (0 : Nat) Option.none))))] σ2)
  (Go.AI.ldc σ (Go.Addr.mk r (1 : Nat) Option.none) fun (v3 : Go.Value) ↦
  Go.AI.tI Go.IntKind.i64 v3 fun (n4 : Int) ↦
  Go.AI.put1 σ (Go.Addr.mk r (1 : Nat) Option.none) (Go.Value.int Go.IntKind.i64 (Go.IntKind.wrap Go.IntKind.i64 (n4 + m))) fun (σ5 : Go.AI.AS) ↦
  Go.AI.ldc σ5 (Go.Addr.mk r (3 : Nat) Option.none) fun (v6 : Go.Value) ↦
  Go.AI.tI Go.IntKind.i64 v6 fun (n7 : Int) ↦
  Go.AI.put1 σ5 (Go.Addr.mk r (3 : Nat) Option.none) (Go.Value.int Go.IntKind.i64 (Go.IntKind.wrap Go.IntKind.i64 (n7 - m))) fun (σ8 : Go.AI.AS) ↦
  Go.AI.JoinS (Go.AI.jn Go.Proofs.Try.prog Go.AI.hintsS T (17 : Nat) [Bool.true, Bool.true, Bool.true, Bool.true, Bool.true, Bool.true, Bool.true, Bool.true, Bool.true, Bool.true] [] K)
  [((4 : Nat), Option.some (Go.Value.pointer (Option.some (Go.Addr.mk c (0 : Nat) Option.none)))), ((8 : Nat), Option.some (Go.Value.pointer (Option.some (Go.Addr.mk r (0 : Nat) Option.none))))]
  σ8) := by
  intros
  kernel_rfl

theorem s17c : ∀ (T : Go.AI.Ct) (c r : Nat) (σ : Go.AI.AS) (K : Go.Value → Go.AI.AS → Prop),
  Go.AI.jn Go.Proofs.Try.prog Go.AI.hintsS T (17 : Nat) [Bool.true, Bool.true, Bool.true, Bool.true, Bool.true, Bool.true, Bool.true, Bool.true, Bool.true, Bool.true] [] K
  [((4 : Nat), Option.some (Go.Value.pointer (Option.some (Go.Addr.mk c (0 : Nat) Option.none)))), ((8 : Nat), Option.some (Go.Value.pointer (Option.some (Go.Addr.mk r (0 : Nat) Option.none))))] σ =
  Go.AI.lds σ (Go.Addr.mk r (0 : Nat) Option.none) (4 : Nat) fun (l0 : List Go.Value) ↦
  Go.AI.tCons l0 fun (v1 : Go.Value) (l2 : List Go.Value) ↦
  Go.AI.tI Go.IntKind.i64 v1 fun (n3 : Int) ↦
  Go.AI.tCons l2 fun (v4 : Go.Value) (l5 : List Go.Value) ↦
  Go.AI.tI Go.IntKind.i64 v4 fun (n6 : Int) ↦
  Go.AI.tCons l5 fun (v7 : Go.Value) (l8 : List Go.Value) ↦
  Go.AI.tI Go.IntKind.i64 v7 fun (n9 : Int) ↦
  Go.AI.tCons l8 fun (v10 : Go.Value) (l11 : List Go.Value) ↦
  Go.AI.tI Go.IntKind.i64 v10 fun (n12 : Int) ↦
  Go.AI.tNil l11
  (Go.AI.puts σ (Go.Addr.mk c (0 : Nat) Option.none) [Go.Value.int Go.IntKind.i64 n3, Go.Value.int Go.IntKind.i64 n6, Go.Value.int Go.IntKind.i64 n9, Go.Value.int Go.IntKind.i64 n12]
  fun (σ13 : Go.AI.AS) ↦
  Go.AI.lds σ13 (Go.Addr.mk c (0 : Nat) Option.none) (4 : Nat) fun (l14 : List Go.Value) ↦
  Go.AI.tCons l14 fun (v15 : Go.Value) (l16 : List Go.Value) ↦
  Go.AI.tI Go.IntKind.i64 v15 fun (n17 : Int) ↦
  Go.AI.tCons l16 fun (v18 : Go.Value) (l19 : List Go.Value) ↦
  Go.AI.tI Go.IntKind.i64 v18 fun (n20 : Int) ↦
  Go.AI.tCons l19 fun (v21 : Go.Value) (l22 : List Go.Value) ↦
  Go.AI.tI Go.IntKind.i64 v21 fun (n23 : Int) ↦
  Go.AI.tCons l22 fun (v24 : Go.Value) (l25 : List Go.Value) ↦
  Go.AI.tI Go.IntKind.i64 v24 fun (n26 : Int) ↦
  Go.AI.tNil l25
  (K
  (Go.Value.tuple
  (Array.mk
  [Go.Value.agg (Array.mk [Go.Value.int Go.IntKind.i64 n17, Go.Value.int Go.IntKind.i64 n20, Go.Value.int Go.IntKind.i64 n23, Go.Value.int Go.IntKind.i64 n26]),
  Go.Value.bool Bool.true]))
  σ13)) := by
  intros
  kernel_rfl

theorem s42 : ∀ (T : Go.AI.Ct) (t p : Nat) (n : Int) (σ : Go.AI.AS) (K : Go.Value → Go.AI.AS → Prop),
  Go.AI.fw Go.Proofs.Try.prog Go.AI.hintsS T (42 : Nat)
  [Go.Value.pointer (Option.some (Go.Addr.mk t (0 : Nat) Option.none)), Go.Value.pointer (Option.some (Go.Addr.mk p (0 : Nat) Option.none)), Go.Value.int Go.IntKind.i64 n] σ K =
  Go.AI.ldc σ (Go.Addr.mk p ((0 : Nat) + (5 : Nat)) Option.none) fun (v0 : Go.Value) ↦
  Go.AI.tI Go.IntKind.u32 v0 fun (n1 : Int) ↦
  Go.AI.ldc σ (Go.Addr.mk p ((0 : Nat) + (4 : Nat)) Option.none) fun (v2 : Go.Value) ↦
  Go.AI.tI Go.IntKind.i64 v2 fun (n3 : Int) ↦
  Go.AI.bmatch (Go.AI.iand Go.IntKind.i64 n3 (32 : Int) != (0 : Int))
  (K
  (Go.Value.int Go.IntKind.i64
  (Go.IntKind.wrap Go.IntKind.i64
  (Go.AI.imin (Go.IntKind.wrap Go.IntKind.u64 (Int.tdiv (Go.IntKind.wrap Go.IntKind.u64 (Go.IntKind.wrap Go.IntKind.u64 n * Go.IntKind.wrap Go.IntKind.u64 n1)) (100 : Int)))
  (Go.IntKind.wrap Go.IntKind.u64 n))))
  σ)
  (Go.AI.ldc σ (Go.Addr.mk p ((0 : Nat) + (6 : Nat)) Option.none) fun (v4 : Go.Value) ↦
  Go.AI.tI Go.IntKind.i64 v4 fun (n5 : Int) ↦
  Go.AI.bmatch (n5 == (0 : Int)) (K (Go.Value.int Go.IntKind.i64 (Go.IntKind.wrap Go.IntKind.i64 (Go.AI.imin (0 : Int) (Go.IntKind.wrap Go.IntKind.u64 n)))) σ)
  (Go.AI.ldc σ (Go.Addr.mk p ((0 : Nat) + (6 : Nat)) Option.none) fun (v6 : Go.Value) ↦
  Go.AI.tI Go.IntKind.i64 v6 fun (n7 : Int) ↦
  T (18 : Nat) [Go.Value.pointer (Option.some (Go.Addr.mk t (0 : Nat) Option.none)), Go.Value.int Go.IntKind.i64 n7] σ fun (v8 : Go.Value) (σ9 : Go.AI.AS) ↦
  Go.AI.tI Go.IntKind.i64 v8 fun (n10 : Int) ↦
  Go.AI.bmatch (n10 == (1 : Int)) (K (Go.Value.int Go.IntKind.i64 (Go.IntKind.wrap Go.IntKind.i64 (Go.AI.imin (0 : Int) (Go.IntKind.wrap Go.IntKind.u64 n)))) σ9)
  (K (Go.Value.int Go.IntKind.i64 (Go.IntKind.wrap Go.IntKind.i64 (Go.AI.imin (Go.IntKind.wrap Go.IntKind.u64 n1) (Go.IntKind.wrap Go.IntKind.u64 n)))) σ9))) := by
  intros
  kernel_rfl

theorem s28 : ∀ (T : Go.AI.Ct) (t : Nat) (win : Int) (σ : Go.AI.AS) (K : Go.Value → Go.AI.AS → Prop),
  Go.AI.fw Go.Proofs.Try.prog Go.AI.hintsS T (28 : Nat) [Go.Value.pointer (Option.some (Go.Addr.mk t (0 : Nat) Option.none)), Go.Value.int Go.IntKind.i64 win] σ K =
  Go.AI.ldc σ (Go.Addr.mk t ((0 : Nat) + (4 : Nat)) Option.none) fun (v0 : Go.Value) ↦
  Go.AI.tM v0 fun (b1 : Option Nat) ↦
  Go.AI.mget σ (Go.TypeDesc.int Go.IntKind.i64) b1 (Go.Value.int Go.IntKind.i64 win) fun (o2 : Option Go.Value) ↦
  Go.AI.tP (Option.getD o2 (Go.Value.pointer Option.none)) fun (b3 : Option Go.Addr) ↦
  Go.AI.ptrEq σ b3 Option.none fun (r4 : Bool) ↦
  Go.AI.bmatch r4 (K (Go.Value.tuple (Array.mk [Go.Value.slice Option.none (0 : Nat) (0 : Nat), Go.Value.int Go.IntKind.i64 (5 : Int)])) σ)
  (T (46 : Nat) [Go.Value.pointer (Option.some (Go.Addr.mk t (0 : Nat) Option.none)), Go.Value.int Go.IntKind.i64 win, Go.Value.slice Option.none (0 : Nat) (0 : Nat)] σ
  fun (v5 : Go.Value) (σ6 : Go.AI.AS) ↦
  Go.AI.tL (1 : Nat) v5 fun (s7 : Go.AI.Sl) ↦
  Go.AI.pSome b3 fun (a8 : Go.Addr) ↦
  Go.AI.ldc σ6 (Go.Addr.mk (Go.Addr.block a8) (Go.Addr.off a8 + (1 : Nat)) Option.none) fun (v9 : Go.Value) ↦
  Go.AI.tI Go.IntKind.i64 v9 fun (n10 : Int) ↦
  Go.AI.bmatch (n10 == (0 : Int))
  (Go.AI.put1 σ6 (Go.Addr.mk t ((0 : Nat) + (2 : Nat)) Option.none) (Go.Value.int Go.IntKind.i64 (0 : Int)) fun (σ11 : Go.AI.AS) ↦
  Go.AI.JoinS (Go.AI.jn Go.Proofs.Try.prog Go.AI.hintsS T (28 : Nat) [Bool.true, Bool.true, Bool.true, Bool.true, Bool.true] [] K)
  [((0 : Nat), Option.some (Go.Value.pointer (Option.some (Go.Addr.mk t (0 : Nat) Option.none)))), ((7 : Nat), Option.some (Go.Value.slice (Go.AI.Sl.a s7) (Go.AI.Sl.n s7) (1 : Nat)))] σ11)
  (Go.AI.pSome b3 fun (a12 : Go.Addr) ↦
  Go.AI.ldc σ6 (Go.Addr.mk (Go.Addr.block a12) (Go.Addr.off a12 + (1 : Nat)) Option.none) fun (v13 : Go.Value) ↦
  Go.AI.tI Go.IntKind.i64 v13 fun (n14 : Int) ↦
  Go.AI.newAt σ6 (Go.AI.AObj.row Go.AI.RK.rw [Go.Value.int Go.IntKind.i64 n14]) fun (i15 : Nat) (σ16 : Go.AI.AS) ↦
  Go.AI.lds σ16 (Go.Addr.mk i15 (0 : Nat) Option.none) (1 : Nat) fun (l17 : List Go.Value) ↦
  Go.AI.appendTo σ16 (1 : Nat) (8 : Nat) (Go.AI.Sl.mk (Go.AI.Sl.a s7) (Go.AI.Sl.n s7)) l17 (1 : Nat) fun (s18 : Go.AI.Sl) (σ19 : Go.AI.AS) ↦
  Go.AI.ldc σ19 (Go.Addr.mk t ((0 : Nat) + (4 : Nat)) Option.none) fun (v20 : Go.Value) ↦
  Go.AI.tM v20 fun (b21 : Option Nat) ↦
  Go.AI.pSome b3 fun (a22 : Go.Addr) ↦
  Go.AI.ldc σ19 (Go.Addr.mk (Go.Addr.block a22) (Go.Addr.off a22 + (1 : Nat)) Option.none) fun (v23 : Go.Value) ↦
  Go.AI.tI Go.IntKind.i64 v23 fun (n24 : Int) ↦
  Go.AI.mget σ19 (Go.TypeDesc.int Go.IntKind.i64) b21 (Go.Value.int Go.IntKind.i64 n24) fun (o25 : Option Go.Value) ↦
  Go.AI.tP (Option.getD o25 (Go.Value.pointer Option.none)) fun (b26 : Option Go.Addr) ↦
  Go.AI.pSome b26 fun (a27 : Go.Addr) ↦
  Go.AI.ldc σ19 (Go.Addr.mk (Go.Addr.block a27) (Go.Addr.off a27 + (1 : Nat)) Option.none) fun (v28 : Go.Value) ↦
  Go.AI.tI Go.IntKind.i64 v28 fun (n29 : Int) ↦
  Go.AI.pSome b3 fun (a30 : Go.Addr) ↦
  Go.AI.ldc σ19 (Go.Addr.mk (Go.Addr.block a30) (Go.Addr.off a30 + (1 : Nat)) Option.none) fun (v31 : Go.Value) ↦
  Go.AI.tI Go.IntKind.i64 v31 fun (n32 : Int) ↦
  T (26 : Nat) [Go.Value.pointer (Option.some (Go.Addr.mk t (0 : Nat) Option.none)), Go.Value.int Go.IntKind.i64 win] σ19
  fun (v33 : Go.Value) (σ34 : Go.AI.AS) ↦
  Go.AI.tI Go.IntKind.i64 v33 fun (n35 : Int) ↦
  Go.AI.ldc σ34 (Go.Addr.mk (Go.Addr.block a30) (Go.Addr.off a30 + (1 : Nat)) Option.none) fun (v36 : Go.Value) ↦
  Go.AI.tI Go.IntKind.i64 v36 fun (n37 : Int) ↦
  Go.Value.int Go.IntKind.i64 n32 = Go.Value.int Go.IntKind.i64 n37 ∧
  Go.AI.ldc σ34 (Go.Addr.mk (Go.Addr.block a27) (Go.Addr.off a27 + (1 : Nat)) Option.none) fun (v38 : Go.Value) ↦
  Go.AI.tI Go.IntKind.i64 v38 fun (n39 : Int) ↦
  Go.Value.int Go.IntKind.i64 n29 = Go.Value.int Go.IntKind.i64 n39 ∧
  Go.AI.mget σ34 (Go.TypeDesc.int Go.IntKind.i64) b21 (Go.Value.int Go.IntKind.i64 n24) fun (o40 : Option Go.Value) ↦
  Go.AI.tP (Option.getD o40 (Go.Value.pointer Option.none)) fun (b41 : Option Go.Addr) ↦
  Go.Value.pointer b26 = Go.Value.pointer b41 ∧
  Go.AI.ldc σ34 (Go.Addr.mk (Go.Addr.block a22) (Go.Addr.off a22 + (1 : Nat)) Option.none) fun (v42 : Go.Value) ↦
  Go.AI.tI Go.IntKind.i64 v42 fun (n43 : Int) ↦
  Go.Value.int Go.IntKind.i64 n24 = Go.Value.int Go.IntKind.i64 n43 ∧
  Go.AI.ldc σ34 (Go.Addr.mk t ((0 : Nat) + (4 : Nat)) Option.none) fun (v44 : Go.Value) ↦
  Go.AI.tM v44 fun (b45 : Option Nat) ↦
  Go.Value.map b21 = Go.Value.map b45 ∧
  T (45 : Nat)
  [Go.Value.pointer (Option.some (Go.Addr.mk t (0 : Nat) Option.none)), Go.Value.int Go.IntKind.i64 n29,
  Go.Value.int Go.IntKind.i64 n32, Go.Value.int Go.IntKind.i64 n35]
  σ34 fun (v46 : Go.Value) (σ47 : Go.AI.AS) ↦
  Go.AI.JoinS
  (Go.AI.jn Go.Proofs.Try.prog Go.AI.hintsS T (28 : Nat) [Bool.true, Bool.true, Bool.true, Bool.true, Bool.true] []
  K)
  [((0 : Nat), Option.some (Go.Value.pointer (Option.some (Go.Addr.mk t (0 : Nat) Option.none)))),
  ((7 : Nat), Option.some (Go.Value.slice (Go.AI.Sl.a s18) (Go.AI.Sl.n s18) (1 : Nat)))]
  σ47)) := by
  intros
  kernel_rfl

theorem s28j : ∀ (T : Go.AI.Ct) (t : Nat) (a : Option Go.Addr) (n e : Nat) (σ : Go.AI.AS) (K : Go.Value → Go.AI.AS → Prop),
  Go.AI.jn Go.Proofs.Try.prog Go.AI.hintsS T (28 : Nat) [Bool.true, Bool.true, Bool.true, Bool.true, Bool.true] [] K
  [((0 : Nat), Option.some (Go.Value.pointer (Option.some (Go.Addr.mk t (0 : Nat) Option.none)))), ((7 : Nat), Option.some (Go.Value.slice a n e))] σ =
  T (39 : Nat) [Go.Value.slice a n e] σ fun (v0 : Go.Value) (σ1 : Go.AI.AS) ↦
  Go.AI.ALoop (Go.AI.fl Go.Proofs.Try.prog Go.AI.hintsS T (28 : Nat) [Bool.true, Bool.true, Bool.true, Bool.true, Bool.true, Bool.true, Bool.true, Bool.false, Bool.true, Bool.false] [] K)
  [((0 : Nat), Option.some (Go.Value.pointer (Option.some (Go.Addr.mk t (0 : Nat) Option.none)))), ((7 : Nat), Option.some (Go.Value.slice a n e)), ((65 : Nat), Option.some (Go.Value.slice a n e)),
  ((66 : Nat), Option.some (Go.Value.int Go.IntKind.i64 (↑n : Int))), ((67 : Nat), Option.some (Go.Value.int Go.IntKind.i64 (0 : Int)))]
  σ1 := by
  intros
  kernel_rfl

theorem s28l : ∀ (T : Go.AI.Ct) (t : Nat) (a b : Option Go.Addr) (n e m f : Nat) (len i : Int) (X : Go.AI.Regs → Go.AI.AS → Prop) (σ : Go.AI.AS) (K : Go.Value → Go.AI.AS → Prop),
  Go.AI.fl Go.Proofs.Try.prog Go.AI.hintsS T (28 : Nat) [Bool.true, Bool.true, Bool.true, Bool.true, Bool.true, Bool.true, Bool.true, Bool.false, Bool.true, Bool.false] [] K X
  [((0 : Nat), Option.some (Go.Value.pointer (Option.some (Go.Addr.mk t (0 : Nat) Option.none)))), ((7 : Nat), Option.some (Go.Value.slice a n e)), ((65 : Nat), Option.some (Go.Value.slice b m f)),
  ((66 : Nat), Option.some (Go.Value.int Go.IntKind.i64 len)), ((67 : Nat), Option.some (Go.Value.int Go.IntKind.i64 i))]
  σ =
  Go.AI.bmatch (Decidable.decide (i < len))
  (Go.AI.req ((0 : Int) ≤ i)
  (Go.AI.req (i < (↑m : Int))
  (Go.AI.pSome b fun (a0 : Go.Addr) ↦
  Go.AI.req (f = Go.AI.szOf Go.Proofs.Try.prog (3 : Nat))
  (Go.AI.ldc σ (Go.Addr.add a0 (Int.toNat i * Go.AI.szOf Go.Proofs.Try.prog (3 : Nat))) fun (v1 : Go.Value) ↦
  Go.AI.tI Go.IntKind.i64 v1 fun (n2 : Int) ↦
  Go.AI.ldc σ (Go.Addr.mk t ((0 : Nat) + (4 : Nat)) Option.none) fun (v3 : Go.Value) ↦
  Go.AI.tM v3 fun (b4 : Option Nat) ↦
  Go.AI.pSome b4 fun (i5 : Nat) ↦
  Go.AI.mdel σ (Go.TypeDesc.int Go.IntKind.i64) i5 (Go.Value.int Go.IntKind.i64 n2) fun (σ6 : Go.AI.AS) ↦
  X
  [((0 : Nat), Option.some (Go.Value.pointer (Option.some (Go.Addr.mk t (0 : Nat) Option.none)))), ((7 : Nat), Option.some (Go.Value.slice a n e)),
  ((65 : Nat), Option.some (Go.Value.slice b m f)), ((66 : Nat), Option.some (Go.Value.int Go.IntKind.i64 len)),
  ((67 : Nat), Option.some (Go.Value.int Go.IntKind.i64 (Go.IntKind.wrap Go.IntKind.i64 (i + (1 : Int)))))]
  σ6))))
  (Go.AI.ldc σ (Go.Addr.mk t ((0 : Nat) + (4 : Nat)) Option.none) fun (v7 : Go.Value) ↦
  Go.AI.tM v7 fun (b8 : Option Nat) ↦
  Go.AI.rngM σ b8 fun (j9 : Nat) (σ10 : Go.AI.AS) ↦
  Go.AI.ALoop (Go.AI.fl Go.Proofs.Try.prog Go.AI.hintsS T (28 : Nat) [Bool.true, Bool.true, Bool.true, Bool.true, Bool.true, Bool.true, Bool.true, Bool.true, Bool.false, Bool.true, Bool.false] [] K)
  [((0 : Nat), Option.some (Go.Value.pointer (Option.some (Go.Addr.mk t (0 : Nat) Option.none)))), ((7 : Nat), Option.some (Go.Value.slice a n e)),
  ((81 : Nat), Option.some (Go.Value.pointer (Option.some (Go.Addr.mk j9 (0 : Nat) Option.none))))]
  σ10) := by
  intros
  kernel_rfl

theorem s28k : ∀ (T : Go.AI.Ct) (t : Nat) (a : Option Go.Addr) (n e j : Nat) (X : Go.AI.Regs → Go.AI.AS → Prop) (σ : Go.AI.AS) (K : Go.Value → Go.AI.AS → Prop),
  Go.AI.fl Go.Proofs.Try.prog Go.AI.hintsS T (28 : Nat) [Bool.true, Bool.true, Bool.true, Bool.true, Bool.true, Bool.true, Bool.true, Bool.true, Bool.false, Bool.true, Bool.false] [] K X
  [((0 : Nat), Option.some (Go.Value.pointer (Option.some (Go.Addr.mk t (0 : Nat) Option.none)))), ((7 : Nat), Option.some (Go.Value.slice a n e)),
  ((81 : Nat), Option.some (Go.Value.pointer (Option.some (Go.Addr.mk j (0 : Nat) Option.none))))]
  σ =
  Go.AI.mnext σ j fun (r0 : Option (Go.Value × Go.Value)) (σ1 : Go.AI.AS) ↦
  Go.AI.onNx r0
  (fun (k2 v3 : Go.Value) ↦
  Go.AI.mentry σ1 j fun (k4 v5 : Go.Value) ↦
  Go.AI.tP v5 fun (b6 : Option Go.Addr) ↦
  Go.AI.ldc σ1 (Go.Addr.mk t ((0 : Nat) + (4 : Nat)) Option.none) fun (v7 : Go.Value) ↦
  Go.AI.tM v7 fun (b8 : Option Nat) ↦
  Go.AI.pSome b6 fun (a9 : Go.Addr) ↦
  Go.AI.ldc σ1 (Go.Addr.mk (Go.Addr.block a9) (Go.Addr.off a9 + (6 : Nat)) Option.none) fun (v10 : Go.Value) ↦
  Go.AI.tI Go.IntKind.i64 v10 fun (n11 : Int) ↦
  Go.AI.mget σ1 (Go.TypeDesc.int Go.IntKind.i64) b8 (Go.Value.int Go.IntKind.i64 n11) fun (o12 : Option Go.Value) ↦
  Go.AI.tP (Option.getD o12 (Go.Value.pointer Option.none)) fun (b13 : Option Go.Addr) ↦
  Go.AI.bmatch (!Option.isSome o12)
  (Go.AI.pSome b6 fun (a14 : Go.Addr) ↦
  Go.AI.put1 σ1 (Go.Addr.mk (Go.Addr.block a14) (Go.Addr.off a14 + (6 : Nat)) Option.none) (Go.Value.int Go.IntKind.i64 (0 : Int)) fun (σ15 : Go.AI.AS) ↦
  X
  [((0 : Nat), Option.some (Go.Value.pointer (Option.some (Go.Addr.mk t (0 : Nat) Option.none)))), ((7 : Nat), Option.some (Go.Value.slice a n e)),
  ((81 : Nat), Option.some (Go.Value.pointer (Option.some (Go.Addr.mk j (0 : Nat) Option.none))))]
  σ15)
  (X
  [((0 : Nat), Option.some (Go.Value.pointer (Option.some (Go.Addr.mk t (0 : Nat) Option.none)))), ((7 : Nat), Option.some (Go.Value.slice a n e)),
  ((81 : Nat), Option.some (Go.Value.pointer (Option.some (Go.Addr.mk j (0 : Nat) Option.none))))]
  σ1))
  (K (Go.Value.tuple (Array.mk [Go.Value.slice a n e, Go.Value.int Go.IntKind.i64 (0 : Int)])) σ1) := by
  intros
  kernel_rfl

theorem s57 : ∀ (T : Go.AI.Ct) (a : Option Go.Addr) (n e : Nat) (v : Int) (σ : Go.AI.AS) (K : Go.Value → Go.AI.AS → Prop),
  Go.AI.fw Go.Proofs.Try.prog Go.AI.hintsS T (57 : Nat) [Go.Value.slice a n e, Go.Value.int Go.IntKind.i64 v] σ K =
  T (66 : Nat) [Go.Value.slice a n e, Go.Value.int Go.IntKind.i64 v] σ fun (v0 : Go.Value) (σ1 : Go.AI.AS) ↦
  Go.AI.tI Go.IntKind.i64 v0 fun (n2 : Int) ↦ K (Go.Value.bool (Decidable.decide (n2 ≥ (0 : Int)))) σ1 := by
  intros
  kernel_rfl

theorem s66 : ∀ (T : Go.AI.Ct) (a : Option Go.Addr) (n e : Nat) (v : Int) (σ : Go.AI.AS) (K : Go.Value → Go.AI.AS → Prop),
  Go.AI.fw Go.Proofs.Try.prog Go.AI.hintsS T (66 : Nat) [Go.Value.slice a n e, Go.Value.int Go.IntKind.i64 v] σ K =
  Go.AI.ALoop (Go.AI.fl Go.Proofs.Try.prog Go.AI.hintsS T (66 : Nat) [Bool.true, Bool.false, Bool.true, Bool.false] [] K)
  [((0 : Nat), Option.some (Go.Value.slice a n e)), ((1 : Nat), Option.some (Go.Value.int Go.IntKind.i64 v)), ((7 : Nat), Option.some (Go.Value.int Go.IntKind.i64 (↑n : Int))),
  ((8 : Nat), Option.some (Go.Value.int Go.IntKind.i64 (0 : Int)))]
  σ := by
  intros
  kernel_rfl

theorem s66l : ∀ (T : Go.AI.Ct) (a : Option Go.Addr) (n e : Nat) (v len i : Int) (X : Go.AI.Regs → Go.AI.AS → Prop) (σ : Go.AI.AS) (K : Go.Value → Go.AI.AS → Prop),
  Go.AI.fl Go.Proofs.Try.prog Go.AI.hintsS T (66 : Nat) [Bool.true, Bool.false, Bool.true, Bool.false] [] K X
  [((0 : Nat), Option.some (Go.Value.slice a n e)), ((1 : Nat), Option.some (Go.Value.int Go.IntKind.i64 v)), ((7 : Nat), Option.some (Go.Value.int Go.IntKind.i64 len)),
  ((8 : Nat), Option.some (Go.Value.int Go.IntKind.i64 i))]
  σ =
  Go.AI.bmatch (Decidable.decide (i < len))
  (Go.AI.req ((0 : Int) ≤ i)
  (Go.AI.req (i < (↑n : Int))
  (Go.AI.pSome a fun (a0 : Go.Addr) ↦
  Go.AI.req (e = Go.AI.szOf Go.Proofs.Try.prog (3 : Nat))
  (Go.AI.ldc σ (Go.Addr.add a0 (Int.toNat i * Go.AI.szOf Go.Proofs.Try.prog (3 : Nat))) fun (v1 : Go.Value) ↦
  Go.AI.tI Go.IntKind.i64 v1 fun (n2 : Int) ↦
  Go.AI.bmatch (v == n2) (K (Go.Value.int Go.IntKind.i64 i) σ)
  (X
  [((0 : Nat), Option.some (Go.Value.slice a n e)), ((1 : Nat), Option.some (Go.Value.int Go.IntKind.i64 v)), ((7 : Nat), Option.some (Go.Value.int Go.IntKind.i64 len)),
  ((8 : Nat), Option.some (Go.Value.int Go.IntKind.i64 (Go.IntKind.wrap Go.IntKind.i64 (i + (1 : Int)))))]
  σ)))))
  (K (Go.Value.int Go.IntKind.i64 (-1 : Int)) σ) := by
  intros
  kernel_rfl

end Go.AI
end
section
/- The conditions ahead of the calls of the program's functions, reckoned as far as they go (equations that the kernel checks); no condition. -/
set_option maxRecDepth 1000000
set_option linter.unusedVariables false
namespace Go.AI
open Go.Proofs
theorem s33 : ∀ (T : Go.AI.Ct) (t x : Nat) (k a b c z : Int) (near : Bool) (σ : Go.AI.AS) (K : Go.Value → Go.AI.AS → Prop),
  Go.AI.fw Go.Proofs.Try.prog Go.AI.hintsS T (33 : Nat)
  [Go.Value.pointer (Option.some (Go.Addr.mk t (0 : Nat) Option.none)), Go.Value.pointer (Option.some (Go.Addr.mk x (0 : Nat) Option.none)),
  Go.Value.agg (Array.mk [Go.Value.int Go.IntKind.i64 k, Go.Value.int Go.IntKind.i64 a, Go.Value.int Go.IntKind.i64 b, Go.Value.int Go.IntKind.i64 c, Go.Value.int Go.IntKind.u32 z, Go.Value.bool near])]
  σ K =
  Go.AI.newAt σ
  (Go.AI.AObj.row Go.AI.RK.plain
  [Go.Value.int Go.IntKind.i64 k, Go.Value.int Go.IntKind.i64 a, Go.Value.int Go.IntKind.i64 b, Go.Value.int Go.IntKind.i64 c, Go.Value.int Go.IntKind.u32 z, Go.Value.bool near])
  fun (i0 : Nat) (σ1 : Go.AI.AS) ↦
  Go.AI.ldc σ1 (Go.Addr.mk i0 ((0 : Nat) + (1 : Nat)) Option.none) fun (v2 : Go.Value) ↦
  Go.AI.tI Go.IntKind.i64 v2 fun (n3 : Int) ↦
  Go.AI.ldc σ1 (Go.Addr.mk i0 ((0 : Nat) + (3 : Nat)) Option.none) fun (v4 : Go.Value) ↦
  Go.AI.tI Go.IntKind.i64 v4 fun (n5 : Int) ↦
  Go.AI.ldc σ1 (Go.Addr.mk i0 ((0 : Nat) + (5 : Nat)) Option.none) fun (v6 : Go.Value) ↦
  Go.AI.tB v6 fun (b7 : Bool) ↦
  Go.AI.bmatch b7
  (Go.AI.ldc σ1 (Go.Addr.mk i0 ((0 : Nat) + (1 : Nat)) Option.none) fun (v8 : Go.Value) ↦
  Go.AI.tI Go.IntKind.i64 v8 fun (n9 : Int) ↦
  T (21 : Nat) [Go.Value.pointer (Option.some (Go.Addr.mk x (0 : Nat) Option.none)), Go.Value.int Go.IntKind.i64 n9] σ1 fun (v10 : Go.Value) (σ11 : Go.AI.AS) ↦
  Go.AI.tI Go.IntKind.i64 v10 fun (n12 : Int) ↦
  Go.AI.JoinS (Go.AI.jn Go.Proofs.Try.prog Go.AI.hintsS T (33 : Nat) [Bool.true, Bool.true] [] K)
  [((0 : Nat), Option.some (Go.Value.pointer (Option.some (Go.Addr.mk t (0 : Nat) Option.none)))),
  ((1 : Nat), Option.some (Go.Value.pointer (Option.some (Go.Addr.mk x (0 : Nat) Option.none)))),
  ((5 : Nat), Option.some (Go.Value.pointer (Option.some (Go.Addr.mk i0 (0 : Nat) Option.none)))), ((7 : Nat), Option.some (Go.Value.int Go.IntKind.i64 n12)),
  ((8 : Nat), Option.some (Go.Value.int Go.IntKind.i64 n5))]
  σ11)
  (Go.AI.JoinS (Go.AI.jn Go.Proofs.Try.prog Go.AI.hintsS T (33 : Nat) [Bool.true, Bool.true] [] K)
  [((0 : Nat), Option.some (Go.Value.pointer (Option.some (Go.Addr.mk t (0 : Nat) Option.none)))), ((1 : Nat), Option.some (Go.Value.pointer (Option.some (Go.Addr.mk x (0 : Nat) Option.none)))),
  ((5 : Nat), Option.some (Go.Value.pointer (Option.some (Go.Addr.mk i0 (0 : Nat) Option.none)))), ((7 : Nat), Option.some (Go.Value.int Go.IntKind.i64 n3)),
  ((8 : Nat), Option.some (Go.Value.int Go.IntKind.i64 n5))]
  σ1) := by
  intros
  kernel_rfl

theorem s33j : ∀ (T : Go.AI.Ct) (t x i0_1 : Nat) (win key : Int) (σ : Go.AI.AS) (K : Go.Value → Go.AI.AS → Prop),
  Go.AI.jn Go.Proofs.Try.prog Go.AI.hintsS T (33 : Nat) [Bool.true, Bool.true] [] K
  [((0 : Nat), Option.some (Go.Value.pointer (Option.some (Go.Addr.mk t (0 : Nat) Option.none)))), ((1 : Nat), Option.some (Go.Value.pointer (Option.some (Go.Addr.mk x (0 : Nat) Option.none)))),
  ((5 : Nat), Option.some (Go.Value.pointer (Option.some (Go.Addr.mk i0_1 (0 : Nat) Option.none)))), ((7 : Nat), Option.some (Go.Value.int Go.IntKind.i64 win)),
  ((8 : Nat), Option.some (Go.Value.int Go.IntKind.i64 key))]
  σ =
  Go.AI.ldc σ (Go.Addr.mk i0_1 (0 : Nat) Option.none) fun (v0 : Go.Value) ↦
  Go.AI.tI Go.IntKind.i64 v0 fun (n1 : Int) ↦
  Go.AI.bmatch (n1 == (4 : Int))
  (T (28 : Nat) [Go.Value.pointer (Option.some (Go.Addr.mk t (0 : Nat) Option.none)), Go.Value.int Go.IntKind.i64 win] σ fun (v2 : Go.Value) (σ3 : Go.AI.AS) ↦
  Go.AI.tTup v2 fun (l4 : List Go.Value) ↦
  Go.AI.pSome l4[(0 : Nat)]? fun (u5 : Go.Value) ↦
  Go.AI.tL (1 : Nat) u5 fun (s6 : Go.AI.Sl) ↦
  Go.AI.tTup v2 fun (l7 : List Go.Value) ↦
  Go.AI.pSome l7[(1 : Nat)]? fun (u8 : Go.Value) ↦
  Go.AI.tI Go.IntKind.i64 u8 fun (n9 : Int) ↦
  T (50 : Nat) [Go.Value.pointer (Option.some (Go.Addr.mk x (0 : Nat) Option.none)), Go.Value.int Go.IntKind.i64 win] σ3 fun (v10 : Go.Value) (σ11 : Go.AI.AS) ↦
  Go.AI.tTup v10 fun (l12 : List Go.Value) ↦
  Go.AI.pSome l12[(0 : Nat)]? fun (u13 : Go.Value) ↦
  Go.AI.tL (1 : Nat) u13 fun (s14 : Go.AI.Sl) ↦
  Go.AI.tTup v10 fun (l15 : List Go.Value) ↦
  Go.AI.pSome l15[(1 : Nat)]? fun (u16 : Go.Value) ↦
  Go.AI.tI Go.IntKind.i64 u16 fun (n17 : Int) ↦
  T (35 : Nat) [Go.Value.slice (Go.AI.Sl.a s6) (Go.AI.Sl.n s6) (1 : Nat), Go.Value.slice (Go.AI.Sl.a s14) (Go.AI.Sl.n s14) (1 : Nat)] σ11 fun (v18 : Go.Value) (σ19 : Go.AI.AS) ↦
  Go.AI.tB v18 fun (b20 : Bool) ↦
  Go.AI.bmatch b20
  (T (23 : Nat) [Go.Value.int Go.IntKind.i64 n9] σ19 fun (v21 : Go.Value) (σ22 : Go.AI.AS) ↦ Go.AI.tI Go.IntKind.i64 v21 fun (n23 : Int) ↦ K (Go.Value.bool (n23 == n17)) σ22)
  (K (Go.Value.bool Bool.false) σ19))
  (Go.AI.bmatch (n1 == (5 : Int))
  (Go.AI.bmatch (n1 == (5 : Int))
  (Go.AI.ldc σ (Go.Addr.mk i0_1 ((0 : Nat) + (5 : Nat)) Option.none) fun (v24 : Go.Value) ↦
  Go.AI.tB v24 fun (b25 : Bool) ↦
  Go.AI.bmatch b25
  (Go.AI.ldc σ (Go.Addr.mk i0_1 ((0 : Nat) + (3 : Nat)) Option.none) fun (v26 : Go.Value) ↦
  Go.AI.tI Go.IntKind.i64 v26 fun (n27 : Int) ↦
  Go.AI.bmatch (n27 != (0 : Int))
  (Go.AI.ldc σ (Go.Addr.mk i0_1 ((0 : Nat) + (3 : Nat)) Option.none) fun (v28 : Go.Value) ↦
  Go.AI.tI Go.IntKind.i64 v28 fun (n29 : Int) ↦
  T (21 : Nat) [Go.Value.pointer (Option.some (Go.Addr.mk x (0 : Nat) Option.none)), Go.Value.int Go.IntKind.i64 n29] σ fun (v30 : Go.Value) (σ31 : Go.AI.AS) ↦
  Go.AI.tI Go.IntKind.i64 v30 fun (n32 : Int) ↦
  Go.AI.ldc σ31 (Go.Addr.mk i0_1 ((0 : Nat) + (2 : Nat)) Option.none) fun (v33 : Go.Value) ↦
  Go.AI.tI Go.IntKind.i64 v33 fun (n34 : Int) ↦
  Go.AI.ldc σ31 (Go.Addr.mk i0_1 ((0 : Nat) + (4 : Nat)) Option.none) fun (v35 : Go.Value) ↦
  Go.AI.tI Go.IntKind.u32 v35 fun (n36 : Int) ↦
  Go.AI.ldc σ31 (Go.Addr.mk i0_1 ((0 : Nat) + (2 : Nat)) Option.none) fun (v37 : Go.Value) ↦
  Go.AI.tI Go.IntKind.i64 v37 fun (n38 : Int) ↦
  Go.AI.ldc σ31 (Go.Addr.mk i0_1 ((0 : Nat) + (4 : Nat)) Option.none) fun (v39 : Go.Value) ↦
  Go.AI.tI Go.IntKind.u32 v39 fun (n40 : Int) ↦
  T (36 : Nat)
  [Go.Value.pointer (Option.some (Go.Addr.mk t (0 : Nat) Option.none)), Go.Value.int Go.IntKind.i64 win, Go.Value.int Go.IntKind.i64 n34,
  Go.Value.int Go.IntKind.u32 n36, Go.Value.int Go.IntKind.i64 n32]
  σ31 fun (v41 : Go.Value) (σ42 : Go.AI.AS) ↦
  Go.AI.tI Go.IntKind.i64 v41 fun (n43 : Int) ↦
  Go.AI.ldc σ42 (Go.Addr.mk i0_1 ((0 : Nat) + (4 : Nat)) Option.none) fun (v44 : Go.Value) ↦
  Go.AI.tI Go.IntKind.u32 v44 fun (n45 : Int) ↦
  Go.Value.int Go.IntKind.u32 n40 = Go.Value.int Go.IntKind.u32 n45 ∧
  Go.AI.ldc σ42 (Go.Addr.mk i0_1 ((0 : Nat) + (2 : Nat)) Option.none) fun (v46 : Go.Value) ↦
  Go.AI.tI Go.IntKind.i64 v46 fun (n47 : Int) ↦
  Go.Value.int Go.IntKind.i64 n38 = Go.Value.int Go.IntKind.i64 n47 ∧
  T (23 : Nat) [Go.Value.int Go.IntKind.i64 n43] σ42 fun (v48 : Go.Value) (σ49 : Go.AI.AS) ↦
  Go.AI.tI Go.IntKind.i64 v48 fun (n50 : Int) ↦
  Go.AI.ldc σ49 (Go.Addr.mk i0_1 ((0 : Nat) + (4 : Nat)) Option.none) fun (v51 : Go.Value) ↦
  Go.AI.tI Go.IntKind.u32 v51 fun (n52 : Int) ↦
  Go.Value.int Go.IntKind.u32 n40 = Go.Value.int Go.IntKind.u32 n52 ∧
  Go.AI.ldc σ49 (Go.Addr.mk i0_1 ((0 : Nat) + (2 : Nat)) Option.none) fun (v53 : Go.Value) ↦
  Go.AI.tI Go.IntKind.i64 v53 fun (n54 : Int) ↦
  Go.Value.int Go.IntKind.i64 n38 = Go.Value.int Go.IntKind.i64 n54 ∧
  T (51 : Nat)
  [Go.Value.pointer (Option.some (Go.Addr.mk x (0 : Nat) Option.none)), Go.Value.int Go.IntKind.i64 win,
  Go.Value.int Go.IntKind.i64 n38, Go.Value.int Go.IntKind.u32 n40, Go.Value.int Go.IntKind.i64 n32]
  σ49 fun (v55 : Go.Value) (σ56 : Go.AI.AS) ↦ Go.AI.tI Go.IntKind.i64 v55 fun (n57 : Int) ↦ K (Go.Value.bool (n50 == n57)) σ56)
  (Go.AI.ldc σ (Go.Addr.mk i0_1 ((0 : Nat) + (2 : Nat)) Option.none) fun (v58 : Go.Value) ↦
  Go.AI.tI Go.IntKind.i64 v58 fun (n59 : Int) ↦
  Go.AI.ldc σ (Go.Addr.mk i0_1 ((0 : Nat) + (4 : Nat)) Option.none) fun (v60 : Go.Value) ↦
  Go.AI.tI Go.IntKind.u32 v60 fun (n61 : Int) ↦
  Go.AI.ldc σ (Go.Addr.mk i0_1 ((0 : Nat) + (2 : Nat)) Option.none) fun (v62 : Go.Value) ↦
  Go.AI.tI Go.IntKind.i64 v62 fun (n63 : Int) ↦
  Go.AI.ldc σ (Go.Addr.mk i0_1 ((0 : Nat) + (4 : Nat)) Option.none) fun (v64 : Go.Value) ↦
  Go.AI.tI Go.IntKind.u32 v64 fun (n65 : Int) ↦
  T (36 : Nat)
  [Go.Value.pointer (Option.some (Go.Addr.mk t (0 : Nat) Option.none)), Go.Value.int Go.IntKind.i64 win, Go.Value.int Go.IntKind.i64 n59, Go.Value.int Go.IntKind.u32 n61,
  Go.Value.int Go.IntKind.i64 key]
  σ fun (v66 : Go.Value) (σ67 : Go.AI.AS) ↦
  Go.AI.tI Go.IntKind.i64 v66 fun (n68 : Int) ↦
  Go.AI.ldc σ67 (Go.Addr.mk i0_1 ((0 : Nat) + (4 : Nat)) Option.none) fun (v69 : Go.Value) ↦
  Go.AI.tI Go.IntKind.u32 v69 fun (n70 : Int) ↦
  Go.Value.int Go.IntKind.u32 n65 = Go.Value.int Go.IntKind.u32 n70 ∧
  Go.AI.ldc σ67 (Go.Addr.mk i0_1 ((0 : Nat) + (2 : Nat)) Option.none) fun (v71 : Go.Value) ↦
  Go.AI.tI Go.IntKind.i64 v71 fun (n72 : Int) ↦
  Go.Value.int Go.IntKind.i64 n63 = Go.Value.int Go.IntKind.i64 n72 ∧
  T (23 : Nat) [Go.Value.int Go.IntKind.i64 n68] σ67 fun (v73 : Go.Value) (σ74 : Go.AI.AS) ↦
  Go.AI.tI Go.IntKind.i64 v73 fun (n75 : Int) ↦
  Go.AI.ldc σ74 (Go.Addr.mk i0_1 ((0 : Nat) + (4 : Nat)) Option.none) fun (v76 : Go.Value) ↦
  Go.AI.tI Go.IntKind.u32 v76 fun (n77 : Int) ↦
  Go.Value.int Go.IntKind.u32 n65 = Go.Value.int Go.IntKind.u32 n77 ∧
  Go.AI.ldc σ74 (Go.Addr.mk i0_1 ((0 : Nat) + (2 : Nat)) Option.none) fun (v78 : Go.Value) ↦
  Go.AI.tI Go.IntKind.i64 v78 fun (n79 : Int) ↦
  Go.Value.int Go.IntKind.i64 n63 = Go.Value.int Go.IntKind.i64 n79 ∧
  T (51 : Nat)
  [Go.Value.pointer (Option.some (Go.Addr.mk x (0 : Nat) Option.none)), Go.Value.int Go.IntKind.i64 win, Go.Value.int Go.IntKind.i64 n63,
  Go.Value.int Go.IntKind.u32 n65, Go.Value.int Go.IntKind.i64 key]
  σ74 fun (v80 : Go.Value) (σ81 : Go.AI.AS) ↦ Go.AI.tI Go.IntKind.i64 v80 fun (n82 : Int) ↦ K (Go.Value.bool (n75 == n82)) σ81))
  (Go.AI.ldc σ (Go.Addr.mk i0_1 ((0 : Nat) + (2 : Nat)) Option.none) fun (v83 : Go.Value) ↦
  Go.AI.tI Go.IntKind.i64 v83 fun (n84 : Int) ↦
  Go.AI.ldc σ (Go.Addr.mk i0_1 ((0 : Nat) + (4 : Nat)) Option.none) fun (v85 : Go.Value) ↦
  Go.AI.tI Go.IntKind.u32 v85 fun (n86 : Int) ↦
  Go.AI.ldc σ (Go.Addr.mk i0_1 ((0 : Nat) + (2 : Nat)) Option.none) fun (v87 : Go.Value) ↦
  Go.AI.tI Go.IntKind.i64 v87 fun (n88 : Int) ↦
  Go.AI.ldc σ (Go.Addr.mk i0_1 ((0 : Nat) + (4 : Nat)) Option.none) fun (v89 : Go.Value) ↦
  Go.AI.tI Go.IntKind.u32 v89 fun (n90 : Int) ↦
  T (36 : Nat)
  [Go.Value.pointer (Option.some (Go.Addr.mk t (0 : Nat) Option.none)), Go.Value.int Go.IntKind.i64 win, Go.Value.int Go.IntKind.i64 n84, Go.Value.int Go.IntKind.u32 n86,
  Go.Value.int Go.IntKind.i64 key]
  σ fun (v91 : Go.Value) (σ92 : Go.AI.AS) ↦
  Go.AI.tI Go.IntKind.i64 v91 fun (n93 : Int) ↦
  Go.AI.ldc σ92 (Go.Addr.mk i0_1 ((0 : Nat) + (4 : Nat)) Option.none) fun (v94 : Go.Value) ↦
  Go.AI.tI Go.IntKind.u32 v94 fun (n95 : Int) ↦
  Go.Value.int Go.IntKind.u32 n90 = Go.Value.int Go.IntKind.u32 n95 ∧
  Go.AI.ldc σ92 (Go.Addr.mk i0_1 ((0 : Nat) + (2 : Nat)) Option.none) fun (v96 : Go.Value) ↦
  Go.AI.tI Go.IntKind.i64 v96 fun (n97 : Int) ↦
  Go.Value.int Go.IntKind.i64 n88 = Go.Value.int Go.IntKind.i64 n97 ∧
  T (23 : Nat) [Go.Value.int Go.IntKind.i64 n93] σ92 fun (v98 : Go.Value) (σ99 : Go.AI.AS) ↦
  Go.AI.tI Go.IntKind.i64 v98 fun (n100 : Int) ↦
  Go.AI.ldc σ99 (Go.Addr.mk i0_1 ((0 : Nat) + (4 : Nat)) Option.none) fun (v101 : Go.Value) ↦
  Go.AI.tI Go.IntKind.u32 v101 fun (n102 : Int) ↦
  Go.Value.int Go.IntKind.u32 n90 = Go.Value.int Go.IntKind.u32 n102 ∧
  Go.AI.ldc σ99 (Go.Addr.mk i0_1 ((0 : Nat) + (2 : Nat)) Option.none) fun (v103 : Go.Value) ↦
  Go.AI.tI Go.IntKind.i64 v103 fun (n104 : Int) ↦
  Go.Value.int Go.IntKind.i64 n88 = Go.Value.int Go.IntKind.i64 n104 ∧
  T (51 : Nat)
  [Go.Value.pointer (Option.some (Go.Addr.mk x (0 : Nat) Option.none)), Go.Value.int Go.IntKind.i64 win, Go.Value.int Go.IntKind.i64 n88,
  Go.Value.int Go.IntKind.u32 n90, Go.Value.int Go.IntKind.i64 key]
  σ99 fun (v105 : Go.Value) (σ106 : Go.AI.AS) ↦ Go.AI.tI Go.IntKind.i64 v105 fun (n107 : Int) ↦ K (Go.Value.bool (n100 == n107)) σ106))
  (Go.AI.bmatch (n1 == (7 : Int))
  (Go.AI.ldc σ (Go.Addr.mk i0_1 ((0 : Nat) + (1 : Nat)) Option.none) fun (v108 : Go.Value) ↦
  Go.AI.tI Go.IntKind.i64 v108 fun (n109 : Int) ↦
  Go.AI.ldc σ (Go.Addr.mk i0_1 ((0 : Nat) + (2 : Nat)) Option.none) fun (v110 : Go.Value) ↦
  Go.AI.tI Go.IntKind.i64 v110 fun (n111 : Int) ↦
  Go.AI.ldc σ (Go.Addr.mk i0_1 ((0 : Nat) + (1 : Nat)) Option.none) fun (v112 : Go.Value) ↦
  Go.AI.tI Go.IntKind.i64 v112 fun (n113 : Int) ↦
  Go.AI.ldc σ (Go.Addr.mk i0_1 ((0 : Nat) + (2 : Nat)) Option.none) fun (v114 : Go.Value) ↦
  Go.AI.tI Go.IntKind.i64 v114 fun (n115 : Int) ↦
  T (37 : Nat) [Go.Value.pointer (Option.some (Go.Addr.mk t (0 : Nat) Option.none)), Go.Value.int Go.IntKind.i64 n109, Go.Value.int Go.IntKind.i64 n111] σ
  fun (v116 : Go.Value) (σ117 : Go.AI.AS) ↦
  Go.AI.tI Go.IntKind.i64 v116 fun (n118 : Int) ↦
  Go.AI.ldc σ117 (Go.Addr.mk i0_1 ((0 : Nat) + (2 : Nat)) Option.none) fun (v119 : Go.Value) ↦
  Go.AI.tI Go.IntKind.i64 v119 fun (n120 : Int) ↦
  Go.Value.int Go.IntKind.i64 n115 = Go.Value.int Go.IntKind.i64 n120 ∧
  Go.AI.ldc σ117 (Go.Addr.mk i0_1 ((0 : Nat) + (1 : Nat)) Option.none) fun (v121 : Go.Value) ↦
  Go.AI.tI Go.IntKind.i64 v121 fun (n122 : Int) ↦
  Go.Value.int Go.IntKind.i64 n113 = Go.Value.int Go.IntKind.i64 n122 ∧
  T (23 : Nat) [Go.Value.int Go.IntKind.i64 n118] σ117 fun (v123 : Go.Value) (σ124 : Go.AI.AS) ↦
  Go.AI.tI Go.IntKind.i64 v123 fun (n125 : Int) ↦
  Go.AI.ldc σ124 (Go.Addr.mk i0_1 ((0 : Nat) + (2 : Nat)) Option.none) fun (v126 : Go.Value) ↦
  Go.AI.tI Go.IntKind.i64 v126 fun (n127 : Int) ↦
  Go.Value.int Go.IntKind.i64 n115 = Go.Value.int Go.IntKind.i64 n127 ∧
  Go.AI.ldc σ124 (Go.Addr.mk i0_1 ((0 : Nat) + (1 : Nat)) Option.none) fun (v128 : Go.Value) ↦
  Go.AI.tI Go.IntKind.i64 v128 fun (n129 : Int) ↦
  Go.Value.int Go.IntKind.i64 n113 = Go.Value.int Go.IntKind.i64 n129 ∧
  T (52 : Nat) [Go.Value.pointer (Option.some (Go.Addr.mk x (0 : Nat) Option.none)), Go.Value.int Go.IntKind.i64 n113, Go.Value.int Go.IntKind.i64 n115]
  σ124 fun (v130 : Go.Value) (σ131 : Go.AI.AS) ↦ Go.AI.tI Go.IntKind.i64 v130 fun (n132 : Int) ↦ K (Go.Value.bool (n125 == n132)) σ131)
  (Go.AI.ldc σ (Go.Addr.mk i0_1 ((0 : Nat) + (2 : Nat)) Option.none) fun (v133 : Go.Value) ↦
  Go.AI.tI Go.IntKind.i64 v133 fun (n134 : Int) ↦
  Go.AI.ldc σ (Go.Addr.mk i0_1 ((0 : Nat) + (4 : Nat)) Option.none) fun (v135 : Go.Value) ↦
  Go.AI.tI Go.IntKind.u32 v135 fun (n136 : Int) ↦
  Go.AI.ldc σ (Go.Addr.mk i0_1 ((0 : Nat) + (3 : Nat)) Option.none) fun (v137 : Go.Value) ↦
  Go.AI.tI Go.IntKind.i64 v137 fun (n138 : Int) ↦
  T (22 : Nat)
  [Go.Value.pointer (Option.some (Go.Addr.mk t (0 : Nat) Option.none)), Go.Value.int Go.IntKind.i64 win, Go.Value.int Go.IntKind.i64 n134, Go.Value.int Go.IntKind.u32 n136,
  Go.Value.int Go.IntKind.i64 n138]
  σ fun (v139 : Go.Value) (σ140 : Go.AI.AS) ↦
  Go.AI.tTup v139 fun (l141 : List Go.Value) ↦
  Go.AI.pSome l141[(0 : Nat)]? fun (u142 : Go.Value) ↦
  Go.AI.tI Go.IntKind.i64 u142 fun (n143 : Int) ↦
  Go.AI.tTup v139 fun (l144 : List Go.Value) ↦
  Go.AI.pSome l144[(1 : Nat)]? fun (u145 : Go.Value) ↦
  Go.AI.tI Go.IntKind.i64 u145 fun (n146 : Int) ↦
  Go.AI.ldc σ140 (Go.Addr.mk i0_1 ((0 : Nat) + (2 : Nat)) Option.none) fun (v147 : Go.Value) ↦
  Go.AI.tI Go.IntKind.i64 v147 fun (n148 : Int) ↦
  Go.AI.ldc σ140 (Go.Addr.mk i0_1 ((0 : Nat) + (4 : Nat)) Option.none) fun (v149 : Go.Value) ↦
  Go.AI.tI Go.IntKind.u32 v149 fun (n150 : Int) ↦
  Go.AI.ldc σ140 (Go.Addr.mk i0_1 ((0 : Nat) + (3 : Nat)) Option.none) fun (v151 : Go.Value) ↦
  Go.AI.tI Go.IntKind.i64 v151 fun (n152 : Int) ↦
  T (53 : Nat)
  [Go.Value.pointer (Option.some (Go.Addr.mk x (0 : Nat) Option.none)), Go.Value.int Go.IntKind.i64 win, Go.Value.int Go.IntKind.i64 n148,
  Go.Value.int Go.IntKind.u32 n150, Go.Value.int Go.IntKind.i64 n152]
  σ140 fun (v153 : Go.Value) (σ154 : Go.AI.AS) ↦
  Go.AI.tTup v153 fun (l155 : List Go.Value) ↦
  Go.AI.pSome l155[(0 : Nat)]? fun (u156 : Go.Value) ↦
  Go.AI.tI Go.IntKind.i64 u156 fun (n157 : Int) ↦
  Go.AI.tTup v153 fun (l158 : List Go.Value) ↦
  Go.AI.pSome l158[(1 : Nat)]? fun (u159 : Go.Value) ↦
  Go.AI.tI Go.IntKind.i64 u159 fun (n160 : Int) ↦
  Go.AI.bmatch (n143 == n157)
  (T (23 : Nat) [Go.Value.int Go.IntKind.i64 n146] σ154 fun (v161 : Go.Value) (σ162 : Go.AI.AS) ↦
  Go.AI.tI Go.IntKind.i64 v161 fun (n163 : Int) ↦ K (Go.Value.bool (n163 == n160)) σ162)
  (K (Go.Value.bool Bool.false) σ154))))
  (Go.AI.bmatch (n1 == (6 : Int))
  (Go.AI.ldc σ (Go.Addr.mk i0_1 ((0 : Nat) + (5 : Nat)) Option.none) fun (v164 : Go.Value) ↦
  Go.AI.tB v164 fun (b165 : Bool) ↦
  Go.AI.bmatch b165
  (Go.AI.ldc σ (Go.Addr.mk i0_1 ((0 : Nat) + (3 : Nat)) Option.none) fun (v166 : Go.Value) ↦
  Go.AI.tI Go.IntKind.i64 v166 fun (n167 : Int) ↦
  Go.AI.bmatch (n167 != (0 : Int))
  (Go.AI.ldc σ (Go.Addr.mk i0_1 ((0 : Nat) + (3 : Nat)) Option.none) fun (v168 : Go.Value) ↦
  Go.AI.tI Go.IntKind.i64 v168 fun (n169 : Int) ↦
  T (21 : Nat) [Go.Value.pointer (Option.some (Go.Addr.mk x (0 : Nat) Option.none)), Go.Value.int Go.IntKind.i64 n169] σ fun (v170 : Go.Value) (σ171 : Go.AI.AS) ↦
  Go.AI.tI Go.IntKind.i64 v170 fun (n172 : Int) ↦
  Go.AI.ldc σ171 (Go.Addr.mk i0_1 ((0 : Nat) + (2 : Nat)) Option.none) fun (v173 : Go.Value) ↦
  Go.AI.tI Go.IntKind.i64 v173 fun (n174 : Int) ↦
  Go.AI.ldc σ171 (Go.Addr.mk i0_1 ((0 : Nat) + (4 : Nat)) Option.none) fun (v175 : Go.Value) ↦
  Go.AI.tI Go.IntKind.u32 v175 fun (n176 : Int) ↦
  Go.AI.ldc σ171 (Go.Addr.mk i0_1 ((0 : Nat) + (2 : Nat)) Option.none) fun (v177 : Go.Value) ↦
  Go.AI.tI Go.IntKind.i64 v177 fun (n178 : Int) ↦
  Go.AI.ldc σ171 (Go.Addr.mk i0_1 ((0 : Nat) + (4 : Nat)) Option.none) fun (v179 : Go.Value) ↦
  Go.AI.tI Go.IntKind.u32 v179 fun (n180 : Int) ↦
  T (36 : Nat)
  [Go.Value.pointer (Option.some (Go.Addr.mk t (0 : Nat) Option.none)), Go.Value.int Go.IntKind.i64 win, Go.Value.int Go.IntKind.i64 n174,
  Go.Value.int Go.IntKind.u32 n176, Go.Value.int Go.IntKind.i64 n172]
  σ171 fun (v181 : Go.Value) (σ182 : Go.AI.AS) ↦
  Go.AI.tI Go.IntKind.i64 v181 fun (n183 : Int) ↦
  Go.AI.ldc σ182 (Go.Addr.mk i0_1 ((0 : Nat) + (4 : Nat)) Option.none) fun (v184 : Go.Value) ↦
  Go.AI.tI Go.IntKind.u32 v184 fun (n185 : Int) ↦
  Go.Value.int Go.IntKind.u32 n180 = Go.Value.int Go.IntKind.u32 n185 ∧
  Go.AI.ldc σ182 (Go.Addr.mk i0_1 ((0 : Nat) + (2 : Nat)) Option.none) fun (v186 : Go.Value) ↦
  Go.AI.tI Go.IntKind.i64 v186 fun (n187 : Int) ↦
  Go.Value.int Go.IntKind.i64 n178 = Go.Value.int Go.IntKind.i64 n187 ∧
  T (23 : Nat) [Go.Value.int Go.IntKind.i64 n183] σ182 fun (v188 : Go.Value) (σ189 : Go.AI.AS) ↦
  Go.AI.tI Go.IntKind.i64 v188 fun (n190 : Int) ↦
  Go.AI.ldc σ189 (Go.Addr.mk i0_1 ((0 : Nat) + (4 : Nat)) Option.none) fun (v191 : Go.Value) ↦
  Go.AI.tI Go.IntKind.u32 v191 fun (n192 : Int) ↦
  Go.Value.int Go.IntKind.u32 n180 = Go.Value.int Go.IntKind.u32 n192 ∧
  Go.AI.ldc σ189 (Go.Addr.mk i0_1 ((0 : Nat) + (2 : Nat)) Option.none) fun (v193 : Go.Value) ↦
  Go.AI.tI Go.IntKind.i64 v193 fun (n194 : Int) ↦
  Go.Value.int Go.IntKind.i64 n178 = Go.Value.int Go.IntKind.i64 n194 ∧
  T (51 : Nat)
  [Go.Value.pointer (Option.some (Go.Addr.mk x (0 : Nat) Option.none)), Go.Value.int Go.IntKind.i64 win,
  Go.Value.int Go.IntKind.i64 n178, Go.Value.int Go.IntKind.u32 n180, Go.Value.int Go.IntKind.i64 n172]
  σ189 fun (v195 : Go.Value) (σ196 : Go.AI.AS) ↦ Go.AI.tI Go.IntKind.i64 v195 fun (n197 : Int) ↦ K (Go.Value.bool (n190 == n197)) σ196)
  (Go.AI.ldc σ (Go.Addr.mk i0_1 ((0 : Nat) + (2 : Nat)) Option.none) fun (v198 : Go.Value) ↦
  Go.AI.tI Go.IntKind.i64 v198 fun (n199 : Int) ↦
  Go.AI.ldc σ (Go.Addr.mk i0_1 ((0 : Nat) + (4 : Nat)) Option.none) fun (v200 : Go.Value) ↦
  Go.AI.tI Go.IntKind.u32 v200 fun (n201 : Int) ↦
  Go.AI.ldc σ (Go.Addr.mk i0_1 ((0 : Nat) + (2 : Nat)) Option.none) fun (v202 : Go.Value) ↦
  Go.AI.tI Go.IntKind.i64 v202 fun (n203 : Int) ↦
  Go.AI.ldc σ (Go.Addr.mk i0_1 ((0 : Nat) + (4 : Nat)) Option.none) fun (v204 : Go.Value) ↦
  Go.AI.tI Go.IntKind.u32 v204 fun (n205 : Int) ↦
  T (36 : Nat)
  [Go.Value.pointer (Option.some (Go.Addr.mk t (0 : Nat) Option.none)), Go.Value.int Go.IntKind.i64 win, Go.Value.int Go.IntKind.i64 n199, Go.Value.int Go.IntKind.u32 n201,
  Go.Value.int Go.IntKind.i64 key]
  σ fun (v206 : Go.Value) (σ207 : Go.AI.AS) ↦
  Go.AI.tI Go.IntKind.i64 v206 fun (n208 : Int) ↦
  Go.AI.ldc σ207 (Go.Addr.mk i0_1 ((0 : Nat) + (4 : Nat)) Option.none) fun (v209 : Go.Value) ↦
  Go.AI.tI Go.IntKind.u32 v209 fun (n210 : Int) ↦
  Go.Value.int Go.IntKind.u32 n205 = Go.Value.int Go.IntKind.u32 n210 ∧
  Go.AI.ldc σ207 (Go.Addr.mk i0_1 ((0 : Nat) + (2 : Nat)) Option.none) fun (v211 : Go.Value) ↦
  Go.AI.tI Go.IntKind.i64 v211 fun (n212 : Int) ↦
  Go.Value.int Go.IntKind.i64 n203 = Go.Value.int Go.IntKind.i64 n212 ∧
  T (23 : Nat) [Go.Value.int Go.IntKind.i64 n208] σ207 fun (v213 : Go.Value) (σ214 : Go.AI.AS) ↦
  Go.AI.tI Go.IntKind.i64 v213 fun (n215 : Int) ↦
  Go.AI.ldc σ214 (Go.Addr.mk i0_1 ((0 : Nat) + (4 : Nat)) Option.none) fun (v216 : Go.Value) ↦
  Go.AI.tI Go.IntKind.u32 v216 fun (n217 : Int) ↦
  Go.Value.int Go.IntKind.u32 n205 = Go.Value.int Go.IntKind.u32 n217 ∧
  Go.AI.ldc σ214 (Go.Addr.mk i0_1 ((0 : Nat) + (2 : Nat)) Option.none) fun (v218 : Go.Value) ↦
  Go.AI.tI Go.IntKind.i64 v218 fun (n219 : Int) ↦
  Go.Value.int Go.IntKind.i64 n203 = Go.Value.int Go.IntKind.i64 n219 ∧
  T (51 : Nat)
  [Go.Value.pointer (Option.some (Go.Addr.mk x (0 : Nat) Option.none)), Go.Value.int Go.IntKind.i64 win, Go.Value.int Go.IntKind.i64 n203,
  Go.Value.int Go.IntKind.u32 n205, Go.Value.int Go.IntKind.i64 key]
  σ214 fun (v220 : Go.Value) (σ221 : Go.AI.AS) ↦ Go.AI.tI Go.IntKind.i64 v220 fun (n222 : Int) ↦ K (Go.Value.bool (n215 == n222)) σ221))
  (Go.AI.ldc σ (Go.Addr.mk i0_1 ((0 : Nat) + (2 : Nat)) Option.none) fun (v223 : Go.Value) ↦
  Go.AI.tI Go.IntKind.i64 v223 fun (n224 : Int) ↦
  Go.AI.ldc σ (Go.Addr.mk i0_1 ((0 : Nat) + (4 : Nat)) Option.none) fun (v225 : Go.Value) ↦
  Go.AI.tI Go.IntKind.u32 v225 fun (n226 : Int) ↦
  Go.AI.ldc σ (Go.Addr.mk i0_1 ((0 : Nat) + (2 : Nat)) Option.none) fun (v227 : Go.Value) ↦
  Go.AI.tI Go.IntKind.i64 v227 fun (n228 : Int) ↦
  Go.AI.ldc σ (Go.Addr.mk i0_1 ((0 : Nat) + (4 : Nat)) Option.none) fun (v229 : Go.Value) ↦
  Go.AI.tI Go.IntKind.u32 v229 fun (n230 : Int) ↦
  T (36 : Nat)
  [Go.Value.pointer (Option.some (Go.Addr.mk t (0 : Nat) Option.none)), Go.Value.int Go.IntKind.i64 win, Go.Value.int Go.IntKind.i64 n224, Go.Value.int Go.IntKind.u32 n226,
  Go.Value.int Go.IntKind.i64 key]
  σ fun (v231 : Go.Value) (σ232 : Go.AI.AS) ↦
  Go.AI.tI Go.IntKind.i64 v231 fun (n233 : Int) ↦
  Go.AI.ldc σ232 (Go.Addr.mk i0_1 ((0 : Nat) + (4 : Nat)) Option.none) fun (v234 : Go.Value) ↦
  Go.AI.tI Go.IntKind.u32 v234 fun (n235 : Int) ↦
  Go.Value.int Go.IntKind.u32 n230 = Go.Value.int Go.IntKind.u32 n235 ∧
  Go.AI.ldc σ232 (Go.Addr.mk i0_1 ((0 : Nat) + (2 : Nat)) Option.none) fun (v236 : Go.Value) ↦
  Go.AI.tI Go.IntKind.i64 v236 fun (n237 : Int) ↦
  Go.Value.int Go.IntKind.i64 n228 = Go.Value.int Go.IntKind.i64 n237 ∧
  T (23 : Nat) [Go.Value.int Go.IntKind.i64 n233] σ232 fun (v238 : Go.Value) (σ239 : Go.AI.AS) ↦
  Go.AI.tI Go.IntKind.i64 v238 fun (n240 : Int) ↦
  Go.AI.ldc σ239 (Go.Addr.mk i0_1 ((0 : Nat) + (4 : Nat)) Option.none) fun (v241 : Go.Value) ↦
  Go.AI.tI Go.IntKind.u32 v241 fun (n242 : Int) ↦
  Go.Value.int Go.IntKind.u32 n230 = Go.Value.int Go.IntKind.u32 n242 ∧
  Go.AI.ldc σ239 (Go.Addr.mk i0_1 ((0 : Nat) + (2 : Nat)) Option.none) fun (v243 : Go.Value) ↦
  Go.AI.tI Go.IntKind.i64 v243 fun (n244 : Int) ↦
  Go.Value.int Go.IntKind.i64 n228 = Go.Value.int Go.IntKind.i64 n244 ∧
  T (51 : Nat)
  [Go.Value.pointer (Option.some (Go.Addr.mk x (0 : Nat) Option.none)), Go.Value.int Go.IntKind.i64 win, Go.Value.int Go.IntKind.i64 n228,
  Go.Value.int Go.IntKind.u32 n230, Go.Value.int Go.IntKind.i64 key]
  σ239 fun (v245 : Go.Value) (σ246 : Go.AI.AS) ↦ Go.AI.tI Go.IntKind.i64 v245 fun (n247 : Int) ↦ K (Go.Value.bool (n240 == n247)) σ246))
  (Go.AI.bmatch (n1 == (7 : Int))
  (Go.AI.ldc σ (Go.Addr.mk i0_1 ((0 : Nat) + (1 : Nat)) Option.none) fun (v248 : Go.Value) ↦
  Go.AI.tI Go.IntKind.i64 v248 fun (n249 : Int) ↦
  Go.AI.ldc σ (Go.Addr.mk i0_1 ((0 : Nat) + (2 : Nat)) Option.none) fun (v250 : Go.Value) ↦
  Go.AI.tI Go.IntKind.i64 v250 fun (n251 : Int) ↦
  Go.AI.ldc σ (Go.Addr.mk i0_1 ((0 : Nat) + (1 : Nat)) Option.none) fun (v252 : Go.Value) ↦
  Go.AI.tI Go.IntKind.i64 v252 fun (n253 : Int) ↦
  Go.AI.ldc σ (Go.Addr.mk i0_1 ((0 : Nat) + (2 : Nat)) Option.none) fun (v254 : Go.Value) ↦
  Go.AI.tI Go.IntKind.i64 v254 fun (n255 : Int) ↦
  T (37 : Nat) [Go.Value.pointer (Option.some (Go.Addr.mk t (0 : Nat) Option.none)), Go.Value.int Go.IntKind.i64 n249, Go.Value.int Go.IntKind.i64 n251] σ
  fun (v256 : Go.Value) (σ257 : Go.AI.AS) ↦
  Go.AI.tI Go.IntKind.i64 v256 fun (n258 : Int) ↦
  Go.AI.ldc σ257 (Go.Addr.mk i0_1 ((0 : Nat) + (2 : Nat)) Option.none) fun (v259 : Go.Value) ↦
  Go.AI.tI Go.IntKind.i64 v259 fun (n260 : Int) ↦
  Go.Value.int Go.IntKind.i64 n255 = Go.Value.int Go.IntKind.i64 n260 ∧
  Go.AI.ldc σ257 (Go.Addr.mk i0_1 ((0 : Nat) + (1 : Nat)) Option.none) fun (v261 : Go.Value) ↦
  Go.AI.tI Go.IntKind.i64 v261 fun (n262 : Int) ↦
  Go.Value.int Go.IntKind.i64 n253 = Go.Value.int Go.IntKind.i64 n262 ∧
  T (23 : Nat) [Go.Value.int Go.IntKind.i64 n258] σ257 fun (v263 : Go.Value) (σ264 : Go.AI.AS) ↦
  Go.AI.tI Go.IntKind.i64 v263 fun (n265 : Int) ↦
  Go.AI.ldc σ264 (Go.Addr.mk i0_1 ((0 : Nat) + (2 : Nat)) Option.none) fun (v266 : Go.Value) ↦
  Go.AI.tI Go.IntKind.i64 v266 fun (n267 : Int) ↦
  Go.Value.int Go.IntKind.i64 n255 = Go.Value.int Go.IntKind.i64 n267 ∧
  Go.AI.ldc σ264 (Go.Addr.mk i0_1 ((0 : Nat) + (1 : Nat)) Option.none) fun (v268 : Go.Value) ↦
  Go.AI.tI Go.IntKind.i64 v268 fun (n269 : Int) ↦
  Go.Value.int Go.IntKind.i64 n253 = Go.Value.int Go.IntKind.i64 n269 ∧
  T (52 : Nat) [Go.Value.pointer (Option.some (Go.Addr.mk x (0 : Nat) Option.none)), Go.Value.int Go.IntKind.i64 n253, Go.Value.int Go.IntKind.i64 n255]
  σ264 fun (v270 : Go.Value) (σ271 : Go.AI.AS) ↦ Go.AI.tI Go.IntKind.i64 v270 fun (n272 : Int) ↦ K (Go.Value.bool (n265 == n272)) σ271)
  (Go.AI.ldc σ (Go.Addr.mk i0_1 ((0 : Nat) + (2 : Nat)) Option.none) fun (v273 : Go.Value) ↦
  Go.AI.tI Go.IntKind.i64 v273 fun (n274 : Int) ↦
  Go.AI.ldc σ (Go.Addr.mk i0_1 ((0 : Nat) + (4 : Nat)) Option.none) fun (v275 : Go.Value) ↦
  Go.AI.tI Go.IntKind.u32 v275 fun (n276 : Int) ↦
  Go.AI.ldc σ (Go.Addr.mk i0_1 ((0 : Nat) + (3 : Nat)) Option.none) fun (v277 : Go.Value) ↦
  Go.AI.tI Go.IntKind.i64 v277 fun (n278 : Int) ↦
  T (22 : Nat)
  [Go.Value.pointer (Option.some (Go.Addr.mk t (0 : Nat) Option.none)), Go.Value.int Go.IntKind.i64 win, Go.Value.int Go.IntKind.i64 n274, Go.Value.int Go.IntKind.u32 n276,
  Go.Value.int Go.IntKind.i64 n278]
  σ fun (v279 : Go.Value) (σ280 : Go.AI.AS) ↦
  Go.AI.tTup v279 fun (l281 : List Go.Value) ↦
  Go.AI.pSome l281[(0 : Nat)]? fun (u282 : Go.Value) ↦
  Go.AI.tI Go.IntKind.i64 u282 fun (n283 : Int) ↦
  Go.AI.tTup v279 fun (l284 : List Go.Value) ↦
  Go.AI.pSome l284[(1 : Nat)]? fun (u285 : Go.Value) ↦
  Go.AI.tI Go.IntKind.i64 u285 fun (n286 : Int) ↦
  Go.AI.ldc σ280 (Go.Addr.mk i0_1 ((0 : Nat) + (2 : Nat)) Option.none) fun (v287 : Go.Value) ↦
  Go.AI.tI Go.IntKind.i64 v287 fun (n288 : Int) ↦
  Go.AI.ldc σ280 (Go.Addr.mk i0_1 ((0 : Nat) + (4 : Nat)) Option.none) fun (v289 : Go.Value) ↦
  Go.AI.tI Go.IntKind.u32 v289 fun (n290 : Int) ↦
  Go.AI.ldc σ280 (Go.Addr.mk i0_1 ((0 : Nat) + (3 : Nat)) Option.none) fun (v291 : Go.Value) ↦
  Go.AI.tI Go.IntKind.i64 v291 fun (n292 : Int) ↦
  T (53 : Nat)
  [Go.Value.pointer (Option.some (Go.Addr.mk x (0 : Nat) Option.none)), Go.Value.int Go.IntKind.i64 win, Go.Value.int Go.IntKind.i64 n288,
  Go.Value.int Go.IntKind.u32 n290, Go.Value.int Go.IntKind.i64 n292]
  σ280 fun (v293 : Go.Value) (σ294 : Go.AI.AS) ↦
  Go.AI.tTup v293 fun (l295 : List Go.Value) ↦
  Go.AI.pSome l295[(0 : Nat)]? fun (u296 : Go.Value) ↦
  Go.AI.tI Go.IntKind.i64 u296 fun (n297 : Int) ↦
  Go.AI.tTup v293 fun (l298 : List Go.Value) ↦
  Go.AI.pSome l298[(1 : Nat)]? fun (u299 : Go.Value) ↦
  Go.AI.tI Go.IntKind.i64 u299 fun (n300 : Int) ↦
  Go.AI.bmatch (n283 == n297)
  (T (23 : Nat) [Go.Value.int Go.IntKind.i64 n286] σ294 fun (v301 : Go.Value) (σ302 : Go.AI.AS) ↦
  Go.AI.tI Go.IntKind.i64 v301 fun (n303 : Int) ↦ K (Go.Value.bool (n303 == n300)) σ302)
  (K (Go.Value.bool Bool.false) σ294))))) := by
  intros
  kernel_rfl

theorem s56 : ∀ (T : Go.AI.Ct) (t x : Nat) (n : Int) (σ : Go.AI.AS) (K : Go.Value → Go.AI.AS → Prop),
  Go.AI.fw Go.Proofs.Try.prog Go.AI.hintsS T (56 : Nat)
  [Go.Value.pointer (Option.some (Go.Addr.mk t (0 : Nat) Option.none)), Go.Value.pointer (Option.some (Go.Addr.mk x (0 : Nat) Option.none)), Go.Value.int Go.IntKind.i64 n] σ K =
  T (29 : Nat) [Go.Value.pointer (Option.some (Go.Addr.mk x (0 : Nat) Option.none)), Go.Value.int Go.IntKind.i64 n] σ fun (v0 : Go.Value) (σ1 : Go.AI.AS) ↦
  Go.AI.tAgg v0 fun (l2 : List Go.Value) ↦
  Go.AI.tCons l2 fun (v3 : Go.Value) (l4 : List Go.Value) ↦
  Go.AI.tI Go.IntKind.i64 v3 fun (n5 : Int) ↦
  Go.AI.tCons l4 fun (v6 : Go.Value) (l7 : List Go.Value) ↦
  Go.AI.tI Go.IntKind.i64 v6 fun (n8 : Int) ↦
  Go.AI.tCons l7 fun (v9 : Go.Value) (l10 : List Go.Value) ↦
  Go.AI.tI Go.IntKind.i64 v9 fun (n11 : Int) ↦
  Go.AI.tCons l10 fun (v12 : Go.Value) (l13 : List Go.Value) ↦
  Go.AI.tI Go.IntKind.i64 v12 fun (n14 : Int) ↦
  Go.AI.tCons l13 fun (v15 : Go.Value) (l16 : List Go.Value) ↦
  Go.AI.tI Go.IntKind.i64 v15 fun (n17 : Int) ↦
  Go.AI.tCons l16 fun (v18 : Go.Value) (l19 : List Go.Value) ↦
  Go.AI.tI Go.IntKind.i64 v18 fun (n20 : Int) ↦
  Go.AI.tCons l19 fun (v21 : Go.Value) (l22 : List Go.Value) ↦
  Go.AI.tI Go.IntKind.u32 v21 fun (n23 : Int) ↦
  Go.AI.tCons l22 fun (v24 : Go.Value) (l25 : List Go.Value) ↦
  Go.AI.tI Go.IntKind.i64 v24 fun (n26 : Int) ↦
  Go.AI.tNil l25
  (Go.AI.newAt σ1
  (Go.AI.AObj.row Go.AI.RK.plain
  [Go.Value.int Go.IntKind.i64 (0 : Int), Go.Value.int Go.IntKind.i64 (0 : Int), Go.Value.int Go.IntKind.i64 (0 : Int), Go.Value.int Go.IntKind.i64 (0 : Int),
  Go.Value.int Go.IntKind.i64 (0 : Int), Go.Value.int Go.IntKind.i64 (0 : Int), Go.Value.int Go.IntKind.u32 (0 : Int), Go.Value.int Go.IntKind.i64 (0 : Int)])
  fun (i27 : Nat) (σ28 : Go.AI.AS) ↦
  Go.AI.puts σ28 (Go.Addr.mk i27 (0 : Nat) Option.none)
  [Go.Value.int Go.IntKind.i64 n5, Go.Value.int Go.IntKind.i64 n8, Go.Value.int Go.IntKind.i64 n11, Go.Value.int Go.IntKind.i64 n14, Go.Value.int Go.IntKind.i64 n17,
  Go.Value.int Go.IntKind.i64 n20, Go.Value.int Go.IntKind.u32 n23, Go.Value.int Go.IntKind.i64 n26]
  fun (σ29 : Go.AI.AS) ↦
  T (20 : Nat) [Go.Value.pointer (Option.some (Go.Addr.mk t (0 : Nat) Option.none)), Go.Value.int Go.IntKind.i64 n] σ29 fun (v30 : Go.Value) (σ31 : Go.AI.AS) ↦
  Go.AI.tTup v30 fun (l32 : List Go.Value) ↦
  Go.AI.pSome l32[(0 : Nat)]? fun (u33 : Go.Value) ↦
  Go.AI.tI Go.IntKind.i64 u33 fun (n34 : Int) ↦
  Go.AI.tTup v30 fun (l35 : List Go.Value) ↦
  Go.AI.pSome l35[(1 : Nat)]? fun (u36 : Go.Value) ↦
  Go.AI.tI Go.IntKind.i64 u36 fun (n37 : Int) ↦
  T (30 : Nat) [Go.Value.pointer (Option.some (Go.Addr.mk t (0 : Nat) Option.none)), Go.Value.int Go.IntKind.i64 n] σ31
  fun (v38 : Go.Value) (σ39 : Go.AI.AS) ↦
  Go.AI.tTup v38 fun (l40 : List Go.Value) ↦
  Go.AI.pSome l40[(0 : Nat)]? fun (u41 : Go.Value) ↦
  Go.AI.tI Go.IntKind.i64 u41 fun (n42 : Int) ↦
  Go.AI.tTup v38 fun (l43 : List Go.Value) ↦
  Go.AI.pSome l43[(1 : Nat)]? fun (u44 : Go.Value) ↦
  Go.AI.tI Go.IntKind.u32 u44 fun (n45 : Int) ↦
  Go.AI.tTup v38 fun (l46 : List Go.Value) ↦
  Go.AI.pSome l46[(2 : Nat)]? fun (u47 : Go.Value) ↦
  Go.AI.tI Go.IntKind.i64 u47 fun (n48 : Int) ↦
  Go.AI.tTup v38 fun (l49 : List Go.Value) ↦
  Go.AI.pSome l49[(3 : Nat)]? fun (u50 : Go.Value) ↦
  Go.AI.tI Go.IntKind.i64 u50 fun (n51 : Int) ↦
  T (17 : Nat) [Go.Value.pointer (Option.some (Go.Addr.mk t (0 : Nat) Option.none)), Go.Value.int Go.IntKind.i64 n] σ39
  fun (v52 : Go.Value) (σ53 : Go.AI.AS) ↦
  Go.AI.tTup v52 fun (l54 : List Go.Value) ↦
  Go.AI.pSome l54[(0 : Nat)]? fun (u55 : Go.Value) ↦
  Go.AI.tAgg u55 fun (l56 : List Go.Value) ↦
  Go.AI.tCons l56 fun (v57 : Go.Value) (l58 : List Go.Value) ↦
  Go.AI.tI Go.IntKind.i64 v57 fun (n59 : Int) ↦
  Go.AI.tCons l58 fun (v60 : Go.Value) (l61 : List Go.Value) ↦
  Go.AI.tI Go.IntKind.i64 v60 fun (n62 : Int) ↦
  Go.AI.tCons l61 fun (v63 : Go.Value) (l64 : List Go.Value) ↦
  Go.AI.tI Go.IntKind.i64 v63 fun (n65 : Int) ↦
  Go.AI.tCons l64 fun (v66 : Go.Value) (l67 : List Go.Value) ↦
  Go.AI.tI Go.IntKind.i64 v66 fun (n68 : Int) ↦
  Go.AI.tNil l67
  (Go.AI.tTup v52 fun (l69 : List Go.Value) ↦
  Go.AI.pSome l69[(1 : Nat)]? fun (u70 : Go.Value) ↦
  Go.AI.tB u70 fun (b71 : Bool) ↦
  Go.AI.newAt σ53
  (Go.AI.AObj.row Go.AI.RK.plain
  [Go.Value.int Go.IntKind.i64 (0 : Int), Go.Value.int Go.IntKind.i64 (0 : Int),
  Go.Value.int Go.IntKind.i64 (0 : Int), Go.Value.int Go.IntKind.i64 (0 : Int)])
  fun (i72 : Nat) (σ73 : Go.AI.AS) ↦
  Go.AI.puts σ73 (Go.Addr.mk i72 (0 : Nat) Option.none)
  [Go.Value.int Go.IntKind.i64 n59, Go.Value.int Go.IntKind.i64 n62,
  Go.Value.int Go.IntKind.i64 n65, Go.Value.int Go.IntKind.i64 n68]
  fun (σ74 : Go.AI.AS) ↦
  T (65 : Nat)
  [Go.Value.pointer (Option.some (Go.Addr.mk x (0 : Nat) Option.none)),
  Go.Value.int Go.IntKind.i64 n]
  σ74 fun (v75 : Go.Value) (σ76 : Go.AI.AS) ↦
  Go.AI.tTup v75 fun (l77 : List Go.Value) ↦
  Go.AI.pSome l77[(0 : Nat)]? fun (u78 : Go.Value) ↦
  Go.AI.tAgg u78 fun (l79 : List Go.Value) ↦
  Go.AI.tCons l79 fun (v80 : Go.Value) (l81 : List Go.Value) ↦
  Go.AI.tI Go.IntKind.i64 v80 fun (n82 : Int) ↦
  Go.AI.tCons l81 fun (v83 : Go.Value) (l84 : List Go.Value) ↦
  Go.AI.tI Go.IntKind.i64 v83 fun (n85 : Int) ↦
  Go.AI.tCons l84 fun (v86 : Go.Value) (l87 : List Go.Value) ↦
  Go.AI.tI Go.IntKind.i64 v86 fun (n88 : Int) ↦
  Go.AI.tCons l87 fun (v89 : Go.Value) (l90 : List Go.Value) ↦
  Go.AI.tI Go.IntKind.i64 v89 fun (n91 : Int) ↦
  Go.AI.tNil l90
  (Go.AI.tTup v75 fun (l92 : List Go.Value) ↦
  Go.AI.pSome l92[(1 : Nat)]? fun (u93 : Go.Value) ↦
  Go.AI.tB u93 fun (b94 : Bool) ↦
  Go.AI.newAt σ76
  (Go.AI.AObj.row Go.AI.RK.plain
  [Go.Value.int Go.IntKind.i64 (0 : Int),
  Go.Value.int Go.IntKind.i64 (0 : Int),
  Go.Value.int Go.IntKind.i64 (0 : Int),
  Go.Value.int Go.IntKind.i64 (0 : Int)])
  fun (i95 : Nat) (σ96 : Go.AI.AS) ↦
  Go.AI.puts σ96 (Go.Addr.mk i95 (0 : Nat) Option.none)
  [Go.Value.int Go.IntKind.i64 n82,
  Go.Value.int Go.IntKind.i64 n85,
  Go.Value.int Go.IntKind.i64 n88,
  Go.Value.int Go.IntKind.i64 n91]
  fun (σ97 : Go.AI.AS) ↦
  Go.AI.lds σ97 (Go.Addr.mk i72 (0 : Nat) Option.none) (4 : Nat)
  fun (l98 : List Go.Value) ↦
  Go.AI.tCons l98
  fun (v99 : Go.Value) (l100 : List Go.Value) ↦
  Go.AI.tI Go.IntKind.i64 v99 fun (n101 : Int) ↦
  Go.AI.tCons l100
  fun (v102 : Go.Value) (l103 : List Go.Value) ↦
  Go.AI.tI Go.IntKind.i64 v102 fun (n104 : Int) ↦
  Go.AI.tCons l103
  fun (v105 : Go.Value) (l106 : List Go.Value) ↦
  Go.AI.tI Go.IntKind.i64 v105 fun (n107 : Int) ↦
  Go.AI.tCons l106
  fun (v108 : Go.Value) (l109 : List Go.Value) ↦
  Go.AI.tI Go.IntKind.i64 v108
  fun (n110 : Int) ↦
  Go.AI.tNil l109
  (Go.AI.lds σ97
  (Go.Addr.mk i95 (0 : Nat) Option.none)
  (4 : Nat) fun (l111 : List Go.Value) ↦
  Go.AI.tCons l111
  fun (v112 : Go.Value)
  (l113 : List Go.Value) ↦
  Go.AI.tI Go.IntKind.i64 v112
  fun (n114 : Int) ↦
  Go.AI.tCons l113
  fun (v115 : Go.Value)
  (l116 : List Go.Value) ↦
  Go.AI.tI Go.IntKind.i64 v115
  fun (n117 : Int) ↦
  Go.AI.tCons l116
  fun (v118 : Go.Value)
  (l119 : List Go.Value) ↦
  Go.AI.tI Go.IntKind.i64 v118
  fun (n120 : Int) ↦
  Go.AI.tCons l119
  fun (v121 : Go.Value)
  (l122 : List Go.Value) ↦
  Go.AI.tI Go.IntKind.i64
  v121 fun (n123 : Int) ↦
  Go.AI.tNil l122
  (Go.AI.bmatch
  (!(n101 == n114 &&
  (n104 == n117 &&
  (n107 ==
  n120 &&
  (n110 ==
  n123 &&
  Bool.true)))))
  (K
  (Go.Value.bool
  Bool.false)
  σ97)
  (Go.AI.bmatch
  (!b71 == b94)
  (K
  (Go.Value.bool
  Bool.false)
  σ97)
  (Go.AI.ldc σ97
  (Go.Addr.mk i27
  ((0 : Nat) +
  (1 : Nat))
  Option.none)
  fun
  (v124 :
  Go.Value) ↦
  Go.AI.tI
  Go.IntKind.i64
  v124
  fun
  (n125 :
  Int) ↦
  T (18 : Nat)
  [Go.Value.pointer
  (Option.some
  (Go.Addr.mk
  t
  (0 :
  Nat)
  Option.none)),
  Go.Value.int
  Go.IntKind.i64
  n]
  σ97
  fun
  (v126 :
  Go.Value)
  (σ127 :
  Go.AI.AS) ↦
  Go.AI.tI
  Go.IntKind.i64
  v126
  fun
  (n128 :
  Int) ↦
  Go.AI.ldc
  σ127
  (Go.Addr.mk
  i27
  ((0 :
  Nat) +
  (1 :
  Nat))
  Option.none)
  fun
  (v129 :
  Go.Value) ↦
  Go.AI.tI
  Go.IntKind.i64
  v129
  fun
  (n130 :
  Int) ↦
  Go.Value.int
  Go.IntKind.i64
  n125 =
  Go.Value.int
  Go.IntKind.i64
  n130 ∧
  Go.AI.bmatch
  (n128 !=
  n125)
  (K
  (Go.Value.bool
  Bool.false)
  σ127)
  (Go.AI.ldc
  σ127
  (Go.Addr.mk
  i27
  ((0 :
  Nat) +
  (2 :
  Nat))
  Option.none)
  fun
  (v131 :
  Go.Value) ↦
  Go.AI.tI
  Go.IntKind.i64
  v131
  fun
  (n132 :
  Int) ↦
  T
  (24 :
  Nat)
  [Go.Value.pointer
  (Option.some
  (Go.Addr.mk
  t
  (0 :
  Nat)
  Option.none)),
  Go.Value.int
  Go.IntKind.i64
  n]
  σ127
  fun
  (v133 :
  Go.Value)
  (σ134 :
  Go.AI.AS) ↦
  Go.AI.tI
  Go.IntKind.i64
  v133
  fun
  (n135 :
  Int) ↦
  Go.AI.ldc
  σ134
  (Go.Addr.mk
  i27
  ((0 :
  Nat) +
  (2 :
  Nat))
  Option.none)
  fun
  (v136 :
  Go.Value) ↦
  Go.AI.tI
  Go.IntKind.i64
  v136
  fun
  (n137 :
  Int) ↦
  Go.Value.int
  Go.IntKind.i64
  n132 =
  Go.Value.int
  Go.IntKind.i64
  n137 ∧
  Go.AI.bmatch
  (n135 !=
  n132)
  (K
  (Go.Value.bool
  Bool.false)
  σ134)
  (Go.AI.ldc
  σ134
  (Go.Addr.mk
  i27
  ((0 :
  Nat) +
  (3 :
  Nat))
  Option.none)
  fun
  (v138 :
  Go.Value) ↦
  Go.AI.tI
  Go.IntKind.i64
  v138
  fun
  (n139 :
  Int) ↦
  Go.AI.bmatch
  (n34 !=
  n139)
  (K
  (Go.Value.bool
  Bool.false)
  σ134)
  (Go.AI.ldc
  σ134
  (Go.Addr.mk
  i27
  ((0 :
  Nat) +
  (4 :
  Nat))
  Option.none)
  fun
  (v140 :
  Go.Value) ↦
  Go.AI.tI
  Go.IntKind.i64
  v140
  fun
  (n141 :
  Int) ↦
  Go.AI.bmatch
  (n37 !=
  n141)
  (K
  (Go.Value.bool
  Bool.false)
  σ134)
  (T
  (23 :
  Nat)
  [Go.Value.int
  Go.IntKind.i64
  n51]
  σ134
  fun
  (v142 :
  Go.Value)
  (σ143 :
  Go.AI.AS) ↦
  Go.AI.tI
  Go.IntKind.i64
  v142
  fun
  (n144 :
  Int) ↦
  T
  (62 :
  Nat)
  [Go.Value.pointer
  (Option.some
  (Go.Addr.mk
  x
  (0 :
  Nat)
  Option.none)),
  Go.Value.int
  Go.IntKind.i64
  n]
  σ143
  fun
  (v145 :
  Go.Value)
  (σ146 :
  Go.AI.AS) ↦
  Go.AI.tI
  Go.IntKind.i64
  v145
  fun
  (n147 :
  Int) ↦
  Go.AI.bmatch
  (n144 !=
  n147)
  (K
  (Go.Value.bool
  Bool.false)
  σ146)
  (Go.AI.ldc
  σ146
  (Go.Addr.mk
  i27
  ((0 :
  Nat) +
  (1 :
  Nat))
  Option.none)
  fun
  (v148 :
  Go.Value) ↦
  Go.AI.tI
  Go.IntKind.i64
  v148
  fun
  (n149 :
  Int) ↦
  Go.AI.bmatch
  (n149 !=
  (0 :
  Int))
  (Go.AI.ldc
  σ146
  (Go.Addr.mk
  i27
  ((0 :
  Nat) +
  (2 :
  Nat))
  Option.none)
  fun
  (v150 :
  Go.Value) ↦
  Go.AI.tI
  Go.IntKind.i64
  v150
  fun
  (n151 :
  Int) ↦
  Go.AI.bmatch
  (n151 !=
  (0 :
  Int))
  (T
  (26 :
  Nat)
  [Go.Value.pointer
  (Option.some
  (Go.Addr.mk
  t
  (0 :
  Nat)
  Option.none)),
  Go.Value.int
  Go.IntKind.i64
  n]
  σ146
  fun
  (v152 :
  Go.Value)
  (σ153 :
  Go.AI.AS) ↦
  Go.AI.tI
  Go.IntKind.i64
  v152
  fun
  (n154 :
  Int) ↦
  T
  (61 :
  Nat)
  [Go.Value.pointer
  (Option.some
  (Go.Addr.mk
  x
  (0 :
  Nat)
  Option.none)),
  Go.Value.int
  Go.IntKind.i64
  n]
  σ153
  fun
  (v155 :
  Go.Value)
  (σ156 :
  Go.AI.AS) ↦
  Go.AI.tI
  Go.IntKind.i64
  v155
  fun
  (n157 :
  Int) ↦
  Go.AI.bmatch
  (n154 !=
  n157)
  (K
  (Go.Value.bool
  Bool.false)
  σ156)
  (Go.AI.ldc
  σ156
  (Go.Addr.mk
  i27
  ((0 :
  Nat) +
  (1 :
  Nat))
  Option.none)
  fun
  (v158 :
  Go.Value) ↦
  Go.AI.tI
  Go.IntKind.i64
  v158
  fun
  (n159 :
  Int) ↦
  Go.AI.bmatch
  (n159 ==
  (0 :
  Int))
  (T
  (26 :
  Nat)
  [Go.Value.pointer
  (Option.some
  (Go.Addr.mk
  t
  (0 :
  Nat)
  Option.none)),
  Go.Value.int
  Go.IntKind.i64
  n]
  σ156
  fun
  (v160 :
  Go.Value)
  (σ161 :
  Go.AI.AS) ↦
  Go.AI.tI
  Go.IntKind.i64
  v160
  fun
  (n162 :
  Int) ↦
  Go.AI.bmatch
  (n162 !=
  (0 :
  Int))
  (K
  (Go.Value.bool
  Bool.false)
  σ161)
  (Go.AI.ldc
  σ161
  (Go.Addr.mk
  i27
  ((0 :
  Nat) +
  (5 :
  Nat))
  Option.none)
  fun
  (v163 :
  Go.Value) ↦
  Go.AI.tI
  Go.IntKind.i64
  v163
  fun
  (n164 :
  Int) ↦
  Go.AI.bmatch
  (n42 ==
  n164)
  (Go.AI.ldc
  σ161
  (Go.Addr.mk
  i27
  ((0 :
  Nat) +
  (6 :
  Nat))
  Option.none)
  fun
  (v165 :
  Go.Value) ↦
  Go.AI.tI
  Go.IntKind.u32
  v165
  fun
  (n166 :
  Int) ↦
  Go.AI.bmatch
  (n45 ==
  n166)
  (Go.AI.ldc
  σ161
  (Go.Addr.mk
  i27
  ((0 :
  Nat) +
  (7 :
  Nat))
  Option.none)
  fun
  (v167 :
  Go.Value) ↦
  Go.AI.tI
  Go.IntKind.i64
  v167
  fun
  (n168 :
  Int) ↦
  K
  (Go.Value.bool
  (n48 ==
  n168))
  σ161)
  (K
  (Go.Value.bool
  Bool.false)
  σ161))
  (K
  (Go.Value.bool
  Bool.false)
  σ161)))
  (Go.AI.ldc
  σ156
  (Go.Addr.mk
  i27
  ((0 :
  Nat) +
  (2 :
  Nat))
  Option.none)
  fun
  (v169 :
  Go.Value) ↦
  Go.AI.tI
  Go.IntKind.i64
  v169
  fun
  (n170 :
  Int) ↦
  Go.AI.bmatch
  (n170 ==
  (0 :
  Int))
  (T
  (26 :
  Nat)
  [Go.Value.pointer
  (Option.some
  (Go.Addr.mk
  t
  (0 :
  Nat)
  Option.none)),
  Go.Value.int
  Go.IntKind.i64
  n]
  σ156
  fun
  (v171 :
  Go.Value)
  (σ172 :
  Go.AI.AS) ↦
  Go.AI.tI
  Go.IntKind.i64
  v171
  fun
  (n173 :
  Int) ↦
  Go.AI.bmatch
  (n173 !=
  (0 :
  Int))
  (K
  (Go.Value.bool
  Bool.false)
  σ172)
  (Go.AI.ldc
  σ172
  (Go.Addr.mk
  i27
  ((0 :
  Nat) +
  (5 :
  Nat))
  Option.none)
  fun
  (v174 :
  Go.Value) ↦
  Go.AI.tI
  Go.IntKind.i64
  v174
  fun
  (n175 :
  Int) ↦
  Go.AI.bmatch
  (n42 ==
  n175)
  (Go.AI.ldc
  σ172
  (Go.Addr.mk
  i27
  ((0 :
  Nat) +
  (6 :
  Nat))
  Option.none)
  fun
  (v176 :
  Go.Value) ↦
  Go.AI.tI
  Go.IntKind.u32
  v176
  fun
  (n177 :
  Int) ↦
  Go.AI.bmatch
  (n45 ==
  n177)
  (Go.AI.ldc
  σ172
  (Go.Addr.mk
  i27
  ((0 :
  Nat) +
  (7 :
  Nat))
  Option.none)
  fun
  (v178 :
  Go.Value) ↦
  Go.AI.tI
  Go.IntKind.i64
  v178
  fun
  (n179 :
  Int) ↦
  K
  (Go.Value.bool
  (n48 ==
  n179))
  σ172)
  (K
  (Go.Value.bool
  Bool.false)
  σ172))
  (K
  (Go.Value.bool
  Bool.false)
  σ172)))
  (Go.AI.ldc
  σ156
  (Go.Addr.mk
  i27
  ((0 :
  Nat) +
  (5 :
  Nat))
  Option.none)
  fun
  (v180 :
  Go.Value) ↦
  Go.AI.tI
  Go.IntKind.i64
  v180
  fun
  (n181 :
  Int) ↦
  Go.AI.bmatch
  (n42 ==
  n181)
  (Go.AI.ldc
  σ156
  (Go.Addr.mk
  i27
  ((0 :
  Nat) +
  (6 :
  Nat))
  Option.none)
  fun
  (v182 :
  Go.Value) ↦
  Go.AI.tI
  Go.IntKind.u32
  v182
  fun
  (n183 :
  Int) ↦
  Go.AI.bmatch
  (n45 ==
  n183)
  (Go.AI.ldc
  σ156
  (Go.Addr.mk
  i27
  ((0 :
  Nat) +
  (7 :
  Nat))
  Option.none)
  fun
  (v184 :
  Go.Value) ↦
  Go.AI.tI
  Go.IntKind.i64
  v184
  fun
  (n185 :
  Int) ↦
  K
  (Go.Value.bool
  (n48 ==
  n185))
  σ156)
  (K
  (Go.Value.bool
  Bool.false)
  σ156))
  (K
  (Go.Value.bool
  Bool.false)
  σ156)))))
  (Go.AI.ldc
  σ146
  (Go.Addr.mk
  i27
  ((0 :
  Nat) +
  (1 :
  Nat))
  Option.none)
  fun
  (v186 :
  Go.Value) ↦
  Go.AI.tI
  Go.IntKind.i64
  v186
  fun
  (n187 :
  Int) ↦
  Go.AI.bmatch
  (n187 ==
  (0 :
  Int))
  (T
  (26 :
  Nat)
  [Go.Value.pointer
  (Option.some
  (Go.Addr.mk
  t
  (0 :
  Nat)
  Option.none)),
  Go.Value.int
  Go.IntKind.i64
  n]
  σ146
  fun
  (v188 :
  Go.Value)
  (σ189 :
  Go.AI.AS) ↦
  Go.AI.tI
  Go.IntKind.i64
  v188
  fun
  (n190 :
  Int) ↦
  Go.AI.bmatch
  (n190 !=
  (0 :
  Int))
  (K
  (Go.Value.bool
  Bool.false)
  σ189)
  (Go.AI.ldc
  σ189
  (Go.Addr.mk
  i27
  ((0 :
  Nat) +
  (5 :
  Nat))
  Option.none)
  fun
  (v191 :
  Go.Value) ↦
  Go.AI.tI
  Go.IntKind.i64
  v191
  fun
  (n192 :
  Int) ↦
  Go.AI.bmatch
  (n42 ==
  n192)
  (Go.AI.ldc
  σ189
  (Go.Addr.mk
  i27
  ((0 :
  Nat) +
  (6 :
  Nat))
  Option.none)
  fun
  (v193 :
  Go.Value) ↦
  Go.AI.tI
  Go.IntKind.u32
  v193
  fun
  (n194 :
  Int) ↦
  Go.AI.bmatch
  (n45 ==
  n194)
  (Go.AI.ldc
  σ189
  (Go.Addr.mk
  i27
  ((0 :
  Nat) +
  (7 :
  Nat))
  Option.none)
  fun
  (v195 :
  Go.Value) ↦
  Go.AI.tI
  Go.IntKind.i64
  v195
  fun
  (n196 :
  Int) ↦
  K
  (Go.Value.bool
  (n48 ==
  n196))
  σ189)
  (K
  (Go.Value.bool
  Bool.false)
  σ189))
  (K
  (Go.Value.bool
  Bool.false)
  σ189)))
  (Go.AI.ldc
  σ146
  (Go.Addr.mk
  i27
  ((0 :
  Nat) +
  (2 :
  Nat))
  Option.none)
  fun
  (v197 :
  Go.Value) ↦
  Go.AI.tI
  Go.IntKind.i64
  v197
  fun
  (n198 :
  Int) ↦
  Go.AI.bmatch
  (n198 ==
  (0 :
  Int))
  (T
  (26 :
  Nat)
  [Go.Value.pointer
  (Option.some
  (Go.Addr.mk
  t
  (0 :
  Nat)
  Option.none)),
  Go.Value.int
  Go.IntKind.i64
  n]
  σ146
  fun
  (v199 :
  Go.Value)
  (σ200 :
  Go.AI.AS) ↦
  Go.AI.tI
  Go.IntKind.i64
  v199
  fun
  (n201 :
  Int) ↦
  Go.AI.bmatch
  (n201 !=
  (0 :
  Int))
  (K
  (Go.Value.bool
  Bool.false)
  σ200)
  (Go.AI.ldc
  σ200
  (Go.Addr.mk
  i27
  ((0 :
  Nat) +
  (5 :
  Nat))
  Option.none)
  fun
  (v202 :
  Go.Value) ↦
  Go.AI.tI
  Go.IntKind.i64
  v202
  fun
  (n203 :
  Int) ↦
  Go.AI.bmatch
  (n42 ==
  n203)
  (Go.AI.ldc
  σ200
  (Go.Addr.mk
  i27
  ((0 :
  Nat) +
  (6 :
  Nat))
  Option.none)
  fun
  (v204 :
  Go.Value) ↦
  Go.AI.tI
  Go.IntKind.u32
  v204
  fun
  (n205 :
  Int) ↦
  Go.AI.bmatch
  (n45 ==
  n205)
  (Go.AI.ldc
  σ200
  (Go.Addr.mk
  i27
  ((0 :
  Nat) +
  (7 :
  Nat))
  Option.none)
  fun
  (v206 :
  Go.Value) ↦
  Go.AI.tI
  Go.IntKind.i64
  v206
  fun
  (n207 :
  Int) ↦
  K
  (Go.Value.bool
  (n48 ==
  n207))
  σ200)
  (K
  (Go.Value.bool
  Bool.false)
  σ200))
  (K
  (Go.Value.bool
  Bool.false)
  σ200)))
  (Go.AI.ldc
  σ146
  (Go.Addr.mk
  i27
  ((0 :
  Nat) +
  (5 :
  Nat))
  Option.none)
  fun
  (v208 :
  Go.Value) ↦
  Go.AI.tI
  Go.IntKind.i64
  v208
  fun
  (n209 :
  Int) ↦
  Go.AI.bmatch
  (n42 ==
  n209)
  (Go.AI.ldc
  σ146
  (Go.Addr.mk
  i27
  ((0 :
  Nat) +
  (6 :
  Nat))
  Option.none)
  fun
  (v210 :
  Go.Value) ↦
  Go.AI.tI
  Go.IntKind.u32
  v210
  fun
  (n211 :
  Int) ↦
  Go.AI.bmatch
  (n45 ==
  n211)
  (Go.AI.ldc
  σ146
  (Go.Addr.mk
  i27
  ((0 :
  Nat) +
  (7 :
  Nat))
  Option.none)
  fun
  (v212 :
  Go.Value) ↦
  Go.AI.tI
  Go.IntKind.i64
  v212
  fun
  (n213 :
  Int) ↦
  K
  (Go.Value.bool
  (n48 ==
  n213))
  σ146)
  (K
  (Go.Value.bool
  Bool.false)
  σ146))
  (K
  (Go.Value.bool
  Bool.false)
  σ146)))))
  (Go.AI.ldc
  σ146
  (Go.Addr.mk
  i27
  ((0 :
  Nat) +
  (1 :
  Nat))
  Option.none)
  fun
  (v214 :
  Go.Value) ↦
  Go.AI.tI
  Go.IntKind.i64
  v214
  fun
  (n215 :
  Int) ↦
  Go.AI.bmatch
  (n215 ==
  (0 :
  Int))
  (T
  (26 :
  Nat)
  [Go.Value.pointer
  (Option.some
  (Go.Addr.mk
  t
  (0 :
  Nat)
  Option.none)),
  Go.Value.int
  Go.IntKind.i64
  n]
  σ146
  fun
  (v216 :
  Go.Value)
  (σ217 :
  Go.AI.AS) ↦
  Go.AI.tI
  Go.IntKind.i64
  v216
  fun
  (n218 :
  Int) ↦
  Go.AI.bmatch
  (n218 !=
  (0 :
  Int))
  (K
  (Go.Value.bool
  Bool.false)
  σ217)
  (Go.AI.ldc
  σ217
  (Go.Addr.mk
  i27
  ((0 :
  Nat) +
  (5 :
  Nat))
  Option.none)
  fun
  (v219 :
  Go.Value) ↦
  Go.AI.tI
  Go.IntKind.i64
  v219
  fun
  (n220 :
  Int) ↦
  Go.AI.bmatch
  (n42 ==
  n220)
  (Go.AI.ldc
  σ217
  (Go.Addr.mk
  i27
  ((0 :
  Nat) +
  (6 :
  Nat))
  Option.none)
  fun
  (v221 :
  Go.Value) ↦
  Go.AI.tI
  Go.IntKind.u32
  v221
  fun
  (n222 :
  Int) ↦
  Go.AI.bmatch
  (n45 ==
  n222)
  (Go.AI.ldc
  σ217
  (Go.Addr.mk
  i27
  ((0 :
  Nat) +
  (7 :
  Nat))
  Option.none)
  fun
  (v223 :
  Go.Value) ↦
  Go.AI.tI
  Go.IntKind.i64
  v223
  fun
  (n224 :
  Int) ↦
  K
  (Go.Value.bool
  (n48 ==
  n224))
  σ217)
  (K
  (Go.Value.bool
  Bool.false)
  σ217))
  (K
  (Go.Value.bool
  Bool.false)
  σ217)))
  (Go.AI.ldc
  σ146
  (Go.Addr.mk
  i27
  ((0 :
  Nat) +
  (2 :
  Nat))
  Option.none)
  fun
  (v225 :
  Go.Value) ↦
  Go.AI.tI
  Go.IntKind.i64
  v225
  fun
  (n226 :
  Int) ↦
  Go.AI.bmatch
  (n226 ==
  (0 :
  Int))
  (T
  (26 :
  Nat)
  [Go.Value.pointer
  (Option.some
  (Go.Addr.mk
  t
  (0 :
  Nat)
  Option.none)),
  Go.Value.int
  Go.IntKind.i64
  n]
  σ146
  fun
  (v227 :
  Go.Value)
  (σ228 :
  Go.AI.AS) ↦
  Go.AI.tI
  Go.IntKind.i64
  v227
  fun
  (n229 :
  Int) ↦
  Go.AI.bmatch
  (n229 !=
  (0 :
  Int))
  (K
  (Go.Value.bool
  Bool.false)
  σ228)
  (Go.AI.ldc
  σ228
  (Go.Addr.mk
  i27
  ((0 :
  Nat) +
  (5 :
  Nat))
  Option.none)
  fun
  (v230 :
  Go.Value) ↦
  Go.AI.tI
  Go.IntKind.i64
  v230
  fun
  (n231 :
  Int) ↦
  Go.AI.bmatch
  (n42 ==
  n231)
  (Go.AI.ldc
  σ228
  (Go.Addr.mk
  i27
  ((0 :
  Nat) +
  (6 :
  Nat))
  Option.none)
  fun
  (v232 :
  Go.Value) ↦
  Go.AI.tI
  Go.IntKind.u32
  v232
  fun
  (n233 :
  Int) ↦
  Go.AI.bmatch
  (n45 ==
  n233)
  (Go.AI.ldc
  σ228
  (Go.Addr.mk
  i27
  ((0 :
  Nat) +
  (7 :
  Nat))
  Option.none)
  fun
  (v234 :
  Go.Value) ↦
  Go.AI.tI
  Go.IntKind.i64
  v234
  fun
  (n235 :
  Int) ↦
  K
  (Go.Value.bool
  (n48 ==
  n235))
  σ228)
  (K
  (Go.Value.bool
  Bool.false)
  σ228))
  (K
  (Go.Value.bool
  Bool.false)
  σ228)))
  (Go.AI.ldc
  σ146
  (Go.Addr.mk
  i27
  ((0 :
  Nat) +
  (5 :
  Nat))
  Option.none)
  fun
  (v236 :
  Go.Value) ↦
  Go.AI.tI
  Go.IntKind.i64
  v236
  fun
  (n237 :
  Int) ↦
  Go.AI.bmatch
  (n42 ==
  n237)
  (Go.AI.ldc
  σ146
  (Go.Addr.mk
  i27
  ((0 :
  Nat) +
  (6 :
  Nat))
  Option.none)
  fun
  (v238 :
  Go.Value) ↦
  Go.AI.tI
  Go.IntKind.u32
  v238
  fun
  (n239 :
  Int) ↦
  Go.AI.bmatch
  (n45 ==
  n239)
  (Go.AI.ldc
  σ146
  (Go.Addr.mk
  i27
  ((0 :
  Nat) +
  (7 :
  Nat))
  Option.none)
  fun
  (v240 :
  Go.Value) ↦
  Go.AI.tI
  Go.IntKind.i64
  v240
  fun
  (n241 :
  Int) ↦
  K
  (Go.Value.bool
  (n48 ==
  n241))
  σ146)
  (K
  (Go.Value.bool
  Bool.false)
  σ146))
  (K
  (Go.Value.bool
  Bool.false)
  σ146)))))))))))))))) := by
  intros
  kernel_rfl

end Go.AI
end
