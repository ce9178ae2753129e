/- The conditions ahead of the calls of the program's functions, reckoned as far as they go (equations that the kernel checks); no condition. -/
import Derived.Test.YtfjbhgldbgamhaaTySoft
import Derived.Test.YtfjbhgldbgamhaaAISep
set_option maxRecDepth 1000000
set_option linter.unusedVariables false
namespace Go.AI
open Go.Proofs
theorem s57 : ∀ (T : Ct) (x y : Int) (σ : AS) (K : Value → AS → Prop),
  fw Proofs.Try.prog hintsS T (57 : Nat) [Value.int IntKind.u32 x, Value.int IntKind.u32 y] σ K =
  T (67 : Nat) [Value.int IntKind.u32 x] σ fun (v0 : Value) (σ1 : AS) ↦
  tB v0 fun (b2 : Bool) ↦
  bmatch b2
  (T (67 : Nat) [Value.int IntKind.u32 y] σ1 fun (v3 : Value) (σ4 : AS) ↦
  tB v3 fun (b5 : Bool) ↦ bmatch (!b5) (K (Value.bool Bool.true) σ4) (K (Value.bool (Decidable.decide (x < y))) σ4))
  (K (Value.bool (Decidable.decide (x < y))) σ1) := by
  intros
  kernel_rfl

theorem s67 : ∀ (T : Ct) (x : Int) (σ : AS) (K : Value → AS → Prop), fw Proofs.Try.prog hintsS T (67 : Nat) [Value.int IntKind.u32 x] σ K = K (Value.bool (x != x)) σ := by
  intros
  kernel_rfl

theorem s51 : ∀ (T : Ct) (d : Option Addr) (n : Nat) (a b : Int) (σ : AS) (K : Value → AS → Prop),
  fw Proofs.Try.prog hintsS T (51 : Nat) [Value.slice d n (1 : Nat), Value.int IntKind.i64 a, Value.int IntKind.i64 b] σ K =
  ALoop (fl Proofs.Try.prog hintsS T (51 : Nat) [Bool.true, Bool.false] [] K)
  [((0 : Nat), Option.some (Value.slice d n (1 : Nat))), ((1 : Nat), Option.some (Value.int IntKind.i64 a)), ((2 : Nat), Option.some (Value.int IntKind.i64 b)),
  ((6 : Nat), Option.some (Value.int IntKind.i64 (IntKind.wrap IntKind.i64 (a + (1 : Int)))))]
  σ := by
  intros
  kernel_rfl

theorem s51l : ∀ (T : Ct) (d : Option Addr) (n : Nat) (a b i : Int) (X : Regs → AS → Prop) (σ : AS) (K : Value → AS → Prop),
  fl Proofs.Try.prog hintsS T (51 : Nat) [Bool.true, Bool.false] [] K X
  [((0 : Nat), Option.some (Value.slice d n (1 : Nat))), ((1 : Nat), Option.some (Value.int IntKind.i64 a)), ((2 : Nat), Option.some (Value.int IntKind.i64 b)),
  ((6 : Nat), Option.some (Value.int IntKind.i64 i))]
  σ =
  bmatch (Decidable.decide (i < b))
  (ALoop (fl Proofs.Try.prog hintsS T (51 : Nat) [Bool.true, Bool.false, Bool.false, Bool.true, Bool.false, Bool.false, Bool.true, Bool.false] [X] K)
  [((0 : Nat), Option.some (Value.slice d n (1 : Nat))), ((1 : Nat), Option.some (Value.int IntKind.i64 a)), ((2 : Nat), Option.some (Value.int IntKind.i64 b)),
  ((6 : Nat), Option.some (Value.int IntKind.i64 i)), ((7 : Nat), Option.some (Value.int IntKind.i64 i))]
  σ)
  (K (Value.tuple (Array.mk [])) σ) := by
  intros
  kernel_rfl

theorem s51k : ∀ (T : Ct) (d : Option Addr) (n : Nat) (a b i j : Int) (Y X : Regs → AS → Prop) (σ : AS) (K : Value → AS → Prop),
  fl Proofs.Try.prog hintsS T (51 : Nat) [Bool.true, Bool.false, Bool.false, Bool.true, Bool.false, Bool.false, Bool.true, Bool.false] [Y] K X
  [((0 : Nat), Option.some (Value.slice d n (1 : Nat))), ((1 : Nat), Option.some (Value.int IntKind.i64 a)), ((2 : Nat), Option.some (Value.int IntKind.i64 b)),
  ((6 : Nat), Option.some (Value.int IntKind.i64 i)), ((7 : Nat), Option.some (Value.int IntKind.i64 j))]
  σ =
  bmatch (Decidable.decide (j > a))
  (req ((0 : Int) ≤ j)
  (req (j < (↑n : Int))
  (pSome d fun (a0 : Addr) ↦
  ldc σ (Addr.add a0 (Int.toNat j * szOf Proofs.Try.prog (22 : Nat))) fun (v1 : Value) ↦
  tI IntKind.u32 v1 fun (n2 : Int) ↦
  req ((0 : Int) ≤ IntKind.wrap IntKind.i64 (j - (1 : Int)))
  (req (IntKind.wrap IntKind.i64 (j - (1 : Int)) < (↑n : Int))
  (pSome d fun (a3 : Addr) ↦
  ldc σ (Addr.add a3 (Int.toNat (IntKind.wrap IntKind.i64 (j - (1 : Int))) * szOf Proofs.Try.prog (22 : Nat))) fun (v4 : Value) ↦
  tI IntKind.u32 v4 fun (n5 : Int) ↦
  T (57 : Nat) [Value.int IntKind.u32 n2, Value.int IntKind.u32 n5] σ fun (v6 : Value) (σ7 : AS) ↦
  tB v6 fun (b8 : Bool) ↦
  bmatch b8
  (req ((0 : Int) ≤ IntKind.wrap IntKind.i64 (j - (1 : Int)))
  (req (IntKind.wrap IntKind.i64 (j - (1 : Int)) < (↑n : Int))
  (pSome d fun (a9 : Addr) ↦
  ldc σ7 (Addr.add a9 (Int.toNat (IntKind.wrap IntKind.i64 (j - (1 : Int))) * szOf Proofs.Try.prog (22 : Nat))) fun (v10 : Value) ↦
  tI IntKind.u32 v10 fun (n11 : Int) ↦
  req ((0 : Int) ≤ j)
  (req (j < (↑n : Int))
  (pSome d fun (a12 : Addr) ↦
  ldc σ7 (Addr.add a12 (Int.toNat j * szOf Proofs.Try.prog (22 : Nat))) fun (v13 : Value) ↦
  tI IntKind.u32 v13 fun (n14 : Int) ↦
  req ((0 : Int) ≤ j)
  (req (j < (↑n : Int))
  (pSome d fun (a15 : Addr) ↦
  put1 σ7 (Addr.add a15 (Int.toNat j * szOf Proofs.Try.prog (22 : Nat))) (Value.int IntKind.u32 n11) fun (σ16 : AS) ↦
  req ((0 : Int) ≤ IntKind.wrap IntKind.i64 (j - (1 : Int)))
  (req (IntKind.wrap IntKind.i64 (j - (1 : Int)) < (↑n : Int))
  (pSome d fun (a17 : Addr) ↦
  put1 σ16 (Addr.add a17 (Int.toNat (IntKind.wrap IntKind.i64 (j - (1 : Int))) * szOf Proofs.Try.prog (22 : Nat)))
  (Value.int IntKind.u32 n14) fun (σ18 : AS) ↦
  X
  [((0 : Nat), Option.some (Value.slice d n (1 : Nat))), ((1 : Nat), Option.some (Value.int IntKind.i64 a)),
  ((2 : Nat), Option.some (Value.int IntKind.i64 b)), ((6 : Nat), Option.some (Value.int IntKind.i64 i)),
  ((7 : Nat), Option.some (Value.int IntKind.i64 (IntKind.wrap IntKind.i64 (j - (1 : Int)))))]
  σ18)))))))))
  (Y
  [((0 : Nat), Option.some (Value.slice d n (1 : Nat))), ((1 : Nat), Option.some (Value.int IntKind.i64 a)), ((2 : Nat), Option.some (Value.int IntKind.i64 b)),
  ((6 : Nat), Option.some (Value.int IntKind.i64 (IntKind.wrap IntKind.i64 (i + (1 : Int)))))]
  σ7))))))
  (Y
  [((0 : Nat), Option.some (Value.slice d n (1 : Nat))), ((1 : Nat), Option.some (Value.int IntKind.i64 a)), ((2 : Nat), Option.some (Value.int IntKind.i64 b)),
  ((6 : Nat), Option.some (Value.int IntKind.i64 (IntKind.wrap IntKind.i64 (i + (1 : Int)))))]
  σ) := by
  intros
  kernel_rfl

theorem s46 : ∀ (T : Ct) (d : Option Addr) (n : Nat) (σ : AS) (K : Value → AS → Prop),
  fw Proofs.Try.prog hintsS T (46 : Nat) [Value.slice d n (1 : Nat)] σ K =
  T (50 : Nat) [Value.int IntKind.u64 (IntKind.wrap IntKind.u64 (↑n : Int))] σ fun (v0 : Value) (σ1 : AS) ↦
  tI IntKind.i64 v0 fun (n2 : Int) ↦
  T (49 : Nat) [Value.slice d n (1 : Nat), Value.int IntKind.i64 (0 : Int), Value.int IntKind.i64 (↑n : Int), Value.int IntKind.i64 n2] σ1 fun (v3 : Value) (σ4 : AS) ↦
  K (Value.tuple (Array.mk [])) σ4 := by
  intros
  kernel_rfl

theorem s62 : ∀ (T : Ct) (d : Option Addr) (n : Nat) (lo hi fi : Int) (σ : AS) (K : Value → AS → Prop),
  fw Proofs.Try.prog hintsS T (62 : Nat) [Value.slice d n (1 : Nat), Value.int IntKind.i64 lo, Value.int IntKind.i64 hi, Value.int IntKind.i64 fi] σ K =
  ALoop (fl Proofs.Try.prog hintsS T (62 : Nat) [Bool.true, Bool.false] [] K)
  [((0 : Nat), Option.some (Value.slice d n (1 : Nat))), ((2 : Nat), Option.some (Value.int IntKind.i64 hi)), ((3 : Nat), Option.some (Value.int IntKind.i64 fi)),
  ((8 : Nat), Option.some (Value.int IntKind.i64 lo))]
  σ := by
  intros
  kernel_rfl

theorem s62l : ∀ (T : Ct) (d : Option Addr) (n : Nat) (hi fi r : Int) (X : Regs → AS → Prop) (σ : AS) (K : Value → AS → Prop),
  fl Proofs.Try.prog hintsS T (62 : Nat) [Bool.true, Bool.false] [] K X
  [((0 : Nat), Option.some (Value.slice d n (1 : Nat))), ((2 : Nat), Option.some (Value.int IntKind.i64 hi)), ((3 : Nat), Option.some (Value.int IntKind.i64 fi)),
  ((8 : Nat), Option.some (Value.int IntKind.i64 r))]
  σ =
  bmatch (Decidable.decide (IntKind.wrap IntKind.i64 (IntKind.wrap IntKind.i64 ((2 : Int) * r) + (1 : Int)) ≥ hi)) (K (Value.tuple (Array.mk [])) σ)
  (bmatch (Decidable.decide (IntKind.wrap IntKind.i64 (IntKind.wrap IntKind.i64 (IntKind.wrap IntKind.i64 ((2 : Int) * r) + (1 : Int)) + (1 : Int)) < hi))
  (req ((0 : Int) ≤ IntKind.wrap IntKind.i64 (fi + IntKind.wrap IntKind.i64 (IntKind.wrap IntKind.i64 ((2 : Int) * r) + (1 : Int))))
  (req (IntKind.wrap IntKind.i64 (fi + IntKind.wrap IntKind.i64 (IntKind.wrap IntKind.i64 ((2 : Int) * r) + (1 : Int))) < (↑n : Int))
  (pSome d fun (a0 : Addr) ↦
  ldc σ
  (Addr.add a0
  (Int.toNat (IntKind.wrap IntKind.i64 (fi + IntKind.wrap IntKind.i64 (IntKind.wrap IntKind.i64 ((2 : Int) * r) + (1 : Int)))) * szOf Proofs.Try.prog (22 : Nat)))
  fun (v1 : Value) ↦
  tI IntKind.u32 v1 fun (n2 : Int) ↦
  req ((0 : Int) ≤ IntKind.wrap IntKind.i64 (IntKind.wrap IntKind.i64 (fi + IntKind.wrap IntKind.i64 (IntKind.wrap IntKind.i64 ((2 : Int) * r) + (1 : Int))) + (1 : Int)))
  (req
  (IntKind.wrap IntKind.i64 (IntKind.wrap IntKind.i64 (fi + IntKind.wrap IntKind.i64 (IntKind.wrap IntKind.i64 ((2 : Int) * r) + (1 : Int))) + (1 : Int)) < (↑n : Int))
  (pSome d fun (a3 : Addr) ↦
  ldc σ
  (Addr.add a3
  (Int.toNat
  (IntKind.wrap IntKind.i64 (IntKind.wrap IntKind.i64 (fi + IntKind.wrap IntKind.i64 (IntKind.wrap IntKind.i64 ((2 : Int) * r) + (1 : Int))) + (1 : Int))) *
  szOf Proofs.Try.prog (22 : Nat)))
  fun (v4 : Value) ↦
  tI IntKind.u32 v4 fun (n5 : Int) ↦
  T (57 : Nat) [Value.int IntKind.u32 n2, Value.int IntKind.u32 n5] σ fun (v6 : Value) (σ7 : AS) ↦
  tB v6 fun (b8 : Bool) ↦
  bmatch b8
  (req ((0 : Int) ≤ IntKind.wrap IntKind.i64 (fi + r))
  (req (IntKind.wrap IntKind.i64 (fi + r) < (↑n : Int))
  (pSome d fun (a9 : Addr) ↦
  ldc σ7 (Addr.add a9 (Int.toNat (IntKind.wrap IntKind.i64 (fi + r)) * szOf Proofs.Try.prog (22 : Nat))) fun (v10 : Value) ↦
  tI IntKind.u32 v10 fun (n11 : Int) ↦
  req
  ((0 : Int) ≤
  IntKind.wrap IntKind.i64
  (fi + IntKind.wrap IntKind.i64 (IntKind.wrap IntKind.i64 (IntKind.wrap IntKind.i64 ((2 : Int) * r) + (1 : Int)) + (1 : Int))))
  (req
  (IntKind.wrap IntKind.i64
  (fi + IntKind.wrap IntKind.i64 (IntKind.wrap IntKind.i64 (IntKind.wrap IntKind.i64 ((2 : Int) * r) + (1 : Int)) + (1 : Int))) <
  (↑n : Int))
  (pSome d fun (a12 : Addr) ↦
  ldc σ7
  (Addr.add a12
  (Int.toNat
  (IntKind.wrap IntKind.i64
  (fi + IntKind.wrap IntKind.i64 (IntKind.wrap IntKind.i64 (IntKind.wrap IntKind.i64 ((2 : Int) * r) + (1 : Int)) + (1 : Int)))) *
  szOf Proofs.Try.prog (22 : Nat)))
  fun (v13 : Value) ↦
  tI IntKind.u32 v13 fun (n14 : Int) ↦
  T (57 : Nat) [Value.int IntKind.u32 n11, Value.int IntKind.u32 n14] σ7 fun (v15 : Value) (σ16 : AS) ↦
  tB v15 fun (b17 : Bool) ↦
  bmatch (!b17) (K (Value.tuple (Array.mk [])) σ16)
  (req
  ((0 : Int) ≤
  IntKind.wrap IntKind.i64
  (fi + IntKind.wrap IntKind.i64 (IntKind.wrap IntKind.i64 (IntKind.wrap IntKind.i64 ((2 : Int) * r) + (1 : Int)) + (1 : Int))))
  (req
  (IntKind.wrap IntKind.i64
  (fi + IntKind.wrap IntKind.i64 (IntKind.wrap IntKind.i64 (IntKind.wrap IntKind.i64 ((2 : Int) * r) + (1 : Int)) + (1 : Int))) <
  (↑n : Int))
  (pSome d fun (a18 : Addr) ↦
  ldc σ16
  (Addr.add a18
  (Int.toNat
  (IntKind.wrap IntKind.i64
  (fi +
  IntKind.wrap IntKind.i64 (IntKind.wrap IntKind.i64 (IntKind.wrap IntKind.i64 ((2 : Int) * r) + (1 : Int)) + (1 : Int)))) *
  szOf Proofs.Try.prog (22 : Nat)))
  fun (v19 : Value) ↦
  tI IntKind.u32 v19 fun (n20 : Int) ↦
  req ((0 : Int) ≤ IntKind.wrap IntKind.i64 (fi + r))
  (req (IntKind.wrap IntKind.i64 (fi + r) < (↑n : Int))
  (pSome d fun (a21 : Addr) ↦
  ldc σ16 (Addr.add a21 (Int.toNat (IntKind.wrap IntKind.i64 (fi + r)) * szOf Proofs.Try.prog (22 : Nat)))
  fun (v22 : Value) ↦
  tI IntKind.u32 v22 fun (n23 : Int) ↦
  req ((0 : Int) ≤ IntKind.wrap IntKind.i64 (fi + r))
  (req (IntKind.wrap IntKind.i64 (fi + r) < (↑n : Int))
  (pSome d fun (a24 : Addr) ↦
  put1 σ16 (Addr.add a24 (Int.toNat (IntKind.wrap IntKind.i64 (fi + r)) * szOf Proofs.Try.prog (22 : Nat)))
  (Value.int IntKind.u32 n20) fun (σ25 : AS) ↦
  req
  ((0 : Int) ≤
  IntKind.wrap IntKind.i64
  (fi +
  IntKind.wrap IntKind.i64
  (IntKind.wrap IntKind.i64 (IntKind.wrap IntKind.i64 ((2 : Int) * r) + (1 : Int)) + (1 : Int))))
  (req
  (IntKind.wrap IntKind.i64
  (fi +
  IntKind.wrap IntKind.i64
  (IntKind.wrap IntKind.i64 (IntKind.wrap IntKind.i64 ((2 : Int) * r) + (1 : Int)) + (1 : Int))) <
  (↑n : Int))
  (pSome d fun (a26 : Addr) ↦
  put1 σ25
  (Addr.add a26
  (Int.toNat
  (IntKind.wrap IntKind.i64
  (fi +
  IntKind.wrap IntKind.i64
  (IntKind.wrap IntKind.i64 (IntKind.wrap IntKind.i64 ((2 : Int) * r) + (1 : Int)) + (1 : Int)))) *
  szOf Proofs.Try.prog (22 : Nat)))
  (Value.int IntKind.u32 n23) fun (σ27 : AS) ↦
  X
  [((0 : Nat), Option.some (Value.slice d n (1 : Nat))), ((2 : Nat), Option.some (Value.int IntKind.i64 hi)),
  ((3 : Nat), Option.some (Value.int IntKind.i64 fi)),
  ((8 : Nat),
  Option.some
  (Value.int IntKind.i64
  (IntKind.wrap IntKind.i64
  (IntKind.wrap IntKind.i64 (IntKind.wrap IntKind.i64 ((2 : Int) * r) + (1 : Int)) + (1 : Int)))))]
  σ27))))))))))))))
  (req ((0 : Int) ≤ IntKind.wrap IntKind.i64 (fi + r))
  (req (IntKind.wrap IntKind.i64 (fi + r) < (↑n : Int))
  (pSome d fun (a28 : Addr) ↦
  ldc σ7 (Addr.add a28 (Int.toNat (IntKind.wrap IntKind.i64 (fi + r)) * szOf Proofs.Try.prog (22 : Nat))) fun (v29 : Value) ↦
  tI IntKind.u32 v29 fun (n30 : Int) ↦
  req ((0 : Int) ≤ IntKind.wrap IntKind.i64 (fi + IntKind.wrap IntKind.i64 (IntKind.wrap IntKind.i64 ((2 : Int) * r) + (1 : Int))))
  (req (IntKind.wrap IntKind.i64 (fi + IntKind.wrap IntKind.i64 (IntKind.wrap IntKind.i64 ((2 : Int) * r) + (1 : Int))) < (↑n : Int))
  (pSome d fun (a31 : Addr) ↦
  ldc σ7
  (Addr.add a31
  (Int.toNat (IntKind.wrap IntKind.i64 (fi + IntKind.wrap IntKind.i64 (IntKind.wrap IntKind.i64 ((2 : Int) * r) + (1 : Int)))) *
  szOf Proofs.Try.prog (22 : Nat)))
  fun (v32 : Value) ↦
  tI IntKind.u32 v32 fun (n33 : Int) ↦
  T (57 : Nat) [Value.int IntKind.u32 n30, Value.int IntKind.u32 n33] σ7 fun (v34 : Value) (σ35 : AS) ↦
  tB v34 fun (b36 : Bool) ↦
  bmatch (!b36) (K (Value.tuple (Array.mk [])) σ35)
  (req ((0 : Int) ≤ IntKind.wrap IntKind.i64 (fi + IntKind.wrap IntKind.i64 (IntKind.wrap IntKind.i64 ((2 : Int) * r) + (1 : Int))))
  (req
  (IntKind.wrap IntKind.i64 (fi + IntKind.wrap IntKind.i64 (IntKind.wrap IntKind.i64 ((2 : Int) * r) + (1 : Int))) < (↑n : Int))
  (pSome d fun (a37 : Addr) ↦
  ldc σ35
  (Addr.add a37
  (Int.toNat (IntKind.wrap IntKind.i64 (fi + IntKind.wrap IntKind.i64 (IntKind.wrap IntKind.i64 ((2 : Int) * r) + (1 : Int)))) *
  szOf Proofs.Try.prog (22 : Nat)))
  fun (v38 : Value) ↦
  tI IntKind.u32 v38 fun (n39 : Int) ↦
  req ((0 : Int) ≤ IntKind.wrap IntKind.i64 (fi + r))
  (req (IntKind.wrap IntKind.i64 (fi + r) < (↑n : Int))
  (pSome d fun (a40 : Addr) ↦
  ldc σ35 (Addr.add a40 (Int.toNat (IntKind.wrap IntKind.i64 (fi + r)) * szOf Proofs.Try.prog (22 : Nat)))
  fun (v41 : Value) ↦
  tI IntKind.u32 v41 fun (n42 : Int) ↦
  req ((0 : Int) ≤ IntKind.wrap IntKind.i64 (fi + r))
  (req (IntKind.wrap IntKind.i64 (fi + r) < (↑n : Int))
  (pSome d fun (a43 : Addr) ↦
  put1 σ35 (Addr.add a43 (Int.toNat (IntKind.wrap IntKind.i64 (fi + r)) * szOf Proofs.Try.prog (22 : Nat)))
  (Value.int IntKind.u32 n39) fun (σ44 : AS) ↦
  req
  ((0 : Int) ≤
  IntKind.wrap IntKind.i64
  (fi + IntKind.wrap IntKind.i64 (IntKind.wrap IntKind.i64 ((2 : Int) * r) + (1 : Int))))
  (req
  (IntKind.wrap IntKind.i64
  (fi + IntKind.wrap IntKind.i64 (IntKind.wrap IntKind.i64 ((2 : Int) * r) + (1 : Int))) <
  (↑n : Int))
  (pSome d fun (a45 : Addr) ↦
  put1 σ44
  (Addr.add a45
  (Int.toNat
  (IntKind.wrap IntKind.i64
  (fi + IntKind.wrap IntKind.i64 (IntKind.wrap IntKind.i64 ((2 : Int) * r) + (1 : Int)))) *
  szOf Proofs.Try.prog (22 : Nat)))
  (Value.int IntKind.u32 n42) fun (σ46 : AS) ↦
  X
  [((0 : Nat), Option.some (Value.slice d n (1 : Nat))), ((2 : Nat), Option.some (Value.int IntKind.i64 hi)),
  ((3 : Nat), Option.some (Value.int IntKind.i64 fi)),
  ((8 : Nat),
  Option.some
  (Value.int IntKind.i64
  (IntKind.wrap IntKind.i64 (IntKind.wrap IntKind.i64 ((2 : Int) * r) + (1 : Int)))))]
  σ46)))))))))))))))))))
  (req ((0 : Int) ≤ IntKind.wrap IntKind.i64 (fi + r))
  (req (IntKind.wrap IntKind.i64 (fi + r) < (↑n : Int))
  (pSome d fun (a47 : Addr) ↦
  ldc σ (Addr.add a47 (Int.toNat (IntKind.wrap IntKind.i64 (fi + r)) * szOf Proofs.Try.prog (22 : Nat))) fun (v48 : Value) ↦
  tI IntKind.u32 v48 fun (n49 : Int) ↦
  req ((0 : Int) ≤ IntKind.wrap IntKind.i64 (fi + IntKind.wrap IntKind.i64 (IntKind.wrap IntKind.i64 ((2 : Int) * r) + (1 : Int))))
  (req (IntKind.wrap IntKind.i64 (fi + IntKind.wrap IntKind.i64 (IntKind.wrap IntKind.i64 ((2 : Int) * r) + (1 : Int))) < (↑n : Int))
  (pSome d fun (a50 : Addr) ↦
  ldc σ
  (Addr.add a50
  (Int.toNat (IntKind.wrap IntKind.i64 (fi + IntKind.wrap IntKind.i64 (IntKind.wrap IntKind.i64 ((2 : Int) * r) + (1 : Int)))) * szOf Proofs.Try.prog (22 : Nat)))
  fun (v51 : Value) ↦
  tI IntKind.u32 v51 fun (n52 : Int) ↦
  T (57 : Nat) [Value.int IntKind.u32 n49, Value.int IntKind.u32 n52] σ fun (v53 : Value) (σ54 : AS) ↦
  tB v53 fun (b55 : Bool) ↦
  bmatch (!b55) (K (Value.tuple (Array.mk [])) σ54)
  (req ((0 : Int) ≤ IntKind.wrap IntKind.i64 (fi + IntKind.wrap IntKind.i64 (IntKind.wrap IntKind.i64 ((2 : Int) * r) + (1 : Int))))
  (req (IntKind.wrap IntKind.i64 (fi + IntKind.wrap IntKind.i64 (IntKind.wrap IntKind.i64 ((2 : Int) * r) + (1 : Int))) < (↑n : Int))
  (pSome d fun (a56 : Addr) ↦
  ldc σ54
  (Addr.add a56
  (Int.toNat (IntKind.wrap IntKind.i64 (fi + IntKind.wrap IntKind.i64 (IntKind.wrap IntKind.i64 ((2 : Int) * r) + (1 : Int)))) *
  szOf Proofs.Try.prog (22 : Nat)))
  fun (v57 : Value) ↦
  tI IntKind.u32 v57 fun (n58 : Int) ↦
  req ((0 : Int) ≤ IntKind.wrap IntKind.i64 (fi + r))
  (req (IntKind.wrap IntKind.i64 (fi + r) < (↑n : Int))
  (pSome d fun (a59 : Addr) ↦
  ldc σ54 (Addr.add a59 (Int.toNat (IntKind.wrap IntKind.i64 (fi + r)) * szOf Proofs.Try.prog (22 : Nat))) fun (v60 : Value) ↦
  tI IntKind.u32 v60 fun (n61 : Int) ↦
  req ((0 : Int) ≤ IntKind.wrap IntKind.i64 (fi + r))
  (req (IntKind.wrap IntKind.i64 (fi + r) < (↑n : Int))
  (pSome d fun (a62 : Addr) ↦
  put1 σ54 (Addr.add a62 (Int.toNat (IntKind.wrap IntKind.i64 (fi + r)) * szOf Proofs.Try.prog (22 : Nat)))
  (Value.int IntKind.u32 n58) fun (σ63 : AS) ↦
  req ((0 : Int) ≤ IntKind.wrap IntKind.i64 (fi + IntKind.wrap IntKind.i64 (IntKind.wrap IntKind.i64 ((2 : Int) * r) + (1 : Int))))
  (req
  (IntKind.wrap IntKind.i64 (fi + IntKind.wrap IntKind.i64 (IntKind.wrap IntKind.i64 ((2 : Int) * r) + (1 : Int))) < (↑n : Int))
  (pSome d fun (a64 : Addr) ↦
  put1 σ63
  (Addr.add a64
  (Int.toNat (IntKind.wrap IntKind.i64 (fi + IntKind.wrap IntKind.i64 (IntKind.wrap IntKind.i64 ((2 : Int) * r) + (1 : Int)))) *
  szOf Proofs.Try.prog (22 : Nat)))
  (Value.int IntKind.u32 n61) fun (σ65 : AS) ↦
  X
  [((0 : Nat), Option.some (Value.slice d n (1 : Nat))), ((2 : Nat), Option.some (Value.int IntKind.i64 hi)),
  ((3 : Nat), Option.some (Value.int IntKind.i64 fi)),
  ((8 : Nat),
  Option.some (Value.int IntKind.i64 (IntKind.wrap IntKind.i64 (IntKind.wrap IntKind.i64 ((2 : Int) * r) + (1 : Int)))))]
  σ65))))))))))))))) := by
  intros
  kernel_rfl

theorem s52 : ∀ (T : Ct) (d : Option Addr) (n : Nat) (a b : Int) (σ : AS) (K : Value → AS → Prop),
  fw Proofs.Try.prog hintsS T (52 : Nat) [Value.slice d n (1 : Nat), Value.int IntKind.i64 a, Value.int IntKind.i64 b] σ K =
  ALoop (fl Proofs.Try.prog hintsS T (52 : Nat) [Bool.true, Bool.true, Bool.true, Bool.false, Bool.true, Bool.false] [] K)
  [((0 : Nat), Option.some (Value.slice d n (1 : Nat))), ((6 : Nat), Option.some (Value.int IntKind.i64 a)), ((7 : Nat), Option.some (Value.int IntKind.i64 (0 : Int))),
  ((8 : Nat), Option.some (Value.int IntKind.i64 (IntKind.wrap IntKind.i64 (b - a)))),
  ((9 : Nat), Option.some (Value.int IntKind.i64 (IntKind.wrap IntKind.i64 (Int.tdiv (IntKind.wrap IntKind.i64 (IntKind.wrap IntKind.i64 (b - a) - (1 : Int))) (2 : Int)))))]
  σ := by
  intros
  kernel_rfl

theorem s52l : ∀ (T : Ct) (d : Option Addr) (n : Nat) (fi lo hi k : Int) (X : Regs → AS → Prop) (σ : AS) (K : Value → AS → Prop),
  fl Proofs.Try.prog hintsS T (52 : Nat) [Bool.true, Bool.true, Bool.true, Bool.false, Bool.true, Bool.false] [] K X
  [((0 : Nat), Option.some (Value.slice d n (1 : Nat))), ((6 : Nat), Option.some (Value.int IntKind.i64 fi)), ((7 : Nat), Option.some (Value.int IntKind.i64 lo)),
  ((8 : Nat), Option.some (Value.int IntKind.i64 hi)), ((9 : Nat), Option.some (Value.int IntKind.i64 k))]
  σ =
  bmatch (Decidable.decide (k ≥ (0 : Int)))
  (T (62 : Nat) [Value.slice d n (1 : Nat), Value.int IntKind.i64 k, Value.int IntKind.i64 hi, Value.int IntKind.i64 fi] σ fun (v0 : Value) (σ1 : AS) ↦
  X
  [((0 : Nat), Option.some (Value.slice d n (1 : Nat))), ((6 : Nat), Option.some (Value.int IntKind.i64 fi)), ((7 : Nat), Option.some (Value.int IntKind.i64 lo)),
  ((8 : Nat), Option.some (Value.int IntKind.i64 hi)), ((9 : Nat), Option.some (Value.int IntKind.i64 (IntKind.wrap IntKind.i64 (k - (1 : Int)))))]
  σ1)
  (ALoop (fl Proofs.Try.prog hintsS T (52 : Nat) [Bool.true, Bool.true, Bool.true, Bool.true, Bool.true, Bool.false] [] K)
  [((0 : Nat), Option.some (Value.slice d n (1 : Nat))), ((6 : Nat), Option.some (Value.int IntKind.i64 fi)), ((7 : Nat), Option.some (Value.int IntKind.i64 lo)),
  ((10 : Nat), Option.some (Value.int IntKind.i64 (IntKind.wrap IntKind.i64 (hi - (1 : Int)))))]
  σ) := by
  intros
  kernel_rfl

theorem s52k : ∀ (T : Ct) (d : Option Addr) (n : Nat) (fi lo k : Int) (X : Regs → AS → Prop) (σ : AS) (K : Value → AS → Prop),
  fl Proofs.Try.prog hintsS T (52 : Nat) [Bool.true, Bool.true, Bool.true, Bool.true, Bool.true, Bool.false] [] K X
  [((0 : Nat), Option.some (Value.slice d n (1 : Nat))), ((6 : Nat), Option.some (Value.int IntKind.i64 fi)), ((7 : Nat), Option.some (Value.int IntKind.i64 lo)),
  ((10 : Nat), Option.some (Value.int IntKind.i64 k))]
  σ =
  bmatch (Decidable.decide (k ≥ (0 : Int)))
  (req ((0 : Int) ≤ IntKind.wrap IntKind.i64 (fi + k))
  (req (IntKind.wrap IntKind.i64 (fi + k) < (↑n : Int))
  (pSome d fun (a0 : Addr) ↦
  ldc σ (Addr.add a0 (Int.toNat (IntKind.wrap IntKind.i64 (fi + k)) * szOf Proofs.Try.prog (22 : Nat))) fun (v1 : Value) ↦
  tI IntKind.u32 v1 fun (n2 : Int) ↦
  req ((0 : Int) ≤ fi)
  (req (fi < (↑n : Int))
  (pSome d fun (a3 : Addr) ↦
  ldc σ (Addr.add a3 (Int.toNat fi * szOf Proofs.Try.prog (22 : Nat))) fun (v4 : Value) ↦
  tI IntKind.u32 v4 fun (n5 : Int) ↦
  req ((0 : Int) ≤ fi)
  (req (fi < (↑n : Int))
  (pSome d fun (a6 : Addr) ↦
  put1 σ (Addr.add a6 (Int.toNat fi * szOf Proofs.Try.prog (22 : Nat))) (Value.int IntKind.u32 n2) fun (σ7 : AS) ↦
  req ((0 : Int) ≤ IntKind.wrap IntKind.i64 (fi + k))
  (req (IntKind.wrap IntKind.i64 (fi + k) < (↑n : Int))
  (pSome d fun (a8 : Addr) ↦
  put1 σ7 (Addr.add a8 (Int.toNat (IntKind.wrap IntKind.i64 (fi + k)) * szOf Proofs.Try.prog (22 : Nat))) (Value.int IntKind.u32 n5)
  fun (σ9 : AS) ↦
  T (62 : Nat) [Value.slice d n (1 : Nat), Value.int IntKind.i64 lo, Value.int IntKind.i64 k, Value.int IntKind.i64 fi] σ9
  fun (v10 : Value) (σ11 : AS) ↦
  X
  [((0 : Nat), Option.some (Value.slice d n (1 : Nat))), ((6 : Nat), Option.some (Value.int IntKind.i64 fi)),
  ((7 : Nat), Option.some (Value.int IntKind.i64 lo)), ((10 : Nat), Option.some (Value.int IntKind.i64 (IntKind.wrap IntKind.i64 (k - (1 : Int)))))]
  σ11)))))))))
  (K (Value.tuple (Array.mk [])) σ) := by
  intros
  kernel_rfl

theorem s53 : ∀ (T : Ct) (d : Option Addr) (n : Nat) (a b : Int) (σ : AS) (K : Value → AS → Prop),
  fw Proofs.Try.prog hintsS T (53 : Nat) [Value.slice d n (1 : Nat), Value.int IntKind.i64 a, Value.int IntKind.i64 b] σ K =
  bmatch (Decidable.decide (IntKind.wrap IntKind.i64 (b - a) ≥ (8 : Int)))
  (newAt σ (AObj.row RK.plain [Value.int IntKind.u64 (0 : Int)]) fun (i0 : Nat) (σ1 : AS) ↦
  put1 σ1 (Addr.mk i0 (0 : Nat) Option.none) (Value.int IntKind.u64 (IntKind.wrap IntKind.u64 (IntKind.wrap IntKind.i64 (b - a)))) fun (σ2 : AS) ↦
  T (63 : Nat) [Value.int IntKind.i64 (IntKind.wrap IntKind.i64 (b - a))] σ2 fun (v3 : Value) (σ4 : AS) ↦
  tI IntKind.u64 v3 fun (n5 : Int) ↦
  ALoop (fl Proofs.Try.prog hintsS T (53 : Nat) [Bool.true, Bool.true, Bool.false, Bool.true, Bool.true, Bool.true, Bool.false] [] K)
  [((0 : Nat), Option.some (Value.slice d n (1 : Nat))), ((1 : Nat), Option.some (Value.int IntKind.i64 a)),
  ((6 : Nat), Option.some (Value.int IntKind.i64 (IntKind.wrap IntKind.i64 (b - a)))), ((7 : Nat), Option.some (Value.pointer (Option.some (Addr.mk i0 (0 : Nat) Option.none)))),
  ((8 : Nat), Option.some (Value.int IntKind.u64 n5)),
  ((9 : Nat),
  Option.some
  (Value.int IntKind.i64
  (IntKind.wrap IntKind.i64
  (IntKind.wrap IntKind.i64 (a + IntKind.wrap IntKind.i64 (IntKind.wrap IntKind.i64 (Int.tdiv (IntKind.wrap IntKind.i64 (b - a)) (4 : Int)) * (2 : Int))) -
  (1 : Int)))))]
  σ4)
  (K (Value.tuple (Array.mk [])) σ) := by
  intros
  kernel_rfl

theorem s53l : ∀ (T : Ct) (d : Option Addr) (n : Nat) (a l m x : Int) (c : Nat) (X : Regs → AS → Prop) (σ : AS) (K : Value → AS → Prop),
  fl Proofs.Try.prog hintsS T (53 : Nat) [Bool.true, Bool.true, Bool.false, Bool.true, Bool.true, Bool.true, Bool.false] [] K X
  [((0 : Nat), Option.some (Value.slice d n (1 : Nat))), ((1 : Nat), Option.some (Value.int IntKind.i64 a)), ((6 : Nat), Option.some (Value.int IntKind.i64 l)),
  ((7 : Nat), Option.some (Value.pointer (Option.some (Addr.mk c (0 : Nat) Option.none)))), ((8 : Nat), Option.some (Value.int IntKind.u64 m)),
  ((9 : Nat), Option.some (Value.int IntKind.i64 x))]
  σ =
  bmatch
  (Decidable.decide (x ≤ IntKind.wrap IntKind.i64 (IntKind.wrap IntKind.i64 (a + IntKind.wrap IntKind.i64 (IntKind.wrap IntKind.i64 (Int.tdiv l (4 : Int)) * (2 : Int))) + (1 : Int))))
  (T (64 : Nat) [Value.pointer (Option.some (Addr.mk c (0 : Nat) Option.none))] σ fun (v0 : Value) (σ1 : AS) ↦
  tI IntKind.u64 v0 fun (n2 : Int) ↦
  bmatch (Decidable.decide (IntKind.wrap IntKind.i64 (iand IntKind.u64 n2 (IntKind.wrap IntKind.u64 (m - (1 : Int)))) ≥ l))
  (req
  ((0 : Int) ≤ IntKind.wrap IntKind.i64 (a + IntKind.wrap IntKind.i64 (IntKind.wrap IntKind.i64 (iand IntKind.u64 n2 (IntKind.wrap IntKind.u64 (m - (1 : Int)))) - l)))
  (req
  (IntKind.wrap IntKind.i64 (a + IntKind.wrap IntKind.i64 (IntKind.wrap IntKind.i64 (iand IntKind.u64 n2 (IntKind.wrap IntKind.u64 (m - (1 : Int)))) - l)) <
  (↑n : Int))
  (pSome d fun (a3 : Addr) ↦
  ldc σ1
  (Addr.add a3
  (Int.toNat
  (IntKind.wrap IntKind.i64 (a + IntKind.wrap IntKind.i64 (IntKind.wrap IntKind.i64 (iand IntKind.u64 n2 (IntKind.wrap IntKind.u64 (m - (1 : Int)))) - l))) *
  szOf Proofs.Try.prog (22 : Nat)))
  fun (v4 : Value) ↦
  tI IntKind.u32 v4 fun (n5 : Int) ↦
  req ((0 : Int) ≤ x)
  (req (x < (↑n : Int))
  (pSome d fun (a6 : Addr) ↦
  ldc σ1 (Addr.add a6 (Int.toNat x * szOf Proofs.Try.prog (22 : Nat))) fun (v7 : Value) ↦
  tI IntKind.u32 v7 fun (n8 : Int) ↦
  req ((0 : Int) ≤ x)
  (req (x < (↑n : Int))
  (pSome d fun (a9 : Addr) ↦
  put1 σ1 (Addr.add a9 (Int.toNat x * szOf Proofs.Try.prog (22 : Nat))) (Value.int IntKind.u32 n5) fun (σ10 : AS) ↦
  req
  ((0 : Int) ≤
  IntKind.wrap IntKind.i64
  (a + IntKind.wrap IntKind.i64 (IntKind.wrap IntKind.i64 (iand IntKind.u64 n2 (IntKind.wrap IntKind.u64 (m - (1 : Int)))) - l)))
  (req
  (IntKind.wrap IntKind.i64
  (a + IntKind.wrap IntKind.i64 (IntKind.wrap IntKind.i64 (iand IntKind.u64 n2 (IntKind.wrap IntKind.u64 (m - (1 : Int)))) - l)) <
  (↑n : Int))
  (pSome d fun (a11 : Addr) ↦
  put1 σ10
  (Addr.add a11
  (Int.toNat
  (IntKind.wrap IntKind.i64
  (a + IntKind.wrap IntKind.i64 (IntKind.wrap IntKind.i64 (iand IntKind.u64 n2 (IntKind.wrap IntKind.u64 (m - (1 : Int)))) - l))) *
  szOf Proofs.Try.prog (22 : Nat)))
  (Value.int IntKind.u32 n8) fun (σ12 : AS) ↦
  X
  [((0 : Nat), Option.some (Value.slice d n (1 : Nat))), ((1 : Nat), Option.some (Value.int IntKind.i64 a)),
  ((6 : Nat), Option.some (Value.int IntKind.i64 l)), ((7 : Nat), Option.some (Value.pointer (Option.some (Addr.mk c (0 : Nat) Option.none)))),
  ((8 : Nat), Option.some (Value.int IntKind.u64 m)), ((9 : Nat), Option.some (Value.int IntKind.i64 (IntKind.wrap IntKind.i64 (x + (1 : Int)))))]
  σ12)))))))))
  (req ((0 : Int) ≤ IntKind.wrap IntKind.i64 (a + IntKind.wrap IntKind.i64 (iand IntKind.u64 n2 (IntKind.wrap IntKind.u64 (m - (1 : Int))))))
  (req (IntKind.wrap IntKind.i64 (a + IntKind.wrap IntKind.i64 (iand IntKind.u64 n2 (IntKind.wrap IntKind.u64 (m - (1 : Int))))) < (↑n : Int))
  (pSome d fun (a13 : Addr) ↦
  ldc σ1
  (Addr.add a13
  (Int.toNat (IntKind.wrap IntKind.i64 (a + IntKind.wrap IntKind.i64 (iand IntKind.u64 n2 (IntKind.wrap IntKind.u64 (m - (1 : Int)))))) *
  szOf Proofs.Try.prog (22 : Nat)))
  fun (v14 : Value) ↦
  tI IntKind.u32 v14 fun (n15 : Int) ↦
  req ((0 : Int) ≤ x)
  (req (x < (↑n : Int))
  (pSome d fun (a16 : Addr) ↦
  ldc σ1 (Addr.add a16 (Int.toNat x * szOf Proofs.Try.prog (22 : Nat))) fun (v17 : Value) ↦
  tI IntKind.u32 v17 fun (n18 : Int) ↦
  req ((0 : Int) ≤ x)
  (req (x < (↑n : Int))
  (pSome d fun (a19 : Addr) ↦
  put1 σ1 (Addr.add a19 (Int.toNat x * szOf Proofs.Try.prog (22 : Nat))) (Value.int IntKind.u32 n15) fun (σ20 : AS) ↦
  req ((0 : Int) ≤ IntKind.wrap IntKind.i64 (a + IntKind.wrap IntKind.i64 (iand IntKind.u64 n2 (IntKind.wrap IntKind.u64 (m - (1 : Int))))))
  (req
  (IntKind.wrap IntKind.i64 (a + IntKind.wrap IntKind.i64 (iand IntKind.u64 n2 (IntKind.wrap IntKind.u64 (m - (1 : Int))))) < (↑n : Int))
  (pSome d fun (a21 : Addr) ↦
  put1 σ20
  (Addr.add a21
  (Int.toNat (IntKind.wrap IntKind.i64 (a + IntKind.wrap IntKind.i64 (iand IntKind.u64 n2 (IntKind.wrap IntKind.u64 (m - (1 : Int)))))) *
  szOf Proofs.Try.prog (22 : Nat)))
  (Value.int IntKind.u32 n18) fun (σ22 : AS) ↦
  X
  [((0 : Nat), Option.some (Value.slice d n (1 : Nat))), ((1 : Nat), Option.some (Value.int IntKind.i64 a)),
  ((6 : Nat), Option.some (Value.int IntKind.i64 l)), ((7 : Nat), Option.some (Value.pointer (Option.some (Addr.mk c (0 : Nat) Option.none)))),
  ((8 : Nat), Option.some (Value.int IntKind.u64 m)), ((9 : Nat), Option.some (Value.int IntKind.i64 (IntKind.wrap IntKind.i64 (x + (1 : Int)))))]
  σ22))))))))))
  (K (Value.tuple (Array.mk [])) σ) := by
  intros
  kernel_rfl

theorem s63 : ∀ (T : Ct) (l : Int) (σ : AS) (K : Value → AS → Prop),
  fw Proofs.Try.prog hintsS T (63 : Nat) [Value.int IntKind.i64 l] σ K =
  T (50 : Nat) [Value.int IntKind.u64 (IntKind.wrap IntKind.u64 l)] σ fun (v0 : Value) (σ1 : AS) ↦
  tI IntKind.i64 v0 fun (n2 : Int) ↦ req ((0 : Int) ≤ n2) (K (Value.int IntKind.u64 (ishl IntKind.u64 (1 : Int) n2)) σ1) := by
  intros
  kernel_rfl

theorem s50 : ∀ (T : Ct) (l : Int) (σ : AS) (K : Value → AS → Prop),
  fw Proofs.Try.prog hintsS T (50 : Nat) [Value.int IntKind.u64 l] σ K =
  T (61 : Nat) [Value.int IntKind.u64 l] σ fun (v0 : Value) (σ1 : AS) ↦ tI IntKind.i64 v0 fun (n2 : Int) ↦ K (Value.int IntKind.i64 n2) σ1 := by
  intros
  kernel_rfl

theorem s54 : ∀ (T : Ct) (d : Option Addr) (n : Nat) (a b : Int) (σ : AS) (K : Value → AS → Prop),
  fw Proofs.Try.prog hintsS T (54 : Nat) [Value.slice d n (1 : Nat), Value.int IntKind.i64 a, Value.int IntKind.i64 b] σ K =
  newAt σ (AObj.row RK.plain [Value.int IntKind.i64 (0 : Int)]) fun (i0 : Nat) (σ1 : AS) ↦
  bmatch (Decidable.decide (IntKind.wrap IntKind.i64 (b - a) ≥ (8 : Int)))
  (bmatch (Decidable.decide (IntKind.wrap IntKind.i64 (b - a) ≥ (50 : Int)))
  (T (65 : Nat)
  [Value.slice d n (1 : Nat),
  Value.int IntKind.i64
  (IntKind.wrap IntKind.i64 (a + IntKind.wrap IntKind.i64 (IntKind.wrap IntKind.i64 (Int.tdiv (IntKind.wrap IntKind.i64 (b - a)) (4 : Int)) * (1 : Int)))),
  Value.pointer (Option.some (Addr.mk i0 (0 : Nat) Option.none))]
  σ1 fun (v2 : Value) (σ3 : AS) ↦
  tI IntKind.i64 v2 fun (n4 : Int) ↦
  T (65 : Nat)
  [Value.slice d n (1 : Nat),
  Value.int IntKind.i64
  (IntKind.wrap IntKind.i64 (a + IntKind.wrap IntKind.i64 (IntKind.wrap IntKind.i64 (Int.tdiv (IntKind.wrap IntKind.i64 (b - a)) (4 : Int)) * (2 : Int)))),
  Value.pointer (Option.some (Addr.mk i0 (0 : Nat) Option.none))]
  σ3 fun (v5 : Value) (σ6 : AS) ↦
  tI IntKind.i64 v5 fun (n7 : Int) ↦
  T (65 : Nat)
  [Value.slice d n (1 : Nat),
  Value.int IntKind.i64
  (IntKind.wrap IntKind.i64 (a + IntKind.wrap IntKind.i64 (IntKind.wrap IntKind.i64 (Int.tdiv (IntKind.wrap IntKind.i64 (b - a)) (4 : Int)) * (3 : Int)))),
  Value.pointer (Option.some (Addr.mk i0 (0 : Nat) Option.none))]
  σ6 fun (v8 : Value) (σ9 : AS) ↦
  tI IntKind.i64 v8 fun (n10 : Int) ↦
  T (66 : Nat)
  [Value.slice d n (1 : Nat), Value.int IntKind.i64 n4, Value.int IntKind.i64 n7, Value.int IntKind.i64 n10,
  Value.pointer (Option.some (Addr.mk i0 (0 : Nat) Option.none))]
  σ9 fun (v11 : Value) (σ12 : AS) ↦
  tI IntKind.i64 v11 fun (n13 : Int) ↦
  ldc σ12 (Addr.mk i0 (0 : Nat) Option.none) fun (v14 : Value) ↦
  tI IntKind.i64 v14 fun (n15 : Int) ↦
  bmatch (n15 == (0 : Int)) (K (Value.tuple (Array.mk [Value.int IntKind.i64 n13, Value.int IntKind.i64 (1 : Int)])) σ12)
  (bmatch (n15 == (12 : Int)) (K (Value.tuple (Array.mk [Value.int IntKind.i64 n13, Value.int IntKind.i64 (2 : Int)])) σ12)
  (K (Value.tuple (Array.mk [Value.int IntKind.i64 n13, Value.int IntKind.i64 (0 : Int)])) σ12)))
  (T (66 : Nat)
  [Value.slice d n (1 : Nat),
  Value.int IntKind.i64
  (IntKind.wrap IntKind.i64 (a + IntKind.wrap IntKind.i64 (IntKind.wrap IntKind.i64 (Int.tdiv (IntKind.wrap IntKind.i64 (b - a)) (4 : Int)) * (1 : Int)))),
  Value.int IntKind.i64
  (IntKind.wrap IntKind.i64 (a + IntKind.wrap IntKind.i64 (IntKind.wrap IntKind.i64 (Int.tdiv (IntKind.wrap IntKind.i64 (b - a)) (4 : Int)) * (2 : Int)))),
  Value.int IntKind.i64
  (IntKind.wrap IntKind.i64 (a + IntKind.wrap IntKind.i64 (IntKind.wrap IntKind.i64 (Int.tdiv (IntKind.wrap IntKind.i64 (b - a)) (4 : Int)) * (3 : Int)))),
  Value.pointer (Option.some (Addr.mk i0 (0 : Nat) Option.none))]
  σ1 fun (v16 : Value) (σ17 : AS) ↦
  tI IntKind.i64 v16 fun (n18 : Int) ↦
  ldc σ17 (Addr.mk i0 (0 : Nat) Option.none) fun (v19 : Value) ↦
  tI IntKind.i64 v19 fun (n20 : Int) ↦
  bmatch (n20 == (0 : Int)) (K (Value.tuple (Array.mk [Value.int IntKind.i64 n18, Value.int IntKind.i64 (1 : Int)])) σ17)
  (bmatch (n20 == (12 : Int)) (K (Value.tuple (Array.mk [Value.int IntKind.i64 n18, Value.int IntKind.i64 (2 : Int)])) σ17)
  (K (Value.tuple (Array.mk [Value.int IntKind.i64 n18, Value.int IntKind.i64 (0 : Int)])) σ17))))
  (ldc σ1 (Addr.mk i0 (0 : Nat) Option.none) fun (v21 : Value) ↦
  tI IntKind.i64 v21 fun (n22 : Int) ↦
  bmatch (n22 == (0 : Int))
  (K
  (Value.tuple
  (Array.mk
  [Value.int IntKind.i64
  (IntKind.wrap IntKind.i64 (a + IntKind.wrap IntKind.i64 (IntKind.wrap IntKind.i64 (Int.tdiv (IntKind.wrap IntKind.i64 (b - a)) (4 : Int)) * (2 : Int)))),
  Value.int IntKind.i64 (1 : Int)]))
  σ1)
  (bmatch (n22 == (12 : Int))
  (K
  (Value.tuple
  (Array.mk
  [Value.int IntKind.i64
  (IntKind.wrap IntKind.i64 (a + IntKind.wrap IntKind.i64 (IntKind.wrap IntKind.i64 (Int.tdiv (IntKind.wrap IntKind.i64 (b - a)) (4 : Int)) * (2 : Int)))),
  Value.int IntKind.i64 (2 : Int)]))
  σ1)
  (K
  (Value.tuple
  (Array.mk
  [Value.int IntKind.i64
  (IntKind.wrap IntKind.i64 (a + IntKind.wrap IntKind.i64 (IntKind.wrap IntKind.i64 (Int.tdiv (IntKind.wrap IntKind.i64 (b - a)) (4 : Int)) * (2 : Int)))),
  Value.int IntKind.i64 (0 : Int)]))
  σ1))) := by
  intros
  kernel_rfl

theorem s65 : ∀ (T : Ct) (d : Option Addr) (n : Nat) (a : Int) (c : Nat) (σ : AS) (K : Value → AS → Prop),
  fw Proofs.Try.prog hintsS T (65 : Nat) [Value.slice d n (1 : Nat), Value.int IntKind.i64 a, Value.pointer (Option.some (Addr.mk c (0 : Nat) Option.none))] σ K =
  T (66 : Nat)
  [Value.slice d n (1 : Nat), Value.int IntKind.i64 (IntKind.wrap IntKind.i64 (a - (1 : Int))), Value.int IntKind.i64 a,
  Value.int IntKind.i64 (IntKind.wrap IntKind.i64 (a + (1 : Int))), Value.pointer (Option.some (Addr.mk c (0 : Nat) Option.none))]
  σ fun (v0 : Value) (σ1 : AS) ↦ tI IntKind.i64 v0 fun (n2 : Int) ↦ K (Value.int IntKind.i64 n2) σ1 := by
  intros
  kernel_rfl

theorem s66 : ∀ (T : Ct) (d : Option Addr) (n : Nat) (a b e : Int) (c : Nat) (σ : AS) (K : Value → AS → Prop),
  fw Proofs.Try.prog hintsS T (66 : Nat)
  [Value.slice d n (1 : Nat), Value.int IntKind.i64 a, Value.int IntKind.i64 b, Value.int IntKind.i64 e, Value.pointer (Option.some (Addr.mk c (0 : Nat) Option.none))] σ K =
  T (68 : Nat) [Value.slice d n (1 : Nat), Value.int IntKind.i64 a, Value.int IntKind.i64 b, Value.pointer (Option.some (Addr.mk c (0 : Nat) Option.none))] σ
  fun (v0 : Value) (σ1 : AS) ↦
  tTup v0 fun (l2 : List Value) ↦
  pSome l2[(0 : Nat)]? fun (u3 : Value) ↦
  tI IntKind.i64 u3 fun (n4 : Int) ↦
  tTup v0 fun (l5 : List Value) ↦
  pSome l5[(1 : Nat)]? fun (u6 : Value) ↦
  tI IntKind.i64 u6 fun (n7 : Int) ↦
  T (68 : Nat) [Value.slice d n (1 : Nat), Value.int IntKind.i64 n7, Value.int IntKind.i64 e, Value.pointer (Option.some (Addr.mk c (0 : Nat) Option.none))] σ1
  fun (v8 : Value) (σ9 : AS) ↦
  tTup v8 fun (l10 : List Value) ↦
  pSome l10[(0 : Nat)]? fun (u11 : Value) ↦
  tI IntKind.i64 u11 fun (n12 : Int) ↦
  tTup v8 fun (l13 : List Value) ↦
  pSome l13[(1 : Nat)]? fun (u14 : Value) ↦
  tI IntKind.i64 u14 fun (n15 : Int) ↦
  T (68 : Nat) [Value.slice d n (1 : Nat), Value.int IntKind.i64 n4, Value.int IntKind.i64 n12, Value.pointer (Option.some (Addr.mk c (0 : Nat) Option.none))] σ9
  fun (v16 : Value) (σ17 : AS) ↦
  tTup v16 fun (l18 : List Value) ↦
  pSome l18[(0 : Nat)]? fun (u19 : Value) ↦
  tI IntKind.i64 u19 fun (n20 : Int) ↦
  tTup v16 fun (l21 : List Value) ↦
  pSome l21[(1 : Nat)]? fun (u22 : Value) ↦ tI IntKind.i64 u22 fun (n23 : Int) ↦ K (Value.int IntKind.i64 n23) σ17 := by
  intros
  kernel_rfl

theorem s68 : ∀ (T : Ct) (d : Option Addr) (n : Nat) (a b : Int) (c : Nat) (σ : AS) (K : Value → AS → Prop),
  fw Proofs.Try.prog hintsS T (68 : Nat)
  [Value.slice d n (1 : Nat), Value.int IntKind.i64 a, Value.int IntKind.i64 b, Value.pointer (Option.some (Addr.mk c (0 : Nat) Option.none))] σ K =
  req ((0 : Int) ≤ b)
  (req (b < (↑n : Int))
  (pSome d fun (a0 : Addr) ↦
  ldc σ (Addr.add a0 (Int.toNat b * szOf Proofs.Try.prog (22 : Nat))) fun (v1 : Value) ↦
  tI IntKind.u32 v1 fun (n2 : Int) ↦
  req ((0 : Int) ≤ a)
  (req (a < (↑n : Int))
  (pSome d fun (a3 : Addr) ↦
  ldc σ (Addr.add a3 (Int.toNat a * szOf Proofs.Try.prog (22 : Nat))) fun (v4 : Value) ↦
  tI IntKind.u32 v4 fun (n5 : Int) ↦
  T (57 : Nat) [Value.int IntKind.u32 n2, Value.int IntKind.u32 n5] σ fun (v6 : Value) (σ7 : AS) ↦
  tB v6 fun (b8 : Bool) ↦
  bmatch b8
  (ldc σ7 (Addr.mk c (0 : Nat) Option.none) fun (v9 : Value) ↦
  tI IntKind.i64 v9 fun (n10 : Int) ↦
  put1 σ7 (Addr.mk c (0 : Nat) Option.none) (Value.int IntKind.i64 (IntKind.wrap IntKind.i64 (n10 + (1 : Int)))) fun (σ11 : AS) ↦
  K (Value.tuple (Array.mk [Value.int IntKind.i64 b, Value.int IntKind.i64 a])) σ11)
  (K (Value.tuple (Array.mk [Value.int IntKind.i64 a, Value.int IntKind.i64 b])) σ7))))) := by
  intros
  kernel_rfl

theorem s55 : ∀ (T : Ct) (d : Option Addr) (n : Nat) (a b : Int) (σ : AS) (K : Value → AS → Prop),
  fw Proofs.Try.prog hintsS T (55 : Nat) [Value.slice d n (1 : Nat), Value.int IntKind.i64 a, Value.int IntKind.i64 b] σ K =
  ALoop (fl Proofs.Try.prog hintsS T (55 : Nat) [Bool.true, Bool.true, Bool.false] [] K)
  [((0 : Nat), Option.some (Value.slice d n (1 : Nat))), ((6 : Nat), Option.some (Value.int IntKind.i64 a)),
  ((7 : Nat), Option.some (Value.int IntKind.i64 (IntKind.wrap IntKind.i64 (b - (1 : Int)))))]
  σ := by
  intros
  kernel_rfl

theorem s55l : ∀ (T : Ct) (d : Option Addr) (n : Nat) (a b : Int) (X : Regs → AS → Prop) (σ : AS) (K : Value → AS → Prop),
  fl Proofs.Try.prog hintsS T (55 : Nat) [Bool.true, Bool.true, Bool.false] [] K X
  [((0 : Nat), Option.some (Value.slice d n (1 : Nat))), ((6 : Nat), Option.some (Value.int IntKind.i64 a)), ((7 : Nat), Option.some (Value.int IntKind.i64 b))] σ =
  bmatch (Decidable.decide (a < b))
  (req ((0 : Int) ≤ b)
  (req (b < (↑n : Int))
  (pSome d fun (a0 : Addr) ↦
  ldc σ (Addr.add a0 (Int.toNat b * szOf Proofs.Try.prog (22 : Nat))) fun (v1 : Value) ↦
  tI IntKind.u32 v1 fun (n2 : Int) ↦
  req ((0 : Int) ≤ a)
  (req (a < (↑n : Int))
  (pSome d fun (a3 : Addr) ↦
  ldc σ (Addr.add a3 (Int.toNat a * szOf Proofs.Try.prog (22 : Nat))) fun (v4 : Value) ↦
  tI IntKind.u32 v4 fun (n5 : Int) ↦
  req ((0 : Int) ≤ a)
  (req (a < (↑n : Int))
  (pSome d fun (a6 : Addr) ↦
  put1 σ (Addr.add a6 (Int.toNat a * szOf Proofs.Try.prog (22 : Nat))) (Value.int IntKind.u32 n2) fun (σ7 : AS) ↦
  req ((0 : Int) ≤ b)
  (req (b < (↑n : Int))
  (pSome d fun (a8 : Addr) ↦
  put1 σ7 (Addr.add a8 (Int.toNat b * szOf Proofs.Try.prog (22 : Nat))) (Value.int IntKind.u32 n5) fun (σ9 : AS) ↦
  X
  [((0 : Nat), Option.some (Value.slice d n (1 : Nat))), ((6 : Nat), Option.some (Value.int IntKind.i64 (IntKind.wrap IntKind.i64 (a + (1 : Int))))),
  ((7 : Nat), Option.some (Value.int IntKind.i64 (IntKind.wrap IntKind.i64 (b - (1 : Int)))))]
  σ9)))))))))
  (K (Value.tuple (Array.mk [])) σ) := by
  intros
  kernel_rfl

theorem s56 : ∀ (T : Ct) (d : Option Addr) (n : Nat) (a b : Int) (σ : AS) (K : Value → AS → Prop),
  fw Proofs.Try.prog hintsS T (56 : Nat) [Value.slice d n (1 : Nat), Value.int IntKind.i64 a, Value.int IntKind.i64 b] σ K =
  ALoop (fl Proofs.Try.prog hintsS T (56 : Nat) [Bool.true, Bool.true, Bool.false, Bool.true, Bool.false] [] K)
  [((0 : Nat), Option.some (Value.slice d n (1 : Nat))), ((1 : Nat), Option.some (Value.int IntKind.i64 a)), ((2 : Nat), Option.some (Value.int IntKind.i64 b)),
  ((7 : Nat), Option.some (Value.int IntKind.i64 (IntKind.wrap IntKind.i64 (a + (1 : Int))))), ((8 : Nat), Option.some (Value.int IntKind.i64 (0 : Int)))]
  σ := by
  intros
  kernel_rfl

theorem s56a : ∀ (T : Ct) (d : Option Addr) (n : Nat) (a b k j : Int) (X : Regs → AS → Prop) (σ : AS) (K : Value → AS → Prop),
  fl Proofs.Try.prog hintsS T (56 : Nat) [Bool.true, Bool.true, Bool.false, Bool.true, Bool.false] [] K X
  [((0 : Nat), Option.some (Value.slice d n (1 : Nat))), ((1 : Nat), Option.some (Value.int IntKind.i64 a)), ((2 : Nat), Option.some (Value.int IntKind.i64 b)),
  ((7 : Nat), Option.some (Value.int IntKind.i64 k)), ((8 : Nat), Option.some (Value.int IntKind.i64 j))]
  σ =
  bmatch (Decidable.decide (j < (5 : Int)))
  (ALoop (fl Proofs.Try.prog hintsS T (56 : Nat) [Bool.true, Bool.true, Bool.false, Bool.true, Bool.false, Bool.false, Bool.true, Bool.false, Bool.false, Bool.false, Bool.false] [X] K)
  [((0 : Nat), Option.some (Value.slice d n (1 : Nat))), ((1 : Nat), Option.some (Value.int IntKind.i64 a)), ((2 : Nat), Option.some (Value.int IntKind.i64 b)),
  ((7 : Nat), Option.some (Value.int IntKind.i64 k)), ((8 : Nat), Option.some (Value.int IntKind.i64 j))]
  σ)
  (K (Value.bool Bool.false) σ) := by
  intros
  kernel_rfl

theorem s56b : ∀ (T : Ct) (d : Option Addr) (n : Nat) (a b k j : Int) (Y X : Regs → AS → Prop) (σ : AS) (K : Value → AS → Prop),
  fl Proofs.Try.prog hintsS T (56 : Nat) [Bool.true, Bool.true, Bool.false, Bool.true, Bool.false, Bool.false, Bool.true, Bool.false, Bool.false, Bool.false, Bool.false] [Y] K X
  [((0 : Nat), Option.some (Value.slice d n (1 : Nat))), ((1 : Nat), Option.some (Value.int IntKind.i64 a)), ((2 : Nat), Option.some (Value.int IntKind.i64 b)),
  ((7 : Nat), Option.some (Value.int IntKind.i64 k)), ((8 : Nat), Option.some (Value.int IntKind.i64 j))]
  σ =
  bmatch (Decidable.decide (k < b))
  (req ((0 : Int) ≤ k)
  (req (k < (↑n : Int))
  (pSome d fun (a0 : Addr) ↦
  ldc σ (Addr.add a0 (Int.toNat k * szOf Proofs.Try.prog (22 : Nat))) fun (v1 : Value) ↦
  tI IntKind.u32 v1 fun (n2 : Int) ↦
  req ((0 : Int) ≤ IntKind.wrap IntKind.i64 (k - (1 : Int)))
  (req (IntKind.wrap IntKind.i64 (k - (1 : Int)) < (↑n : Int))
  (pSome d fun (a3 : Addr) ↦
  ldc σ (Addr.add a3 (Int.toNat (IntKind.wrap IntKind.i64 (k - (1 : Int))) * szOf Proofs.Try.prog (22 : Nat))) fun (v4 : Value) ↦
  tI IntKind.u32 v4 fun (n5 : Int) ↦
  T (57 : Nat) [Value.int IntKind.u32 n2, Value.int IntKind.u32 n5] σ fun (v6 : Value) (σ7 : AS) ↦
  tB v6 fun (b8 : Bool) ↦
  bmatch (!b8)
  (X
  [((0 : Nat), Option.some (Value.slice d n (1 : Nat))), ((1 : Nat), Option.some (Value.int IntKind.i64 a)), ((2 : Nat), Option.some (Value.int IntKind.i64 b)),
  ((7 : Nat), Option.some (Value.int IntKind.i64 (IntKind.wrap IntKind.i64 (k + (1 : Int))))), ((8 : Nat), Option.some (Value.int IntKind.i64 j))]
  σ7)
  (bmatch (k == b) (K (Value.bool Bool.true) σ7)
  (bmatch (Decidable.decide (IntKind.wrap IntKind.i64 (b - a) < (50 : Int))) (K (Value.bool Bool.false) σ7)
  (req ((0 : Int) ≤ IntKind.wrap IntKind.i64 (k - (1 : Int)))
  (req (IntKind.wrap IntKind.i64 (k - (1 : Int)) < (↑n : Int))
  (pSome d fun (a9 : Addr) ↦
  ldc σ7 (Addr.add a9 (Int.toNat (IntKind.wrap IntKind.i64 (k - (1 : Int))) * szOf Proofs.Try.prog (22 : Nat))) fun (v10 : Value) ↦
  tI IntKind.u32 v10 fun (n11 : Int) ↦
  req ((0 : Int) ≤ k)
  (req (k < (↑n : Int))
  (pSome d fun (a12 : Addr) ↦
  ldc σ7 (Addr.add a12 (Int.toNat k * szOf Proofs.Try.prog (22 : Nat))) fun (v13 : Value) ↦
  tI IntKind.u32 v13 fun (n14 : Int) ↦
  req ((0 : Int) ≤ k)
  (req (k < (↑n : Int))
  (pSome d fun (a15 : Addr) ↦
  put1 σ7 (Addr.add a15 (Int.toNat k * szOf Proofs.Try.prog (22 : Nat))) (Value.int IntKind.u32 n11) fun (σ16 : AS) ↦
  req ((0 : Int) ≤ IntKind.wrap IntKind.i64 (k - (1 : Int)))
  (req (IntKind.wrap IntKind.i64 (k - (1 : Int)) < (↑n : Int))
  (pSome d fun (a17 : Addr) ↦
  put1 σ16 (Addr.add a17 (Int.toNat (IntKind.wrap IntKind.i64 (k - (1 : Int))) * szOf Proofs.Try.prog (22 : Nat)))
  (Value.int IntKind.u32 n14) fun (σ18 : AS) ↦
  bmatch (Decidable.decide (IntKind.wrap IntKind.i64 (k - a) ≥ (2 : Int)))
  (ALoop
  (fl Proofs.Try.prog hintsS T (56 : Nat)
  [Bool.true, Bool.true, Bool.false, Bool.true, Bool.false, Bool.false, Bool.true, Bool.false, Bool.false, Bool.true, Bool.true, Bool.true,
  Bool.true, Bool.false, Bool.true, Bool.false, Bool.true, Bool.false]
  [Y] K)
  [((0 : Nat), Option.some (Value.slice d n (1 : Nat))), ((1 : Nat), Option.some (Value.int IntKind.i64 a)),
  ((2 : Nat), Option.some (Value.int IntKind.i64 b)), ((7 : Nat), Option.some (Value.int IntKind.i64 k)),
  ((8 : Nat), Option.some (Value.int IntKind.i64 j)),
  ((9 : Nat), Option.some (Value.int IntKind.i64 (IntKind.wrap IntKind.i64 (k - (1 : Int)))))]
  σ18)
  (bmatch (Decidable.decide (IntKind.wrap IntKind.i64 (b - k) ≥ (2 : Int)))
  (ALoop
  (fl Proofs.Try.prog hintsS T (56 : Nat)
  [Bool.true, Bool.true, Bool.false, Bool.true, Bool.false, Bool.false, Bool.true, Bool.false, Bool.false, Bool.true, Bool.true, Bool.true,
  Bool.true, Bool.true, Bool.true, Bool.false, Bool.true, Bool.false]
  [Y] K)
  [((0 : Nat), Option.some (Value.slice d n (1 : Nat))), ((1 : Nat), Option.some (Value.int IntKind.i64 a)),
  ((2 : Nat), Option.some (Value.int IntKind.i64 b)), ((7 : Nat), Option.some (Value.int IntKind.i64 k)),
  ((8 : Nat), Option.some (Value.int IntKind.i64 j)),
  ((10 : Nat), Option.some (Value.int IntKind.i64 (IntKind.wrap IntKind.i64 (k + (1 : Int)))))]
  σ18)
  (Y
  [((0 : Nat), Option.some (Value.slice d n (1 : Nat))), ((1 : Nat), Option.some (Value.int IntKind.i64 a)),
  ((2 : Nat), Option.some (Value.int IntKind.i64 b)), ((7 : Nat), Option.some (Value.int IntKind.i64 k)),
  ((8 : Nat), Option.some (Value.int IntKind.i64 (IntKind.wrap IntKind.i64 (j + (1 : Int)))))]
  σ18))))))))))))))))))
  (bmatch (k == b) (K (Value.bool Bool.true) σ)
  (bmatch (Decidable.decide (IntKind.wrap IntKind.i64 (b - a) < (50 : Int))) (K (Value.bool Bool.false) σ)
  (req ((0 : Int) ≤ IntKind.wrap IntKind.i64 (k - (1 : Int)))
  (req (IntKind.wrap IntKind.i64 (k - (1 : Int)) < (↑n : Int))
  (pSome d fun (a19 : Addr) ↦
  ldc σ (Addr.add a19 (Int.toNat (IntKind.wrap IntKind.i64 (k - (1 : Int))) * szOf Proofs.Try.prog (22 : Nat))) fun (v20 : Value) ↦
  tI IntKind.u32 v20 fun (n21 : Int) ↦
  req ((0 : Int) ≤ k)
  (req (k < (↑n : Int))
  (pSome d fun (a22 : Addr) ↦
  ldc σ (Addr.add a22 (Int.toNat k * szOf Proofs.Try.prog (22 : Nat))) fun (v23 : Value) ↦
  tI IntKind.u32 v23 fun (n24 : Int) ↦
  req ((0 : Int) ≤ k)
  (req (k < (↑n : Int))
  (pSome d fun (a25 : Addr) ↦
  put1 σ (Addr.add a25 (Int.toNat k * szOf Proofs.Try.prog (22 : Nat))) (Value.int IntKind.u32 n21) fun (σ26 : AS) ↦
  req ((0 : Int) ≤ IntKind.wrap IntKind.i64 (k - (1 : Int)))
  (req (IntKind.wrap IntKind.i64 (k - (1 : Int)) < (↑n : Int))
  (pSome d fun (a27 : Addr) ↦
  put1 σ26 (Addr.add a27 (Int.toNat (IntKind.wrap IntKind.i64 (k - (1 : Int))) * szOf Proofs.Try.prog (22 : Nat))) (Value.int IntKind.u32 n24)
  fun (σ28 : AS) ↦
  bmatch (Decidable.decide (IntKind.wrap IntKind.i64 (k - a) ≥ (2 : Int)))
  (ALoop
  (fl Proofs.Try.prog hintsS T (56 : Nat)
  [Bool.true, Bool.true, Bool.false, Bool.true, Bool.false, Bool.false, Bool.true, Bool.false, Bool.false, Bool.true, Bool.true, Bool.true, Bool.true, Bool.false,
  Bool.true, Bool.false, Bool.true, Bool.false]
  [Y] K)
  [((0 : Nat), Option.some (Value.slice d n (1 : Nat))), ((1 : Nat), Option.some (Value.int IntKind.i64 a)),
  ((2 : Nat), Option.some (Value.int IntKind.i64 b)), ((7 : Nat), Option.some (Value.int IntKind.i64 k)),
  ((8 : Nat), Option.some (Value.int IntKind.i64 j)), ((9 : Nat), Option.some (Value.int IntKind.i64 (IntKind.wrap IntKind.i64 (k - (1 : Int)))))]
  σ28)
  (bmatch (Decidable.decide (IntKind.wrap IntKind.i64 (b - k) ≥ (2 : Int)))
  (ALoop
  (fl Proofs.Try.prog hintsS T (56 : Nat)
  [Bool.true, Bool.true, Bool.false, Bool.true, Bool.false, Bool.false, Bool.true, Bool.false, Bool.false, Bool.true, Bool.true, Bool.true, Bool.true, Bool.true,
  Bool.true, Bool.false, Bool.true, Bool.false]
  [Y] K)
  [((0 : Nat), Option.some (Value.slice d n (1 : Nat))), ((1 : Nat), Option.some (Value.int IntKind.i64 a)),
  ((2 : Nat), Option.some (Value.int IntKind.i64 b)), ((7 : Nat), Option.some (Value.int IntKind.i64 k)),
  ((8 : Nat), Option.some (Value.int IntKind.i64 j)),
  ((10 : Nat), Option.some (Value.int IntKind.i64 (IntKind.wrap IntKind.i64 (k + (1 : Int)))))]
  σ28)
  (Y
  [((0 : Nat), Option.some (Value.slice d n (1 : Nat))), ((1 : Nat), Option.some (Value.int IntKind.i64 a)),
  ((2 : Nat), Option.some (Value.int IntKind.i64 b)), ((7 : Nat), Option.some (Value.int IntKind.i64 k)),
  ((8 : Nat), Option.some (Value.int IntKind.i64 (IntKind.wrap IntKind.i64 (j + (1 : Int)))))]
  σ28))))))))))))) := by
  intros
  kernel_rfl

theorem s56c : ∀ (T : Ct) (d : Option Addr) (n : Nat) (a b k j m : Int) (Y X : Regs → AS → Prop) (σ : AS) (K : Value → AS → Prop),
  fl Proofs.Try.prog hintsS T (56 : Nat)
  [Bool.true, Bool.true, Bool.false, Bool.true, Bool.false, Bool.false, Bool.true, Bool.false, Bool.false, Bool.true, Bool.true, Bool.true, Bool.true, Bool.false, Bool.true, Bool.false, Bool.true, Bool.false] [Y]
  K X
  [((0 : Nat), Option.some (Value.slice d n (1 : Nat))), ((1 : Nat), Option.some (Value.int IntKind.i64 a)), ((2 : Nat), Option.some (Value.int IntKind.i64 b)),
  ((7 : Nat), Option.some (Value.int IntKind.i64 k)), ((8 : Nat), Option.some (Value.int IntKind.i64 j)), ((9 : Nat), Option.some (Value.int IntKind.i64 m))]
  σ =
  bmatch (Decidable.decide (m ≥ (1 : Int)))
  (req ((0 : Int) ≤ m)
  (req (m < (↑n : Int))
  (pSome d fun (a0 : Addr) ↦
  ldc σ (Addr.add a0 (Int.toNat m * szOf Proofs.Try.prog (22 : Nat))) fun (v1 : Value) ↦
  tI IntKind.u32 v1 fun (n2 : Int) ↦
  req ((0 : Int) ≤ IntKind.wrap IntKind.i64 (m - (1 : Int)))
  (req (IntKind.wrap IntKind.i64 (m - (1 : Int)) < (↑n : Int))
  (pSome d fun (a3 : Addr) ↦
  ldc σ (Addr.add a3 (Int.toNat (IntKind.wrap IntKind.i64 (m - (1 : Int))) * szOf Proofs.Try.prog (22 : Nat))) fun (v4 : Value) ↦
  tI IntKind.u32 v4 fun (n5 : Int) ↦
  T (57 : Nat) [Value.int IntKind.u32 n2, Value.int IntKind.u32 n5] σ fun (v6 : Value) (σ7 : AS) ↦
  tB v6 fun (b8 : Bool) ↦
  bmatch (!b8)
  (bmatch (Decidable.decide (IntKind.wrap IntKind.i64 (b - k) ≥ (2 : Int)))
  (ALoop
  (fl Proofs.Try.prog hintsS T (56 : Nat)
  [Bool.true, Bool.true, Bool.false, Bool.true, Bool.false, Bool.false, Bool.true, Bool.false, Bool.false, Bool.true, Bool.true, Bool.true, Bool.true, Bool.true, Bool.true, Bool.false,
  Bool.true, Bool.false]
  [Y] K)
  [((0 : Nat), Option.some (Value.slice d n (1 : Nat))), ((1 : Nat), Option.some (Value.int IntKind.i64 a)), ((2 : Nat), Option.some (Value.int IntKind.i64 b)),
  ((7 : Nat), Option.some (Value.int IntKind.i64 k)), ((8 : Nat), Option.some (Value.int IntKind.i64 j)),
  ((10 : Nat), Option.some (Value.int IntKind.i64 (IntKind.wrap IntKind.i64 (k + (1 : Int)))))]
  σ7)
  (Y
  [((0 : Nat), Option.some (Value.slice d n (1 : Nat))), ((1 : Nat), Option.some (Value.int IntKind.i64 a)), ((2 : Nat), Option.some (Value.int IntKind.i64 b)),
  ((7 : Nat), Option.some (Value.int IntKind.i64 k)), ((8 : Nat), Option.some (Value.int IntKind.i64 (IntKind.wrap IntKind.i64 (j + (1 : Int)))))]
  σ7))
  (req ((0 : Int) ≤ IntKind.wrap IntKind.i64 (m - (1 : Int)))
  (req (IntKind.wrap IntKind.i64 (m - (1 : Int)) < (↑n : Int))
  (pSome d fun (a9 : Addr) ↦
  ldc σ7 (Addr.add a9 (Int.toNat (IntKind.wrap IntKind.i64 (m - (1 : Int))) * szOf Proofs.Try.prog (22 : Nat))) fun (v10 : Value) ↦
  tI IntKind.u32 v10 fun (n11 : Int) ↦
  req ((0 : Int) ≤ m)
  (req (m < (↑n : Int))
  (pSome d fun (a12 : Addr) ↦
  ldc σ7 (Addr.add a12 (Int.toNat m * szOf Proofs.Try.prog (22 : Nat))) fun (v13 : Value) ↦
  tI IntKind.u32 v13 fun (n14 : Int) ↦
  req ((0 : Int) ≤ m)
  (req (m < (↑n : Int))
  (pSome d fun (a15 : Addr) ↦
  put1 σ7 (Addr.add a15 (Int.toNat m * szOf Proofs.Try.prog (22 : Nat))) (Value.int IntKind.u32 n11) fun (σ16 : AS) ↦
  req ((0 : Int) ≤ IntKind.wrap IntKind.i64 (m - (1 : Int)))
  (req (IntKind.wrap IntKind.i64 (m - (1 : Int)) < (↑n : Int))
  (pSome d fun (a17 : Addr) ↦
  put1 σ16 (Addr.add a17 (Int.toNat (IntKind.wrap IntKind.i64 (m - (1 : Int))) * szOf Proofs.Try.prog (22 : Nat)))
  (Value.int IntKind.u32 n14) fun (σ18 : AS) ↦
  X
  [((0 : Nat), Option.some (Value.slice d n (1 : Nat))), ((1 : Nat), Option.some (Value.int IntKind.i64 a)),
  ((2 : Nat), Option.some (Value.int IntKind.i64 b)), ((7 : Nat), Option.some (Value.int IntKind.i64 k)),
  ((8 : Nat), Option.some (Value.int IntKind.i64 j)),
  ((9 : Nat), Option.some (Value.int IntKind.i64 (IntKind.wrap IntKind.i64 (m - (1 : Int)))))]
  σ18))))))))))))))
  (bmatch (Decidable.decide (IntKind.wrap IntKind.i64 (b - k) ≥ (2 : Int)))
  (ALoop
  (fl Proofs.Try.prog hintsS T (56 : Nat)
  [Bool.true, Bool.true, Bool.false, Bool.true, Bool.false, Bool.false, Bool.true, Bool.false, Bool.false, Bool.true, Bool.true, Bool.true, Bool.true, Bool.true, Bool.true, Bool.false, Bool.true, Bool.false]
  [Y] K)
  [((0 : Nat), Option.some (Value.slice d n (1 : Nat))), ((1 : Nat), Option.some (Value.int IntKind.i64 a)), ((2 : Nat), Option.some (Value.int IntKind.i64 b)),
  ((7 : Nat), Option.some (Value.int IntKind.i64 k)), ((8 : Nat), Option.some (Value.int IntKind.i64 j)),
  ((10 : Nat), Option.some (Value.int IntKind.i64 (IntKind.wrap IntKind.i64 (k + (1 : Int)))))]
  σ)
  (Y
  [((0 : Nat), Option.some (Value.slice d n (1 : Nat))), ((1 : Nat), Option.some (Value.int IntKind.i64 a)), ((2 : Nat), Option.some (Value.int IntKind.i64 b)),
  ((7 : Nat), Option.some (Value.int IntKind.i64 k)), ((8 : Nat), Option.some (Value.int IntKind.i64 (IntKind.wrap IntKind.i64 (j + (1 : Int)))))]
  σ)) := by
  intros
  kernel_rfl

theorem s56d : ∀ (T : Ct) (d : Option Addr) (n : Nat) (a b k j m : Int) (Y X : Regs → AS → Prop) (σ : AS) (K : Value → AS → Prop),
  fl Proofs.Try.prog hintsS T (56 : Nat)
  [Bool.true, Bool.true, Bool.false, Bool.true, Bool.false, Bool.false, Bool.true, Bool.false, Bool.false, Bool.true, Bool.true, Bool.true, Bool.true, Bool.true, Bool.true, Bool.false, Bool.true, Bool.false] [Y]
  K X
  [((0 : Nat), Option.some (Value.slice d n (1 : Nat))), ((1 : Nat), Option.some (Value.int IntKind.i64 a)), ((2 : Nat), Option.some (Value.int IntKind.i64 b)),
  ((7 : Nat), Option.some (Value.int IntKind.i64 k)), ((8 : Nat), Option.some (Value.int IntKind.i64 j)), ((10 : Nat), Option.some (Value.int IntKind.i64 m))]
  σ =
  bmatch (Decidable.decide (m < b))
  (req ((0 : Int) ≤ m)
  (req (m < (↑n : Int))
  (pSome d fun (a0 : Addr) ↦
  ldc σ (Addr.add a0 (Int.toNat m * szOf Proofs.Try.prog (22 : Nat))) fun (v1 : Value) ↦
  tI IntKind.u32 v1 fun (n2 : Int) ↦
  req ((0 : Int) ≤ IntKind.wrap IntKind.i64 (m - (1 : Int)))
  (req (IntKind.wrap IntKind.i64 (m - (1 : Int)) < (↑n : Int))
  (pSome d fun (a3 : Addr) ↦
  ldc σ (Addr.add a3 (Int.toNat (IntKind.wrap IntKind.i64 (m - (1 : Int))) * szOf Proofs.Try.prog (22 : Nat))) fun (v4 : Value) ↦
  tI IntKind.u32 v4 fun (n5 : Int) ↦
  T (57 : Nat) [Value.int IntKind.u32 n2, Value.int IntKind.u32 n5] σ fun (v6 : Value) (σ7 : AS) ↦
  tB v6 fun (b8 : Bool) ↦
  bmatch (!b8)
  (Y
  [((0 : Nat), Option.some (Value.slice d n (1 : Nat))), ((1 : Nat), Option.some (Value.int IntKind.i64 a)), ((2 : Nat), Option.some (Value.int IntKind.i64 b)),
  ((7 : Nat), Option.some (Value.int IntKind.i64 k)), ((8 : Nat), Option.some (Value.int IntKind.i64 (IntKind.wrap IntKind.i64 (j + (1 : Int)))))]
  σ7)
  (req ((0 : Int) ≤ IntKind.wrap IntKind.i64 (m - (1 : Int)))
  (req (IntKind.wrap IntKind.i64 (m - (1 : Int)) < (↑n : Int))
  (pSome d fun (a9 : Addr) ↦
  ldc σ7 (Addr.add a9 (Int.toNat (IntKind.wrap IntKind.i64 (m - (1 : Int))) * szOf Proofs.Try.prog (22 : Nat))) fun (v10 : Value) ↦
  tI IntKind.u32 v10 fun (n11 : Int) ↦
  req ((0 : Int) ≤ m)
  (req (m < (↑n : Int))
  (pSome d fun (a12 : Addr) ↦
  ldc σ7 (Addr.add a12 (Int.toNat m * szOf Proofs.Try.prog (22 : Nat))) fun (v13 : Value) ↦
  tI IntKind.u32 v13 fun (n14 : Int) ↦
  req ((0 : Int) ≤ m)
  (req (m < (↑n : Int))
  (pSome d fun (a15 : Addr) ↦
  put1 σ7 (Addr.add a15 (Int.toNat m * szOf Proofs.Try.prog (22 : Nat))) (Value.int IntKind.u32 n11) fun (σ16 : AS) ↦
  req ((0 : Int) ≤ IntKind.wrap IntKind.i64 (m - (1 : Int)))
  (req (IntKind.wrap IntKind.i64 (m - (1 : Int)) < (↑n : Int))
  (pSome d fun (a17 : Addr) ↦
  put1 σ16 (Addr.add a17 (Int.toNat (IntKind.wrap IntKind.i64 (m - (1 : Int))) * szOf Proofs.Try.prog (22 : Nat)))
  (Value.int IntKind.u32 n14) fun (σ18 : AS) ↦
  X
  [((0 : Nat), Option.some (Value.slice d n (1 : Nat))), ((1 : Nat), Option.some (Value.int IntKind.i64 a)),
  ((2 : Nat), Option.some (Value.int IntKind.i64 b)), ((7 : Nat), Option.some (Value.int IntKind.i64 k)),
  ((8 : Nat), Option.some (Value.int IntKind.i64 j)),
  ((10 : Nat), Option.some (Value.int IntKind.i64 (IntKind.wrap IntKind.i64 (m + (1 : Int)))))]
  σ18))))))))))))))
  (Y
  [((0 : Nat), Option.some (Value.slice d n (1 : Nat))), ((1 : Nat), Option.some (Value.int IntKind.i64 a)), ((2 : Nat), Option.some (Value.int IntKind.i64 b)),
  ((7 : Nat), Option.some (Value.int IntKind.i64 k)), ((8 : Nat), Option.some (Value.int IntKind.i64 (IntKind.wrap IntKind.i64 (j + (1 : Int)))))]
  σ) := by
  intros
  kernel_rfl

theorem s58 : ∀ (T : Ct) (d : Option Addr) (n : Nat) (a b p : Int) (σ : AS) (K : Value → AS → Prop),
  fw Proofs.Try.prog hintsS T (58 : Nat) [Value.slice d n (1 : Nat), Value.int IntKind.i64 a, Value.int IntKind.i64 b, Value.int IntKind.i64 p] σ K =
  req ((0 : Int) ≤ p)
  (req (p < (↑n : Int))
  (pSome d fun (a0 : Addr) ↦
  ldc σ (Addr.add a0 (Int.toNat p * szOf Proofs.Try.prog (22 : Nat))) fun (v1 : Value) ↦
  tI IntKind.u32 v1 fun (n2 : Int) ↦
  req ((0 : Int) ≤ a)
  (req (a < (↑n : Int))
  (pSome d fun (a3 : Addr) ↦
  ldc σ (Addr.add a3 (Int.toNat a * szOf Proofs.Try.prog (22 : Nat))) fun (v4 : Value) ↦
  tI IntKind.u32 v4 fun (n5 : Int) ↦
  req ((0 : Int) ≤ a)
  (req (a < (↑n : Int))
  (pSome d fun (a6 : Addr) ↦
  put1 σ (Addr.add a6 (Int.toNat a * szOf Proofs.Try.prog (22 : Nat))) (Value.int IntKind.u32 n2) fun (σ7 : AS) ↦
  req ((0 : Int) ≤ p)
  (req (p < (↑n : Int))
  (pSome d fun (a8 : Addr) ↦
  put1 σ7 (Addr.add a8 (Int.toNat p * szOf Proofs.Try.prog (22 : Nat))) (Value.int IntKind.u32 n5) fun (σ9 : AS) ↦
  ALoop (fl Proofs.Try.prog hintsS T (58 : Nat) [Bool.true, Bool.true, Bool.true, Bool.false, Bool.false] [] K)
  [((0 : Nat), Option.some (Value.slice d n (1 : Nat))), ((1 : Nat), Option.some (Value.int IntKind.i64 a)),
  ((9 : Nat), Option.some (Value.int IntKind.i64 (IntKind.wrap IntKind.i64 (a + (1 : Int))))),
  ((10 : Nat), Option.some (Value.int IntKind.i64 (IntKind.wrap IntKind.i64 (b - (1 : Int)))))]
  σ9)))))))) := by
  intros
  kernel_rfl

theorem s58a : ∀ (T : Ct) (d : Option Addr) (n : Nat) (a k j : Int) (X : Regs → AS → Prop) (σ : AS) (K : Value → AS → Prop),
  fl Proofs.Try.prog hintsS T (58 : Nat) [Bool.true, Bool.true, Bool.true, Bool.false, Bool.false] [] K X
  [((0 : Nat), Option.some (Value.slice d n (1 : Nat))), ((1 : Nat), Option.some (Value.int IntKind.i64 a)), ((9 : Nat), Option.some (Value.int IntKind.i64 k)),
  ((10 : Nat), Option.some (Value.int IntKind.i64 j))]
  σ =
  ALoop (fl Proofs.Try.prog hintsS T (58 : Nat) [Bool.true, Bool.true, Bool.true, Bool.false, Bool.false, Bool.false, Bool.false, Bool.false, Bool.false] [X] K)
  [((0 : Nat), Option.some (Value.slice d n (1 : Nat))), ((1 : Nat), Option.some (Value.int IntKind.i64 a)), ((9 : Nat), Option.some (Value.int IntKind.i64 k)),
  ((10 : Nat), Option.some (Value.int IntKind.i64 j))]
  σ := by
  intros
  kernel_rfl

theorem s58b : ∀ (T : Ct) (d : Option Addr) (n : Nat) (a k j : Int) (Y X : Regs → AS → Prop) (σ : AS) (K : Value → AS → Prop),
  fl Proofs.Try.prog hintsS T (58 : Nat) [Bool.true, Bool.true, Bool.true, Bool.false, Bool.false, Bool.false, Bool.false, Bool.false, Bool.false] [Y] K X
  [((0 : Nat), Option.some (Value.slice d n (1 : Nat))), ((1 : Nat), Option.some (Value.int IntKind.i64 a)), ((9 : Nat), Option.some (Value.int IntKind.i64 k)),
  ((10 : Nat), Option.some (Value.int IntKind.i64 j))]
  σ =
  bmatch (Decidable.decide (k ≤ j))
  (req ((0 : Int) ≤ a)
  (req (a < (↑n : Int))
  (pSome d fun (a0 : Addr) ↦
  ldc σ (Addr.add a0 (Int.toNat a * szOf Proofs.Try.prog (22 : Nat))) fun (v1 : Value) ↦
  tI IntKind.u32 v1 fun (n2 : Int) ↦
  req ((0 : Int) ≤ k)
  (req (k < (↑n : Int))
  (pSome d fun (a3 : Addr) ↦
  ldc σ (Addr.add a3 (Int.toNat k * szOf Proofs.Try.prog (22 : Nat))) fun (v4 : Value) ↦
  tI IntKind.u32 v4 fun (n5 : Int) ↦
  T (57 : Nat) [Value.int IntKind.u32 n2, Value.int IntKind.u32 n5] σ fun (v6 : Value) (σ7 : AS) ↦
  tB v6 fun (b8 : Bool) ↦
  bmatch (!b8)
  (X
  [((0 : Nat), Option.some (Value.slice d n (1 : Nat))), ((1 : Nat), Option.some (Value.int IntKind.i64 a)),
  ((9 : Nat), Option.some (Value.int IntKind.i64 (IntKind.wrap IntKind.i64 (k + (1 : Int))))), ((10 : Nat), Option.some (Value.int IntKind.i64 j))]
  σ7)
  (ALoop
  (fl Proofs.Try.prog hintsS T (58 : Nat) [Bool.true, Bool.true, Bool.true, Bool.false, Bool.false, Bool.false, Bool.false, Bool.true, Bool.false, Bool.false] [Y] K)
  [((0 : Nat), Option.some (Value.slice d n (1 : Nat))), ((1 : Nat), Option.some (Value.int IntKind.i64 a)), ((9 : Nat), Option.some (Value.int IntKind.i64 k)),
  ((10 : Nat), Option.some (Value.int IntKind.i64 j))]
  σ7))))))
  (ALoop (fl Proofs.Try.prog hintsS T (58 : Nat) [Bool.true, Bool.true, Bool.true, Bool.false, Bool.false, Bool.false, Bool.false, Bool.true, Bool.false, Bool.false] [Y] K)
  [((0 : Nat), Option.some (Value.slice d n (1 : Nat))), ((1 : Nat), Option.some (Value.int IntKind.i64 a)), ((9 : Nat), Option.some (Value.int IntKind.i64 k)),
  ((10 : Nat), Option.some (Value.int IntKind.i64 j))]
  σ) := by
  intros
  kernel_rfl

theorem s58c : ∀ (T : Ct) (d : Option Addr) (n : Nat) (a k j : Int) (Y X : Regs → AS → Prop) (σ : AS) (K : Value → AS → Prop),
  fl Proofs.Try.prog hintsS T (58 : Nat) [Bool.true, Bool.true, Bool.true, Bool.false, Bool.false, Bool.false, Bool.false, Bool.true, Bool.false, Bool.false] [Y] K X
  [((0 : Nat), Option.some (Value.slice d n (1 : Nat))), ((1 : Nat), Option.some (Value.int IntKind.i64 a)), ((9 : Nat), Option.some (Value.int IntKind.i64 k)),
  ((10 : Nat), Option.some (Value.int IntKind.i64 j))]
  σ =
  bmatch (Decidable.decide (k ≤ j))
  (req ((0 : Int) ≤ a)
  (req (a < (↑n : Int))
  (pSome d fun (a0 : Addr) ↦
  ldc σ (Addr.add a0 (Int.toNat a * szOf Proofs.Try.prog (22 : Nat))) fun (v1 : Value) ↦
  tI IntKind.u32 v1 fun (n2 : Int) ↦
  req ((0 : Int) ≤ j)
  (req (j < (↑n : Int))
  (pSome d fun (a3 : Addr) ↦
  ldc σ (Addr.add a3 (Int.toNat j * szOf Proofs.Try.prog (22 : Nat))) fun (v4 : Value) ↦
  tI IntKind.u32 v4 fun (n5 : Int) ↦
  T (57 : Nat) [Value.int IntKind.u32 n2, Value.int IntKind.u32 n5] σ fun (v6 : Value) (σ7 : AS) ↦
  tB v6 fun (b8 : Bool) ↦
  bmatch b8
  (X
  [((0 : Nat), Option.some (Value.slice d n (1 : Nat))), ((1 : Nat), Option.some (Value.int IntKind.i64 a)), ((9 : Nat), Option.some (Value.int IntKind.i64 k)),
  ((10 : Nat), Option.some (Value.int IntKind.i64 (IntKind.wrap IntKind.i64 (j - (1 : Int)))))]
  σ7)
  (bmatch (Decidable.decide (k > j)) (K (Value.int IntKind.i64 k) σ7)
  (req ((0 : Int) ≤ j)
  (req (j < (↑n : Int))
  (pSome d fun (a9 : Addr) ↦
  ldc σ7 (Addr.add a9 (Int.toNat j * szOf Proofs.Try.prog (22 : Nat))) fun (v10 : Value) ↦
  tI IntKind.u32 v10 fun (n11 : Int) ↦
  req ((0 : Int) ≤ k)
  (req (k < (↑n : Int))
  (pSome d fun (a12 : Addr) ↦
  ldc σ7 (Addr.add a12 (Int.toNat k * szOf Proofs.Try.prog (22 : Nat))) fun (v13 : Value) ↦
  tI IntKind.u32 v13 fun (n14 : Int) ↦
  req ((0 : Int) ≤ k)
  (req (k < (↑n : Int))
  (pSome d fun (a15 : Addr) ↦
  put1 σ7 (Addr.add a15 (Int.toNat k * szOf Proofs.Try.prog (22 : Nat))) (Value.int IntKind.u32 n11) fun (σ16 : AS) ↦
  req ((0 : Int) ≤ j)
  (req (j < (↑n : Int))
  (pSome d fun (a17 : Addr) ↦
  put1 σ16 (Addr.add a17 (Int.toNat j * szOf Proofs.Try.prog (22 : Nat))) (Value.int IntKind.u32 n14) fun (σ18 : AS) ↦
  Y
  [((0 : Nat), Option.some (Value.slice d n (1 : Nat))), ((1 : Nat), Option.some (Value.int IntKind.i64 a)),
  ((9 : Nat), Option.some (Value.int IntKind.i64 (IntKind.wrap IntKind.i64 (k + (1 : Int))))),
  ((10 : Nat), Option.some (Value.int IntKind.i64 (IntKind.wrap IntKind.i64 (j - (1 : Int)))))]
  σ18)))))))))))))))
  (bmatch (Decidable.decide (k > j)) (K (Value.int IntKind.i64 k) σ)
  (req ((0 : Int) ≤ j)
  (req (j < (↑n : Int))
  (pSome d fun (a19 : Addr) ↦
  ldc σ (Addr.add a19 (Int.toNat j * szOf Proofs.Try.prog (22 : Nat))) fun (v20 : Value) ↦
  tI IntKind.u32 v20 fun (n21 : Int) ↦
  req ((0 : Int) ≤ k)
  (req (k < (↑n : Int))
  (pSome d fun (a22 : Addr) ↦
  ldc σ (Addr.add a22 (Int.toNat k * szOf Proofs.Try.prog (22 : Nat))) fun (v23 : Value) ↦
  tI IntKind.u32 v23 fun (n24 : Int) ↦
  req ((0 : Int) ≤ k)
  (req (k < (↑n : Int))
  (pSome d fun (a25 : Addr) ↦
  put1 σ (Addr.add a25 (Int.toNat k * szOf Proofs.Try.prog (22 : Nat))) (Value.int IntKind.u32 n21) fun (σ26 : AS) ↦
  req ((0 : Int) ≤ j)
  (req (j < (↑n : Int))
  (pSome d fun (a27 : Addr) ↦
  put1 σ26 (Addr.add a27 (Int.toNat j * szOf Proofs.Try.prog (22 : Nat))) (Value.int IntKind.u32 n24) fun (σ28 : AS) ↦
  Y
  [((0 : Nat), Option.some (Value.slice d n (1 : Nat))), ((1 : Nat), Option.some (Value.int IntKind.i64 a)),
  ((9 : Nat), Option.some (Value.int IntKind.i64 (IntKind.wrap IntKind.i64 (k + (1 : Int))))),
  ((10 : Nat), Option.some (Value.int IntKind.i64 (IntKind.wrap IntKind.i64 (j - (1 : Int)))))]
  σ28)))))))))) := by
  intros
  kernel_rfl

theorem s59 : ∀ (T : Ct) (d : Option Addr) (n : Nat) (a b p : Int) (σ : AS) (K : Value → AS → Prop),
  fw Proofs.Try.prog hintsS T (59 : Nat) [Value.slice d n (1 : Nat), Value.int IntKind.i64 a, Value.int IntKind.i64 b, Value.int IntKind.i64 p] σ K =
  req ((0 : Int) ≤ p)
  (req (p < (↑n : Int))
  (pSome d fun (a0 : Addr) ↦
  ldc σ (Addr.add a0 (Int.toNat p * szOf Proofs.Try.prog (22 : Nat))) fun (v1 : Value) ↦
  tI IntKind.u32 v1 fun (n2 : Int) ↦
  req ((0 : Int) ≤ a)
  (req (a < (↑n : Int))
  (pSome d fun (a3 : Addr) ↦
  ldc σ (Addr.add a3 (Int.toNat a * szOf Proofs.Try.prog (22 : Nat))) fun (v4 : Value) ↦
  tI IntKind.u32 v4 fun (n5 : Int) ↦
  req ((0 : Int) ≤ a)
  (req (a < (↑n : Int))
  (pSome d fun (a6 : Addr) ↦
  put1 σ (Addr.add a6 (Int.toNat a * szOf Proofs.Try.prog (22 : Nat))) (Value.int IntKind.u32 n2) fun (σ7 : AS) ↦
  req ((0 : Int) ≤ p)
  (req (p < (↑n : Int))
  (pSome d fun (a8 : Addr) ↦
  put1 σ7 (Addr.add a8 (Int.toNat p * szOf Proofs.Try.prog (22 : Nat))) (Value.int IntKind.u32 n5) fun (σ9 : AS) ↦
  ALoop (fl Proofs.Try.prog hintsS T (59 : Nat) [Bool.true, Bool.true, Bool.true, Bool.false, Bool.false] [] K)
  [((0 : Nat), Option.some (Value.slice d n (1 : Nat))), ((1 : Nat), Option.some (Value.int IntKind.i64 a)),
  ((10 : Nat), Option.some (Value.int IntKind.i64 (IntKind.wrap IntKind.i64 (a + (1 : Int))))),
  ((11 : Nat), Option.some (Value.int IntKind.i64 (IntKind.wrap IntKind.i64 (b - (1 : Int)))))]
  σ9)))))))) := by
  intros
  kernel_rfl

theorem s59a : ∀ (T : Ct) (d : Option Addr) (n : Nat) (a k j : Int) (X : Regs → AS → Prop) (σ : AS) (K : Value → AS → Prop),
  fl Proofs.Try.prog hintsS T (59 : Nat) [Bool.true, Bool.true, Bool.true, Bool.false, Bool.false] [] K X
  [((0 : Nat), Option.some (Value.slice d n (1 : Nat))), ((1 : Nat), Option.some (Value.int IntKind.i64 a)), ((10 : Nat), Option.some (Value.int IntKind.i64 k)),
  ((11 : Nat), Option.some (Value.int IntKind.i64 j))]
  σ =
  bmatch (Decidable.decide (k ≤ j))
  (req ((0 : Int) ≤ k)
  (req (k < (↑n : Int))
  (pSome d fun (a0 : Addr) ↦
  ldc σ (Addr.add a0 (Int.toNat k * szOf Proofs.Try.prog (22 : Nat))) fun (v1 : Value) ↦
  tI IntKind.u32 v1 fun (n2 : Int) ↦
  req ((0 : Int) ≤ a)
  (req (a < (↑n : Int))
  (pSome d fun (a3 : Addr) ↦
  ldc σ (Addr.add a3 (Int.toNat a * szOf Proofs.Try.prog (22 : Nat))) fun (v4 : Value) ↦
  tI IntKind.u32 v4 fun (n5 : Int) ↦
  T (57 : Nat) [Value.int IntKind.u32 n2, Value.int IntKind.u32 n5] σ fun (v6 : Value) (σ7 : AS) ↦
  tB v6 fun (b8 : Bool) ↦
  bmatch b8
  (X
  [((0 : Nat), Option.some (Value.slice d n (1 : Nat))), ((1 : Nat), Option.some (Value.int IntKind.i64 a)),
  ((10 : Nat), Option.some (Value.int IntKind.i64 (IntKind.wrap IntKind.i64 (k + (1 : Int))))), ((11 : Nat), Option.some (Value.int IntKind.i64 j))]
  σ7)
  (ALoop (fl Proofs.Try.prog hintsS T (59 : Nat) [Bool.true, Bool.true, Bool.true, Bool.true, Bool.false, Bool.false] [] K)
  [((0 : Nat), Option.some (Value.slice d n (1 : Nat))), ((1 : Nat), Option.some (Value.int IntKind.i64 a)), ((10 : Nat), Option.some (Value.int IntKind.i64 k)),
  ((11 : Nat), Option.some (Value.int IntKind.i64 j))]
  σ7))))))
  (ALoop (fl Proofs.Try.prog hintsS T (59 : Nat) [Bool.true, Bool.true, Bool.true, Bool.true, Bool.false, Bool.false] [] K)
  [((0 : Nat), Option.some (Value.slice d n (1 : Nat))), ((1 : Nat), Option.some (Value.int IntKind.i64 a)), ((10 : Nat), Option.some (Value.int IntKind.i64 k)),
  ((11 : Nat), Option.some (Value.int IntKind.i64 j))]
  σ) := by
  intros
  kernel_rfl

theorem s59b : ∀ (T : Ct) (d : Option Addr) (n : Nat) (a k j : Int) (X : Regs → AS → Prop) (σ : AS) (K : Value → AS → Prop),
  fl Proofs.Try.prog hintsS T (59 : Nat) [Bool.true, Bool.true, Bool.true, Bool.true, Bool.false, Bool.false] [] K X
  [((0 : Nat), Option.some (Value.slice d n (1 : Nat))), ((1 : Nat), Option.some (Value.int IntKind.i64 a)), ((10 : Nat), Option.some (Value.int IntKind.i64 k)),
  ((11 : Nat), Option.some (Value.int IntKind.i64 j))]
  σ =
  bmatch (Decidable.decide (k ≤ j))
  (req ((0 : Int) ≤ j)
  (req (j < (↑n : Int))
  (pSome d fun (a0 : Addr) ↦
  ldc σ (Addr.add a0 (Int.toNat j * szOf Proofs.Try.prog (22 : Nat))) fun (v1 : Value) ↦
  tI IntKind.u32 v1 fun (n2 : Int) ↦
  req ((0 : Int) ≤ a)
  (req (a < (↑n : Int))
  (pSome d fun (a3 : Addr) ↦
  ldc σ (Addr.add a3 (Int.toNat a * szOf Proofs.Try.prog (22 : Nat))) fun (v4 : Value) ↦
  tI IntKind.u32 v4 fun (n5 : Int) ↦
  T (57 : Nat) [Value.int IntKind.u32 n2, Value.int IntKind.u32 n5] σ fun (v6 : Value) (σ7 : AS) ↦
  tB v6 fun (b8 : Bool) ↦
  bmatch (!b8)
  (X
  [((0 : Nat), Option.some (Value.slice d n (1 : Nat))), ((1 : Nat), Option.some (Value.int IntKind.i64 a)), ((10 : Nat), Option.some (Value.int IntKind.i64 k)),
  ((11 : Nat), Option.some (Value.int IntKind.i64 (IntKind.wrap IntKind.i64 (j - (1 : Int)))))]
  σ7)
  (bmatch (Decidable.decide (k > j))
  (req ((0 : Int) ≤ a)
  (req (a < (↑n : Int))
  (pSome d fun (a9 : Addr) ↦
  ldc σ7 (Addr.add a9 (Int.toNat a * szOf Proofs.Try.prog (22 : Nat))) fun (v10 : Value) ↦
  tI IntKind.u32 v10 fun (n11 : Int) ↦
  req ((0 : Int) ≤ j)
  (req (j < (↑n : Int))
  (pSome d fun (a12 : Addr) ↦
  ldc σ7 (Addr.add a12 (Int.toNat j * szOf Proofs.Try.prog (22 : Nat))) fun (v13 : Value) ↦
  tI IntKind.u32 v13 fun (n14 : Int) ↦
  req ((0 : Int) ≤ j)
  (req (j < (↑n : Int))
  (pSome d fun (a15 : Addr) ↦
  put1 σ7 (Addr.add a15 (Int.toNat j * szOf Proofs.Try.prog (22 : Nat))) (Value.int IntKind.u32 n11) fun (σ16 : AS) ↦
  req ((0 : Int) ≤ a)
  (req (a < (↑n : Int))
  (pSome d fun (a17 : Addr) ↦
  put1 σ16 (Addr.add a17 (Int.toNat a * szOf Proofs.Try.prog (22 : Nat))) (Value.int IntKind.u32 n14) fun (σ18 : AS) ↦
  K (Value.tuple (Array.mk [Value.int IntKind.i64 j, Value.bool Bool.true])) σ18)))))))))
  (req ((0 : Int) ≤ j)
  (req (j < (↑n : Int))
  (pSome d fun (a19 : Addr) ↦
  ldc σ7 (Addr.add a19 (Int.toNat j * szOf Proofs.Try.prog (22 : Nat))) fun (v20 : Value) ↦
  tI IntKind.u32 v20 fun (n21 : Int) ↦
  req ((0 : Int) ≤ k)
  (req (k < (↑n : Int))
  (pSome d fun (a22 : Addr) ↦
  ldc σ7 (Addr.add a22 (Int.toNat k * szOf Proofs.Try.prog (22 : Nat))) fun (v23 : Value) ↦
  tI IntKind.u32 v23 fun (n24 : Int) ↦
  req ((0 : Int) ≤ k)
  (req (k < (↑n : Int))
  (pSome d fun (a25 : Addr) ↦
  put1 σ7 (Addr.add a25 (Int.toNat k * szOf Proofs.Try.prog (22 : Nat))) (Value.int IntKind.u32 n21) fun (σ26 : AS) ↦
  req ((0 : Int) ≤ j)
  (req (j < (↑n : Int))
  (pSome d fun (a27 : Addr) ↦
  put1 σ26 (Addr.add a27 (Int.toNat j * szOf Proofs.Try.prog (22 : Nat))) (Value.int IntKind.u32 n24) fun (σ28 : AS) ↦
  ALoop
  (fl Proofs.Try.prog hintsS T (59 : Nat)
  [Bool.true, Bool.true, Bool.true, Bool.true, Bool.true, Bool.true, Bool.true, Bool.true, Bool.true, Bool.false, Bool.false] [] K)
  [((0 : Nat), Option.some (Value.slice d n (1 : Nat))), ((1 : Nat), Option.some (Value.int IntKind.i64 a)),
  ((10 : Nat), Option.some (Value.int IntKind.i64 (IntKind.wrap IntKind.i64 (k + (1 : Int))))),
  ((11 : Nat), Option.some (Value.int IntKind.i64 (IntKind.wrap IntKind.i64 (j - (1 : Int)))))]
  σ28)))))))))))))))
  (bmatch (Decidable.decide (k > j))
  (req ((0 : Int) ≤ a)
  (req (a < (↑n : Int))
  (pSome d fun (a29 : Addr) ↦
  ldc σ (Addr.add a29 (Int.toNat a * szOf Proofs.Try.prog (22 : Nat))) fun (v30 : Value) ↦
  tI IntKind.u32 v30 fun (n31 : Int) ↦
  req ((0 : Int) ≤ j)
  (req (j < (↑n : Int))
  (pSome d fun (a32 : Addr) ↦
  ldc σ (Addr.add a32 (Int.toNat j * szOf Proofs.Try.prog (22 : Nat))) fun (v33 : Value) ↦
  tI IntKind.u32 v33 fun (n34 : Int) ↦
  req ((0 : Int) ≤ j)
  (req (j < (↑n : Int))
  (pSome d fun (a35 : Addr) ↦
  put1 σ (Addr.add a35 (Int.toNat j * szOf Proofs.Try.prog (22 : Nat))) (Value.int IntKind.u32 n31) fun (σ36 : AS) ↦
  req ((0 : Int) ≤ a)
  (req (a < (↑n : Int))
  (pSome d fun (a37 : Addr) ↦
  put1 σ36 (Addr.add a37 (Int.toNat a * szOf Proofs.Try.prog (22 : Nat))) (Value.int IntKind.u32 n34) fun (σ38 : AS) ↦
  K (Value.tuple (Array.mk [Value.int IntKind.i64 j, Value.bool Bool.true])) σ38)))))))))
  (req ((0 : Int) ≤ j)
  (req (j < (↑n : Int))
  (pSome d fun (a39 : Addr) ↦
  ldc σ (Addr.add a39 (Int.toNat j * szOf Proofs.Try.prog (22 : Nat))) fun (v40 : Value) ↦
  tI IntKind.u32 v40 fun (n41 : Int) ↦
  req ((0 : Int) ≤ k)
  (req (k < (↑n : Int))
  (pSome d fun (a42 : Addr) ↦
  ldc σ (Addr.add a42 (Int.toNat k * szOf Proofs.Try.prog (22 : Nat))) fun (v43 : Value) ↦
  tI IntKind.u32 v43 fun (n44 : Int) ↦
  req ((0 : Int) ≤ k)
  (req (k < (↑n : Int))
  (pSome d fun (a45 : Addr) ↦
  put1 σ (Addr.add a45 (Int.toNat k * szOf Proofs.Try.prog (22 : Nat))) (Value.int IntKind.u32 n41) fun (σ46 : AS) ↦
  req ((0 : Int) ≤ j)
  (req (j < (↑n : Int))
  (pSome d fun (a47 : Addr) ↦
  put1 σ46 (Addr.add a47 (Int.toNat j * szOf Proofs.Try.prog (22 : Nat))) (Value.int IntKind.u32 n44) fun (σ48 : AS) ↦
  ALoop
  (fl Proofs.Try.prog hintsS T (59 : Nat)
  [Bool.true, Bool.true, Bool.true, Bool.true, Bool.true, Bool.true, Bool.true, Bool.true, Bool.true, Bool.false, Bool.false] [] K)
  [((0 : Nat), Option.some (Value.slice d n (1 : Nat))), ((1 : Nat), Option.some (Value.int IntKind.i64 a)),
  ((10 : Nat), Option.some (Value.int IntKind.i64 (IntKind.wrap IntKind.i64 (k + (1 : Int))))),
  ((11 : Nat), Option.some (Value.int IntKind.i64 (IntKind.wrap IntKind.i64 (j - (1 : Int)))))]
  σ48)))))))))) := by
  intros
  kernel_rfl

theorem s59c : ∀ (T : Ct) (d : Option Addr) (n : Nat) (a k j : Int) (X : Regs → AS → Prop) (σ : AS) (K : Value → AS → Prop),
  fl Proofs.Try.prog hintsS T (59 : Nat) [Bool.true, Bool.true, Bool.true, Bool.true, Bool.true, Bool.true, Bool.true, Bool.true, Bool.true, Bool.false, Bool.false] [] K X
  [((0 : Nat), Option.some (Value.slice d n (1 : Nat))), ((1 : Nat), Option.some (Value.int IntKind.i64 a)), ((10 : Nat), Option.some (Value.int IntKind.i64 k)),
  ((11 : Nat), Option.some (Value.int IntKind.i64 j))]
  σ =
  ALoop
  (fl Proofs.Try.prog hintsS T (59 : Nat)
  [Bool.true, Bool.true, Bool.true, Bool.true, Bool.true, Bool.true, Bool.true, Bool.true, Bool.true, Bool.false, Bool.false, Bool.false, Bool.false, Bool.false, Bool.false] [X] K)
  [((0 : Nat), Option.some (Value.slice d n (1 : Nat))), ((1 : Nat), Option.some (Value.int IntKind.i64 a)), ((10 : Nat), Option.some (Value.int IntKind.i64 k)),
  ((11 : Nat), Option.some (Value.int IntKind.i64 j))]
  σ := by
  intros
  kernel_rfl

theorem s59d : ∀ (T : Ct) (d : Option Addr) (n : Nat) (a k j : Int) (Y X : Regs → AS → Prop) (σ : AS) (K : Value → AS → Prop),
  fl Proofs.Try.prog hintsS T (59 : Nat)
  [Bool.true, Bool.true, Bool.true, Bool.true, Bool.true, Bool.true, Bool.true, Bool.true, Bool.true, Bool.false, Bool.false, Bool.false, Bool.false, Bool.false, Bool.false] [Y] K X
  [((0 : Nat), Option.some (Value.slice d n (1 : Nat))), ((1 : Nat), Option.some (Value.int IntKind.i64 a)), ((10 : Nat), Option.some (Value.int IntKind.i64 k)),
  ((11 : Nat), Option.some (Value.int IntKind.i64 j))]
  σ =
  bmatch (Decidable.decide (k ≤ j))
  (req ((0 : Int) ≤ k)
  (req (k < (↑n : Int))
  (pSome d fun (a0 : Addr) ↦
  ldc σ (Addr.add a0 (Int.toNat k * szOf Proofs.Try.prog (22 : Nat))) fun (v1 : Value) ↦
  tI IntKind.u32 v1 fun (n2 : Int) ↦
  req ((0 : Int) ≤ a)
  (req (a < (↑n : Int))
  (pSome d fun (a3 : Addr) ↦
  ldc σ (Addr.add a3 (Int.toNat a * szOf Proofs.Try.prog (22 : Nat))) fun (v4 : Value) ↦
  tI IntKind.u32 v4 fun (n5 : Int) ↦
  T (57 : Nat) [Value.int IntKind.u32 n2, Value.int IntKind.u32 n5] σ fun (v6 : Value) (σ7 : AS) ↦
  tB v6 fun (b8 : Bool) ↦
  bmatch b8
  (X
  [((0 : Nat), Option.some (Value.slice d n (1 : Nat))), ((1 : Nat), Option.some (Value.int IntKind.i64 a)),
  ((10 : Nat), Option.some (Value.int IntKind.i64 (IntKind.wrap IntKind.i64 (k + (1 : Int))))), ((11 : Nat), Option.some (Value.int IntKind.i64 j))]
  σ7)
  (ALoop
  (fl Proofs.Try.prog hintsS T (59 : Nat)
  [Bool.true, Bool.true, Bool.true, Bool.true, Bool.true, Bool.true, Bool.true, Bool.true, Bool.true, Bool.false, Bool.false, Bool.false, Bool.false, Bool.true, Bool.false, Bool.false]
  [Y] K)
  [((0 : Nat), Option.some (Value.slice d n (1 : Nat))), ((1 : Nat), Option.some (Value.int IntKind.i64 a)), ((10 : Nat), Option.some (Value.int IntKind.i64 k)),
  ((11 : Nat), Option.some (Value.int IntKind.i64 j))]
  σ7))))))
  (ALoop
  (fl Proofs.Try.prog hintsS T (59 : Nat)
  [Bool.true, Bool.true, Bool.true, Bool.true, Bool.true, Bool.true, Bool.true, Bool.true, Bool.true, Bool.false, Bool.false, Bool.false, Bool.false, Bool.true, Bool.false, Bool.false] [Y] K)
  [((0 : Nat), Option.some (Value.slice d n (1 : Nat))), ((1 : Nat), Option.some (Value.int IntKind.i64 a)), ((10 : Nat), Option.some (Value.int IntKind.i64 k)),
  ((11 : Nat), Option.some (Value.int IntKind.i64 j))]
  σ) := by
  intros
  kernel_rfl

theorem s59e : ∀ (T : Ct) (d : Option Addr) (n : Nat) (a k j : Int) (Y X : Regs → AS → Prop) (σ : AS) (K : Value → AS → Prop),
  fl Proofs.Try.prog hintsS T (59 : Nat)
  [Bool.true, Bool.true, Bool.true, Bool.true, Bool.true, Bool.true, Bool.true, Bool.true, Bool.true, Bool.false, Bool.false, Bool.false, Bool.false, Bool.true, Bool.false, Bool.false] [Y] K X
  [((0 : Nat), Option.some (Value.slice d n (1 : Nat))), ((1 : Nat), Option.some (Value.int IntKind.i64 a)), ((10 : Nat), Option.some (Value.int IntKind.i64 k)),
  ((11 : Nat), Option.some (Value.int IntKind.i64 j))]
  σ =
  bmatch (Decidable.decide (k ≤ j))
  (req ((0 : Int) ≤ j)
  (req (j < (↑n : Int))
  (pSome d fun (a0 : Addr) ↦
  ldc σ (Addr.add a0 (Int.toNat j * szOf Proofs.Try.prog (22 : Nat))) fun (v1 : Value) ↦
  tI IntKind.u32 v1 fun (n2 : Int) ↦
  req ((0 : Int) ≤ a)
  (req (a < (↑n : Int))
  (pSome d fun (a3 : Addr) ↦
  ldc σ (Addr.add a3 (Int.toNat a * szOf Proofs.Try.prog (22 : Nat))) fun (v4 : Value) ↦
  tI IntKind.u32 v4 fun (n5 : Int) ↦
  T (57 : Nat) [Value.int IntKind.u32 n2, Value.int IntKind.u32 n5] σ fun (v6 : Value) (σ7 : AS) ↦
  tB v6 fun (b8 : Bool) ↦
  bmatch (!b8)
  (X
  [((0 : Nat), Option.some (Value.slice d n (1 : Nat))), ((1 : Nat), Option.some (Value.int IntKind.i64 a)), ((10 : Nat), Option.some (Value.int IntKind.i64 k)),
  ((11 : Nat), Option.some (Value.int IntKind.i64 (IntKind.wrap IntKind.i64 (j - (1 : Int)))))]
  σ7)
  (bmatch (Decidable.decide (k > j))
  (req ((0 : Int) ≤ a)
  (req (a < (↑n : Int))
  (pSome d fun (a9 : Addr) ↦
  ldc σ7 (Addr.add a9 (Int.toNat a * szOf Proofs.Try.prog (22 : Nat))) fun (v10 : Value) ↦
  tI IntKind.u32 v10 fun (n11 : Int) ↦
  req ((0 : Int) ≤ j)
  (req (j < (↑n : Int))
  (pSome d fun (a12 : Addr) ↦
  ldc σ7 (Addr.add a12 (Int.toNat j * szOf Proofs.Try.prog (22 : Nat))) fun (v13 : Value) ↦
  tI IntKind.u32 v13 fun (n14 : Int) ↦
  req ((0 : Int) ≤ j)
  (req (j < (↑n : Int))
  (pSome d fun (a15 : Addr) ↦
  put1 σ7 (Addr.add a15 (Int.toNat j * szOf Proofs.Try.prog (22 : Nat))) (Value.int IntKind.u32 n11) fun (σ16 : AS) ↦
  req ((0 : Int) ≤ a)
  (req (a < (↑n : Int))
  (pSome d fun (a17 : Addr) ↦
  put1 σ16 (Addr.add a17 (Int.toNat a * szOf Proofs.Try.prog (22 : Nat))) (Value.int IntKind.u32 n14) fun (σ18 : AS) ↦
  K (Value.tuple (Array.mk [Value.int IntKind.i64 j, Value.bool Bool.false])) σ18)))))))))
  (req ((0 : Int) ≤ j)
  (req (j < (↑n : Int))
  (pSome d fun (a19 : Addr) ↦
  ldc σ7 (Addr.add a19 (Int.toNat j * szOf Proofs.Try.prog (22 : Nat))) fun (v20 : Value) ↦
  tI IntKind.u32 v20 fun (n21 : Int) ↦
  req ((0 : Int) ≤ k)
  (req (k < (↑n : Int))
  (pSome d fun (a22 : Addr) ↦
  ldc σ7 (Addr.add a22 (Int.toNat k * szOf Proofs.Try.prog (22 : Nat))) fun (v23 : Value) ↦
  tI IntKind.u32 v23 fun (n24 : Int) ↦
  req ((0 : Int) ≤ k)
  (req (k < (↑n : Int))
  (pSome d fun (a25 : Addr) ↦
  put1 σ7 (Addr.add a25 (Int.toNat k * szOf Proofs.Try.prog (22 : Nat))) (Value.int IntKind.u32 n21) fun (σ26 : AS) ↦
  req ((0 : Int) ≤ j)
  (req (j < (↑n : Int))
  (pSome d fun (a27 : Addr) ↦
  put1 σ26 (Addr.add a27 (Int.toNat j * szOf Proofs.Try.prog (22 : Nat))) (Value.int IntKind.u32 n24) fun (σ28 : AS) ↦
  Y
  [((0 : Nat), Option.some (Value.slice d n (1 : Nat))), ((1 : Nat), Option.some (Value.int IntKind.i64 a)),
  ((10 : Nat), Option.some (Value.int IntKind.i64 (IntKind.wrap IntKind.i64 (k + (1 : Int))))),
  ((11 : Nat), Option.some (Value.int IntKind.i64 (IntKind.wrap IntKind.i64 (j - (1 : Int)))))]
  σ28)))))))))))))))
  (bmatch (Decidable.decide (k > j))
  (req ((0 : Int) ≤ a)
  (req (a < (↑n : Int))
  (pSome d fun (a29 : Addr) ↦
  ldc σ (Addr.add a29 (Int.toNat a * szOf Proofs.Try.prog (22 : Nat))) fun (v30 : Value) ↦
  tI IntKind.u32 v30 fun (n31 : Int) ↦
  req ((0 : Int) ≤ j)
  (req (j < (↑n : Int))
  (pSome d fun (a32 : Addr) ↦
  ldc σ (Addr.add a32 (Int.toNat j * szOf Proofs.Try.prog (22 : Nat))) fun (v33 : Value) ↦
  tI IntKind.u32 v33 fun (n34 : Int) ↦
  req ((0 : Int) ≤ j)
  (req (j < (↑n : Int))
  (pSome d fun (a35 : Addr) ↦
  put1 σ (Addr.add a35 (Int.toNat j * szOf Proofs.Try.prog (22 : Nat))) (Value.int IntKind.u32 n31) fun (σ36 : AS) ↦
  req ((0 : Int) ≤ a)
  (req (a < (↑n : Int))
  (pSome d fun (a37 : Addr) ↦
  put1 σ36 (Addr.add a37 (Int.toNat a * szOf Proofs.Try.prog (22 : Nat))) (Value.int IntKind.u32 n34) fun (σ38 : AS) ↦
  K (Value.tuple (Array.mk [Value.int IntKind.i64 j, Value.bool Bool.false])) σ38)))))))))
  (req ((0 : Int) ≤ j)
  (req (j < (↑n : Int))
  (pSome d fun (a39 : Addr) ↦
  ldc σ (Addr.add a39 (Int.toNat j * szOf Proofs.Try.prog (22 : Nat))) fun (v40 : Value) ↦
  tI IntKind.u32 v40 fun (n41 : Int) ↦
  req ((0 : Int) ≤ k)
  (req (k < (↑n : Int))
  (pSome d fun (a42 : Addr) ↦
  ldc σ (Addr.add a42 (Int.toNat k * szOf Proofs.Try.prog (22 : Nat))) fun (v43 : Value) ↦
  tI IntKind.u32 v43 fun (n44 : Int) ↦
  req ((0 : Int) ≤ k)
  (req (k < (↑n : Int))
  (pSome d fun (a45 : Addr) ↦
  put1 σ (Addr.add a45 (Int.toNat k * szOf Proofs.Try.prog (22 : Nat))) (Value.int IntKind.u32 n41) fun (σ46 : AS) ↦
  req ((0 : Int) ≤ j)
  (req (j < (↑n : Int))
  (pSome d fun (a47 : Addr) ↦
  put1 σ46 (Addr.add a47 (Int.toNat j * szOf Proofs.Try.prog (22 : Nat))) (Value.int IntKind.u32 n44) fun (σ48 : AS) ↦
  Y
  [((0 : Nat), Option.some (Value.slice d n (1 : Nat))), ((1 : Nat), Option.some (Value.int IntKind.i64 a)),
  ((10 : Nat), Option.some (Value.int IntKind.i64 (IntKind.wrap IntKind.i64 (k + (1 : Int))))),
  ((11 : Nat), Option.some (Value.int IntKind.i64 (IntKind.wrap IntKind.i64 (j - (1 : Int)))))]
  σ48)))))))))) := by
  intros
  kernel_rfl

theorem s49 : ∀ (T : Ct) (d : Option Addr) (n : Nat) (a b l : Int) (σ : AS) (K : Value → AS → Prop),
  fw Proofs.Try.prog hintsS T (49 : Nat) [Value.slice d n (1 : Nat), Value.int IntKind.i64 a, Value.int IntKind.i64 b, Value.int IntKind.i64 l] σ K =
  ALoop (fl Proofs.Try.prog hintsS T (49 : Nat) [Bool.true, Bool.true, Bool.false] [] K)
  [((0 : Nat), Option.some (Value.slice d n (1 : Nat))), ((1 : Nat), Option.some (Value.int IntKind.i64 a)), ((2 : Nat), Option.some (Value.int IntKind.i64 b)),
  ((3 : Nat), Option.some (Value.int IntKind.i64 l)), ((8 : Nat), Option.some (Value.bool Bool.true)), ((9 : Nat), Option.some (Value.bool Bool.true))]
  σ := by
  intros
  kernel_rfl

theorem s49l : ∀ (T : Ct) (d : Option Addr) (n : Nat) (a b l : Int) (u v : Bool) (X : Regs → AS → Prop) (σ : AS) (K : Value → AS → Prop),
  fl Proofs.Try.prog hintsS T (49 : Nat) [Bool.true, Bool.true, Bool.false] [] K X
  [((0 : Nat), Option.some (Value.slice d n (1 : Nat))), ((1 : Nat), Option.some (Value.int IntKind.i64 a)), ((2 : Nat), Option.some (Value.int IntKind.i64 b)),
  ((3 : Nat), Option.some (Value.int IntKind.i64 l)), ((8 : Nat), Option.some (Value.bool u)), ((9 : Nat), Option.some (Value.bool v))]
  σ =
  bmatch (Decidable.decide (IntKind.wrap IntKind.i64 (b - a) ≤ (12 : Int)))
  (T (51 : Nat) [Value.slice d n (1 : Nat), Value.int IntKind.i64 a, Value.int IntKind.i64 b] σ fun (v0 : Value) (σ1 : AS) ↦ K (Value.tuple (Array.mk [])) σ1)
  (bmatch (l == (0 : Int))
  (T (52 : Nat) [Value.slice d n (1 : Nat), Value.int IntKind.i64 a, Value.int IntKind.i64 b] σ fun (v2 : Value) (σ3 : AS) ↦ K (Value.tuple (Array.mk [])) σ3)
  (bmatch (!u)
  (T (53 : Nat) [Value.slice d n (1 : Nat), Value.int IntKind.i64 a, Value.int IntKind.i64 b] σ fun (v4 : Value) (σ5 : AS) ↦
  T (54 : Nat) [Value.slice d n (1 : Nat), Value.int IntKind.i64 a, Value.int IntKind.i64 b] σ5 fun (v6 : Value) (σ7 : AS) ↦
  tTup v6 fun (l8 : List Value) ↦
  pSome l8[(0 : Nat)]? fun (u9 : Value) ↦
  tI IntKind.i64 u9 fun (n10 : Int) ↦
  tTup v6 fun (l11 : List Value) ↦
  pSome l11[(1 : Nat)]? fun (u12 : Value) ↦
  tI IntKind.i64 u12 fun (n13 : Int) ↦
  bmatch (n13 == (2 : Int))
  (T (55 : Nat) [Value.slice d n (1 : Nat), Value.int IntKind.i64 a, Value.int IntKind.i64 b] σ7 fun (v14 : Value) (σ15 : AS) ↦
  bmatch u
  (bmatch v
  (T (56 : Nat) [Value.slice d n (1 : Nat), Value.int IntKind.i64 a, Value.int IntKind.i64 b] σ15 fun (v16 : Value) (σ17 : AS) ↦
  tB v16 fun (b18 : Bool) ↦
  bmatch b18 (K (Value.tuple (Array.mk [])) σ17)
  (bmatch (Decidable.decide (a > (0 : Int)))
  (req ((0 : Int) ≤ IntKind.wrap IntKind.i64 (a - (1 : Int)))
  (req (IntKind.wrap IntKind.i64 (a - (1 : Int)) < (↑n : Int))
  (pSome d fun (a19 : Addr) ↦
  ldc σ17 (Addr.add a19 (Int.toNat (IntKind.wrap IntKind.i64 (a - (1 : Int))) * szOf Proofs.Try.prog (22 : Nat))) fun (v20 : Value) ↦
  tI IntKind.u32 v20 fun (n21 : Int) ↦
  req ((0 : Int) ≤ IntKind.wrap IntKind.i64 (IntKind.wrap IntKind.i64 (b - (1 : Int)) - IntKind.wrap IntKind.i64 (n10 - a)))
  (req (IntKind.wrap IntKind.i64 (IntKind.wrap IntKind.i64 (b - (1 : Int)) - IntKind.wrap IntKind.i64 (n10 - a)) < (↑n : Int))
  (pSome d fun (a22 : Addr) ↦
  ldc σ17
  (Addr.add a22
  (Int.toNat (IntKind.wrap IntKind.i64 (IntKind.wrap IntKind.i64 (b - (1 : Int)) - IntKind.wrap IntKind.i64 (n10 - a))) *
  szOf Proofs.Try.prog (22 : Nat)))
  fun (v23 : Value) ↦
  tI IntKind.u32 v23 fun (n24 : Int) ↦
  T (57 : Nat) [Value.int IntKind.u32 n21, Value.int IntKind.u32 n24] σ17 fun (v25 : Value) (σ26 : AS) ↦
  tB v25 fun (b27 : Bool) ↦
  bmatch (!b27)
  (T (58 : Nat)
  [Value.slice d n (1 : Nat), Value.int IntKind.i64 a, Value.int IntKind.i64 b,
  Value.int IntKind.i64
  (IntKind.wrap IntKind.i64 (IntKind.wrap IntKind.i64 (b - (1 : Int)) - IntKind.wrap IntKind.i64 (n10 - a)))]
  σ26 fun (v28 : Value) (σ29 : AS) ↦
  tI IntKind.i64 v28 fun (n30 : Int) ↦
  X
  [((0 : Nat), Option.some (Value.slice d n (1 : Nat))), ((1 : Nat), Option.some (Value.int IntKind.i64 n30)),
  ((2 : Nat), Option.some (Value.int IntKind.i64 b)),
  ((3 : Nat), Option.some (Value.int IntKind.i64 (IntKind.wrap IntKind.i64 (l - (1 : Int))))),
  ((8 : Nat), Option.some (Value.bool u)), ((9 : Nat), Option.some (Value.bool v))]
  σ29)
  (T (59 : Nat)
  [Value.slice d n (1 : Nat), Value.int IntKind.i64 a, Value.int IntKind.i64 b,
  Value.int IntKind.i64
  (IntKind.wrap IntKind.i64 (IntKind.wrap IntKind.i64 (b - (1 : Int)) - IntKind.wrap IntKind.i64 (n10 - a)))]
  σ26 fun (v31 : Value) (σ32 : AS) ↦
  tTup v31 fun (l33 : List Value) ↦
  pSome l33[(0 : Nat)]? fun (u34 : Value) ↦
  tI IntKind.i64 u34 fun (n35 : Int) ↦
  tTup v31 fun (l36 : List Value) ↦
  pSome l36[(1 : Nat)]? fun (u37 : Value) ↦
  tB u37 fun (b38 : Bool) ↦
  bmatch (Decidable.decide (IntKind.wrap IntKind.i64 (n35 - a) < IntKind.wrap IntKind.i64 (b - n35)))
  (T (49 : Nat)
  [Value.slice d n (1 : Nat), Value.int IntKind.i64 a, Value.int IntKind.i64 n35,
  Value.int IntKind.i64 (IntKind.wrap IntKind.i64 (l - (1 : Int)))]
  σ32 fun (v39 : Value) (σ40 : AS) ↦
  X
  [((0 : Nat), Option.some (Value.slice d n (1 : Nat))),
  ((1 : Nat), Option.some (Value.int IntKind.i64 (IntKind.wrap IntKind.i64 (n35 + (1 : Int))))),
  ((2 : Nat), Option.some (Value.int IntKind.i64 b)),
  ((3 : Nat), Option.some (Value.int IntKind.i64 (IntKind.wrap IntKind.i64 (l - (1 : Int))))),
  ((8 : Nat),
  Option.some
  (Value.bool
  (Decidable.decide
  (IntKind.wrap IntKind.i64 (n35 - a) ≥
  IntKind.wrap IntKind.i64 (Int.tdiv (IntKind.wrap IntKind.i64 (b - a)) (8 : Int)))))),
  ((9 : Nat), Option.some (Value.bool b38))]
  σ40)
  (T (49 : Nat)
  [Value.slice d n (1 : Nat), Value.int IntKind.i64 (IntKind.wrap IntKind.i64 (n35 + (1 : Int))),
  Value.int IntKind.i64 b, Value.int IntKind.i64 (IntKind.wrap IntKind.i64 (l - (1 : Int)))]
  σ32 fun (v41 : Value) (σ42 : AS) ↦
  X
  [((0 : Nat), Option.some (Value.slice d n (1 : Nat))), ((1 : Nat), Option.some (Value.int IntKind.i64 a)),
  ((2 : Nat), Option.some (Value.int IntKind.i64 n35)),
  ((3 : Nat), Option.some (Value.int IntKind.i64 (IntKind.wrap IntKind.i64 (l - (1 : Int))))),
  ((8 : Nat),
  Option.some
  (Value.bool
  (Decidable.decide
  (IntKind.wrap IntKind.i64 (b - n35) ≥
  IntKind.wrap IntKind.i64 (Int.tdiv (IntKind.wrap IntKind.i64 (b - a)) (8 : Int)))))),
  ((9 : Nat), Option.some (Value.bool b38))]
  σ42)))))))
  (T (59 : Nat)
  [Value.slice d n (1 : Nat), Value.int IntKind.i64 a, Value.int IntKind.i64 b,
  Value.int IntKind.i64 (IntKind.wrap IntKind.i64 (IntKind.wrap IntKind.i64 (b - (1 : Int)) - IntKind.wrap IntKind.i64 (n10 - a)))]
  σ17 fun (v43 : Value) (σ44 : AS) ↦
  tTup v43 fun (l45 : List Value) ↦
  pSome l45[(0 : Nat)]? fun (u46 : Value) ↦
  tI IntKind.i64 u46 fun (n47 : Int) ↦
  tTup v43 fun (l48 : List Value) ↦
  pSome l48[(1 : Nat)]? fun (u49 : Value) ↦
  tB u49 fun (b50 : Bool) ↦
  bmatch (Decidable.decide (IntKind.wrap IntKind.i64 (n47 - a) < IntKind.wrap IntKind.i64 (b - n47)))
  (T (49 : Nat)
  [Value.slice d n (1 : Nat), Value.int IntKind.i64 a, Value.int IntKind.i64 n47,
  Value.int IntKind.i64 (IntKind.wrap IntKind.i64 (l - (1 : Int)))]
  σ44 fun (v51 : Value) (σ52 : AS) ↦
  X
  [((0 : Nat), Option.some (Value.slice d n (1 : Nat))),
  ((1 : Nat), Option.some (Value.int IntKind.i64 (IntKind.wrap IntKind.i64 (n47 + (1 : Int))))),
  ((2 : Nat), Option.some (Value.int IntKind.i64 b)),
  ((3 : Nat), Option.some (Value.int IntKind.i64 (IntKind.wrap IntKind.i64 (l - (1 : Int))))),
  ((8 : Nat),
  Option.some
  (Value.bool
  (Decidable.decide
  (IntKind.wrap IntKind.i64 (n47 - a) ≥ IntKind.wrap IntKind.i64 (Int.tdiv (IntKind.wrap IntKind.i64 (b - a)) (8 : Int)))))),
  ((9 : Nat), Option.some (Value.bool b50))]
  σ52)
  (T (49 : Nat)
  [Value.slice d n (1 : Nat), Value.int IntKind.i64 (IntKind.wrap IntKind.i64 (n47 + (1 : Int))), Value.int IntKind.i64 b,
  Value.int IntKind.i64 (IntKind.wrap IntKind.i64 (l - (1 : Int)))]
  σ44 fun (v53 : Value) (σ54 : AS) ↦
  X
  [((0 : Nat), Option.some (Value.slice d n (1 : Nat))), ((1 : Nat), Option.some (Value.int IntKind.i64 a)),
  ((2 : Nat), Option.some (Value.int IntKind.i64 n47)),
  ((3 : Nat), Option.some (Value.int IntKind.i64 (IntKind.wrap IntKind.i64 (l - (1 : Int))))),
  ((8 : Nat),
  Option.some
  (Value.bool
  (Decidable.decide
  (IntKind.wrap IntKind.i64 (b - n47) ≥ IntKind.wrap IntKind.i64 (Int.tdiv (IntKind.wrap IntKind.i64 (b - a)) (8 : Int)))))),
  ((9 : Nat), Option.some (Value.bool b50))]
  σ54))))
  (bmatch (Decidable.decide (a > (0 : Int)))
  (req ((0 : Int) ≤ IntKind.wrap IntKind.i64 (a - (1 : Int)))
  (req (IntKind.wrap IntKind.i64 (a - (1 : Int)) < (↑n : Int))
  (pSome d fun (a55 : Addr) ↦
  ldc σ15 (Addr.add a55 (Int.toNat (IntKind.wrap IntKind.i64 (a - (1 : Int))) * szOf Proofs.Try.prog (22 : Nat))) fun (v56 : Value) ↦
  tI IntKind.u32 v56 fun (n57 : Int) ↦
  req ((0 : Int) ≤ IntKind.wrap IntKind.i64 (IntKind.wrap IntKind.i64 (b - (1 : Int)) - IntKind.wrap IntKind.i64 (n10 - a)))
  (req (IntKind.wrap IntKind.i64 (IntKind.wrap IntKind.i64 (b - (1 : Int)) - IntKind.wrap IntKind.i64 (n10 - a)) < (↑n : Int))
  (pSome d fun (a58 : Addr) ↦
  ldc σ15
  (Addr.add a58
  (Int.toNat (IntKind.wrap IntKind.i64 (IntKind.wrap IntKind.i64 (b - (1 : Int)) - IntKind.wrap IntKind.i64 (n10 - a))) *
  szOf Proofs.Try.prog (22 : Nat)))
  fun (v59 : Value) ↦
  tI IntKind.u32 v59 fun (n60 : Int) ↦
  T (57 : Nat) [Value.int IntKind.u32 n57, Value.int IntKind.u32 n60] σ15 fun (v61 : Value) (σ62 : AS) ↦
  tB v61 fun (b63 : Bool) ↦
  bmatch (!b63)
  (T (58 : Nat)
  [Value.slice d n (1 : Nat), Value.int IntKind.i64 a, Value.int IntKind.i64 b,
  Value.int IntKind.i64
  (IntKind.wrap IntKind.i64 (IntKind.wrap IntKind.i64 (b - (1 : Int)) - IntKind.wrap IntKind.i64 (n10 - a)))]
  σ62 fun (v64 : Value) (σ65 : AS) ↦
  tI IntKind.i64 v64 fun (n66 : Int) ↦
  X
  [((0 : Nat), Option.some (Value.slice d n (1 : Nat))), ((1 : Nat), Option.some (Value.int IntKind.i64 n66)),
  ((2 : Nat), Option.some (Value.int IntKind.i64 b)),
  ((3 : Nat), Option.some (Value.int IntKind.i64 (IntKind.wrap IntKind.i64 (l - (1 : Int))))),
  ((8 : Nat), Option.some (Value.bool u)), ((9 : Nat), Option.some (Value.bool v))]
  σ65)
  (T (59 : Nat)
  [Value.slice d n (1 : Nat), Value.int IntKind.i64 a, Value.int IntKind.i64 b,
  Value.int IntKind.i64
  (IntKind.wrap IntKind.i64 (IntKind.wrap IntKind.i64 (b - (1 : Int)) - IntKind.wrap IntKind.i64 (n10 - a)))]
  σ62 fun (v67 : Value) (σ68 : AS) ↦
  tTup v67 fun (l69 : List Value) ↦
  pSome l69[(0 : Nat)]? fun (u70 : Value) ↦
  tI IntKind.i64 u70 fun (n71 : Int) ↦
  tTup v67 fun (l72 : List Value) ↦
  pSome l72[(1 : Nat)]? fun (u73 : Value) ↦
  tB u73 fun (b74 : Bool) ↦
  bmatch (Decidable.decide (IntKind.wrap IntKind.i64 (n71 - a) < IntKind.wrap IntKind.i64 (b - n71)))
  (T (49 : Nat)
  [Value.slice d n (1 : Nat), Value.int IntKind.i64 a, Value.int IntKind.i64 n71,
  Value.int IntKind.i64 (IntKind.wrap IntKind.i64 (l - (1 : Int)))]
  σ68 fun (v75 : Value) (σ76 : AS) ↦
  X
  [((0 : Nat), Option.some (Value.slice d n (1 : Nat))),
  ((1 : Nat), Option.some (Value.int IntKind.i64 (IntKind.wrap IntKind.i64 (n71 + (1 : Int))))),
  ((2 : Nat), Option.some (Value.int IntKind.i64 b)),
  ((3 : Nat), Option.some (Value.int IntKind.i64 (IntKind.wrap IntKind.i64 (l - (1 : Int))))),
  ((8 : Nat),
  Option.some
  (Value.bool
  (Decidable.decide
  (IntKind.wrap IntKind.i64 (n71 - a) ≥
  IntKind.wrap IntKind.i64 (Int.tdiv (IntKind.wrap IntKind.i64 (b - a)) (8 : Int)))))),
  ((9 : Nat), Option.some (Value.bool b74))]
  σ76)
  (T (49 : Nat)
  [Value.slice d n (1 : Nat), Value.int IntKind.i64 (IntKind.wrap IntKind.i64 (n71 + (1 : Int))),
  Value.int IntKind.i64 b, Value.int IntKind.i64 (IntKind.wrap IntKind.i64 (l - (1 : Int)))]
  σ68 fun (v77 : Value) (σ78 : AS) ↦
  X
  [((0 : Nat), Option.some (Value.slice d n (1 : Nat))), ((1 : Nat), Option.some (Value.int IntKind.i64 a)),
  ((2 : Nat), Option.some (Value.int IntKind.i64 n71)),
  ((3 : Nat), Option.some (Value.int IntKind.i64 (IntKind.wrap IntKind.i64 (l - (1 : Int))))),
  ((8 : Nat),
  Option.some
  (Value.bool
  (Decidable.decide
  (IntKind.wrap IntKind.i64 (b - n71) ≥
  IntKind.wrap IntKind.i64 (Int.tdiv (IntKind.wrap IntKind.i64 (b - a)) (8 : Int)))))),
  ((9 : Nat), Option.some (Value.bool b74))]
  σ78)))))))
  (T (59 : Nat)
  [Value.slice d n (1 : Nat), Value.int IntKind.i64 a, Value.int IntKind.i64 b,
  Value.int IntKind.i64 (IntKind.wrap IntKind.i64 (IntKind.wrap IntKind.i64 (b - (1 : Int)) - IntKind.wrap IntKind.i64 (n10 - a)))]
  σ15 fun (v79 : Value) (σ80 : AS) ↦
  tTup v79 fun (l81 : List Value) ↦
  pSome l81[(0 : Nat)]? fun (u82 : Value) ↦
  tI IntKind.i64 u82 fun (n83 : Int) ↦
  tTup v79 fun (l84 : List Value) ↦
  pSome l84[(1 : Nat)]? fun (u85 : Value) ↦
  tB u85 fun (b86 : Bool) ↦
  bmatch (Decidable.decide (IntKind.wrap IntKind.i64 (n83 - a) < IntKind.wrap IntKind.i64 (b - n83)))
  (T (49 : Nat)
  [Value.slice d n (1 : Nat), Value.int IntKind.i64 a, Value.int IntKind.i64 n83,
  Value.int IntKind.i64 (IntKind.wrap IntKind.i64 (l - (1 : Int)))]
  σ80 fun (v87 : Value) (σ88 : AS) ↦
  X
  [((0 : Nat), Option.some (Value.slice d n (1 : Nat))),
  ((1 : Nat), Option.some (Value.int IntKind.i64 (IntKind.wrap IntKind.i64 (n83 + (1 : Int))))),
  ((2 : Nat), Option.some (Value.int IntKind.i64 b)),
  ((3 : Nat), Option.some (Value.int IntKind.i64 (IntKind.wrap IntKind.i64 (l - (1 : Int))))),
  ((8 : Nat),
  Option.some
  (Value.bool
  (Decidable.decide
  (IntKind.wrap IntKind.i64 (n83 - a) ≥ IntKind.wrap IntKind.i64 (Int.tdiv (IntKind.wrap IntKind.i64 (b - a)) (8 : Int)))))),
  ((9 : Nat), Option.some (Value.bool b86))]
  σ88)
  (T (49 : Nat)
  [Value.slice d n (1 : Nat), Value.int IntKind.i64 (IntKind.wrap IntKind.i64 (n83 + (1 : Int))), Value.int IntKind.i64 b,
  Value.int IntKind.i64 (IntKind.wrap IntKind.i64 (l - (1 : Int)))]
  σ80 fun (v89 : Value) (σ90 : AS) ↦
  X
  [((0 : Nat), Option.some (Value.slice d n (1 : Nat))), ((1 : Nat), Option.some (Value.int IntKind.i64 a)),
  ((2 : Nat), Option.some (Value.int IntKind.i64 n83)),
  ((3 : Nat), Option.some (Value.int IntKind.i64 (IntKind.wrap IntKind.i64 (l - (1 : Int))))),
  ((8 : Nat),
  Option.some
  (Value.bool
  (Decidable.decide
  (IntKind.wrap IntKind.i64 (b - n83) ≥ IntKind.wrap IntKind.i64 (Int.tdiv (IntKind.wrap IntKind.i64 (b - a)) (8 : Int)))))),
  ((9 : Nat), Option.some (Value.bool b86))]
  σ90))))
  (bmatch (Decidable.decide (a > (0 : Int)))
  (req ((0 : Int) ≤ IntKind.wrap IntKind.i64 (a - (1 : Int)))
  (req (IntKind.wrap IntKind.i64 (a - (1 : Int)) < (↑n : Int))
  (pSome d fun (a91 : Addr) ↦
  ldc σ15 (Addr.add a91 (Int.toNat (IntKind.wrap IntKind.i64 (a - (1 : Int))) * szOf Proofs.Try.prog (22 : Nat))) fun (v92 : Value) ↦
  tI IntKind.u32 v92 fun (n93 : Int) ↦
  req ((0 : Int) ≤ IntKind.wrap IntKind.i64 (IntKind.wrap IntKind.i64 (b - (1 : Int)) - IntKind.wrap IntKind.i64 (n10 - a)))
  (req (IntKind.wrap IntKind.i64 (IntKind.wrap IntKind.i64 (b - (1 : Int)) - IntKind.wrap IntKind.i64 (n10 - a)) < (↑n : Int))
  (pSome d fun (a94 : Addr) ↦
  ldc σ15
  (Addr.add a94
  (Int.toNat (IntKind.wrap IntKind.i64 (IntKind.wrap IntKind.i64 (b - (1 : Int)) - IntKind.wrap IntKind.i64 (n10 - a))) *
  szOf Proofs.Try.prog (22 : Nat)))
  fun (v95 : Value) ↦
  tI IntKind.u32 v95 fun (n96 : Int) ↦
  T (57 : Nat) [Value.int IntKind.u32 n93, Value.int IntKind.u32 n96] σ15 fun (v97 : Value) (σ98 : AS) ↦
  tB v97 fun (b99 : Bool) ↦
  bmatch (!b99)
  (T (58 : Nat)
  [Value.slice d n (1 : Nat), Value.int IntKind.i64 a, Value.int IntKind.i64 b,
  Value.int IntKind.i64
  (IntKind.wrap IntKind.i64 (IntKind.wrap IntKind.i64 (b - (1 : Int)) - IntKind.wrap IntKind.i64 (n10 - a)))]
  σ98 fun (v100 : Value) (σ101 : AS) ↦
  tI IntKind.i64 v100 fun (n102 : Int) ↦
  X
  [((0 : Nat), Option.some (Value.slice d n (1 : Nat))), ((1 : Nat), Option.some (Value.int IntKind.i64 n102)),
  ((2 : Nat), Option.some (Value.int IntKind.i64 b)),
  ((3 : Nat), Option.some (Value.int IntKind.i64 (IntKind.wrap IntKind.i64 (l - (1 : Int))))), ((8 : Nat), Option.some (Value.bool u)),
  ((9 : Nat), Option.some (Value.bool v))]
  σ101)
  (T (59 : Nat)
  [Value.slice d n (1 : Nat), Value.int IntKind.i64 a, Value.int IntKind.i64 b,
  Value.int IntKind.i64
  (IntKind.wrap IntKind.i64 (IntKind.wrap IntKind.i64 (b - (1 : Int)) - IntKind.wrap IntKind.i64 (n10 - a)))]
  σ98 fun (v103 : Value) (σ104 : AS) ↦
  tTup v103 fun (l105 : List Value) ↦
  pSome l105[(0 : Nat)]? fun (u106 : Value) ↦
  tI IntKind.i64 u106 fun (n107 : Int) ↦
  tTup v103 fun (l108 : List Value) ↦
  pSome l108[(1 : Nat)]? fun (u109 : Value) ↦
  tB u109 fun (b110 : Bool) ↦
  bmatch (Decidable.decide (IntKind.wrap IntKind.i64 (n107 - a) < IntKind.wrap IntKind.i64 (b - n107)))
  (T (49 : Nat)
  [Value.slice d n (1 : Nat), Value.int IntKind.i64 a, Value.int IntKind.i64 n107,
  Value.int IntKind.i64 (IntKind.wrap IntKind.i64 (l - (1 : Int)))]
  σ104 fun (v111 : Value) (σ112 : AS) ↦
  X
  [((0 : Nat), Option.some (Value.slice d n (1 : Nat))),
  ((1 : Nat), Option.some (Value.int IntKind.i64 (IntKind.wrap IntKind.i64 (n107 + (1 : Int))))),
  ((2 : Nat), Option.some (Value.int IntKind.i64 b)),
  ((3 : Nat), Option.some (Value.int IntKind.i64 (IntKind.wrap IntKind.i64 (l - (1 : Int))))),
  ((8 : Nat),
  Option.some
  (Value.bool
  (Decidable.decide
  (IntKind.wrap IntKind.i64 (n107 - a) ≥
  IntKind.wrap IntKind.i64 (Int.tdiv (IntKind.wrap IntKind.i64 (b - a)) (8 : Int)))))),
  ((9 : Nat), Option.some (Value.bool b110))]
  σ112)
  (T (49 : Nat)
  [Value.slice d n (1 : Nat), Value.int IntKind.i64 (IntKind.wrap IntKind.i64 (n107 + (1 : Int))),
  Value.int IntKind.i64 b, Value.int IntKind.i64 (IntKind.wrap IntKind.i64 (l - (1 : Int)))]
  σ104 fun (v113 : Value) (σ114 : AS) ↦
  X
  [((0 : Nat), Option.some (Value.slice d n (1 : Nat))), ((1 : Nat), Option.some (Value.int IntKind.i64 a)),
  ((2 : Nat), Option.some (Value.int IntKind.i64 n107)),
  ((3 : Nat), Option.some (Value.int IntKind.i64 (IntKind.wrap IntKind.i64 (l - (1 : Int))))),
  ((8 : Nat),
  Option.some
  (Value.bool
  (Decidable.decide
  (IntKind.wrap IntKind.i64 (b - n107) ≥
  IntKind.wrap IntKind.i64 (Int.tdiv (IntKind.wrap IntKind.i64 (b - a)) (8 : Int)))))),
  ((9 : Nat), Option.some (Value.bool b110))]
  σ114)))))))
  (T (59 : Nat)
  [Value.slice d n (1 : Nat), Value.int IntKind.i64 a, Value.int IntKind.i64 b,
  Value.int IntKind.i64 (IntKind.wrap IntKind.i64 (IntKind.wrap IntKind.i64 (b - (1 : Int)) - IntKind.wrap IntKind.i64 (n10 - a)))]
  σ15 fun (v115 : Value) (σ116 : AS) ↦
  tTup v115 fun (l117 : List Value) ↦
  pSome l117[(0 : Nat)]? fun (u118 : Value) ↦
  tI IntKind.i64 u118 fun (n119 : Int) ↦
  tTup v115 fun (l120 : List Value) ↦
  pSome l120[(1 : Nat)]? fun (u121 : Value) ↦
  tB u121 fun (b122 : Bool) ↦
  bmatch (Decidable.decide (IntKind.wrap IntKind.i64 (n119 - a) < IntKind.wrap IntKind.i64 (b - n119)))
  (T (49 : Nat)
  [Value.slice d n (1 : Nat), Value.int IntKind.i64 a, Value.int IntKind.i64 n119,
  Value.int IntKind.i64 (IntKind.wrap IntKind.i64 (l - (1 : Int)))]
  σ116 fun (v123 : Value) (σ124 : AS) ↦
  X
  [((0 : Nat), Option.some (Value.slice d n (1 : Nat))),
  ((1 : Nat), Option.some (Value.int IntKind.i64 (IntKind.wrap IntKind.i64 (n119 + (1 : Int))))),
  ((2 : Nat), Option.some (Value.int IntKind.i64 b)),
  ((3 : Nat), Option.some (Value.int IntKind.i64 (IntKind.wrap IntKind.i64 (l - (1 : Int))))),
  ((8 : Nat),
  Option.some
  (Value.bool
  (Decidable.decide
  (IntKind.wrap IntKind.i64 (n119 - a) ≥ IntKind.wrap IntKind.i64 (Int.tdiv (IntKind.wrap IntKind.i64 (b - a)) (8 : Int)))))),
  ((9 : Nat), Option.some (Value.bool b122))]
  σ124)
  (T (49 : Nat)
  [Value.slice d n (1 : Nat), Value.int IntKind.i64 (IntKind.wrap IntKind.i64 (n119 + (1 : Int))), Value.int IntKind.i64 b,
  Value.int IntKind.i64 (IntKind.wrap IntKind.i64 (l - (1 : Int)))]
  σ116 fun (v125 : Value) (σ126 : AS) ↦
  X
  [((0 : Nat), Option.some (Value.slice d n (1 : Nat))), ((1 : Nat), Option.some (Value.int IntKind.i64 a)),
  ((2 : Nat), Option.some (Value.int IntKind.i64 n119)),
  ((3 : Nat), Option.some (Value.int IntKind.i64 (IntKind.wrap IntKind.i64 (l - (1 : Int))))),
  ((8 : Nat),
  Option.some
  (Value.bool
  (Decidable.decide
  (IntKind.wrap IntKind.i64 (b - n119) ≥ IntKind.wrap IntKind.i64 (Int.tdiv (IntKind.wrap IntKind.i64 (b - a)) (8 : Int)))))),
  ((9 : Nat), Option.some (Value.bool b122))]
  σ126))))
  (bmatch u
  (bmatch v
  (bmatch (n13 == (1 : Int))
  (T (56 : Nat) [Value.slice d n (1 : Nat), Value.int IntKind.i64 a, Value.int IntKind.i64 b] σ7 fun (v127 : Value) (σ128 : AS) ↦
  tB v127 fun (b129 : Bool) ↦
  bmatch b129 (K (Value.tuple (Array.mk [])) σ128)
  (bmatch (Decidable.decide (a > (0 : Int)))
  (req ((0 : Int) ≤ IntKind.wrap IntKind.i64 (a - (1 : Int)))
  (req (IntKind.wrap IntKind.i64 (a - (1 : Int)) < (↑n : Int))
  (pSome d fun (a130 : Addr) ↦
  ldc σ128 (Addr.add a130 (Int.toNat (IntKind.wrap IntKind.i64 (a - (1 : Int))) * szOf Proofs.Try.prog (22 : Nat))) fun (v131 : Value) ↦
  tI IntKind.u32 v131 fun (n132 : Int) ↦
  req ((0 : Int) ≤ n10)
  (req (n10 < (↑n : Int))
  (pSome d fun (a133 : Addr) ↦
  ldc σ128 (Addr.add a133 (Int.toNat n10 * szOf Proofs.Try.prog (22 : Nat))) fun (v134 : Value) ↦
  tI IntKind.u32 v134 fun (n135 : Int) ↦
  T (57 : Nat) [Value.int IntKind.u32 n132, Value.int IntKind.u32 n135] σ128 fun (v136 : Value) (σ137 : AS) ↦
  tB v136 fun (b138 : Bool) ↦
  bmatch (!b138)
  (T (58 : Nat) [Value.slice d n (1 : Nat), Value.int IntKind.i64 a, Value.int IntKind.i64 b, Value.int IntKind.i64 n10]
  σ137 fun (v139 : Value) (σ140 : AS) ↦
  tI IntKind.i64 v139 fun (n141 : Int) ↦
  X
  [((0 : Nat), Option.some (Value.slice d n (1 : Nat))), ((1 : Nat), Option.some (Value.int IntKind.i64 n141)),
  ((2 : Nat), Option.some (Value.int IntKind.i64 b)),
  ((3 : Nat), Option.some (Value.int IntKind.i64 (IntKind.wrap IntKind.i64 (l - (1 : Int))))),
  ((8 : Nat), Option.some (Value.bool u)), ((9 : Nat), Option.some (Value.bool v))]
  σ140)
  (T (59 : Nat) [Value.slice d n (1 : Nat), Value.int IntKind.i64 a, Value.int IntKind.i64 b, Value.int IntKind.i64 n10]
  σ137 fun (v142 : Value) (σ143 : AS) ↦
  tTup v142 fun (l144 : List Value) ↦
  pSome l144[(0 : Nat)]? fun (u145 : Value) ↦
  tI IntKind.i64 u145 fun (n146 : Int) ↦
  tTup v142 fun (l147 : List Value) ↦
  pSome l147[(1 : Nat)]? fun (u148 : Value) ↦
  tB u148 fun (b149 : Bool) ↦
  bmatch (Decidable.decide (IntKind.wrap IntKind.i64 (n146 - a) < IntKind.wrap IntKind.i64 (b - n146)))
  (T (49 : Nat)
  [Value.slice d n (1 : Nat), Value.int IntKind.i64 a, Value.int IntKind.i64 n146,
  Value.int IntKind.i64 (IntKind.wrap IntKind.i64 (l - (1 : Int)))]
  σ143 fun (v150 : Value) (σ151 : AS) ↦
  X
  [((0 : Nat), Option.some (Value.slice d n (1 : Nat))),
  ((1 : Nat), Option.some (Value.int IntKind.i64 (IntKind.wrap IntKind.i64 (n146 + (1 : Int))))),
  ((2 : Nat), Option.some (Value.int IntKind.i64 b)),
  ((3 : Nat), Option.some (Value.int IntKind.i64 (IntKind.wrap IntKind.i64 (l - (1 : Int))))),
  ((8 : Nat),
  Option.some
  (Value.bool
  (Decidable.decide
  (IntKind.wrap IntKind.i64 (n146 - a) ≥
  IntKind.wrap IntKind.i64 (Int.tdiv (IntKind.wrap IntKind.i64 (b - a)) (8 : Int)))))),
  ((9 : Nat), Option.some (Value.bool b149))]
  σ151)
  (T (49 : Nat)
  [Value.slice d n (1 : Nat), Value.int IntKind.i64 (IntKind.wrap IntKind.i64 (n146 + (1 : Int))),
  Value.int IntKind.i64 b, Value.int IntKind.i64 (IntKind.wrap IntKind.i64 (l - (1 : Int)))]
  σ143 fun (v152 : Value) (σ153 : AS) ↦
  X
  [((0 : Nat), Option.some (Value.slice d n (1 : Nat))), ((1 : Nat), Option.some (Value.int IntKind.i64 a)),
  ((2 : Nat), Option.some (Value.int IntKind.i64 n146)),
  ((3 : Nat), Option.some (Value.int IntKind.i64 (IntKind.wrap IntKind.i64 (l - (1 : Int))))),
  ((8 : Nat),
  Option.some
  (Value.bool
  (Decidable.decide
  (IntKind.wrap IntKind.i64 (b - n146) ≥
  IntKind.wrap IntKind.i64 (Int.tdiv (IntKind.wrap IntKind.i64 (b - a)) (8 : Int)))))),
  ((9 : Nat), Option.some (Value.bool b149))]
  σ153)))))))
  (T (59 : Nat) [Value.slice d n (1 : Nat), Value.int IntKind.i64 a, Value.int IntKind.i64 b, Value.int IntKind.i64 n10] σ128
  fun (v154 : Value) (σ155 : AS) ↦
  tTup v154 fun (l156 : List Value) ↦
  pSome l156[(0 : Nat)]? fun (u157 : Value) ↦
  tI IntKind.i64 u157 fun (n158 : Int) ↦
  tTup v154 fun (l159 : List Value) ↦
  pSome l159[(1 : Nat)]? fun (u160 : Value) ↦
  tB u160 fun (b161 : Bool) ↦
  bmatch (Decidable.decide (IntKind.wrap IntKind.i64 (n158 - a) < IntKind.wrap IntKind.i64 (b - n158)))
  (T (49 : Nat)
  [Value.slice d n (1 : Nat), Value.int IntKind.i64 a, Value.int IntKind.i64 n158,
  Value.int IntKind.i64 (IntKind.wrap IntKind.i64 (l - (1 : Int)))]
  σ155 fun (v162 : Value) (σ163 : AS) ↦
  X
  [((0 : Nat), Option.some (Value.slice d n (1 : Nat))),
  ((1 : Nat), Option.some (Value.int IntKind.i64 (IntKind.wrap IntKind.i64 (n158 + (1 : Int))))),
  ((2 : Nat), Option.some (Value.int IntKind.i64 b)),
  ((3 : Nat), Option.some (Value.int IntKind.i64 (IntKind.wrap IntKind.i64 (l - (1 : Int))))),
  ((8 : Nat),
  Option.some
  (Value.bool
  (Decidable.decide
  (IntKind.wrap IntKind.i64 (n158 - a) ≥ IntKind.wrap IntKind.i64 (Int.tdiv (IntKind.wrap IntKind.i64 (b - a)) (8 : Int)))))),
  ((9 : Nat), Option.some (Value.bool b161))]
  σ163)
  (T (49 : Nat)
  [Value.slice d n (1 : Nat), Value.int IntKind.i64 (IntKind.wrap IntKind.i64 (n158 + (1 : Int))), Value.int IntKind.i64 b,
  Value.int IntKind.i64 (IntKind.wrap IntKind.i64 (l - (1 : Int)))]
  σ155 fun (v164 : Value) (σ165 : AS) ↦
  X
  [((0 : Nat), Option.some (Value.slice d n (1 : Nat))), ((1 : Nat), Option.some (Value.int IntKind.i64 a)),
  ((2 : Nat), Option.some (Value.int IntKind.i64 n158)),
  ((3 : Nat), Option.some (Value.int IntKind.i64 (IntKind.wrap IntKind.i64 (l - (1 : Int))))),
  ((8 : Nat),
  Option.some
  (Value.bool
  (Decidable.decide
  (IntKind.wrap IntKind.i64 (b - n158) ≥ IntKind.wrap IntKind.i64 (Int.tdiv (IntKind.wrap IntKind.i64 (b - a)) (8 : Int)))))),
  ((9 : Nat), Option.some (Value.bool b161))]
  σ165))))
  (bmatch (Decidable.decide (a > (0 : Int)))
  (req ((0 : Int) ≤ IntKind.wrap IntKind.i64 (a - (1 : Int)))
  (req (IntKind.wrap IntKind.i64 (a - (1 : Int)) < (↑n : Int))
  (pSome d fun (a166 : Addr) ↦
  ldc σ7 (Addr.add a166 (Int.toNat (IntKind.wrap IntKind.i64 (a - (1 : Int))) * szOf Proofs.Try.prog (22 : Nat))) fun (v167 : Value) ↦
  tI IntKind.u32 v167 fun (n168 : Int) ↦
  req ((0 : Int) ≤ n10)
  (req (n10 < (↑n : Int))
  (pSome d fun (a169 : Addr) ↦
  ldc σ7 (Addr.add a169 (Int.toNat n10 * szOf Proofs.Try.prog (22 : Nat))) fun (v170 : Value) ↦
  tI IntKind.u32 v170 fun (n171 : Int) ↦
  T (57 : Nat) [Value.int IntKind.u32 n168, Value.int IntKind.u32 n171] σ7 fun (v172 : Value) (σ173 : AS) ↦
  tB v172 fun (b174 : Bool) ↦
  bmatch (!b174)
  (T (58 : Nat) [Value.slice d n (1 : Nat), Value.int IntKind.i64 a, Value.int IntKind.i64 b, Value.int IntKind.i64 n10] σ173
  fun (v175 : Value) (σ176 : AS) ↦
  tI IntKind.i64 v175 fun (n177 : Int) ↦
  X
  [((0 : Nat), Option.some (Value.slice d n (1 : Nat))), ((1 : Nat), Option.some (Value.int IntKind.i64 n177)),
  ((2 : Nat), Option.some (Value.int IntKind.i64 b)),
  ((3 : Nat), Option.some (Value.int IntKind.i64 (IntKind.wrap IntKind.i64 (l - (1 : Int))))),
  ((8 : Nat), Option.some (Value.bool u)), ((9 : Nat), Option.some (Value.bool v))]
  σ176)
  (T (59 : Nat) [Value.slice d n (1 : Nat), Value.int IntKind.i64 a, Value.int IntKind.i64 b, Value.int IntKind.i64 n10] σ173
  fun (v178 : Value) (σ179 : AS) ↦
  tTup v178 fun (l180 : List Value) ↦
  pSome l180[(0 : Nat)]? fun (u181 : Value) ↦
  tI IntKind.i64 u181 fun (n182 : Int) ↦
  tTup v178 fun (l183 : List Value) ↦
  pSome l183[(1 : Nat)]? fun (u184 : Value) ↦
  tB u184 fun (b185 : Bool) ↦
  bmatch (Decidable.decide (IntKind.wrap IntKind.i64 (n182 - a) < IntKind.wrap IntKind.i64 (b - n182)))
  (T (49 : Nat)
  [Value.slice d n (1 : Nat), Value.int IntKind.i64 a, Value.int IntKind.i64 n182,
  Value.int IntKind.i64 (IntKind.wrap IntKind.i64 (l - (1 : Int)))]
  σ179 fun (v186 : Value) (σ187 : AS) ↦
  X
  [((0 : Nat), Option.some (Value.slice d n (1 : Nat))),
  ((1 : Nat), Option.some (Value.int IntKind.i64 (IntKind.wrap IntKind.i64 (n182 + (1 : Int))))),
  ((2 : Nat), Option.some (Value.int IntKind.i64 b)),
  ((3 : Nat), Option.some (Value.int IntKind.i64 (IntKind.wrap IntKind.i64 (l - (1 : Int))))),
  ((8 : Nat),
  Option.some
  (Value.bool
  (Decidable.decide
  (IntKind.wrap IntKind.i64 (n182 - a) ≥
  IntKind.wrap IntKind.i64 (Int.tdiv (IntKind.wrap IntKind.i64 (b - a)) (8 : Int)))))),
  ((9 : Nat), Option.some (Value.bool b185))]
  σ187)
  (T (49 : Nat)
  [Value.slice d n (1 : Nat), Value.int IntKind.i64 (IntKind.wrap IntKind.i64 (n182 + (1 : Int))),
  Value.int IntKind.i64 b, Value.int IntKind.i64 (IntKind.wrap IntKind.i64 (l - (1 : Int)))]
  σ179 fun (v188 : Value) (σ189 : AS) ↦
  X
  [((0 : Nat), Option.some (Value.slice d n (1 : Nat))), ((1 : Nat), Option.some (Value.int IntKind.i64 a)),
  ((2 : Nat), Option.some (Value.int IntKind.i64 n182)),
  ((3 : Nat), Option.some (Value.int IntKind.i64 (IntKind.wrap IntKind.i64 (l - (1 : Int))))),
  ((8 : Nat),
  Option.some
  (Value.bool
  (Decidable.decide
  (IntKind.wrap IntKind.i64 (b - n182) ≥
  IntKind.wrap IntKind.i64 (Int.tdiv (IntKind.wrap IntKind.i64 (b - a)) (8 : Int)))))),
  ((9 : Nat), Option.some (Value.bool b185))]
  σ189)))))))
  (T (59 : Nat) [Value.slice d n (1 : Nat), Value.int IntKind.i64 a, Value.int IntKind.i64 b, Value.int IntKind.i64 n10] σ7
  fun (v190 : Value) (σ191 : AS) ↦
  tTup v190 fun (l192 : List Value) ↦
  pSome l192[(0 : Nat)]? fun (u193 : Value) ↦
  tI IntKind.i64 u193 fun (n194 : Int) ↦
  tTup v190 fun (l195 : List Value) ↦
  pSome l195[(1 : Nat)]? fun (u196 : Value) ↦
  tB u196 fun (b197 : Bool) ↦
  bmatch (Decidable.decide (IntKind.wrap IntKind.i64 (n194 - a) < IntKind.wrap IntKind.i64 (b - n194)))
  (T (49 : Nat)
  [Value.slice d n (1 : Nat), Value.int IntKind.i64 a, Value.int IntKind.i64 n194,
  Value.int IntKind.i64 (IntKind.wrap IntKind.i64 (l - (1 : Int)))]
  σ191 fun (v198 : Value) (σ199 : AS) ↦
  X
  [((0 : Nat), Option.some (Value.slice d n (1 : Nat))),
  ((1 : Nat), Option.some (Value.int IntKind.i64 (IntKind.wrap IntKind.i64 (n194 + (1 : Int))))),
  ((2 : Nat), Option.some (Value.int IntKind.i64 b)),
  ((3 : Nat), Option.some (Value.int IntKind.i64 (IntKind.wrap IntKind.i64 (l - (1 : Int))))),
  ((8 : Nat),
  Option.some
  (Value.bool
  (Decidable.decide
  (IntKind.wrap IntKind.i64 (n194 - a) ≥ IntKind.wrap IntKind.i64 (Int.tdiv (IntKind.wrap IntKind.i64 (b - a)) (8 : Int)))))),
  ((9 : Nat), Option.some (Value.bool b197))]
  σ199)
  (T (49 : Nat)
  [Value.slice d n (1 : Nat), Value.int IntKind.i64 (IntKind.wrap IntKind.i64 (n194 + (1 : Int))), Value.int IntKind.i64 b,
  Value.int IntKind.i64 (IntKind.wrap IntKind.i64 (l - (1 : Int)))]
  σ191 fun (v200 : Value) (σ201 : AS) ↦
  X
  [((0 : Nat), Option.some (Value.slice d n (1 : Nat))), ((1 : Nat), Option.some (Value.int IntKind.i64 a)),
  ((2 : Nat), Option.some (Value.int IntKind.i64 n194)),
  ((3 : Nat), Option.some (Value.int IntKind.i64 (IntKind.wrap IntKind.i64 (l - (1 : Int))))),
  ((8 : Nat),
  Option.some
  (Value.bool
  (Decidable.decide
  (IntKind.wrap IntKind.i64 (b - n194) ≥ IntKind.wrap IntKind.i64 (Int.tdiv (IntKind.wrap IntKind.i64 (b - a)) (8 : Int)))))),
  ((9 : Nat), Option.some (Value.bool b197))]
  σ201))))
  (bmatch (Decidable.decide (a > (0 : Int)))
  (req ((0 : Int) ≤ IntKind.wrap IntKind.i64 (a - (1 : Int)))
  (req (IntKind.wrap IntKind.i64 (a - (1 : Int)) < (↑n : Int))
  (pSome d fun (a202 : Addr) ↦
  ldc σ7 (Addr.add a202 (Int.toNat (IntKind.wrap IntKind.i64 (a - (1 : Int))) * szOf Proofs.Try.prog (22 : Nat))) fun (v203 : Value) ↦
  tI IntKind.u32 v203 fun (n204 : Int) ↦
  req ((0 : Int) ≤ n10)
  (req (n10 < (↑n : Int))
  (pSome d fun (a205 : Addr) ↦
  ldc σ7 (Addr.add a205 (Int.toNat n10 * szOf Proofs.Try.prog (22 : Nat))) fun (v206 : Value) ↦
  tI IntKind.u32 v206 fun (n207 : Int) ↦
  T (57 : Nat) [Value.int IntKind.u32 n204, Value.int IntKind.u32 n207] σ7 fun (v208 : Value) (σ209 : AS) ↦
  tB v208 fun (b210 : Bool) ↦
  bmatch (!b210)
  (T (58 : Nat) [Value.slice d n (1 : Nat), Value.int IntKind.i64 a, Value.int IntKind.i64 b, Value.int IntKind.i64 n10] σ209
  fun (v211 : Value) (σ212 : AS) ↦
  tI IntKind.i64 v211 fun (n213 : Int) ↦
  X
  [((0 : Nat), Option.some (Value.slice d n (1 : Nat))), ((1 : Nat), Option.some (Value.int IntKind.i64 n213)),
  ((2 : Nat), Option.some (Value.int IntKind.i64 b)),
  ((3 : Nat), Option.some (Value.int IntKind.i64 (IntKind.wrap IntKind.i64 (l - (1 : Int))))), ((8 : Nat), Option.some (Value.bool u)),
  ((9 : Nat), Option.some (Value.bool v))]
  σ212)
  (T (59 : Nat) [Value.slice d n (1 : Nat), Value.int IntKind.i64 a, Value.int IntKind.i64 b, Value.int IntKind.i64 n10] σ209
  fun (v214 : Value) (σ215 : AS) ↦
  tTup v214 fun (l216 : List Value) ↦
  pSome l216[(0 : Nat)]? fun (u217 : Value) ↦
  tI IntKind.i64 u217 fun (n218 : Int) ↦
  tTup v214 fun (l219 : List Value) ↦
  pSome l219[(1 : Nat)]? fun (u220 : Value) ↦
  tB u220 fun (b221 : Bool) ↦
  bmatch (Decidable.decide (IntKind.wrap IntKind.i64 (n218 - a) < IntKind.wrap IntKind.i64 (b - n218)))
  (T (49 : Nat)
  [Value.slice d n (1 : Nat), Value.int IntKind.i64 a, Value.int IntKind.i64 n218,
  Value.int IntKind.i64 (IntKind.wrap IntKind.i64 (l - (1 : Int)))]
  σ215 fun (v222 : Value) (σ223 : AS) ↦
  X
  [((0 : Nat), Option.some (Value.slice d n (1 : Nat))),
  ((1 : Nat), Option.some (Value.int IntKind.i64 (IntKind.wrap IntKind.i64 (n218 + (1 : Int))))),
  ((2 : Nat), Option.some (Value.int IntKind.i64 b)),
  ((3 : Nat), Option.some (Value.int IntKind.i64 (IntKind.wrap IntKind.i64 (l - (1 : Int))))),
  ((8 : Nat),
  Option.some
  (Value.bool
  (Decidable.decide
  (IntKind.wrap IntKind.i64 (n218 - a) ≥
  IntKind.wrap IntKind.i64 (Int.tdiv (IntKind.wrap IntKind.i64 (b - a)) (8 : Int)))))),
  ((9 : Nat), Option.some (Value.bool b221))]
  σ223)
  (T (49 : Nat)
  [Value.slice d n (1 : Nat), Value.int IntKind.i64 (IntKind.wrap IntKind.i64 (n218 + (1 : Int))),
  Value.int IntKind.i64 b, Value.int IntKind.i64 (IntKind.wrap IntKind.i64 (l - (1 : Int)))]
  σ215 fun (v224 : Value) (σ225 : AS) ↦
  X
  [((0 : Nat), Option.some (Value.slice d n (1 : Nat))), ((1 : Nat), Option.some (Value.int IntKind.i64 a)),
  ((2 : Nat), Option.some (Value.int IntKind.i64 n218)),
  ((3 : Nat), Option.some (Value.int IntKind.i64 (IntKind.wrap IntKind.i64 (l - (1 : Int))))),
  ((8 : Nat),
  Option.some
  (Value.bool
  (Decidable.decide
  (IntKind.wrap IntKind.i64 (b - n218) ≥
  IntKind.wrap IntKind.i64 (Int.tdiv (IntKind.wrap IntKind.i64 (b - a)) (8 : Int)))))),
  ((9 : Nat), Option.some (Value.bool b221))]
  σ225)))))))
  (T (59 : Nat) [Value.slice d n (1 : Nat), Value.int IntKind.i64 a, Value.int IntKind.i64 b, Value.int IntKind.i64 n10] σ7
  fun (v226 : Value) (σ227 : AS) ↦
  tTup v226 fun (l228 : List Value) ↦
  pSome l228[(0 : Nat)]? fun (u229 : Value) ↦
  tI IntKind.i64 u229 fun (n230 : Int) ↦
  tTup v226 fun (l231 : List Value) ↦
  pSome l231[(1 : Nat)]? fun (u232 : Value) ↦
  tB u232 fun (b233 : Bool) ↦
  bmatch (Decidable.decide (IntKind.wrap IntKind.i64 (n230 - a) < IntKind.wrap IntKind.i64 (b - n230)))
  (T (49 : Nat)
  [Value.slice d n (1 : Nat), Value.int IntKind.i64 a, Value.int IntKind.i64 n230,
  Value.int IntKind.i64 (IntKind.wrap IntKind.i64 (l - (1 : Int)))]
  σ227 fun (v234 : Value) (σ235 : AS) ↦
  X
  [((0 : Nat), Option.some (Value.slice d n (1 : Nat))),
  ((1 : Nat), Option.some (Value.int IntKind.i64 (IntKind.wrap IntKind.i64 (n230 + (1 : Int))))),
  ((2 : Nat), Option.some (Value.int IntKind.i64 b)),
  ((3 : Nat), Option.some (Value.int IntKind.i64 (IntKind.wrap IntKind.i64 (l - (1 : Int))))),
  ((8 : Nat),
  Option.some
  (Value.bool
  (Decidable.decide
  (IntKind.wrap IntKind.i64 (n230 - a) ≥ IntKind.wrap IntKind.i64 (Int.tdiv (IntKind.wrap IntKind.i64 (b - a)) (8 : Int)))))),
  ((9 : Nat), Option.some (Value.bool b233))]
  σ235)
  (T (49 : Nat)
  [Value.slice d n (1 : Nat), Value.int IntKind.i64 (IntKind.wrap IntKind.i64 (n230 + (1 : Int))), Value.int IntKind.i64 b,
  Value.int IntKind.i64 (IntKind.wrap IntKind.i64 (l - (1 : Int)))]
  σ227 fun (v236 : Value) (σ237 : AS) ↦
  X
  [((0 : Nat), Option.some (Value.slice d n (1 : Nat))), ((1 : Nat), Option.some (Value.int IntKind.i64 a)),
  ((2 : Nat), Option.some (Value.int IntKind.i64 n230)),
  ((3 : Nat), Option.some (Value.int IntKind.i64 (IntKind.wrap IntKind.i64 (l - (1 : Int))))),
  ((8 : Nat),
  Option.some
  (Value.bool
  (Decidable.decide
  (IntKind.wrap IntKind.i64 (b - n230) ≥ IntKind.wrap IntKind.i64 (Int.tdiv (IntKind.wrap IntKind.i64 (b - a)) (8 : Int)))))),
  ((9 : Nat), Option.some (Value.bool b233))]
  σ237))))
  (bmatch (Decidable.decide (a > (0 : Int)))
  (req ((0 : Int) ≤ IntKind.wrap IntKind.i64 (a - (1 : Int)))
  (req (IntKind.wrap IntKind.i64 (a - (1 : Int)) < (↑n : Int))
  (pSome d fun (a238 : Addr) ↦
  ldc σ7 (Addr.add a238 (Int.toNat (IntKind.wrap IntKind.i64 (a - (1 : Int))) * szOf Proofs.Try.prog (22 : Nat))) fun (v239 : Value) ↦
  tI IntKind.u32 v239 fun (n240 : Int) ↦
  req ((0 : Int) ≤ n10)
  (req (n10 < (↑n : Int))
  (pSome d fun (a241 : Addr) ↦
  ldc σ7 (Addr.add a241 (Int.toNat n10 * szOf Proofs.Try.prog (22 : Nat))) fun (v242 : Value) ↦
  tI IntKind.u32 v242 fun (n243 : Int) ↦
  T (57 : Nat) [Value.int IntKind.u32 n240, Value.int IntKind.u32 n243] σ7 fun (v244 : Value) (σ245 : AS) ↦
  tB v244 fun (b246 : Bool) ↦
  bmatch (!b246)
  (T (58 : Nat) [Value.slice d n (1 : Nat), Value.int IntKind.i64 a, Value.int IntKind.i64 b, Value.int IntKind.i64 n10] σ245
  fun (v247 : Value) (σ248 : AS) ↦
  tI IntKind.i64 v247 fun (n249 : Int) ↦
  X
  [((0 : Nat), Option.some (Value.slice d n (1 : Nat))), ((1 : Nat), Option.some (Value.int IntKind.i64 n249)),
  ((2 : Nat), Option.some (Value.int IntKind.i64 b)),
  ((3 : Nat), Option.some (Value.int IntKind.i64 (IntKind.wrap IntKind.i64 (l - (1 : Int))))), ((8 : Nat), Option.some (Value.bool u)),
  ((9 : Nat), Option.some (Value.bool v))]
  σ248)
  (T (59 : Nat) [Value.slice d n (1 : Nat), Value.int IntKind.i64 a, Value.int IntKind.i64 b, Value.int IntKind.i64 n10] σ245
  fun (v250 : Value) (σ251 : AS) ↦
  tTup v250 fun (l252 : List Value) ↦
  pSome l252[(0 : Nat)]? fun (u253 : Value) ↦
  tI IntKind.i64 u253 fun (n254 : Int) ↦
  tTup v250 fun (l255 : List Value) ↦
  pSome l255[(1 : Nat)]? fun (u256 : Value) ↦
  tB u256 fun (b257 : Bool) ↦
  bmatch (Decidable.decide (IntKind.wrap IntKind.i64 (n254 - a) < IntKind.wrap IntKind.i64 (b - n254)))
  (T (49 : Nat)
  [Value.slice d n (1 : Nat), Value.int IntKind.i64 a, Value.int IntKind.i64 n254,
  Value.int IntKind.i64 (IntKind.wrap IntKind.i64 (l - (1 : Int)))]
  σ251 fun (v258 : Value) (σ259 : AS) ↦
  X
  [((0 : Nat), Option.some (Value.slice d n (1 : Nat))),
  ((1 : Nat), Option.some (Value.int IntKind.i64 (IntKind.wrap IntKind.i64 (n254 + (1 : Int))))),
  ((2 : Nat), Option.some (Value.int IntKind.i64 b)),
  ((3 : Nat), Option.some (Value.int IntKind.i64 (IntKind.wrap IntKind.i64 (l - (1 : Int))))),
  ((8 : Nat),
  Option.some
  (Value.bool
  (Decidable.decide
  (IntKind.wrap IntKind.i64 (n254 - a) ≥
  IntKind.wrap IntKind.i64 (Int.tdiv (IntKind.wrap IntKind.i64 (b - a)) (8 : Int)))))),
  ((9 : Nat), Option.some (Value.bool b257))]
  σ259)
  (T (49 : Nat)
  [Value.slice d n (1 : Nat), Value.int IntKind.i64 (IntKind.wrap IntKind.i64 (n254 + (1 : Int))),
  Value.int IntKind.i64 b, Value.int IntKind.i64 (IntKind.wrap IntKind.i64 (l - (1 : Int)))]
  σ251 fun (v260 : Value) (σ261 : AS) ↦
  X
  [((0 : Nat), Option.some (Value.slice d n (1 : Nat))), ((1 : Nat), Option.some (Value.int IntKind.i64 a)),
  ((2 : Nat), Option.some (Value.int IntKind.i64 n254)),
  ((3 : Nat), Option.some (Value.int IntKind.i64 (IntKind.wrap IntKind.i64 (l - (1 : Int))))),
  ((8 : Nat),
  Option.some
  (Value.bool
  (Decidable.decide
  (IntKind.wrap IntKind.i64 (b - n254) ≥
  IntKind.wrap IntKind.i64 (Int.tdiv (IntKind.wrap IntKind.i64 (b - a)) (8 : Int)))))),
  ((9 : Nat), Option.some (Value.bool b257))]
  σ261)))))))
  (T (59 : Nat) [Value.slice d n (1 : Nat), Value.int IntKind.i64 a, Value.int IntKind.i64 b, Value.int IntKind.i64 n10] σ7
  fun (v262 : Value) (σ263 : AS) ↦
  tTup v262 fun (l264 : List Value) ↦
  pSome l264[(0 : Nat)]? fun (u265 : Value) ↦
  tI IntKind.i64 u265 fun (n266 : Int) ↦
  tTup v262 fun (l267 : List Value) ↦
  pSome l267[(1 : Nat)]? fun (u268 : Value) ↦
  tB u268 fun (b269 : Bool) ↦
  bmatch (Decidable.decide (IntKind.wrap IntKind.i64 (n266 - a) < IntKind.wrap IntKind.i64 (b - n266)))
  (T (49 : Nat)
  [Value.slice d n (1 : Nat), Value.int IntKind.i64 a, Value.int IntKind.i64 n266,
  Value.int IntKind.i64 (IntKind.wrap IntKind.i64 (l - (1 : Int)))]
  σ263 fun (v270 : Value) (σ271 : AS) ↦
  X
  [((0 : Nat), Option.some (Value.slice d n (1 : Nat))),
  ((1 : Nat), Option.some (Value.int IntKind.i64 (IntKind.wrap IntKind.i64 (n266 + (1 : Int))))),
  ((2 : Nat), Option.some (Value.int IntKind.i64 b)), ((3 : Nat), Option.some (Value.int IntKind.i64 (IntKind.wrap IntKind.i64 (l - (1 : Int))))),
  ((8 : Nat),
  Option.some
  (Value.bool
  (Decidable.decide
  (IntKind.wrap IntKind.i64 (n266 - a) ≥ IntKind.wrap IntKind.i64 (Int.tdiv (IntKind.wrap IntKind.i64 (b - a)) (8 : Int)))))),
  ((9 : Nat), Option.some (Value.bool b269))]
  σ271)
  (T (49 : Nat)
  [Value.slice d n (1 : Nat), Value.int IntKind.i64 (IntKind.wrap IntKind.i64 (n266 + (1 : Int))), Value.int IntKind.i64 b,
  Value.int IntKind.i64 (IntKind.wrap IntKind.i64 (l - (1 : Int)))]
  σ263 fun (v272 : Value) (σ273 : AS) ↦
  X
  [((0 : Nat), Option.some (Value.slice d n (1 : Nat))), ((1 : Nat), Option.some (Value.int IntKind.i64 a)),
  ((2 : Nat), Option.some (Value.int IntKind.i64 n266)),
  ((3 : Nat), Option.some (Value.int IntKind.i64 (IntKind.wrap IntKind.i64 (l - (1 : Int))))),
  ((8 : Nat),
  Option.some
  (Value.bool
  (Decidable.decide
  (IntKind.wrap IntKind.i64 (b - n266) ≥ IntKind.wrap IntKind.i64 (Int.tdiv (IntKind.wrap IntKind.i64 (b - a)) (8 : Int)))))),
  ((9 : Nat), Option.some (Value.bool b269))]
  σ273)))))
  (T (54 : Nat) [Value.slice d n (1 : Nat), Value.int IntKind.i64 a, Value.int IntKind.i64 b] σ fun (v274 : Value) (σ275 : AS) ↦
  tTup v274 fun (l276 : List Value) ↦
  pSome l276[(0 : Nat)]? fun (u277 : Value) ↦
  tI IntKind.i64 u277 fun (n278 : Int) ↦
  tTup v274 fun (l279 : List Value) ↦
  pSome l279[(1 : Nat)]? fun (u280 : Value) ↦
  tI IntKind.i64 u280 fun (n281 : Int) ↦
  bmatch (n281 == (2 : Int))
  (T (55 : Nat) [Value.slice d n (1 : Nat), Value.int IntKind.i64 a, Value.int IntKind.i64 b] σ275 fun (v282 : Value) (σ283 : AS) ↦
  bmatch u
  (bmatch v
  (T (56 : Nat) [Value.slice d n (1 : Nat), Value.int IntKind.i64 a, Value.int IntKind.i64 b] σ283 fun (v284 : Value) (σ285 : AS) ↦
  tB v284 fun (b286 : Bool) ↦
  bmatch b286 (K (Value.tuple (Array.mk [])) σ285)
  (bmatch (Decidable.decide (a > (0 : Int)))
  (req ((0 : Int) ≤ IntKind.wrap IntKind.i64 (a - (1 : Int)))
  (req (IntKind.wrap IntKind.i64 (a - (1 : Int)) < (↑n : Int))
  (pSome d fun (a287 : Addr) ↦
  ldc σ285 (Addr.add a287 (Int.toNat (IntKind.wrap IntKind.i64 (a - (1 : Int))) * szOf Proofs.Try.prog (22 : Nat))) fun (v288 : Value) ↦
  tI IntKind.u32 v288 fun (n289 : Int) ↦
  req ((0 : Int) ≤ IntKind.wrap IntKind.i64 (IntKind.wrap IntKind.i64 (b - (1 : Int)) - IntKind.wrap IntKind.i64 (n278 - a)))
  (req (IntKind.wrap IntKind.i64 (IntKind.wrap IntKind.i64 (b - (1 : Int)) - IntKind.wrap IntKind.i64 (n278 - a)) < (↑n : Int))
  (pSome d fun (a290 : Addr) ↦
  ldc σ285
  (Addr.add a290
  (Int.toNat (IntKind.wrap IntKind.i64 (IntKind.wrap IntKind.i64 (b - (1 : Int)) - IntKind.wrap IntKind.i64 (n278 - a))) *
  szOf Proofs.Try.prog (22 : Nat)))
  fun (v291 : Value) ↦
  tI IntKind.u32 v291 fun (n292 : Int) ↦
  T (57 : Nat) [Value.int IntKind.u32 n289, Value.int IntKind.u32 n292] σ285 fun (v293 : Value) (σ294 : AS) ↦
  tB v293 fun (b295 : Bool) ↦
  bmatch (!b295)
  (T (58 : Nat)
  [Value.slice d n (1 : Nat), Value.int IntKind.i64 a, Value.int IntKind.i64 b,
  Value.int IntKind.i64
  (IntKind.wrap IntKind.i64 (IntKind.wrap IntKind.i64 (b - (1 : Int)) - IntKind.wrap IntKind.i64 (n278 - a)))]
  σ294 fun (v296 : Value) (σ297 : AS) ↦
  tI IntKind.i64 v296 fun (n298 : Int) ↦
  X
  [((0 : Nat), Option.some (Value.slice d n (1 : Nat))), ((1 : Nat), Option.some (Value.int IntKind.i64 n298)),
  ((2 : Nat), Option.some (Value.int IntKind.i64 b)), ((3 : Nat), Option.some (Value.int IntKind.i64 l)),
  ((8 : Nat), Option.some (Value.bool u)), ((9 : Nat), Option.some (Value.bool v))]
  σ297)
  (T (59 : Nat)
  [Value.slice d n (1 : Nat), Value.int IntKind.i64 a, Value.int IntKind.i64 b,
  Value.int IntKind.i64
  (IntKind.wrap IntKind.i64 (IntKind.wrap IntKind.i64 (b - (1 : Int)) - IntKind.wrap IntKind.i64 (n278 - a)))]
  σ294 fun (v299 : Value) (σ300 : AS) ↦
  tTup v299 fun (l301 : List Value) ↦
  pSome l301[(0 : Nat)]? fun (u302 : Value) ↦
  tI IntKind.i64 u302 fun (n303 : Int) ↦
  tTup v299 fun (l304 : List Value) ↦
  pSome l304[(1 : Nat)]? fun (u305 : Value) ↦
  tB u305 fun (b306 : Bool) ↦
  bmatch (Decidable.decide (IntKind.wrap IntKind.i64 (n303 - a) < IntKind.wrap IntKind.i64 (b - n303)))
  (T (49 : Nat)
  [Value.slice d n (1 : Nat), Value.int IntKind.i64 a, Value.int IntKind.i64 n303, Value.int IntKind.i64 l]
  σ300 fun (v307 : Value) (σ308 : AS) ↦
  X
  [((0 : Nat), Option.some (Value.slice d n (1 : Nat))),
  ((1 : Nat), Option.some (Value.int IntKind.i64 (IntKind.wrap IntKind.i64 (n303 + (1 : Int))))),
  ((2 : Nat), Option.some (Value.int IntKind.i64 b)), ((3 : Nat), Option.some (Value.int IntKind.i64 l)),
  ((8 : Nat),
  Option.some
  (Value.bool
  (Decidable.decide
  (IntKind.wrap IntKind.i64 (n303 - a) ≥
  IntKind.wrap IntKind.i64 (Int.tdiv (IntKind.wrap IntKind.i64 (b - a)) (8 : Int)))))),
  ((9 : Nat), Option.some (Value.bool b306))]
  σ308)
  (T (49 : Nat)
  [Value.slice d n (1 : Nat), Value.int IntKind.i64 (IntKind.wrap IntKind.i64 (n303 + (1 : Int))),
  Value.int IntKind.i64 b, Value.int IntKind.i64 l]
  σ300 fun (v309 : Value) (σ310 : AS) ↦
  X
  [((0 : Nat), Option.some (Value.slice d n (1 : Nat))), ((1 : Nat), Option.some (Value.int IntKind.i64 a)),
  ((2 : Nat), Option.some (Value.int IntKind.i64 n303)), ((3 : Nat), Option.some (Value.int IntKind.i64 l)),
  ((8 : Nat),
  Option.some
  (Value.bool
  (Decidable.decide
  (IntKind.wrap IntKind.i64 (b - n303) ≥
  IntKind.wrap IntKind.i64 (Int.tdiv (IntKind.wrap IntKind.i64 (b - a)) (8 : Int)))))),
  ((9 : Nat), Option.some (Value.bool b306))]
  σ310)))))))
  (T (59 : Nat)
  [Value.slice d n (1 : Nat), Value.int IntKind.i64 a, Value.int IntKind.i64 b,
  Value.int IntKind.i64 (IntKind.wrap IntKind.i64 (IntKind.wrap IntKind.i64 (b - (1 : Int)) - IntKind.wrap IntKind.i64 (n278 - a)))]
  σ285 fun (v311 : Value) (σ312 : AS) ↦
  tTup v311 fun (l313 : List Value) ↦
  pSome l313[(0 : Nat)]? fun (u314 : Value) ↦
  tI IntKind.i64 u314 fun (n315 : Int) ↦
  tTup v311 fun (l316 : List Value) ↦
  pSome l316[(1 : Nat)]? fun (u317 : Value) ↦
  tB u317 fun (b318 : Bool) ↦
  bmatch (Decidable.decide (IntKind.wrap IntKind.i64 (n315 - a) < IntKind.wrap IntKind.i64 (b - n315)))
  (T (49 : Nat) [Value.slice d n (1 : Nat), Value.int IntKind.i64 a, Value.int IntKind.i64 n315, Value.int IntKind.i64 l] σ312
  fun (v319 : Value) (σ320 : AS) ↦
  X
  [((0 : Nat), Option.some (Value.slice d n (1 : Nat))),
  ((1 : Nat), Option.some (Value.int IntKind.i64 (IntKind.wrap IntKind.i64 (n315 + (1 : Int))))),
  ((2 : Nat), Option.some (Value.int IntKind.i64 b)), ((3 : Nat), Option.some (Value.int IntKind.i64 l)),
  ((8 : Nat),
  Option.some
  (Value.bool
  (Decidable.decide
  (IntKind.wrap IntKind.i64 (n315 - a) ≥ IntKind.wrap IntKind.i64 (Int.tdiv (IntKind.wrap IntKind.i64 (b - a)) (8 : Int)))))),
  ((9 : Nat), Option.some (Value.bool b318))]
  σ320)
  (T (49 : Nat)
  [Value.slice d n (1 : Nat), Value.int IntKind.i64 (IntKind.wrap IntKind.i64 (n315 + (1 : Int))), Value.int IntKind.i64 b,
  Value.int IntKind.i64 l]
  σ312 fun (v321 : Value) (σ322 : AS) ↦
  X
  [((0 : Nat), Option.some (Value.slice d n (1 : Nat))), ((1 : Nat), Option.some (Value.int IntKind.i64 a)),
  ((2 : Nat), Option.some (Value.int IntKind.i64 n315)), ((3 : Nat), Option.some (Value.int IntKind.i64 l)),
  ((8 : Nat),
  Option.some
  (Value.bool
  (Decidable.decide
  (IntKind.wrap IntKind.i64 (b - n315) ≥ IntKind.wrap IntKind.i64 (Int.tdiv (IntKind.wrap IntKind.i64 (b - a)) (8 : Int)))))),
  ((9 : Nat), Option.some (Value.bool b318))]
  σ322))))
  (bmatch (Decidable.decide (a > (0 : Int)))
  (req ((0 : Int) ≤ IntKind.wrap IntKind.i64 (a - (1 : Int)))
  (req (IntKind.wrap IntKind.i64 (a - (1 : Int)) < (↑n : Int))
  (pSome d fun (a323 : Addr) ↦
  ldc σ283 (Addr.add a323 (Int.toNat (IntKind.wrap IntKind.i64 (a - (1 : Int))) * szOf Proofs.Try.prog (22 : Nat))) fun (v324 : Value) ↦
  tI IntKind.u32 v324 fun (n325 : Int) ↦
  req ((0 : Int) ≤ IntKind.wrap IntKind.i64 (IntKind.wrap IntKind.i64 (b - (1 : Int)) - IntKind.wrap IntKind.i64 (n278 - a)))
  (req (IntKind.wrap IntKind.i64 (IntKind.wrap IntKind.i64 (b - (1 : Int)) - IntKind.wrap IntKind.i64 (n278 - a)) < (↑n : Int))
  (pSome d fun (a326 : Addr) ↦
  ldc σ283
  (Addr.add a326
  (Int.toNat (IntKind.wrap IntKind.i64 (IntKind.wrap IntKind.i64 (b - (1 : Int)) - IntKind.wrap IntKind.i64 (n278 - a))) *
  szOf Proofs.Try.prog (22 : Nat)))
  fun (v327 : Value) ↦
  tI IntKind.u32 v327 fun (n328 : Int) ↦
  T (57 : Nat) [Value.int IntKind.u32 n325, Value.int IntKind.u32 n328] σ283 fun (v329 : Value) (σ330 : AS) ↦
  tB v329 fun (b331 : Bool) ↦
  bmatch (!b331)
  (T (58 : Nat)
  [Value.slice d n (1 : Nat), Value.int IntKind.i64 a, Value.int IntKind.i64 b,
  Value.int IntKind.i64
  (IntKind.wrap IntKind.i64 (IntKind.wrap IntKind.i64 (b - (1 : Int)) - IntKind.wrap IntKind.i64 (n278 - a)))]
  σ330 fun (v332 : Value) (σ333 : AS) ↦
  tI IntKind.i64 v332 fun (n334 : Int) ↦
  X
  [((0 : Nat), Option.some (Value.slice d n (1 : Nat))), ((1 : Nat), Option.some (Value.int IntKind.i64 n334)),
  ((2 : Nat), Option.some (Value.int IntKind.i64 b)), ((3 : Nat), Option.some (Value.int IntKind.i64 l)),
  ((8 : Nat), Option.some (Value.bool u)), ((9 : Nat), Option.some (Value.bool v))]
  σ333)
  (T (59 : Nat)
  [Value.slice d n (1 : Nat), Value.int IntKind.i64 a, Value.int IntKind.i64 b,
  Value.int IntKind.i64
  (IntKind.wrap IntKind.i64 (IntKind.wrap IntKind.i64 (b - (1 : Int)) - IntKind.wrap IntKind.i64 (n278 - a)))]
  σ330 fun (v335 : Value) (σ336 : AS) ↦
  tTup v335 fun (l337 : List Value) ↦
  pSome l337[(0 : Nat)]? fun (u338 : Value) ↦
  tI IntKind.i64 u338 fun (n339 : Int) ↦
  tTup v335 fun (l340 : List Value) ↦
  pSome l340[(1 : Nat)]? fun (u341 : Value) ↦
  tB u341 fun (b342 : Bool) ↦
  bmatch (Decidable.decide (IntKind.wrap IntKind.i64 (n339 - a) < IntKind.wrap IntKind.i64 (b - n339)))
  (T (49 : Nat)
  [Value.slice d n (1 : Nat), Value.int IntKind.i64 a, Value.int IntKind.i64 n339, Value.int IntKind.i64 l] σ336
  fun (v343 : Value) (σ344 : AS) ↦
  X
  [((0 : Nat), Option.some (Value.slice d n (1 : Nat))),
  ((1 : Nat), Option.some (Value.int IntKind.i64 (IntKind.wrap IntKind.i64 (n339 + (1 : Int))))),
  ((2 : Nat), Option.some (Value.int IntKind.i64 b)), ((3 : Nat), Option.some (Value.int IntKind.i64 l)),
  ((8 : Nat),
  Option.some
  (Value.bool
  (Decidable.decide
  (IntKind.wrap IntKind.i64 (n339 - a) ≥
  IntKind.wrap IntKind.i64 (Int.tdiv (IntKind.wrap IntKind.i64 (b - a)) (8 : Int)))))),
  ((9 : Nat), Option.some (Value.bool b342))]
  σ344)
  (T (49 : Nat)
  [Value.slice d n (1 : Nat), Value.int IntKind.i64 (IntKind.wrap IntKind.i64 (n339 + (1 : Int))),
  Value.int IntKind.i64 b, Value.int IntKind.i64 l]
  σ336 fun (v345 : Value) (σ346 : AS) ↦
  X
  [((0 : Nat), Option.some (Value.slice d n (1 : Nat))), ((1 : Nat), Option.some (Value.int IntKind.i64 a)),
  ((2 : Nat), Option.some (Value.int IntKind.i64 n339)), ((3 : Nat), Option.some (Value.int IntKind.i64 l)),
  ((8 : Nat),
  Option.some
  (Value.bool
  (Decidable.decide
  (IntKind.wrap IntKind.i64 (b - n339) ≥
  IntKind.wrap IntKind.i64 (Int.tdiv (IntKind.wrap IntKind.i64 (b - a)) (8 : Int)))))),
  ((9 : Nat), Option.some (Value.bool b342))]
  σ346)))))))
  (T (59 : Nat)
  [Value.slice d n (1 : Nat), Value.int IntKind.i64 a, Value.int IntKind.i64 b,
  Value.int IntKind.i64 (IntKind.wrap IntKind.i64 (IntKind.wrap IntKind.i64 (b - (1 : Int)) - IntKind.wrap IntKind.i64 (n278 - a)))]
  σ283 fun (v347 : Value) (σ348 : AS) ↦
  tTup v347 fun (l349 : List Value) ↦
  pSome l349[(0 : Nat)]? fun (u350 : Value) ↦
  tI IntKind.i64 u350 fun (n351 : Int) ↦
  tTup v347 fun (l352 : List Value) ↦
  pSome l352[(1 : Nat)]? fun (u353 : Value) ↦
  tB u353 fun (b354 : Bool) ↦
  bmatch (Decidable.decide (IntKind.wrap IntKind.i64 (n351 - a) < IntKind.wrap IntKind.i64 (b - n351)))
  (T (49 : Nat) [Value.slice d n (1 : Nat), Value.int IntKind.i64 a, Value.int IntKind.i64 n351, Value.int IntKind.i64 l] σ348
  fun (v355 : Value) (σ356 : AS) ↦
  X
  [((0 : Nat), Option.some (Value.slice d n (1 : Nat))),
  ((1 : Nat), Option.some (Value.int IntKind.i64 (IntKind.wrap IntKind.i64 (n351 + (1 : Int))))),
  ((2 : Nat), Option.some (Value.int IntKind.i64 b)), ((3 : Nat), Option.some (Value.int IntKind.i64 l)),
  ((8 : Nat),
  Option.some
  (Value.bool
  (Decidable.decide
  (IntKind.wrap IntKind.i64 (n351 - a) ≥ IntKind.wrap IntKind.i64 (Int.tdiv (IntKind.wrap IntKind.i64 (b - a)) (8 : Int)))))),
  ((9 : Nat), Option.some (Value.bool b354))]
  σ356)
  (T (49 : Nat)
  [Value.slice d n (1 : Nat), Value.int IntKind.i64 (IntKind.wrap IntKind.i64 (n351 + (1 : Int))), Value.int IntKind.i64 b,
  Value.int IntKind.i64 l]
  σ348 fun (v357 : Value) (σ358 : AS) ↦
  X
  [((0 : Nat), Option.some (Value.slice d n (1 : Nat))), ((1 : Nat), Option.some (Value.int IntKind.i64 a)),
  ((2 : Nat), Option.some (Value.int IntKind.i64 n351)), ((3 : Nat), Option.some (Value.int IntKind.i64 l)),
  ((8 : Nat),
  Option.some
  (Value.bool
  (Decidable.decide
  (IntKind.wrap IntKind.i64 (b - n351) ≥ IntKind.wrap IntKind.i64 (Int.tdiv (IntKind.wrap IntKind.i64 (b - a)) (8 : Int)))))),
  ((9 : Nat), Option.some (Value.bool b354))]
  σ358))))
  (bmatch (Decidable.decide (a > (0 : Int)))
  (req ((0 : Int) ≤ IntKind.wrap IntKind.i64 (a - (1 : Int)))
  (req (IntKind.wrap IntKind.i64 (a - (1 : Int)) < (↑n : Int))
  (pSome d fun (a359 : Addr) ↦
  ldc σ283 (Addr.add a359 (Int.toNat (IntKind.wrap IntKind.i64 (a - (1 : Int))) * szOf Proofs.Try.prog (22 : Nat))) fun (v360 : Value) ↦
  tI IntKind.u32 v360 fun (n361 : Int) ↦
  req ((0 : Int) ≤ IntKind.wrap IntKind.i64 (IntKind.wrap IntKind.i64 (b - (1 : Int)) - IntKind.wrap IntKind.i64 (n278 - a)))
  (req (IntKind.wrap IntKind.i64 (IntKind.wrap IntKind.i64 (b - (1 : Int)) - IntKind.wrap IntKind.i64 (n278 - a)) < (↑n : Int))
  (pSome d fun (a362 : Addr) ↦
  ldc σ283
  (Addr.add a362
  (Int.toNat (IntKind.wrap IntKind.i64 (IntKind.wrap IntKind.i64 (b - (1 : Int)) - IntKind.wrap IntKind.i64 (n278 - a))) *
  szOf Proofs.Try.prog (22 : Nat)))
  fun (v363 : Value) ↦
  tI IntKind.u32 v363 fun (n364 : Int) ↦
  T (57 : Nat) [Value.int IntKind.u32 n361, Value.int IntKind.u32 n364] σ283 fun (v365 : Value) (σ366 : AS) ↦
  tB v365 fun (b367 : Bool) ↦
  bmatch (!b367)
  (T (58 : Nat)
  [Value.slice d n (1 : Nat), Value.int IntKind.i64 a, Value.int IntKind.i64 b,
  Value.int IntKind.i64 (IntKind.wrap IntKind.i64 (IntKind.wrap IntKind.i64 (b - (1 : Int)) - IntKind.wrap IntKind.i64 (n278 - a)))]
  σ366 fun (v368 : Value) (σ369 : AS) ↦
  tI IntKind.i64 v368 fun (n370 : Int) ↦
  X
  [((0 : Nat), Option.some (Value.slice d n (1 : Nat))), ((1 : Nat), Option.some (Value.int IntKind.i64 n370)),
  ((2 : Nat), Option.some (Value.int IntKind.i64 b)), ((3 : Nat), Option.some (Value.int IntKind.i64 l)),
  ((8 : Nat), Option.some (Value.bool u)), ((9 : Nat), Option.some (Value.bool v))]
  σ369)
  (T (59 : Nat)
  [Value.slice d n (1 : Nat), Value.int IntKind.i64 a, Value.int IntKind.i64 b,
  Value.int IntKind.i64 (IntKind.wrap IntKind.i64 (IntKind.wrap IntKind.i64 (b - (1 : Int)) - IntKind.wrap IntKind.i64 (n278 - a)))]
  σ366 fun (v371 : Value) (σ372 : AS) ↦
  tTup v371 fun (l373 : List Value) ↦
  pSome l373[(0 : Nat)]? fun (u374 : Value) ↦
  tI IntKind.i64 u374 fun (n375 : Int) ↦
  tTup v371 fun (l376 : List Value) ↦
  pSome l376[(1 : Nat)]? fun (u377 : Value) ↦
  tB u377 fun (b378 : Bool) ↦
  bmatch (Decidable.decide (IntKind.wrap IntKind.i64 (n375 - a) < IntKind.wrap IntKind.i64 (b - n375)))
  (T (49 : Nat)
  [Value.slice d n (1 : Nat), Value.int IntKind.i64 a, Value.int IntKind.i64 n375, Value.int IntKind.i64 l] σ372
  fun (v379 : Value) (σ380 : AS) ↦
  X
  [((0 : Nat), Option.some (Value.slice d n (1 : Nat))),
  ((1 : Nat), Option.some (Value.int IntKind.i64 (IntKind.wrap IntKind.i64 (n375 + (1 : Int))))),
  ((2 : Nat), Option.some (Value.int IntKind.i64 b)), ((3 : Nat), Option.some (Value.int IntKind.i64 l)),
  ((8 : Nat),
  Option.some
  (Value.bool
  (Decidable.decide
  (IntKind.wrap IntKind.i64 (n375 - a) ≥
  IntKind.wrap IntKind.i64 (Int.tdiv (IntKind.wrap IntKind.i64 (b - a)) (8 : Int)))))),
  ((9 : Nat), Option.some (Value.bool b378))]
  σ380)
  (T (49 : Nat)
  [Value.slice d n (1 : Nat), Value.int IntKind.i64 (IntKind.wrap IntKind.i64 (n375 + (1 : Int))),
  Value.int IntKind.i64 b, Value.int IntKind.i64 l]
  σ372 fun (v381 : Value) (σ382 : AS) ↦
  X
  [((0 : Nat), Option.some (Value.slice d n (1 : Nat))), ((1 : Nat), Option.some (Value.int IntKind.i64 a)),
  ((2 : Nat), Option.some (Value.int IntKind.i64 n375)), ((3 : Nat), Option.some (Value.int IntKind.i64 l)),
  ((8 : Nat),
  Option.some
  (Value.bool
  (Decidable.decide
  (IntKind.wrap IntKind.i64 (b - n375) ≥
  IntKind.wrap IntKind.i64 (Int.tdiv (IntKind.wrap IntKind.i64 (b - a)) (8 : Int)))))),
  ((9 : Nat), Option.some (Value.bool b378))]
  σ382)))))))
  (T (59 : Nat)
  [Value.slice d n (1 : Nat), Value.int IntKind.i64 a, Value.int IntKind.i64 b,
  Value.int IntKind.i64 (IntKind.wrap IntKind.i64 (IntKind.wrap IntKind.i64 (b - (1 : Int)) - IntKind.wrap IntKind.i64 (n278 - a)))]
  σ283 fun (v383 : Value) (σ384 : AS) ↦
  tTup v383 fun (l385 : List Value) ↦
  pSome l385[(0 : Nat)]? fun (u386 : Value) ↦
  tI IntKind.i64 u386 fun (n387 : Int) ↦
  tTup v383 fun (l388 : List Value) ↦
  pSome l388[(1 : Nat)]? fun (u389 : Value) ↦
  tB u389 fun (b390 : Bool) ↦
  bmatch (Decidable.decide (IntKind.wrap IntKind.i64 (n387 - a) < IntKind.wrap IntKind.i64 (b - n387)))
  (T (49 : Nat) [Value.slice d n (1 : Nat), Value.int IntKind.i64 a, Value.int IntKind.i64 n387, Value.int IntKind.i64 l] σ384
  fun (v391 : Value) (σ392 : AS) ↦
  X
  [((0 : Nat), Option.some (Value.slice d n (1 : Nat))),
  ((1 : Nat), Option.some (Value.int IntKind.i64 (IntKind.wrap IntKind.i64 (n387 + (1 : Int))))),
  ((2 : Nat), Option.some (Value.int IntKind.i64 b)), ((3 : Nat), Option.some (Value.int IntKind.i64 l)),
  ((8 : Nat),
  Option.some
  (Value.bool
  (Decidable.decide
  (IntKind.wrap IntKind.i64 (n387 - a) ≥ IntKind.wrap IntKind.i64 (Int.tdiv (IntKind.wrap IntKind.i64 (b - a)) (8 : Int)))))),
  ((9 : Nat), Option.some (Value.bool b390))]
  σ392)
  (T (49 : Nat)
  [Value.slice d n (1 : Nat), Value.int IntKind.i64 (IntKind.wrap IntKind.i64 (n387 + (1 : Int))), Value.int IntKind.i64 b,
  Value.int IntKind.i64 l]
  σ384 fun (v393 : Value) (σ394 : AS) ↦
  X
  [((0 : Nat), Option.some (Value.slice d n (1 : Nat))), ((1 : Nat), Option.some (Value.int IntKind.i64 a)),
  ((2 : Nat), Option.some (Value.int IntKind.i64 n387)), ((3 : Nat), Option.some (Value.int IntKind.i64 l)),
  ((8 : Nat),
  Option.some
  (Value.bool
  (Decidable.decide
  (IntKind.wrap IntKind.i64 (b - n387) ≥ IntKind.wrap IntKind.i64 (Int.tdiv (IntKind.wrap IntKind.i64 (b - a)) (8 : Int)))))),
  ((9 : Nat), Option.some (Value.bool b390))]
  σ394))))
  (bmatch u
  (bmatch v
  (bmatch (n281 == (1 : Int))
  (T (56 : Nat) [Value.slice d n (1 : Nat), Value.int IntKind.i64 a, Value.int IntKind.i64 b] σ275 fun (v395 : Value) (σ396 : AS) ↦
  tB v395 fun (b397 : Bool) ↦
  bmatch b397 (K (Value.tuple (Array.mk [])) σ396)
  (bmatch (Decidable.decide (a > (0 : Int)))
  (req ((0 : Int) ≤ IntKind.wrap IntKind.i64 (a - (1 : Int)))
  (req (IntKind.wrap IntKind.i64 (a - (1 : Int)) < (↑n : Int))
  (pSome d fun (a398 : Addr) ↦
  ldc σ396 (Addr.add a398 (Int.toNat (IntKind.wrap IntKind.i64 (a - (1 : Int))) * szOf Proofs.Try.prog (22 : Nat))) fun (v399 : Value) ↦
  tI IntKind.u32 v399 fun (n400 : Int) ↦
  req ((0 : Int) ≤ n278)
  (req (n278 < (↑n : Int))
  (pSome d fun (a401 : Addr) ↦
  ldc σ396 (Addr.add a401 (Int.toNat n278 * szOf Proofs.Try.prog (22 : Nat))) fun (v402 : Value) ↦
  tI IntKind.u32 v402 fun (n403 : Int) ↦
  T (57 : Nat) [Value.int IntKind.u32 n400, Value.int IntKind.u32 n403] σ396 fun (v404 : Value) (σ405 : AS) ↦
  tB v404 fun (b406 : Bool) ↦
  bmatch (!b406)
  (T (58 : Nat) [Value.slice d n (1 : Nat), Value.int IntKind.i64 a, Value.int IntKind.i64 b, Value.int IntKind.i64 n278]
  σ405 fun (v407 : Value) (σ408 : AS) ↦
  tI IntKind.i64 v407 fun (n409 : Int) ↦
  X
  [((0 : Nat), Option.some (Value.slice d n (1 : Nat))), ((1 : Nat), Option.some (Value.int IntKind.i64 n409)),
  ((2 : Nat), Option.some (Value.int IntKind.i64 b)), ((3 : Nat), Option.some (Value.int IntKind.i64 l)),
  ((8 : Nat), Option.some (Value.bool u)), ((9 : Nat), Option.some (Value.bool v))]
  σ408)
  (T (59 : Nat) [Value.slice d n (1 : Nat), Value.int IntKind.i64 a, Value.int IntKind.i64 b, Value.int IntKind.i64 n278]
  σ405 fun (v410 : Value) (σ411 : AS) ↦
  tTup v410 fun (l412 : List Value) ↦
  pSome l412[(0 : Nat)]? fun (u413 : Value) ↦
  tI IntKind.i64 u413 fun (n414 : Int) ↦
  tTup v410 fun (l415 : List Value) ↦
  pSome l415[(1 : Nat)]? fun (u416 : Value) ↦
  tB u416 fun (b417 : Bool) ↦
  bmatch (Decidable.decide (IntKind.wrap IntKind.i64 (n414 - a) < IntKind.wrap IntKind.i64 (b - n414)))
  (T (49 : Nat)
  [Value.slice d n (1 : Nat), Value.int IntKind.i64 a, Value.int IntKind.i64 n414, Value.int IntKind.i64 l]
  σ411 fun (v418 : Value) (σ419 : AS) ↦
  X
  [((0 : Nat), Option.some (Value.slice d n (1 : Nat))),
  ((1 : Nat), Option.some (Value.int IntKind.i64 (IntKind.wrap IntKind.i64 (n414 + (1 : Int))))),
  ((2 : Nat), Option.some (Value.int IntKind.i64 b)), ((3 : Nat), Option.some (Value.int IntKind.i64 l)),
  ((8 : Nat),
  Option.some
  (Value.bool
  (Decidable.decide
  (IntKind.wrap IntKind.i64 (n414 - a) ≥
  IntKind.wrap IntKind.i64 (Int.tdiv (IntKind.wrap IntKind.i64 (b - a)) (8 : Int)))))),
  ((9 : Nat), Option.some (Value.bool b417))]
  σ419)
  (T (49 : Nat)
  [Value.slice d n (1 : Nat), Value.int IntKind.i64 (IntKind.wrap IntKind.i64 (n414 + (1 : Int))),
  Value.int IntKind.i64 b, Value.int IntKind.i64 l]
  σ411 fun (v420 : Value) (σ421 : AS) ↦
  X
  [((0 : Nat), Option.some (Value.slice d n (1 : Nat))), ((1 : Nat), Option.some (Value.int IntKind.i64 a)),
  ((2 : Nat), Option.some (Value.int IntKind.i64 n414)), ((3 : Nat), Option.some (Value.int IntKind.i64 l)),
  ((8 : Nat),
  Option.some
  (Value.bool
  (Decidable.decide
  (IntKind.wrap IntKind.i64 (b - n414) ≥
  IntKind.wrap IntKind.i64 (Int.tdiv (IntKind.wrap IntKind.i64 (b - a)) (8 : Int)))))),
  ((9 : Nat), Option.some (Value.bool b417))]
  σ421)))))))
  (T (59 : Nat) [Value.slice d n (1 : Nat), Value.int IntKind.i64 a, Value.int IntKind.i64 b, Value.int IntKind.i64 n278] σ396
  fun (v422 : Value) (σ423 : AS) ↦
  tTup v422 fun (l424 : List Value) ↦
  pSome l424[(0 : Nat)]? fun (u425 : Value) ↦
  tI IntKind.i64 u425 fun (n426 : Int) ↦
  tTup v422 fun (l427 : List Value) ↦
  pSome l427[(1 : Nat)]? fun (u428 : Value) ↦
  tB u428 fun (b429 : Bool) ↦
  bmatch (Decidable.decide (IntKind.wrap IntKind.i64 (n426 - a) < IntKind.wrap IntKind.i64 (b - n426)))
  (T (49 : Nat) [Value.slice d n (1 : Nat), Value.int IntKind.i64 a, Value.int IntKind.i64 n426, Value.int IntKind.i64 l] σ423
  fun (v430 : Value) (σ431 : AS) ↦
  X
  [((0 : Nat), Option.some (Value.slice d n (1 : Nat))),
  ((1 : Nat), Option.some (Value.int IntKind.i64 (IntKind.wrap IntKind.i64 (n426 + (1 : Int))))),
  ((2 : Nat), Option.some (Value.int IntKind.i64 b)), ((3 : Nat), Option.some (Value.int IntKind.i64 l)),
  ((8 : Nat),
  Option.some
  (Value.bool
  (Decidable.decide
  (IntKind.wrap IntKind.i64 (n426 - a) ≥ IntKind.wrap IntKind.i64 (Int.tdiv (IntKind.wrap IntKind.i64 (b - a)) (8 : Int)))))),
  ((9 : Nat), Option.some (Value.bool b429))]
  σ431)
  (T (49 : Nat)
  [Value.slice d n (1 : Nat), Value.int IntKind.i64 (IntKind.wrap IntKind.i64 (n426 + (1 : Int))), Value.int IntKind.i64 b,
  Value.int IntKind.i64 l]
  σ423 fun (v432 : Value) (σ433 : AS) ↦
  X
  [((0 : Nat), Option.some (Value.slice d n (1 : Nat))), ((1 : Nat), Option.some (Value.int IntKind.i64 a)),
  ((2 : Nat), Option.some (Value.int IntKind.i64 n426)), ((3 : Nat), Option.some (Value.int IntKind.i64 l)),
  ((8 : Nat),
  Option.some
  (Value.bool
  (Decidable.decide
  (IntKind.wrap IntKind.i64 (b - n426) ≥ IntKind.wrap IntKind.i64 (Int.tdiv (IntKind.wrap IntKind.i64 (b - a)) (8 : Int)))))),
  ((9 : Nat), Option.some (Value.bool b429))]
  σ433))))
  (bmatch (Decidable.decide (a > (0 : Int)))
  (req ((0 : Int) ≤ IntKind.wrap IntKind.i64 (a - (1 : Int)))
  (req (IntKind.wrap IntKind.i64 (a - (1 : Int)) < (↑n : Int))
  (pSome d fun (a434 : Addr) ↦
  ldc σ275 (Addr.add a434 (Int.toNat (IntKind.wrap IntKind.i64 (a - (1 : Int))) * szOf Proofs.Try.prog (22 : Nat))) fun (v435 : Value) ↦
  tI IntKind.u32 v435 fun (n436 : Int) ↦
  req ((0 : Int) ≤ n278)
  (req (n278 < (↑n : Int))
  (pSome d fun (a437 : Addr) ↦
  ldc σ275 (Addr.add a437 (Int.toNat n278 * szOf Proofs.Try.prog (22 : Nat))) fun (v438 : Value) ↦
  tI IntKind.u32 v438 fun (n439 : Int) ↦
  T (57 : Nat) [Value.int IntKind.u32 n436, Value.int IntKind.u32 n439] σ275 fun (v440 : Value) (σ441 : AS) ↦
  tB v440 fun (b442 : Bool) ↦
  bmatch (!b442)
  (T (58 : Nat) [Value.slice d n (1 : Nat), Value.int IntKind.i64 a, Value.int IntKind.i64 b, Value.int IntKind.i64 n278] σ441
  fun (v443 : Value) (σ444 : AS) ↦
  tI IntKind.i64 v443 fun (n445 : Int) ↦
  X
  [((0 : Nat), Option.some (Value.slice d n (1 : Nat))), ((1 : Nat), Option.some (Value.int IntKind.i64 n445)),
  ((2 : Nat), Option.some (Value.int IntKind.i64 b)), ((3 : Nat), Option.some (Value.int IntKind.i64 l)),
  ((8 : Nat), Option.some (Value.bool u)), ((9 : Nat), Option.some (Value.bool v))]
  σ444)
  (T (59 : Nat) [Value.slice d n (1 : Nat), Value.int IntKind.i64 a, Value.int IntKind.i64 b, Value.int IntKind.i64 n278] σ441
  fun (v446 : Value) (σ447 : AS) ↦
  tTup v446 fun (l448 : List Value) ↦
  pSome l448[(0 : Nat)]? fun (u449 : Value) ↦
  tI IntKind.i64 u449 fun (n450 : Int) ↦
  tTup v446 fun (l451 : List Value) ↦
  pSome l451[(1 : Nat)]? fun (u452 : Value) ↦
  tB u452 fun (b453 : Bool) ↦
  bmatch (Decidable.decide (IntKind.wrap IntKind.i64 (n450 - a) < IntKind.wrap IntKind.i64 (b - n450)))
  (T (49 : Nat)
  [Value.slice d n (1 : Nat), Value.int IntKind.i64 a, Value.int IntKind.i64 n450, Value.int IntKind.i64 l] σ447
  fun (v454 : Value) (σ455 : AS) ↦
  X
  [((0 : Nat), Option.some (Value.slice d n (1 : Nat))),
  ((1 : Nat), Option.some (Value.int IntKind.i64 (IntKind.wrap IntKind.i64 (n450 + (1 : Int))))),
  ((2 : Nat), Option.some (Value.int IntKind.i64 b)), ((3 : Nat), Option.some (Value.int IntKind.i64 l)),
  ((8 : Nat),
  Option.some
  (Value.bool
  (Decidable.decide
  (IntKind.wrap IntKind.i64 (n450 - a) ≥
  IntKind.wrap IntKind.i64 (Int.tdiv (IntKind.wrap IntKind.i64 (b - a)) (8 : Int)))))),
  ((9 : Nat), Option.some (Value.bool b453))]
  σ455)
  (T (49 : Nat)
  [Value.slice d n (1 : Nat), Value.int IntKind.i64 (IntKind.wrap IntKind.i64 (n450 + (1 : Int))),
  Value.int IntKind.i64 b, Value.int IntKind.i64 l]
  σ447 fun (v456 : Value) (σ457 : AS) ↦
  X
  [((0 : Nat), Option.some (Value.slice d n (1 : Nat))), ((1 : Nat), Option.some (Value.int IntKind.i64 a)),
  ((2 : Nat), Option.some (Value.int IntKind.i64 n450)), ((3 : Nat), Option.some (Value.int IntKind.i64 l)),
  ((8 : Nat),
  Option.some
  (Value.bool
  (Decidable.decide
  (IntKind.wrap IntKind.i64 (b - n450) ≥
  IntKind.wrap IntKind.i64 (Int.tdiv (IntKind.wrap IntKind.i64 (b - a)) (8 : Int)))))),
  ((9 : Nat), Option.some (Value.bool b453))]
  σ457)))))))
  (T (59 : Nat) [Value.slice d n (1 : Nat), Value.int IntKind.i64 a, Value.int IntKind.i64 b, Value.int IntKind.i64 n278] σ275
  fun (v458 : Value) (σ459 : AS) ↦
  tTup v458 fun (l460 : List Value) ↦
  pSome l460[(0 : Nat)]? fun (u461 : Value) ↦
  tI IntKind.i64 u461 fun (n462 : Int) ↦
  tTup v458 fun (l463 : List Value) ↦
  pSome l463[(1 : Nat)]? fun (u464 : Value) ↦
  tB u464 fun (b465 : Bool) ↦
  bmatch (Decidable.decide (IntKind.wrap IntKind.i64 (n462 - a) < IntKind.wrap IntKind.i64 (b - n462)))
  (T (49 : Nat) [Value.slice d n (1 : Nat), Value.int IntKind.i64 a, Value.int IntKind.i64 n462, Value.int IntKind.i64 l] σ459
  fun (v466 : Value) (σ467 : AS) ↦
  X
  [((0 : Nat), Option.some (Value.slice d n (1 : Nat))),
  ((1 : Nat), Option.some (Value.int IntKind.i64 (IntKind.wrap IntKind.i64 (n462 + (1 : Int))))),
  ((2 : Nat), Option.some (Value.int IntKind.i64 b)), ((3 : Nat), Option.some (Value.int IntKind.i64 l)),
  ((8 : Nat),
  Option.some
  (Value.bool
  (Decidable.decide
  (IntKind.wrap IntKind.i64 (n462 - a) ≥ IntKind.wrap IntKind.i64 (Int.tdiv (IntKind.wrap IntKind.i64 (b - a)) (8 : Int)))))),
  ((9 : Nat), Option.some (Value.bool b465))]
  σ467)
  (T (49 : Nat)
  [Value.slice d n (1 : Nat), Value.int IntKind.i64 (IntKind.wrap IntKind.i64 (n462 + (1 : Int))), Value.int IntKind.i64 b,
  Value.int IntKind.i64 l]
  σ459 fun (v468 : Value) (σ469 : AS) ↦
  X
  [((0 : Nat), Option.some (Value.slice d n (1 : Nat))), ((1 : Nat), Option.some (Value.int IntKind.i64 a)),
  ((2 : Nat), Option.some (Value.int IntKind.i64 n462)), ((3 : Nat), Option.some (Value.int IntKind.i64 l)),
  ((8 : Nat),
  Option.some
  (Value.bool
  (Decidable.decide
  (IntKind.wrap IntKind.i64 (b - n462) ≥ IntKind.wrap IntKind.i64 (Int.tdiv (IntKind.wrap IntKind.i64 (b - a)) (8 : Int)))))),
  ((9 : Nat), Option.some (Value.bool b465))]
  σ469))))
  (bmatch (Decidable.decide (a > (0 : Int)))
  (req ((0 : Int) ≤ IntKind.wrap IntKind.i64 (a - (1 : Int)))
  (req (IntKind.wrap IntKind.i64 (a - (1 : Int)) < (↑n : Int))
  (pSome d fun (a470 : Addr) ↦
  ldc σ275 (Addr.add a470 (Int.toNat (IntKind.wrap IntKind.i64 (a - (1 : Int))) * szOf Proofs.Try.prog (22 : Nat))) fun (v471 : Value) ↦
  tI IntKind.u32 v471 fun (n472 : Int) ↦
  req ((0 : Int) ≤ n278)
  (req (n278 < (↑n : Int))
  (pSome d fun (a473 : Addr) ↦
  ldc σ275 (Addr.add a473 (Int.toNat n278 * szOf Proofs.Try.prog (22 : Nat))) fun (v474 : Value) ↦
  tI IntKind.u32 v474 fun (n475 : Int) ↦
  T (57 : Nat) [Value.int IntKind.u32 n472, Value.int IntKind.u32 n475] σ275 fun (v476 : Value) (σ477 : AS) ↦
  tB v476 fun (b478 : Bool) ↦
  bmatch (!b478)
  (T (58 : Nat) [Value.slice d n (1 : Nat), Value.int IntKind.i64 a, Value.int IntKind.i64 b, Value.int IntKind.i64 n278] σ477
  fun (v479 : Value) (σ480 : AS) ↦
  tI IntKind.i64 v479 fun (n481 : Int) ↦
  X
  [((0 : Nat), Option.some (Value.slice d n (1 : Nat))), ((1 : Nat), Option.some (Value.int IntKind.i64 n481)),
  ((2 : Nat), Option.some (Value.int IntKind.i64 b)), ((3 : Nat), Option.some (Value.int IntKind.i64 l)),
  ((8 : Nat), Option.some (Value.bool u)), ((9 : Nat), Option.some (Value.bool v))]
  σ480)
  (T (59 : Nat) [Value.slice d n (1 : Nat), Value.int IntKind.i64 a, Value.int IntKind.i64 b, Value.int IntKind.i64 n278] σ477
  fun (v482 : Value) (σ483 : AS) ↦
  tTup v482 fun (l484 : List Value) ↦
  pSome l484[(0 : Nat)]? fun (u485 : Value) ↦
  tI IntKind.i64 u485 fun (n486 : Int) ↦
  tTup v482 fun (l487 : List Value) ↦
  pSome l487[(1 : Nat)]? fun (u488 : Value) ↦
  tB u488 fun (b489 : Bool) ↦
  bmatch (Decidable.decide (IntKind.wrap IntKind.i64 (n486 - a) < IntKind.wrap IntKind.i64 (b - n486)))
  (T (49 : Nat)
  [Value.slice d n (1 : Nat), Value.int IntKind.i64 a, Value.int IntKind.i64 n486, Value.int IntKind.i64 l] σ483
  fun (v490 : Value) (σ491 : AS) ↦
  X
  [((0 : Nat), Option.some (Value.slice d n (1 : Nat))),
  ((1 : Nat), Option.some (Value.int IntKind.i64 (IntKind.wrap IntKind.i64 (n486 + (1 : Int))))),
  ((2 : Nat), Option.some (Value.int IntKind.i64 b)), ((3 : Nat), Option.some (Value.int IntKind.i64 l)),
  ((8 : Nat),
  Option.some
  (Value.bool
  (Decidable.decide
  (IntKind.wrap IntKind.i64 (n486 - a) ≥
  IntKind.wrap IntKind.i64 (Int.tdiv (IntKind.wrap IntKind.i64 (b - a)) (8 : Int)))))),
  ((9 : Nat), Option.some (Value.bool b489))]
  σ491)
  (T (49 : Nat)
  [Value.slice d n (1 : Nat), Value.int IntKind.i64 (IntKind.wrap IntKind.i64 (n486 + (1 : Int))),
  Value.int IntKind.i64 b, Value.int IntKind.i64 l]
  σ483 fun (v492 : Value) (σ493 : AS) ↦
  X
  [((0 : Nat), Option.some (Value.slice d n (1 : Nat))), ((1 : Nat), Option.some (Value.int IntKind.i64 a)),
  ((2 : Nat), Option.some (Value.int IntKind.i64 n486)), ((3 : Nat), Option.some (Value.int IntKind.i64 l)),
  ((8 : Nat),
  Option.some
  (Value.bool
  (Decidable.decide
  (IntKind.wrap IntKind.i64 (b - n486) ≥
  IntKind.wrap IntKind.i64 (Int.tdiv (IntKind.wrap IntKind.i64 (b - a)) (8 : Int)))))),
  ((9 : Nat), Option.some (Value.bool b489))]
  σ493)))))))
  (T (59 : Nat) [Value.slice d n (1 : Nat), Value.int IntKind.i64 a, Value.int IntKind.i64 b, Value.int IntKind.i64 n278] σ275
  fun (v494 : Value) (σ495 : AS) ↦
  tTup v494 fun (l496 : List Value) ↦
  pSome l496[(0 : Nat)]? fun (u497 : Value) ↦
  tI IntKind.i64 u497 fun (n498 : Int) ↦
  tTup v494 fun (l499 : List Value) ↦
  pSome l499[(1 : Nat)]? fun (u500 : Value) ↦
  tB u500 fun (b501 : Bool) ↦
  bmatch (Decidable.decide (IntKind.wrap IntKind.i64 (n498 - a) < IntKind.wrap IntKind.i64 (b - n498)))
  (T (49 : Nat) [Value.slice d n (1 : Nat), Value.int IntKind.i64 a, Value.int IntKind.i64 n498, Value.int IntKind.i64 l] σ495
  fun (v502 : Value) (σ503 : AS) ↦
  X
  [((0 : Nat), Option.some (Value.slice d n (1 : Nat))),
  ((1 : Nat), Option.some (Value.int IntKind.i64 (IntKind.wrap IntKind.i64 (n498 + (1 : Int))))),
  ((2 : Nat), Option.some (Value.int IntKind.i64 b)), ((3 : Nat), Option.some (Value.int IntKind.i64 l)),
  ((8 : Nat),
  Option.some
  (Value.bool
  (Decidable.decide
  (IntKind.wrap IntKind.i64 (n498 - a) ≥ IntKind.wrap IntKind.i64 (Int.tdiv (IntKind.wrap IntKind.i64 (b - a)) (8 : Int)))))),
  ((9 : Nat), Option.some (Value.bool b501))]
  σ503)
  (T (49 : Nat)
  [Value.slice d n (1 : Nat), Value.int IntKind.i64 (IntKind.wrap IntKind.i64 (n498 + (1 : Int))), Value.int IntKind.i64 b,
  Value.int IntKind.i64 l]
  σ495 fun (v504 : Value) (σ505 : AS) ↦
  X
  [((0 : Nat), Option.some (Value.slice d n (1 : Nat))), ((1 : Nat), Option.some (Value.int IntKind.i64 a)),
  ((2 : Nat), Option.some (Value.int IntKind.i64 n498)), ((3 : Nat), Option.some (Value.int IntKind.i64 l)),
  ((8 : Nat),
  Option.some
  (Value.bool
  (Decidable.decide
  (IntKind.wrap IntKind.i64 (b - n498) ≥ IntKind.wrap IntKind.i64 (Int.tdiv (IntKind.wrap IntKind.i64 (b - a)) (8 : Int)))))),
  ((9 : Nat), Option.some (Value.bool b501))]
  σ505))))
  (bmatch (Decidable.decide (a > (0 : Int)))
  (req ((0 : Int) ≤ IntKind.wrap IntKind.i64 (a - (1 : Int)))
  (req (IntKind.wrap IntKind.i64 (a - (1 : Int)) < (↑n : Int))
  (pSome d fun (a506 : Addr) ↦
  ldc σ275 (Addr.add a506 (Int.toNat (IntKind.wrap IntKind.i64 (a - (1 : Int))) * szOf Proofs.Try.prog (22 : Nat))) fun (v507 : Value) ↦
  tI IntKind.u32 v507 fun (n508 : Int) ↦
  req ((0 : Int) ≤ n278)
  (req (n278 < (↑n : Int))
  (pSome d fun (a509 : Addr) ↦
  ldc σ275 (Addr.add a509 (Int.toNat n278 * szOf Proofs.Try.prog (22 : Nat))) fun (v510 : Value) ↦
  tI IntKind.u32 v510 fun (n511 : Int) ↦
  T (57 : Nat) [Value.int IntKind.u32 n508, Value.int IntKind.u32 n511] σ275 fun (v512 : Value) (σ513 : AS) ↦
  tB v512 fun (b514 : Bool) ↦
  bmatch (!b514)
  (T (58 : Nat) [Value.slice d n (1 : Nat), Value.int IntKind.i64 a, Value.int IntKind.i64 b, Value.int IntKind.i64 n278] σ513
  fun (v515 : Value) (σ516 : AS) ↦
  tI IntKind.i64 v515 fun (n517 : Int) ↦
  X
  [((0 : Nat), Option.some (Value.slice d n (1 : Nat))), ((1 : Nat), Option.some (Value.int IntKind.i64 n517)),
  ((2 : Nat), Option.some (Value.int IntKind.i64 b)), ((3 : Nat), Option.some (Value.int IntKind.i64 l)),
  ((8 : Nat), Option.some (Value.bool u)), ((9 : Nat), Option.some (Value.bool v))]
  σ516)
  (T (59 : Nat) [Value.slice d n (1 : Nat), Value.int IntKind.i64 a, Value.int IntKind.i64 b, Value.int IntKind.i64 n278] σ513
  fun (v518 : Value) (σ519 : AS) ↦
  tTup v518 fun (l520 : List Value) ↦
  pSome l520[(0 : Nat)]? fun (u521 : Value) ↦
  tI IntKind.i64 u521 fun (n522 : Int) ↦
  tTup v518 fun (l523 : List Value) ↦
  pSome l523[(1 : Nat)]? fun (u524 : Value) ↦
  tB u524 fun (b525 : Bool) ↦
  bmatch (Decidable.decide (IntKind.wrap IntKind.i64 (n522 - a) < IntKind.wrap IntKind.i64 (b - n522)))
  (T (49 : Nat)
  [Value.slice d n (1 : Nat), Value.int IntKind.i64 a, Value.int IntKind.i64 n522, Value.int IntKind.i64 l] σ519
  fun (v526 : Value) (σ527 : AS) ↦
  X
  [((0 : Nat), Option.some (Value.slice d n (1 : Nat))),
  ((1 : Nat), Option.some (Value.int IntKind.i64 (IntKind.wrap IntKind.i64 (n522 + (1 : Int))))),
  ((2 : Nat), Option.some (Value.int IntKind.i64 b)), ((3 : Nat), Option.some (Value.int IntKind.i64 l)),
  ((8 : Nat),
  Option.some
  (Value.bool
  (Decidable.decide
  (IntKind.wrap IntKind.i64 (n522 - a) ≥
  IntKind.wrap IntKind.i64 (Int.tdiv (IntKind.wrap IntKind.i64 (b - a)) (8 : Int)))))),
  ((9 : Nat), Option.some (Value.bool b525))]
  σ527)
  (T (49 : Nat)
  [Value.slice d n (1 : Nat), Value.int IntKind.i64 (IntKind.wrap IntKind.i64 (n522 + (1 : Int))),
  Value.int IntKind.i64 b, Value.int IntKind.i64 l]
  σ519 fun (v528 : Value) (σ529 : AS) ↦
  X
  [((0 : Nat), Option.some (Value.slice d n (1 : Nat))), ((1 : Nat), Option.some (Value.int IntKind.i64 a)),
  ((2 : Nat), Option.some (Value.int IntKind.i64 n522)), ((3 : Nat), Option.some (Value.int IntKind.i64 l)),
  ((8 : Nat),
  Option.some
  (Value.bool
  (Decidable.decide
  (IntKind.wrap IntKind.i64 (b - n522) ≥
  IntKind.wrap IntKind.i64 (Int.tdiv (IntKind.wrap IntKind.i64 (b - a)) (8 : Int)))))),
  ((9 : Nat), Option.some (Value.bool b525))]
  σ529)))))))
  (T (59 : Nat) [Value.slice d n (1 : Nat), Value.int IntKind.i64 a, Value.int IntKind.i64 b, Value.int IntKind.i64 n278] σ275
  fun (v530 : Value) (σ531 : AS) ↦
  tTup v530 fun (l532 : List Value) ↦
  pSome l532[(0 : Nat)]? fun (u533 : Value) ↦
  tI IntKind.i64 u533 fun (n534 : Int) ↦
  tTup v530 fun (l535 : List Value) ↦
  pSome l535[(1 : Nat)]? fun (u536 : Value) ↦
  tB u536 fun (b537 : Bool) ↦
  bmatch (Decidable.decide (IntKind.wrap IntKind.i64 (n534 - a) < IntKind.wrap IntKind.i64 (b - n534)))
  (T (49 : Nat) [Value.slice d n (1 : Nat), Value.int IntKind.i64 a, Value.int IntKind.i64 n534, Value.int IntKind.i64 l] σ531
  fun (v538 : Value) (σ539 : AS) ↦
  X
  [((0 : Nat), Option.some (Value.slice d n (1 : Nat))), ((1 : Nat), Option.some (Value.int IntKind.i64 (IntKind.wrap IntKind.i64 (n534 + (1 : Int))))),
  ((2 : Nat), Option.some (Value.int IntKind.i64 b)), ((3 : Nat), Option.some (Value.int IntKind.i64 l)),
  ((8 : Nat),
  Option.some
  (Value.bool
  (Decidable.decide
  (IntKind.wrap IntKind.i64 (n534 - a) ≥ IntKind.wrap IntKind.i64 (Int.tdiv (IntKind.wrap IntKind.i64 (b - a)) (8 : Int)))))),
  ((9 : Nat), Option.some (Value.bool b537))]
  σ539)
  (T (49 : Nat)
  [Value.slice d n (1 : Nat), Value.int IntKind.i64 (IntKind.wrap IntKind.i64 (n534 + (1 : Int))), Value.int IntKind.i64 b,
  Value.int IntKind.i64 l]
  σ531 fun (v540 : Value) (σ541 : AS) ↦
  X
  [((0 : Nat), Option.some (Value.slice d n (1 : Nat))), ((1 : Nat), Option.some (Value.int IntKind.i64 a)),
  ((2 : Nat), Option.some (Value.int IntKind.i64 n534)), ((3 : Nat), Option.some (Value.int IntKind.i64 l)),
  ((8 : Nat),
  Option.some
  (Value.bool
  (Decidable.decide
  (IntKind.wrap IntKind.i64 (b - n534) ≥ IntKind.wrap IntKind.i64 (Int.tdiv (IntKind.wrap IntKind.i64 (b - a)) (8 : Int)))))),
  ((9 : Nat), Option.some (Value.bool b537))]
  σ541))))))) := by
  intros
  kernel_rfl

end Go.AI
