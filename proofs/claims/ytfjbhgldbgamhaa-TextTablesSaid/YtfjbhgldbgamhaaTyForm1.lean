/- Lemmas of the abstract condition ahead of code (a part of the library that the claim's proof stands on); they hold with no condition but those that each names. -/
import Derived.Test.YtfjbhgldbgamhaaTySoft
import Derived.Test.YtfjbhgldbgamhaaAISep
section
/- The conditions ahead of the calls of the program's functions, reckoned as far as they go (equations that the kernel checks); no condition. -/
set_option maxRecDepth 1000000
set_option linter.unusedVariables false
namespace Go.AI
open Go.Proofs
theorem s41 : ∀ (T : Ct) (n : Int) (σ : AS) (K : Value → AS → Prop),
  fw Proofs.Try.prog hintsS T (41 : Nat) [Value.int IntKind.i64 n] σ K =
  bmatch (n == (1 : Int)) (K (Value.bool Bool.true) σ) (bmatch (n == (2 : Int)) (K (Value.bool Bool.true) σ) (K (Value.bool (n == (4 : Int))) σ)) := by
  intros
  kernel_rfl

theorem s42 : ∀ (T : Ct) (a : Option Addr) (m : Nat) (at__1 n : Int) (σ : AS) (K : Value → AS → Prop),
  fw Proofs.Try.prog hintsS T (42 : Nat) [Value.slice a m (1 : Nat), Value.int IntKind.i64 at__1, Value.int IntKind.i64 n] σ K =
  T (41 : Nat) [Value.int IntKind.i64 n] σ fun (v0 : Value) (σ1 : AS) ↦
  tB v0 fun (b2 : Bool) ↦
  bmatch (!b2) (K (Value.tuple (Array.mk [Value.int IntKind.u32 (0 : Int), Value.int IntKind.i64 (1 : Int)])) σ1)
  (bmatch (Decidable.decide (at__1 < (0 : Int))) (K (Value.tuple (Array.mk [Value.int IntKind.u32 (0 : Int), Value.int IntKind.i64 (1 : Int)])) σ1)
  (bmatch (Decidable.decide (at__1 > (↑m : Int))) (K (Value.tuple (Array.mk [Value.int IntKind.u32 (0 : Int), Value.int IntKind.i64 (2 : Int)])) σ1)
  (bmatch (Decidable.decide (IntKind.wrap IntKind.i64 ((↑m : Int) - at__1) < n))
  (K (Value.tuple (Array.mk [Value.int IntKind.u32 (0 : Int), Value.int IntKind.i64 (2 : Int)])) σ1)
  (req ((0 : Int) ≤ at__1)
  (req (at__1 ≤ IntKind.wrap IntKind.i64 (at__1 + n))
  (req (IntKind.wrap IntKind.i64 (at__1 + n) ≤ (↑m : Int))
  (ALoop (fl Proofs.Try.prog hintsS T (42 : Nat) [Bool.true, Bool.true, Bool.true, Bool.false, Bool.true, Bool.false] [] K)
  [((8 : Nat), Option.some (Value.int IntKind.u32 (0 : Int))),
  ((37 : Nat),
  Option.some
  (Value.slice (Option.map (fun (x : Addr) ↦ Addr.add x (Int.toNat at__1 * szOf Proofs.Try.prog (5 : Nat))) a)
  (Int.toNat (IntKind.wrap IntKind.i64 (at__1 + n) - at__1)) (1 : Nat))),
  ((38 : Nat), Option.some (Value.int IntKind.i64 (↑(Int.toNat (IntKind.wrap IntKind.i64 (at__1 + n) - at__1)) : Int))),
  ((39 : Nat), Option.some (Value.int IntKind.i64 (0 : Int)))]
  σ1))))))) := by
  intros
  kernel_rfl

theorem s42l : ∀ (T : Ct) (x : Int) (a : Option Addr) (m : Nat) (len i : Int) (X : Regs → AS → Prop) (σ : AS) (K : Value → AS → Prop),
  fl Proofs.Try.prog hintsS T (42 : Nat) [Bool.true, Bool.true, Bool.true, Bool.false, Bool.true, Bool.false] [] K X
  [((8 : Nat), Option.some (Value.int IntKind.u32 x)), ((37 : Nat), Option.some (Value.slice a m (1 : Nat))), ((38 : Nat), Option.some (Value.int IntKind.i64 len)),
  ((39 : Nat), Option.some (Value.int IntKind.i64 i))]
  σ =
  bmatch (Decidable.decide (i < len))
  (req ((0 : Int) ≤ i)
  (req (i < (↑m : Int))
  (pSome a fun (a0 : Addr) ↦
  ldc σ (Addr.add a0 (Int.toNat i * szOf Proofs.Try.prog (5 : Nat))) fun (v1 : Value) ↦
  tI IntKind.u8 v1 fun (n2 : Int) ↦
  X
  [((8 : Nat), Option.some (Value.int IntKind.u32 (ior IntKind.u32 (ishl IntKind.u32 x (8 : Int)) (IntKind.wrap IntKind.u32 n2)))),
  ((37 : Nat), Option.some (Value.slice a m (1 : Nat))), ((38 : Nat), Option.some (Value.int IntKind.i64 len)),
  ((39 : Nat), Option.some (Value.int IntKind.i64 (IntKind.wrap IntKind.i64 (i + (1 : Int)))))]
  σ)))
  (K (Value.tuple (Array.mk [Value.int IntKind.u32 x, Value.int IntKind.i64 (0 : Int)])) σ) := by
  intros
  kernel_rfl

theorem s33 : ∀ (T : Ct) (a : Option Addr) (m : Nat) (x n : Int) (σ : AS) (K : Value → AS → Prop),
  fw Proofs.Try.prog hintsS T (33 : Nat) [Value.slice a m (1 : Nat), Value.int IntKind.u32 x, Value.int IntKind.i64 n] σ K =
  T (42 : Nat) [Value.slice a m (1 : Nat), Value.int IntKind.i64 (IntKind.wrap IntKind.i64 x), Value.int IntKind.i64 n] σ fun (v0 : Value) (σ1 : AS) ↦
  tTup v0 fun (l2 : List Value) ↦
  pSome l2[(0 : Nat)]? fun (u3 : Value) ↦
  tI IntKind.u32 u3 fun (n4 : Int) ↦
  tTup v0 fun (l5 : List Value) ↦
  pSome l5[(1 : Nat)]? fun (u6 : Value) ↦
  tI IntKind.i64 u6 fun (n7 : Int) ↦
  bmatch (n7 != (0 : Int)) (K (Value.tuple (Array.mk [Value.int IntKind.u32 (0 : Int), Value.int IntKind.i64 (90 : Int)])) σ1)
  (K (Value.tuple (Array.mk [Value.int IntKind.u32 n4, Value.int IntKind.i64 (0 : Int)])) σ1) := by
  intros
  kernel_rfl

theorem s20 : ∀ (T : Ct) (a : Option Addr) (m : Nat) (x : Int) (σ : AS) (K : Value → AS → Prop),
  fw Proofs.Try.prog hintsS T (20 : Nat) [Value.slice a m (1 : Nat), Value.int IntKind.u32 x] σ K =
  newAt σ (AObj.row RK.plain [Value.int IntKind.i64 (0 : Int), Value.int IntKind.u32 (0 : Int), Value.int IntKind.u32 (0 : Int)]) fun (i0 : Nat) (σ1 : AS) ↦
  T (33 : Nat) [Value.slice a m (1 : Nat), Value.int IntKind.u32 x, Value.int IntKind.i64 (1 : Int)] σ1 fun (v2 : Value) (σ3 : AS) ↦
  tTup v2 fun (l4 : List Value) ↦
  pSome l4[(0 : Nat)]? fun (u5 : Value) ↦
  tI IntKind.u32 u5 fun (n6 : Int) ↦
  tTup v2 fun (l7 : List Value) ↦
  pSome l7[(1 : Nat)]? fun (u8 : Value) ↦
  tI IntKind.i64 u8 fun (n9 : Int) ↦
  bmatch (n9 != (0 : Int))
  (puts σ3 (Addr.mk i0 (0 : Nat) Option.none) [Value.int IntKind.i64 (0 : Int), Value.int IntKind.u32 (0 : Int), Value.int IntKind.u32 (0 : Int)] fun (σ10 : AS) ↦
  lds σ10 (Addr.mk i0 (0 : Nat) Option.none) (3 : Nat) fun (l11 : List Value) ↦
  tCons l11 fun (v12 : Value) (l13 : List Value) ↦
  tI IntKind.i64 v12 fun (n14 : Int) ↦
  tCons l13 fun (v15 : Value) (l16 : List Value) ↦
  tI IntKind.u32 v15 fun (n17 : Int) ↦
  tCons l16 fun (v18 : Value) (l19 : List Value) ↦
  tI IntKind.u32 v18 fun (n20 : Int) ↦
  tNil l19
  (K
  (Value.tuple
  (Array.mk [Value.agg (Array.mk [Value.int IntKind.i64 n14, Value.int IntKind.u32 n17, Value.int IntKind.u32 n20]), Value.int IntKind.i64 n9]))
  σ10))
  (bmatch (n6 == (224 : Int))
  (bmatch (n6 == (224 : Int))
  (puts σ3 (Addr.mk i0 (0 : Nat) Option.none)
  [Value.int IntKind.i64 (IntKind.wrap IntKind.i64 n6), Value.int IntKind.u32 (IntKind.wrap IntKind.u32 (x + (1 : Int))), Value.int IntKind.u32 (0 : Int)]
  fun (σ21 : AS) ↦
  lds σ21 (Addr.mk i0 (0 : Nat) Option.none) (3 : Nat) fun (l22 : List Value) ↦
  tCons l22 fun (v23 : Value) (l24 : List Value) ↦
  tI IntKind.i64 v23 fun (n25 : Int) ↦
  tCons l24 fun (v26 : Value) (l27 : List Value) ↦
  tI IntKind.u32 v26 fun (n28 : Int) ↦
  tCons l27 fun (v29 : Value) (l30 : List Value) ↦
  tI IntKind.u32 v29 fun (n31 : Int) ↦
  tNil l30
  (K
  (Value.tuple
  (Array.mk
  [Value.agg (Array.mk [Value.int IntKind.i64 n25, Value.int IntKind.u32 n28, Value.int IntKind.u32 n31]), Value.int IntKind.i64 (0 : Int)]))
  σ21))
  (bmatch (n6 == (226 : Int))
  (puts σ3 (Addr.mk i0 (0 : Nat) Option.none)
  [Value.int IntKind.i64 (IntKind.wrap IntKind.i64 n6), Value.int IntKind.u32 (IntKind.wrap IntKind.u32 (x + (4 : Int))), Value.int IntKind.u32 (0 : Int)]
  fun (σ32 : AS) ↦
  lds σ32 (Addr.mk i0 (0 : Nat) Option.none) (3 : Nat) fun (l33 : List Value) ↦
  tCons l33 fun (v34 : Value) (l35 : List Value) ↦
  tI IntKind.i64 v34 fun (n36 : Int) ↦
  tCons l35 fun (v37 : Value) (l38 : List Value) ↦
  tI IntKind.u32 v37 fun (n39 : Int) ↦
  tCons l38 fun (v40 : Value) (l41 : List Value) ↦
  tI IntKind.u32 v40 fun (n42 : Int) ↦
  tNil l41
  (K
  (Value.tuple
  (Array.mk
  [Value.agg (Array.mk [Value.int IntKind.i64 n36, Value.int IntKind.u32 n39, Value.int IntKind.u32 n42]), Value.int IntKind.i64 (0 : Int)]))
  σ32))
  (puts σ3 (Addr.mk i0 (0 : Nat) Option.none) [Value.int IntKind.i64 (0 : Int), Value.int IntKind.u32 (0 : Int), Value.int IntKind.u32 (0 : Int)]
  fun (σ43 : AS) ↦
  lds σ43 (Addr.mk i0 (0 : Nat) Option.none) (3 : Nat) fun (l44 : List Value) ↦
  tCons l44 fun (v45 : Value) (l46 : List Value) ↦
  tI IntKind.i64 v45 fun (n47 : Int) ↦
  tCons l46 fun (v48 : Value) (l49 : List Value) ↦
  tI IntKind.u32 v48 fun (n50 : Int) ↦
  tCons l49 fun (v51 : Value) (l52 : List Value) ↦
  tI IntKind.u32 v51 fun (n53 : Int) ↦
  tNil l52
  (K
  (Value.tuple
  (Array.mk
  [Value.agg (Array.mk [Value.int IntKind.i64 n47, Value.int IntKind.u32 n50, Value.int IntKind.u32 n53]), Value.int IntKind.i64 (120 : Int)]))
  σ43))))
  (bmatch (n6 == (225 : Int))
  (puts σ3 (Addr.mk i0 (0 : Nat) Option.none)
  [Value.int IntKind.i64 (IntKind.wrap IntKind.i64 n6), Value.int IntKind.u32 (IntKind.wrap IntKind.u32 (x + (1 : Int))), Value.int IntKind.u32 (0 : Int)]
  fun (σ54 : AS) ↦
  lds σ54 (Addr.mk i0 (0 : Nat) Option.none) (3 : Nat) fun (l55 : List Value) ↦
  tCons l55 fun (v56 : Value) (l57 : List Value) ↦
  tI IntKind.i64 v56 fun (n58 : Int) ↦
  tCons l57 fun (v59 : Value) (l60 : List Value) ↦
  tI IntKind.u32 v59 fun (n61 : Int) ↦
  tCons l60 fun (v62 : Value) (l63 : List Value) ↦
  tI IntKind.u32 v62 fun (n64 : Int) ↦
  tNil l63
  (K
  (Value.tuple
  (Array.mk
  [Value.agg (Array.mk [Value.int IntKind.i64 n58, Value.int IntKind.u32 n61, Value.int IntKind.u32 n64]), Value.int IntKind.i64 (0 : Int)]))
  σ54))
  (bmatch (n6 == (226 : Int))
  (puts σ3 (Addr.mk i0 (0 : Nat) Option.none)
  [Value.int IntKind.i64 (IntKind.wrap IntKind.i64 n6), Value.int IntKind.u32 (IntKind.wrap IntKind.u32 (x + (4 : Int))), Value.int IntKind.u32 (0 : Int)]
  fun (σ65 : AS) ↦
  lds σ65 (Addr.mk i0 (0 : Nat) Option.none) (3 : Nat) fun (l66 : List Value) ↦
  tCons l66 fun (v67 : Value) (l68 : List Value) ↦
  tI IntKind.i64 v67 fun (n69 : Int) ↦
  tCons l68 fun (v70 : Value) (l71 : List Value) ↦
  tI IntKind.u32 v70 fun (n72 : Int) ↦
  tCons l71 fun (v73 : Value) (l74 : List Value) ↦
  tI IntKind.u32 v73 fun (n75 : Int) ↦
  tNil l74
  (K
  (Value.tuple
  (Array.mk
  [Value.agg (Array.mk [Value.int IntKind.i64 n69, Value.int IntKind.u32 n72, Value.int IntKind.u32 n75]), Value.int IntKind.i64 (0 : Int)]))
  σ65))
  (puts σ3 (Addr.mk i0 (0 : Nat) Option.none) [Value.int IntKind.i64 (0 : Int), Value.int IntKind.u32 (0 : Int), Value.int IntKind.u32 (0 : Int)]
  fun (σ76 : AS) ↦
  lds σ76 (Addr.mk i0 (0 : Nat) Option.none) (3 : Nat) fun (l77 : List Value) ↦
  tCons l77 fun (v78 : Value) (l79 : List Value) ↦
  tI IntKind.i64 v78 fun (n80 : Int) ↦
  tCons l79 fun (v81 : Value) (l82 : List Value) ↦
  tI IntKind.u32 v81 fun (n83 : Int) ↦
  tCons l82 fun (v84 : Value) (l85 : List Value) ↦
  tI IntKind.u32 v84 fun (n86 : Int) ↦
  tNil l85
  (K
  (Value.tuple
  (Array.mk
  [Value.agg (Array.mk [Value.int IntKind.i64 n80, Value.int IntKind.u32 n83, Value.int IntKind.u32 n86]), Value.int IntKind.i64 (120 : Int)]))
  σ76))))) := by
  intros
  kernel_rfl

theorem s36 : ∀ (T : Ct) (c : Int) (σ : AS) (K : Value → AS → Prop),
  fw Proofs.Try.prog hintsS T (36 : Nat) [Value.int IntKind.u32 c] σ K =
  newAt σ
  (AObj.row RK.plain [Value.int IntKind.i64 (0 : Int), Value.slice Option.none (0 : Nat) (0 : Nat), Value.int IntKind.u32 (0 : Int), Value.slice Option.none (0 : Nat) (0 : Nat)])
  fun (i0 : Nat) (σ1 : AS) ↦
  bmatch (c == (0 : Int))
  (puts σ1 (Addr.mk i0 (0 : Nat) Option.none)
  [Value.int IntKind.i64 (1 : Int), Value.slice Option.none (0 : Nat) (0 : Nat), Value.int IntKind.u32 (0 : Int), Value.slice Option.none (0 : Nat) (0 : Nat)] fun (σ2 : AS) ↦
  lds σ2 (Addr.mk i0 (0 : Nat) Option.none) (4 : Nat) fun (l3 : List Value) ↦
  tCons l3 fun (v4 : Value) (l5 : List Value) ↦
  tI IntKind.i64 v4 fun (n6 : Int) ↦
  tCons l5 fun (v7 : Value) (l8 : List Value) ↦
  tL (1 : Nat) v7 fun (s9 : Sl) ↦
  tCons l8 fun (v10 : Value) (l11 : List Value) ↦
  tI IntKind.u32 v10 fun (n12 : Int) ↦
  tCons l11 fun (v13 : Value) (l14 : List Value) ↦
  tL (1 : Nat) v13 fun (s15 : Sl) ↦
  tNil l14
  (K
  (Value.agg
  (Array.mk
  [Value.int IntKind.i64 n6, Value.slice (Sl.a s9) (Sl.n s9) (1 : Nat), Value.int IntKind.u32 n12,
  Value.slice (Sl.a s15) (Sl.n s15) (1 : Nat)]))
  σ2))
  (newAt σ1 (AObj.row RK.rw [Value.int IntKind.u32 c]) fun (i16 : Nat) (σ17 : AS) ↦
  puts σ17 (Addr.mk i0 (0 : Nat) Option.none)
  [Value.int IntKind.i64 (2 : Int), Value.slice (Option.some (Addr.mk i16 (0 : Nat) Option.none)) (1 : Nat) (1 : Nat), Value.int IntKind.u32 (0 : Int),
  Value.slice Option.none (0 : Nat) (0 : Nat)]
  fun (σ18 : AS) ↦
  lds σ18 (Addr.mk i0 (0 : Nat) Option.none) (4 : Nat) fun (l19 : List Value) ↦
  tCons l19 fun (v20 : Value) (l21 : List Value) ↦
  tI IntKind.i64 v20 fun (n22 : Int) ↦
  tCons l21 fun (v23 : Value) (l24 : List Value) ↦
  tL (1 : Nat) v23 fun (s25 : Sl) ↦
  tCons l24 fun (v26 : Value) (l27 : List Value) ↦
  tI IntKind.u32 v26 fun (n28 : Int) ↦
  tCons l27 fun (v29 : Value) (l30 : List Value) ↦
  tL (1 : Nat) v29 fun (s31 : Sl) ↦
  tNil l30
  (K
  (Value.agg
  (Array.mk
  [Value.int IntKind.i64 n22, Value.slice (Sl.a s25) (Sl.n s25) (1 : Nat), Value.int IntKind.u32 n28,
  Value.slice (Sl.a s31) (Sl.n s31) (1 : Nat)]))
  σ18)) := by
  intros
  kernel_rfl

theorem s18 : ∀ (T : Ct) (a : Option Addr) (m : Nat) (t x most : Int) (σ : AS) (K : Value → AS → Prop),
  fw Proofs.Try.prog hintsS T (18 : Nat) [Value.slice a m (1 : Nat), Value.int IntKind.u32 t, Value.int IntKind.u32 x, Value.int IntKind.i64 most] σ K =
  T (20 : Nat) [Value.slice a m (1 : Nat), Value.int IntKind.u32 x] σ fun (v0 : Value) (σ1 : AS) ↦
  tTup v0 fun (l2 : List Value) ↦
  pSome l2[(0 : Nat)]? fun (u3 : Value) ↦
  tAgg u3 fun (l4 : List Value) ↦
  tCons l4 fun (v5 : Value) (l6 : List Value) ↦
  tI IntKind.i64 v5 fun (n7 : Int) ↦
  tCons l6 fun (v8 : Value) (l9 : List Value) ↦
  tI IntKind.u32 v8 fun (n10 : Int) ↦
  tCons l9 fun (v11 : Value) (l12 : List Value) ↦
  tI IntKind.u32 v11 fun (n13 : Int) ↦
  tNil l12
  (tTup v0 fun (l14 : List Value) ↦
  pSome l14[(1 : Nat)]? fun (u15 : Value) ↦
  tI IntKind.i64 u15 fun (n16 : Int) ↦
  newAt σ1 (AObj.row RK.plain [Value.int IntKind.i64 (0 : Int), Value.int IntKind.u32 (0 : Int), Value.int IntKind.u32 (0 : Int)])
  fun (i17 : Nat) (σ18 : AS) ↦
  puts σ18 (Addr.mk i17 (0 : Nat) Option.none) [Value.int IntKind.i64 n7, Value.int IntKind.u32 n10, Value.int IntKind.u32 n13] fun (σ19 : AS) ↦
  bmatch (n16 != (0 : Int)) (K (Value.tuple (Array.mk [Value.slice Option.none (0 : Nat) (0 : Nat), Value.bool Bool.false, Value.int IntKind.i64 n16])) σ19)
  (ALoop (fl Proofs.Try.prog hintsS T (18 : Nat) [Bool.true, Bool.true, Bool.true, Bool.true, Bool.false, Bool.true, Bool.false] [] K)
  [((0 : Nat), Option.some (Value.slice a m (1 : Nat))), ((1 : Nat), Option.some (Value.int IntKind.u32 t)),
  ((3 : Nat), Option.some (Value.int IntKind.i64 (imax most (0 : Int)))), ((8 : Nat), Option.some (Value.slice Option.none (0 : Nat) (0 : Nat))),
  ((11 : Nat), Option.some (Value.pointer (Option.some (Addr.mk i17 (0 : Nat) Option.none)))), ((12 : Nat), Option.some (Value.int IntKind.i64 (0 : Int)))]
  σ19)) := by
  intros
  kernel_rfl

theorem s18l : ∀ (T : Ct) (a : Option Addr) (m : Nat) (t most : Int) (la : Option Addr) (ln le at__1 : Nat) (idle : Int) (X : Regs → AS → Prop) (σ : AS)
  (K : Value → AS → Prop),
  fl Proofs.Try.prog hintsS T (18 : Nat) [Bool.true, Bool.true, Bool.true, Bool.true, Bool.false, Bool.true, Bool.false] [] K X
  [((0 : Nat), Option.some (Value.slice a m (1 : Nat))), ((1 : Nat), Option.some (Value.int IntKind.u32 t)), ((3 : Nat), Option.some (Value.int IntKind.i64 most)),
  ((8 : Nat), Option.some (Value.slice la ln le)), ((11 : Nat), Option.some (Value.pointer (Option.some (Addr.mk at__1 (0 : Nat) Option.none)))),
  ((12 : Nat), Option.some (Value.int IntKind.i64 idle))]
  σ =
  bmatch (Decidable.decide (idle < (256 : Int)))
  (lds σ (Addr.mk at__1 (0 : Nat) Option.none) (3 : Nat) fun (l0 : List Value) ↦
  tCons l0 fun (v1 : Value) (l2 : List Value) ↦
  tI IntKind.i64 v1 fun (n3 : Int) ↦
  tCons l2 fun (v4 : Value) (l5 : List Value) ↦
  tI IntKind.u32 v4 fun (n6 : Int) ↦
  tCons l5 fun (v7 : Value) (l8 : List Value) ↦
  tI IntKind.u32 v7 fun (n9 : Int) ↦
  tNil l8
  (T (21 : Nat)
  [Value.slice a m (1 : Nat), Value.int IntKind.u32 t, Value.agg (Array.mk [Value.int IntKind.i64 n3, Value.int IntKind.u32 n6, Value.int IntKind.u32 n9])] σ
  fun (v10 : Value) (σ11 : AS) ↦
  tTup v10 fun (l12 : List Value) ↦
  pSome l12[(0 : Nat)]? fun (u13 : Value) ↦
  tAgg u13 fun (l14 : List Value) ↦
  tCons l14 fun (v15 : Value) (l16 : List Value) ↦
  tI IntKind.i64 v15 fun (n17 : Int) ↦
  tCons l16 fun (v18 : Value) (l19 : List Value) ↦
  tL (1 : Nat) v18 fun (s20 : Sl) ↦
  tCons l19 fun (v21 : Value) (l22 : List Value) ↦
  tI IntKind.u32 v21 fun (n23 : Int) ↦
  tCons l22 fun (v24 : Value) (l25 : List Value) ↦
  tL (1 : Nat) v24 fun (s26 : Sl) ↦
  tNil l25
  (tTup v10 fun (l27 : List Value) ↦
  pSome l27[(1 : Nat)]? fun (u28 : Value) ↦
  tAgg u28 fun (l29 : List Value) ↦
  tCons l29 fun (v30 : Value) (l31 : List Value) ↦
  tI IntKind.i64 v30 fun (n32 : Int) ↦
  tCons l31 fun (v33 : Value) (l34 : List Value) ↦
  tI IntKind.u32 v33 fun (n35 : Int) ↦
  tCons l34 fun (v36 : Value) (l37 : List Value) ↦
  tI IntKind.u32 v36 fun (n38 : Int) ↦
  tNil l37
  (tTup v10 fun (l39 : List Value) ↦
  pSome l39[(2 : Nat)]? fun (u40 : Value) ↦
  tI IntKind.i64 u40 fun (n41 : Int) ↦
  newAt σ11
  (AObj.row RK.plain
  [Value.int IntKind.i64 (0 : Int), Value.slice Option.none (0 : Nat) (0 : Nat), Value.int IntKind.u32 (0 : Int),
  Value.slice Option.none (0 : Nat) (0 : Nat)])
  fun (i42 : Nat) (σ43 : AS) ↦
  newAt σ43
  (AObj.row RK.plain
  [Value.int IntKind.i64 (0 : Int), Value.int IntKind.u32 (0 : Int), Value.int IntKind.u32 (0 : Int)])
  fun (i44 : Nat) (σ45 : AS) ↦
  puts σ45 (Addr.mk i42 (0 : Nat) Option.none)
  [Value.int IntKind.i64 n17, Value.slice (Sl.a s20) (Sl.n s20) (1 : Nat), Value.int IntKind.u32 n23,
  Value.slice (Sl.a s26) (Sl.n s26) (1 : Nat)]
  fun (σ46 : AS) ↦
  puts σ46 (Addr.mk i44 (0 : Nat) Option.none)
  [Value.int IntKind.i64 n32, Value.int IntKind.u32 n35, Value.int IntKind.u32 n38] fun (σ47 : AS) ↦
  bmatch (n41 != (0 : Int))
  (K
  (Value.tuple
  (Array.mk [Value.slice Option.none (0 : Nat) (0 : Nat), Value.bool Bool.false, Value.int IntKind.i64 n41]))
  σ47)
  (ldc σ47 (Addr.mk i42 (0 : Nat) Option.none) fun (v48 : Value) ↦
  tI IntKind.i64 v48 fun (n49 : Int) ↦
  bmatch (n49 == (1 : Int))
  (K (Value.tuple (Array.mk [Value.slice la ln le, Value.bool Bool.true, Value.int IntKind.i64 (0 : Int)]))
  σ47)
  (bmatch (n49 == (3 : Int))
  (K
  (Value.tuple
  (Array.mk
  [Value.slice Option.none (0 : Nat) (0 : Nat), Value.bool Bool.false, Value.int IntKind.i64 (5 : Int)]))
  σ47)
  (ldc σ47 (Addr.mk i42 ((0 : Nat) + (1 : Nat)) Option.none) fun (v50 : Value) ↦
  tL (1 : Nat) v50 fun (s51 : Sl) ↦
  bmatch (Decidable.decide (IntKind.wrap IntKind.i64 ((↑ln : Int) + (↑(Sl.n s51) : Int)) > most))
  (ldc σ47 (Addr.mk i42 ((0 : Nat) + (1 : Nat)) Option.none) fun (v52 : Value) ↦
  tL (1 : Nat) v52 fun (s53 : Sl) ↦
  req ((0 : Int) ≤ IntKind.wrap IntKind.i64 (most - (↑ln : Int)))
  (req (IntKind.wrap IntKind.i64 (most - (↑ln : Int)) ≤ (↑(Sl.n s53) : Int))
  (chk (nilOr la le (szOf Proofs.Try.prog (22 : Nat)))
  (srcCells σ47 (1 : Nat)
  (Option.some
  (Value.slice
  (Option.map
  (fun (x : Addr) ↦ Addr.add x (Int.toNat (0 : Int) * szOf Proofs.Try.prog (22 : Nat)))
  (Sl.a s53))
  (Int.toNat (IntKind.wrap IntKind.i64 (most - (↑ln : Int)) - (0 : Int))) (1 : Nat)))
  fun (m54 : Nat) (new55 : List Value) ↦
  appendTo σ47 (1 : Nat) (4 : Nat) (Sl.mk la ln) new55 m54
  fun (s56 : Sl) (σ57 : AS) ↦
  K
  (Value.tuple
  (Array.mk
  [Value.slice (Sl.a s56) (Sl.n s56) (1 : Nat), Value.bool Bool.false,
  Value.int IntKind.i64 (0 : Int)]))
  σ57))))
  (ldc σ47 (Addr.mk i42 ((0 : Nat) + (1 : Nat)) Option.none) fun (v58 : Value) ↦
  tL (1 : Nat) v58 fun (s59 : Sl) ↦
  chk (nilOr la le (szOf Proofs.Try.prog (22 : Nat)))
  (srcCells σ47 (1 : Nat) (Option.some (Value.slice (Sl.a s59) (Sl.n s59) (1 : Nat)))
  fun (m60 : Nat) (new61 : List Value) ↦
  appendTo σ47 (1 : Nat) (4 : Nat) (Sl.mk la ln) new61 m60 fun (s62 : Sl) (σ63 : AS) ↦
  lds σ63 (Addr.mk i44 (0 : Nat) Option.none) (3 : Nat) fun (l64 : List Value) ↦
  tCons l64 fun (v65 : Value) (l66 : List Value) ↦
  tI IntKind.i64 v65 fun (n67 : Int) ↦
  tCons l66 fun (v68 : Value) (l69 : List Value) ↦
  tI IntKind.u32 v68 fun (n70 : Int) ↦
  tCons l69 fun (v71 : Value) (l72 : List Value) ↦
  tI IntKind.u32 v71 fun (n73 : Int) ↦
  tNil l72
  (puts σ63 (Addr.mk at__1 (0 : Nat) Option.none)
  [Value.int IntKind.i64 n67, Value.int IntKind.u32 n70,
  Value.int IntKind.u32 n73]
  fun (σ74 : AS) ↦
  ldc σ74 (Addr.mk i42 ((0 : Nat) + (1 : Nat)) Option.none) fun (v75 : Value) ↦
  tL (1 : Nat) v75 fun (s76 : Sl) ↦
  bmatch (Decidable.decide ((↑(Sl.n s76) : Int) > (0 : Int)))
  (X
  [((0 : Nat), Option.some (Value.slice a m (1 : Nat))),
  ((1 : Nat), Option.some (Value.int IntKind.u32 t)),
  ((3 : Nat), Option.some (Value.int IntKind.i64 most)),
  ((8 : Nat),
  Option.some (Value.slice (Sl.a s62) (Sl.n s62) (1 : Nat))),
  ((11 : Nat),
  Option.some
  (Value.pointer (Option.some (Addr.mk at__1 (0 : Nat) Option.none)))),
  ((12 : Nat), Option.some (Value.int IntKind.i64 (0 : Int)))]
  σ74)
  (X
  [((0 : Nat), Option.some (Value.slice a m (1 : Nat))),
  ((1 : Nat), Option.some (Value.int IntKind.u32 t)),
  ((3 : Nat), Option.some (Value.int IntKind.i64 most)),
  ((8 : Nat),
  Option.some (Value.slice (Sl.a s62) (Sl.n s62) (1 : Nat))),
  ((11 : Nat),
  Option.some
  (Value.pointer (Option.some (Addr.mk at__1 (0 : Nat) Option.none)))),
  ((12 : Nat),
  Option.some
  (Value.int IntKind.i64
  (IntKind.wrap IntKind.i64 (idle + (1 : Int)))))]
  σ74)))))))))))
  (K (Value.tuple (Array.mk [Value.slice la ln le, Value.bool Bool.false, Value.int IntKind.i64 (0 : Int)])) σ) := by
  intros
  kernel_rfl

end Go.AI
end
section
/- The conditions ahead of the calls of the program's functions, reckoned as far as they go (equations that the kernel checks); no condition. -/
set_option maxRecDepth 1000000
set_option linter.unusedVariables false
namespace Go.AI
open Go.Proofs
theorem s15 : ∀ (T : Ct) (x : Int) (σ : AS) (K : Value → AS → Prop),
  fw Proofs.Try.prog hintsS T (15 : Nat) [Value.int IntKind.i64 x] σ K = K (Value.int IntKind.i64 x) σ := by
  intros
  kernel_rfl

theorem s16 : ∀ (T : Ct) (a b : Option Addr) (m n ea eb : Nat) (σ : AS) (K : Value → AS → Prop),
  fw Proofs.Try.prog hintsS T (16 : Nat) [Value.slice a m ea, Value.slice b n eb] σ K =
  bmatch ((↑m : Int) != (↑n : Int)) (K (Value.bool Bool.false) σ)
  (ALoop (fl Proofs.Try.prog hintsS T (16 : Nat) [Bool.true, Bool.true, Bool.false, Bool.true, Bool.false] [] K)
  [((0 : Nat), Option.some (Value.slice a m ea)), ((1 : Nat), Option.some (Value.slice b n eb)), ((5 : Nat), Option.some (Value.int IntKind.i64 (0 : Int)))] σ) := by
  intros
  kernel_rfl

theorem s16l : ∀ (T : Ct) (a b : Option Addr) (m n ea eb : Nat) (i : Int) (X : Regs → AS → Prop) (σ : AS) (K : Value → AS → Prop),
  fl Proofs.Try.prog hintsS T (16 : Nat) [Bool.true, Bool.true, Bool.false, Bool.true, Bool.false] [] K X
  [((0 : Nat), Option.some (Value.slice a m ea)), ((1 : Nat), Option.some (Value.slice b n eb)), ((5 : Nat), Option.some (Value.int IntKind.i64 i))] σ =
  bmatch (Decidable.decide (i < (↑m : Int)))
  (req ((0 : Int) ≤ i)
  (req (i < (↑m : Int))
  (pSome a fun (a0 : Addr) ↦
  req (ea = szOf Proofs.Try.prog (22 : Nat))
  (ldc σ (Addr.add a0 (Int.toNat i * szOf Proofs.Try.prog (22 : Nat))) fun (v1 : Value) ↦
  tI IntKind.u32 v1 fun (n2 : Int) ↦
  req ((0 : Int) ≤ i)
  (req (i < (↑n : Int))
  (pSome b fun (a3 : Addr) ↦
  req (eb = szOf Proofs.Try.prog (22 : Nat))
  (ldc σ (Addr.add a3 (Int.toNat i * szOf Proofs.Try.prog (22 : Nat))) fun (v4 : Value) ↦
  tI IntKind.u32 v4 fun (n5 : Int) ↦
  bmatch (n2 != n5) (K (Value.bool Bool.false) σ)
  (X
  [((0 : Nat), Option.some (Value.slice a m ea)), ((1 : Nat), Option.some (Value.slice b n eb)),
  ((5 : Nat), Option.some (Value.int IntKind.i64 (IntKind.wrap IntKind.i64 (i + (1 : Int)))))]
  σ))))))))
  (K (Value.bool Bool.true) σ) := by
  intros
  kernel_rfl

theorem s19 : ∀ (T : Ct) (x n : Int) (σ : AS) (K : Value → AS → Prop),
  fw Proofs.Try.prog hintsS T (19 : Nat) [Value.int IntKind.u32 x, Value.int IntKind.i64 n] σ K =
  bmatch (n != (1 : Int))
  (bmatch (n != (2 : Int))
  (bmatch (n != (4 : Int)) (K (Value.slice Option.none (0 : Nat) (0 : Nat)) σ)
  (ALoop (fl Proofs.Try.prog hintsS T (19 : Nat) [Bool.true, Bool.true, Bool.true, Bool.true, Bool.false, Bool.true, Bool.false] [] K)
  [((0 : Nat), Option.some (Value.int IntKind.u32 x)), ((1 : Nat), Option.some (Value.int IntKind.i64 n)), ((5 : Nat), Option.some (Value.slice Option.none (0 : Nat) (0 : Nat))),
  ((6 : Nat), Option.some (Value.int IntKind.i64 (1 : Int))), ((7 : Nat), Option.some (Value.int IntKind.i64 (1 : Int)))]
  σ))
  (ALoop (fl Proofs.Try.prog hintsS T (19 : Nat) [Bool.true, Bool.true, Bool.true, Bool.true, Bool.false, Bool.true, Bool.false] [] K)
  [((0 : Nat), Option.some (Value.int IntKind.u32 x)), ((1 : Nat), Option.some (Value.int IntKind.i64 n)), ((5 : Nat), Option.some (Value.slice Option.none (0 : Nat) (0 : Nat))),
  ((6 : Nat), Option.some (Value.int IntKind.i64 (1 : Int))), ((7 : Nat), Option.some (Value.int IntKind.i64 (1 : Int)))]
  σ))
  (ALoop (fl Proofs.Try.prog hintsS T (19 : Nat) [Bool.true, Bool.true, Bool.true, Bool.true, Bool.false, Bool.true, Bool.false] [] K)
  [((0 : Nat), Option.some (Value.int IntKind.u32 x)), ((1 : Nat), Option.some (Value.int IntKind.i64 n)), ((5 : Nat), Option.some (Value.slice Option.none (0 : Nat) (0 : Nat))),
  ((6 : Nat), Option.some (Value.int IntKind.i64 (1 : Int))), ((7 : Nat), Option.some (Value.int IntKind.i64 (1 : Int)))]
  σ) := by
  intros
  kernel_rfl

theorem s19l : ∀ (T : Ct) (x n p i : Int) (o : Option Addr) (om oe : Nat) (X : Regs → AS → Prop) (σ : AS) (K : Value → AS → Prop),
  fl Proofs.Try.prog hintsS T (19 : Nat) [Bool.true, Bool.true, Bool.true, Bool.true, Bool.false, Bool.true, Bool.false] [] K X
  [((0 : Nat), Option.some (Value.int IntKind.u32 x)), ((1 : Nat), Option.some (Value.int IntKind.i64 n)), ((5 : Nat), Option.some (Value.slice o om oe)),
  ((6 : Nat), Option.some (Value.int IntKind.i64 p)), ((7 : Nat), Option.some (Value.int IntKind.i64 i))]
  σ =
  bmatch (Decidable.decide (i < n))
  (X
  [((0 : Nat), Option.some (Value.int IntKind.u32 x)), ((1 : Nat), Option.some (Value.int IntKind.i64 n)), ((5 : Nat), Option.some (Value.slice o om oe)),
  ((6 : Nat), Option.some (Value.int IntKind.i64 (IntKind.wrap IntKind.i64 ((256 : Int) * p)))),
  ((7 : Nat), Option.some (Value.int IntKind.i64 (IntKind.wrap IntKind.i64 (i + (1 : Int)))))]
  σ)
  (ALoop (fl Proofs.Try.prog hintsS T (19 : Nat) [Bool.true, Bool.true, Bool.true, Bool.true, Bool.true, Bool.false, Bool.true, Bool.false] [] K)
  [((0 : Nat), Option.some (Value.int IntKind.u32 x)), ((1 : Nat), Option.some (Value.int IntKind.i64 n)), ((5 : Nat), Option.some (Value.slice o om oe)),
  ((6 : Nat), Option.some (Value.int IntKind.i64 p)), ((8 : Nat), Option.some (Value.int IntKind.i64 (0 : Int)))]
  σ) := by
  intros
  kernel_rfl

theorem s19k : ∀ (T : Ct) (x n p i : Int) (o : Option Addr) (om oe : Nat) (X : Regs → AS → Prop) (σ : AS) (K : Value → AS → Prop),
  fl Proofs.Try.prog hintsS T (19 : Nat) [Bool.true, Bool.true, Bool.true, Bool.true, Bool.true, Bool.false, Bool.true, Bool.false] [] K X
  [((0 : Nat), Option.some (Value.int IntKind.u32 x)), ((1 : Nat), Option.some (Value.int IntKind.i64 n)), ((5 : Nat), Option.some (Value.slice o om oe)),
  ((6 : Nat), Option.some (Value.int IntKind.i64 p)), ((8 : Nat), Option.some (Value.int IntKind.i64 i))]
  σ =
  bmatch (Decidable.decide (i < n))
  (req (p ≠ (0 : Int))
  (newAt σ
  (AObj.row RK.rw [Value.int IntKind.u8 (IntKind.wrap IntKind.u8 (Int.tmod (IntKind.wrap IntKind.i64 (Int.tdiv (IntKind.wrap IntKind.i64 x) p)) (256 : Int)))])
  fun (i0 : Nat) (σ1 : AS) ↦
  chk (nilOr o oe (szOf Proofs.Try.prog (5 : Nat)))
  (lds σ1 (Addr.mk i0 (0 : Nat) Option.none) (1 : Nat) fun (l2 : List Value) ↦
  appendTo σ1 (1 : Nat) (1 : Nat) (Sl.mk o om) l2 (1 : Nat) fun (s3 : Sl) (σ4 : AS) ↦
  X
  [((0 : Nat), Option.some (Value.int IntKind.u32 x)), ((1 : Nat), Option.some (Value.int IntKind.i64 n)),
  ((5 : Nat), Option.some (Value.slice (Sl.a s3) (Sl.n s3) (1 : Nat))), ((6 : Nat), Option.some (Value.int IntKind.i64 (IntKind.wrap IntKind.i64 (Int.tdiv p (256 : Int))))),
  ((8 : Nat), Option.some (Value.int IntKind.i64 (IntKind.wrap IntKind.i64 (i + (1 : Int)))))]
  σ4)))
  (K (Value.slice o om oe) σ) := by
  intros
  kernel_rfl

theorem s5 : ∀ (T : Ct) (a b c : Option Addr) (m n k : Nat) (σ : AS) (K : Value → AS → Prop),
  fw Proofs.Try.prog hintsS T (5 : Nat) [Value.slice a m (1 : Nat), Value.slice b n (1 : Nat), Value.slice c k (1 : Nat)] σ K =
  bmatch (Decidable.decide (IntKind.wrap IntKind.i64 ((↑m : Int) + (↑k : Int)) > (16384 : Int)))
  (T (9 : Nat) [] σ fun (v0 : Value) (σ1 : AS) ↦ tB v0 fun (b2 : Bool) ↦ K (Value.bool b2) σ1)
  (bmatch (Decidable.decide ((↑n : Int) > (300 : Int))) (T (9 : Nat) [] σ fun (v3 : Value) (σ4 : AS) ↦ tB v3 fun (b5 : Bool) ↦ K (Value.bool b5) σ4)
  (newAt σ (AObj.row RK.rw [Value.int IntKind.u8 (224 : Int)]) fun (i6 : Nat) (σ7 : AS) ↦
  srcCells σ7 (1 : Nat) (Option.some (Value.slice a m (1 : Nat))) fun (m8 : Nat) (new9 : List Value) ↦
  appendTo σ7 (1 : Nat) (1 : Nat) (Sl.mk (Option.some (Addr.mk i6 (0 : Nat) Option.none)) (1 : Nat)) new9 m8 fun (s10 : Sl) (σ11 : AS) ↦
  ALoop (fl Proofs.Try.prog hintsS T (5 : Nat) [Bool.true, Bool.true, Bool.true, Bool.false, Bool.true, Bool.false] [] K)
  [((0 : Nat), Option.some (Value.slice a m (1 : Nat))), ((1 : Nat), Option.some (Value.slice b n (1 : Nat))), ((2 : Nat), Option.some (Value.slice c k (1 : Nat))),
  ((7 : Nat), Option.some (Value.slice (Sl.a s10) (Sl.n s10) (1 : Nat))), ((8 : Nat), Option.some (Value.int IntKind.i64 (0 : Int)))]
  σ11)) := by
  intros
  kernel_rfl

theorem s5l : ∀ (T : Ct) (a b c d : Option Addr) (m n k dm : Nat) (i : Int) (X : Regs → AS → Prop) (σ : AS) (K : Value → AS → Prop),
  fl Proofs.Try.prog hintsS T (5 : Nat) [Bool.true, Bool.true, Bool.true, Bool.false, Bool.true, Bool.false] [] K X
  [((0 : Nat), Option.some (Value.slice a m (1 : Nat))), ((1 : Nat), Option.some (Value.slice b n (1 : Nat))), ((2 : Nat), Option.some (Value.slice c k (1 : Nat))),
  ((7 : Nat), Option.some (Value.slice d dm (1 : Nat))), ((8 : Nat), Option.some (Value.int IntKind.i64 i))]
  σ =
  bmatch (Decidable.decide (i < (↑m : Int)))
  (req ((0 : Int) ≤ i)
  (req (i < (↑m : Int))
  (pSome a fun (a0 : Addr) ↦
  ldc σ (Addr.add a0 (Int.toNat i * szOf Proofs.Try.prog (5 : Nat))) fun (v1 : Value) ↦
  tI IntKind.u8 v1 fun (n2 : Int) ↦
  bmatch (n2 == (0 : Int)) (T (9 : Nat) [] σ fun (v3 : Value) (σ4 : AS) ↦ tB v3 fun (b5 : Bool) ↦ K (Value.bool b5) σ4)
  (X
  [((0 : Nat), Option.some (Value.slice a m (1 : Nat))), ((1 : Nat), Option.some (Value.slice b n (1 : Nat))), ((2 : Nat), Option.some (Value.slice c k (1 : Nat))),
  ((7 : Nat), Option.some (Value.slice d dm (1 : Nat))), ((8 : Nat), Option.some (Value.int IntKind.i64 (IntKind.wrap IntKind.i64 (i + (1 : Int)))))]
  σ))))
  (newAt σ (AObj.row RK.rw [Value.int IntKind.u8 (0 : Int)]) fun (i6 : Nat) (σ7 : AS) ↦
  lds σ7 (Addr.mk i6 (0 : Nat) Option.none) (1 : Nat) fun (l8 : List Value) ↦
  appendTo σ7 (1 : Nat) (1 : Nat) (Sl.mk d dm) l8 (1 : Nat) fun (s9 : Sl) (σ10 : AS) ↦
  srcCells σ10 (1 : Nat) (Option.some (Value.slice c k (1 : Nat))) fun (m11 : Nat) (new12 : List Value) ↦
  appendTo σ10 (1 : Nat) (1 : Nat) (Sl.mk (Sl.a s9) (Sl.n s9)) new12 m11 fun (s13 : Sl) (σ14 : AS) ↦
  T (18 : Nat) [Value.slice (Sl.a s13) (Sl.n s13) (1 : Nat), Value.int IntKind.u32 (0 : Int), Value.int IntKind.u32 (0 : Int), Value.int IntKind.i64 (↑m : Int)] σ14
  fun (v15 : Value) (σ16 : AS) ↦
  tTup v15 fun (l17 : List Value) ↦
  pSome l17[(0 : Nat)]? fun (u18 : Value) ↦
  tL (1 : Nat) u18 fun (s19 : Sl) ↦
  tTup v15 fun (l20 : List Value) ↦
  pSome l20[(1 : Nat)]? fun (u21 : Value) ↦
  tB u21 fun (b22 : Bool) ↦
  tTup v15 fun (l23 : List Value) ↦
  pSome l23[(2 : Nat)]? fun (u24 : Value) ↦
  tI IntKind.i64 u24 fun (n25 : Int) ↦
  T (15 : Nat) [Value.int IntKind.i64 n25] σ16 fun (v26 : Value) (σ27 : AS) ↦
  tI IntKind.i64 v26 fun (n28 : Int) ↦
  bmatch (n28 != (0 : Int)) (K (Value.bool Bool.false) σ27)
  (bmatch (!b22) (K (Value.bool Bool.false) σ27)
  (bmatch ((↑(Sl.n s19) : Int) != (↑m : Int)) (K (Value.bool Bool.false) σ27)
  (ALoop
  (fl Proofs.Try.prog hintsS T (5 : Nat) [Bool.true, Bool.true, Bool.true, Bool.true, Bool.true, Bool.true, Bool.true, Bool.false, Bool.true, Bool.false] []
  K)
  [((0 : Nat), Option.some (Value.slice a m (1 : Nat))), ((1 : Nat), Option.some (Value.slice b n (1 : Nat))),
  ((2 : Nat), Option.some (Value.slice c k (1 : Nat))), ((9 : Nat), Option.some (Value.slice (Sl.a s19) (Sl.n s19) (1 : Nat))),
  ((12 : Nat), Option.some (Value.int IntKind.i64 (0 : Int)))]
  σ27)))) := by
  intros
  kernel_rfl

theorem s5m : ∀ (T : Ct) (a b c x : Option Addr) (m n k xm xe : Nat) (i : Int) (X : Regs → AS → Prop) (σ : AS) (K : Value → AS → Prop),
  fl Proofs.Try.prog hintsS T (5 : Nat) [Bool.true, Bool.true, Bool.true, Bool.true, Bool.true, Bool.true, Bool.true, Bool.false, Bool.true, Bool.false] [] K X
  [((0 : Nat), Option.some (Value.slice a m (1 : Nat))), ((1 : Nat), Option.some (Value.slice b n (1 : Nat))), ((2 : Nat), Option.some (Value.slice c k (1 : Nat))),
  ((9 : Nat), Option.some (Value.slice x xm xe)), ((12 : Nat), Option.some (Value.int IntKind.i64 i))]
  σ =
  bmatch (Decidable.decide (i < (↑m : Int)))
  (req ((0 : Int) ≤ i)
  (req (i < (↑xm : Int))
  (pSome x fun (a0 : Addr) ↦
  req (xe = szOf Proofs.Try.prog (22 : Nat))
  (ldc σ (Addr.add a0 (Int.toNat i * szOf Proofs.Try.prog (22 : Nat))) fun (v1 : Value) ↦
  tI IntKind.u32 v1 fun (n2 : Int) ↦
  req ((0 : Int) ≤ i)
  (req (i < (↑m : Int))
  (pSome a fun (a3 : Addr) ↦
  ldc σ (Addr.add a3 (Int.toNat i * szOf Proofs.Try.prog (5 : Nat))) fun (v4 : Value) ↦
  tI IntKind.u8 v4 fun (n5 : Int) ↦
  bmatch (n2 != IntKind.wrap IntKind.u32 n5) (K (Value.bool Bool.false) σ)
  (X
  [((0 : Nat), Option.some (Value.slice a m (1 : Nat))), ((1 : Nat), Option.some (Value.slice b n (1 : Nat))), ((2 : Nat), Option.some (Value.slice c k (1 : Nat))),
  ((9 : Nat), Option.some (Value.slice x xm xe)), ((12 : Nat), Option.some (Value.int IntKind.i64 (IntKind.wrap IntKind.i64 (i + (1 : Int)))))]
  σ)))))))
  (newAt σ (AObj.row RK.rw [Value.int IntKind.u8 (226 : Int), Value.int IntKind.u8 (1 : Int), Value.int IntKind.u8 (2 : Int), Value.int IntKind.u8 (3 : Int)])
  fun (i6 : Nat) (σ7 : AS) ↦
  ALoop (fl Proofs.Try.prog hintsS T (5 : Nat) [Bool.true, Bool.true, Bool.true, Bool.true, Bool.true, Bool.true, Bool.true, Bool.true, Bool.true, Bool.false, Bool.true, Bool.false] [] K)
  [((1 : Nat), Option.some (Value.slice b n (1 : Nat))), ((2 : Nat), Option.some (Value.slice c k (1 : Nat))),
  ((13 : Nat), Option.some (Value.slice (Option.some (Addr.mk i6 (0 : Nat) Option.none)) (4 : Nat) (1 : Nat))), ((14 : Nat), Option.some (Value.int IntKind.i64 (0 : Int)))]
  σ7) := by
  intros
  kernel_rfl

theorem s5n : ∀ (T : Ct) (b c x : Option Addr) (n k xm : Nat) (i : Int) (X : Regs → AS → Prop) (σ : AS) (K : Value → AS → Prop),
  fl Proofs.Try.prog hintsS T (5 : Nat) [Bool.true, Bool.true, Bool.true, Bool.true, Bool.true, Bool.true, Bool.true, Bool.true, Bool.true, Bool.false, Bool.true, Bool.false] [] K X
  [((1 : Nat), Option.some (Value.slice b n (1 : Nat))), ((2 : Nat), Option.some (Value.slice c k (1 : Nat))), ((13 : Nat), Option.some (Value.slice x xm (1 : Nat))),
  ((14 : Nat), Option.some (Value.int IntKind.i64 i))]
  σ =
  bmatch (Decidable.decide (i < (↑n : Int)))
  (req ((0 : Int) ≤ i)
  (req (i < (↑n : Int))
  (pSome b fun (a0 : Addr) ↦
  ldc σ (Addr.add a0 (Int.toNat i * szOf Proofs.Try.prog (22 : Nat))) fun (v1 : Value) ↦
  tI IntKind.u32 v1 fun (n2 : Int) ↦
  bmatch (n2 == (0 : Int)) (T (9 : Nat) [] σ fun (v3 : Value) (σ4 : AS) ↦ tB v3 fun (b5 : Bool) ↦ K (Value.bool b5) σ4)
  (req ((0 : Int) ≤ i)
  (req (i < (↑n : Int))
  (pSome b fun (a6 : Addr) ↦
  ldc σ (Addr.add a6 (Int.toNat i * szOf Proofs.Try.prog (22 : Nat))) fun (v7 : Value) ↦
  tI IntKind.u32 v7 fun (n8 : Int) ↦
  T (19 : Nat) [Value.int IntKind.u32 n8, Value.int IntKind.i64 (4 : Int)] σ fun (v9 : Value) (σ10 : AS) ↦
  tL (1 : Nat) v9 fun (s11 : Sl) ↦
  srcCells σ10 (1 : Nat) (Option.some (Value.slice (Sl.a s11) (Sl.n s11) (1 : Nat))) fun (m12 : Nat) (new13 : List Value) ↦
  appendTo σ10 (1 : Nat) (1 : Nat) (Sl.mk x xm) new13 m12 fun (s14 : Sl) (σ15 : AS) ↦
  X
  [((1 : Nat), Option.some (Value.slice b n (1 : Nat))), ((2 : Nat), Option.some (Value.slice c k (1 : Nat))),
  ((13 : Nat), Option.some (Value.slice (Sl.a s14) (Sl.n s14) (1 : Nat))),
  ((14 : Nat), Option.some (Value.int IntKind.i64 (IntKind.wrap IntKind.i64 (i + (1 : Int)))))]
  σ15))))))
  (newAt σ (AObj.row RK.rw [Value.int IntKind.u8 (0 : Int), Value.int IntKind.u8 (0 : Int), Value.int IntKind.u8 (0 : Int), Value.int IntKind.u8 (0 : Int)])
  fun (i16 : Nat) (σ17 : AS) ↦
  lds σ17 (Addr.mk i16 (0 : Nat) Option.none) (4 : Nat) fun (l18 : List Value) ↦
  appendTo σ17 (1 : Nat) (1 : Nat) (Sl.mk x xm) l18 (4 : Nat) fun (s19 : Sl) (σ20 : AS) ↦
  srcCells σ20 (1 : Nat) (Option.some (Value.slice c k (1 : Nat))) fun (m21 : Nat) (new22 : List Value) ↦
  appendTo σ20 (1 : Nat) (1 : Nat) (Sl.mk (Sl.a s19) (Sl.n s19)) new22 m21 fun (s23 : Sl) (σ24 : AS) ↦
  T (18 : Nat) [Value.slice (Sl.a s23) (Sl.n s23) (1 : Nat), Value.int IntKind.u32 (0 : Int), Value.int IntKind.u32 (0 : Int), Value.int IntKind.i64 (↑n : Int)] σ24
  fun (v25 : Value) (σ26 : AS) ↦
  tTup v25 fun (l27 : List Value) ↦
  pSome l27[(0 : Nat)]? fun (u28 : Value) ↦
  tL (1 : Nat) u28 fun (s29 : Sl) ↦
  tTup v25 fun (l30 : List Value) ↦
  pSome l30[(1 : Nat)]? fun (u31 : Value) ↦
  tB u31 fun (b32 : Bool) ↦
  tTup v25 fun (l33 : List Value) ↦
  pSome l33[(2 : Nat)]? fun (u34 : Value) ↦
  tI IntKind.i64 u34 fun (n35 : Int) ↦
  T (15 : Nat) [Value.int IntKind.i64 n35] σ26 fun (v36 : Value) (σ37 : AS) ↦
  tI IntKind.i64 v36 fun (n38 : Int) ↦
  bmatch (n38 == (0 : Int))
  (bmatch b32
  (T (16 : Nat) [Value.slice (Sl.a s29) (Sl.n s29) (1 : Nat), Value.slice b n (1 : Nat)] σ37 fun (v39 : Value) (σ40 : AS) ↦
  tB v39 fun (b41 : Bool) ↦
  bmatch b41 (T (9 : Nat) [] σ40 fun (v42 : Value) (σ43 : AS) ↦ tB v42 fun (b44 : Bool) ↦ K (Value.bool b44) σ43)
  (K (Value.bool Bool.false) σ40))
  (K (Value.bool Bool.false) σ37))
  (K (Value.bool Bool.false) σ37)) := by
  intros
  kernel_rfl

theorem s7 : ∀ (T : Ct) (a c : Option Addr) (m n : Nat) (t x : Int) (σ : AS) (K : Value → AS → Prop),
  fw Proofs.Try.prog hintsS T (7 : Nat) [Value.slice a m (1 : Nat), Value.int IntKind.u32 t, Value.int IntKind.u32 x, Value.slice c n (1 : Nat)] σ K =
  bmatch (Decidable.decide (IntKind.wrap IntKind.i64 ((↑m : Int) + (↑n : Int)) > (16384 : Int)))
  (T (9 : Nat) [] σ fun (v0 : Value) (σ1 : AS) ↦ tB v0 fun (b2 : Bool) ↦ K (Value.bool b2) σ1)
  (T (18 : Nat) [Value.slice a m (1 : Nat), Value.int IntKind.u32 t, Value.int IntKind.u32 x, Value.int IntKind.i64 (300 : Int)] σ fun (v3 : Value) (σ4 : AS) ↦
  tTup v3 fun (l5 : List Value) ↦
  pSome l5[(0 : Nat)]? fun (u6 : Value) ↦
  tL (1 : Nat) u6 fun (s7 : Sl) ↦
  tTup v3 fun (l8 : List Value) ↦
  pSome l8[(1 : Nat)]? fun (u9 : Value) ↦
  tB u9 fun (b10 : Bool) ↦
  tTup v3 fun (l11 : List Value) ↦
  pSome l11[(2 : Nat)]? fun (u12 : Value) ↦
  tI IntKind.i64 u12 fun (n13 : Int) ↦
  newAt σ4 (AObj.row RK.rw []) fun (i14 : Nat) (σ15 : AS) ↦
  srcCells σ15 (1 : Nat) (Option.some (Value.slice a m (1 : Nat))) fun (m16 : Nat) (new17 : List Value) ↦
  appendTo σ15 (1 : Nat) (1 : Nat) (Sl.mk (Option.some (Addr.mk i14 (0 : Nat) Option.none)) (0 : Nat)) new17 m16 fun (s18 : Sl) (σ19 : AS) ↦
  srcCells σ19 (1 : Nat) (Option.some (Value.slice c n (1 : Nat))) fun (m20 : Nat) (new21 : List Value) ↦
  appendTo σ19 (1 : Nat) (1 : Nat) (Sl.mk (Sl.a s18) (Sl.n s18)) new21 m20 fun (s22 : Sl) (σ23 : AS) ↦
  T (18 : Nat) [Value.slice (Sl.a s22) (Sl.n s22) (1 : Nat), Value.int IntKind.u32 t, Value.int IntKind.u32 x, Value.int IntKind.i64 (300 : Int)]
  σ23 fun (v24 : Value) (σ25 : AS) ↦
  tTup v24 fun (l26 : List Value) ↦
  pSome l26[(0 : Nat)]? fun (u27 : Value) ↦
  tL (1 : Nat) u27 fun (s28 : Sl) ↦
  tTup v24 fun (l29 : List Value) ↦
  pSome l29[(1 : Nat)]? fun (u30 : Value) ↦
  tB u30 fun (b31 : Bool) ↦
  tTup v24 fun (l32 : List Value) ↦
  pSome l32[(2 : Nat)]? fun (u33 : Value) ↦
  tI IntKind.i64 u33 fun (n34 : Int) ↦
  T (15 : Nat) [Value.int IntKind.i64 n13] σ25 fun (v35 : Value) (σ36 : AS) ↦
  tI IntKind.i64 v35 fun (n37 : Int) ↦
  bmatch (n37 == (90 : Int)) (T (9 : Nat) [] σ36 fun (v38 : Value) (σ39 : AS) ↦ tB v38 fun (b40 : Bool) ↦ K (Value.bool b40) σ39)
  (T (16 : Nat) [Value.slice (Sl.a s7) (Sl.n s7) (1 : Nat), Value.slice (Sl.a s28) (Sl.n s28) (1 : Nat)] σ36
  fun (v41 : Value) (σ42 : AS) ↦
  tB v41 fun (b43 : Bool) ↦
  bmatch b43
  (bmatch (b10 == b31)
  (bmatch (n13 == n34) (T (9 : Nat) [] σ42 fun (v44 : Value) (σ45 : AS) ↦ tB v44 fun (b46 : Bool) ↦ K (Value.bool b46) σ45)
  (K (Value.bool Bool.false) σ42))
  (K (Value.bool Bool.false) σ42))
  (K (Value.bool Bool.false) σ42))) := by
  intros
  kernel_rfl

end Go.AI
end
section
/- The conditions ahead of the calls of the program's functions, reckoned as far as they go (equations that the kernel checks); no condition. -/
set_option maxRecDepth 1000000
set_option linter.unusedVariables false
namespace Go.AI
open Go.Proofs
theorem s64 : ∀ (T : Ct) (c : Nat) (σ : AS) (K : Value → AS → Prop),
  fw Proofs.Try.prog hintsS T (64 : Nat) [Value.pointer (Option.some (Addr.mk c (0 : Nat) Option.none))] σ K =
  ldc σ (Addr.mk c (0 : Nat) Option.none) fun (v0 : Value) ↦
  tI IntKind.u64 v0 fun (n1 : Int) ↦
  ldc σ (Addr.mk c (0 : Nat) Option.none) fun (v2 : Value) ↦
  tI IntKind.u64 v2 fun (n3 : Int) ↦
  put1 σ (Addr.mk c (0 : Nat) Option.none) (Value.int IntKind.u64 (ixor IntKind.u64 n1 (ishl IntKind.u64 n3 (13 : Int)))) fun (σ4 : AS) ↦
  ldc σ4 (Addr.mk c (0 : Nat) Option.none) fun (v5 : Value) ↦
  tI IntKind.u64 v5 fun (n6 : Int) ↦
  ldc σ4 (Addr.mk c (0 : Nat) Option.none) fun (v7 : Value) ↦
  tI IntKind.u64 v7 fun (n8 : Int) ↦
  put1 σ4 (Addr.mk c (0 : Nat) Option.none) (Value.int IntKind.u64 (ixor IntKind.u64 n6 (ishr IntKind.u64 n8 (7 : Int)))) fun (σ9 : AS) ↦
  ldc σ9 (Addr.mk c (0 : Nat) Option.none) fun (v10 : Value) ↦
  tI IntKind.u64 v10 fun (n11 : Int) ↦
  ldc σ9 (Addr.mk c (0 : Nat) Option.none) fun (v12 : Value) ↦
  tI IntKind.u64 v12 fun (n13 : Int) ↦
  put1 σ9 (Addr.mk c (0 : Nat) Option.none) (Value.int IntKind.u64 (ixor IntKind.u64 n11 (ishl IntKind.u64 n13 (17 : Int)))) fun (σ14 : AS) ↦
  ldc σ14 (Addr.mk c (0 : Nat) Option.none) fun (v15 : Value) ↦ tI IntKind.u64 v15 fun (n16 : Int) ↦ K (Value.int IntKind.u64 n16) σ14 := by
  intros
  kernel_rfl

theorem s61 : ∀ (T : Ct) (l : Int) (σ : AS) (K : Value → AS → Prop),
  fw Proofs.Try.prog hintsS T (61 : Nat) [Value.int IntKind.u64 l] σ K =
  bmatch (Decidable.decide (l ≥ (4294967296 : Int)))
  (bmatch (Decidable.decide (ishr IntKind.u64 l (32 : Int) ≥ (65536 : Int)))
  (bmatch (Decidable.decide (ishr IntKind.u64 (ishr IntKind.u64 l (32 : Int)) (16 : Int) ≥ (256 : Int)))
  (req ((0 : Int) ≤ IntKind.wrap IntKind.u8 (ishr IntKind.u64 (ishr IntKind.u64 (ishr IntKind.u64 l (32 : Int)) (16 : Int)) (8 : Int)))
  (req
  (IntKind.wrap IntKind.u8 (ishr IntKind.u64 (ishr IntKind.u64 (ishr IntKind.u64 l (32 : Int)) (16 : Int)) (8 : Int)) <
  (↑(ByteArray.size
  (ByteArray.mk
  (List.toArray
  (List.append
  (List.append
  [(0 : UInt8), (1 : UInt8), (2 : UInt8), (2 : UInt8), (3 : UInt8), (3 : UInt8), (3 : UInt8), (3 : UInt8), (4 : UInt8), (4 : UInt8), (4 : UInt8), (4 : UInt8), (4 : UInt8), (4 : UInt8),
  (4 : UInt8), (4 : UInt8), (5 : UInt8), (5 : UInt8), (5 : UInt8), (5 : UInt8), (5 : UInt8), (5 : UInt8), (5 : UInt8), (5 : UInt8), (5 : UInt8), (5 : UInt8), (5 : UInt8), (5 : UInt8),
  (5 : UInt8), (5 : UInt8), (5 : UInt8), (5 : UInt8), (6 : UInt8), (6 : UInt8), (6 : UInt8), (6 : UInt8), (6 : UInt8), (6 : UInt8), (6 : UInt8), (6 : UInt8), (6 : UInt8), (6 : UInt8),
  (6 : UInt8), (6 : UInt8), (6 : UInt8), (6 : UInt8), (6 : UInt8), (6 : UInt8), (6 : UInt8), (6 : UInt8), (6 : UInt8), (6 : UInt8), (6 : UInt8), (6 : UInt8), (6 : UInt8), (6 : UInt8),
  (6 : UInt8), (6 : UInt8), (6 : UInt8), (6 : UInt8), (6 : UInt8), (6 : UInt8), (6 : UInt8), (6 : UInt8)]
  [(7 : UInt8), (7 : UInt8), (7 : UInt8), (7 : UInt8), (7 : UInt8), (7 : UInt8), (7 : UInt8), (7 : UInt8), (7 : UInt8), (7 : UInt8), (7 : UInt8), (7 : UInt8), (7 : UInt8), (7 : UInt8),
  (7 : UInt8), (7 : UInt8), (7 : UInt8), (7 : UInt8), (7 : UInt8), (7 : UInt8), (7 : UInt8), (7 : UInt8), (7 : UInt8), (7 : UInt8), (7 : UInt8), (7 : UInt8), (7 : UInt8), (7 : UInt8),
  (7 : UInt8), (7 : UInt8), (7 : UInt8), (7 : UInt8), (7 : UInt8), (7 : UInt8), (7 : UInt8), (7 : UInt8), (7 : UInt8), (7 : UInt8), (7 : UInt8), (7 : UInt8), (7 : UInt8), (7 : UInt8),
  (7 : UInt8), (7 : UInt8), (7 : UInt8), (7 : UInt8), (7 : UInt8), (7 : UInt8), (7 : UInt8), (7 : UInt8), (7 : UInt8), (7 : UInt8), (7 : UInt8), (7 : UInt8), (7 : UInt8), (7 : UInt8),
  (7 : UInt8), (7 : UInt8), (7 : UInt8), (7 : UInt8), (7 : UInt8), (7 : UInt8), (7 : UInt8), (7 : UInt8)])
  (List.append
  [(8 : UInt8), (8 : UInt8), (8 : UInt8), (8 : UInt8), (8 : UInt8), (8 : UInt8), (8 : UInt8), (8 : UInt8), (8 : UInt8), (8 : UInt8), (8 : UInt8), (8 : UInt8), (8 : UInt8), (8 : UInt8),
  (8 : UInt8), (8 : UInt8), (8 : UInt8), (8 : UInt8), (8 : UInt8), (8 : UInt8), (8 : UInt8), (8 : UInt8), (8 : UInt8), (8 : UInt8), (8 : UInt8), (8 : UInt8), (8 : UInt8), (8 : UInt8),
  (8 : UInt8), (8 : UInt8), (8 : UInt8), (8 : UInt8), (8 : UInt8), (8 : UInt8), (8 : UInt8), (8 : UInt8), (8 : UInt8), (8 : UInt8), (8 : UInt8), (8 : UInt8), (8 : UInt8), (8 : UInt8),
  (8 : UInt8), (8 : UInt8), (8 : UInt8), (8 : UInt8), (8 : UInt8), (8 : UInt8), (8 : UInt8), (8 : UInt8), (8 : UInt8), (8 : UInt8), (8 : UInt8), (8 : UInt8), (8 : UInt8), (8 : UInt8),
  (8 : UInt8), (8 : UInt8), (8 : UInt8), (8 : UInt8), (8 : UInt8), (8 : UInt8), (8 : UInt8), (8 : UInt8)]
  [(8 : UInt8), (8 : UInt8), (8 : UInt8), (8 : UInt8), (8 : UInt8), (8 : UInt8), (8 : UInt8), (8 : UInt8), (8 : UInt8), (8 : UInt8), (8 : UInt8), (8 : UInt8), (8 : UInt8), (8 : UInt8),
  (8 : UInt8), (8 : UInt8), (8 : UInt8), (8 : UInt8), (8 : UInt8), (8 : UInt8), (8 : UInt8), (8 : UInt8), (8 : UInt8), (8 : UInt8), (8 : UInt8), (8 : UInt8), (8 : UInt8), (8 : UInt8),
  (8 : UInt8), (8 : UInt8), (8 : UInt8), (8 : UInt8), (8 : UInt8), (8 : UInt8), (8 : UInt8), (8 : UInt8), (8 : UInt8), (8 : UInt8), (8 : UInt8), (8 : UInt8), (8 : UInt8), (8 : UInt8),
  (8 : UInt8), (8 : UInt8), (8 : UInt8), (8 : UInt8), (8 : UInt8), (8 : UInt8), (8 : UInt8), (8 : UInt8), (8 : UInt8), (8 : UInt8), (8 : UInt8), (8 : UInt8), (8 : UInt8), (8 : UInt8),
  (8 : UInt8), (8 : UInt8), (8 : UInt8), (8 : UInt8), (8 : UInt8), (8 : UInt8), (8 : UInt8), (8 : UInt8)]))))) :
  Int))
  (K
  (Value.int IntKind.i64
  (IntKind.wrap IntKind.i64
  (IntKind.wrap IntKind.i64 (IntKind.wrap IntKind.i64 ((32 : Int) + (16 : Int)) + (8 : Int)) +
  IntKind.wrap IntKind.i64
  (↑(UInt8.toNat
  (List.getD
  (List.append
  (List.append
  [(0 : UInt8), (1 : UInt8), (2 : UInt8), (2 : UInt8), (3 : UInt8), (3 : UInt8), (3 : UInt8), (3 : UInt8), (4 : UInt8), (4 : UInt8), (4 : UInt8), (4 : UInt8), (4 : UInt8), (4 : UInt8),
  (4 : UInt8), (4 : UInt8), (5 : UInt8), (5 : UInt8), (5 : UInt8), (5 : UInt8), (5 : UInt8), (5 : UInt8), (5 : UInt8), (5 : UInt8), (5 : UInt8), (5 : UInt8), (5 : UInt8), (5 : UInt8),
  (5 : UInt8), (5 : UInt8), (5 : UInt8), (5 : UInt8), (6 : UInt8), (6 : UInt8), (6 : UInt8), (6 : UInt8), (6 : UInt8), (6 : UInt8), (6 : UInt8), (6 : UInt8), (6 : UInt8), (6 : UInt8),
  (6 : UInt8), (6 : UInt8), (6 : UInt8), (6 : UInt8), (6 : UInt8), (6 : UInt8), (6 : UInt8), (6 : UInt8), (6 : UInt8), (6 : UInt8), (6 : UInt8), (6 : UInt8), (6 : UInt8), (6 : UInt8),
  (6 : UInt8), (6 : UInt8), (6 : UInt8), (6 : UInt8), (6 : UInt8), (6 : UInt8), (6 : UInt8), (6 : UInt8)]
  [(7 : UInt8), (7 : UInt8), (7 : UInt8), (7 : UInt8), (7 : UInt8), (7 : UInt8), (7 : UInt8), (7 : UInt8), (7 : UInt8), (7 : UInt8), (7 : UInt8), (7 : UInt8), (7 : UInt8), (7 : UInt8),
  (7 : UInt8), (7 : UInt8), (7 : UInt8), (7 : UInt8), (7 : UInt8), (7 : UInt8), (7 : UInt8), (7 : UInt8), (7 : UInt8), (7 : UInt8), (7 : UInt8), (7 : UInt8), (7 : UInt8), (7 : UInt8),
  (7 : UInt8), (7 : UInt8), (7 : UInt8), (7 : UInt8), (7 : UInt8), (7 : UInt8), (7 : UInt8), (7 : UInt8), (7 : UInt8), (7 : UInt8), (7 : UInt8), (7 : UInt8), (7 : UInt8), (7 : UInt8),
  (7 : UInt8), (7 : UInt8), (7 : UInt8), (7 : UInt8), (7 : UInt8), (7 : UInt8), (7 : UInt8), (7 : UInt8), (7 : UInt8), (7 : UInt8), (7 : UInt8), (7 : UInt8), (7 : UInt8), (7 : UInt8),
  (7 : UInt8), (7 : UInt8), (7 : UInt8), (7 : UInt8), (7 : UInt8), (7 : UInt8), (7 : UInt8), (7 : UInt8)])
  (List.append
  [(8 : UInt8), (8 : UInt8), (8 : UInt8), (8 : UInt8), (8 : UInt8), (8 : UInt8), (8 : UInt8), (8 : UInt8), (8 : UInt8), (8 : UInt8), (8 : UInt8), (8 : UInt8), (8 : UInt8), (8 : UInt8),
  (8 : UInt8), (8 : UInt8), (8 : UInt8), (8 : UInt8), (8 : UInt8), (8 : UInt8), (8 : UInt8), (8 : UInt8), (8 : UInt8), (8 : UInt8), (8 : UInt8), (8 : UInt8), (8 : UInt8), (8 : UInt8),
  (8 : UInt8), (8 : UInt8), (8 : UInt8), (8 : UInt8), (8 : UInt8), (8 : UInt8), (8 : UInt8), (8 : UInt8), (8 : UInt8), (8 : UInt8), (8 : UInt8), (8 : UInt8), (8 : UInt8), (8 : UInt8),
  (8 : UInt8), (8 : UInt8), (8 : UInt8), (8 : UInt8), (8 : UInt8), (8 : UInt8), (8 : UInt8), (8 : UInt8), (8 : UInt8), (8 : UInt8), (8 : UInt8), (8 : UInt8), (8 : UInt8), (8 : UInt8),
  (8 : UInt8), (8 : UInt8), (8 : UInt8), (8 : UInt8), (8 : UInt8), (8 : UInt8), (8 : UInt8), (8 : UInt8)]
  [(8 : UInt8), (8 : UInt8), (8 : UInt8), (8 : UInt8), (8 : UInt8), (8 : UInt8), (8 : UInt8), (8 : UInt8), (8 : UInt8), (8 : UInt8), (8 : UInt8), (8 : UInt8), (8 : UInt8), (8 : UInt8),
  (8 : UInt8), (8 : UInt8), (8 : UInt8), (8 : UInt8), (8 : UInt8), (8 : UInt8), (8 : UInt8), (8 : UInt8), (8 : UInt8), (8 : UInt8), (8 : UInt8), (8 : UInt8), (8 : UInt8), (8 : UInt8),
  (8 : UInt8), (8 : UInt8), (8 : UInt8), (8 : UInt8), (8 : UInt8), (8 : UInt8), (8 : UInt8), (8 : UInt8), (8 : UInt8), (8 : UInt8), (8 : UInt8), (8 : UInt8), (8 : UInt8), (8 : UInt8),
  (8 : UInt8), (8 : UInt8), (8 : UInt8), (8 : UInt8), (8 : UInt8), (8 : UInt8), (8 : UInt8), (8 : UInt8), (8 : UInt8), (8 : UInt8), (8 : UInt8), (8 : UInt8), (8 : UInt8), (8 : UInt8),
  (8 : UInt8), (8 : UInt8), (8 : UInt8), (8 : UInt8), (8 : UInt8), (8 : UInt8), (8 : UInt8), (8 : UInt8)]))
  (Int.toNat (IntKind.wrap IntKind.u8 (ishr IntKind.u64 (ishr IntKind.u64 (ishr IntKind.u64 l (32 : Int)) (16 : Int)) (8 : Int)))) (0 : UInt8))) :
  Int))))
  σ)))
  (req ((0 : Int) ≤ IntKind.wrap IntKind.u8 (ishr IntKind.u64 (ishr IntKind.u64 l (32 : Int)) (16 : Int)))
  (req
  (IntKind.wrap IntKind.u8 (ishr IntKind.u64 (ishr IntKind.u64 l (32 : Int)) (16 : Int)) <
  (↑(ByteArray.size
  (ByteArray.mk
  (List.toArray
  (List.append
  (List.append
  [(0 : UInt8), (1 : UInt8), (2 : UInt8), (2 : UInt8), (3 : UInt8), (3 : UInt8), (3 : UInt8), (3 : UInt8), (4 : UInt8), (4 : UInt8), (4 : UInt8), (4 : UInt8), (4 : UInt8), (4 : UInt8),
  (4 : UInt8), (4 : UInt8), (5 : UInt8), (5 : UInt8), (5 : UInt8), (5 : UInt8), (5 : UInt8), (5 : UInt8), (5 : UInt8), (5 : UInt8), (5 : UInt8), (5 : UInt8), (5 : UInt8), (5 : UInt8),
  (5 : UInt8), (5 : UInt8), (5 : UInt8), (5 : UInt8), (6 : UInt8), (6 : UInt8), (6 : UInt8), (6 : UInt8), (6 : UInt8), (6 : UInt8), (6 : UInt8), (6 : UInt8), (6 : UInt8), (6 : UInt8),
  (6 : UInt8), (6 : UInt8), (6 : UInt8), (6 : UInt8), (6 : UInt8), (6 : UInt8), (6 : UInt8), (6 : UInt8), (6 : UInt8), (6 : UInt8), (6 : UInt8), (6 : UInt8), (6 : UInt8), (6 : UInt8),
  (6 : UInt8), (6 : UInt8), (6 : UInt8), (6 : UInt8), (6 : UInt8), (6 : UInt8), (6 : UInt8), (6 : UInt8)]
  [(7 : UInt8), (7 : UInt8), (7 : UInt8), (7 : UInt8), (7 : UInt8), (7 : UInt8), (7 : UInt8), (7 : UInt8), (7 : UInt8), (7 : UInt8), (7 : UInt8), (7 : UInt8), (7 : UInt8), (7 : UInt8),
  (7 : UInt8), (7 : UInt8), (7 : UInt8), (7 : UInt8), (7 : UInt8), (7 : UInt8), (7 : UInt8), (7 : UInt8), (7 : UInt8), (7 : UInt8), (7 : UInt8), (7 : UInt8), (7 : UInt8), (7 : UInt8),
  (7 : UInt8), (7 : UInt8), (7 : UInt8), (7 : UInt8), (7 : UInt8), (7 : UInt8), (7 : UInt8), (7 : UInt8), (7 : UInt8), (7 : UInt8), (7 : UInt8), (7 : UInt8), (7 : UInt8), (7 : UInt8),
  (7 : UInt8), (7 : UInt8), (7 : UInt8), (7 : UInt8), (7 : UInt8), (7 : UInt8), (7 : UInt8), (7 : UInt8), (7 : UInt8), (7 : UInt8), (7 : UInt8), (7 : UInt8), (7 : UInt8), (7 : UInt8),
  (7 : UInt8), (7 : UInt8), (7 : UInt8), (7 : UInt8), (7 : UInt8), (7 : UInt8), (7 : UInt8), (7 : UInt8)])
  (List.append
  [(8 : UInt8), (8 : UInt8), (8 : UInt8), (8 : UInt8), (8 : UInt8), (8 : UInt8), (8 : UInt8), (8 : UInt8), (8 : UInt8), (8 : UInt8), (8 : UInt8), (8 : UInt8), (8 : UInt8), (8 : UInt8),
  (8 : UInt8), (8 : UInt8), (8 : UInt8), (8 : UInt8), (8 : UInt8), (8 : UInt8), (8 : UInt8), (8 : UInt8), (8 : UInt8), (8 : UInt8), (8 : UInt8), (8 : UInt8), (8 : UInt8), (8 : UInt8),
  (8 : UInt8), (8 : UInt8), (8 : UInt8), (8 : UInt8), (8 : UInt8), (8 : UInt8), (8 : UInt8), (8 : UInt8), (8 : UInt8), (8 : UInt8), (8 : UInt8), (8 : UInt8), (8 : UInt8), (8 : UInt8),
  (8 : UInt8), (8 : UInt8), (8 : UInt8), (8 : UInt8), (8 : UInt8), (8 : UInt8), (8 : UInt8), (8 : UInt8), (8 : UInt8), (8 : UInt8), (8 : UInt8), (8 : UInt8), (8 : UInt8), (8 : UInt8),
  (8 : UInt8), (8 : UInt8), (8 : UInt8), (8 : UInt8), (8 : UInt8), (8 : UInt8), (8 : UInt8), (8 : UInt8)]
  [(8 : UInt8), (8 : UInt8), (8 : UInt8), (8 : UInt8), (8 : UInt8), (8 : UInt8), (8 : UInt8), (8 : UInt8), (8 : UInt8), (8 : UInt8), (8 : UInt8), (8 : UInt8), (8 : UInt8), (8 : UInt8),
  (8 : UInt8), (8 : UInt8), (8 : UInt8), (8 : UInt8), (8 : UInt8), (8 : UInt8), (8 : UInt8), (8 : UInt8), (8 : UInt8), (8 : UInt8), (8 : UInt8), (8 : UInt8), (8 : UInt8), (8 : UInt8),
  (8 : UInt8), (8 : UInt8), (8 : UInt8), (8 : UInt8), (8 : UInt8), (8 : UInt8), (8 : UInt8), (8 : UInt8), (8 : UInt8), (8 : UInt8), (8 : UInt8), (8 : UInt8), (8 : UInt8), (8 : UInt8),
  (8 : UInt8), (8 : UInt8), (8 : UInt8), (8 : UInt8), (8 : UInt8), (8 : UInt8), (8 : UInt8), (8 : UInt8), (8 : UInt8), (8 : UInt8), (8 : UInt8), (8 : UInt8), (8 : UInt8), (8 : UInt8),
  (8 : UInt8), (8 : UInt8), (8 : UInt8), (8 : UInt8), (8 : UInt8), (8 : UInt8), (8 : UInt8), (8 : UInt8)]))))) :
  Int))
  (K
  (Value.int IntKind.i64
  (IntKind.wrap IntKind.i64
  (IntKind.wrap IntKind.i64 ((32 : Int) + (16 : Int)) +
  IntKind.wrap IntKind.i64
  (↑(UInt8.toNat
  (List.getD
  (List.append
  (List.append
  [(0 : UInt8), (1 : UInt8), (2 : UInt8), (2 : UInt8), (3 : UInt8), (3 : UInt8), (3 : UInt8), (3 : UInt8), (4 : UInt8), (4 : UInt8), (4 : UInt8), (4 : UInt8), (4 : UInt8), (4 : UInt8),
  (4 : UInt8), (4 : UInt8), (5 : UInt8), (5 : UInt8), (5 : UInt8), (5 : UInt8), (5 : UInt8), (5 : UInt8), (5 : UInt8), (5 : UInt8), (5 : UInt8), (5 : UInt8), (5 : UInt8), (5 : UInt8),
  (5 : UInt8), (5 : UInt8), (5 : UInt8), (5 : UInt8), (6 : UInt8), (6 : UInt8), (6 : UInt8), (6 : UInt8), (6 : UInt8), (6 : UInt8), (6 : UInt8), (6 : UInt8), (6 : UInt8), (6 : UInt8),
  (6 : UInt8), (6 : UInt8), (6 : UInt8), (6 : UInt8), (6 : UInt8), (6 : UInt8), (6 : UInt8), (6 : UInt8), (6 : UInt8), (6 : UInt8), (6 : UInt8), (6 : UInt8), (6 : UInt8), (6 : UInt8),
  (6 : UInt8), (6 : UInt8), (6 : UInt8), (6 : UInt8), (6 : UInt8), (6 : UInt8), (6 : UInt8), (6 : UInt8)]
  [(7 : UInt8), (7 : UInt8), (7 : UInt8), (7 : UInt8), (7 : UInt8), (7 : UInt8), (7 : UInt8), (7 : UInt8), (7 : UInt8), (7 : UInt8), (7 : UInt8), (7 : UInt8), (7 : UInt8), (7 : UInt8),
  (7 : UInt8), (7 : UInt8), (7 : UInt8), (7 : UInt8), (7 : UInt8), (7 : UInt8), (7 : UInt8), (7 : UInt8), (7 : UInt8), (7 : UInt8), (7 : UInt8), (7 : UInt8), (7 : UInt8), (7 : UInt8),
  (7 : UInt8), (7 : UInt8), (7 : UInt8), (7 : UInt8), (7 : UInt8), (7 : UInt8), (7 : UInt8), (7 : UInt8), (7 : UInt8), (7 : UInt8), (7 : UInt8), (7 : UInt8), (7 : UInt8), (7 : UInt8),
  (7 : UInt8), (7 : UInt8), (7 : UInt8), (7 : UInt8), (7 : UInt8), (7 : UInt8), (7 : UInt8), (7 : UInt8), (7 : UInt8), (7 : UInt8), (7 : UInt8), (7 : UInt8), (7 : UInt8), (7 : UInt8),
  (7 : UInt8), (7 : UInt8), (7 : UInt8), (7 : UInt8), (7 : UInt8), (7 : UInt8), (7 : UInt8), (7 : UInt8)])
  (List.append
  [(8 : UInt8), (8 : UInt8), (8 : UInt8), (8 : UInt8), (8 : UInt8), (8 : UInt8), (8 : UInt8), (8 : UInt8), (8 : UInt8), (8 : UInt8), (8 : UInt8), (8 : UInt8), (8 : UInt8), (8 : UInt8),
  (8 : UInt8), (8 : UInt8), (8 : UInt8), (8 : UInt8), (8 : UInt8), (8 : UInt8), (8 : UInt8), (8 : UInt8), (8 : UInt8), (8 : UInt8), (8 : UInt8), (8 : UInt8), (8 : UInt8), (8 : UInt8),
  (8 : UInt8), (8 : UInt8), (8 : UInt8), (8 : UInt8), (8 : UInt8), (8 : UInt8), (8 : UInt8), (8 : UInt8), (8 : UInt8), (8 : UInt8), (8 : UInt8), (8 : UInt8), (8 : UInt8), (8 : UInt8),
  (8 : UInt8), (8 : UInt8), (8 : UInt8), (8 : UInt8), (8 : UInt8), (8 : UInt8), (8 : UInt8), (8 : UInt8), (8 : UInt8), (8 : UInt8), (8 : UInt8), (8 : UInt8), (8 : UInt8), (8 : UInt8),
  (8 : UInt8), (8 : UInt8), (8 : UInt8), (8 : UInt8), (8 : UInt8), (8 : UInt8), (8 : UInt8), (8 : UInt8)]
  [(8 : UInt8), (8 : UInt8), (8 : UInt8), (8 : UInt8), (8 : UInt8), (8 : UInt8), (8 : UInt8), (8 : UInt8), (8 : UInt8), (8 : UInt8), (8 : UInt8), (8 : UInt8), (8 : UInt8), (8 : UInt8),
  (8 : UInt8), (8 : UInt8), (8 : UInt8), (8 : UInt8), (8 : UInt8), (8 : UInt8), (8 : UInt8), (8 : UInt8), (8 : UInt8), (8 : UInt8), (8 : UInt8), (8 : UInt8), (8 : UInt8), (8 : UInt8),
  (8 : UInt8), (8 : UInt8), (8 : UInt8), (8 : UInt8), (8 : UInt8), (8 : UInt8), (8 : UInt8), (8 : UInt8), (8 : UInt8), (8 : UInt8), (8 : UInt8), (8 : UInt8), (8 : UInt8), (8 : UInt8),
  (8 : UInt8), (8 : UInt8), (8 : UInt8), (8 : UInt8), (8 : UInt8), (8 : UInt8), (8 : UInt8), (8 : UInt8), (8 : UInt8), (8 : UInt8), (8 : UInt8), (8 : UInt8), (8 : UInt8), (8 : UInt8),
  (8 : UInt8), (8 : UInt8), (8 : UInt8), (8 : UInt8), (8 : UInt8), (8 : UInt8), (8 : UInt8), (8 : UInt8)]))
  (Int.toNat (IntKind.wrap IntKind.u8 (ishr IntKind.u64 (ishr IntKind.u64 l (32 : Int)) (16 : Int)))) (0 : UInt8))) :
  Int))))
  σ))))
  (bmatch (Decidable.decide (ishr IntKind.u64 l (32 : Int) ≥ (256 : Int)))
  (req ((0 : Int) ≤ IntKind.wrap IntKind.u8 (ishr IntKind.u64 (ishr IntKind.u64 l (32 : Int)) (8 : Int)))
  (req
  (IntKind.wrap IntKind.u8 (ishr IntKind.u64 (ishr IntKind.u64 l (32 : Int)) (8 : Int)) <
  (↑(ByteArray.size
  (ByteArray.mk
  (List.toArray
  (List.append
  (List.append
  [(0 : UInt8), (1 : UInt8), (2 : UInt8), (2 : UInt8), (3 : UInt8), (3 : UInt8), (3 : UInt8), (3 : UInt8), (4 : UInt8), (4 : UInt8), (4 : UInt8), (4 : UInt8), (4 : UInt8), (4 : UInt8),
  (4 : UInt8), (4 : UInt8), (5 : UInt8), (5 : UInt8), (5 : UInt8), (5 : UInt8), (5 : UInt8), (5 : UInt8), (5 : UInt8), (5 : UInt8), (5 : UInt8), (5 : UInt8), (5 : UInt8), (5 : UInt8),
  (5 : UInt8), (5 : UInt8), (5 : UInt8), (5 : UInt8), (6 : UInt8), (6 : UInt8), (6 : UInt8), (6 : UInt8), (6 : UInt8), (6 : UInt8), (6 : UInt8), (6 : UInt8), (6 : UInt8), (6 : UInt8),
  (6 : UInt8), (6 : UInt8), (6 : UInt8), (6 : UInt8), (6 : UInt8), (6 : UInt8), (6 : UInt8), (6 : UInt8), (6 : UInt8), (6 : UInt8), (6 : UInt8), (6 : UInt8), (6 : UInt8), (6 : UInt8),
  (6 : UInt8), (6 : UInt8), (6 : UInt8), (6 : UInt8), (6 : UInt8), (6 : UInt8), (6 : UInt8), (6 : UInt8)]
  [(7 : UInt8), (7 : UInt8), (7 : UInt8), (7 : UInt8), (7 : UInt8), (7 : UInt8), (7 : UInt8), (7 : UInt8), (7 : UInt8), (7 : UInt8), (7 : UInt8), (7 : UInt8), (7 : UInt8), (7 : UInt8),
  (7 : UInt8), (7 : UInt8), (7 : UInt8), (7 : UInt8), (7 : UInt8), (7 : UInt8), (7 : UInt8), (7 : UInt8), (7 : UInt8), (7 : UInt8), (7 : UInt8), (7 : UInt8), (7 : UInt8), (7 : UInt8),
  (7 : UInt8), (7 : UInt8), (7 : UInt8), (7 : UInt8), (7 : UInt8), (7 : UInt8), (7 : UInt8), (7 : UInt8), (7 : UInt8), (7 : UInt8), (7 : UInt8), (7 : UInt8), (7 : UInt8), (7 : UInt8),
  (7 : UInt8), (7 : UInt8), (7 : UInt8), (7 : UInt8), (7 : UInt8), (7 : UInt8), (7 : UInt8), (7 : UInt8), (7 : UInt8), (7 : UInt8), (7 : UInt8), (7 : UInt8), (7 : UInt8), (7 : UInt8),
  (7 : UInt8), (7 : UInt8), (7 : UInt8), (7 : UInt8), (7 : UInt8), (7 : UInt8), (7 : UInt8), (7 : UInt8)])
  (List.append
  [(8 : UInt8), (8 : UInt8), (8 : UInt8), (8 : UInt8), (8 : UInt8), (8 : UInt8), (8 : UInt8), (8 : UInt8), (8 : UInt8), (8 : UInt8), (8 : UInt8), (8 : UInt8), (8 : UInt8), (8 : UInt8),
  (8 : UInt8), (8 : UInt8), (8 : UInt8), (8 : UInt8), (8 : UInt8), (8 : UInt8), (8 : UInt8), (8 : UInt8), (8 : UInt8), (8 : UInt8), (8 : UInt8), (8 : UInt8), (8 : UInt8), (8 : UInt8),
  (8 : UInt8), (8 : UInt8), (8 : UInt8), (8 : UInt8), (8 : UInt8), (8 : UInt8), (8 : UInt8), (8 : UInt8), (8 : UInt8), (8 : UInt8), (8 : UInt8), (8 : UInt8), (8 : UInt8), (8 : UInt8),
  (8 : UInt8), (8 : UInt8), (8 : UInt8), (8 : UInt8), (8 : UInt8), (8 : UInt8), (8 : UInt8), (8 : UInt8), (8 : UInt8), (8 : UInt8), (8 : UInt8), (8 : UInt8), (8 : UInt8), (8 : UInt8),
  (8 : UInt8), (8 : UInt8), (8 : UInt8), (8 : UInt8), (8 : UInt8), (8 : UInt8), (8 : UInt8), (8 : UInt8)]
  [(8 : UInt8), (8 : UInt8), (8 : UInt8), (8 : UInt8), (8 : UInt8), (8 : UInt8), (8 : UInt8), (8 : UInt8), (8 : UInt8), (8 : UInt8), (8 : UInt8), (8 : UInt8), (8 : UInt8), (8 : UInt8),
  (8 : UInt8), (8 : UInt8), (8 : UInt8), (8 : UInt8), (8 : UInt8), (8 : UInt8), (8 : UInt8), (8 : UInt8), (8 : UInt8), (8 : UInt8), (8 : UInt8), (8 : UInt8), (8 : UInt8), (8 : UInt8),
  (8 : UInt8), (8 : UInt8), (8 : UInt8), (8 : UInt8), (8 : UInt8), (8 : UInt8), (8 : UInt8), (8 : UInt8), (8 : UInt8), (8 : UInt8), (8 : UInt8), (8 : UInt8), (8 : UInt8), (8 : UInt8),
  (8 : UInt8), (8 : UInt8), (8 : UInt8), (8 : UInt8), (8 : UInt8), (8 : UInt8), (8 : UInt8), (8 : UInt8), (8 : UInt8), (8 : UInt8), (8 : UInt8), (8 : UInt8), (8 : UInt8), (8 : UInt8),
  (8 : UInt8), (8 : UInt8), (8 : UInt8), (8 : UInt8), (8 : UInt8), (8 : UInt8), (8 : UInt8), (8 : UInt8)]))))) :
  Int))
  (K
  (Value.int IntKind.i64
  (IntKind.wrap IntKind.i64
  (IntKind.wrap IntKind.i64 ((32 : Int) + (8 : Int)) +
  IntKind.wrap IntKind.i64
  (↑(UInt8.toNat
  (List.getD
  (List.append
  (List.append
  [(0 : UInt8), (1 : UInt8), (2 : UInt8), (2 : UInt8), (3 : UInt8), (3 : UInt8), (3 : UInt8), (3 : UInt8), (4 : UInt8), (4 : UInt8), (4 : UInt8), (4 : UInt8), (4 : UInt8), (4 : UInt8),
  (4 : UInt8), (4 : UInt8), (5 : UInt8), (5 : UInt8), (5 : UInt8), (5 : UInt8), (5 : UInt8), (5 : UInt8), (5 : UInt8), (5 : UInt8), (5 : UInt8), (5 : UInt8), (5 : UInt8), (5 : UInt8),
  (5 : UInt8), (5 : UInt8), (5 : UInt8), (5 : UInt8), (6 : UInt8), (6 : UInt8), (6 : UInt8), (6 : UInt8), (6 : UInt8), (6 : UInt8), (6 : UInt8), (6 : UInt8), (6 : UInt8), (6 : UInt8),
  (6 : UInt8), (6 : UInt8), (6 : UInt8), (6 : UInt8), (6 : UInt8), (6 : UInt8), (6 : UInt8), (6 : UInt8), (6 : UInt8), (6 : UInt8), (6 : UInt8), (6 : UInt8), (6 : UInt8), (6 : UInt8),
  (6 : UInt8), (6 : UInt8), (6 : UInt8), (6 : UInt8), (6 : UInt8), (6 : UInt8), (6 : UInt8), (6 : UInt8)]
  [(7 : UInt8), (7 : UInt8), (7 : UInt8), (7 : UInt8), (7 : UInt8), (7 : UInt8), (7 : UInt8), (7 : UInt8), (7 : UInt8), (7 : UInt8), (7 : UInt8), (7 : UInt8), (7 : UInt8), (7 : UInt8),
  (7 : UInt8), (7 : UInt8), (7 : UInt8), (7 : UInt8), (7 : UInt8), (7 : UInt8), (7 : UInt8), (7 : UInt8), (7 : UInt8), (7 : UInt8), (7 : UInt8), (7 : UInt8), (7 : UInt8), (7 : UInt8),
  (7 : UInt8), (7 : UInt8), (7 : UInt8), (7 : UInt8), (7 : UInt8), (7 : UInt8), (7 : UInt8), (7 : UInt8), (7 : UInt8), (7 : UInt8), (7 : UInt8), (7 : UInt8), (7 : UInt8), (7 : UInt8),
  (7 : UInt8), (7 : UInt8), (7 : UInt8), (7 : UInt8), (7 : UInt8), (7 : UInt8), (7 : UInt8), (7 : UInt8), (7 : UInt8), (7 : UInt8), (7 : UInt8), (7 : UInt8), (7 : UInt8), (7 : UInt8),
  (7 : UInt8), (7 : UInt8), (7 : UInt8), (7 : UInt8), (7 : UInt8), (7 : UInt8), (7 : UInt8), (7 : UInt8)])
  (List.append
  [(8 : UInt8), (8 : UInt8), (8 : UInt8), (8 : UInt8), (8 : UInt8), (8 : UInt8), (8 : UInt8), (8 : UInt8), (8 : UInt8), (8 : UInt8), (8 : UInt8), (8 : UInt8), (8 : UInt8), (8 : UInt8),
  (8 : UInt8), (8 : UInt8), (8 : UInt8), (8 : UInt8), (8 : UInt8), (8 : UInt8), (8 : UInt8), (8 : UInt8), (8 : UInt8), (8 : UInt8), (8 : UInt8), (8 : UInt8), (8 : UInt8), (8 : UInt8),
  (8 : UInt8), (8 : UInt8), (8 : UInt8), (8 : UInt8), (8 : UInt8), (8 : UInt8), (8 : UInt8), (8 : UInt8), (8 : UInt8), (8 : UInt8), (8 : UInt8), (8 : UInt8), (8 : UInt8), (8 : UInt8),
  (8 : UInt8), (8 : UInt8), (8 : UInt8), (8 : UInt8), (8 : UInt8), (8 : UInt8), (8 : UInt8), (8 : UInt8), (8 : UInt8), (8 : UInt8), (8 : UInt8), (8 : UInt8), (8 : UInt8), (8 : UInt8),
  (8 : UInt8), (8 : UInt8), (8 : UInt8), (8 : UInt8), (8 : UInt8), (8 : UInt8), (8 : UInt8), (8 : UInt8)]
  [(8 : UInt8), (8 : UInt8), (8 : UInt8), (8 : UInt8), (8 : UInt8), (8 : UInt8), (8 : UInt8), (8 : UInt8), (8 : UInt8), (8 : UInt8), (8 : UInt8), (8 : UInt8), (8 : UInt8), (8 : UInt8),
  (8 : UInt8), (8 : UInt8), (8 : UInt8), (8 : UInt8), (8 : UInt8), (8 : UInt8), (8 : UInt8), (8 : UInt8), (8 : UInt8), (8 : UInt8), (8 : UInt8), (8 : UInt8), (8 : UInt8), (8 : UInt8),
  (8 : UInt8), (8 : UInt8), (8 : UInt8), (8 : UInt8), (8 : UInt8), (8 : UInt8), (8 : UInt8), (8 : UInt8), (8 : UInt8), (8 : UInt8), (8 : UInt8), (8 : UInt8), (8 : UInt8), (8 : UInt8),
  (8 : UInt8), (8 : UInt8), (8 : UInt8), (8 : UInt8), (8 : UInt8), (8 : UInt8), (8 : UInt8), (8 : UInt8), (8 : UInt8), (8 : UInt8), (8 : UInt8), (8 : UInt8), (8 : UInt8), (8 : UInt8),
  (8 : UInt8), (8 : UInt8), (8 : UInt8), (8 : UInt8), (8 : UInt8), (8 : UInt8), (8 : UInt8), (8 : UInt8)]))
  (Int.toNat (IntKind.wrap IntKind.u8 (ishr IntKind.u64 (ishr IntKind.u64 l (32 : Int)) (8 : Int)))) (0 : UInt8))) :
  Int))))
  σ)))
  (req ((0 : Int) ≤ IntKind.wrap IntKind.u8 (ishr IntKind.u64 l (32 : Int)))
  (req
  (IntKind.wrap IntKind.u8 (ishr IntKind.u64 l (32 : Int)) <
  (↑(ByteArray.size
  (ByteArray.mk
  (List.toArray
  (List.append
  (List.append
  [(0 : UInt8), (1 : UInt8), (2 : UInt8), (2 : UInt8), (3 : UInt8), (3 : UInt8), (3 : UInt8), (3 : UInt8), (4 : UInt8), (4 : UInt8), (4 : UInt8), (4 : UInt8), (4 : UInt8), (4 : UInt8),
  (4 : UInt8), (4 : UInt8), (5 : UInt8), (5 : UInt8), (5 : UInt8), (5 : UInt8), (5 : UInt8), (5 : UInt8), (5 : UInt8), (5 : UInt8), (5 : UInt8), (5 : UInt8), (5 : UInt8), (5 : UInt8),
  (5 : UInt8), (5 : UInt8), (5 : UInt8), (5 : UInt8), (6 : UInt8), (6 : UInt8), (6 : UInt8), (6 : UInt8), (6 : UInt8), (6 : UInt8), (6 : UInt8), (6 : UInt8), (6 : UInt8), (6 : UInt8),
  (6 : UInt8), (6 : UInt8), (6 : UInt8), (6 : UInt8), (6 : UInt8), (6 : UInt8), (6 : UInt8), (6 : UInt8), (6 : UInt8), (6 : UInt8), (6 : UInt8), (6 : UInt8), (6 : UInt8), (6 : UInt8),
  (6 : UInt8), (6 : UInt8), (6 : UInt8), (6 : UInt8), (6 : UInt8), (6 : UInt8), (6 : UInt8), (6 : UInt8)]
  [(7 : UInt8), (7 : UInt8), (7 : UInt8), (7 : UInt8), (7 : UInt8), (7 : UInt8), (7 : UInt8), (7 : UInt8), (7 : UInt8), (7 : UInt8), (7 : UInt8), (7 : UInt8), (7 : UInt8), (7 : UInt8),
  (7 : UInt8), (7 : UInt8), (7 : UInt8), (7 : UInt8), (7 : UInt8), (7 : UInt8), (7 : UInt8), (7 : UInt8), (7 : UInt8), (7 : UInt8), (7 : UInt8), (7 : UInt8), (7 : UInt8), (7 : UInt8),
  (7 : UInt8), (7 : UInt8), (7 : UInt8), (7 : UInt8), (7 : UInt8), (7 : UInt8), (7 : UInt8), (7 : UInt8), (7 : UInt8), (7 : UInt8), (7 : UInt8), (7 : UInt8), (7 : UInt8), (7 : UInt8),
  (7 : UInt8), (7 : UInt8), (7 : UInt8), (7 : UInt8), (7 : UInt8), (7 : UInt8), (7 : UInt8), (7 : UInt8), (7 : UInt8), (7 : UInt8), (7 : UInt8), (7 : UInt8), (7 : UInt8), (7 : UInt8),
  (7 : UInt8), (7 : UInt8), (7 : UInt8), (7 : UInt8), (7 : UInt8), (7 : UInt8), (7 : UInt8), (7 : UInt8)])
  (List.append
  [(8 : UInt8), (8 : UInt8), (8 : UInt8), (8 : UInt8), (8 : UInt8), (8 : UInt8), (8 : UInt8), (8 : UInt8), (8 : UInt8), (8 : UInt8), (8 : UInt8), (8 : UInt8), (8 : UInt8), (8 : UInt8),
  (8 : UInt8), (8 : UInt8), (8 : UInt8), (8 : UInt8), (8 : UInt8), (8 : UInt8), (8 : UInt8), (8 : UInt8), (8 : UInt8), (8 : UInt8), (8 : UInt8), (8 : UInt8), (8 : UInt8), (8 : UInt8),
  (8 : UInt8), (8 : UInt8), (8 : UInt8), (8 : UInt8), (8 : UInt8), (8 : UInt8), (8 : UInt8), (8 : UInt8), (8 : UInt8), (8 : UInt8), (8 : UInt8), (8 : UInt8), (8 : UInt8), (8 : UInt8),
  (8 : UInt8), (8 : UInt8), (8 : UInt8), (8 : UInt8), (8 : UInt8), (8 : UInt8), (8 : UInt8), (8 : UInt8), (8 : UInt8), (8 : UInt8), (8 : UInt8), (8 : UInt8), (8 : UInt8), (8 : UInt8),
  (8 : UInt8), (8 : UInt8), (8 : UInt8), (8 : UInt8), (8 : UInt8), (8 : UInt8), (8 : UInt8), (8 : UInt8)]
  [(8 : UInt8), (8 : UInt8), (8 : UInt8), (8 : UInt8), (8 : UInt8), (8 : UInt8), (8 : UInt8), (8 : UInt8), (8 : UInt8), (8 : UInt8), (8 : UInt8), (8 : UInt8), (8 : UInt8), (8 : UInt8),
  (8 : UInt8), (8 : UInt8), (8 : UInt8), (8 : UInt8), (8 : UInt8), (8 : UInt8), (8 : UInt8), (8 : UInt8), (8 : UInt8), (8 : UInt8), (8 : UInt8), (8 : UInt8), (8 : UInt8), (8 : UInt8),
  (8 : UInt8), (8 : UInt8), (8 : UInt8), (8 : UInt8), (8 : UInt8), (8 : UInt8), (8 : UInt8), (8 : UInt8), (8 : UInt8), (8 : UInt8), (8 : UInt8), (8 : UInt8), (8 : UInt8), (8 : UInt8),
  (8 : UInt8), (8 : UInt8), (8 : UInt8), (8 : UInt8), (8 : UInt8), (8 : UInt8), (8 : UInt8), (8 : UInt8), (8 : UInt8), (8 : UInt8), (8 : UInt8), (8 : UInt8), (8 : UInt8), (8 : UInt8),
  (8 : UInt8), (8 : UInt8), (8 : UInt8), (8 : UInt8), (8 : UInt8), (8 : UInt8), (8 : UInt8), (8 : UInt8)]))))) :
  Int))
  (K
  (Value.int IntKind.i64
  (IntKind.wrap IntKind.i64
  ((32 : Int) +
  IntKind.wrap IntKind.i64
  (↑(UInt8.toNat
  (List.getD
  (List.append
  (List.append
  [(0 : UInt8), (1 : UInt8), (2 : UInt8), (2 : UInt8), (3 : UInt8), (3 : UInt8), (3 : UInt8), (3 : UInt8), (4 : UInt8), (4 : UInt8), (4 : UInt8), (4 : UInt8), (4 : UInt8), (4 : UInt8),
  (4 : UInt8), (4 : UInt8), (5 : UInt8), (5 : UInt8), (5 : UInt8), (5 : UInt8), (5 : UInt8), (5 : UInt8), (5 : UInt8), (5 : UInt8), (5 : UInt8), (5 : UInt8), (5 : UInt8), (5 : UInt8),
  (5 : UInt8), (5 : UInt8), (5 : UInt8), (5 : UInt8), (6 : UInt8), (6 : UInt8), (6 : UInt8), (6 : UInt8), (6 : UInt8), (6 : UInt8), (6 : UInt8), (6 : UInt8), (6 : UInt8), (6 : UInt8),
  (6 : UInt8), (6 : UInt8), (6 : UInt8), (6 : UInt8), (6 : UInt8), (6 : UInt8), (6 : UInt8), (6 : UInt8), (6 : UInt8), (6 : UInt8), (6 : UInt8), (6 : UInt8), (6 : UInt8), (6 : UInt8),
  (6 : UInt8), (6 : UInt8), (6 : UInt8), (6 : UInt8), (6 : UInt8), (6 : UInt8), (6 : UInt8), (6 : UInt8)]
  [(7 : UInt8), (7 : UInt8), (7 : UInt8), (7 : UInt8), (7 : UInt8), (7 : UInt8), (7 : UInt8), (7 : UInt8), (7 : UInt8), (7 : UInt8), (7 : UInt8), (7 : UInt8), (7 : UInt8), (7 : UInt8),
  (7 : UInt8), (7 : UInt8), (7 : UInt8), (7 : UInt8), (7 : UInt8), (7 : UInt8), (7 : UInt8), (7 : UInt8), (7 : UInt8), (7 : UInt8), (7 : UInt8), (7 : UInt8), (7 : UInt8), (7 : UInt8),
  (7 : UInt8), (7 : UInt8), (7 : UInt8), (7 : UInt8), (7 : UInt8), (7 : UInt8), (7 : UInt8), (7 : UInt8), (7 : UInt8), (7 : UInt8), (7 : UInt8), (7 : UInt8), (7 : UInt8), (7 : UInt8),
  (7 : UInt8), (7 : UInt8), (7 : UInt8), (7 : UInt8), (7 : UInt8), (7 : UInt8), (7 : UInt8), (7 : UInt8), (7 : UInt8), (7 : UInt8), (7 : UInt8), (7 : UInt8), (7 : UInt8), (7 : UInt8),
  (7 : UInt8), (7 : UInt8), (7 : UInt8), (7 : UInt8), (7 : UInt8), (7 : UInt8), (7 : UInt8), (7 : UInt8)])
  (List.append
  [(8 : UInt8), (8 : UInt8), (8 : UInt8), (8 : UInt8), (8 : UInt8), (8 : UInt8), (8 : UInt8), (8 : UInt8), (8 : UInt8), (8 : UInt8), (8 : UInt8), (8 : UInt8), (8 : UInt8), (8 : UInt8),
  (8 : UInt8), (8 : UInt8), (8 : UInt8), (8 : UInt8), (8 : UInt8), (8 : UInt8), (8 : UInt8), (8 : UInt8), (8 : UInt8), (8 : UInt8), (8 : UInt8), (8 : UInt8), (8 : UInt8), (8 : UInt8),
  (8 : UInt8), (8 : UInt8), (8 : UInt8), (8 : UInt8), (8 : UInt8), (8 : UInt8), (8 : UInt8), (8 : UInt8), (8 : UInt8), (8 : UInt8), (8 : UInt8), (8 : UInt8), (8 : UInt8), (8 : UInt8),
  (8 : UInt8), (8 : UInt8), (8 : UInt8), (8 : UInt8), (8 : UInt8), (8 : UInt8), (8 : UInt8), (8 : UInt8), (8 : UInt8), (8 : UInt8), (8 : UInt8), (8 : UInt8), (8 : UInt8), (8 : UInt8),
  (8 : UInt8), (8 : UInt8), (8 : UInt8), (8 : UInt8), (8 : UInt8), (8 : UInt8), (8 : UInt8), (8 : UInt8)]
  [(8 : UInt8), (8 : UInt8), (8 : UInt8), (8 : UInt8), (8 : UInt8), (8 : UInt8), (8 : UInt8), (8 : UInt8), (8 : UInt8), (8 : UInt8), (8 : UInt8), (8 : UInt8), (8 : UInt8), (8 : UInt8),
  (8 : UInt8), (8 : UInt8), (8 : UInt8), (8 : UInt8), (8 : UInt8), (8 : UInt8), (8 : UInt8), (8 : UInt8), (8 : UInt8), (8 : UInt8), (8 : UInt8), (8 : UInt8), (8 : UInt8), (8 : UInt8),
  (8 : UInt8), (8 : UInt8), (8 : UInt8), (8 : UInt8), (8 : UInt8), (8 : UInt8), (8 : UInt8), (8 : UInt8), (8 : UInt8), (8 : UInt8), (8 : UInt8), (8 : UInt8), (8 : UInt8), (8 : UInt8),
  (8 : UInt8), (8 : UInt8), (8 : UInt8), (8 : UInt8), (8 : UInt8), (8 : UInt8), (8 : UInt8), (8 : UInt8), (8 : UInt8), (8 : UInt8), (8 : UInt8), (8 : UInt8), (8 : UInt8), (8 : UInt8),
  (8 : UInt8), (8 : UInt8), (8 : UInt8), (8 : UInt8), (8 : UInt8), (8 : UInt8), (8 : UInt8), (8 : UInt8)]))
  (Int.toNat (IntKind.wrap IntKind.u8 (ishr IntKind.u64 l (32 : Int)))) (0 : UInt8))) :
  Int))))
  σ)))))
  (bmatch (Decidable.decide (l ≥ (65536 : Int)))
  (bmatch (Decidable.decide (ishr IntKind.u64 l (16 : Int) ≥ (256 : Int)))
  (req ((0 : Int) ≤ IntKind.wrap IntKind.u8 (ishr IntKind.u64 (ishr IntKind.u64 l (16 : Int)) (8 : Int)))
  (req
  (IntKind.wrap IntKind.u8 (ishr IntKind.u64 (ishr IntKind.u64 l (16 : Int)) (8 : Int)) <
  (↑(ByteArray.size
  (ByteArray.mk
  (List.toArray
  (List.append
  (List.append
  [(0 : UInt8), (1 : UInt8), (2 : UInt8), (2 : UInt8), (3 : UInt8), (3 : UInt8), (3 : UInt8), (3 : UInt8), (4 : UInt8), (4 : UInt8), (4 : UInt8), (4 : UInt8), (4 : UInt8), (4 : UInt8),
  (4 : UInt8), (4 : UInt8), (5 : UInt8), (5 : UInt8), (5 : UInt8), (5 : UInt8), (5 : UInt8), (5 : UInt8), (5 : UInt8), (5 : UInt8), (5 : UInt8), (5 : UInt8), (5 : UInt8), (5 : UInt8),
  (5 : UInt8), (5 : UInt8), (5 : UInt8), (5 : UInt8), (6 : UInt8), (6 : UInt8), (6 : UInt8), (6 : UInt8), (6 : UInt8), (6 : UInt8), (6 : UInt8), (6 : UInt8), (6 : UInt8), (6 : UInt8),
  (6 : UInt8), (6 : UInt8), (6 : UInt8), (6 : UInt8), (6 : UInt8), (6 : UInt8), (6 : UInt8), (6 : UInt8), (6 : UInt8), (6 : UInt8), (6 : UInt8), (6 : UInt8), (6 : UInt8), (6 : UInt8),
  (6 : UInt8), (6 : UInt8), (6 : UInt8), (6 : UInt8), (6 : UInt8), (6 : UInt8), (6 : UInt8), (6 : UInt8)]
  [(7 : UInt8), (7 : UInt8), (7 : UInt8), (7 : UInt8), (7 : UInt8), (7 : UInt8), (7 : UInt8), (7 : UInt8), (7 : UInt8), (7 : UInt8), (7 : UInt8), (7 : UInt8), (7 : UInt8), (7 : UInt8),
  (7 : UInt8), (7 : UInt8), (7 : UInt8), (7 : UInt8), (7 : UInt8), (7 : UInt8), (7 : UInt8), (7 : UInt8), (7 : UInt8), (7 : UInt8), (7 : UInt8), (7 : UInt8), (7 : UInt8), (7 : UInt8),
  (7 : UInt8), (7 : UInt8), (7 : UInt8), (7 : UInt8), (7 : UInt8), (7 : UInt8), (7 : UInt8), (7 : UInt8), (7 : UInt8), (7 : UInt8), (7 : UInt8), (7 : UInt8), (7 : UInt8), (7 : UInt8),
  (7 : UInt8), (7 : UInt8), (7 : UInt8), (7 : UInt8), (7 : UInt8), (7 : UInt8), (7 : UInt8), (7 : UInt8), (7 : UInt8), (7 : UInt8), (7 : UInt8), (7 : UInt8), (7 : UInt8), (7 : UInt8),
  (7 : UInt8), (7 : UInt8), (7 : UInt8), (7 : UInt8), (7 : UInt8), (7 : UInt8), (7 : UInt8), (7 : UInt8)])
  (List.append
  [(8 : UInt8), (8 : UInt8), (8 : UInt8), (8 : UInt8), (8 : UInt8), (8 : UInt8), (8 : UInt8), (8 : UInt8), (8 : UInt8), (8 : UInt8), (8 : UInt8), (8 : UInt8), (8 : UInt8), (8 : UInt8),
  (8 : UInt8), (8 : UInt8), (8 : UInt8), (8 : UInt8), (8 : UInt8), (8 : UInt8), (8 : UInt8), (8 : UInt8), (8 : UInt8), (8 : UInt8), (8 : UInt8), (8 : UInt8), (8 : UInt8), (8 : UInt8),
  (8 : UInt8), (8 : UInt8), (8 : UInt8), (8 : UInt8), (8 : UInt8), (8 : UInt8), (8 : UInt8), (8 : UInt8), (8 : UInt8), (8 : UInt8), (8 : UInt8), (8 : UInt8), (8 : UInt8), (8 : UInt8),
  (8 : UInt8), (8 : UInt8), (8 : UInt8), (8 : UInt8), (8 : UInt8), (8 : UInt8), (8 : UInt8), (8 : UInt8), (8 : UInt8), (8 : UInt8), (8 : UInt8), (8 : UInt8), (8 : UInt8), (8 : UInt8),
  (8 : UInt8), (8 : UInt8), (8 : UInt8), (8 : UInt8), (8 : UInt8), (8 : UInt8), (8 : UInt8), (8 : UInt8)]
  [(8 : UInt8), (8 : UInt8), (8 : UInt8), (8 : UInt8), (8 : UInt8), (8 : UInt8), (8 : UInt8), (8 : UInt8), (8 : UInt8), (8 : UInt8), (8 : UInt8), (8 : UInt8), (8 : UInt8), (8 : UInt8),
  (8 : UInt8), (8 : UInt8), (8 : UInt8), (8 : UInt8), (8 : UInt8), (8 : UInt8), (8 : UInt8), (8 : UInt8), (8 : UInt8), (8 : UInt8), (8 : UInt8), (8 : UInt8), (8 : UInt8), (8 : UInt8),
  (8 : UInt8), (8 : UInt8), (8 : UInt8), (8 : UInt8), (8 : UInt8), (8 : UInt8), (8 : UInt8), (8 : UInt8), (8 : UInt8), (8 : UInt8), (8 : UInt8), (8 : UInt8), (8 : UInt8), (8 : UInt8),
  (8 : UInt8), (8 : UInt8), (8 : UInt8), (8 : UInt8), (8 : UInt8), (8 : UInt8), (8 : UInt8), (8 : UInt8), (8 : UInt8), (8 : UInt8), (8 : UInt8), (8 : UInt8), (8 : UInt8), (8 : UInt8),
  (8 : UInt8), (8 : UInt8), (8 : UInt8), (8 : UInt8), (8 : UInt8), (8 : UInt8), (8 : UInt8), (8 : UInt8)]))))) :
  Int))
  (K
  (Value.int IntKind.i64
  (IntKind.wrap IntKind.i64
  (IntKind.wrap IntKind.i64 (IntKind.wrap IntKind.i64 ((0 : Int) + (16 : Int)) + (8 : Int)) +
  IntKind.wrap IntKind.i64
  (↑(UInt8.toNat
  (List.getD
  (List.append
  (List.append
  [(0 : UInt8), (1 : UInt8), (2 : UInt8), (2 : UInt8), (3 : UInt8), (3 : UInt8), (3 : UInt8), (3 : UInt8), (4 : UInt8), (4 : UInt8), (4 : UInt8), (4 : UInt8), (4 : UInt8), (4 : UInt8),
  (4 : UInt8), (4 : UInt8), (5 : UInt8), (5 : UInt8), (5 : UInt8), (5 : UInt8), (5 : UInt8), (5 : UInt8), (5 : UInt8), (5 : UInt8), (5 : UInt8), (5 : UInt8), (5 : UInt8), (5 : UInt8),
  (5 : UInt8), (5 : UInt8), (5 : UInt8), (5 : UInt8), (6 : UInt8), (6 : UInt8), (6 : UInt8), (6 : UInt8), (6 : UInt8), (6 : UInt8), (6 : UInt8), (6 : UInt8), (6 : UInt8), (6 : UInt8),
  (6 : UInt8), (6 : UInt8), (6 : UInt8), (6 : UInt8), (6 : UInt8), (6 : UInt8), (6 : UInt8), (6 : UInt8), (6 : UInt8), (6 : UInt8), (6 : UInt8), (6 : UInt8), (6 : UInt8), (6 : UInt8),
  (6 : UInt8), (6 : UInt8), (6 : UInt8), (6 : UInt8), (6 : UInt8), (6 : UInt8), (6 : UInt8), (6 : UInt8)]
  [(7 : UInt8), (7 : UInt8), (7 : UInt8), (7 : UInt8), (7 : UInt8), (7 : UInt8), (7 : UInt8), (7 : UInt8), (7 : UInt8), (7 : UInt8), (7 : UInt8), (7 : UInt8), (7 : UInt8), (7 : UInt8),
  (7 : UInt8), (7 : UInt8), (7 : UInt8), (7 : UInt8), (7 : UInt8), (7 : UInt8), (7 : UInt8), (7 : UInt8), (7 : UInt8), (7 : UInt8), (7 : UInt8), (7 : UInt8), (7 : UInt8), (7 : UInt8),
  (7 : UInt8), (7 : UInt8), (7 : UInt8), (7 : UInt8), (7 : UInt8), (7 : UInt8), (7 : UInt8), (7 : UInt8), (7 : UInt8), (7 : UInt8), (7 : UInt8), (7 : UInt8), (7 : UInt8), (7 : UInt8),
  (7 : UInt8), (7 : UInt8), (7 : UInt8), (7 : UInt8), (7 : UInt8), (7 : UInt8), (7 : UInt8), (7 : UInt8), (7 : UInt8), (7 : UInt8), (7 : UInt8), (7 : UInt8), (7 : UInt8), (7 : UInt8),
  (7 : UInt8), (7 : UInt8), (7 : UInt8), (7 : UInt8), (7 : UInt8), (7 : UInt8), (7 : UInt8), (7 : UInt8)])
  (List.append
  [(8 : UInt8), (8 : UInt8), (8 : UInt8), (8 : UInt8), (8 : UInt8), (8 : UInt8), (8 : UInt8), (8 : UInt8), (8 : UInt8), (8 : UInt8), (8 : UInt8), (8 : UInt8), (8 : UInt8), (8 : UInt8),
  (8 : UInt8), (8 : UInt8), (8 : UInt8), (8 : UInt8), (8 : UInt8), (8 : UInt8), (8 : UInt8), (8 : UInt8), (8 : UInt8), (8 : UInt8), (8 : UInt8), (8 : UInt8), (8 : UInt8), (8 : UInt8),
  (8 : UInt8), (8 : UInt8), (8 : UInt8), (8 : UInt8), (8 : UInt8), (8 : UInt8), (8 : UInt8), (8 : UInt8), (8 : UInt8), (8 : UInt8), (8 : UInt8), (8 : UInt8), (8 : UInt8), (8 : UInt8),
  (8 : UInt8), (8 : UInt8), (8 : UInt8), (8 : UInt8), (8 : UInt8), (8 : UInt8), (8 : UInt8), (8 : UInt8), (8 : UInt8), (8 : UInt8), (8 : UInt8), (8 : UInt8), (8 : UInt8), (8 : UInt8),
  (8 : UInt8), (8 : UInt8), (8 : UInt8), (8 : UInt8), (8 : UInt8), (8 : UInt8), (8 : UInt8), (8 : UInt8)]
  [(8 : UInt8), (8 : UInt8), (8 : UInt8), (8 : UInt8), (8 : UInt8), (8 : UInt8), (8 : UInt8), (8 : UInt8), (8 : UInt8), (8 : UInt8), (8 : UInt8), (8 : UInt8), (8 : UInt8), (8 : UInt8),
  (8 : UInt8), (8 : UInt8), (8 : UInt8), (8 : UInt8), (8 : UInt8), (8 : UInt8), (8 : UInt8), (8 : UInt8), (8 : UInt8), (8 : UInt8), (8 : UInt8), (8 : UInt8), (8 : UInt8), (8 : UInt8),
  (8 : UInt8), (8 : UInt8), (8 : UInt8), (8 : UInt8), (8 : UInt8), (8 : UInt8), (8 : UInt8), (8 : UInt8), (8 : UInt8), (8 : UInt8), (8 : UInt8), (8 : UInt8), (8 : UInt8), (8 : UInt8),
  (8 : UInt8), (8 : UInt8), (8 : UInt8), (8 : UInt8), (8 : UInt8), (8 : UInt8), (8 : UInt8), (8 : UInt8), (8 : UInt8), (8 : UInt8), (8 : UInt8), (8 : UInt8), (8 : UInt8), (8 : UInt8),
  (8 : UInt8), (8 : UInt8), (8 : UInt8), (8 : UInt8), (8 : UInt8), (8 : UInt8), (8 : UInt8), (8 : UInt8)]))
  (Int.toNat (IntKind.wrap IntKind.u8 (ishr IntKind.u64 (ishr IntKind.u64 l (16 : Int)) (8 : Int)))) (0 : UInt8))) :
  Int))))
  σ)))
  (req ((0 : Int) ≤ IntKind.wrap IntKind.u8 (ishr IntKind.u64 l (16 : Int)))
  (req
  (IntKind.wrap IntKind.u8 (ishr IntKind.u64 l (16 : Int)) <
  (↑(ByteArray.size
  (ByteArray.mk
  (List.toArray
  (List.append
  (List.append
  [(0 : UInt8), (1 : UInt8), (2 : UInt8), (2 : UInt8), (3 : UInt8), (3 : UInt8), (3 : UInt8), (3 : UInt8), (4 : UInt8), (4 : UInt8), (4 : UInt8), (4 : UInt8), (4 : UInt8), (4 : UInt8),
  (4 : UInt8), (4 : UInt8), (5 : UInt8), (5 : UInt8), (5 : UInt8), (5 : UInt8), (5 : UInt8), (5 : UInt8), (5 : UInt8), (5 : UInt8), (5 : UInt8), (5 : UInt8), (5 : UInt8), (5 : UInt8),
  (5 : UInt8), (5 : UInt8), (5 : UInt8), (5 : UInt8), (6 : UInt8), (6 : UInt8), (6 : UInt8), (6 : UInt8), (6 : UInt8), (6 : UInt8), (6 : UInt8), (6 : UInt8), (6 : UInt8), (6 : UInt8),
  (6 : UInt8), (6 : UInt8), (6 : UInt8), (6 : UInt8), (6 : UInt8), (6 : UInt8), (6 : UInt8), (6 : UInt8), (6 : UInt8), (6 : UInt8), (6 : UInt8), (6 : UInt8), (6 : UInt8), (6 : UInt8),
  (6 : UInt8), (6 : UInt8), (6 : UInt8), (6 : UInt8), (6 : UInt8), (6 : UInt8), (6 : UInt8), (6 : UInt8)]
  [(7 : UInt8), (7 : UInt8), (7 : UInt8), (7 : UInt8), (7 : UInt8), (7 : UInt8), (7 : UInt8), (7 : UInt8), (7 : UInt8), (7 : UInt8), (7 : UInt8), (7 : UInt8), (7 : UInt8), (7 : UInt8),
  (7 : UInt8), (7 : UInt8), (7 : UInt8), (7 : UInt8), (7 : UInt8), (7 : UInt8), (7 : UInt8), (7 : UInt8), (7 : UInt8), (7 : UInt8), (7 : UInt8), (7 : UInt8), (7 : UInt8), (7 : UInt8),
  (7 : UInt8), (7 : UInt8), (7 : UInt8), (7 : UInt8), (7 : UInt8), (7 : UInt8), (7 : UInt8), (7 : UInt8), (7 : UInt8), (7 : UInt8), (7 : UInt8), (7 : UInt8), (7 : UInt8), (7 : UInt8),
  (7 : UInt8), (7 : UInt8), (7 : UInt8), (7 : UInt8), (7 : UInt8), (7 : UInt8), (7 : UInt8), (7 : UInt8), (7 : UInt8), (7 : UInt8), (7 : UInt8), (7 : UInt8), (7 : UInt8), (7 : UInt8),
  (7 : UInt8), (7 : UInt8), (7 : UInt8), (7 : UInt8), (7 : UInt8), (7 : UInt8), (7 : UInt8), (7 : UInt8)])
  (List.append
  [(8 : UInt8), (8 : UInt8), (8 : UInt8), (8 : UInt8), (8 : UInt8), (8 : UInt8), (8 : UInt8), (8 : UInt8), (8 : UInt8), (8 : UInt8), (8 : UInt8), (8 : UInt8), (8 : UInt8), (8 : UInt8),
  (8 : UInt8), (8 : UInt8), (8 : UInt8), (8 : UInt8), (8 : UInt8), (8 : UInt8), (8 : UInt8), (8 : UInt8), (8 : UInt8), (8 : UInt8), (8 : UInt8), (8 : UInt8), (8 : UInt8), (8 : UInt8),
  (8 : UInt8), (8 : UInt8), (8 : UInt8), (8 : UInt8), (8 : UInt8), (8 : UInt8), (8 : UInt8), (8 : UInt8), (8 : UInt8), (8 : UInt8), (8 : UInt8), (8 : UInt8), (8 : UInt8), (8 : UInt8),
  (8 : UInt8), (8 : UInt8), (8 : UInt8), (8 : UInt8), (8 : UInt8), (8 : UInt8), (8 : UInt8), (8 : UInt8), (8 : UInt8), (8 : UInt8), (8 : UInt8), (8 : UInt8), (8 : UInt8), (8 : UInt8),
  (8 : UInt8), (8 : UInt8), (8 : UInt8), (8 : UInt8), (8 : UInt8), (8 : UInt8), (8 : UInt8), (8 : UInt8)]
  [(8 : UInt8), (8 : UInt8), (8 : UInt8), (8 : UInt8), (8 : UInt8), (8 : UInt8), (8 : UInt8), (8 : UInt8), (8 : UInt8), (8 : UInt8), (8 : UInt8), (8 : UInt8), (8 : UInt8), (8 : UInt8),
  (8 : UInt8), (8 : UInt8), (8 : UInt8), (8 : UInt8), (8 : UInt8), (8 : UInt8), (8 : UInt8), (8 : UInt8), (8 : UInt8), (8 : UInt8), (8 : UInt8), (8 : UInt8), (8 : UInt8), (8 : UInt8),
  (8 : UInt8), (8 : UInt8), (8 : UInt8), (8 : UInt8), (8 : UInt8), (8 : UInt8), (8 : UInt8), (8 : UInt8), (8 : UInt8), (8 : UInt8), (8 : UInt8), (8 : UInt8), (8 : UInt8), (8 : UInt8),
  (8 : UInt8), (8 : UInt8), (8 : UInt8), (8 : UInt8), (8 : UInt8), (8 : UInt8), (8 : UInt8), (8 : UInt8), (8 : UInt8), (8 : UInt8), (8 : UInt8), (8 : UInt8), (8 : UInt8), (8 : UInt8),
  (8 : UInt8), (8 : UInt8), (8 : UInt8), (8 : UInt8), (8 : UInt8), (8 : UInt8), (8 : UInt8), (8 : UInt8)]))))) :
  Int))
  (K
  (Value.int IntKind.i64
  (IntKind.wrap IntKind.i64
  (IntKind.wrap IntKind.i64 ((0 : Int) + (16 : Int)) +
  IntKind.wrap IntKind.i64
  (↑(UInt8.toNat
  (List.getD
  (List.append
  (List.append
  [(0 : UInt8), (1 : UInt8), (2 : UInt8), (2 : UInt8), (3 : UInt8), (3 : UInt8), (3 : UInt8), (3 : UInt8), (4 : UInt8), (4 : UInt8), (4 : UInt8), (4 : UInt8), (4 : UInt8), (4 : UInt8),
  (4 : UInt8), (4 : UInt8), (5 : UInt8), (5 : UInt8), (5 : UInt8), (5 : UInt8), (5 : UInt8), (5 : UInt8), (5 : UInt8), (5 : UInt8), (5 : UInt8), (5 : UInt8), (5 : UInt8), (5 : UInt8),
  (5 : UInt8), (5 : UInt8), (5 : UInt8), (5 : UInt8), (6 : UInt8), (6 : UInt8), (6 : UInt8), (6 : UInt8), (6 : UInt8), (6 : UInt8), (6 : UInt8), (6 : UInt8), (6 : UInt8), (6 : UInt8),
  (6 : UInt8), (6 : UInt8), (6 : UInt8), (6 : UInt8), (6 : UInt8), (6 : UInt8), (6 : UInt8), (6 : UInt8), (6 : UInt8), (6 : UInt8), (6 : UInt8), (6 : UInt8), (6 : UInt8), (6 : UInt8),
  (6 : UInt8), (6 : UInt8), (6 : UInt8), (6 : UInt8), (6 : UInt8), (6 : UInt8), (6 : UInt8), (6 : UInt8)]
  [(7 : UInt8), (7 : UInt8), (7 : UInt8), (7 : UInt8), (7 : UInt8), (7 : UInt8), (7 : UInt8), (7 : UInt8), (7 : UInt8), (7 : UInt8), (7 : UInt8), (7 : UInt8), (7 : UInt8), (7 : UInt8),
  (7 : UInt8), (7 : UInt8), (7 : UInt8), (7 : UInt8), (7 : UInt8), (7 : UInt8), (7 : UInt8), (7 : UInt8), (7 : UInt8), (7 : UInt8), (7 : UInt8), (7 : UInt8), (7 : UInt8), (7 : UInt8),
  (7 : UInt8), (7 : UInt8), (7 : UInt8), (7 : UInt8), (7 : UInt8), (7 : UInt8), (7 : UInt8), (7 : UInt8), (7 : UInt8), (7 : UInt8), (7 : UInt8), (7 : UInt8), (7 : UInt8), (7 : UInt8),
  (7 : UInt8), (7 : UInt8), (7 : UInt8), (7 : UInt8), (7 : UInt8), (7 : UInt8), (7 : UInt8), (7 : UInt8), (7 : UInt8), (7 : UInt8), (7 : UInt8), (7 : UInt8), (7 : UInt8), (7 : UInt8),
  (7 : UInt8), (7 : UInt8), (7 : UInt8), (7 : UInt8), (7 : UInt8), (7 : UInt8), (7 : UInt8), (7 : UInt8)])
  (List.append
  [(8 : UInt8), (8 : UInt8), (8 : UInt8), (8 : UInt8), (8 : UInt8), (8 : UInt8), (8 : UInt8), (8 : UInt8), (8 : UInt8), (8 : UInt8), (8 : UInt8), (8 : UInt8), (8 : UInt8), (8 : UInt8),
  (8 : UInt8), (8 : UInt8), (8 : UInt8), (8 : UInt8), (8 : UInt8), (8 : UInt8), (8 : UInt8), (8 : UInt8), (8 : UInt8), (8 : UInt8), (8 : UInt8), (8 : UInt8), (8 : UInt8), (8 : UInt8),
  (8 : UInt8), (8 : UInt8), (8 : UInt8), (8 : UInt8), (8 : UInt8), (8 : UInt8), (8 : UInt8), (8 : UInt8), (8 : UInt8), (8 : UInt8), (8 : UInt8), (8 : UInt8), (8 : UInt8), (8 : UInt8),
  (8 : UInt8), (8 : UInt8), (8 : UInt8), (8 : UInt8), (8 : UInt8), (8 : UInt8), (8 : UInt8), (8 : UInt8), (8 : UInt8), (8 : UInt8), (8 : UInt8), (8 : UInt8), (8 : UInt8), (8 : UInt8),
  (8 : UInt8), (8 : UInt8), (8 : UInt8), (8 : UInt8), (8 : UInt8), (8 : UInt8), (8 : UInt8), (8 : UInt8)]
  [(8 : UInt8), (8 : UInt8), (8 : UInt8), (8 : UInt8), (8 : UInt8), (8 : UInt8), (8 : UInt8), (8 : UInt8), (8 : UInt8), (8 : UInt8), (8 : UInt8), (8 : UInt8), (8 : UInt8), (8 : UInt8),
  (8 : UInt8), (8 : UInt8), (8 : UInt8), (8 : UInt8), (8 : UInt8), (8 : UInt8), (8 : UInt8), (8 : UInt8), (8 : UInt8), (8 : UInt8), (8 : UInt8), (8 : UInt8), (8 : UInt8), (8 : UInt8),
  (8 : UInt8), (8 : UInt8), (8 : UInt8), (8 : UInt8), (8 : UInt8), (8 : UInt8), (8 : UInt8), (8 : UInt8), (8 : UInt8), (8 : UInt8), (8 : UInt8), (8 : UInt8), (8 : UInt8), (8 : UInt8),
  (8 : UInt8), (8 : UInt8), (8 : UInt8), (8 : UInt8), (8 : UInt8), (8 : UInt8), (8 : UInt8), (8 : UInt8), (8 : UInt8), (8 : UInt8), (8 : UInt8), (8 : UInt8), (8 : UInt8), (8 : UInt8),
  (8 : UInt8), (8 : UInt8), (8 : UInt8), (8 : UInt8), (8 : UInt8), (8 : UInt8), (8 : UInt8), (8 : UInt8)]))
  (Int.toNat (IntKind.wrap IntKind.u8 (ishr IntKind.u64 l (16 : Int)))) (0 : UInt8))) :
  Int))))
  σ))))
  (bmatch (Decidable.decide (l ≥ (256 : Int)))
  (req ((0 : Int) ≤ IntKind.wrap IntKind.u8 (ishr IntKind.u64 l (8 : Int)))
  (req
  (IntKind.wrap IntKind.u8 (ishr IntKind.u64 l (8 : Int)) <
  (↑(ByteArray.size
  (ByteArray.mk
  (List.toArray
  (List.append
  (List.append
  [(0 : UInt8), (1 : UInt8), (2 : UInt8), (2 : UInt8), (3 : UInt8), (3 : UInt8), (3 : UInt8), (3 : UInt8), (4 : UInt8), (4 : UInt8), (4 : UInt8), (4 : UInt8), (4 : UInt8), (4 : UInt8),
  (4 : UInt8), (4 : UInt8), (5 : UInt8), (5 : UInt8), (5 : UInt8), (5 : UInt8), (5 : UInt8), (5 : UInt8), (5 : UInt8), (5 : UInt8), (5 : UInt8), (5 : UInt8), (5 : UInt8), (5 : UInt8),
  (5 : UInt8), (5 : UInt8), (5 : UInt8), (5 : UInt8), (6 : UInt8), (6 : UInt8), (6 : UInt8), (6 : UInt8), (6 : UInt8), (6 : UInt8), (6 : UInt8), (6 : UInt8), (6 : UInt8), (6 : UInt8),
  (6 : UInt8), (6 : UInt8), (6 : UInt8), (6 : UInt8), (6 : UInt8), (6 : UInt8), (6 : UInt8), (6 : UInt8), (6 : UInt8), (6 : UInt8), (6 : UInt8), (6 : UInt8), (6 : UInt8), (6 : UInt8),
  (6 : UInt8), (6 : UInt8), (6 : UInt8), (6 : UInt8), (6 : UInt8), (6 : UInt8), (6 : UInt8), (6 : UInt8)]
  [(7 : UInt8), (7 : UInt8), (7 : UInt8), (7 : UInt8), (7 : UInt8), (7 : UInt8), (7 : UInt8), (7 : UInt8), (7 : UInt8), (7 : UInt8), (7 : UInt8), (7 : UInt8), (7 : UInt8), (7 : UInt8),
  (7 : UInt8), (7 : UInt8), (7 : UInt8), (7 : UInt8), (7 : UInt8), (7 : UInt8), (7 : UInt8), (7 : UInt8), (7 : UInt8), (7 : UInt8), (7 : UInt8), (7 : UInt8), (7 : UInt8), (7 : UInt8),
  (7 : UInt8), (7 : UInt8), (7 : UInt8), (7 : UInt8), (7 : UInt8), (7 : UInt8), (7 : UInt8), (7 : UInt8), (7 : UInt8), (7 : UInt8), (7 : UInt8), (7 : UInt8), (7 : UInt8), (7 : UInt8),
  (7 : UInt8), (7 : UInt8), (7 : UInt8), (7 : UInt8), (7 : UInt8), (7 : UInt8), (7 : UInt8), (7 : UInt8), (7 : UInt8), (7 : UInt8), (7 : UInt8), (7 : UInt8), (7 : UInt8), (7 : UInt8),
  (7 : UInt8), (7 : UInt8), (7 : UInt8), (7 : UInt8), (7 : UInt8), (7 : UInt8), (7 : UInt8), (7 : UInt8)])
  (List.append
  [(8 : UInt8), (8 : UInt8), (8 : UInt8), (8 : UInt8), (8 : UInt8), (8 : UInt8), (8 : UInt8), (8 : UInt8), (8 : UInt8), (8 : UInt8), (8 : UInt8), (8 : UInt8), (8 : UInt8), (8 : UInt8),
  (8 : UInt8), (8 : UInt8), (8 : UInt8), (8 : UInt8), (8 : UInt8), (8 : UInt8), (8 : UInt8), (8 : UInt8), (8 : UInt8), (8 : UInt8), (8 : UInt8), (8 : UInt8), (8 : UInt8), (8 : UInt8),
  (8 : UInt8), (8 : UInt8), (8 : UInt8), (8 : UInt8), (8 : UInt8), (8 : UInt8), (8 : UInt8), (8 : UInt8), (8 : UInt8), (8 : UInt8), (8 : UInt8), (8 : UInt8), (8 : UInt8), (8 : UInt8),
  (8 : UInt8), (8 : UInt8), (8 : UInt8), (8 : UInt8), (8 : UInt8), (8 : UInt8), (8 : UInt8), (8 : UInt8), (8 : UInt8), (8 : UInt8), (8 : UInt8), (8 : UInt8), (8 : UInt8), (8 : UInt8),
  (8 : UInt8), (8 : UInt8), (8 : UInt8), (8 : UInt8), (8 : UInt8), (8 : UInt8), (8 : UInt8), (8 : UInt8)]
  [(8 : UInt8), (8 : UInt8), (8 : UInt8), (8 : UInt8), (8 : UInt8), (8 : UInt8), (8 : UInt8), (8 : UInt8), (8 : UInt8), (8 : UInt8), (8 : UInt8), (8 : UInt8), (8 : UInt8), (8 : UInt8),
  (8 : UInt8), (8 : UInt8), (8 : UInt8), (8 : UInt8), (8 : UInt8), (8 : UInt8), (8 : UInt8), (8 : UInt8), (8 : UInt8), (8 : UInt8), (8 : UInt8), (8 : UInt8), (8 : UInt8), (8 : UInt8),
  (8 : UInt8), (8 : UInt8), (8 : UInt8), (8 : UInt8), (8 : UInt8), (8 : UInt8), (8 : UInt8), (8 : UInt8), (8 : UInt8), (8 : UInt8), (8 : UInt8), (8 : UInt8), (8 : UInt8), (8 : UInt8),
  (8 : UInt8), (8 : UInt8), (8 : UInt8), (8 : UInt8), (8 : UInt8), (8 : UInt8), (8 : UInt8), (8 : UInt8), (8 : UInt8), (8 : UInt8), (8 : UInt8), (8 : UInt8), (8 : UInt8), (8 : UInt8),
  (8 : UInt8), (8 : UInt8), (8 : UInt8), (8 : UInt8), (8 : UInt8), (8 : UInt8), (8 : UInt8), (8 : UInt8)]))))) :
  Int))
  (K
  (Value.int IntKind.i64
  (IntKind.wrap IntKind.i64
  (IntKind.wrap IntKind.i64 ((0 : Int) + (8 : Int)) +
  IntKind.wrap IntKind.i64
  (↑(UInt8.toNat
  (List.getD
  (List.append
  (List.append
  [(0 : UInt8), (1 : UInt8), (2 : UInt8), (2 : UInt8), (3 : UInt8), (3 : UInt8), (3 : UInt8), (3 : UInt8), (4 : UInt8), (4 : UInt8), (4 : UInt8), (4 : UInt8), (4 : UInt8), (4 : UInt8),
  (4 : UInt8), (4 : UInt8), (5 : UInt8), (5 : UInt8), (5 : UInt8), (5 : UInt8), (5 : UInt8), (5 : UInt8), (5 : UInt8), (5 : UInt8), (5 : UInt8), (5 : UInt8), (5 : UInt8), (5 : UInt8),
  (5 : UInt8), (5 : UInt8), (5 : UInt8), (5 : UInt8), (6 : UInt8), (6 : UInt8), (6 : UInt8), (6 : UInt8), (6 : UInt8), (6 : UInt8), (6 : UInt8), (6 : UInt8), (6 : UInt8), (6 : UInt8),
  (6 : UInt8), (6 : UInt8), (6 : UInt8), (6 : UInt8), (6 : UInt8), (6 : UInt8), (6 : UInt8), (6 : UInt8), (6 : UInt8), (6 : UInt8), (6 : UInt8), (6 : UInt8), (6 : UInt8), (6 : UInt8),
  (6 : UInt8), (6 : UInt8), (6 : UInt8), (6 : UInt8), (6 : UInt8), (6 : UInt8), (6 : UInt8), (6 : UInt8)]
  [(7 : UInt8), (7 : UInt8), (7 : UInt8), (7 : UInt8), (7 : UInt8), (7 : UInt8), (7 : UInt8), (7 : UInt8), (7 : UInt8), (7 : UInt8), (7 : UInt8), (7 : UInt8), (7 : UInt8), (7 : UInt8),
  (7 : UInt8), (7 : UInt8), (7 : UInt8), (7 : UInt8), (7 : UInt8), (7 : UInt8), (7 : UInt8), (7 : UInt8), (7 : UInt8), (7 : UInt8), (7 : UInt8), (7 : UInt8), (7 : UInt8), (7 : UInt8),
  (7 : UInt8), (7 : UInt8), (7 : UInt8), (7 : UInt8), (7 : UInt8), (7 : UInt8), (7 : UInt8), (7 : UInt8), (7 : UInt8), (7 : UInt8), (7 : UInt8), (7 : UInt8), (7 : UInt8), (7 : UInt8),
  (7 : UInt8), (7 : UInt8), (7 : UInt8), (7 : UInt8), (7 : UInt8), (7 : UInt8), (7 : UInt8), (7 : UInt8), (7 : UInt8), (7 : UInt8), (7 : UInt8), (7 : UInt8), (7 : UInt8), (7 : UInt8),
  (7 : UInt8), (7 : UInt8), (7 : UInt8), (7 : UInt8), (7 : UInt8), (7 : UInt8), (7 : UInt8), (7 : UInt8)])
  (List.append
  [(8 : UInt8), (8 : UInt8), (8 : UInt8), (8 : UInt8), (8 : UInt8), (8 : UInt8), (8 : UInt8), (8 : UInt8), (8 : UInt8), (8 : UInt8), (8 : UInt8), (8 : UInt8), (8 : UInt8), (8 : UInt8),
  (8 : UInt8), (8 : UInt8), (8 : UInt8), (8 : UInt8), (8 : UInt8), (8 : UInt8), (8 : UInt8), (8 : UInt8), (8 : UInt8), (8 : UInt8), (8 : UInt8), (8 : UInt8), (8 : UInt8), (8 : UInt8),
  (8 : UInt8), (8 : UInt8), (8 : UInt8), (8 : UInt8), (8 : UInt8), (8 : UInt8), (8 : UInt8), (8 : UInt8), (8 : UInt8), (8 : UInt8), (8 : UInt8), (8 : UInt8), (8 : UInt8), (8 : UInt8),
  (8 : UInt8), (8 : UInt8), (8 : UInt8), (8 : UInt8), (8 : UInt8), (8 : UInt8), (8 : UInt8), (8 : UInt8), (8 : UInt8), (8 : UInt8), (8 : UInt8), (8 : UInt8), (8 : UInt8), (8 : UInt8),
  (8 : UInt8), (8 : UInt8), (8 : UInt8), (8 : UInt8), (8 : UInt8), (8 : UInt8), (8 : UInt8), (8 : UInt8)]
  [(8 : UInt8), (8 : UInt8), (8 : UInt8), (8 : UInt8), (8 : UInt8), (8 : UInt8), (8 : UInt8), (8 : UInt8), (8 : UInt8), (8 : UInt8), (8 : UInt8), (8 : UInt8), (8 : UInt8), (8 : UInt8),
  (8 : UInt8), (8 : UInt8), (8 : UInt8), (8 : UInt8), (8 : UInt8), (8 : UInt8), (8 : UInt8), (8 : UInt8), (8 : UInt8), (8 : UInt8), (8 : UInt8), (8 : UInt8), (8 : UInt8), (8 : UInt8),
  (8 : UInt8), (8 : UInt8), (8 : UInt8), (8 : UInt8), (8 : UInt8), (8 : UInt8), (8 : UInt8), (8 : UInt8), (8 : UInt8), (8 : UInt8), (8 : UInt8), (8 : UInt8), (8 : UInt8), (8 : UInt8),
  (8 : UInt8), (8 : UInt8), (8 : UInt8), (8 : UInt8), (8 : UInt8), (8 : UInt8), (8 : UInt8), (8 : UInt8), (8 : UInt8), (8 : UInt8), (8 : UInt8), (8 : UInt8), (8 : UInt8), (8 : UInt8),
  (8 : UInt8), (8 : UInt8), (8 : UInt8), (8 : UInt8), (8 : UInt8), (8 : UInt8), (8 : UInt8), (8 : UInt8)]))
  (Int.toNat (IntKind.wrap IntKind.u8 (ishr IntKind.u64 l (8 : Int)))) (0 : UInt8))) :
  Int))))
  σ)))
  (req ((0 : Int) ≤ IntKind.wrap IntKind.u8 l)
  (req
  (IntKind.wrap IntKind.u8 l <
  (↑(ByteArray.size
  (ByteArray.mk
  (List.toArray
  (List.append
  (List.append
  [(0 : UInt8), (1 : UInt8), (2 : UInt8), (2 : UInt8), (3 : UInt8), (3 : UInt8), (3 : UInt8), (3 : UInt8), (4 : UInt8), (4 : UInt8), (4 : UInt8), (4 : UInt8), (4 : UInt8), (4 : UInt8),
  (4 : UInt8), (4 : UInt8), (5 : UInt8), (5 : UInt8), (5 : UInt8), (5 : UInt8), (5 : UInt8), (5 : UInt8), (5 : UInt8), (5 : UInt8), (5 : UInt8), (5 : UInt8), (5 : UInt8), (5 : UInt8),
  (5 : UInt8), (5 : UInt8), (5 : UInt8), (5 : UInt8), (6 : UInt8), (6 : UInt8), (6 : UInt8), (6 : UInt8), (6 : UInt8), (6 : UInt8), (6 : UInt8), (6 : UInt8), (6 : UInt8), (6 : UInt8),
  (6 : UInt8), (6 : UInt8), (6 : UInt8), (6 : UInt8), (6 : UInt8), (6 : UInt8), (6 : UInt8), (6 : UInt8), (6 : UInt8), (6 : UInt8), (6 : UInt8), (6 : UInt8), (6 : UInt8), (6 : UInt8),
  (6 : UInt8), (6 : UInt8), (6 : UInt8), (6 : UInt8), (6 : UInt8), (6 : UInt8), (6 : UInt8), (6 : UInt8)]
  [(7 : UInt8), (7 : UInt8), (7 : UInt8), (7 : UInt8), (7 : UInt8), (7 : UInt8), (7 : UInt8), (7 : UInt8), (7 : UInt8), (7 : UInt8), (7 : UInt8), (7 : UInt8), (7 : UInt8), (7 : UInt8),
  (7 : UInt8), (7 : UInt8), (7 : UInt8), (7 : UInt8), (7 : UInt8), (7 : UInt8), (7 : UInt8), (7 : UInt8), (7 : UInt8), (7 : UInt8), (7 : UInt8), (7 : UInt8), (7 : UInt8), (7 : UInt8),
  (7 : UInt8), (7 : UInt8), (7 : UInt8), (7 : UInt8), (7 : UInt8), (7 : UInt8), (7 : UInt8), (7 : UInt8), (7 : UInt8), (7 : UInt8), (7 : UInt8), (7 : UInt8), (7 : UInt8), (7 : UInt8),
  (7 : UInt8), (7 : UInt8), (7 : UInt8), (7 : UInt8), (7 : UInt8), (7 : UInt8), (7 : UInt8), (7 : UInt8), (7 : UInt8), (7 : UInt8), (7 : UInt8), (7 : UInt8), (7 : UInt8), (7 : UInt8),
  (7 : UInt8), (7 : UInt8), (7 : UInt8), (7 : UInt8), (7 : UInt8), (7 : UInt8), (7 : UInt8), (7 : UInt8)])
  (List.append
  [(8 : UInt8), (8 : UInt8), (8 : UInt8), (8 : UInt8), (8 : UInt8), (8 : UInt8), (8 : UInt8), (8 : UInt8), (8 : UInt8), (8 : UInt8), (8 : UInt8), (8 : UInt8), (8 : UInt8), (8 : UInt8),
  (8 : UInt8), (8 : UInt8), (8 : UInt8), (8 : UInt8), (8 : UInt8), (8 : UInt8), (8 : UInt8), (8 : UInt8), (8 : UInt8), (8 : UInt8), (8 : UInt8), (8 : UInt8), (8 : UInt8), (8 : UInt8),
  (8 : UInt8), (8 : UInt8), (8 : UInt8), (8 : UInt8), (8 : UInt8), (8 : UInt8), (8 : UInt8), (8 : UInt8), (8 : UInt8), (8 : UInt8), (8 : UInt8), (8 : UInt8), (8 : UInt8), (8 : UInt8),
  (8 : UInt8), (8 : UInt8), (8 : UInt8), (8 : UInt8), (8 : UInt8), (8 : UInt8), (8 : UInt8), (8 : UInt8), (8 : UInt8), (8 : UInt8), (8 : UInt8), (8 : UInt8), (8 : UInt8), (8 : UInt8),
  (8 : UInt8), (8 : UInt8), (8 : UInt8), (8 : UInt8), (8 : UInt8), (8 : UInt8), (8 : UInt8), (8 : UInt8)]
  [(8 : UInt8), (8 : UInt8), (8 : UInt8), (8 : UInt8), (8 : UInt8), (8 : UInt8), (8 : UInt8), (8 : UInt8), (8 : UInt8), (8 : UInt8), (8 : UInt8), (8 : UInt8), (8 : UInt8), (8 : UInt8),
  (8 : UInt8), (8 : UInt8), (8 : UInt8), (8 : UInt8), (8 : UInt8), (8 : UInt8), (8 : UInt8), (8 : UInt8), (8 : UInt8), (8 : UInt8), (8 : UInt8), (8 : UInt8), (8 : UInt8), (8 : UInt8),
  (8 : UInt8), (8 : UInt8), (8 : UInt8), (8 : UInt8), (8 : UInt8), (8 : UInt8), (8 : UInt8), (8 : UInt8), (8 : UInt8), (8 : UInt8), (8 : UInt8), (8 : UInt8), (8 : UInt8), (8 : UInt8),
  (8 : UInt8), (8 : UInt8), (8 : UInt8), (8 : UInt8), (8 : UInt8), (8 : UInt8), (8 : UInt8), (8 : UInt8), (8 : UInt8), (8 : UInt8), (8 : UInt8), (8 : UInt8), (8 : UInt8), (8 : UInt8),
  (8 : UInt8), (8 : UInt8), (8 : UInt8), (8 : UInt8), (8 : UInt8), (8 : UInt8), (8 : UInt8), (8 : UInt8)]))))) :
  Int))
  (K
  (Value.int IntKind.i64
  (IntKind.wrap IntKind.i64
  ((0 : Int) +
  IntKind.wrap IntKind.i64
  (↑(UInt8.toNat
  (List.getD
  (List.append
  (List.append
  [(0 : UInt8), (1 : UInt8), (2 : UInt8), (2 : UInt8), (3 : UInt8), (3 : UInt8), (3 : UInt8), (3 : UInt8), (4 : UInt8), (4 : UInt8), (4 : UInt8), (4 : UInt8), (4 : UInt8), (4 : UInt8),
  (4 : UInt8), (4 : UInt8), (5 : UInt8), (5 : UInt8), (5 : UInt8), (5 : UInt8), (5 : UInt8), (5 : UInt8), (5 : UInt8), (5 : UInt8), (5 : UInt8), (5 : UInt8), (5 : UInt8), (5 : UInt8),
  (5 : UInt8), (5 : UInt8), (5 : UInt8), (5 : UInt8), (6 : UInt8), (6 : UInt8), (6 : UInt8), (6 : UInt8), (6 : UInt8), (6 : UInt8), (6 : UInt8), (6 : UInt8), (6 : UInt8), (6 : UInt8),
  (6 : UInt8), (6 : UInt8), (6 : UInt8), (6 : UInt8), (6 : UInt8), (6 : UInt8), (6 : UInt8), (6 : UInt8), (6 : UInt8), (6 : UInt8), (6 : UInt8), (6 : UInt8), (6 : UInt8), (6 : UInt8),
  (6 : UInt8), (6 : UInt8), (6 : UInt8), (6 : UInt8), (6 : UInt8), (6 : UInt8), (6 : UInt8), (6 : UInt8)]
  [(7 : UInt8), (7 : UInt8), (7 : UInt8), (7 : UInt8), (7 : UInt8), (7 : UInt8), (7 : UInt8), (7 : UInt8), (7 : UInt8), (7 : UInt8), (7 : UInt8), (7 : UInt8), (7 : UInt8), (7 : UInt8),
  (7 : UInt8), (7 : UInt8), (7 : UInt8), (7 : UInt8), (7 : UInt8), (7 : UInt8), (7 : UInt8), (7 : UInt8), (7 : UInt8), (7 : UInt8), (7 : UInt8), (7 : UInt8), (7 : UInt8), (7 : UInt8),
  (7 : UInt8), (7 : UInt8), (7 : UInt8), (7 : UInt8), (7 : UInt8), (7 : UInt8), (7 : UInt8), (7 : UInt8), (7 : UInt8), (7 : UInt8), (7 : UInt8), (7 : UInt8), (7 : UInt8), (7 : UInt8),
  (7 : UInt8), (7 : UInt8), (7 : UInt8), (7 : UInt8), (7 : UInt8), (7 : UInt8), (7 : UInt8), (7 : UInt8), (7 : UInt8), (7 : UInt8), (7 : UInt8), (7 : UInt8), (7 : UInt8), (7 : UInt8),
  (7 : UInt8), (7 : UInt8), (7 : UInt8), (7 : UInt8), (7 : UInt8), (7 : UInt8), (7 : UInt8), (7 : UInt8)])
  (List.append
  [(8 : UInt8), (8 : UInt8), (8 : UInt8), (8 : UInt8), (8 : UInt8), (8 : UInt8), (8 : UInt8), (8 : UInt8), (8 : UInt8), (8 : UInt8), (8 : UInt8), (8 : UInt8), (8 : UInt8), (8 : UInt8),
  (8 : UInt8), (8 : UInt8), (8 : UInt8), (8 : UInt8), (8 : UInt8), (8 : UInt8), (8 : UInt8), (8 : UInt8), (8 : UInt8), (8 : UInt8), (8 : UInt8), (8 : UInt8), (8 : UInt8), (8 : UInt8),
  (8 : UInt8), (8 : UInt8), (8 : UInt8), (8 : UInt8), (8 : UInt8), (8 : UInt8), (8 : UInt8), (8 : UInt8), (8 : UInt8), (8 : UInt8), (8 : UInt8), (8 : UInt8), (8 : UInt8), (8 : UInt8),
  (8 : UInt8), (8 : UInt8), (8 : UInt8), (8 : UInt8), (8 : UInt8), (8 : UInt8), (8 : UInt8), (8 : UInt8), (8 : UInt8), (8 : UInt8), (8 : UInt8), (8 : UInt8), (8 : UInt8), (8 : UInt8),
  (8 : UInt8), (8 : UInt8), (8 : UInt8), (8 : UInt8), (8 : UInt8), (8 : UInt8), (8 : UInt8), (8 : UInt8)]
  [(8 : UInt8), (8 : UInt8), (8 : UInt8), (8 : UInt8), (8 : UInt8), (8 : UInt8), (8 : UInt8), (8 : UInt8), (8 : UInt8), (8 : UInt8), (8 : UInt8), (8 : UInt8), (8 : UInt8), (8 : UInt8),
  (8 : UInt8), (8 : UInt8), (8 : UInt8), (8 : UInt8), (8 : UInt8), (8 : UInt8), (8 : UInt8), (8 : UInt8), (8 : UInt8), (8 : UInt8), (8 : UInt8), (8 : UInt8), (8 : UInt8), (8 : UInt8),
  (8 : UInt8), (8 : UInt8), (8 : UInt8), (8 : UInt8), (8 : UInt8), (8 : UInt8), (8 : UInt8), (8 : UInt8), (8 : UInt8), (8 : UInt8), (8 : UInt8), (8 : UInt8), (8 : UInt8), (8 : UInt8),
  (8 : UInt8), (8 : UInt8), (8 : UInt8), (8 : UInt8), (8 : UInt8), (8 : UInt8), (8 : UInt8), (8 : UInt8), (8 : UInt8), (8 : UInt8), (8 : UInt8), (8 : UInt8), (8 : UInt8), (8 : UInt8),
  (8 : UInt8), (8 : UInt8), (8 : UInt8), (8 : UInt8), (8 : UInt8), (8 : UInt8), (8 : UInt8), (8 : UInt8)]))
  (Int.toNat (IntKind.wrap IntKind.u8 l)) (0 : UInt8))) :
  Int))))
  σ))))) := by
  intros
  kernel_rfl

end Go.AI
end
