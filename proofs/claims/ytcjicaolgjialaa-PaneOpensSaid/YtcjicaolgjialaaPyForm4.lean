/- The conditions ahead of the calls of the program's functions, reckoned as far as they go (equations that the kernel checks); no condition. -/
import Derived.Test.YtcjicaolgjialaaPySoft
import Derived.Test.YtcjicaolgjialaaAIJoin
set_option maxRecDepth 1000000
set_option linter.unusedVariables false
namespace Go.AI
open Go.Proofs
theorem s3 : ∀ (T : Go.AI.Ct) (a b : Int) (l : Option Go.Addr) (n e : Nat) (σ : Go.AI.AS) (K : Go.Value → Go.AI.AS → Prop),
  Go.AI.fw Go.Proofs.Try.prog Go.AI.hintsS T (3 : Nat) [Go.Value.int Go.IntKind.u8 a, Go.Value.int Go.IntKind.u8 b, Go.Value.slice l n e] σ K =
  Go.AI.bmatch (Decidable.decide ((↑n : Int) > (80 : Int))) (T (13 : Nat) [] σ fun (v0 : Go.Value) (σ1 : Go.AI.AS) ↦ Go.AI.tB v0 fun (b2 : Bool) ↦ K (Go.Value.bool b2) σ1)
  (Go.AI.ALoop (Go.AI.fl Go.Proofs.Try.prog Go.AI.hintsS T (3 : Nat) [Bool.true, Bool.true, Bool.false, Bool.true, Bool.false] [] K)
  [((0 : Nat), Option.some (Go.Value.int Go.IntKind.u8 a)), ((1 : Nat), Option.some (Go.Value.int Go.IntKind.u8 b)), ((2 : Nat), Option.some (Go.Value.slice l n e)),
  ((7 : Nat), Option.some (Go.Value.int Go.IntKind.i64 (0 : Int)))]
  σ) := by
  intros
  kernel_rfl

theorem s3k : ∀ (T : Go.AI.Ct) (a b i : Int) (l : Option Go.Addr) (n e : Nat) (X : Go.AI.Regs → Go.AI.AS → Prop) (σ : Go.AI.AS) (K : Go.Value → Go.AI.AS → Prop),
  Go.AI.fl Go.Proofs.Try.prog Go.AI.hintsS T (3 : Nat) [Bool.true, Bool.true, Bool.false, Bool.true, Bool.false] [] K X
  [((0 : Nat), Option.some (Go.Value.int Go.IntKind.u8 a)), ((1 : Nat), Option.some (Go.Value.int Go.IntKind.u8 b)), ((2 : Nat), Option.some (Go.Value.slice l n e)),
  ((7 : Nat), Option.some (Go.Value.int Go.IntKind.i64 i))]
  σ =
  Go.AI.bmatch (Decidable.decide (i < (↑n : Int)))
  (Go.AI.req ((0 : Int) ≤ i)
  (Go.AI.req (i < (↑n : Int))
  (Go.AI.pSome l fun (a0 : Go.Addr) ↦
  Go.AI.req (e = Go.AI.szOf Go.Proofs.Try.prog (26 : Nat))
  (Go.AI.ldc σ (Go.Addr.add (Go.Addr.add a0 (Int.toNat i * Go.AI.szOf Go.Proofs.Try.prog (26 : Nat))) (0 : Nat)) fun (v1 : Go.Value) ↦
  Go.AI.tI Go.IntKind.i64 v1 fun (n2 : Int) ↦
  Go.AI.bmatch (n2 == (7 : Int)) (T (13 : Nat) [] σ fun (v3 : Go.Value) (σ4 : Go.AI.AS) ↦ Go.AI.tB v3 fun (b5 : Bool) ↦ K (Go.Value.bool b5) σ4)
  (X
  [((0 : Nat), Option.some (Go.Value.int Go.IntKind.u8 a)), ((1 : Nat), Option.some (Go.Value.int Go.IntKind.u8 b)), ((2 : Nat), Option.some (Go.Value.slice l n e)),
  ((7 : Nat), Option.some (Go.Value.int Go.IntKind.i64 (Go.IntKind.wrap Go.IntKind.i64 (i + (1 : Int)))))]
  σ)))))
  (T (14 : Nat) [Go.Value.int Go.IntKind.u8 a, Go.Value.int Go.IntKind.u8 b] σ fun (v6 : Go.Value) (σ7 : Go.AI.AS) ↦
  Go.AI.tTup v6 fun (l8 : List Go.Value) ↦
  Go.AI.pSome l8[(0 : Nat)]? fun (u9 : Go.Value) ↦
  Go.AI.tI Go.IntKind.i64 u9 fun (n10 : Int) ↦
  Go.AI.tTup v6 fun (l11 : List Go.Value) ↦
  Go.AI.pSome l11[(1 : Nat)]? fun (u12 : Go.Value) ↦
  Go.AI.tI Go.IntKind.i64 u12 fun (n13 : Int) ↦
  T (15 : Nat) [Go.Value.int Go.IntKind.i64 n10, Go.Value.int Go.IntKind.i64 n13, Go.Value.slice l n e] σ7 fun (v14 : Go.Value) (σ15 : Go.AI.AS) ↦
  Go.AI.tTup v14 fun (l16 : List Go.Value) ↦
  Go.AI.pSome l16[(0 : Nat)]? fun (u17 : Go.Value) ↦
  Go.AI.tP u17 fun (b18 : Option Go.Addr) ↦
  Go.AI.tTup v14 fun (l19 : List Go.Value) ↦
  Go.AI.pSome l19[(1 : Nat)]? fun (u20 : Go.Value) ↦
  Go.AI.tP u20 fun (b21 : Option Go.Addr) ↦
  Go.AI.ptrEq σ15 b18 Option.none fun (r22 : Bool) ↦
  Go.AI.bmatch r22 (K (Go.Value.bool Bool.false) σ15)
  (T (16 : Nat) [Go.Value.pointer b18] σ15 fun (v23 : Go.Value) (σ24 : Go.AI.AS) ↦
  Go.AI.tL (1 : Nat) v23 fun (s25 : Go.AI.Sl) ↦
  Go.AI.ALoop
  (Go.AI.fl Go.Proofs.Try.prog Go.AI.hintsS T (3 : Nat) [Bool.true, Bool.true, Bool.true, Bool.true, Bool.true, Bool.true, Bool.true, Bool.false, Bool.true, Bool.false] [] K)
  [((8 : Nat), Option.some (Go.Value.int Go.IntKind.i64 n10)), ((9 : Nat), Option.some (Go.Value.int Go.IntKind.i64 n13)), ((10 : Nat), Option.some (Go.Value.pointer b18)),
  ((12 : Nat), Option.some (Go.Value.slice (Go.AI.Sl.a s25) (Go.AI.Sl.n s25) (1 : Nat))), ((13 : Nat), Option.some (Go.Value.int Go.IntKind.i64 (0 : Int)))]
  σ24)) := by
  intros
  kernel_rfl

theorem s3y : ∀ (T : Go.AI.Ct) (w h y : Int) (t : Nat) (p : Option Go.Addr) (m f : Nat) (X : Go.AI.Regs → Go.AI.AS → Prop) (σ : Go.AI.AS) (K : Go.Value → Go.AI.AS → Prop),
  Go.AI.fl Go.Proofs.Try.prog Go.AI.hintsS T (3 : Nat) [Bool.true, Bool.true, Bool.true, Bool.true, Bool.true, Bool.true, Bool.true, Bool.false, Bool.true, Bool.false] [] K X
  [((8 : Nat), Option.some (Go.Value.int Go.IntKind.i64 w)), ((9 : Nat), Option.some (Go.Value.int Go.IntKind.i64 h)),
  ((10 : Nat), Option.some (Go.Value.pointer (Option.some (Go.Addr.mk t (0 : Nat) Option.none)))), ((12 : Nat), Option.some (Go.Value.slice p m f)),
  ((13 : Nat), Option.some (Go.Value.int Go.IntKind.i64 y))]
  σ =
  Go.AI.bmatch (Decidable.decide (y < h))
  (Go.AI.ALoop
  (Go.AI.fl Go.Proofs.Try.prog Go.AI.hintsS T (3 : Nat)
  [Bool.true, Bool.true, Bool.true, Bool.true, Bool.true, Bool.true, Bool.true, Bool.false, Bool.true, Bool.false, Bool.false, Bool.true, Bool.false, Bool.false, Bool.true, Bool.false] [X] K)
  [((8 : Nat), Option.some (Go.Value.int Go.IntKind.i64 w)), ((9 : Nat), Option.some (Go.Value.int Go.IntKind.i64 h)),
  ((10 : Nat), Option.some (Go.Value.pointer (Option.some (Go.Addr.mk t (0 : Nat) Option.none)))), ((12 : Nat), Option.some (Go.Value.slice p m f)),
  ((13 : Nat), Option.some (Go.Value.int Go.IntKind.i64 y)), ((14 : Nat), Option.some (Go.Value.int Go.IntKind.i64 (0 : Int)))]
  σ)
  (T (13 : Nat) [] σ fun (v0 : Go.Value) (σ1 : Go.AI.AS) ↦ Go.AI.tB v0 fun (b2 : Bool) ↦ K (Go.Value.bool b2) σ1) := by
  intros
  kernel_rfl

theorem s3x : ∀ (T : Go.AI.Ct) (w h y x : Int) (t : Nat) (p : Option Go.Addr) (m f : Nat) (X Y : Go.AI.Regs → Go.AI.AS → Prop) (σ : Go.AI.AS) (K : Go.Value → Go.AI.AS → Prop),
  Go.AI.fl Go.Proofs.Try.prog Go.AI.hintsS T (3 : Nat)
  [Bool.true, Bool.true, Bool.true, Bool.true, Bool.true, Bool.true, Bool.true, Bool.false, Bool.true, Bool.false, Bool.false, Bool.true, Bool.false, Bool.false, Bool.true, Bool.false] [X] K Y
  [((8 : Nat), Option.some (Go.Value.int Go.IntKind.i64 w)), ((9 : Nat), Option.some (Go.Value.int Go.IntKind.i64 h)),
  ((10 : Nat), Option.some (Go.Value.pointer (Option.some (Go.Addr.mk t (0 : Nat) Option.none)))), ((12 : Nat), Option.some (Go.Value.slice p m f)),
  ((13 : Nat), Option.some (Go.Value.int Go.IntKind.i64 y)), ((14 : Nat), Option.some (Go.Value.int Go.IntKind.i64 x))]
  σ =
  Go.AI.bmatch (Decidable.decide (x < w))
  (Go.AI.ALoop
  (Go.AI.fl Go.Proofs.Try.prog Go.AI.hintsS T (3 : Nat)
  [Bool.true, Bool.true, Bool.true, Bool.true, Bool.true, Bool.true, Bool.true, Bool.false, Bool.true, Bool.false, Bool.false, Bool.true, Bool.false, Bool.false, Bool.true, Bool.false, Bool.false, Bool.true,
  Bool.false, Bool.false, Bool.true, Bool.false, Bool.true, Bool.false]
  [X, Y] K)
  [((8 : Nat), Option.some (Go.Value.int Go.IntKind.i64 w)), ((9 : Nat), Option.some (Go.Value.int Go.IntKind.i64 h)),
  ((10 : Nat), Option.some (Go.Value.pointer (Option.some (Go.Addr.mk t (0 : Nat) Option.none)))), ((12 : Nat), Option.some (Go.Value.slice p m f)),
  ((13 : Nat), Option.some (Go.Value.int Go.IntKind.i64 y)), ((14 : Nat), Option.some (Go.Value.int Go.IntKind.i64 x)), ((15 : Nat), Option.some (Go.Value.int Go.IntKind.i64 (0 : Int))),
  ((16 : Nat), Option.some (Go.Value.int Go.IntKind.i64 (0 : Int)))]
  σ)
  (X
  [((8 : Nat), Option.some (Go.Value.int Go.IntKind.i64 w)), ((9 : Nat), Option.some (Go.Value.int Go.IntKind.i64 h)),
  ((10 : Nat), Option.some (Go.Value.pointer (Option.some (Go.Addr.mk t (0 : Nat) Option.none)))), ((12 : Nat), Option.some (Go.Value.slice p m f)),
  ((13 : Nat), Option.some (Go.Value.int Go.IntKind.i64 (Go.IntKind.wrap Go.IntKind.i64 (y + (1 : Int)))))]
  σ) := by
  intros
  kernel_rfl

theorem s3i : ∀ (T : Go.AI.Ct) (w h y x n i : Int) (t : Nat) (p : Option Go.Addr) (m f : Nat) (X Y Z : Go.AI.Regs → Go.AI.AS → Prop) (σ : Go.AI.AS) (K : Go.Value → Go.AI.AS → Prop),
  Go.AI.fl Go.Proofs.Try.prog Go.AI.hintsS T (3 : Nat)
  [Bool.true, Bool.true, Bool.true, Bool.true, Bool.true, Bool.true, Bool.true, Bool.false, Bool.true, Bool.false, Bool.false, Bool.true, Bool.false, Bool.false, Bool.true, Bool.false, Bool.false, Bool.true,
  Bool.false, Bool.false, Bool.true, Bool.false, Bool.true, Bool.false]
  [X, Y] K Z
  [((8 : Nat), Option.some (Go.Value.int Go.IntKind.i64 w)), ((9 : Nat), Option.some (Go.Value.int Go.IntKind.i64 h)),
  ((10 : Nat), Option.some (Go.Value.pointer (Option.some (Go.Addr.mk t (0 : Nat) Option.none)))), ((12 : Nat), Option.some (Go.Value.slice p m f)),
  ((13 : Nat), Option.some (Go.Value.int Go.IntKind.i64 y)), ((14 : Nat), Option.some (Go.Value.int Go.IntKind.i64 x)), ((15 : Nat), Option.some (Go.Value.int Go.IntKind.i64 n)),
  ((16 : Nat), Option.some (Go.Value.int Go.IntKind.i64 i))]
  σ =
  Go.AI.bmatch (Decidable.decide (i < (↑m : Int)))
  (Go.AI.req ((0 : Int) ≤ i)
  (Go.AI.req (i < (↑m : Int))
  (Go.AI.pSome p fun (a0 : Go.Addr) ↦
  Go.AI.req (f = Go.AI.szOf Go.Proofs.Try.prog (3 : Nat))
  (Go.AI.ldc σ (Go.Addr.add a0 (Int.toNat i * Go.AI.szOf Go.Proofs.Try.prog (3 : Nat))) fun (v1 : Go.Value) ↦
  Go.AI.tI Go.IntKind.i64 v1 fun (n2 : Int) ↦
  T (17 : Nat) [Go.Value.pointer (Option.some (Go.Addr.mk t (0 : Nat) Option.none)), Go.Value.int Go.IntKind.i64 n2] σ fun (v3 : Go.Value) (σ4 : Go.AI.AS) ↦
  Go.AI.tTup v3 fun (l5 : List Go.Value) ↦
  Go.AI.pSome l5[(0 : Nat)]? fun (u6 : Go.Value) ↦
  Go.AI.tAgg u6 fun (l7 : List Go.Value) ↦
  Go.AI.tCons l7 fun (v8 : Go.Value) (l9 : List Go.Value) ↦
  Go.AI.tI Go.IntKind.i64 v8 fun (n10 : Int) ↦
  Go.AI.tCons l9 fun (v11 : Go.Value) (l12 : List Go.Value) ↦
  Go.AI.tI Go.IntKind.i64 v11 fun (n13 : Int) ↦
  Go.AI.tCons l12 fun (v14 : Go.Value) (l15 : List Go.Value) ↦
  Go.AI.tI Go.IntKind.i64 v14 fun (n16 : Int) ↦
  Go.AI.tCons l15 fun (v17 : Go.Value) (l18 : List Go.Value) ↦
  Go.AI.tI Go.IntKind.i64 v17 fun (n19 : Int) ↦
  Go.AI.tNil l18
  (Go.AI.tTup v3 fun (l20 : List Go.Value) ↦
  Go.AI.pSome l20[(1 : Nat)]? fun (u21 : Go.Value) ↦
  Go.AI.tB u21 fun (b22 : Bool) ↦
  Go.AI.newAt σ4
  (Go.AI.AObj.row Go.AI.RK.plain
  [Go.Value.int Go.IntKind.i64 (0 : Int), Go.Value.int Go.IntKind.i64 (0 : Int), Go.Value.int Go.IntKind.i64 (0 : Int), Go.Value.int Go.IntKind.i64 (0 : Int)])
  fun (i23 : Nat) (σ24 : Go.AI.AS) ↦
  Go.AI.puts σ24 (Go.Addr.mk i23 (0 : Nat) Option.none)
  [Go.Value.int Go.IntKind.i64 n10, Go.Value.int Go.IntKind.i64 n13, Go.Value.int Go.IntKind.i64 n16, Go.Value.int Go.IntKind.i64 n19] fun (σ25 : Go.AI.AS) ↦
  Go.AI.bmatch (!b22) (K (Go.Value.bool Bool.false) σ25)
  (Go.AI.req ((0 : Int) ≤ i)
  (Go.AI.req (i < (↑m : Int))
  (Go.AI.pSome p fun (a26 : Go.Addr) ↦
  Go.AI.req (f = Go.AI.szOf Go.Proofs.Try.prog (3 : Nat))
  (Go.AI.ldc σ25 (Go.Addr.add a26 (Int.toNat i * Go.AI.szOf Go.Proofs.Try.prog (3 : Nat))) fun (v27 : Go.Value) ↦
  Go.AI.tI Go.IntKind.i64 v27 fun (n28 : Int) ↦
  T (18 : Nat) [Go.Value.pointer (Option.some (Go.Addr.mk t (0 : Nat) Option.none)), Go.Value.int Go.IntKind.i64 n28] σ25
  fun (v29 : Go.Value) (σ30 : Go.AI.AS) ↦
  Go.AI.tI Go.IntKind.i64 v29 fun (n31 : Int) ↦
  Go.AI.bmatch (n31 != (4 : Int))
  (Go.AI.lds σ30 (Go.Addr.mk i23 (0 : Nat) Option.none) (4 : Nat) fun (l32 : List Go.Value) ↦
  Go.AI.tCons l32 fun (v33 : Go.Value) (l34 : List Go.Value) ↦
  Go.AI.tI Go.IntKind.i64 v33 fun (n35 : Int) ↦
  Go.AI.tCons l34 fun (v36 : Go.Value) (l37 : List Go.Value) ↦
  Go.AI.tI Go.IntKind.i64 v36 fun (n38 : Int) ↦
  Go.AI.tCons l37 fun (v39 : Go.Value) (l40 : List Go.Value) ↦
  Go.AI.tI Go.IntKind.i64 v39 fun (n41 : Int) ↦
  Go.AI.tCons l40 fun (v42 : Go.Value) (l43 : List Go.Value) ↦
  Go.AI.tI Go.IntKind.i64 v42 fun (n44 : Int) ↦
  Go.AI.tNil l43
  (T (19 : Nat)
  [Go.Value.agg
  (Array.mk
  [Go.Value.int Go.IntKind.i64 n35, Go.Value.int Go.IntKind.i64 n38, Go.Value.int Go.IntKind.i64 n41,
  Go.Value.int Go.IntKind.i64 n44]),
  Go.Value.int Go.IntKind.i64 x, Go.Value.int Go.IntKind.i64 y]
  σ30 fun (v45 : Go.Value) (σ46 : Go.AI.AS) ↦
  Go.AI.tB v45 fun (b47 : Bool) ↦
  Go.AI.bmatch b47
  (Z
  [((8 : Nat), Option.some (Go.Value.int Go.IntKind.i64 w)),
  ((9 : Nat), Option.some (Go.Value.int Go.IntKind.i64 h)),
  ((10 : Nat), Option.some (Go.Value.pointer (Option.some (Go.Addr.mk t (0 : Nat) Option.none)))),
  ((12 : Nat), Option.some (Go.Value.slice p m f)), ((13 : Nat), Option.some (Go.Value.int Go.IntKind.i64 y)),
  ((14 : Nat), Option.some (Go.Value.int Go.IntKind.i64 x)),
  ((15 : Nat), Option.some (Go.Value.int Go.IntKind.i64 (Go.IntKind.wrap Go.IntKind.i64 (n + (1 : Int))))),
  ((16 : Nat), Option.some (Go.Value.int Go.IntKind.i64 (Go.IntKind.wrap Go.IntKind.i64 (i + (1 : Int)))))]
  σ46)
  (Z
  [((8 : Nat), Option.some (Go.Value.int Go.IntKind.i64 w)),
  ((9 : Nat), Option.some (Go.Value.int Go.IntKind.i64 h)),
  ((10 : Nat), Option.some (Go.Value.pointer (Option.some (Go.Addr.mk t (0 : Nat) Option.none)))),
  ((12 : Nat), Option.some (Go.Value.slice p m f)), ((13 : Nat), Option.some (Go.Value.int Go.IntKind.i64 y)),
  ((14 : Nat), Option.some (Go.Value.int Go.IntKind.i64 x)),
  ((15 : Nat), Option.some (Go.Value.int Go.IntKind.i64 n)),
  ((16 : Nat), Option.some (Go.Value.int Go.IntKind.i64 (Go.IntKind.wrap Go.IntKind.i64 (i + (1 : Int)))))]
  σ46)))
  (Go.AI.req ((0 : Int) ≤ i)
  (Go.AI.req (i < (↑m : Int))
  (Go.AI.pSome p fun (a48 : Go.Addr) ↦
  Go.AI.req (f = Go.AI.szOf Go.Proofs.Try.prog (3 : Nat))
  (Go.AI.ldc σ30 (Go.Addr.add a48 (Int.toNat i * Go.AI.szOf Go.Proofs.Try.prog (3 : Nat))) fun (v49 : Go.Value) ↦
  Go.AI.tI Go.IntKind.i64 v49 fun (n50 : Int) ↦
  T (20 : Nat) [Go.Value.pointer (Option.some (Go.Addr.mk t (0 : Nat) Option.none)), Go.Value.int Go.IntKind.i64 n50] σ30
  fun (v51 : Go.Value) (σ52 : Go.AI.AS) ↦
  Go.AI.tTup v51 fun (l53 : List Go.Value) ↦
  Go.AI.pSome l53[(0 : Nat)]? fun (u54 : Go.Value) ↦
  Go.AI.tI Go.IntKind.i64 u54 fun (n55 : Int) ↦
  Go.AI.tTup v51 fun (l56 : List Go.Value) ↦
  Go.AI.pSome l56[(1 : Nat)]? fun (u57 : Go.Value) ↦
  Go.AI.tI Go.IntKind.i64 u57 fun (n58 : Int) ↦
  T (17 : Nat) [Go.Value.pointer (Option.some (Go.Addr.mk t (0 : Nat) Option.none)), Go.Value.int Go.IntKind.i64 n55]
  σ52 fun (v59 : Go.Value) (σ60 : Go.AI.AS) ↦
  Go.AI.tTup v59 fun (l61 : List Go.Value) ↦
  Go.AI.pSome l61[(0 : Nat)]? fun (u62 : Go.Value) ↦
  Go.AI.tAgg u62 fun (l63 : List Go.Value) ↦
  Go.AI.tCons l63 fun (v64 : Go.Value) (l65 : List Go.Value) ↦
  Go.AI.tI Go.IntKind.i64 v64 fun (n66 : Int) ↦
  Go.AI.tCons l65 fun (v67 : Go.Value) (l68 : List Go.Value) ↦
  Go.AI.tI Go.IntKind.i64 v67 fun (n69 : Int) ↦
  Go.AI.tCons l68 fun (v70 : Go.Value) (l71 : List Go.Value) ↦
  Go.AI.tI Go.IntKind.i64 v70 fun (n72 : Int) ↦
  Go.AI.tCons l71 fun (v73 : Go.Value) (l74 : List Go.Value) ↦
  Go.AI.tI Go.IntKind.i64 v73 fun (n75 : Int) ↦
  Go.AI.tNil l74
  (Go.AI.tTup v59 fun (l76 : List Go.Value) ↦
  Go.AI.pSome l76[(1 : Nat)]? fun (u77 : Go.Value) ↦
  Go.AI.tB u77 fun (b78 : Bool) ↦
  Go.AI.newAt σ60
  (Go.AI.AObj.row Go.AI.RK.plain
  [Go.Value.int Go.IntKind.i64 (0 : Int), Go.Value.int Go.IntKind.i64 (0 : Int),
  Go.Value.int Go.IntKind.i64 (0 : Int), Go.Value.int Go.IntKind.i64 (0 : Int)])
  fun (i79 : Nat) (σ80 : Go.AI.AS) ↦
  Go.AI.puts σ80 (Go.Addr.mk i79 (0 : Nat) Option.none)
  [Go.Value.int Go.IntKind.i64 n66, Go.Value.int Go.IntKind.i64 n69,
  Go.Value.int Go.IntKind.i64 n72, Go.Value.int Go.IntKind.i64 n75]
  fun (σ81 : Go.AI.AS) ↦
  T (17 : Nat)
  [Go.Value.pointer (Option.some (Go.Addr.mk t (0 : Nat) Option.none)),
  Go.Value.int Go.IntKind.i64 n58]
  σ81 fun (v82 : Go.Value) (σ83 : Go.AI.AS) ↦
  Go.AI.tTup v82 fun (l84 : List Go.Value) ↦
  Go.AI.pSome l84[(0 : Nat)]? fun (u85 : Go.Value) ↦
  Go.AI.tAgg u85 fun (l86 : List Go.Value) ↦
  Go.AI.tCons l86 fun (v87 : Go.Value) (l88 : List Go.Value) ↦
  Go.AI.tI Go.IntKind.i64 v87 fun (n89 : Int) ↦
  Go.AI.tCons l88 fun (v90 : Go.Value) (l91 : List Go.Value) ↦
  Go.AI.tI Go.IntKind.i64 v90 fun (n92 : Int) ↦
  Go.AI.tCons l91 fun (v93 : Go.Value) (l94 : List Go.Value) ↦
  Go.AI.tI Go.IntKind.i64 v93 fun (n95 : Int) ↦
  Go.AI.tCons l94 fun (v96 : Go.Value) (l97 : List Go.Value) ↦
  Go.AI.tI Go.IntKind.i64 v96 fun (n98 : Int) ↦
  Go.AI.tNil l97
  (Go.AI.tTup v82 fun (l99 : List Go.Value) ↦
  Go.AI.pSome l99[(1 : Nat)]? fun (u100 : Go.Value) ↦
  Go.AI.tB u100 fun (b101 : Bool) ↦
  Go.AI.newAt σ83
  (Go.AI.AObj.row Go.AI.RK.plain
  [Go.Value.int Go.IntKind.i64 (0 : Int),
  Go.Value.int Go.IntKind.i64 (0 : Int),
  Go.Value.int Go.IntKind.i64 (0 : Int),
  Go.Value.int Go.IntKind.i64 (0 : Int)])
  fun (i102 : Nat) (σ103 : Go.AI.AS) ↦
  Go.AI.puts σ103
  (Go.Addr.mk i102 (0 : Nat) Option.none)
  [Go.Value.int Go.IntKind.i64 n89,
  Go.Value.int Go.IntKind.i64 n92,
  Go.Value.int Go.IntKind.i64 n95,
  Go.Value.int Go.IntKind.i64 n98]
  fun (σ104 : Go.AI.AS) ↦
  Go.AI.lds σ104
  (Go.Addr.mk i23 (0 : Nat) Option.none)
  (4 : Nat) fun (l105 : List Go.Value) ↦
  Go.AI.tCons l105
  fun (v106 : Go.Value)
  (l107 : List Go.Value) ↦
  Go.AI.tI Go.IntKind.i64 v106
  fun (n108 : Int) ↦
  Go.AI.tCons l107
  fun (v109 : Go.Value)
  (l110 : List Go.Value) ↦
  Go.AI.tI Go.IntKind.i64 v109
  fun (n111 : Int) ↦
  Go.AI.tCons l110
  fun (v112 : Go.Value)
  (l113 : List Go.Value) ↦
  Go.AI.tI Go.IntKind.i64 v112
  fun (n114 : Int) ↦
  Go.AI.tCons l113
  fun (v115 : Go.Value)
  (l116 : List Go.Value) ↦
  Go.AI.tI Go.IntKind.i64 v115
  fun (n117 : Int) ↦
  Go.AI.tNil l116
  (Go.AI.lds σ104
  (Go.Addr.mk i79 (0 : Nat)
  Option.none)
  (4 : Nat)
  fun
  (l118 : List Go.Value) ↦
  Go.AI.tCons l118
  fun (v119 : Go.Value)
  (l120 :
  List Go.Value) ↦
  Go.AI.tI Go.IntKind.i64
  v119
  fun (n121 : Int) ↦
  Go.AI.tCons l120
  fun
  (v122 : Go.Value)
  (l123 :
  List Go.Value) ↦
  Go.AI.tI
  Go.IntKind.i64
  v122
  fun (n124 : Int) ↦
  Go.AI.tCons l123
  fun
  (v125 :
  Go.Value)
  (l126 :
  List
  Go.Value) ↦
  Go.AI.tI
  Go.IntKind.i64
  v125
  fun
  (n127 :
  Int) ↦
  Go.AI.tCons
  l126
  fun
  (v128 :
  Go.Value)
  (l129 :
  List
  Go.Value) ↦
  Go.AI.tI
  Go.IntKind.i64
  v128
  fun
  (n130 :
  Int) ↦
  Go.AI.tNil
  l129
  (T
  (19 :
  Nat)
  [Go.Value.agg
  (Array.mk
  [Go.Value.int
  Go.IntKind.i64
  n108,
  Go.Value.int
  Go.IntKind.i64
  n111,
  Go.Value.int
  Go.IntKind.i64
  n114,
  Go.Value.int
  Go.IntKind.i64
  n117]),
  Go.Value.int
  Go.IntKind.i64
  x,
  Go.Value.int
  Go.IntKind.i64
  y]
  σ104
  fun
  (v131 :
  Go.Value)
  (σ132 :
  Go.AI.AS) ↦
  Go.AI.tB
  v131
  fun
  (b133 :
  Bool) ↦
  Go.AI.lds
  σ132
  (Go.Addr.mk
  i79
  (0 :
  Nat)
  Option.none)
  (4 :
  Nat)
  fun
  (l134 :
  List
  Go.Value) ↦
  Go.AI.tCons
  l134
  fun
  (v135 :
  Go.Value)
  (l136 :
  List
  Go.Value) ↦
  Go.AI.tI
  Go.IntKind.i64
  v135
  fun
  (n137 :
  Int) ↦
  Go.AI.tCons
  l136
  fun
  (v138 :
  Go.Value)
  (l139 :
  List
  Go.Value) ↦
  Go.AI.tI
  Go.IntKind.i64
  v138
  fun
  (n140 :
  Int) ↦
  Go.AI.tCons
  l139
  fun
  (v141 :
  Go.Value)
  (l142 :
  List
  Go.Value) ↦
  Go.AI.tI
  Go.IntKind.i64
  v141
  fun
  (n143 :
  Int) ↦
  Go.AI.tCons
  l142
  fun
  (v144 :
  Go.Value)
  (l145 :
  List
  Go.Value) ↦
  Go.AI.tI
  Go.IntKind.i64
  v144
  fun
  (n146 :
  Int) ↦
  Go.AI.tNil
  l145
  (Go.Value.agg
  (Array.mk
  [Go.Value.int
  Go.IntKind.i64
  n121,
  Go.Value.int
  Go.IntKind.i64
  n124,
  Go.Value.int
  Go.IntKind.i64
  n127,
  Go.Value.int
  Go.IntKind.i64
  n130]) =
  Go.Value.agg
  (Array.mk
  [Go.Value.int
  Go.IntKind.i64
  n137,
  Go.Value.int
  Go.IntKind.i64
  n140,
  Go.Value.int
  Go.IntKind.i64
  n143,
  Go.Value.int
  Go.IntKind.i64
  n146]) ∧
  T
  (19 :
  Nat)
  [Go.Value.agg
  (Array.mk
  [Go.Value.int
  Go.IntKind.i64
  n121,
  Go.Value.int
  Go.IntKind.i64
  n124,
  Go.Value.int
  Go.IntKind.i64
  n127,
  Go.Value.int
  Go.IntKind.i64
  n130]),
  Go.Value.int
  Go.IntKind.i64
  x,
  Go.Value.int
  Go.IntKind.i64
  y]
  σ132
  fun
  (v147 :
  Go.Value)
  (σ148 :
  Go.AI.AS) ↦
  Go.AI.tB
  v147
  fun
  (b149 :
  Bool) ↦
  Go.AI.bmatch
  b149
  (Go.AI.bmatch
  (!b133 ==
  Bool.true)
  (K
  (Go.Value.bool
  Bool.false)
  σ148)
  (Z
  [((8 :
  Nat),
  Option.some
  (Go.Value.int
  Go.IntKind.i64
  w)),
  ((9 :
  Nat),
  Option.some
  (Go.Value.int
  Go.IntKind.i64
  h)),
  ((10 :
  Nat),
  Option.some
  (Go.Value.pointer
  (Option.some
  (Go.Addr.mk
  t
  (0 :
  Nat)
  Option.none)))),
  ((12 :
  Nat),
  Option.some
  (Go.Value.slice
  p
  m
  f)),
  ((13 :
  Nat),
  Option.some
  (Go.Value.int
  Go.IntKind.i64
  y)),
  ((14 :
  Nat),
  Option.some
  (Go.Value.int
  Go.IntKind.i64
  x)),
  ((15 :
  Nat),
  Option.some
  (Go.Value.int
  Go.IntKind.i64
  n)),
  ((16 :
  Nat),
  Option.some
  (Go.Value.int
  Go.IntKind.i64
  (Go.IntKind.wrap
  Go.IntKind.i64
  (i +
  (1 :
  Int)))))]
  σ148))
  (Go.AI.lds
  σ148
  (Go.Addr.mk
  i102
  (0 :
  Nat)
  Option.none)
  (4 :
  Nat)
  fun
  (l150 :
  List
  Go.Value) ↦
  Go.AI.tCons
  l150
  fun
  (v151 :
  Go.Value)
  (l152 :
  List
  Go.Value) ↦
  Go.AI.tI
  Go.IntKind.i64
  v151
  fun
  (n153 :
  Int) ↦
  Go.AI.tCons
  l152
  fun
  (v154 :
  Go.Value)
  (l155 :
  List
  Go.Value) ↦
  Go.AI.tI
  Go.IntKind.i64
  v154
  fun
  (n156 :
  Int) ↦
  Go.AI.tCons
  l155
  fun
  (v157 :
  Go.Value)
  (l158 :
  List
  Go.Value) ↦
  Go.AI.tI
  Go.IntKind.i64
  v157
  fun
  (n159 :
  Int) ↦
  Go.AI.tCons
  l158
  fun
  (v160 :
  Go.Value)
  (l161 :
  List
  Go.Value) ↦
  Go.AI.tI
  Go.IntKind.i64
  v160
  fun
  (n162 :
  Int) ↦
  Go.AI.tNil
  l161
  (T
  (19 :
  Nat)
  [Go.Value.agg
  (Array.mk
  [Go.Value.int
  Go.IntKind.i64
  n153,
  Go.Value.int
  Go.IntKind.i64
  n156,
  Go.Value.int
  Go.IntKind.i64
  n159,
  Go.Value.int
  Go.IntKind.i64
  n162]),
  Go.Value.int
  Go.IntKind.i64
  x,
  Go.Value.int
  Go.IntKind.i64
  y]
  σ148
  fun
  (v163 :
  Go.Value)
  (σ164 :
  Go.AI.AS) ↦
  Go.AI.tB
  v163
  fun
  (b165 :
  Bool) ↦
  Go.AI.bmatch
  (!b133 ==
  b165)
  (K
  (Go.Value.bool
  Bool.false)
  σ164)
  (Z
  [((8 :
  Nat),
  Option.some
  (Go.Value.int
  Go.IntKind.i64
  w)),
  ((9 :
  Nat),
  Option.some
  (Go.Value.int
  Go.IntKind.i64
  h)),
  ((10 :
  Nat),
  Option.some
  (Go.Value.pointer
  (Option.some
  (Go.Addr.mk
  t
  (0 :
  Nat)
  Option.none)))),
  ((12 :
  Nat),
  Option.some
  (Go.Value.slice
  p
  m
  f)),
  ((13 :
  Nat),
  Option.some
  (Go.Value.int
  Go.IntKind.i64
  y)),
  ((14 :
  Nat),
  Option.some
  (Go.Value.int
  Go.IntKind.i64
  x)),
  ((15 :
  Nat),
  Option.some
  (Go.Value.int
  Go.IntKind.i64
  n)),
  ((16 :
  Nat),
  Option.some
  (Go.Value.int
  Go.IntKind.i64
  (Go.IntKind.wrap
  Go.IntKind.i64
  (i +
  (1 :
  Int)))))]
  σ164)))))))))))))))))))))
  (Go.AI.bmatch (n != (1 : Int))
  (Go.AI.bmatch (Decidable.decide ((↑m : Int) > (0 : Int))) (K (Go.Value.bool Bool.false) σ)
  (Y
  [((8 : Nat), Option.some (Go.Value.int Go.IntKind.i64 w)), ((9 : Nat), Option.some (Go.Value.int Go.IntKind.i64 h)),
  ((10 : Nat), Option.some (Go.Value.pointer (Option.some (Go.Addr.mk t (0 : Nat) Option.none)))), ((12 : Nat), Option.some (Go.Value.slice p m f)),
  ((13 : Nat), Option.some (Go.Value.int Go.IntKind.i64 y)), ((14 : Nat), Option.some (Go.Value.int Go.IntKind.i64 (Go.IntKind.wrap Go.IntKind.i64 (x + (1 : Int)))))]
  σ))
  (Y
  [((8 : Nat), Option.some (Go.Value.int Go.IntKind.i64 w)), ((9 : Nat), Option.some (Go.Value.int Go.IntKind.i64 h)),
  ((10 : Nat), Option.some (Go.Value.pointer (Option.some (Go.Addr.mk t (0 : Nat) Option.none)))), ((12 : Nat), Option.some (Go.Value.slice p m f)),
  ((13 : Nat), Option.some (Go.Value.int Go.IntKind.i64 y)), ((14 : Nat), Option.some (Go.Value.int Go.IntKind.i64 (Go.IntKind.wrap Go.IntKind.i64 (x + (1 : Int)))))]
  σ)) := by
  intros
  kernel_rfl

theorem s4 : ∀ (T : Go.AI.Ct) (a b : Int) (l : Option Go.Addr) (n e : Nat) (at__1 side size : Int) (σ : Go.AI.AS) (K : Go.Value → Go.AI.AS → Prop),
  Go.AI.fw Go.Proofs.Try.prog Go.AI.hintsS T (4 : Nat)
  [Go.Value.int Go.IntKind.u8 a, Go.Value.int Go.IntKind.u8 b, Go.Value.slice l n e, Go.Value.int Go.IntKind.i64 at__1, Go.Value.int Go.IntKind.u8 side, Go.Value.int Go.IntKind.u32 size] σ K =
  Go.AI.bmatch (Decidable.decide ((↑n : Int) > (80 : Int))) (T (13 : Nat) [] σ fun (v0 : Go.Value) (σ1 : Go.AI.AS) ↦ Go.AI.tB v0 fun (b2 : Bool) ↦ K (Go.Value.bool b2) σ1)
  (T (14 : Nat) [Go.Value.int Go.IntKind.u8 a, Go.Value.int Go.IntKind.u8 b] σ fun (v3 : Go.Value) (σ4 : Go.AI.AS) ↦
  Go.AI.tTup v3 fun (l5 : List Go.Value) ↦
  Go.AI.pSome l5[(0 : Nat)]? fun (u6 : Go.Value) ↦
  Go.AI.tI Go.IntKind.i64 u6 fun (n7 : Int) ↦
  Go.AI.tTup v3 fun (l8 : List Go.Value) ↦
  Go.AI.pSome l8[(1 : Nat)]? fun (u9 : Go.Value) ↦
  Go.AI.tI Go.IntKind.i64 u9 fun (n10 : Int) ↦
  T (15 : Nat) [Go.Value.int Go.IntKind.i64 n7, Go.Value.int Go.IntKind.i64 n10, Go.Value.slice l n e] σ4 fun (v11 : Go.Value) (σ12 : Go.AI.AS) ↦
  Go.AI.tTup v11 fun (l13 : List Go.Value) ↦
  Go.AI.pSome l13[(0 : Nat)]? fun (u14 : Go.Value) ↦
  Go.AI.tP u14 fun (b15 : Option Go.Addr) ↦
  Go.AI.tTup v11 fun (l16 : List Go.Value) ↦
  Go.AI.pSome l16[(1 : Nat)]? fun (u17 : Go.Value) ↦
  Go.AI.tP u17 fun (b18 : Option Go.Addr) ↦
  Go.AI.ptrEq σ12 b15 Option.none fun (r19 : Bool) ↦
  Go.AI.bmatch r19 (K (Go.Value.bool Bool.false) σ12)
  (T (21 : Nat) [Go.Value.pointer b18, Go.Value.int Go.IntKind.i64 at__1] σ12 fun (v20 : Go.Value) (σ21 : Go.AI.AS) ↦
  Go.AI.tI Go.IntKind.i64 v20 fun (n22 : Int) ↦
  Go.AI.bmatch (n22 == (0 : Int)) (T (13 : Nat) [] σ21 fun (v23 : Go.Value) (σ24 : Go.AI.AS) ↦ Go.AI.tB v23 fun (b25 : Bool) ↦ K (Go.Value.bool b25) σ24)
  (Go.AI.pSome b18 fun (a26 : Go.Addr) ↦
  Go.AI.ldc σ21 (Go.Addr.mk (Go.Addr.block a26) (Go.Addr.off a26 + (2 : Nat)) Option.none) fun (v27 : Go.Value) ↦
  Go.AI.tL (8 : Nat) v27 fun (s28 : Go.AI.Sl) ↦
  Go.AI.bmatch (Decidable.decide ((↑(Go.AI.Sl.n s28) : Int) > (62 : Int)))
  (T (13 : Nat) [] σ21 fun (v29 : Go.Value) (σ30 : Go.AI.AS) ↦ Go.AI.tB v29 fun (b31 : Bool) ↦ K (Go.Value.bool b31) σ30)
  (T (16 : Nat) [Go.Value.pointer b15] σ21 fun (v32 : Go.Value) (σ33 : Go.AI.AS) ↦
  Go.AI.tL (1 : Nat) v32 fun (s34 : Go.AI.Sl) ↦
  Go.AI.ALoop
  (Go.AI.fl Go.Proofs.Try.prog Go.AI.hintsS T (4 : Nat)
  [Bool.true, Bool.true, Bool.true, Bool.true, Bool.true, Bool.true, Bool.true, Bool.true, Bool.true, Bool.false, Bool.true, Bool.false] [] K)
  [((4 : Nat), Option.some (Go.Value.int Go.IntKind.u8 side)), ((5 : Nat), Option.some (Go.Value.int Go.IntKind.u32 size)),
  ((15 : Nat), Option.some (Go.Value.pointer b15)), ((16 : Nat), Option.some (Go.Value.pointer b18)), ((17 : Nat), Option.some (Go.Value.int Go.IntKind.i64 n22)),
  ((18 : Nat), Option.some (Go.Value.slice (Go.AI.Sl.a s34) (Go.AI.Sl.n s34) (1 : Nat))),
  ((19 : Nat), Option.some (Go.Value.slice Option.none (0 : Nat) (0 : Nat))), ((20 : Nat), Option.some (Go.Value.int Go.IntKind.i64 (0 : Int)))]
  σ33)))) := by
  intros
  kernel_rfl

theorem s4l : ∀ (T : Go.AI.Ct) (side size split i : Int) (t x : Nat) (p : Option Go.Addr) (m f : Nat) (q : Option Go.Addr) (r g : Nat) (X : Go.AI.Regs → Go.AI.AS → Prop) (σ : Go.AI.AS)
  (K : Go.Value → Go.AI.AS → Prop),
  Go.AI.fl Go.Proofs.Try.prog Go.AI.hintsS T (4 : Nat) [Bool.true, Bool.true, Bool.true, Bool.true, Bool.true, Bool.true, Bool.true, Bool.true, Bool.true, Bool.false, Bool.true, Bool.false] [] K X
  [((4 : Nat), Option.some (Go.Value.int Go.IntKind.u8 side)), ((5 : Nat), Option.some (Go.Value.int Go.IntKind.u32 size)),
  ((15 : Nat), Option.some (Go.Value.pointer (Option.some (Go.Addr.mk t (0 : Nat) Option.none)))), ((16 : Nat), Option.some (Go.Value.pointer (Option.some (Go.Addr.mk x (0 : Nat) Option.none)))),
  ((17 : Nat), Option.some (Go.Value.int Go.IntKind.i64 split)), ((18 : Nat), Option.some (Go.Value.slice p m f)), ((19 : Nat), Option.some (Go.Value.slice q r g)),
  ((20 : Nat), Option.some (Go.Value.int Go.IntKind.i64 i))]
  σ =
  Go.AI.bmatch (Decidable.decide (i < (↑m : Int)))
  (Go.AI.req ((0 : Int) ≤ i)
  (Go.AI.req (i < (↑m : Int))
  (Go.AI.pSome p fun (a0 : Go.Addr) ↦
  Go.AI.req (f = Go.AI.szOf Go.Proofs.Try.prog (3 : Nat))
  (Go.AI.ldc σ (Go.Addr.add a0 (Int.toNat i * Go.AI.szOf Go.Proofs.Try.prog (3 : Nat))) fun (v1 : Go.Value) ↦
  Go.AI.tI Go.IntKind.i64 v1 fun (n2 : Int) ↦
  T (17 : Nat) [Go.Value.pointer (Option.some (Go.Addr.mk t (0 : Nat) Option.none)), Go.Value.int Go.IntKind.i64 n2] σ fun (v3 : Go.Value) (σ4 : Go.AI.AS) ↦
  Go.AI.tTup v3 fun (l5 : List Go.Value) ↦
  Go.AI.pSome l5[(0 : Nat)]? fun (u6 : Go.Value) ↦
  Go.AI.tAgg u6 fun (l7 : List Go.Value) ↦
  Go.AI.tCons l7 fun (v8 : Go.Value) (l9 : List Go.Value) ↦
  Go.AI.tI Go.IntKind.i64 v8 fun (n10 : Int) ↦
  Go.AI.tCons l9 fun (v11 : Go.Value) (l12 : List Go.Value) ↦
  Go.AI.tI Go.IntKind.i64 v11 fun (n13 : Int) ↦
  Go.AI.tCons l12 fun (v14 : Go.Value) (l15 : List Go.Value) ↦
  Go.AI.tI Go.IntKind.i64 v14 fun (n16 : Int) ↦
  Go.AI.tCons l15 fun (v17 : Go.Value) (l18 : List Go.Value) ↦
  Go.AI.tI Go.IntKind.i64 v17 fun (n19 : Int) ↦
  Go.AI.tNil l18
  (Go.AI.tTup v3 fun (l20 : List Go.Value) ↦
  Go.AI.pSome l20[(1 : Nat)]? fun (u21 : Go.Value) ↦
  Go.AI.tB u21 fun (b22 : Bool) ↦
  Go.AI.newAt σ4
  (Go.AI.AObj.row Go.AI.RK.plain
  [Go.Value.int Go.IntKind.i64 (0 : Int), Go.Value.int Go.IntKind.i64 (0 : Int), Go.Value.int Go.IntKind.i64 (0 : Int), Go.Value.int Go.IntKind.i64 (0 : Int)])
  fun (i23 : Nat) (σ24 : Go.AI.AS) ↦
  Go.AI.puts σ24 (Go.Addr.mk i23 (0 : Nat) Option.none)
  [Go.Value.int Go.IntKind.i64 n10, Go.Value.int Go.IntKind.i64 n13, Go.Value.int Go.IntKind.i64 n16, Go.Value.int Go.IntKind.i64 n19] fun (σ25 : Go.AI.AS) ↦
  Go.AI.lds σ25 (Go.Addr.mk i23 (0 : Nat) Option.none) (4 : Nat) fun (l26 : List Go.Value) ↦
  Go.AI.tCons l26 fun (v27 : Go.Value) (l28 : List Go.Value) ↦
  Go.AI.tI Go.IntKind.i64 v27 fun (n29 : Int) ↦
  Go.AI.tCons l28 fun (v30 : Go.Value) (l31 : List Go.Value) ↦
  Go.AI.tI Go.IntKind.i64 v30 fun (n32 : Int) ↦
  Go.AI.tCons l31 fun (v33 : Go.Value) (l34 : List Go.Value) ↦
  Go.AI.tI Go.IntKind.i64 v33 fun (n35 : Int) ↦
  Go.AI.tCons l34 fun (v36 : Go.Value) (l37 : List Go.Value) ↦
  Go.AI.tI Go.IntKind.i64 v36 fun (n38 : Int) ↦
  Go.AI.tNil l37
  (Go.AI.newAt σ25
  (Go.AI.AObj.row Go.AI.RK.rw
  [Go.Value.int Go.IntKind.i64 n29, Go.Value.int Go.IntKind.i64 n32, Go.Value.int Go.IntKind.i64 n35, Go.Value.int Go.IntKind.i64 n38])
  fun (i39 : Nat) (σ40 : Go.AI.AS) ↦
  Go.AI.chk (Go.AI.nilOr q g (Go.AI.szOf Go.Proofs.Try.prog (36 : Nat)))
  (Go.AI.lds σ40 (Go.Addr.mk i39 (0 : Nat) Option.none) (4 : Nat) fun (l41 : List Go.Value) ↦
  Go.AI.appendTo σ40 (4 : Nat) (32 : Nat) (Go.AI.Sl.mk q r) l41 (1 : Nat) fun (s42 : Go.AI.Sl) (σ43 : Go.AI.AS) ↦
  X
  [((4 : Nat), Option.some (Go.Value.int Go.IntKind.u8 side)), ((5 : Nat), Option.some (Go.Value.int Go.IntKind.u32 size)),
  ((15 : Nat), Option.some (Go.Value.pointer (Option.some (Go.Addr.mk t (0 : Nat) Option.none)))),
  ((16 : Nat), Option.some (Go.Value.pointer (Option.some (Go.Addr.mk x (0 : Nat) Option.none)))),
  ((17 : Nat), Option.some (Go.Value.int Go.IntKind.i64 split)), ((18 : Nat), Option.some (Go.Value.slice p m f)),
  ((19 : Nat), Option.some (Go.Value.slice (Go.AI.Sl.a s42) (Go.AI.Sl.n s42) (4 : Nat))),
  ((20 : Nat), Option.some (Go.Value.int Go.IntKind.i64 (Go.IntKind.wrap Go.IntKind.i64 (i + (1 : Int)))))]
  σ43)))))))
  (T (17 : Nat) [Go.Value.pointer (Option.some (Go.Addr.mk t (0 : Nat) Option.none)), Go.Value.int Go.IntKind.i64 split] σ fun (v44 : Go.Value) (σ45 : Go.AI.AS) ↦
  Go.AI.tTup v44 fun (l46 : List Go.Value) ↦
  Go.AI.pSome l46[(0 : Nat)]? fun (u47 : Go.Value) ↦
  Go.AI.tAgg u47 fun (l48 : List Go.Value) ↦
  Go.AI.tCons l48 fun (v49 : Go.Value) (l50 : List Go.Value) ↦
  Go.AI.tI Go.IntKind.i64 v49 fun (n51 : Int) ↦
  Go.AI.tCons l50 fun (v52 : Go.Value) (l53 : List Go.Value) ↦
  Go.AI.tI Go.IntKind.i64 v52 fun (n54 : Int) ↦
  Go.AI.tCons l53 fun (v55 : Go.Value) (l56 : List Go.Value) ↦
  Go.AI.tI Go.IntKind.i64 v55 fun (n57 : Int) ↦
  Go.AI.tCons l56 fun (v58 : Go.Value) (l59 : List Go.Value) ↦
  Go.AI.tI Go.IntKind.i64 v58 fun (n60 : Int) ↦
  Go.AI.tNil l59
  (Go.AI.tTup v44 fun (l61 : List Go.Value) ↦
  Go.AI.pSome l61[(1 : Nat)]? fun (u62 : Go.Value) ↦
  Go.AI.tB u62 fun (b63 : Bool) ↦
  Go.AI.newAt σ45
  (Go.AI.AObj.row Go.AI.RK.plain
  [Go.Value.int Go.IntKind.i64 (0 : Int), Go.Value.int Go.IntKind.i64 (0 : Int), Go.Value.int Go.IntKind.i64 (0 : Int), Go.Value.int Go.IntKind.i64 (0 : Int)])
  fun (i64 : Nat) (σ65 : Go.AI.AS) ↦
  Go.AI.puts σ65 (Go.Addr.mk i64 (0 : Nat) Option.none)
  [Go.Value.int Go.IntKind.i64 n51, Go.Value.int Go.IntKind.i64 n54, Go.Value.int Go.IntKind.i64 n57, Go.Value.int Go.IntKind.i64 n60] fun (σ66 : Go.AI.AS) ↦
  T (22 : Nat)
  [Go.Value.pointer (Option.some (Go.Addr.mk t (0 : Nat) Option.none)), Go.Value.int Go.IntKind.i64 split,
  Go.Value.int Go.IntKind.i64 (Go.IntKind.wrap Go.IntKind.i64 (Int.tmod (Go.IntKind.wrap Go.IntKind.i64 side) (4 : Int) + (16 : Int))), Go.Value.int Go.IntKind.u32 size,
  Go.Value.int Go.IntKind.i64 (3 : Int)]
  σ66 fun (v67 : Go.Value) (σ68 : Go.AI.AS) ↦
  Go.AI.tTup v67 fun (l69 : List Go.Value) ↦
  Go.AI.pSome l69[(0 : Nat)]? fun (u70 : Go.Value) ↦
  Go.AI.tI Go.IntKind.i64 u70 fun (n71 : Int) ↦
  Go.AI.tTup v67 fun (l72 : List Go.Value) ↦
  Go.AI.pSome l72[(1 : Nat)]? fun (u73 : Go.Value) ↦
  Go.AI.tI Go.IntKind.i64 u73 fun (n74 : Int) ↦
  T (23 : Nat) [Go.Value.int Go.IntKind.i64 n74] σ68 fun (v75 : Go.Value) (σ76 : Go.AI.AS) ↦
  Go.AI.tI Go.IntKind.i64 v75 fun (n77 : Int) ↦
  Go.AI.bmatch (n77 != (0 : Int)) (K (Go.Value.bool Bool.false) σ76)
  (T (17 : Nat) [Go.Value.pointer (Option.some (Go.Addr.mk t (0 : Nat) Option.none)), Go.Value.int Go.IntKind.i64 n71] σ76
  fun (v78 : Go.Value) (σ79 : Go.AI.AS) ↦
  Go.AI.tTup v78 fun (l80 : List Go.Value) ↦
  Go.AI.pSome l80[(0 : Nat)]? fun (u81 : Go.Value) ↦
  Go.AI.tAgg u81 fun (l82 : List Go.Value) ↦
  Go.AI.tCons l82 fun (v83 : Go.Value) (l84 : List Go.Value) ↦
  Go.AI.tI Go.IntKind.i64 v83 fun (n85 : Int) ↦
  Go.AI.tCons l84 fun (v86 : Go.Value) (l87 : List Go.Value) ↦
  Go.AI.tI Go.IntKind.i64 v86 fun (n88 : Int) ↦
  Go.AI.tCons l87 fun (v89 : Go.Value) (l90 : List Go.Value) ↦
  Go.AI.tI Go.IntKind.i64 v89 fun (n91 : Int) ↦
  Go.AI.tCons l90 fun (v92 : Go.Value) (l93 : List Go.Value) ↦
  Go.AI.tI Go.IntKind.i64 v92 fun (n94 : Int) ↦
  Go.AI.tNil l93
  (Go.AI.tTup v78 fun (l95 : List Go.Value) ↦
  Go.AI.pSome l95[(1 : Nat)]? fun (u96 : Go.Value) ↦
  Go.AI.tB u96 fun (b97 : Bool) ↦
  Go.AI.newAt σ79
  (Go.AI.AObj.row Go.AI.RK.plain
  [Go.Value.int Go.IntKind.i64 (0 : Int), Go.Value.int Go.IntKind.i64 (0 : Int), Go.Value.int Go.IntKind.i64 (0 : Int),
  Go.Value.int Go.IntKind.i64 (0 : Int)])
  fun (i98 : Nat) (σ99 : Go.AI.AS) ↦
  Go.AI.puts σ99 (Go.Addr.mk i98 (0 : Nat) Option.none)
  [Go.Value.int Go.IntKind.i64 n85, Go.Value.int Go.IntKind.i64 n88, Go.Value.int Go.IntKind.i64 n91,
  Go.Value.int Go.IntKind.i64 n94]
  fun (σ100 : Go.AI.AS) ↦
  T (17 : Nat)
  [Go.Value.pointer (Option.some (Go.Addr.mk t (0 : Nat) Option.none)), Go.Value.int Go.IntKind.i64 split] σ100
  fun (v101 : Go.Value) (σ102 : Go.AI.AS) ↦
  Go.AI.tTup v101 fun (l103 : List Go.Value) ↦
  Go.AI.pSome l103[(0 : Nat)]? fun (u104 : Go.Value) ↦
  Go.AI.tAgg u104 fun (l105 : List Go.Value) ↦
  Go.AI.tCons l105 fun (v106 : Go.Value) (l107 : List Go.Value) ↦
  Go.AI.tI Go.IntKind.i64 v106 fun (n108 : Int) ↦
  Go.AI.tCons l107 fun (v109 : Go.Value) (l110 : List Go.Value) ↦
  Go.AI.tI Go.IntKind.i64 v109 fun (n111 : Int) ↦
  Go.AI.tCons l110 fun (v112 : Go.Value) (l113 : List Go.Value) ↦
  Go.AI.tI Go.IntKind.i64 v112 fun (n114 : Int) ↦
  Go.AI.tCons l113 fun (v115 : Go.Value) (l116 : List Go.Value) ↦
  Go.AI.tI Go.IntKind.i64 v115 fun (n117 : Int) ↦
  Go.AI.tNil l116
  (Go.AI.tTup v101 fun (l118 : List Go.Value) ↦
  Go.AI.pSome l118[(1 : Nat)]? fun (u119 : Go.Value) ↦
  Go.AI.tB u119 fun (b120 : Bool) ↦
  Go.AI.newAt σ102
  (Go.AI.AObj.row Go.AI.RK.plain
  [Go.Value.int Go.IntKind.i64 (0 : Int), Go.Value.int Go.IntKind.i64 (0 : Int),
  Go.Value.int Go.IntKind.i64 (0 : Int), Go.Value.int Go.IntKind.i64 (0 : Int)])
  fun (i121 : Nat) (σ122 : Go.AI.AS) ↦
  Go.AI.puts σ122 (Go.Addr.mk i121 (0 : Nat) Option.none)
  [Go.Value.int Go.IntKind.i64 n108, Go.Value.int Go.IntKind.i64 n111,
  Go.Value.int Go.IntKind.i64 n114, Go.Value.int Go.IntKind.i64 n117]
  fun (σ123 : Go.AI.AS) ↦
  T (24 : Nat)
  [Go.Value.pointer (Option.some (Go.Addr.mk t (0 : Nat) Option.none)),
  Go.Value.int Go.IntKind.i64 n71]
  σ123 fun (v124 : Go.Value) (σ125 : Go.AI.AS) ↦
  Go.AI.tI Go.IntKind.i64 v124 fun (n126 : Int) ↦
  T (17 : Nat)
  [Go.Value.pointer (Option.some (Go.Addr.mk t (0 : Nat) Option.none)),
  Go.Value.int Go.IntKind.i64 n126]
  σ125 fun (v127 : Go.Value) (σ128 : Go.AI.AS) ↦
  Go.AI.tTup v127 fun (l129 : List Go.Value) ↦
  Go.AI.pSome l129[(0 : Nat)]? fun (u130 : Go.Value) ↦
  Go.AI.tAgg u130 fun (l131 : List Go.Value) ↦
  Go.AI.tCons l131 fun (v132 : Go.Value) (l133 : List Go.Value) ↦
  Go.AI.tI Go.IntKind.i64 v132 fun (n134 : Int) ↦
  Go.AI.tCons l133 fun (v135 : Go.Value) (l136 : List Go.Value) ↦
  Go.AI.tI Go.IntKind.i64 v135 fun (n137 : Int) ↦
  Go.AI.tCons l136 fun (v138 : Go.Value) (l139 : List Go.Value) ↦
  Go.AI.tI Go.IntKind.i64 v138 fun (n140 : Int) ↦
  Go.AI.tCons l139
  fun (v141 : Go.Value) (l142 : List Go.Value) ↦
  Go.AI.tI Go.IntKind.i64 v141 fun (n143 : Int) ↦
  Go.AI.tNil l142
  (Go.AI.tTup v127 fun (l144 : List Go.Value) ↦
  Go.AI.pSome l144[(1 : Nat)]? fun (u145 : Go.Value) ↦
  Go.AI.tB u145 fun (b146 : Bool) ↦
  Go.AI.newAt σ128
  (Go.AI.AObj.row Go.AI.RK.plain
  [Go.Value.int Go.IntKind.i64 (0 : Int),
  Go.Value.int Go.IntKind.i64 (0 : Int),
  Go.Value.int Go.IntKind.i64 (0 : Int),
  Go.Value.int Go.IntKind.i64 (0 : Int)])
  fun (i147 : Nat) (σ148 : Go.AI.AS) ↦
  Go.AI.puts σ148
  (Go.Addr.mk i147 (0 : Nat) Option.none)
  [Go.Value.int Go.IntKind.i64 n134,
  Go.Value.int Go.IntKind.i64 n137,
  Go.Value.int Go.IntKind.i64 n140,
  Go.Value.int Go.IntKind.i64 n143]
  fun (σ149 : Go.AI.AS) ↦
  Go.AI.ldc σ149
  (Go.Addr.mk i64 ((0 : Nat) + (3 : Nat))
  Option.none)
  fun (v150 : Go.Value) ↦
  Go.AI.tI Go.IntKind.i64 v150
  fun (n151 : Int) ↦
  Go.AI.ldc σ149
  (Go.Addr.mk i98 ((0 : Nat) + (3 : Nat))
  Option.none)
  fun (v152 : Go.Value) ↦
  Go.AI.tI Go.IntKind.i64 v152
  fun (n153 : Int) ↦
  Go.AI.ldc σ149
  (Go.Addr.mk i121
  ((0 : Nat) + (3 : Nat))
  Option.none)
  fun (v154 : Go.Value) ↦
  Go.AI.tI Go.IntKind.i64 v154
  fun (n155 : Int) ↦
  Go.AI.ldc σ149
  (Go.Addr.mk i98
  ((0 : Nat) + (2 : Nat))
  Option.none)
  fun (v156 : Go.Value) ↦
  Go.AI.tI Go.IntKind.i64 v156
  fun (n157 : Int) ↦
  Go.AI.ldc σ149
  (Go.Addr.mk i64
  ((0 : Nat) + (2 : Nat))
  Option.none)
  fun (v158 : Go.Value) ↦
  Go.AI.tI Go.IntKind.i64 v158
  fun (n159 : Int) ↦
  Go.AI.bmatch
  (n157 == n159)
  (Go.AI.ldc σ149
  (Go.Addr.mk i121
  ((0 : Nat) +
  (2 : Nat))
  Option.none)
  fun
  (v160 : Go.Value) ↦
  Go.AI.tI
  Go.IntKind.i64 v160
  fun (n161 : Int) ↦
  Go.AI.ldc σ149
  (Go.Addr.mk i64
  ((0 : Nat) +
  (2 : Nat))
  Option.none)
  fun
  (v162 :
  Go.Value) ↦
  Go.AI.tI
  Go.IntKind.i64
  v162
  fun
  (n163 : Int) ↦
  Go.AI.bmatch
  (Decidable.decide
  (Int.tmod
  (Go.IntKind.wrap
  Go.IntKind.i64
  side)
  (4 :
  Int) <
  (2 :
  Int)))
  (Go.AI.ldc
  σ149
  (Go.Addr.mk
  i64
  ((0 :
  Nat) +
  (2 :
  Nat))
  Option.none)
  fun
  (v164 :
  Go.Value) ↦
  Go.AI.tI
  Go.IntKind.i64
  v164
  fun
  (n165 :
  Int) ↦
  Go.AI.ldc
  σ149
  (Go.Addr.mk
  i98
  ((0 :
  Nat) +
  (2 :
  Nat))
  Option.none)
  fun
  (v166 :
  Go.Value) ↦
  Go.AI.tI
  Go.IntKind.i64
  v166
  fun
  (n167 :
  Int) ↦
  Go.AI.ldc
  σ149
  (Go.Addr.mk
  i121
  ((0 :
  Nat) +
  (2 :
  Nat))
  Option.none)
  fun
  (v168 :
  Go.Value) ↦
  Go.AI.tI
  Go.IntKind.i64
  v168
  fun
  (n169 :
  Int) ↦
  Go.AI.ldc
  σ149
  (Go.Addr.mk
  i98
  ((0 :
  Nat) +
  (3 :
  Nat))
  Option.none)
  fun
  (v170 :
  Go.Value) ↦
  Go.AI.tI
  Go.IntKind.i64
  v170
  fun
  (n171 :
  Int) ↦
  Go.AI.ldc
  σ149
  (Go.Addr.mk
  i64
  ((0 :
  Nat) +
  (3 :
  Nat))
  Option.none)
  fun
  (v172 :
  Go.Value) ↦
  Go.AI.tI
  Go.IntKind.i64
  v172
  fun
  (n173 :
  Int) ↦
  Go.AI.bmatch
  (n171 ==
  n173)
  (Go.AI.ldc
  σ149
  (Go.Addr.mk
  i121
  ((0 :
  Nat) +
  (3 :
  Nat))
  Option.none)
  fun
  (v174 :
  Go.Value) ↦
  Go.AI.tI
  Go.IntKind.i64
  v174
  fun
  (n175 :
  Int) ↦
  Go.AI.ldc
  σ149
  (Go.Addr.mk
  i64
  ((0 :
  Nat) +
  (3 :
  Nat))
  Option.none)
  fun
  (v176 :
  Go.Value) ↦
  Go.AI.tI
  Go.IntKind.i64
  v176
  fun
  (n177 :
  Int) ↦
  Go.AI.JoinS
  (Go.AI.jn
  Go.Proofs.Try.prog
  Go.AI.hintsS
  T
  (4 :
  Nat)
  [Bool.true,
  Bool.true,
  Bool.true,
  Bool.true,
  Bool.true,
  Bool.true,
  Bool.true,
  Bool.true,
  Bool.true,
  Bool.true,
  Bool.true,
  Bool.true,
  Bool.true,
  Bool.true,
  Bool.true,
  Bool.true,
  Bool.true,
  Bool.true,
  Bool.true]
  []
  K)
  [((15 :
  Nat),
  Option.some
  (Go.Value.pointer
  (Option.some
  (Go.Addr.mk
  t
  (0 :
  Nat)
  Option.none)))),
  ((16 :
  Nat),
  Option.some
  (Go.Value.pointer
  (Option.some
  (Go.Addr.mk
  x
  (0 :
  Nat)
  Option.none)))),
  ((17 :
  Nat),
  Option.some
  (Go.Value.int
  Go.IntKind.i64
  split)),
  ((18 :
  Nat),
  Option.some
  (Go.Value.slice
  p
  m
  f)),
  ((19 :
  Nat),
  Option.some
  (Go.Value.slice
  q
  r
  g)),
  ((23 :
  Nat),
  Option.some
  (Go.Value.pointer
  (Option.some
  (Go.Addr.mk
  i64
  (0 :
  Nat)
  Option.none)))),
  ((25 :
  Nat),
  Option.some
  (Go.Value.int
  Go.IntKind.i64
  (Int.tmod
  (Go.IntKind.wrap
  Go.IntKind.i64
  side)
  (4 :
  Int)))),
  ((26 :
  Nat),
  Option.some
  (Go.Value.int
  Go.IntKind.i64
  n71)),
  ((29 :
  Nat),
  Option.some
  (Go.Value.bool
  b97)),
  ((32 :
  Nat),
  Option.some
  (Go.Value.pointer
  (Option.some
  (Go.Addr.mk
  i147
  (0 :
  Nat)
  Option.none)))),
  ((34 :
  Nat),
  Option.some
  (Go.Value.int
  Go.IntKind.i64
  (Go.AI.imin
  (Go.IntKind.wrap
  Go.IntKind.i64
  size)
  n165))),
  ((35 :
  Nat),
  Option.some
  (Go.Value.int
  Go.IntKind.i64
  n167)),
  ((36 :
  Nat),
  Option.some
  (Go.Value.int
  Go.IntKind.i64
  n169)),
  ((37 :
  Nat),
  Option.some
  (Go.Value.bool
  (n175 ==
  n177)))]
  σ149)
  (Go.AI.JoinS
  (Go.AI.jn
  Go.Proofs.Try.prog
  Go.AI.hintsS
  T
  (4 :
  Nat)
  [Bool.true,
  Bool.true,
  Bool.true,
  Bool.true,
  Bool.true,
  Bool.true,
  Bool.true,
  Bool.true,
  Bool.true,
  Bool.true,
  Bool.true,
  Bool.true,
  Bool.true,
  Bool.true,
  Bool.true,
  Bool.true,
  Bool.true,
  Bool.true,
  Bool.true]
  []
  K)
  [((15 :
  Nat),
  Option.some
  (Go.Value.pointer
  (Option.some
  (Go.Addr.mk
  t
  (0 :
  Nat)
  Option.none)))),
  ((16 :
  Nat),
  Option.some
  (Go.Value.pointer
  (Option.some
  (Go.Addr.mk
  x
  (0 :
  Nat)
  Option.none)))),
  ((17 :
  Nat),
  Option.some
  (Go.Value.int
  Go.IntKind.i64
  split)),
  ((18 :
  Nat),
  Option.some
  (Go.Value.slice
  p
  m
  f)),
  ((19 :
  Nat),
  Option.some
  (Go.Value.slice
  q
  r
  g)),
  ((23 :
  Nat),
  Option.some
  (Go.Value.pointer
  (Option.some
  (Go.Addr.mk
  i64
  (0 :
  Nat)
  Option.none)))),
  ((25 :
  Nat),
  Option.some
  (Go.Value.int
  Go.IntKind.i64
  (Int.tmod
  (Go.IntKind.wrap
  Go.IntKind.i64
  side)
  (4 :
  Int)))),
  ((26 :
  Nat),
  Option.some
  (Go.Value.int
  Go.IntKind.i64
  n71)),
  ((29 :
  Nat),
  Option.some
  (Go.Value.bool
  b97)),
  ((32 :
  Nat),
  Option.some
  (Go.Value.pointer
  (Option.some
  (Go.Addr.mk
  i147
  (0 :
  Nat)
  Option.none)))),
  ((34 :
  Nat),
  Option.some
  (Go.Value.int
  Go.IntKind.i64
  (Go.AI.imin
  (Go.IntKind.wrap
  Go.IntKind.i64
  size)
  n165))),
  ((35 :
  Nat),
  Option.some
  (Go.Value.int
  Go.IntKind.i64
  n167)),
  ((36 :
  Nat),
  Option.some
  (Go.Value.int
  Go.IntKind.i64
  n169)),
  ((37 :
  Nat),
  Option.some
  (Go.Value.bool
  Bool.false))]
  σ149))
  (Go.AI.JoinS
  (Go.AI.jn
  Go.Proofs.Try.prog
  Go.AI.hintsS
  T
  (4 : Nat)
  [Bool.true,
  Bool.true,
  Bool.true,
  Bool.true,
  Bool.true,
  Bool.true,
  Bool.true,
  Bool.true,
  Bool.true,
  Bool.true,
  Bool.true,
  Bool.true,
  Bool.true,
  Bool.true,
  Bool.true,
  Bool.true,
  Bool.true,
  Bool.true,
  Bool.true]
  [] K)
  [((15 :
  Nat),
  Option.some
  (Go.Value.pointer
  (Option.some
  (Go.Addr.mk
  t
  (0 :
  Nat)
  Option.none)))),
  ((16 :
  Nat),
  Option.some
  (Go.Value.pointer
  (Option.some
  (Go.Addr.mk
  x
  (0 :
  Nat)
  Option.none)))),
  ((17 :
  Nat),
  Option.some
  (Go.Value.int
  Go.IntKind.i64
  split)),
  ((18 :
  Nat),
  Option.some
  (Go.Value.slice
  p
  m
  f)),
  ((19 :
  Nat),
  Option.some
  (Go.Value.slice
  q
  r
  g)),
  ((23 :
  Nat),
  Option.some
  (Go.Value.pointer
  (Option.some
  (Go.Addr.mk
  i64
  (0 :
  Nat)
  Option.none)))),
  ((25 :
  Nat),
  Option.some
  (Go.Value.int
  Go.IntKind.i64
  (Int.tmod
  (Go.IntKind.wrap
  Go.IntKind.i64
  side)
  (4 :
  Int)))),
  ((26 :
  Nat),
  Option.some
  (Go.Value.int
  Go.IntKind.i64
  n71)),
  ((29 :
  Nat),
  Option.some
  (Go.Value.bool
  b97)),
  ((32 :
  Nat),
  Option.some
  (Go.Value.pointer
  (Option.some
  (Go.Addr.mk
  i147
  (0 :
  Nat)
  Option.none)))),
  ((34 :
  Nat),
  Option.some
  (Go.Value.int
  Go.IntKind.i64
  (Go.AI.imin
  (Go.IntKind.wrap
  Go.IntKind.i64
  size)
  n151))),
  ((35 :
  Nat),
  Option.some
  (Go.Value.int
  Go.IntKind.i64
  n153)),
  ((36 :
  Nat),
  Option.some
  (Go.Value.int
  Go.IntKind.i64
  n155)),
  ((37 :
  Nat),
  Option.some
  (Go.Value.bool
  (n161 ==
  n163)))]
  σ149))
  (Go.AI.bmatch
  (Decidable.decide
  (Int.tmod
  (Go.IntKind.wrap
  Go.IntKind.i64
  side)
  (4 : Int) <
  (2 : Int)))
  (Go.AI.ldc σ149
  (Go.Addr.mk i64
  ((0 : Nat) +
  (2 : Nat))
  Option.none)
  fun
  (v178 :
  Go.Value) ↦
  Go.AI.tI
  Go.IntKind.i64
  v178
  fun (n179 : Int) ↦
  Go.AI.ldc σ149
  (Go.Addr.mk i98
  ((0 : Nat) +
  (2 : Nat))
  Option.none)
  fun
  (v180 :
  Go.Value) ↦
  Go.AI.tI
  Go.IntKind.i64
  v180
  fun
  (n181 :
  Int) ↦
  Go.AI.ldc σ149
  (Go.Addr.mk
  i121
  ((0 :
  Nat) +
  (2 :
  Nat))
  Option.none)
  fun
  (v182 :
  Go.Value) ↦
  Go.AI.tI
  Go.IntKind.i64
  v182
  fun
  (n183 :
  Int) ↦
  Go.AI.ldc
  σ149
  (Go.Addr.mk
  i98
  ((0 :
  Nat) +
  (3 :
  Nat))
  Option.none)
  fun
  (v184 :
  Go.Value) ↦
  Go.AI.tI
  Go.IntKind.i64
  v184
  fun
  (n185 :
  Int) ↦
  Go.AI.ldc
  σ149
  (Go.Addr.mk
  i64
  ((0 :
  Nat) +
  (3 :
  Nat))
  Option.none)
  fun
  (v186 :
  Go.Value) ↦
  Go.AI.tI
  Go.IntKind.i64
  v186
  fun
  (n187 :
  Int) ↦
  Go.AI.bmatch
  (n185 ==
  n187)
  (Go.AI.ldc
  σ149
  (Go.Addr.mk
  i121
  ((0 :
  Nat) +
  (3 :
  Nat))
  Option.none)
  fun
  (v188 :
  Go.Value) ↦
  Go.AI.tI
  Go.IntKind.i64
  v188
  fun
  (n189 :
  Int) ↦
  Go.AI.ldc
  σ149
  (Go.Addr.mk
  i64
  ((0 :
  Nat) +
  (3 :
  Nat))
  Option.none)
  fun
  (v190 :
  Go.Value) ↦
  Go.AI.tI
  Go.IntKind.i64
  v190
  fun
  (n191 :
  Int) ↦
  Go.AI.JoinS
  (Go.AI.jn
  Go.Proofs.Try.prog
  Go.AI.hintsS
  T
  (4 :
  Nat)
  [Bool.true,
  Bool.true,
  Bool.true,
  Bool.true,
  Bool.true,
  Bool.true,
  Bool.true,
  Bool.true,
  Bool.true,
  Bool.true,
  Bool.true,
  Bool.true,
  Bool.true,
  Bool.true,
  Bool.true,
  Bool.true,
  Bool.true,
  Bool.true,
  Bool.true]
  []
  K)
  [((15 :
  Nat),
  Option.some
  (Go.Value.pointer
  (Option.some
  (Go.Addr.mk
  t
  (0 :
  Nat)
  Option.none)))),
  ((16 :
  Nat),
  Option.some
  (Go.Value.pointer
  (Option.some
  (Go.Addr.mk
  x
  (0 :
  Nat)
  Option.none)))),
  ((17 :
  Nat),
  Option.some
  (Go.Value.int
  Go.IntKind.i64
  split)),
  ((18 :
  Nat),
  Option.some
  (Go.Value.slice
  p
  m
  f)),
  ((19 :
  Nat),
  Option.some
  (Go.Value.slice
  q
  r
  g)),
  ((23 :
  Nat),
  Option.some
  (Go.Value.pointer
  (Option.some
  (Go.Addr.mk
  i64
  (0 :
  Nat)
  Option.none)))),
  ((25 :
  Nat),
  Option.some
  (Go.Value.int
  Go.IntKind.i64
  (Int.tmod
  (Go.IntKind.wrap
  Go.IntKind.i64
  side)
  (4 :
  Int)))),
  ((26 :
  Nat),
  Option.some
  (Go.Value.int
  Go.IntKind.i64
  n71)),
  ((29 :
  Nat),
  Option.some
  (Go.Value.bool
  b97)),
  ((32 :
  Nat),
  Option.some
  (Go.Value.pointer
  (Option.some
  (Go.Addr.mk
  i147
  (0 :
  Nat)
  Option.none)))),
  ((34 :
  Nat),
  Option.some
  (Go.Value.int
  Go.IntKind.i64
  (Go.AI.imin
  (Go.IntKind.wrap
  Go.IntKind.i64
  size)
  n179))),
  ((35 :
  Nat),
  Option.some
  (Go.Value.int
  Go.IntKind.i64
  n181)),
  ((36 :
  Nat),
  Option.some
  (Go.Value.int
  Go.IntKind.i64
  n183)),
  ((37 :
  Nat),
  Option.some
  (Go.Value.bool
  (n189 ==
  n191)))]
  σ149)
  (Go.AI.JoinS
  (Go.AI.jn
  Go.Proofs.Try.prog
  Go.AI.hintsS
  T
  (4 :
  Nat)
  [Bool.true,
  Bool.true,
  Bool.true,
  Bool.true,
  Bool.true,
  Bool.true,
  Bool.true,
  Bool.true,
  Bool.true,
  Bool.true,
  Bool.true,
  Bool.true,
  Bool.true,
  Bool.true,
  Bool.true,
  Bool.true,
  Bool.true,
  Bool.true,
  Bool.true]
  []
  K)
  [((15 :
  Nat),
  Option.some
  (Go.Value.pointer
  (Option.some
  (Go.Addr.mk
  t
  (0 :
  Nat)
  Option.none)))),
  ((16 :
  Nat),
  Option.some
  (Go.Value.pointer
  (Option.some
  (Go.Addr.mk
  x
  (0 :
  Nat)
  Option.none)))),
  ((17 :
  Nat),
  Option.some
  (Go.Value.int
  Go.IntKind.i64
  split)),
  ((18 :
  Nat),
  Option.some
  (Go.Value.slice
  p
  m
  f)),
  ((19 :
  Nat),
  Option.some
  (Go.Value.slice
  q
  r
  g)),
  ((23 :
  Nat),
  Option.some
  (Go.Value.pointer
  (Option.some
  (Go.Addr.mk
  i64
  (0 :
  Nat)
  Option.none)))),
  ((25 :
  Nat),
  Option.some
  (Go.Value.int
  Go.IntKind.i64
  (Int.tmod
  (Go.IntKind.wrap
  Go.IntKind.i64
  side)
  (4 :
  Int)))),
  ((26 :
  Nat),
  Option.some
  (Go.Value.int
  Go.IntKind.i64
  n71)),
  ((29 :
  Nat),
  Option.some
  (Go.Value.bool
  b97)),
  ((32 :
  Nat),
  Option.some
  (Go.Value.pointer
  (Option.some
  (Go.Addr.mk
  i147
  (0 :
  Nat)
  Option.none)))),
  ((34 :
  Nat),
  Option.some
  (Go.Value.int
  Go.IntKind.i64
  (Go.AI.imin
  (Go.IntKind.wrap
  Go.IntKind.i64
  size)
  n179))),
  ((35 :
  Nat),
  Option.some
  (Go.Value.int
  Go.IntKind.i64
  n181)),
  ((36 :
  Nat),
  Option.some
  (Go.Value.int
  Go.IntKind.i64
  n183)),
  ((37 :
  Nat),
  Option.some
  (Go.Value.bool
  Bool.false))]
  σ149))
  (Go.AI.JoinS
  (Go.AI.jn
  Go.Proofs.Try.prog
  Go.AI.hintsS T
  (4 : Nat)
  [Bool.true,
  Bool.true,
  Bool.true,
  Bool.true,
  Bool.true,
  Bool.true,
  Bool.true,
  Bool.true,
  Bool.true,
  Bool.true,
  Bool.true,
  Bool.true,
  Bool.true,
  Bool.true,
  Bool.true,
  Bool.true,
  Bool.true,
  Bool.true,
  Bool.true]
  [] K)
  [((15 : Nat),
  Option.some
  (Go.Value.pointer
  (Option.some
  (Go.Addr.mk
  t
  (0 :
  Nat)
  Option.none)))),
  ((16 : Nat),
  Option.some
  (Go.Value.pointer
  (Option.some
  (Go.Addr.mk
  x
  (0 :
  Nat)
  Option.none)))),
  ((17 : Nat),
  Option.some
  (Go.Value.int
  Go.IntKind.i64
  split)),
  ((18 : Nat),
  Option.some
  (Go.Value.slice
  p m
  f)),
  ((19 : Nat),
  Option.some
  (Go.Value.slice
  q r
  g)),
  ((23 : Nat),
  Option.some
  (Go.Value.pointer
  (Option.some
  (Go.Addr.mk
  i64
  (0 :
  Nat)
  Option.none)))),
  ((25 : Nat),
  Option.some
  (Go.Value.int
  Go.IntKind.i64
  (Int.tmod
  (Go.IntKind.wrap
  Go.IntKind.i64
  side)
  (4 :
  Int)))),
  ((26 : Nat),
  Option.some
  (Go.Value.int
  Go.IntKind.i64
  n71)),
  ((29 : Nat),
  Option.some
  (Go.Value.bool
  b97)),
  ((32 : Nat),
  Option.some
  (Go.Value.pointer
  (Option.some
  (Go.Addr.mk
  i147
  (0 :
  Nat)
  Option.none)))),
  ((34 : Nat),
  Option.some
  (Go.Value.int
  Go.IntKind.i64
  (Go.AI.imin
  (Go.IntKind.wrap
  Go.IntKind.i64
  size)
  n151))),
  ((35 : Nat),
  Option.some
  (Go.Value.int
  Go.IntKind.i64
  n153)),
  ((36 : Nat),
  Option.some
  (Go.Value.int
  Go.IntKind.i64
  n155)),
  ((37 : Nat),
  Option.some
  (Go.Value.bool
  Bool.false))]
  σ149)))))))) := by
  intros
  kernel_rfl

theorem s4j : ∀ (T : Go.AI.Ct) (split s win want got rest : Int) (ok keeps : Bool) (t x old pp : Nat) (p : Option Go.Addr) (m f : Nat) (q : Option Go.Addr) (r g : Nat) (σ : Go.AI.AS)
  (K : Go.Value → Go.AI.AS → Prop),
  Go.AI.jn Go.Proofs.Try.prog Go.AI.hintsS T (4 : Nat)
  [Bool.true, Bool.true, Bool.true, Bool.true, Bool.true, Bool.true, Bool.true, Bool.true, Bool.true, Bool.true, Bool.true, Bool.true, Bool.true, Bool.true, Bool.true, Bool.true, Bool.true, Bool.true, Bool.true] []
  K
  [((15 : Nat), Option.some (Go.Value.pointer (Option.some (Go.Addr.mk t (0 : Nat) Option.none)))), ((16 : Nat), Option.some (Go.Value.pointer (Option.some (Go.Addr.mk x (0 : Nat) Option.none)))),
  ((17 : Nat), Option.some (Go.Value.int Go.IntKind.i64 split)), ((18 : Nat), Option.some (Go.Value.slice p m f)), ((19 : Nat), Option.some (Go.Value.slice q r g)),
  ((23 : Nat), Option.some (Go.Value.pointer (Option.some (Go.Addr.mk old (0 : Nat) Option.none)))), ((25 : Nat), Option.some (Go.Value.int Go.IntKind.i64 s)),
  ((26 : Nat), Option.some (Go.Value.int Go.IntKind.i64 win)), ((29 : Nat), Option.some (Go.Value.bool ok)), ((32 : Nat), Option.some (Go.Value.pointer (Option.some (Go.Addr.mk pp (0 : Nat) Option.none)))),
  ((34 : Nat), Option.some (Go.Value.int Go.IntKind.i64 want)), ((35 : Nat), Option.some (Go.Value.int Go.IntKind.i64 got)), ((36 : Nat), Option.some (Go.Value.int Go.IntKind.i64 rest)),
  ((37 : Nat), Option.some (Go.Value.bool keeps))]
  σ =
  Go.AI.bmatch (!ok) (K (Go.Value.bool Bool.false) σ)
  (Go.AI.lds σ (Go.Addr.mk pp (0 : Nat) Option.none) (4 : Nat) fun (l0 : List Go.Value) ↦
  Go.AI.tCons l0 fun (v1 : Go.Value) (l2 : List Go.Value) ↦
  Go.AI.tI Go.IntKind.i64 v1 fun (n3 : Int) ↦
  Go.AI.tCons l2 fun (v4 : Go.Value) (l5 : List Go.Value) ↦
  Go.AI.tI Go.IntKind.i64 v4 fun (n6 : Int) ↦
  Go.AI.tCons l5 fun (v7 : Go.Value) (l8 : List Go.Value) ↦
  Go.AI.tI Go.IntKind.i64 v7 fun (n9 : Int) ↦
  Go.AI.tCons l8 fun (v10 : Go.Value) (l11 : List Go.Value) ↦
  Go.AI.tI Go.IntKind.i64 v10 fun (n12 : Int) ↦
  Go.AI.tNil l11
  (Go.AI.lds σ (Go.Addr.mk old (0 : Nat) Option.none) (4 : Nat) fun (l13 : List Go.Value) ↦
  Go.AI.tCons l13 fun (v14 : Go.Value) (l15 : List Go.Value) ↦
  Go.AI.tI Go.IntKind.i64 v14 fun (n16 : Int) ↦
  Go.AI.tCons l15 fun (v17 : Go.Value) (l18 : List Go.Value) ↦
  Go.AI.tI Go.IntKind.i64 v17 fun (n19 : Int) ↦
  Go.AI.tCons l18 fun (v20 : Go.Value) (l21 : List Go.Value) ↦
  Go.AI.tI Go.IntKind.i64 v20 fun (n22 : Int) ↦
  Go.AI.tCons l21 fun (v23 : Go.Value) (l24 : List Go.Value) ↦
  Go.AI.tI Go.IntKind.i64 v23 fun (n25 : Int) ↦
  Go.AI.tNil l24
  (Go.AI.bmatch (!(n3 == n16 && (n6 == n19 && (n9 == n22 && (n12 == n25 && Bool.true))))) (K (Go.Value.bool Bool.false) σ)
  (Go.AI.bmatch (got != want) (K (Go.Value.bool Bool.false) σ)
  (Go.AI.bmatch (!keeps) (K (Go.Value.bool Bool.false) σ)
  (Go.AI.bmatch (Decidable.decide (s < (2 : Int)))
  (Go.AI.ldc σ (Go.Addr.mk old ((0 : Nat) + (2 : Nat)) Option.none) fun (v26 : Go.Value) ↦
  Go.AI.tI Go.IntKind.i64 v26 fun (n27 : Int) ↦
  Go.AI.bmatch (rest != Go.IntKind.wrap Go.IntKind.i64 (n27 - want)) (K (Go.Value.bool Bool.false) σ)
  (Go.AI.bmatch (Decidable.decide (s ≥ (2 : Int)))
  (Go.AI.ldc σ (Go.Addr.mk old ((0 : Nat) + (3 : Nat)) Option.none) fun (v28 : Go.Value) ↦
  Go.AI.tI Go.IntKind.i64 v28 fun (n29 : Int) ↦
  Go.AI.bmatch (rest != Go.IntKind.wrap Go.IntKind.i64 (n29 - want)) (K (Go.Value.bool Bool.false) σ)
  (T (24 : Nat) [Go.Value.pointer (Option.some (Go.Addr.mk t (0 : Nat) Option.none)), Go.Value.int Go.IntKind.i64 win] σ
  fun (v30 : Go.Value) (σ31 : Go.AI.AS) ↦
  Go.AI.tI Go.IntKind.i64 v30 fun (n32 : Int) ↦
  T (20 : Nat) [Go.Value.pointer (Option.some (Go.Addr.mk t (0 : Nat) Option.none)), Go.Value.int Go.IntKind.i64 n32] σ31
  fun (v33 : Go.Value) (σ34 : Go.AI.AS) ↦
  Go.AI.tTup v33 fun (l35 : List Go.Value) ↦
  Go.AI.pSome l35[(0 : Nat)]? fun (u36 : Go.Value) ↦
  Go.AI.tI Go.IntKind.i64 u36 fun (n37 : Int) ↦
  Go.AI.tTup v33 fun (l38 : List Go.Value) ↦
  Go.AI.pSome l38[(1 : Nat)]? fun (u39 : Go.Value) ↦
  Go.AI.tI Go.IntKind.i64 u39 fun (n40 : Int) ↦
  Go.AI.bmatch (!(n37 == win) == (Int.tmod s (2 : Int) == (0 : Int))) (K (Go.Value.bool Bool.false) σ34)
  (Go.AI.ALoop
  (Go.AI.fl Go.Proofs.Try.prog Go.AI.hintsS T (4 : Nat)
  [Bool.true, Bool.true, Bool.true, Bool.true, Bool.true, Bool.true, Bool.true, Bool.true, Bool.true, Bool.true, Bool.true,
  Bool.true, Bool.true, Bool.true, Bool.true, Bool.true, Bool.true, Bool.true, Bool.true, Bool.true, Bool.true, Bool.true,
  Bool.true, Bool.false, Bool.true, Bool.false]
  [] K)
  [((15 : Nat), Option.some (Go.Value.pointer (Option.some (Go.Addr.mk t (0 : Nat) Option.none)))),
  ((16 : Nat), Option.some (Go.Value.pointer (Option.some (Go.Addr.mk x (0 : Nat) Option.none)))),
  ((17 : Nat), Option.some (Go.Value.int Go.IntKind.i64 split)), ((18 : Nat), Option.some (Go.Value.slice p m f)),
  ((19 : Nat), Option.some (Go.Value.slice q r g)), ((40 : Nat), Option.some (Go.Value.int Go.IntKind.i64 (0 : Int)))]
  σ34)))
  (T (24 : Nat) [Go.Value.pointer (Option.some (Go.Addr.mk t (0 : Nat) Option.none)), Go.Value.int Go.IntKind.i64 win] σ
  fun (v41 : Go.Value) (σ42 : Go.AI.AS) ↦
  Go.AI.tI Go.IntKind.i64 v41 fun (n43 : Int) ↦
  T (20 : Nat) [Go.Value.pointer (Option.some (Go.Addr.mk t (0 : Nat) Option.none)), Go.Value.int Go.IntKind.i64 n43] σ42
  fun (v44 : Go.Value) (σ45 : Go.AI.AS) ↦
  Go.AI.tTup v44 fun (l46 : List Go.Value) ↦
  Go.AI.pSome l46[(0 : Nat)]? fun (u47 : Go.Value) ↦
  Go.AI.tI Go.IntKind.i64 u47 fun (n48 : Int) ↦
  Go.AI.tTup v44 fun (l49 : List Go.Value) ↦
  Go.AI.pSome l49[(1 : Nat)]? fun (u50 : Go.Value) ↦
  Go.AI.tI Go.IntKind.i64 u50 fun (n51 : Int) ↦
  Go.AI.bmatch (!(n48 == win) == (Int.tmod s (2 : Int) == (0 : Int))) (K (Go.Value.bool Bool.false) σ45)
  (Go.AI.ALoop
  (Go.AI.fl Go.Proofs.Try.prog Go.AI.hintsS T (4 : Nat)
  [Bool.true, Bool.true, Bool.true, Bool.true, Bool.true, Bool.true, Bool.true, Bool.true, Bool.true, Bool.true, Bool.true, Bool.true,
  Bool.true, Bool.true, Bool.true, Bool.true, Bool.true, Bool.true, Bool.true, Bool.true, Bool.true, Bool.true, Bool.true, Bool.false,
  Bool.true, Bool.false]
  [] K)
  [((15 : Nat), Option.some (Go.Value.pointer (Option.some (Go.Addr.mk t (0 : Nat) Option.none)))),
  ((16 : Nat), Option.some (Go.Value.pointer (Option.some (Go.Addr.mk x (0 : Nat) Option.none)))),
  ((17 : Nat), Option.some (Go.Value.int Go.IntKind.i64 split)), ((18 : Nat), Option.some (Go.Value.slice p m f)),
  ((19 : Nat), Option.some (Go.Value.slice q r g)), ((40 : Nat), Option.some (Go.Value.int Go.IntKind.i64 (0 : Int)))]
  σ45))))
  (Go.AI.bmatch (Decidable.decide (s ≥ (2 : Int)))
  (Go.AI.ldc σ (Go.Addr.mk old ((0 : Nat) + (3 : Nat)) Option.none) fun (v52 : Go.Value) ↦
  Go.AI.tI Go.IntKind.i64 v52 fun (n53 : Int) ↦
  Go.AI.bmatch (rest != Go.IntKind.wrap Go.IntKind.i64 (n53 - want)) (K (Go.Value.bool Bool.false) σ)
  (T (24 : Nat) [Go.Value.pointer (Option.some (Go.Addr.mk t (0 : Nat) Option.none)), Go.Value.int Go.IntKind.i64 win] σ
  fun (v54 : Go.Value) (σ55 : Go.AI.AS) ↦
  Go.AI.tI Go.IntKind.i64 v54 fun (n56 : Int) ↦
  T (20 : Nat) [Go.Value.pointer (Option.some (Go.Addr.mk t (0 : Nat) Option.none)), Go.Value.int Go.IntKind.i64 n56] σ55
  fun (v57 : Go.Value) (σ58 : Go.AI.AS) ↦
  Go.AI.tTup v57 fun (l59 : List Go.Value) ↦
  Go.AI.pSome l59[(0 : Nat)]? fun (u60 : Go.Value) ↦
  Go.AI.tI Go.IntKind.i64 u60 fun (n61 : Int) ↦
  Go.AI.tTup v57 fun (l62 : List Go.Value) ↦
  Go.AI.pSome l62[(1 : Nat)]? fun (u63 : Go.Value) ↦
  Go.AI.tI Go.IntKind.i64 u63 fun (n64 : Int) ↦
  Go.AI.bmatch (!(n61 == win) == (Int.tmod s (2 : Int) == (0 : Int))) (K (Go.Value.bool Bool.false) σ58)
  (Go.AI.ALoop
  (Go.AI.fl Go.Proofs.Try.prog Go.AI.hintsS T (4 : Nat)
  [Bool.true, Bool.true, Bool.true, Bool.true, Bool.true, Bool.true, Bool.true, Bool.true, Bool.true, Bool.true, Bool.true, Bool.true,
  Bool.true, Bool.true, Bool.true, Bool.true, Bool.true, Bool.true, Bool.true, Bool.true, Bool.true, Bool.true, Bool.true, Bool.false,
  Bool.true, Bool.false]
  [] K)
  [((15 : Nat), Option.some (Go.Value.pointer (Option.some (Go.Addr.mk t (0 : Nat) Option.none)))),
  ((16 : Nat), Option.some (Go.Value.pointer (Option.some (Go.Addr.mk x (0 : Nat) Option.none)))),
  ((17 : Nat), Option.some (Go.Value.int Go.IntKind.i64 split)), ((18 : Nat), Option.some (Go.Value.slice p m f)),
  ((19 : Nat), Option.some (Go.Value.slice q r g)), ((40 : Nat), Option.some (Go.Value.int Go.IntKind.i64 (0 : Int)))]
  σ58)))
  (T (24 : Nat) [Go.Value.pointer (Option.some (Go.Addr.mk t (0 : Nat) Option.none)), Go.Value.int Go.IntKind.i64 win] σ
  fun (v65 : Go.Value) (σ66 : Go.AI.AS) ↦
  Go.AI.tI Go.IntKind.i64 v65 fun (n67 : Int) ↦
  T (20 : Nat) [Go.Value.pointer (Option.some (Go.Addr.mk t (0 : Nat) Option.none)), Go.Value.int Go.IntKind.i64 n67] σ66
  fun (v68 : Go.Value) (σ69 : Go.AI.AS) ↦
  Go.AI.tTup v68 fun (l70 : List Go.Value) ↦
  Go.AI.pSome l70[(0 : Nat)]? fun (u71 : Go.Value) ↦
  Go.AI.tI Go.IntKind.i64 u71 fun (n72 : Int) ↦
  Go.AI.tTup v68 fun (l73 : List Go.Value) ↦
  Go.AI.pSome l73[(1 : Nat)]? fun (u74 : Go.Value) ↦
  Go.AI.tI Go.IntKind.i64 u74 fun (n75 : Int) ↦
  Go.AI.bmatch (!(n72 == win) == (Int.tmod s (2 : Int) == (0 : Int))) (K (Go.Value.bool Bool.false) σ69)
  (Go.AI.ALoop
  (Go.AI.fl Go.Proofs.Try.prog Go.AI.hintsS T (4 : Nat)
  [Bool.true, Bool.true, Bool.true, Bool.true, Bool.true, Bool.true, Bool.true, Bool.true, Bool.true, Bool.true, Bool.true, Bool.true,
  Bool.true, Bool.true, Bool.true, Bool.true, Bool.true, Bool.true, Bool.true, Bool.true, Bool.true, Bool.true, Bool.true, Bool.false,
  Bool.true, Bool.false]
  [] K)
  [((15 : Nat), Option.some (Go.Value.pointer (Option.some (Go.Addr.mk t (0 : Nat) Option.none)))),
  ((16 : Nat), Option.some (Go.Value.pointer (Option.some (Go.Addr.mk x (0 : Nat) Option.none)))),
  ((17 : Nat), Option.some (Go.Value.int Go.IntKind.i64 split)), ((18 : Nat), Option.some (Go.Value.slice p m f)),
  ((19 : Nat), Option.some (Go.Value.slice q r g)), ((40 : Nat), Option.some (Go.Value.int Go.IntKind.i64 (0 : Int)))]
  σ69))))))))) := by
  intros
  kernel_rfl

theorem s4k : ∀ (T : Go.AI.Ct) (split i : Int) (t x : Nat) (p : Option Go.Addr) (m f : Nat) (q : Option Go.Addr) (r g : Nat) (X : Go.AI.Regs → Go.AI.AS → Prop) (σ : Go.AI.AS)
  (K : Go.Value → Go.AI.AS → Prop),
  Go.AI.fl Go.Proofs.Try.prog Go.AI.hintsS T (4 : Nat)
  [Bool.true, Bool.true, Bool.true, Bool.true, Bool.true, Bool.true, Bool.true, Bool.true, Bool.true, Bool.true, Bool.true, Bool.true, Bool.true, Bool.true, Bool.true, Bool.true, Bool.true, Bool.true, Bool.true,
  Bool.true, Bool.true, Bool.true, Bool.true, Bool.false, Bool.true, Bool.false]
  [] K X
  [((15 : Nat), Option.some (Go.Value.pointer (Option.some (Go.Addr.mk t (0 : Nat) Option.none)))), ((16 : Nat), Option.some (Go.Value.pointer (Option.some (Go.Addr.mk x (0 : Nat) Option.none)))),
  ((17 : Nat), Option.some (Go.Value.int Go.IntKind.i64 split)), ((18 : Nat), Option.some (Go.Value.slice p m f)), ((19 : Nat), Option.some (Go.Value.slice q r g)),
  ((40 : Nat), Option.some (Go.Value.int Go.IntKind.i64 i))]
  σ =
  Go.AI.bmatch (Decidable.decide (i < (↑m : Int)))
  (Go.AI.req ((0 : Int) ≤ i)
  (Go.AI.req (i < (↑m : Int))
  (Go.AI.pSome p fun (a0 : Go.Addr) ↦
  Go.AI.req (f = Go.AI.szOf Go.Proofs.Try.prog (3 : Nat))
  (Go.AI.ldc σ (Go.Addr.add a0 (Int.toNat i * Go.AI.szOf Go.Proofs.Try.prog (3 : Nat))) fun (v1 : Go.Value) ↦
  Go.AI.tI Go.IntKind.i64 v1 fun (n2 : Int) ↦
  T (17 : Nat) [Go.Value.pointer (Option.some (Go.Addr.mk t (0 : Nat) Option.none)), Go.Value.int Go.IntKind.i64 n2] σ fun (v3 : Go.Value) (σ4 : Go.AI.AS) ↦
  Go.AI.tTup v3 fun (l5 : List Go.Value) ↦
  Go.AI.pSome l5[(0 : Nat)]? fun (u6 : Go.Value) ↦
  Go.AI.tAgg u6 fun (l7 : List Go.Value) ↦
  Go.AI.tCons l7 fun (v8 : Go.Value) (l9 : List Go.Value) ↦
  Go.AI.tI Go.IntKind.i64 v8 fun (n10 : Int) ↦
  Go.AI.tCons l9 fun (v11 : Go.Value) (l12 : List Go.Value) ↦
  Go.AI.tI Go.IntKind.i64 v11 fun (n13 : Int) ↦
  Go.AI.tCons l12 fun (v14 : Go.Value) (l15 : List Go.Value) ↦
  Go.AI.tI Go.IntKind.i64 v14 fun (n16 : Int) ↦
  Go.AI.tCons l15 fun (v17 : Go.Value) (l18 : List Go.Value) ↦
  Go.AI.tI Go.IntKind.i64 v17 fun (n19 : Int) ↦
  Go.AI.tNil l18
  (Go.AI.tTup v3 fun (l20 : List Go.Value) ↦
  Go.AI.pSome l20[(1 : Nat)]? fun (u21 : Go.Value) ↦
  Go.AI.tB u21 fun (b22 : Bool) ↦
  Go.AI.newAt σ4
  (Go.AI.AObj.row Go.AI.RK.plain
  [Go.Value.int Go.IntKind.i64 (0 : Int), Go.Value.int Go.IntKind.i64 (0 : Int), Go.Value.int Go.IntKind.i64 (0 : Int), Go.Value.int Go.IntKind.i64 (0 : Int)])
  fun (i23 : Nat) (σ24 : Go.AI.AS) ↦
  Go.AI.puts σ24 (Go.Addr.mk i23 (0 : Nat) Option.none)
  [Go.Value.int Go.IntKind.i64 n10, Go.Value.int Go.IntKind.i64 n13, Go.Value.int Go.IntKind.i64 n16, Go.Value.int Go.IntKind.i64 n19] fun (σ25 : Go.AI.AS) ↦
  Go.AI.req ((0 : Int) ≤ i)
  (Go.AI.req (i < (↑m : Int))
  (Go.AI.pSome p fun (a26 : Go.Addr) ↦
  Go.AI.req (f = Go.AI.szOf Go.Proofs.Try.prog (3 : Nat))
  (Go.AI.ldc σ25 (Go.Addr.add a26 (Int.toNat i * Go.AI.szOf Go.Proofs.Try.prog (3 : Nat))) fun (v27 : Go.Value) ↦
  Go.AI.tI Go.IntKind.i64 v27 fun (n28 : Int) ↦
  T (25 : Nat)
  [Go.Value.pointer (Option.some (Go.Addr.mk x (0 : Nat) Option.none)), Go.Value.int Go.IntKind.i64 n28, Go.Value.int Go.IntKind.i64 split] σ25
  fun (v29 : Go.Value) (σ30 : Go.AI.AS) ↦
  Go.AI.tB v29 fun (b31 : Bool) ↦
  Go.AI.bmatch (!b31)
  (Go.AI.lds σ30 (Go.Addr.mk i23 (0 : Nat) Option.none) (4 : Nat) fun (l32 : List Go.Value) ↦
  Go.AI.tCons l32 fun (v33 : Go.Value) (l34 : List Go.Value) ↦
  Go.AI.tI Go.IntKind.i64 v33 fun (n35 : Int) ↦
  Go.AI.tCons l34 fun (v36 : Go.Value) (l37 : List Go.Value) ↦
  Go.AI.tI Go.IntKind.i64 v36 fun (n38 : Int) ↦
  Go.AI.tCons l37 fun (v39 : Go.Value) (l40 : List Go.Value) ↦
  Go.AI.tI Go.IntKind.i64 v39 fun (n41 : Int) ↦
  Go.AI.tCons l40 fun (v42 : Go.Value) (l43 : List Go.Value) ↦
  Go.AI.tI Go.IntKind.i64 v42 fun (n44 : Int) ↦
  Go.AI.tNil l43
  (Go.AI.req ((0 : Int) ≤ i)
  (Go.AI.req (i < (↑r : Int))
  (Go.AI.pSome q fun (a45 : Go.Addr) ↦
  Go.AI.req (g = Go.AI.szOf Go.Proofs.Try.prog (36 : Nat))
  (Go.AI.lds σ30 (Go.Addr.add a45 (Int.toNat i * Go.AI.szOf Go.Proofs.Try.prog (36 : Nat))) (4 : Nat)
  fun (l46 : List Go.Value) ↦
  Go.AI.tCons l46 fun (v47 : Go.Value) (l48 : List Go.Value) ↦
  Go.AI.tI Go.IntKind.i64 v47 fun (n49 : Int) ↦
  Go.AI.tCons l48 fun (v50 : Go.Value) (l51 : List Go.Value) ↦
  Go.AI.tI Go.IntKind.i64 v50 fun (n52 : Int) ↦
  Go.AI.tCons l51 fun (v53 : Go.Value) (l54 : List Go.Value) ↦
  Go.AI.tI Go.IntKind.i64 v53 fun (n55 : Int) ↦
  Go.AI.tCons l54 fun (v56 : Go.Value) (l57 : List Go.Value) ↦
  Go.AI.tI Go.IntKind.i64 v56 fun (n58 : Int) ↦
  Go.AI.tNil l57
  (Go.AI.bmatch (!(n35 == n49 && (n38 == n52 && (n41 == n55 && (n44 == n58 && Bool.true)))))
  (K (Go.Value.bool Bool.false) σ30)
  (X
  [((15 : Nat),
  Option.some (Go.Value.pointer (Option.some (Go.Addr.mk t (0 : Nat) Option.none)))),
  ((16 : Nat),
  Option.some (Go.Value.pointer (Option.some (Go.Addr.mk x (0 : Nat) Option.none)))),
  ((17 : Nat), Option.some (Go.Value.int Go.IntKind.i64 split)),
  ((18 : Nat), Option.some (Go.Value.slice p m f)),
  ((19 : Nat), Option.some (Go.Value.slice q r g)),
  ((40 : Nat),
  Option.some
  (Go.Value.int Go.IntKind.i64 (Go.IntKind.wrap Go.IntKind.i64 (i + (1 : Int)))))]
  σ30)))))))
  (X
  [((15 : Nat), Option.some (Go.Value.pointer (Option.some (Go.Addr.mk t (0 : Nat) Option.none)))),
  ((16 : Nat), Option.some (Go.Value.pointer (Option.some (Go.Addr.mk x (0 : Nat) Option.none)))),
  ((17 : Nat), Option.some (Go.Value.int Go.IntKind.i64 split)), ((18 : Nat), Option.some (Go.Value.slice p m f)),
  ((19 : Nat), Option.some (Go.Value.slice q r g)),
  ((40 : Nat), Option.some (Go.Value.int Go.IntKind.i64 (Go.IntKind.wrap Go.IntKind.i64 (i + (1 : Int)))))]
  σ30)))))))))
  (T (13 : Nat) [] σ fun (v59 : Go.Value) (σ60 : Go.AI.AS) ↦ Go.AI.tB v59 fun (b61 : Bool) ↦ K (Go.Value.bool b61) σ60) := by
  intros
  kernel_rfl

theorem s5 : ∀ (T : Go.AI.Ct) (a b : Int) (l : Option Go.Addr) (n e : Nat) (σ : Go.AI.AS) (K : Go.Value → Go.AI.AS → Prop),
  Go.AI.fw Go.Proofs.Try.prog Go.AI.hintsS T (5 : Nat) [Go.Value.int Go.IntKind.u8 a, Go.Value.int Go.IntKind.u8 b, Go.Value.slice l n e] σ K =
  Go.AI.bmatch (Decidable.decide ((↑n : Int) > (80 : Int))) (T (13 : Nat) [] σ fun (v0 : Go.Value) (σ1 : Go.AI.AS) ↦ Go.AI.tB v0 fun (b2 : Bool) ↦ K (Go.Value.bool b2) σ1)
  (T (14 : Nat) [Go.Value.int Go.IntKind.u8 a, Go.Value.int Go.IntKind.u8 b] σ fun (v3 : Go.Value) (σ4 : Go.AI.AS) ↦
  Go.AI.tTup v3 fun (l5 : List Go.Value) ↦
  Go.AI.pSome l5[(0 : Nat)]? fun (u6 : Go.Value) ↦
  Go.AI.tI Go.IntKind.i64 u6 fun (n7 : Int) ↦
  Go.AI.tTup v3 fun (l8 : List Go.Value) ↦
  Go.AI.pSome l8[(1 : Nat)]? fun (u9 : Go.Value) ↦
  Go.AI.tI Go.IntKind.i64 u9 fun (n10 : Int) ↦
  T (15 : Nat) [Go.Value.int Go.IntKind.i64 n7, Go.Value.int Go.IntKind.i64 n10, Go.Value.slice l n e] σ4 fun (v11 : Go.Value) (σ12 : Go.AI.AS) ↦
  Go.AI.tTup v11 fun (l13 : List Go.Value) ↦
  Go.AI.pSome l13[(0 : Nat)]? fun (u14 : Go.Value) ↦
  Go.AI.tP u14 fun (b15 : Option Go.Addr) ↦
  Go.AI.tTup v11 fun (l16 : List Go.Value) ↦
  Go.AI.pSome l16[(1 : Nat)]? fun (u17 : Go.Value) ↦
  Go.AI.tP u17 fun (b18 : Option Go.Addr) ↦
  Go.AI.ptrEq σ12 b15 Option.none fun (r19 : Bool) ↦
  Go.AI.bmatch r19 (K (Go.Value.bool Bool.false) σ12)
  (T (16 : Nat) [Go.Value.pointer b15] σ12 fun (v20 : Go.Value) (σ21 : Go.AI.AS) ↦
  Go.AI.tL (1 : Nat) v20 fun (s22 : Go.AI.Sl) ↦
  Go.AI.ALoop
  (Go.AI.fl Go.Proofs.Try.prog Go.AI.hintsS T (5 : Nat) [Bool.true, Bool.true, Bool.true, Bool.true, Bool.true, Bool.true, Bool.true, Bool.false, Bool.true, Bool.false] [] K)
  [((9 : Nat), Option.some (Go.Value.pointer b15)), ((11 : Nat), Option.some (Go.Value.slice (Go.AI.Sl.a s22) (Go.AI.Sl.n s22) (1 : Nat))),
  ((12 : Nat), Option.some (Go.Value.int Go.IntKind.i64 (0 : Int))), ((13 : Nat), Option.some (Go.Value.int Go.IntKind.i64 (0 : Int)))]
  σ21)) := by
  intros
  kernel_rfl

theorem s5l : ∀ (T : Go.AI.Ct) (pairs i : Int) (t : Nat) (p : Option Go.Addr) (m f : Nat) (X : Go.AI.Regs → Go.AI.AS → Prop) (σ : Go.AI.AS) (K : Go.Value → Go.AI.AS → Prop),
  Go.AI.fl Go.Proofs.Try.prog Go.AI.hintsS T (5 : Nat) [Bool.true, Bool.true, Bool.true, Bool.true, Bool.true, Bool.true, Bool.true, Bool.false, Bool.true, Bool.false] [] K X
  [((9 : Nat), Option.some (Go.Value.pointer (Option.some (Go.Addr.mk t (0 : Nat) Option.none)))), ((11 : Nat), Option.some (Go.Value.slice p m f)),
  ((12 : Nat), Option.some (Go.Value.int Go.IntKind.i64 pairs)), ((13 : Nat), Option.some (Go.Value.int Go.IntKind.i64 i))]
  σ =
  Go.AI.bmatch (Decidable.decide (i < (↑m : Int)))
  (Go.AI.req ((0 : Int) ≤ i)
  (Go.AI.req (i < (↑m : Int))
  (Go.AI.pSome p fun (a0 : Go.Addr) ↦
  Go.AI.req (f = Go.AI.szOf Go.Proofs.Try.prog (3 : Nat))
  (Go.AI.ldc σ (Go.Addr.add a0 (Int.toNat i * Go.AI.szOf Go.Proofs.Try.prog (3 : Nat))) fun (v1 : Go.Value) ↦
  Go.AI.tI Go.IntKind.i64 v1 fun (n2 : Int) ↦
  T (18 : Nat) [Go.Value.pointer (Option.some (Go.Addr.mk t (0 : Nat) Option.none)), Go.Value.int Go.IntKind.i64 n2] σ fun (v3 : Go.Value) (σ4 : Go.AI.AS) ↦
  Go.AI.tI Go.IntKind.i64 v3 fun (n5 : Int) ↦
  Go.AI.bmatch (n5 == (4 : Int))
  (Go.AI.JoinS
  (Go.AI.jn Go.Proofs.Try.prog Go.AI.hintsS T (5 : Nat)
  [Bool.true, Bool.true, Bool.true, Bool.true, Bool.true, Bool.true, Bool.true, Bool.false, Bool.true, Bool.false, Bool.false, Bool.true, Bool.false, Bool.false, Bool.true] [X] K)
  [((9 : Nat), Option.some (Go.Value.pointer (Option.some (Go.Addr.mk t (0 : Nat) Option.none)))), ((11 : Nat), Option.some (Go.Value.slice p m f)),
  ((12 : Nat), Option.some (Go.Value.int Go.IntKind.i64 (Go.IntKind.wrap Go.IntKind.i64 (pairs + (1 : Int))))), ((13 : Nat), Option.some (Go.Value.int Go.IntKind.i64 i)),
  ((14 : Nat), Option.some (Go.Value.int Go.IntKind.i64 n2))]
  σ4)
  (Go.AI.JoinS
  (Go.AI.jn Go.Proofs.Try.prog Go.AI.hintsS T (5 : Nat)
  [Bool.true, Bool.true, Bool.true, Bool.true, Bool.true, Bool.true, Bool.true, Bool.false, Bool.true, Bool.false, Bool.false, Bool.true, Bool.false, Bool.false, Bool.true] [X] K)
  [((9 : Nat), Option.some (Go.Value.pointer (Option.some (Go.Addr.mk t (0 : Nat) Option.none)))), ((11 : Nat), Option.some (Go.Value.slice p m f)),
  ((12 : Nat), Option.some (Go.Value.int Go.IntKind.i64 pairs)), ((13 : Nat), Option.some (Go.Value.int Go.IntKind.i64 i)), ((14 : Nat), Option.some (Go.Value.int Go.IntKind.i64 n2))]
  σ4)))))
  (Go.AI.bmatch (Decidable.decide ((↑m : Int) ≤ (64 : Int)))
  (Go.AI.bmatch ((↑m : Int) == (0 : Int))
  (T (27 : Nat) [Go.Value.pointer (Option.some (Go.Addr.mk t (0 : Nat) Option.none))] σ fun (v6 : Go.Value) (σ7 : Go.AI.AS) ↦
  Go.AI.tI Go.IntKind.i64 v6 fun (n8 : Int) ↦
  Go.AI.bmatch (n8 == (0 : Int)) (T (13 : Nat) [] σ7 fun (v9 : Go.Value) (σ10 : Go.AI.AS) ↦ Go.AI.tB v9 fun (b11 : Bool) ↦ K (Go.Value.bool b11) σ10)
  (Go.AI.bmatch (Go.IntKind.wrap Go.IntKind.i64 (Go.IntKind.wrap Go.IntKind.i64 ((2 : Int) * pairs) + (1 : Int)) == (↑m : Int))
  (T (13 : Nat) [] σ7 fun (v12 : Go.Value) (σ13 : Go.AI.AS) ↦ Go.AI.tB v12 fun (b14 : Bool) ↦ K (Go.Value.bool b14) σ13) (K (Go.Value.bool Bool.false) σ7)))
  (Go.AI.bmatch (Go.IntKind.wrap Go.IntKind.i64 (Go.IntKind.wrap Go.IntKind.i64 ((2 : Int) * pairs) + (1 : Int)) == (↑m : Int))
  (T (13 : Nat) [] σ fun (v15 : Go.Value) (σ16 : Go.AI.AS) ↦ Go.AI.tB v15 fun (b17 : Bool) ↦ K (Go.Value.bool b17) σ16) (K (Go.Value.bool Bool.false) σ)))
  (K (Go.Value.bool Bool.false) σ)) := by
  intros
  kernel_rfl

theorem s5j : ∀ (T : Go.AI.Ct) (pairs i k : Int) (t : Nat) (p : Option Go.Addr) (m f : Nat) (X : Go.AI.Regs → Go.AI.AS → Prop) (σ : Go.AI.AS) (K : Go.Value → Go.AI.AS → Prop),
  Go.AI.jn Go.Proofs.Try.prog Go.AI.hintsS T (5 : Nat)
  [Bool.true, Bool.true, Bool.true, Bool.true, Bool.true, Bool.true, Bool.true, Bool.false, Bool.true, Bool.false, Bool.false, Bool.true, Bool.false, Bool.false, Bool.true] [X] K
  [((9 : Nat), Option.some (Go.Value.pointer (Option.some (Go.Addr.mk t (0 : Nat) Option.none)))), ((11 : Nat), Option.some (Go.Value.slice p m f)),
  ((12 : Nat), Option.some (Go.Value.int Go.IntKind.i64 pairs)), ((13 : Nat), Option.some (Go.Value.int Go.IntKind.i64 i)), ((14 : Nat), Option.some (Go.Value.int Go.IntKind.i64 k))]
  σ =
  T (24 : Nat) [Go.Value.pointer (Option.some (Go.Addr.mk t (0 : Nat) Option.none)), Go.Value.int Go.IntKind.i64 k] σ fun (v0 : Go.Value) (σ1 : Go.AI.AS) ↦
  Go.AI.tI Go.IntKind.i64 v0 fun (n2 : Int) ↦
  T (26 : Nat) [Go.Value.pointer (Option.some (Go.Addr.mk t (0 : Nat) Option.none)), Go.Value.int Go.IntKind.i64 k] σ1 fun (v3 : Go.Value) (σ4 : Go.AI.AS) ↦
  Go.AI.tI Go.IntKind.i64 v3 fun (n5 : Int) ↦
  T (20 : Nat) [Go.Value.pointer (Option.some (Go.Addr.mk t (0 : Nat) Option.none)), Go.Value.int Go.IntKind.i64 n2] σ4 fun (v6 : Go.Value) (σ7 : Go.AI.AS) ↦
  Go.AI.tTup v6 fun (l8 : List Go.Value) ↦
  Go.AI.pSome l8[(0 : Nat)]? fun (u9 : Go.Value) ↦
  Go.AI.tI Go.IntKind.i64 u9 fun (n10 : Int) ↦
  Go.AI.tTup v6 fun (l11 : List Go.Value) ↦
  Go.AI.pSome l11[(1 : Nat)]? fun (u12 : Go.Value) ↦
  Go.AI.tI Go.IntKind.i64 u12 fun (n13 : Int) ↦
  Go.AI.bmatch (n2 == (0 : Int))
  (Go.AI.bmatch (n5 != (0 : Int)) (K (Go.Value.bool Bool.false) σ7)
  (T (27 : Nat) [Go.Value.pointer (Option.some (Go.Addr.mk t (0 : Nat) Option.none))] σ7 fun (v14 : Go.Value) (σ15 : Go.AI.AS) ↦
  Go.AI.tI Go.IntKind.i64 v14 fun (n16 : Int) ↦
  Go.AI.bmatch (n16 != k) (K (Go.Value.bool Bool.false) σ15)
  (Go.AI.bmatch (n2 != (0 : Int))
  (Go.AI.bmatch (n5 == k) (K (Go.Value.bool Bool.false) σ15)
  (T (26 : Nat) [Go.Value.pointer (Option.some (Go.Addr.mk t (0 : Nat) Option.none)), Go.Value.int Go.IntKind.i64 n5] σ15 fun (v17 : Go.Value) (σ18 : Go.AI.AS) ↦
  Go.AI.tI Go.IntKind.i64 v17 fun (n19 : Int) ↦
  Go.AI.bmatch (n19 != k) (K (Go.Value.bool Bool.false) σ18)
  (Go.AI.bmatch (n10 != k)
  (Go.AI.bmatch (n13 != k) (K (Go.Value.bool Bool.false) σ18)
  (Go.AI.bmatch (n10 == n13) (K (Go.Value.bool Bool.false) σ18)
  (Go.AI.ALoop
  (Go.AI.fl Go.Proofs.Try.prog Go.AI.hintsS T (5 : Nat)
  [Bool.true, Bool.true, Bool.true, Bool.true, Bool.true, Bool.true, Bool.true, Bool.false, Bool.true, Bool.false, Bool.false, Bool.true, Bool.false, Bool.false,
  Bool.true, Bool.true, Bool.true, Bool.true, Bool.true, Bool.true, Bool.false, Bool.true, Bool.false]
  [X] K)
  [((9 : Nat), Option.some (Go.Value.pointer (Option.some (Go.Addr.mk t (0 : Nat) Option.none)))), ((11 : Nat), Option.some (Go.Value.slice p m f)),
  ((12 : Nat), Option.some (Go.Value.int Go.IntKind.i64 pairs)), ((13 : Nat), Option.some (Go.Value.int Go.IntKind.i64 i)),
  ((19 : Nat), Option.some (Go.Value.int Go.IntKind.i64 k)), ((20 : Nat), Option.some (Go.Value.int Go.IntKind.i64 (0 : Int)))]
  σ18)))
  (Go.AI.bmatch (n10 == n13) (K (Go.Value.bool Bool.false) σ18)
  (Go.AI.ALoop
  (Go.AI.fl Go.Proofs.Try.prog Go.AI.hintsS T (5 : Nat)
  [Bool.true, Bool.true, Bool.true, Bool.true, Bool.true, Bool.true, Bool.true, Bool.false, Bool.true, Bool.false, Bool.false, Bool.true, Bool.false, Bool.false,
  Bool.true, Bool.true, Bool.true, Bool.true, Bool.true, Bool.true, Bool.false, Bool.true, Bool.false]
  [X] K)
  [((9 : Nat), Option.some (Go.Value.pointer (Option.some (Go.Addr.mk t (0 : Nat) Option.none)))), ((11 : Nat), Option.some (Go.Value.slice p m f)),
  ((12 : Nat), Option.some (Go.Value.int Go.IntKind.i64 pairs)), ((13 : Nat), Option.some (Go.Value.int Go.IntKind.i64 i)),
  ((19 : Nat), Option.some (Go.Value.int Go.IntKind.i64 k)), ((20 : Nat), Option.some (Go.Value.int Go.IntKind.i64 (0 : Int)))]
  σ18)))))
  (Go.AI.ALoop
  (Go.AI.fl Go.Proofs.Try.prog Go.AI.hintsS T (5 : Nat)
  [Bool.true, Bool.true, Bool.true, Bool.true, Bool.true, Bool.true, Bool.true, Bool.false, Bool.true, Bool.false, Bool.false, Bool.true, Bool.false, Bool.false, Bool.true,
  Bool.true, Bool.true, Bool.true, Bool.true, Bool.true, Bool.false, Bool.true, Bool.false]
  [X] K)
  [((9 : Nat), Option.some (Go.Value.pointer (Option.some (Go.Addr.mk t (0 : Nat) Option.none)))), ((11 : Nat), Option.some (Go.Value.slice p m f)),
  ((12 : Nat), Option.some (Go.Value.int Go.IntKind.i64 pairs)), ((13 : Nat), Option.some (Go.Value.int Go.IntKind.i64 i)),
  ((19 : Nat), Option.some (Go.Value.int Go.IntKind.i64 k)), ((20 : Nat), Option.some (Go.Value.int Go.IntKind.i64 (0 : Int)))]
  σ15))))
  (Go.AI.bmatch (n2 != (0 : Int))
  (Go.AI.bmatch (n5 == k) (K (Go.Value.bool Bool.false) σ7)
  (T (26 : Nat) [Go.Value.pointer (Option.some (Go.Addr.mk t (0 : Nat) Option.none)), Go.Value.int Go.IntKind.i64 n5] σ7 fun (v20 : Go.Value) (σ21 : Go.AI.AS) ↦
  Go.AI.tI Go.IntKind.i64 v20 fun (n22 : Int) ↦
  Go.AI.bmatch (n22 != k) (K (Go.Value.bool Bool.false) σ21)
  (Go.AI.bmatch (n10 != k)
  (Go.AI.bmatch (n13 != k) (K (Go.Value.bool Bool.false) σ21)
  (Go.AI.bmatch (n10 == n13) (K (Go.Value.bool Bool.false) σ21)
  (Go.AI.ALoop
  (Go.AI.fl Go.Proofs.Try.prog Go.AI.hintsS T (5 : Nat)
  [Bool.true, Bool.true, Bool.true, Bool.true, Bool.true, Bool.true, Bool.true, Bool.false, Bool.true, Bool.false, Bool.false, Bool.true, Bool.false, Bool.false, Bool.true,
  Bool.true, Bool.true, Bool.true, Bool.true, Bool.true, Bool.false, Bool.true, Bool.false]
  [X] K)
  [((9 : Nat), Option.some (Go.Value.pointer (Option.some (Go.Addr.mk t (0 : Nat) Option.none)))), ((11 : Nat), Option.some (Go.Value.slice p m f)),
  ((12 : Nat), Option.some (Go.Value.int Go.IntKind.i64 pairs)), ((13 : Nat), Option.some (Go.Value.int Go.IntKind.i64 i)),
  ((19 : Nat), Option.some (Go.Value.int Go.IntKind.i64 k)), ((20 : Nat), Option.some (Go.Value.int Go.IntKind.i64 (0 : Int)))]
  σ21)))
  (Go.AI.bmatch (n10 == n13) (K (Go.Value.bool Bool.false) σ21)
  (Go.AI.ALoop
  (Go.AI.fl Go.Proofs.Try.prog Go.AI.hintsS T (5 : Nat)
  [Bool.true, Bool.true, Bool.true, Bool.true, Bool.true, Bool.true, Bool.true, Bool.false, Bool.true, Bool.false, Bool.false, Bool.true, Bool.false, Bool.false, Bool.true,
  Bool.true, Bool.true, Bool.true, Bool.true, Bool.true, Bool.false, Bool.true, Bool.false]
  [X] K)
  [((9 : Nat), Option.some (Go.Value.pointer (Option.some (Go.Addr.mk t (0 : Nat) Option.none)))), ((11 : Nat), Option.some (Go.Value.slice p m f)),
  ((12 : Nat), Option.some (Go.Value.int Go.IntKind.i64 pairs)), ((13 : Nat), Option.some (Go.Value.int Go.IntKind.i64 i)),
  ((19 : Nat), Option.some (Go.Value.int Go.IntKind.i64 k)), ((20 : Nat), Option.some (Go.Value.int Go.IntKind.i64 (0 : Int)))]
  σ21)))))
  (Go.AI.ALoop
  (Go.AI.fl Go.Proofs.Try.prog Go.AI.hintsS T (5 : Nat)
  [Bool.true, Bool.true, Bool.true, Bool.true, Bool.true, Bool.true, Bool.true, Bool.false, Bool.true, Bool.false, Bool.false, Bool.true, Bool.false, Bool.false, Bool.true, Bool.true,
  Bool.true, Bool.true, Bool.true, Bool.true, Bool.false, Bool.true, Bool.false]
  [X] K)
  [((9 : Nat), Option.some (Go.Value.pointer (Option.some (Go.Addr.mk t (0 : Nat) Option.none)))), ((11 : Nat), Option.some (Go.Value.slice p m f)),
  ((12 : Nat), Option.some (Go.Value.int Go.IntKind.i64 pairs)), ((13 : Nat), Option.some (Go.Value.int Go.IntKind.i64 i)), ((19 : Nat), Option.some (Go.Value.int Go.IntKind.i64 k)),
  ((20 : Nat), Option.some (Go.Value.int Go.IntKind.i64 (0 : Int)))]
  σ7)) := by
  intros
  kernel_rfl

theorem s5u : ∀ (T : Go.AI.Ct) (pairs i up n : Int) (t : Nat) (p : Option Go.Addr) (m f : Nat) (X Y : Go.AI.Regs → Go.AI.AS → Prop) (σ : Go.AI.AS) (K : Go.Value → Go.AI.AS → Prop),
  Go.AI.fl Go.Proofs.Try.prog Go.AI.hintsS T (5 : Nat)
  [Bool.true, Bool.true, Bool.true, Bool.true, Bool.true, Bool.true, Bool.true, Bool.false, Bool.true, Bool.false, Bool.false, Bool.true, Bool.false, Bool.false, Bool.true, Bool.true, Bool.true, Bool.true, Bool.true,
  Bool.true, Bool.false, Bool.true, Bool.false]
  [X] K Y
  [((9 : Nat), Option.some (Go.Value.pointer (Option.some (Go.Addr.mk t (0 : Nat) Option.none)))), ((11 : Nat), Option.some (Go.Value.slice p m f)),
  ((12 : Nat), Option.some (Go.Value.int Go.IntKind.i64 pairs)), ((13 : Nat), Option.some (Go.Value.int Go.IntKind.i64 i)), ((19 : Nat), Option.some (Go.Value.int Go.IntKind.i64 up)),
  ((20 : Nat), Option.some (Go.Value.int Go.IntKind.i64 n))]
  σ =
  Go.AI.bmatch (Decidable.decide (n < (↑m : Int)))
  (T (24 : Nat) [Go.Value.pointer (Option.some (Go.Addr.mk t (0 : Nat) Option.none)), Go.Value.int Go.IntKind.i64 up] σ fun (v0 : Go.Value) (σ1 : Go.AI.AS) ↦
  Go.AI.tI Go.IntKind.i64 v0 fun (n2 : Int) ↦
  Go.AI.bmatch (n2 != (0 : Int))
  (T (24 : Nat) [Go.Value.pointer (Option.some (Go.Addr.mk t (0 : Nat) Option.none)), Go.Value.int Go.IntKind.i64 up] σ1 fun (v3 : Go.Value) (σ4 : Go.AI.AS) ↦
  Go.AI.tI Go.IntKind.i64 v3 fun (n5 : Int) ↦
  Y
  [((9 : Nat), Option.some (Go.Value.pointer (Option.some (Go.Addr.mk t (0 : Nat) Option.none)))), ((11 : Nat), Option.some (Go.Value.slice p m f)),
  ((12 : Nat), Option.some (Go.Value.int Go.IntKind.i64 pairs)), ((13 : Nat), Option.some (Go.Value.int Go.IntKind.i64 i)), ((19 : Nat), Option.some (Go.Value.int Go.IntKind.i64 n5)),
  ((20 : Nat), Option.some (Go.Value.int Go.IntKind.i64 (Go.IntKind.wrap Go.IntKind.i64 (n + (1 : Int)))))]
  σ4)
  (T (27 : Nat) [Go.Value.pointer (Option.some (Go.Addr.mk t (0 : Nat) Option.none))] σ1 fun (v6 : Go.Value) (σ7 : Go.AI.AS) ↦
  Go.AI.tI Go.IntKind.i64 v6 fun (n8 : Int) ↦
  Go.AI.bmatch (up != n8) (K (Go.Value.bool Bool.false) σ7)
  (X
  [((9 : Nat), Option.some (Go.Value.pointer (Option.some (Go.Addr.mk t (0 : Nat) Option.none)))), ((11 : Nat), Option.some (Go.Value.slice p m f)),
  ((12 : Nat), Option.some (Go.Value.int Go.IntKind.i64 pairs)), ((13 : Nat), Option.some (Go.Value.int Go.IntKind.i64 (Go.IntKind.wrap Go.IntKind.i64 (i + (1 : Int)))))]
  σ7)))
  (T (27 : Nat) [Go.Value.pointer (Option.some (Go.Addr.mk t (0 : Nat) Option.none))] σ fun (v9 : Go.Value) (σ10 : Go.AI.AS) ↦
  Go.AI.tI Go.IntKind.i64 v9 fun (n11 : Int) ↦
  Go.AI.bmatch (up != n11) (K (Go.Value.bool Bool.false) σ10)
  (X
  [((9 : Nat), Option.some (Go.Value.pointer (Option.some (Go.Addr.mk t (0 : Nat) Option.none)))), ((11 : Nat), Option.some (Go.Value.slice p m f)),
  ((12 : Nat), Option.some (Go.Value.int Go.IntKind.i64 pairs)), ((13 : Nat), Option.some (Go.Value.int Go.IntKind.i64 (Go.IntKind.wrap Go.IntKind.i64 (i + (1 : Int)))))]
  σ10)) := by
  intros
  kernel_rfl

theorem s6 : ∀ (T : Go.AI.Ct) (a b : Int) (l : Option Go.Addr) (n e : Nat) (at__1 : Int) (σ : Go.AI.AS) (K : Go.Value → Go.AI.AS → Prop),
  Go.AI.fw Go.Proofs.Try.prog Go.AI.hintsS T (6 : Nat) [Go.Value.int Go.IntKind.u8 a, Go.Value.int Go.IntKind.u8 b, Go.Value.slice l n e, Go.Value.int Go.IntKind.i64 at__1] σ K =
  Go.AI.bmatch (Decidable.decide ((↑n : Int) > (80 : Int))) (T (13 : Nat) [] σ fun (v0 : Go.Value) (σ1 : Go.AI.AS) ↦ Go.AI.tB v0 fun (b2 : Bool) ↦ K (Go.Value.bool b2) σ1)
  (T (14 : Nat) [Go.Value.int Go.IntKind.u8 a, Go.Value.int Go.IntKind.u8 b] σ fun (v3 : Go.Value) (σ4 : Go.AI.AS) ↦
  Go.AI.tTup v3 fun (l5 : List Go.Value) ↦
  Go.AI.pSome l5[(0 : Nat)]? fun (u6 : Go.Value) ↦
  Go.AI.tI Go.IntKind.i64 u6 fun (n7 : Int) ↦
  Go.AI.tTup v3 fun (l8 : List Go.Value) ↦
  Go.AI.pSome l8[(1 : Nat)]? fun (u9 : Go.Value) ↦
  Go.AI.tI Go.IntKind.i64 u9 fun (n10 : Int) ↦
  T (15 : Nat) [Go.Value.int Go.IntKind.i64 n7, Go.Value.int Go.IntKind.i64 n10, Go.Value.slice l n e] σ4 fun (v11 : Go.Value) (σ12 : Go.AI.AS) ↦
  Go.AI.tTup v11 fun (l13 : List Go.Value) ↦
  Go.AI.pSome l13[(0 : Nat)]? fun (u14 : Go.Value) ↦
  Go.AI.tP u14 fun (b15 : Option Go.Addr) ↦
  Go.AI.tTup v11 fun (l16 : List Go.Value) ↦
  Go.AI.pSome l16[(1 : Nat)]? fun (u17 : Go.Value) ↦
  Go.AI.tP u17 fun (b18 : Option Go.Addr) ↦
  Go.AI.ptrEq σ12 b15 Option.none fun (r19 : Bool) ↦
  Go.AI.bmatch r19 (K (Go.Value.bool Bool.false) σ12)
  (T (21 : Nat) [Go.Value.pointer b18, Go.Value.int Go.IntKind.i64 at__1] σ12 fun (v20 : Go.Value) (σ21 : Go.AI.AS) ↦
  Go.AI.tI Go.IntKind.i64 v20 fun (n22 : Int) ↦
  T (16 : Nat) [Go.Value.pointer b15] σ21 fun (v23 : Go.Value) (σ24 : Go.AI.AS) ↦
  Go.AI.tL (1 : Nat) v23 fun (s25 : Go.AI.Sl) ↦
  T (28 : Nat) [Go.Value.pointer b15, Go.Value.int Go.IntKind.i64 n22] σ24 fun (v26 : Go.Value) (σ27 : Go.AI.AS) ↦
  Go.AI.tTup v26 fun (l28 : List Go.Value) ↦
  Go.AI.pSome l28[(0 : Nat)]? fun (u29 : Go.Value) ↦
  Go.AI.tL (1 : Nat) u29 fun (s30 : Go.AI.Sl) ↦
  Go.AI.tTup v26 fun (l31 : List Go.Value) ↦
  Go.AI.pSome l31[(1 : Nat)]? fun (u32 : Go.Value) ↦
  Go.AI.tI Go.IntKind.i64 u32 fun (n33 : Int) ↦
  Go.AI.bmatch (n22 == (0 : Int))
  (T (23 : Nat) [Go.Value.int Go.IntKind.i64 n33] σ27 fun (v34 : Go.Value) (σ35 : Go.AI.AS) ↦
  Go.AI.tI Go.IntKind.i64 v34 fun (n36 : Int) ↦
  Go.AI.bmatch (n36 == (5 : Int))
  (Go.AI.bmatch ((↑(Go.AI.Sl.n s30) : Int) == (0 : Int))
  (T (13 : Nat) [] σ35 fun (v37 : Go.Value) (σ38 : Go.AI.AS) ↦ Go.AI.tB v37 fun (b39 : Bool) ↦ K (Go.Value.bool b39) σ38)
  (K (Go.Value.bool Bool.false) σ35))
  (K (Go.Value.bool Bool.false) σ35))
  (Go.AI.ALoop
  (Go.AI.fl Go.Proofs.Try.prog Go.AI.hintsS T (6 : Nat)
  [Bool.true, Bool.true, Bool.true, Bool.true, Bool.true, Bool.true, Bool.true, Bool.true, Bool.true, Bool.true, Bool.false, Bool.true, Bool.false] [] K)
  [((11 : Nat), Option.some (Go.Value.pointer b15)), ((12 : Nat), Option.some (Go.Value.pointer b18)),
  ((13 : Nat), Option.some (Go.Value.int Go.IntKind.i64 n22)), ((14 : Nat), Option.some (Go.Value.slice (Go.AI.Sl.a s25) (Go.AI.Sl.n s25) (1 : Nat))),
  ((15 : Nat), Option.some (Go.Value.slice (Go.AI.Sl.a s30) (Go.AI.Sl.n s30) (1 : Nat))), ((16 : Nat), Option.some (Go.Value.int Go.IntKind.i64 n33)),
  ((17 : Nat), Option.some (Go.Value.int Go.IntKind.i64 (0 : Int))), ((18 : Nat), Option.some (Go.Value.int Go.IntKind.i64 (0 : Int)))]
  σ27))) := by
  intros
  kernel_rfl

theorem s6l : ∀ (T : Go.AI.Ct) (win er n i : Int) (t x : Nat) (p : Option Go.Addr) (m f : Nat) (q : Option Go.Addr) (r g : Nat) (X : Go.AI.Regs → Go.AI.AS → Prop) (σ : Go.AI.AS)
  (K : Go.Value → Go.AI.AS → Prop),
  Go.AI.fl Go.Proofs.Try.prog Go.AI.hintsS T (6 : Nat) [Bool.true, Bool.true, Bool.true, Bool.true, Bool.true, Bool.true, Bool.true, Bool.true, Bool.true, Bool.true, Bool.false, Bool.true, Bool.false] [] K X
  [((11 : Nat), Option.some (Go.Value.pointer (Option.some (Go.Addr.mk t (0 : Nat) Option.none)))), ((12 : Nat), Option.some (Go.Value.pointer (Option.some (Go.Addr.mk x (0 : Nat) Option.none)))),
  ((13 : Nat), Option.some (Go.Value.int Go.IntKind.i64 win)), ((14 : Nat), Option.some (Go.Value.slice p m f)), ((15 : Nat), Option.some (Go.Value.slice q r g)),
  ((16 : Nat), Option.some (Go.Value.int Go.IntKind.i64 er)), ((17 : Nat), Option.some (Go.Value.int Go.IntKind.i64 n)), ((18 : Nat), Option.some (Go.Value.int Go.IntKind.i64 i))]
  σ =
  Go.AI.bmatch (Decidable.decide (i < (↑m : Int)))
  (Go.AI.bmatch (Decidable.decide (n < (↑r : Int)))
  (Go.AI.req ((0 : Int) ≤ n)
  (Go.AI.req (n < (↑r : Int))
  (Go.AI.pSome q fun (a0 : Go.Addr) ↦
  Go.AI.req (g = Go.AI.szOf Go.Proofs.Try.prog (3 : Nat))
  (Go.AI.ldc σ (Go.Addr.add a0 (Int.toNat n * Go.AI.szOf Go.Proofs.Try.prog (3 : Nat))) fun (v1 : Go.Value) ↦
  Go.AI.tI Go.IntKind.i64 v1 fun (n2 : Int) ↦
  Go.AI.req ((0 : Int) ≤ i)
  (Go.AI.req (i < (↑m : Int))
  (Go.AI.pSome p fun (a3 : Go.Addr) ↦
  Go.AI.req (f = Go.AI.szOf Go.Proofs.Try.prog (3 : Nat))
  (Go.AI.ldc σ (Go.Addr.add a3 (Int.toNat i * Go.AI.szOf Go.Proofs.Try.prog (3 : Nat))) fun (v4 : Go.Value) ↦
  Go.AI.tI Go.IntKind.i64 v4 fun (n5 : Int) ↦
  Go.AI.bmatch (n2 == n5)
  (Go.AI.JoinS
  (Go.AI.jn Go.Proofs.Try.prog Go.AI.hintsS T (6 : Nat)
  [Bool.true, Bool.true, Bool.true, Bool.true, Bool.true, Bool.true, Bool.true, Bool.true, Bool.true, Bool.true, Bool.false, Bool.true, Bool.false, Bool.false, Bool.true, Bool.false,
  Bool.false, Bool.true]
  [X] K)
  [((11 : Nat), Option.some (Go.Value.pointer (Option.some (Go.Addr.mk t (0 : Nat) Option.none)))),
  ((12 : Nat), Option.some (Go.Value.pointer (Option.some (Go.Addr.mk x (0 : Nat) Option.none)))), ((13 : Nat), Option.some (Go.Value.int Go.IntKind.i64 win)),
  ((14 : Nat), Option.some (Go.Value.slice p m f)), ((15 : Nat), Option.some (Go.Value.slice q r g)), ((16 : Nat), Option.some (Go.Value.int Go.IntKind.i64 er)),
  ((17 : Nat), Option.some (Go.Value.int Go.IntKind.i64 (Go.IntKind.wrap Go.IntKind.i64 (n + (1 : Int))))), ((18 : Nat), Option.some (Go.Value.int Go.IntKind.i64 i)),
  ((19 : Nat), Option.some (Go.Value.bool (n2 == n5)))]
  σ)
  (Go.AI.JoinS
  (Go.AI.jn Go.Proofs.Try.prog Go.AI.hintsS T (6 : Nat)
  [Bool.true, Bool.true, Bool.true, Bool.true, Bool.true, Bool.true, Bool.true, Bool.true, Bool.true, Bool.true, Bool.false, Bool.true, Bool.false, Bool.false, Bool.true, Bool.false,
  Bool.false, Bool.true]
  [X] K)
  [((11 : Nat), Option.some (Go.Value.pointer (Option.some (Go.Addr.mk t (0 : Nat) Option.none)))),
  ((12 : Nat), Option.some (Go.Value.pointer (Option.some (Go.Addr.mk x (0 : Nat) Option.none)))), ((13 : Nat), Option.some (Go.Value.int Go.IntKind.i64 win)),
  ((14 : Nat), Option.some (Go.Value.slice p m f)), ((15 : Nat), Option.some (Go.Value.slice q r g)), ((16 : Nat), Option.some (Go.Value.int Go.IntKind.i64 er)),
  ((17 : Nat), Option.some (Go.Value.int Go.IntKind.i64 n)), ((18 : Nat), Option.some (Go.Value.int Go.IntKind.i64 i)), ((19 : Nat), Option.some (Go.Value.bool (n2 == n5)))]
  σ))))))))
  (Go.AI.JoinS
  (Go.AI.jn Go.Proofs.Try.prog Go.AI.hintsS T (6 : Nat)
  [Bool.true, Bool.true, Bool.true, Bool.true, Bool.true, Bool.true, Bool.true, Bool.true, Bool.true, Bool.true, Bool.false, Bool.true, Bool.false, Bool.false, Bool.true, Bool.false, Bool.false, Bool.true]
  [X] K)
  [((11 : Nat), Option.some (Go.Value.pointer (Option.some (Go.Addr.mk t (0 : Nat) Option.none)))), ((12 : Nat), Option.some (Go.Value.pointer (Option.some (Go.Addr.mk x (0 : Nat) Option.none)))),
  ((13 : Nat), Option.some (Go.Value.int Go.IntKind.i64 win)), ((14 : Nat), Option.some (Go.Value.slice p m f)), ((15 : Nat), Option.some (Go.Value.slice q r g)),
  ((16 : Nat), Option.some (Go.Value.int Go.IntKind.i64 er)), ((17 : Nat), Option.some (Go.Value.int Go.IntKind.i64 n)), ((18 : Nat), Option.some (Go.Value.int Go.IntKind.i64 i)),
  ((19 : Nat), Option.some (Go.Value.bool Bool.false))]
  σ))
  (T (23 : Nat) [Go.Value.int Go.IntKind.i64 er] σ fun (v6 : Go.Value) (σ7 : Go.AI.AS) ↦
  Go.AI.tI Go.IntKind.i64 v6 fun (n8 : Int) ↦
  Go.AI.bmatch (n8 == (0 : Int))
  (Go.AI.bmatch (n == (↑r : Int))
  (T (16 : Nat) [Go.Value.pointer (Option.some (Go.Addr.mk t (0 : Nat) Option.none))] σ7 fun (v9 : Go.Value) (σ10 : Go.AI.AS) ↦
  Go.AI.tL (1 : Nat) v9 fun (s11 : Go.AI.Sl) ↦
  Go.AI.bmatch ((↑(Go.AI.Sl.n s11) : Int) == Go.IntKind.wrap Go.IntKind.i64 ((↑m : Int) - n))
  (T (13 : Nat) [] σ10 fun (v12 : Go.Value) (σ13 : Go.AI.AS) ↦ Go.AI.tB v12 fun (b14 : Bool) ↦ K (Go.Value.bool b14) σ13) (K (Go.Value.bool Bool.false) σ10))
  (K (Go.Value.bool Bool.false) σ7))
  (K (Go.Value.bool Bool.false) σ7)) := by
  intros
  kernel_rfl

theorem s6j : ∀ (T : Go.AI.Ct) (win er n i : Int) (out : Bool) (t x : Nat) (p : Option Go.Addr) (m f : Nat) (q : Option Go.Addr) (r g : Nat) (X : Go.AI.Regs → Go.AI.AS → Prop) (σ : Go.AI.AS)
  (K : Go.Value → Go.AI.AS → Prop),
  Go.AI.jn Go.Proofs.Try.prog Go.AI.hintsS T (6 : Nat)
  [Bool.true, Bool.true, Bool.true, Bool.true, Bool.true, Bool.true, Bool.true, Bool.true, Bool.true, Bool.true, Bool.false, Bool.true, Bool.false, Bool.false, Bool.true, Bool.false, Bool.false, Bool.true] [X] K
  [((11 : Nat), Option.some (Go.Value.pointer (Option.some (Go.Addr.mk t (0 : Nat) Option.none)))), ((12 : Nat), Option.some (Go.Value.pointer (Option.some (Go.Addr.mk x (0 : Nat) Option.none)))),
  ((13 : Nat), Option.some (Go.Value.int Go.IntKind.i64 win)), ((14 : Nat), Option.some (Go.Value.slice p m f)), ((15 : Nat), Option.some (Go.Value.slice q r g)),
  ((16 : Nat), Option.some (Go.Value.int Go.IntKind.i64 er)), ((17 : Nat), Option.some (Go.Value.int Go.IntKind.i64 n)), ((18 : Nat), Option.some (Go.Value.int Go.IntKind.i64 i)),
  ((19 : Nat), Option.some (Go.Value.bool out))]
  σ =
  Go.AI.req ((0 : Int) ≤ i)
  (Go.AI.req (i < (↑m : Int))
  (Go.AI.pSome p fun (a0 : Go.Addr) ↦
  Go.AI.req (f = Go.AI.szOf Go.Proofs.Try.prog (3 : Nat))
  (Go.AI.ldc σ (Go.Addr.add a0 (Int.toNat i * Go.AI.szOf Go.Proofs.Try.prog (3 : Nat))) fun (v1 : Go.Value) ↦
  Go.AI.tI Go.IntKind.i64 v1 fun (n2 : Int) ↦
  T (25 : Nat) [Go.Value.pointer (Option.some (Go.Addr.mk x (0 : Nat) Option.none)), Go.Value.int Go.IntKind.i64 n2, Go.Value.int Go.IntKind.i64 win] σ fun (v3 : Go.Value) (σ4 : Go.AI.AS) ↦
  Go.AI.tB v3 fun (b5 : Bool) ↦
  Go.AI.bmatch b5
  (Go.AI.bmatch (!out == Bool.true) (K (Go.Value.bool Bool.false) σ4)
  (Go.AI.req ((0 : Int) ≤ i)
  (Go.AI.req (i < (↑m : Int))
  (Go.AI.pSome p fun (a6 : Go.Addr) ↦
  Go.AI.req (f = Go.AI.szOf Go.Proofs.Try.prog (3 : Nat))
  (Go.AI.ldc σ4 (Go.Addr.add a6 (Int.toNat i * Go.AI.szOf Go.Proofs.Try.prog (3 : Nat))) fun (v7 : Go.Value) ↦
  Go.AI.tI Go.IntKind.i64 v7 fun (n8 : Int) ↦
  T (18 : Nat) [Go.Value.pointer (Option.some (Go.Addr.mk t (0 : Nat) Option.none)), Go.Value.int Go.IntKind.i64 n8] σ4 fun (v9 : Go.Value) (σ10 : Go.AI.AS) ↦
  Go.AI.tI Go.IntKind.i64 v9 fun (n11 : Int) ↦
  Go.AI.bmatch (!out == (n11 == (0 : Int))) (K (Go.Value.bool Bool.false) σ10)
  (Go.AI.req ((0 : Int) ≤ i)
  (Go.AI.req (i < (↑m : Int))
  (Go.AI.pSome p fun (a12 : Go.Addr) ↦
  Go.AI.req (f = Go.AI.szOf Go.Proofs.Try.prog (3 : Nat))
  (Go.AI.ldc σ10 (Go.Addr.add a12 (Int.toNat i * Go.AI.szOf Go.Proofs.Try.prog (3 : Nat))) fun (v13 : Go.Value) ↦
  Go.AI.tI Go.IntKind.i64 v13 fun (n14 : Int) ↦
  T (30 : Nat) [Go.Value.pointer (Option.some (Go.Addr.mk t (0 : Nat) Option.none)), Go.Value.int Go.IntKind.i64 n14] σ10 fun (v15 : Go.Value) (σ16 : Go.AI.AS) ↦
  Go.AI.tTup v15 fun (l17 : List Go.Value) ↦
  Go.AI.pSome l17[(0 : Nat)]? fun (u18 : Go.Value) ↦
  Go.AI.tI Go.IntKind.i64 u18 fun (n19 : Int) ↦
  Go.AI.tTup v15 fun (l20 : List Go.Value) ↦
  Go.AI.pSome l20[(1 : Nat)]? fun (u21 : Go.Value) ↦
  Go.AI.tI Go.IntKind.u32 u21 fun (n22 : Int) ↦
  Go.AI.tTup v15 fun (l23 : List Go.Value) ↦
  Go.AI.pSome l23[(2 : Nat)]? fun (u24 : Go.Value) ↦
  Go.AI.tI Go.IntKind.i64 u24 fun (n25 : Int) ↦
  Go.AI.tTup v15 fun (l26 : List Go.Value) ↦
  Go.AI.pSome l26[(3 : Nat)]? fun (u27 : Go.Value) ↦
  Go.AI.tI Go.IntKind.i64 u27 fun (n28 : Int) ↦
  T (23 : Nat) [Go.Value.int Go.IntKind.i64 n28] σ16 fun (v29 : Go.Value) (σ30 : Go.AI.AS) ↦
  Go.AI.tI Go.IntKind.i64 v29 fun (n31 : Int) ↦
  Go.AI.bmatch (n31 == (0 : Int))
  (Go.AI.bmatch (n25 != (0 : Int))
  (T (18 : Nat) [Go.Value.pointer (Option.some (Go.Addr.mk t (0 : Nat) Option.none)), Go.Value.int Go.IntKind.i64 n25] σ30
  fun (v32 : Go.Value) (σ33 : Go.AI.AS) ↦
  Go.AI.tI Go.IntKind.i64 v32 fun (n34 : Int) ↦
  Go.AI.bmatch (n34 == (0 : Int)) (K (Go.Value.bool Bool.false) σ33)
  (X
  [((11 : Nat), Option.some (Go.Value.pointer (Option.some (Go.Addr.mk t (0 : Nat) Option.none)))),
  ((12 : Nat), Option.some (Go.Value.pointer (Option.some (Go.Addr.mk x (0 : Nat) Option.none)))),
  ((13 : Nat), Option.some (Go.Value.int Go.IntKind.i64 win)), ((14 : Nat), Option.some (Go.Value.slice p m f)),
  ((15 : Nat), Option.some (Go.Value.slice q r g)), ((16 : Nat), Option.some (Go.Value.int Go.IntKind.i64 er)),
  ((17 : Nat), Option.some (Go.Value.int Go.IntKind.i64 n)),
  ((18 : Nat), Option.some (Go.Value.int Go.IntKind.i64 (Go.IntKind.wrap Go.IntKind.i64 (i + (1 : Int)))))]
  σ33))
  (X
  [((11 : Nat), Option.some (Go.Value.pointer (Option.some (Go.Addr.mk t (0 : Nat) Option.none)))),
  ((12 : Nat), Option.some (Go.Value.pointer (Option.some (Go.Addr.mk x (0 : Nat) Option.none)))),
  ((13 : Nat), Option.some (Go.Value.int Go.IntKind.i64 win)), ((14 : Nat), Option.some (Go.Value.slice p m f)),
  ((15 : Nat), Option.some (Go.Value.slice q r g)), ((16 : Nat), Option.some (Go.Value.int Go.IntKind.i64 er)),
  ((17 : Nat), Option.some (Go.Value.int Go.IntKind.i64 n)),
  ((18 : Nat), Option.some (Go.Value.int Go.IntKind.i64 (Go.IntKind.wrap Go.IntKind.i64 (i + (1 : Int)))))]
  σ30))
  (X
  [((11 : Nat), Option.some (Go.Value.pointer (Option.some (Go.Addr.mk t (0 : Nat) Option.none)))),
  ((12 : Nat), Option.some (Go.Value.pointer (Option.some (Go.Addr.mk x (0 : Nat) Option.none)))),
  ((13 : Nat), Option.some (Go.Value.int Go.IntKind.i64 win)), ((14 : Nat), Option.some (Go.Value.slice p m f)),
  ((15 : Nat), Option.some (Go.Value.slice q r g)), ((16 : Nat), Option.some (Go.Value.int Go.IntKind.i64 er)),
  ((17 : Nat), Option.some (Go.Value.int Go.IntKind.i64 n)),
  ((18 : Nat), Option.some (Go.Value.int Go.IntKind.i64 (Go.IntKind.wrap Go.IntKind.i64 (i + (1 : Int)))))]
  σ30))))))))))
  (Go.AI.req ((0 : Int) ≤ i)
  (Go.AI.req (i < (↑m : Int))
  (Go.AI.pSome p fun (a35 : Go.Addr) ↦
  Go.AI.req (f = Go.AI.szOf Go.Proofs.Try.prog (3 : Nat))
  (Go.AI.ldc σ4 (Go.Addr.add a35 (Int.toNat i * Go.AI.szOf Go.Proofs.Try.prog (3 : Nat))) fun (v36 : Go.Value) ↦
  Go.AI.tI Go.IntKind.i64 v36 fun (n37 : Int) ↦
  T (29 : Nat) [Go.Value.pointer (Option.some (Go.Addr.mk x (0 : Nat) Option.none)), Go.Value.int Go.IntKind.i64 win] σ4 fun (v38 : Go.Value) (σ39 : Go.AI.AS) ↦
  Go.AI.tAgg v38 fun (l40 : List Go.Value) ↦
  Go.AI.tCons l40 fun (v41 : Go.Value) (l42 : List Go.Value) ↦
  Go.AI.tI Go.IntKind.i64 v41 fun (n43 : Int) ↦
  Go.AI.tCons l42 fun (v44 : Go.Value) (l45 : List Go.Value) ↦
  Go.AI.tI Go.IntKind.i64 v44 fun (n46 : Int) ↦
  Go.AI.tCons l45 fun (v47 : Go.Value) (l48 : List Go.Value) ↦
  Go.AI.tI Go.IntKind.i64 v47 fun (n49 : Int) ↦
  Go.AI.tCons l48 fun (v50 : Go.Value) (l51 : List Go.Value) ↦
  Go.AI.tI Go.IntKind.i64 v50 fun (n52 : Int) ↦
  Go.AI.tCons l51 fun (v53 : Go.Value) (l54 : List Go.Value) ↦
  Go.AI.tI Go.IntKind.i64 v53 fun (n55 : Int) ↦
  Go.AI.tCons l54 fun (v56 : Go.Value) (l57 : List Go.Value) ↦
  Go.AI.tI Go.IntKind.i64 v56 fun (n58 : Int) ↦
  Go.AI.tCons l57 fun (v59 : Go.Value) (l60 : List Go.Value) ↦
  Go.AI.tI Go.IntKind.u32 v59 fun (n61 : Int) ↦
  Go.AI.tCons l60 fun (v62 : Go.Value) (l63 : List Go.Value) ↦
  Go.AI.tI Go.IntKind.i64 v62 fun (n64 : Int) ↦
  Go.AI.tNil l63
  (Go.AI.ldc σ39 (Go.Addr.add a35 (Int.toNat i * Go.AI.szOf Go.Proofs.Try.prog (3 : Nat))) fun (v65 : Go.Value) ↦
  Go.AI.tI Go.IntKind.i64 v65 fun (n66 : Int) ↦
  Go.Value.int Go.IntKind.i64 n37 = Go.Value.int Go.IntKind.i64 n66 ∧
  Go.AI.bmatch (!out == (n37 == n49)) (K (Go.Value.bool Bool.false) σ39)
  (Go.AI.req ((0 : Int) ≤ i)
  (Go.AI.req (i < (↑m : Int))
  (Go.AI.pSome p fun (a67 : Go.Addr) ↦
  Go.AI.req (f = Go.AI.szOf Go.Proofs.Try.prog (3 : Nat))
  (Go.AI.ldc σ39 (Go.Addr.add a67 (Int.toNat i * Go.AI.szOf Go.Proofs.Try.prog (3 : Nat))) fun (v68 : Go.Value) ↦
  Go.AI.tI Go.IntKind.i64 v68 fun (n69 : Int) ↦
  T (18 : Nat) [Go.Value.pointer (Option.some (Go.Addr.mk t (0 : Nat) Option.none)), Go.Value.int Go.IntKind.i64 n69] σ39
  fun (v70 : Go.Value) (σ71 : Go.AI.AS) ↦
  Go.AI.tI Go.IntKind.i64 v70 fun (n72 : Int) ↦
  Go.AI.bmatch (!out == (n72 == (0 : Int))) (K (Go.Value.bool Bool.false) σ71)
  (Go.AI.req ((0 : Int) ≤ i)
  (Go.AI.req (i < (↑m : Int))
  (Go.AI.pSome p fun (a73 : Go.Addr) ↦
  Go.AI.req (f = Go.AI.szOf Go.Proofs.Try.prog (3 : Nat))
  (Go.AI.ldc σ71 (Go.Addr.add a73 (Int.toNat i * Go.AI.szOf Go.Proofs.Try.prog (3 : Nat))) fun (v74 : Go.Value) ↦
  Go.AI.tI Go.IntKind.i64 v74 fun (n75 : Int) ↦
  T (30 : Nat)
  [Go.Value.pointer (Option.some (Go.Addr.mk t (0 : Nat) Option.none)), Go.Value.int Go.IntKind.i64 n75] σ71
  fun (v76 : Go.Value) (σ77 : Go.AI.AS) ↦
  Go.AI.tTup v76 fun (l78 : List Go.Value) ↦
  Go.AI.pSome l78[(0 : Nat)]? fun (u79 : Go.Value) ↦
  Go.AI.tI Go.IntKind.i64 u79 fun (n80 : Int) ↦
  Go.AI.tTup v76 fun (l81 : List Go.Value) ↦
  Go.AI.pSome l81[(1 : Nat)]? fun (u82 : Go.Value) ↦
  Go.AI.tI Go.IntKind.u32 u82 fun (n83 : Int) ↦
  Go.AI.tTup v76 fun (l84 : List Go.Value) ↦
  Go.AI.pSome l84[(2 : Nat)]? fun (u85 : Go.Value) ↦
  Go.AI.tI Go.IntKind.i64 u85 fun (n86 : Int) ↦
  Go.AI.tTup v76 fun (l87 : List Go.Value) ↦
  Go.AI.pSome l87[(3 : Nat)]? fun (u88 : Go.Value) ↦
  Go.AI.tI Go.IntKind.i64 u88 fun (n89 : Int) ↦
  T (23 : Nat) [Go.Value.int Go.IntKind.i64 n89] σ77
  fun (v90 : Go.Value) (σ91 : Go.AI.AS) ↦
  Go.AI.tI Go.IntKind.i64 v90 fun (n92 : Int) ↦
  Go.AI.bmatch (n92 == (0 : Int))
  (Go.AI.bmatch (n86 != (0 : Int))
  (T (18 : Nat)
  [Go.Value.pointer (Option.some (Go.Addr.mk t (0 : Nat) Option.none)),
  Go.Value.int Go.IntKind.i64 n86]
  σ91 fun (v93 : Go.Value) (σ94 : Go.AI.AS) ↦
  Go.AI.tI Go.IntKind.i64 v93 fun (n95 : Int) ↦
  Go.AI.bmatch (n95 == (0 : Int)) (K (Go.Value.bool Bool.false) σ94)
  (X
  [((11 : Nat),
  Option.some
  (Go.Value.pointer
  (Option.some (Go.Addr.mk t (0 : Nat) Option.none)))),
  ((12 : Nat),
  Option.some
  (Go.Value.pointer
  (Option.some (Go.Addr.mk x (0 : Nat) Option.none)))),
  ((13 : Nat), Option.some (Go.Value.int Go.IntKind.i64 win)),
  ((14 : Nat), Option.some (Go.Value.slice p m f)),
  ((15 : Nat), Option.some (Go.Value.slice q r g)),
  ((16 : Nat), Option.some (Go.Value.int Go.IntKind.i64 er)),
  ((17 : Nat), Option.some (Go.Value.int Go.IntKind.i64 n)),
  ((18 : Nat),
  Option.some
  (Go.Value.int Go.IntKind.i64
  (Go.IntKind.wrap Go.IntKind.i64 (i + (1 : Int)))))]
  σ94))
  (X
  [((11 : Nat),
  Option.some
  (Go.Value.pointer
  (Option.some (Go.Addr.mk t (0 : Nat) Option.none)))),
  ((12 : Nat),
  Option.some
  (Go.Value.pointer
  (Option.some (Go.Addr.mk x (0 : Nat) Option.none)))),
  ((13 : Nat), Option.some (Go.Value.int Go.IntKind.i64 win)),
  ((14 : Nat), Option.some (Go.Value.slice p m f)),
  ((15 : Nat), Option.some (Go.Value.slice q r g)),
  ((16 : Nat), Option.some (Go.Value.int Go.IntKind.i64 er)),
  ((17 : Nat), Option.some (Go.Value.int Go.IntKind.i64 n)),
  ((18 : Nat),
  Option.some
  (Go.Value.int Go.IntKind.i64
  (Go.IntKind.wrap Go.IntKind.i64 (i + (1 : Int)))))]
  σ91))
  (X
  [((11 : Nat),
  Option.some
  (Go.Value.pointer
  (Option.some (Go.Addr.mk t (0 : Nat) Option.none)))),
  ((12 : Nat),
  Option.some
  (Go.Value.pointer
  (Option.some (Go.Addr.mk x (0 : Nat) Option.none)))),
  ((13 : Nat), Option.some (Go.Value.int Go.IntKind.i64 win)),
  ((14 : Nat), Option.some (Go.Value.slice p m f)),
  ((15 : Nat), Option.some (Go.Value.slice q r g)),
  ((16 : Nat), Option.some (Go.Value.int Go.IntKind.i64 er)),
  ((17 : Nat), Option.some (Go.Value.int Go.IntKind.i64 n)),
  ((18 : Nat),
  Option.some
  (Go.Value.int Go.IntKind.i64
  (Go.IntKind.wrap Go.IntKind.i64 (i + (1 : Int)))))]
  σ91))))))))))))))))) := by
  intros
  kernel_rfl

theorem s7 : ∀ (T : Go.AI.Ct) (w h : Int) (l : Option Go.Addr) (n e : Nat) (σ : Go.AI.AS) (K : Go.Value → Go.AI.AS → Prop),
  Go.AI.fw Go.Proofs.Try.prog Go.AI.hintsS T (7 : Nat) [Go.Value.int Go.IntKind.i64 w, Go.Value.int Go.IntKind.i64 h, Go.Value.slice l n e] σ K =
  Go.AI.bmatch (Decidable.decide ((↑n : Int) > (80 : Int))) (T (13 : Nat) [] σ fun (v0 : Go.Value) (σ1 : Go.AI.AS) ↦ Go.AI.tB v0 fun (b2 : Bool) ↦ K (Go.Value.bool b2) σ1)
  (T (31 : Nat) [Go.Value.int Go.IntKind.i64 w, Go.Value.int Go.IntKind.i64 h] σ fun (v3 : Go.Value) (σ4 : Go.AI.AS) ↦
  Go.AI.tTup v3 fun (l5 : List Go.Value) ↦
  Go.AI.pSome l5[(0 : Nat)]? fun (u6 : Go.Value) ↦
  Go.AI.tP u6 fun (b7 : Option Go.Addr) ↦
  Go.AI.tTup v3 fun (l8 : List Go.Value) ↦
  Go.AI.pSome l8[(1 : Nat)]? fun (u9 : Go.Value) ↦
  Go.AI.tI Go.IntKind.i64 u9 fun (n10 : Int) ↦
  T (32 : Nat) [Go.Value.int Go.IntKind.i64 w, Go.Value.int Go.IntKind.i64 h] σ4 fun (v11 : Go.Value) (σ12 : Go.AI.AS) ↦
  Go.AI.tTup v11 fun (l13 : List Go.Value) ↦
  Go.AI.pSome l13[(0 : Nat)]? fun (u14 : Go.Value) ↦
  Go.AI.tP u14 fun (b15 : Option Go.Addr) ↦
  Go.AI.tTup v11 fun (l16 : List Go.Value) ↦
  Go.AI.pSome l16[(1 : Nat)]? fun (u17 : Go.Value) ↦
  Go.AI.tI Go.IntKind.i64 u17 fun (n18 : Int) ↦
  T (23 : Nat) [Go.Value.int Go.IntKind.i64 n10] σ12 fun (v19 : Go.Value) (σ20 : Go.AI.AS) ↦
  Go.AI.tI Go.IntKind.i64 v19 fun (n21 : Int) ↦
  Go.AI.bmatch (n21 != n18) (K (Go.Value.bool Bool.false) σ20)
  (Go.AI.ptrEq σ20 b7 Option.none fun (r22 : Bool) ↦
  Go.AI.bmatch (!r22 == (n18 != (0 : Int))) (K (Go.Value.bool Bool.false) σ20)
  (Go.AI.bmatch (n18 != (0 : Int)) (T (13 : Nat) [] σ20 fun (v23 : Go.Value) (σ24 : Go.AI.AS) ↦ Go.AI.tB v23 fun (b25 : Bool) ↦ K (Go.Value.bool b25) σ24)
  (Go.AI.ALoop
  (Go.AI.fl Go.Proofs.Try.prog Go.AI.hintsS T (7 : Nat) [Bool.true, Bool.true, Bool.true, Bool.true, Bool.true, Bool.true, Bool.false, Bool.true, Bool.false] [] K)
  [((2 : Nat), Option.some (Go.Value.slice l n e)), ((7 : Nat), Option.some (Go.Value.pointer b7)), ((9 : Nat), Option.some (Go.Value.pointer b15)),
  ((11 : Nat), Option.some (Go.Value.int Go.IntKind.i64 (0 : Int)))]
  σ20)))) := by
  intros
  kernel_rfl

theorem s7l : ∀ (T : Go.AI.Ct) (i : Int) (t x : Nat) (l : Option Go.Addr) (n e : Nat) (X : Go.AI.Regs → Go.AI.AS → Prop) (σ : Go.AI.AS) (K : Go.Value → Go.AI.AS → Prop),
  Go.AI.fl Go.Proofs.Try.prog Go.AI.hintsS T (7 : Nat) [Bool.true, Bool.true, Bool.true, Bool.true, Bool.true, Bool.true, Bool.false, Bool.true, Bool.false] [] K X
  [((2 : Nat), Option.some (Go.Value.slice l n e)), ((7 : Nat), Option.some (Go.Value.pointer (Option.some (Go.Addr.mk t (0 : Nat) Option.none)))),
  ((9 : Nat), Option.some (Go.Value.pointer (Option.some (Go.Addr.mk x (0 : Nat) Option.none)))), ((11 : Nat), Option.some (Go.Value.int Go.IntKind.i64 i))]
  σ =
  Go.AI.bmatch (Decidable.decide (i < (↑n : Int)))
  (Go.AI.req ((0 : Int) ≤ i)
  (Go.AI.req (i < (↑n : Int))
  (Go.AI.pSome l fun (a0 : Go.Addr) ↦
  Go.AI.req (e = Go.AI.szOf Go.Proofs.Try.prog (26 : Nat))
  (Go.AI.lds σ (Go.Addr.add a0 (Int.toNat i * Go.AI.szOf Go.Proofs.Try.prog (26 : Nat))) (6 : Nat) fun (l1 : List Go.Value) ↦
  Go.AI.tCons l1 fun (v2 : Go.Value) (l3 : List Go.Value) ↦
  Go.AI.tI Go.IntKind.i64 v2 fun (n4 : Int) ↦
  Go.AI.tCons l3 fun (v5 : Go.Value) (l6 : List Go.Value) ↦
  Go.AI.tI Go.IntKind.i64 v5 fun (n7 : Int) ↦
  Go.AI.tCons l6 fun (v8 : Go.Value) (l9 : List Go.Value) ↦
  Go.AI.tI Go.IntKind.i64 v8 fun (n10 : Int) ↦
  Go.AI.tCons l9 fun (v11 : Go.Value) (l12 : List Go.Value) ↦
  Go.AI.tI Go.IntKind.i64 v11 fun (n13 : Int) ↦
  Go.AI.tCons l12 fun (v14 : Go.Value) (l15 : List Go.Value) ↦
  Go.AI.tI Go.IntKind.u32 v14 fun (n16 : Int) ↦
  Go.AI.tCons l15 fun (v17 : Go.Value) (l18 : List Go.Value) ↦
  Go.AI.tB v17 fun (b19 : Bool) ↦
  Go.AI.tNil l18
  (T (33 : Nat)
  [Go.Value.pointer (Option.some (Go.Addr.mk t (0 : Nat) Option.none)), Go.Value.pointer (Option.some (Go.Addr.mk x (0 : Nat) Option.none)),
  Go.Value.agg
  (Array.mk
  [Go.Value.int Go.IntKind.i64 n4, Go.Value.int Go.IntKind.i64 n7, Go.Value.int Go.IntKind.i64 n10, Go.Value.int Go.IntKind.i64 n13, Go.Value.int Go.IntKind.u32 n16,
  Go.Value.bool b19])]
  σ fun (v20 : Go.Value) (σ21 : Go.AI.AS) ↦
  Go.AI.tB v20 fun (b22 : Bool) ↦
  Go.AI.bmatch (!b22) (K (Go.Value.bool Bool.false) σ21)
  (T (34 : Nat) [Go.Value.pointer (Option.some (Go.Addr.mk t (0 : Nat) Option.none)), Go.Value.pointer (Option.some (Go.Addr.mk x (0 : Nat) Option.none))] σ21
  fun (v23 : Go.Value) (σ24 : Go.AI.AS) ↦
  Go.AI.tB v23 fun (b25 : Bool) ↦
  Go.AI.bmatch (!b25) (K (Go.Value.bool Bool.false) σ24)
  (T (16 : Nat) [Go.Value.pointer (Option.some (Go.Addr.mk t (0 : Nat) Option.none))] σ24 fun (v26 : Go.Value) (σ27 : Go.AI.AS) ↦
  Go.AI.tL (1 : Nat) v26 fun (s28 : Go.AI.Sl) ↦
  Go.AI.ALoop
  (Go.AI.fl Go.Proofs.Try.prog Go.AI.hintsS T (7 : Nat)
  [Bool.true, Bool.true, Bool.true, Bool.true, Bool.true, Bool.true, Bool.false, Bool.true, Bool.false, Bool.false, Bool.true, Bool.false, Bool.false,
  Bool.true, Bool.true, Bool.true, Bool.false]
  [X] K)
  [((2 : Nat), Option.some (Go.Value.slice l n e)), ((7 : Nat), Option.some (Go.Value.pointer (Option.some (Go.Addr.mk t (0 : Nat) Option.none)))),
  ((9 : Nat), Option.some (Go.Value.pointer (Option.some (Go.Addr.mk x (0 : Nat) Option.none)))), ((11 : Nat), Option.some (Go.Value.int Go.IntKind.i64 i)),
  ((12 : Nat), Option.some (Go.Value.slice (Go.AI.Sl.a s28) (Go.AI.Sl.n s28) (1 : Nat))), ((13 : Nat), Option.some (Go.Value.int Go.IntKind.i64 (0 : Int)))]
  σ27)))))))
  (T (34 : Nat) [Go.Value.pointer (Option.some (Go.Addr.mk t (0 : Nat) Option.none)), Go.Value.pointer (Option.some (Go.Addr.mk x (0 : Nat) Option.none))] σ fun (v29 : Go.Value) (σ30 : Go.AI.AS) ↦
  Go.AI.tB v29 fun (b31 : Bool) ↦ Go.AI.bmatch b31 (T (13 : Nat) [] σ30 fun (v32 : Go.Value) (σ33 : Go.AI.AS) ↦ Go.AI.tB v32 fun (b34 : Bool) ↦ K (Go.Value.bool b34) σ33) (K (Go.Value.bool Bool.false) σ30)) := by
  intros
  kernel_rfl

theorem s7k : ∀ (T : Go.AI.Ct) (i k : Int) (t x : Nat) (l : Option Go.Addr) (n e : Nat) (v : Option Go.Addr) (m f : Nat) (X Y : Go.AI.Regs → Go.AI.AS → Prop) (σ : Go.AI.AS)
  (K : Go.Value → Go.AI.AS → Prop),
  Go.AI.fl Go.Proofs.Try.prog Go.AI.hintsS T (7 : Nat)
  [Bool.true, Bool.true, Bool.true, Bool.true, Bool.true, Bool.true, Bool.false, Bool.true, Bool.false, Bool.false, Bool.true, Bool.false, Bool.false, Bool.true, Bool.true, Bool.true, Bool.false] [X] K Y
  [((2 : Nat), Option.some (Go.Value.slice l n e)), ((7 : Nat), Option.some (Go.Value.pointer (Option.some (Go.Addr.mk t (0 : Nat) Option.none)))),
  ((9 : Nat), Option.some (Go.Value.pointer (Option.some (Go.Addr.mk x (0 : Nat) Option.none)))), ((11 : Nat), Option.some (Go.Value.int Go.IntKind.i64 i)),
  ((12 : Nat), Option.some (Go.Value.slice v m f)), ((13 : Nat), Option.some (Go.Value.int Go.IntKind.i64 k))]
  σ =
  Go.AI.bmatch (Decidable.decide (k < (↑m : Int)))
  (Go.AI.req ((0 : Int) ≤ k)
  (Go.AI.req (k < (↑m : Int))
  (Go.AI.pSome v fun (a0 : Go.Addr) ↦
  Go.AI.req (f = Go.AI.szOf Go.Proofs.Try.prog (3 : Nat))
  (Go.AI.put1 σ (Go.Addr.add a0 (Int.toNat k * Go.AI.szOf Go.Proofs.Try.prog (3 : Nat))) (Go.Value.int Go.IntKind.i64 (-7 : Int)) fun (σ1 : Go.AI.AS) ↦
  Y
  [((2 : Nat), Option.some (Go.Value.slice l n e)), ((7 : Nat), Option.some (Go.Value.pointer (Option.some (Go.Addr.mk t (0 : Nat) Option.none)))),
  ((9 : Nat), Option.some (Go.Value.pointer (Option.some (Go.Addr.mk x (0 : Nat) Option.none)))), ((11 : Nat), Option.some (Go.Value.int Go.IntKind.i64 i)),
  ((12 : Nat), Option.some (Go.Value.slice v m f)), ((13 : Nat), Option.some (Go.Value.int Go.IntKind.i64 (Go.IntKind.wrap Go.IntKind.i64 (k + (1 : Int)))))]
  σ1))))
  (X
  [((2 : Nat), Option.some (Go.Value.slice l n e)), ((7 : Nat), Option.some (Go.Value.pointer (Option.some (Go.Addr.mk t (0 : Nat) Option.none)))),
  ((9 : Nat), Option.some (Go.Value.pointer (Option.some (Go.Addr.mk x (0 : Nat) Option.none)))), ((11 : Nat), Option.some (Go.Value.int Go.IntKind.i64 (Go.IntKind.wrap Go.IntKind.i64 (i + (1 : Int)))))]
  σ) := by
  intros
  kernel_rfl

theorem s8 : ∀ (T : Go.AI.Ct) (a b : Int) (l : Option Go.Addr) (n e : Nat) (K0_1 A0_1 B0_1 C0_1 Z0_1 : Int) (N0_1 : Bool) (σ : Go.AI.AS) (K : Go.Value → Go.AI.AS → Prop),
  Go.AI.fw Go.Proofs.Try.prog Go.AI.hintsS T (8 : Nat)
  [Go.Value.int Go.IntKind.u8 a, Go.Value.int Go.IntKind.u8 b, Go.Value.slice l n e,
  Go.Value.agg
  (Array.mk [Go.Value.int Go.IntKind.i64 K0_1, Go.Value.int Go.IntKind.i64 A0_1, Go.Value.int Go.IntKind.i64 B0_1, Go.Value.int Go.IntKind.i64 C0_1, Go.Value.int Go.IntKind.u32 Z0_1, Go.Value.bool N0_1])]
  σ K =
  Go.AI.newAt σ
  (Go.AI.AObj.row Go.AI.RK.plain
  [Go.Value.int Go.IntKind.i64 K0_1, Go.Value.int Go.IntKind.i64 A0_1, Go.Value.int Go.IntKind.i64 B0_1, Go.Value.int Go.IntKind.i64 C0_1, Go.Value.int Go.IntKind.u32 Z0_1, Go.Value.bool N0_1])
  fun (i0 : Nat) (σ1 : Go.AI.AS) ↦
  Go.AI.bmatch (Decidable.decide ((↑n : Int) > (80 : Int))) (T (13 : Nat) [] σ1 fun (v2 : Go.Value) (σ3 : Go.AI.AS) ↦ Go.AI.tB v2 fun (b4 : Bool) ↦ K (Go.Value.bool b4) σ3)
  (T (14 : Nat) [Go.Value.int Go.IntKind.u8 a, Go.Value.int Go.IntKind.u8 b] σ1 fun (v5 : Go.Value) (σ6 : Go.AI.AS) ↦
  Go.AI.tTup v5 fun (l7 : List Go.Value) ↦
  Go.AI.pSome l7[(0 : Nat)]? fun (u8 : Go.Value) ↦
  Go.AI.tI Go.IntKind.i64 u8 fun (n9 : Int) ↦
  Go.AI.tTup v5 fun (l10 : List Go.Value) ↦
  Go.AI.pSome l10[(1 : Nat)]? fun (u11 : Go.Value) ↦
  Go.AI.tI Go.IntKind.i64 u11 fun (n12 : Int) ↦
  T (15 : Nat) [Go.Value.int Go.IntKind.i64 n9, Go.Value.int Go.IntKind.i64 n12, Go.Value.slice l n e] σ6 fun (v13 : Go.Value) (σ14 : Go.AI.AS) ↦
  Go.AI.tTup v13 fun (l15 : List Go.Value) ↦
  Go.AI.pSome l15[(0 : Nat)]? fun (u16 : Go.Value) ↦
  Go.AI.tP u16 fun (b17 : Option Go.Addr) ↦
  Go.AI.tTup v13 fun (l18 : List Go.Value) ↦
  Go.AI.pSome l18[(1 : Nat)]? fun (u19 : Go.Value) ↦
  Go.AI.tP u19 fun (b20 : Option Go.Addr) ↦
  Go.AI.ptrEq σ14 b17 Option.none fun (r21 : Bool) ↦
  Go.AI.bmatch r21 (K (Go.Value.bool Bool.false) σ14)
  (Go.AI.ldc σ14 (Go.Addr.mk i0 ((0 : Nat) + (1 : Nat)) Option.none) fun (v22 : Go.Value) ↦
  Go.AI.tI Go.IntKind.i64 v22 fun (n23 : Int) ↦
  T (21 : Nat) [Go.Value.pointer b20, Go.Value.int Go.IntKind.i64 n23] σ14 fun (v24 : Go.Value) (σ25 : Go.AI.AS) ↦
  Go.AI.tI Go.IntKind.i64 v24 fun (n26 : Int) ↦
  Go.AI.ldc σ25 (Go.Addr.mk i0 ((0 : Nat) + (2 : Nat)) Option.none) fun (v27 : Go.Value) ↦
  Go.AI.tI Go.IntKind.i64 v27 fun (n28 : Int) ↦
  Go.AI.ldc σ25 (Go.Addr.mk i0 ((0 : Nat) + (4 : Nat)) Option.none) fun (v29 : Go.Value) ↦
  Go.AI.tI Go.IntKind.u32 v29 fun (n30 : Int) ↦
  Go.AI.ldc σ25 (Go.Addr.mk i0 ((0 : Nat) + (3 : Nat)) Option.none) fun (v31 : Go.Value) ↦
  Go.AI.tI Go.IntKind.i64 v31 fun (n32 : Int) ↦
  T (22 : Nat)
  [Go.Value.pointer b17, Go.Value.int Go.IntKind.i64 n26, Go.Value.int Go.IntKind.i64 n28, Go.Value.int Go.IntKind.u32 n30, Go.Value.int Go.IntKind.i64 n32] σ25
  fun (v33 : Go.Value) (σ34 : Go.AI.AS) ↦
  Go.AI.tTup v33 fun (l35 : List Go.Value) ↦
  Go.AI.pSome l35[(0 : Nat)]? fun (u36 : Go.Value) ↦
  Go.AI.tI Go.IntKind.i64 u36 fun (n37 : Int) ↦
  Go.AI.tTup v33 fun (l38 : List Go.Value) ↦
  Go.AI.pSome l38[(1 : Nat)]? fun (u39 : Go.Value) ↦
  Go.AI.tI Go.IntKind.i64 u39 fun (n40 : Int) ↦
  T (23 : Nat) [Go.Value.int Go.IntKind.i64 n40] σ34 fun (v41 : Go.Value) (σ42 : Go.AI.AS) ↦
  Go.AI.tI Go.IntKind.i64 v41 fun (n43 : Int) ↦
  Go.AI.bmatch (n43 != (0 : Int))
  (Go.AI.bmatch (n37 == (0 : Int))
  (T (13 : Nat) [] σ42 fun (v44 : Go.Value) (σ45 : Go.AI.AS) ↦ Go.AI.tB v44 fun (b46 : Bool) ↦ K (Go.Value.bool b46) σ45)
  (K (Go.Value.bool Bool.false) σ42))
  (Go.AI.ldc σ42 (Go.Addr.mk i0 ((0 : Nat) + (3 : Nat)) Option.none) fun (v47 : Go.Value) ↦
  Go.AI.tI Go.IntKind.i64 v47 fun (n48 : Int) ↦
  T (18 : Nat) [Go.Value.pointer b17, Go.Value.int Go.IntKind.i64 n37] σ42 fun (v49 : Go.Value) (σ50 : Go.AI.AS) ↦
  Go.AI.tI Go.IntKind.i64 v49 fun (n51 : Int) ↦
  Go.AI.ldc σ50 (Go.Addr.mk i0 ((0 : Nat) + (3 : Nat)) Option.none) fun (v52 : Go.Value) ↦
  Go.AI.tI Go.IntKind.i64 v52 fun (n53 : Int) ↦
  Go.Value.int Go.IntKind.i64 n48 = Go.Value.int Go.IntKind.i64 n53 ∧
  Go.AI.bmatch (n51 != n48) (K (Go.Value.bool Bool.false) σ50)
  (T (28 : Nat) [Go.Value.pointer b17, Go.Value.int Go.IntKind.i64 n37] σ50 fun (v54 : Go.Value) (σ55 : Go.AI.AS) ↦
  Go.AI.tTup v54 fun (l56 : List Go.Value) ↦
  Go.AI.pSome l56[(0 : Nat)]? fun (u57 : Go.Value) ↦
  Go.AI.tL (1 : Nat) u57 fun (s58 : Go.AI.Sl) ↦
  Go.AI.tTup v54 fun (l59 : List Go.Value) ↦
  Go.AI.pSome l59[(1 : Nat)]? fun (u60 : Go.Value) ↦
  Go.AI.tI Go.IntKind.i64 u60 fun (n61 : Int) ↦
  Go.AI.newAt σ55
  (Go.AI.AObj.row Go.AI.RK.rw
  [Go.Value.int Go.IntKind.i64 n37,
  Go.Value.int Go.IntKind.i64 (Go.IntKind.wrap Go.IntKind.i64 (n37 + (1 : Int)))])
  fun (i62 : Nat) (σ63 : Go.AI.AS) ↦
  Go.AI.bmatch (n26 == (0 : Int))
  (Go.AI.newAt σ63 (Go.AI.AObj.row Go.AI.RK.rw [Go.Value.int Go.IntKind.i64 n37])
  fun (i64 : Nat) (σ65 : Go.AI.AS) ↦
  Go.AI.JoinS
  (Go.AI.jn Go.Proofs.Try.prog Go.AI.hintsS T (8 : Nat)
  [Bool.true, Bool.true, Bool.true, Bool.true, Bool.true, Bool.true, Bool.true, Bool.true, Bool.true,
  Bool.true, Bool.true]
  [] K)
  [((11 : Nat), Option.some (Go.Value.pointer b17)), ((12 : Nat), Option.some (Go.Value.pointer b20)),
  ((14 : Nat), Option.some (Go.Value.int Go.IntKind.i64 n37)),
  ((16 : Nat), Option.some (Go.Value.slice (Go.AI.Sl.a s58) (Go.AI.Sl.n s58) (1 : Nat))),
  ((17 : Nat), Option.some (Go.Value.int Go.IntKind.i64 n61)),
  ((18 : Nat),
  Option.some
  (Go.Value.slice (Option.some (Go.Addr.mk i64 (0 : Nat) Option.none)) (1 : Nat) (1 : Nat)))]
  σ65)
  (Go.AI.JoinS
  (Go.AI.jn Go.Proofs.Try.prog Go.AI.hintsS T (8 : Nat)
  [Bool.true, Bool.true, Bool.true, Bool.true, Bool.true, Bool.true, Bool.true, Bool.true, Bool.true,
  Bool.true, Bool.true]
  [] K)
  [((11 : Nat), Option.some (Go.Value.pointer b17)), ((12 : Nat), Option.some (Go.Value.pointer b20)),
  ((14 : Nat), Option.some (Go.Value.int Go.IntKind.i64 n37)),
  ((16 : Nat), Option.some (Go.Value.slice (Go.AI.Sl.a s58) (Go.AI.Sl.n s58) (1 : Nat))),
  ((17 : Nat), Option.some (Go.Value.int Go.IntKind.i64 n61)),
  ((18 : Nat),
  Option.some
  (Go.Value.slice (Option.some (Go.Addr.mk i62 (0 : Nat) Option.none)) (2 : Nat) (1 : Nat)))]
  σ63))))) := by
  intros
  kernel_rfl

theorem s8j : ∀ (T : Go.AI.Ct) (win f : Int) (t x : Nat) (p : Option Go.Addr) (m g : Nat) (q : Option Go.Addr) (r h : Nat) (σ : Go.AI.AS) (K : Go.Value → Go.AI.AS → Prop),
  Go.AI.jn Go.Proofs.Try.prog Go.AI.hintsS T (8 : Nat) [Bool.true, Bool.true, Bool.true, Bool.true, Bool.true, Bool.true, Bool.true, Bool.true, Bool.true, Bool.true, Bool.true] [] K
  [((11 : Nat), Option.some (Go.Value.pointer (Option.some (Go.Addr.mk t (0 : Nat) Option.none)))), ((12 : Nat), Option.some (Go.Value.pointer (Option.some (Go.Addr.mk x (0 : Nat) Option.none)))),
  ((14 : Nat), Option.some (Go.Value.int Go.IntKind.i64 win)), ((16 : Nat), Option.some (Go.Value.slice p m g)), ((17 : Nat), Option.some (Go.Value.int Go.IntKind.i64 f)),
  ((18 : Nat), Option.some (Go.Value.slice q r h))]
  σ =
  T (23 : Nat) [Go.Value.int Go.IntKind.i64 f] σ fun (v0 : Go.Value) (σ1 : Go.AI.AS) ↦
  Go.AI.tI Go.IntKind.i64 v0 fun (n2 : Int) ↦
  Go.AI.bmatch (n2 != (0 : Int)) (K (Go.Value.bool Bool.false) σ1)
  (T (35 : Nat) [Go.Value.slice p m g, Go.Value.slice q r h] σ1 fun (v3 : Go.Value) (σ4 : Go.AI.AS) ↦
  Go.AI.tB v3 fun (b5 : Bool) ↦
  Go.AI.bmatch (!b5) (K (Go.Value.bool Bool.false) σ4)
  (Go.AI.put1 σ4 (Go.Addr.mk x ((0 : Nat) + (3 : Nat)) Option.none) (Go.Value.int Go.IntKind.i64 (Go.IntKind.wrap Go.IntKind.i64 (win + (1 : Int)))) fun (σ6 : Go.AI.AS) ↦
  T (34 : Nat) [Go.Value.pointer (Option.some (Go.Addr.mk t (0 : Nat) Option.none)), Go.Value.pointer (Option.some (Go.Addr.mk x (0 : Nat) Option.none))] σ6 fun (v7 : Go.Value) (σ8 : Go.AI.AS) ↦
  Go.AI.tB v7 fun (b9 : Bool) ↦
  Go.AI.bmatch b9 (T (13 : Nat) [] σ8 fun (v10 : Go.Value) (σ11 : Go.AI.AS) ↦ Go.AI.tB v10 fun (b12 : Bool) ↦ K (Go.Value.bool b12) σ11) (K (Go.Value.bool Bool.false) σ8))) := by
  intros
  kernel_rfl

theorem s9 : ∀ (T : Go.AI.Ct) (a b : Int) (l : Option Go.Addr) (n e : Nat) (K0_1 A0_1 B0_1 C0_1 Z0_1 : Int) (N0_1 : Bool) (σ : Go.AI.AS) (K : Go.Value → Go.AI.AS → Prop),
  Go.AI.fw Go.Proofs.Try.prog Go.AI.hintsS T (9 : Nat)
  [Go.Value.int Go.IntKind.u8 a, Go.Value.int Go.IntKind.u8 b, Go.Value.slice l n e,
  Go.Value.agg
  (Array.mk [Go.Value.int Go.IntKind.i64 K0_1, Go.Value.int Go.IntKind.i64 A0_1, Go.Value.int Go.IntKind.i64 B0_1, Go.Value.int Go.IntKind.i64 C0_1, Go.Value.int Go.IntKind.u32 Z0_1, Go.Value.bool N0_1])]
  σ K =
  Go.AI.newAt σ
  (Go.AI.AObj.row Go.AI.RK.plain
  [Go.Value.int Go.IntKind.i64 K0_1, Go.Value.int Go.IntKind.i64 A0_1, Go.Value.int Go.IntKind.i64 B0_1, Go.Value.int Go.IntKind.i64 C0_1, Go.Value.int Go.IntKind.u32 Z0_1, Go.Value.bool N0_1])
  fun (i0 : Nat) (σ1 : Go.AI.AS) ↦
  Go.AI.bmatch (Decidable.decide ((↑n : Int) > (80 : Int))) (T (13 : Nat) [] σ1 fun (v2 : Go.Value) (σ3 : Go.AI.AS) ↦ Go.AI.tB v2 fun (b4 : Bool) ↦ K (Go.Value.bool b4) σ3)
  (T (14 : Nat) [Go.Value.int Go.IntKind.u8 a, Go.Value.int Go.IntKind.u8 b] σ1 fun (v5 : Go.Value) (σ6 : Go.AI.AS) ↦
  Go.AI.tTup v5 fun (l7 : List Go.Value) ↦
  Go.AI.pSome l7[(0 : Nat)]? fun (u8 : Go.Value) ↦
  Go.AI.tI Go.IntKind.i64 u8 fun (n9 : Int) ↦
  Go.AI.tTup v5 fun (l10 : List Go.Value) ↦
  Go.AI.pSome l10[(1 : Nat)]? fun (u11 : Go.Value) ↦
  Go.AI.tI Go.IntKind.i64 u11 fun (n12 : Int) ↦
  T (15 : Nat) [Go.Value.int Go.IntKind.i64 n9, Go.Value.int Go.IntKind.i64 n12, Go.Value.slice l n e] σ6 fun (v13 : Go.Value) (σ14 : Go.AI.AS) ↦
  Go.AI.tTup v13 fun (l15 : List Go.Value) ↦
  Go.AI.pSome l15[(0 : Nat)]? fun (u16 : Go.Value) ↦
  Go.AI.tP u16 fun (b17 : Option Go.Addr) ↦
  Go.AI.tTup v13 fun (l18 : List Go.Value) ↦
  Go.AI.pSome l18[(1 : Nat)]? fun (u19 : Go.Value) ↦
  Go.AI.tP u19 fun (b20 : Option Go.Addr) ↦
  Go.AI.ptrEq σ14 b17 Option.none fun (r21 : Bool) ↦
  Go.AI.bmatch r21 (K (Go.Value.bool Bool.false) σ14)
  (Go.AI.ldc σ14 (Go.Addr.mk i0 ((0 : Nat) + (1 : Nat)) Option.none) fun (v22 : Go.Value) ↦
  Go.AI.tI Go.IntKind.i64 v22 fun (n23 : Int) ↦
  Go.AI.ldc σ14 (Go.Addr.mk i0 ((0 : Nat) + (3 : Nat)) Option.none) fun (v24 : Go.Value) ↦
  Go.AI.tI Go.IntKind.i64 v24 fun (n25 : Int) ↦
  T (21 : Nat) [Go.Value.pointer b20, Go.Value.int Go.IntKind.i64 n23] σ14 fun (v26 : Go.Value) (σ27 : Go.AI.AS) ↦
  Go.AI.tI Go.IntKind.i64 v26 fun (n28 : Int) ↦
  Go.AI.ldc σ27 (Go.Addr.mk i0 ((0 : Nat) + (3 : Nat)) Option.none) fun (v29 : Go.Value) ↦
  Go.AI.tI Go.IntKind.i64 v29 fun (n30 : Int) ↦
  Go.Value.int Go.IntKind.i64 n25 = Go.Value.int Go.IntKind.i64 n30 ∧
  T (21 : Nat) [Go.Value.pointer b20, Go.Value.int Go.IntKind.i64 n25] σ27 fun (v31 : Go.Value) (σ32 : Go.AI.AS) ↦
  Go.AI.tI Go.IntKind.i64 v31 fun (n33 : Int) ↦
  T (20 : Nat) [Go.Value.pointer b17, Go.Value.int Go.IntKind.i64 n28] σ32 fun (v34 : Go.Value) (σ35 : Go.AI.AS) ↦
  Go.AI.tTup v34 fun (l36 : List Go.Value) ↦
  Go.AI.pSome l36[(0 : Nat)]? fun (u37 : Go.Value) ↦
  Go.AI.tI Go.IntKind.i64 u37 fun (n38 : Int) ↦
  Go.AI.tTup v34 fun (l39 : List Go.Value) ↦
  Go.AI.pSome l39[(1 : Nat)]? fun (u40 : Go.Value) ↦
  Go.AI.tI Go.IntKind.i64 u40 fun (n41 : Int) ↦
  T (30 : Nat) [Go.Value.pointer b17, Go.Value.int Go.IntKind.i64 n28] σ35 fun (v42 : Go.Value) (σ43 : Go.AI.AS) ↦
  Go.AI.tTup v42 fun (l44 : List Go.Value) ↦
  Go.AI.pSome l44[(0 : Nat)]? fun (u45 : Go.Value) ↦
  Go.AI.tI Go.IntKind.i64 u45 fun (n46 : Int) ↦
  Go.AI.tTup v42 fun (l47 : List Go.Value) ↦
  Go.AI.pSome l47[(1 : Nat)]? fun (u48 : Go.Value) ↦
  Go.AI.tI Go.IntKind.u32 u48 fun (n49 : Int) ↦
  Go.AI.tTup v42 fun (l50 : List Go.Value) ↦
  Go.AI.pSome l50[(2 : Nat)]? fun (u51 : Go.Value) ↦
  Go.AI.tI Go.IntKind.i64 u51 fun (n52 : Int) ↦
  Go.AI.tTup v42 fun (l53 : List Go.Value) ↦
  Go.AI.pSome l53[(3 : Nat)]? fun (u54 : Go.Value) ↦
  Go.AI.tI Go.IntKind.i64 u54 fun (n55 : Int) ↦
  Go.AI.ldc σ43 (Go.Addr.mk i0 ((0 : Nat) + (2 : Nat)) Option.none) fun (v56 : Go.Value) ↦
  Go.AI.tI Go.IntKind.i64 v56 fun (n57 : Int) ↦
  Go.AI.ldc σ43 (Go.Addr.mk i0 ((0 : Nat) + (4 : Nat)) Option.none) fun (v58 : Go.Value) ↦
  Go.AI.tI Go.IntKind.u32 v58 fun (n59 : Int) ↦
  T (36 : Nat)
  [Go.Value.pointer b17, Go.Value.int Go.IntKind.i64 n28, Go.Value.int Go.IntKind.i64 n57,
  Go.Value.int Go.IntKind.u32 n59, Go.Value.int Go.IntKind.i64 n33]
  σ43 fun (v60 : Go.Value) (σ61 : Go.AI.AS) ↦
  Go.AI.tI Go.IntKind.i64 v60 fun (n62 : Int) ↦
  T (30 : Nat) [Go.Value.pointer b17, Go.Value.int Go.IntKind.i64 n28] σ61
  fun (v63 : Go.Value) (σ64 : Go.AI.AS) ↦
  Go.AI.tTup v63 fun (l65 : List Go.Value) ↦
  Go.AI.pSome l65[(0 : Nat)]? fun (u66 : Go.Value) ↦
  Go.AI.tI Go.IntKind.i64 u66 fun (n67 : Int) ↦
  Go.AI.tTup v63 fun (l68 : List Go.Value) ↦
  Go.AI.pSome l68[(1 : Nat)]? fun (u69 : Go.Value) ↦
  Go.AI.tI Go.IntKind.u32 u69 fun (n70 : Int) ↦
  Go.AI.tTup v63 fun (l71 : List Go.Value) ↦
  Go.AI.pSome l71[(2 : Nat)]? fun (u72 : Go.Value) ↦
  Go.AI.tI Go.IntKind.i64 u72 fun (n73 : Int) ↦
  Go.AI.tTup v63 fun (l74 : List Go.Value) ↦
  Go.AI.pSome l74[(3 : Nat)]? fun (u75 : Go.Value) ↦
  Go.AI.tI Go.IntKind.i64 u75 fun (n76 : Int) ↦
  T (20 : Nat) [Go.Value.pointer b17, Go.Value.int Go.IntKind.i64 n28] σ64
  fun (v77 : Go.Value) (σ78 : Go.AI.AS) ↦
  Go.AI.tTup v77 fun (l79 : List Go.Value) ↦
  Go.AI.pSome l79[(0 : Nat)]? fun (u80 : Go.Value) ↦
  Go.AI.tI Go.IntKind.i64 u80 fun (n81 : Int) ↦
  Go.AI.tTup v77 fun (l82 : List Go.Value) ↦
  Go.AI.pSome l82[(1 : Nat)]? fun (u83 : Go.Value) ↦
  Go.AI.tI Go.IntKind.i64 u83 fun (n84 : Int) ↦
  Go.AI.bmatch (n55 != n76) (K (Go.Value.bool Bool.false) σ78)
  (Go.AI.bmatch (n81 != n38) (K (Go.Value.bool Bool.false) σ78)
  (Go.AI.bmatch (n84 != n41)
  (K (Go.Value.bool Bool.false) σ78)
  (T (23 : Nat) [Go.Value.int Go.IntKind.i64 n62] σ78
  fun (v85 : Go.Value) (σ86 : Go.AI.AS) ↦
  Go.AI.tI Go.IntKind.i64 v85 fun (n87 : Int) ↦
  Go.AI.bmatch (n87 != (0 : Int))
  (Go.AI.bmatch (n67 == n46)
  (Go.AI.bmatch (n73 == n52)
  (T (34 : Nat)
  [Go.Value.pointer b17, Go.Value.pointer b20] σ86
  fun (v88 : Go.Value) (σ89 : Go.AI.AS) ↦
  Go.AI.tB v88 fun (b90 : Bool) ↦
  Go.AI.bmatch b90
  (T (13 : Nat) [] σ89
  fun (v91 : Go.Value) (σ92 : Go.AI.AS) ↦
  Go.AI.tB v91 fun (b93 : Bool) ↦
  K (Go.Value.bool b93) σ92)
  (K (Go.Value.bool Bool.false) σ89))
  (K (Go.Value.bool Bool.false) σ86))
  (K (Go.Value.bool Bool.false) σ86))
  (Go.AI.ldc σ86
  (Go.Addr.mk i0 ((0 : Nat) + (2 : Nat)) Option.none)
  fun (v94 : Go.Value) ↦
  Go.AI.tI Go.IntKind.i64 v94 fun (n95 : Int) ↦
  Go.AI.bmatch (n67 != n95)
  (K (Go.Value.bool Bool.false) σ86)
  (Go.AI.ldc σ86
  (Go.Addr.mk i0 ((0 : Nat) + (4 : Nat))
  Option.none)
  fun (v96 : Go.Value) ↦
  Go.AI.tI Go.IntKind.u32 v96 fun (n97 : Int) ↦
  Go.AI.bmatch (n70 != n97)
  (K (Go.Value.bool Bool.false) σ86)
  (Go.AI.bmatch (n73 != n33)
  (K (Go.Value.bool Bool.false) σ86)
  (Go.AI.bmatch
  (!Decidable.decide
  (Int.tmod n67 (16 : Int) <
  (2 : Int)) ==
  Decidable.decide
  (Int.tmod n46 (16 : Int) <
  (2 : Int)))
  (K (Go.Value.bool Bool.false) σ86)
  (T (17 : Nat)
  [Go.Value.pointer b17,
  Go.Value.int Go.IntKind.i64 n38]
  σ86
  fun (v98 : Go.Value)
  (σ99 : Go.AI.AS) ↦
  Go.AI.tTup v98
  fun (l100 : List Go.Value) ↦
  Go.AI.pSome l100[(0 : Nat)]?
  fun (u101 : Go.Value) ↦
  Go.AI.tAgg u101
  fun (l102 : List Go.Value) ↦
  Go.AI.tCons l102
  fun (v103 : Go.Value)
  (l104 : List Go.Value) ↦
  Go.AI.tI Go.IntKind.i64 v103
  fun (n105 : Int) ↦
  Go.AI.tCons l104
  fun (v106 : Go.Value)
  (l107 :
  List Go.Value) ↦
  Go.AI.tI Go.IntKind.i64
  v106
  fun (n108 : Int) ↦
  Go.AI.tCons l107
  fun
  (v109 : Go.Value)
  (l110 :
  List Go.Value) ↦
  Go.AI.tI
  Go.IntKind.i64
  v109
  fun (n111 : Int) ↦
  Go.AI.tCons l110
  fun
  (v112 :
  Go.Value)
  (l113 :
  List
  Go.Value) ↦
  Go.AI.tI
  Go.IntKind.i64
  v112
  fun
  (n114 :
  Int) ↦
  Go.AI.tNil
  l113
  (Go.AI.tTup
  v98
  fun
  (l115 :
  List
  Go.Value) ↦
  Go.AI.pSome
  l115[(1 :
  Nat)]?
  fun
  (u116 :
  Go.Value) ↦
  Go.AI.tB
  u116
  fun
  (b117 :
  Bool) ↦
  Go.AI.newAt
  σ99
  (Go.AI.AObj.row
  Go.AI.RK.plain
  [Go.Value.int
  Go.IntKind.i64
  (0 :
  Int),
  Go.Value.int
  Go.IntKind.i64
  (0 :
  Int),
  Go.Value.int
  Go.IntKind.i64
  (0 :
  Int),
  Go.Value.int
  Go.IntKind.i64
  (0 :
  Int)])
  fun
  (i118 :
  Nat)
  (σ119 :
  Go.AI.AS) ↦
  Go.AI.puts
  σ119
  (Go.Addr.mk
  i118
  (0 :
  Nat)
  Option.none)
  [Go.Value.int
  Go.IntKind.i64
  n105,
  Go.Value.int
  Go.IntKind.i64
  n108,
  Go.Value.int
  Go.IntKind.i64
  n111,
  Go.Value.int
  Go.IntKind.i64
  n114]
  fun
  (σ120 :
  Go.AI.AS) ↦
  T
  (17 :
  Nat)
  [Go.Value.pointer
  b17,
  Go.Value.int
  Go.IntKind.i64
  n41]
  σ120
  fun
  (v121 :
  Go.Value)
  (σ122 :
  Go.AI.AS) ↦
  Go.AI.tTup
  v121
  fun
  (l123 :
  List
  Go.Value) ↦
  Go.AI.pSome
  l123[(0 :
  Nat)]?
  fun
  (u124 :
  Go.Value) ↦
  Go.AI.tAgg
  u124
  fun
  (l125 :
  List
  Go.Value) ↦
  Go.AI.tCons
  l125
  fun
  (v126 :
  Go.Value)
  (l127 :
  List
  Go.Value) ↦
  Go.AI.tI
  Go.IntKind.i64
  v126
  fun
  (n128 :
  Int) ↦
  Go.AI.tCons
  l127
  fun
  (v129 :
  Go.Value)
  (l130 :
  List
  Go.Value) ↦
  Go.AI.tI
  Go.IntKind.i64
  v129
  fun
  (n131 :
  Int) ↦
  Go.AI.tCons
  l130
  fun
  (v132 :
  Go.Value)
  (l133 :
  List
  Go.Value) ↦
  Go.AI.tI
  Go.IntKind.i64
  v132
  fun
  (n134 :
  Int) ↦
  Go.AI.tCons
  l133
  fun
  (v135 :
  Go.Value)
  (l136 :
  List
  Go.Value) ↦
  Go.AI.tI
  Go.IntKind.i64
  v135
  fun
  (n137 :
  Int) ↦
  Go.AI.tNil
  l136
  (Go.AI.tTup
  v121
  fun
  (l138 :
  List
  Go.Value) ↦
  Go.AI.pSome
  l138[(1 :
  Nat)]?
  fun
  (u139 :
  Go.Value) ↦
  Go.AI.tB
  u139
  fun
  (b140 :
  Bool) ↦
  Go.AI.newAt
  σ122
  (Go.AI.AObj.row
  Go.AI.RK.plain
  [Go.Value.int
  Go.IntKind.i64
  (0 :
  Int),
  Go.Value.int
  Go.IntKind.i64
  (0 :
  Int),
  Go.Value.int
  Go.IntKind.i64
  (0 :
  Int),
  Go.Value.int
  Go.IntKind.i64
  (0 :
  Int)])
  fun
  (i141 :
  Nat)
  (σ142 :
  Go.AI.AS) ↦
  Go.AI.puts
  σ142
  (Go.Addr.mk
  i141
  (0 :
  Nat)
  Option.none)
  [Go.Value.int
  Go.IntKind.i64
  n128,
  Go.Value.int
  Go.IntKind.i64
  n131,
  Go.Value.int
  Go.IntKind.i64
  n134,
  Go.Value.int
  Go.IntKind.i64
  n137]
  fun
  (σ143 :
  Go.AI.AS) ↦
  Go.AI.bmatch
  (Decidable.decide
  (Int.tmod
  n67
  (16 :
  Int) <
  (2 :
  Int)))
  (Go.AI.ldc
  σ143
  (Go.Addr.mk
  i141
  (0 :
  Nat)
  Option.none)
  fun
  (v144 :
  Go.Value) ↦
  Go.AI.tI
  Go.IntKind.i64
  v144
  fun
  (n145 :
  Int) ↦
  Go.AI.ldc
  σ143
  (Go.Addr.mk
  i118
  (0 :
  Nat)
  Option.none)
  fun
  (v146 :
  Go.Value) ↦
  Go.AI.tI
  Go.IntKind.i64
  v146
  fun
  (n147 :
  Int) ↦
  Go.AI.ldc
  σ143
  (Go.Addr.mk
  i118
  ((0 :
  Nat) +
  (2 :
  Nat))
  Option.none)
  fun
  (v148 :
  Go.Value) ↦
  Go.AI.tI
  Go.IntKind.i64
  v148
  fun
  (n149 :
  Int) ↦
  Go.AI.bmatch
  (n145 ==
  Go.IntKind.wrap
  Go.IntKind.i64
  (n147 +
  n149))
  (Go.AI.ldc
  σ143
  (Go.Addr.mk
  i141
  ((0 :
  Nat) +
  (1 :
  Nat))
  Option.none)
  fun
  (v150 :
  Go.Value) ↦
  Go.AI.tI
  Go.IntKind.i64
  v150
  fun
  (n151 :
  Int) ↦
  Go.AI.ldc
  σ143
  (Go.Addr.mk
  i118
  ((0 :
  Nat) +
  (1 :
  Nat))
  Option.none)
  fun
  (v152 :
  Go.Value) ↦
  Go.AI.tI
  Go.IntKind.i64
  v152
  fun
  (n153 :
  Int) ↦
  Go.AI.bmatch
  (n151 ==
  n153)
  (T
  (13 :
  Nat)
  []
  σ143
  fun
  (v154 :
  Go.Value)
  (σ155 :
  Go.AI.AS) ↦
  Go.AI.tB
  v154
  fun
  (b156 :
  Bool) ↦
  K
  (Go.Value.bool
  b156)
  σ155)
  (Go.AI.bmatch
  (Decidable.decide
  (Int.tmod
  n67
  (16 :
  Int) ≥
  (2 :
  Int)))
  (Go.AI.ldc
  σ143
  (Go.Addr.mk
  i141
  ((0 :
  Nat) +
  (1 :
  Nat))
  Option.none)
  fun
  (v157 :
  Go.Value) ↦
  Go.AI.tI
  Go.IntKind.i64
  v157
  fun
  (n158 :
  Int) ↦
  Go.AI.ldc
  σ143
  (Go.Addr.mk
  i118
  ((0 :
  Nat) +
  (1 :
  Nat))
  Option.none)
  fun
  (v159 :
  Go.Value) ↦
  Go.AI.tI
  Go.IntKind.i64
  v159
  fun
  (n160 :
  Int) ↦
  Go.AI.ldc
  σ143
  (Go.Addr.mk
  i118
  ((0 :
  Nat) +
  (3 :
  Nat))
  Option.none)
  fun
  (v161 :
  Go.Value) ↦
  Go.AI.tI
  Go.IntKind.i64
  v161
  fun
  (n162 :
  Int) ↦
  Go.AI.bmatch
  (n158 ==
  Go.IntKind.wrap
  Go.IntKind.i64
  (n160 +
  n162))
  (Go.AI.ldc
  σ143
  (Go.Addr.mk
  i141
  (0 :
  Nat)
  Option.none)
  fun
  (v163 :
  Go.Value) ↦
  Go.AI.tI
  Go.IntKind.i64
  v163
  fun
  (n164 :
  Int) ↦
  Go.AI.ldc
  σ143
  (Go.Addr.mk
  i118
  (0 :
  Nat)
  Option.none)
  fun
  (v165 :
  Go.Value) ↦
  Go.AI.tI
  Go.IntKind.i64
  v165
  fun
  (n166 :
  Int) ↦
  Go.AI.bmatch
  (n164 ==
  n166)
  (T
  (13 :
  Nat)
  []
  σ143
  fun
  (v167 :
  Go.Value)
  (σ168 :
  Go.AI.AS) ↦
  Go.AI.tB
  v167
  fun
  (b169 :
  Bool) ↦
  K
  (Go.Value.bool
  b169)
  σ168)
  (K
  (Go.Value.bool
  Bool.false)
  σ143))
  (K
  (Go.Value.bool
  Bool.false)
  σ143))
  (K
  (Go.Value.bool
  Bool.false)
  σ143)))
  (Go.AI.bmatch
  (Decidable.decide
  (Int.tmod
  n67
  (16 :
  Int) ≥
  (2 :
  Int)))
  (Go.AI.ldc
  σ143
  (Go.Addr.mk
  i141
  ((0 :
  Nat) +
  (1 :
  Nat))
  Option.none)
  fun
  (v170 :
  Go.Value) ↦
  Go.AI.tI
  Go.IntKind.i64
  v170
  fun
  (n171 :
  Int) ↦
  Go.AI.ldc
  σ143
  (Go.Addr.mk
  i118
  ((0 :
  Nat) +
  (1 :
  Nat))
  Option.none)
  fun
  (v172 :
  Go.Value) ↦
  Go.AI.tI
  Go.IntKind.i64
  v172
  fun
  (n173 :
  Int) ↦
  Go.AI.ldc
  σ143
  (Go.Addr.mk
  i118
  ((0 :
  Nat) +
  (3 :
  Nat))
  Option.none)
  fun
  (v174 :
  Go.Value) ↦
  Go.AI.tI
  Go.IntKind.i64
  v174
  fun
  (n175 :
  Int) ↦
  Go.AI.bmatch
  (n171 ==
  Go.IntKind.wrap
  Go.IntKind.i64
  (n173 +
  n175))
  (Go.AI.ldc
  σ143
  (Go.Addr.mk
  i141
  (0 :
  Nat)
  Option.none)
  fun
  (v176 :
  Go.Value) ↦
  Go.AI.tI
  Go.IntKind.i64
  v176
  fun
  (n177 :
  Int) ↦
  Go.AI.ldc
  σ143
  (Go.Addr.mk
  i118
  (0 :
  Nat)
  Option.none)
  fun
  (v178 :
  Go.Value) ↦
  Go.AI.tI
  Go.IntKind.i64
  v178
  fun
  (n179 :
  Int) ↦
  Go.AI.bmatch
  (n177 ==
  n179)
  (T
  (13 :
  Nat)
  []
  σ143
  fun
  (v180 :
  Go.Value)
  (σ181 :
  Go.AI.AS) ↦
  Go.AI.tB
  v180
  fun
  (b182 :
  Bool) ↦
  K
  (Go.Value.bool
  b182)
  σ181)
  (K
  (Go.Value.bool
  Bool.false)
  σ143))
  (K
  (Go.Value.bool
  Bool.false)
  σ143))
  (K
  (Go.Value.bool
  Bool.false)
  σ143)))
  (Go.AI.bmatch
  (Decidable.decide
  (Int.tmod
  n67
  (16 :
  Int) ≥
  (2 :
  Int)))
  (Go.AI.ldc
  σ143
  (Go.Addr.mk
  i141
  ((0 :
  Nat) +
  (1 :
  Nat))
  Option.none)
  fun
  (v183 :
  Go.Value) ↦
  Go.AI.tI
  Go.IntKind.i64
  v183
  fun
  (n184 :
  Int) ↦
  Go.AI.ldc
  σ143
  (Go.Addr.mk
  i118
  ((0 :
  Nat) +
  (1 :
  Nat))
  Option.none)
  fun
  (v185 :
  Go.Value) ↦
  Go.AI.tI
  Go.IntKind.i64
  v185
  fun
  (n186 :
  Int) ↦
  Go.AI.ldc
  σ143
  (Go.Addr.mk
  i118
  ((0 :
  Nat) +
  (3 :
  Nat))
  Option.none)
  fun
  (v187 :
  Go.Value) ↦
  Go.AI.tI
  Go.IntKind.i64
  v187
  fun
  (n188 :
  Int) ↦
  Go.AI.bmatch
  (n184 ==
  Go.IntKind.wrap
  Go.IntKind.i64
  (n186 +
  n188))
  (Go.AI.ldc
  σ143
  (Go.Addr.mk
  i141
  (0 :
  Nat)
  Option.none)
  fun
  (v189 :
  Go.Value) ↦
  Go.AI.tI
  Go.IntKind.i64
  v189
  fun
  (n190 :
  Int) ↦
  Go.AI.ldc
  σ143
  (Go.Addr.mk
  i118
  (0 :
  Nat)
  Option.none)
  fun
  (v191 :
  Go.Value) ↦
  Go.AI.tI
  Go.IntKind.i64
  v191
  fun
  (n192 :
  Int) ↦
  Go.AI.bmatch
  (n190 ==
  n192)
  (T
  (13 :
  Nat)
  []
  σ143
  fun
  (v193 :
  Go.Value)
  (σ194 :
  Go.AI.AS) ↦
  Go.AI.tB
  v193
  fun
  (b195 :
  Bool) ↦
  K
  (Go.Value.bool
  b195)
  σ194)
  (K
  (Go.Value.bool
  Bool.false)
  σ143))
  (K
  (Go.Value.bool
  Bool.false)
  σ143))
  (K
  (Go.Value.bool
  Bool.false)
  σ143)))))))))))))) := by
  intros
  kernel_rfl

theorem s10 : ∀ (T : Go.AI.Ct) (a b : Int) (l : Option Go.Addr) (n e : Nat) (c d : Int) (σ : Go.AI.AS) (K : Go.Value → Go.AI.AS → Prop),
  Go.AI.fw Go.Proofs.Try.prog Go.AI.hintsS T (10 : Nat) [Go.Value.int Go.IntKind.u8 a, Go.Value.int Go.IntKind.u8 b, Go.Value.slice l n e, Go.Value.int Go.IntKind.u8 c, Go.Value.int Go.IntKind.u8 d] σ
  K =
  Go.AI.bmatch (Decidable.decide ((↑n : Int) > (80 : Int))) (T (13 : Nat) [] σ fun (v0 : Go.Value) (σ1 : Go.AI.AS) ↦ Go.AI.tB v0 fun (b2 : Bool) ↦ K (Go.Value.bool b2) σ1)
  (T (14 : Nat) [Go.Value.int Go.IntKind.u8 a, Go.Value.int Go.IntKind.u8 b] σ fun (v3 : Go.Value) (σ4 : Go.AI.AS) ↦
  Go.AI.tTup v3 fun (l5 : List Go.Value) ↦
  Go.AI.pSome l5[(0 : Nat)]? fun (u6 : Go.Value) ↦
  Go.AI.tI Go.IntKind.i64 u6 fun (n7 : Int) ↦
  Go.AI.tTup v3 fun (l8 : List Go.Value) ↦
  Go.AI.pSome l8[(1 : Nat)]? fun (u9 : Go.Value) ↦
  Go.AI.tI Go.IntKind.i64 u9 fun (n10 : Int) ↦
  T (15 : Nat) [Go.Value.int Go.IntKind.i64 n7, Go.Value.int Go.IntKind.i64 n10, Go.Value.slice l n e] σ4 fun (v11 : Go.Value) (σ12 : Go.AI.AS) ↦
  Go.AI.tTup v11 fun (l13 : List Go.Value) ↦
  Go.AI.pSome l13[(0 : Nat)]? fun (u14 : Go.Value) ↦
  Go.AI.tP u14 fun (b15 : Option Go.Addr) ↦
  Go.AI.tTup v11 fun (l16 : List Go.Value) ↦
  Go.AI.pSome l16[(1 : Nat)]? fun (u17 : Go.Value) ↦
  Go.AI.tP u17 fun (b18 : Option Go.Addr) ↦
  Go.AI.ptrEq σ12 b15 Option.none fun (r19 : Bool) ↦
  Go.AI.bmatch r19 (K (Go.Value.bool Bool.false) σ12)
  (Go.AI.pSome b18 fun (a20 : Go.Addr) ↦
  Go.AI.ldc σ12 (Go.Addr.add a20 (0 : Nat)) fun (v21 : Go.Value) ↦
  Go.AI.tI Go.IntKind.i64 v21 fun (n22 : Int) ↦
  Go.AI.pSome b18 fun (a23 : Go.Addr) ↦
  Go.AI.ldc σ12 (Go.Addr.mk (Go.Addr.block a23) (Go.Addr.off a23 + (1 : Nat)) Option.none) fun (v24 : Go.Value) ↦
  Go.AI.tI Go.IntKind.i64 v24 fun (n25 : Int) ↦
  T (37 : Nat) [Go.Value.pointer b15, Go.Value.int Go.IntKind.i64 (Go.IntKind.wrap Go.IntKind.i64 c), Go.Value.int Go.IntKind.i64 (Go.IntKind.wrap Go.IntKind.i64 d)]
  σ12 fun (v26 : Go.Value) (σ27 : Go.AI.AS) ↦
  Go.AI.tI Go.IntKind.i64 v26 fun (n28 : Int) ↦
  T (23 : Nat) [Go.Value.int Go.IntKind.i64 n28] σ27 fun (v29 : Go.Value) (σ30 : Go.AI.AS) ↦
  Go.AI.tI Go.IntKind.i64 v29 fun (n31 : Int) ↦
  Go.AI.bmatch (n31 != (0 : Int)) (K (Go.Value.bool Bool.false) σ30)
  (T (27 : Nat) [Go.Value.pointer b15] σ30 fun (v32 : Go.Value) (σ33 : Go.AI.AS) ↦
  Go.AI.tI Go.IntKind.i64 v32 fun (n34 : Int) ↦
  T (17 : Nat) [Go.Value.pointer b15, Go.Value.int Go.IntKind.i64 n34] σ33 fun (v35 : Go.Value) (σ36 : Go.AI.AS) ↦
  Go.AI.tTup v35 fun (l37 : List Go.Value) ↦
  Go.AI.pSome l37[(0 : Nat)]? fun (u38 : Go.Value) ↦
  Go.AI.tAgg u38 fun (l39 : List Go.Value) ↦
  Go.AI.tCons l39 fun (v40 : Go.Value) (l41 : List Go.Value) ↦
  Go.AI.tI Go.IntKind.i64 v40 fun (n42 : Int) ↦
  Go.AI.tCons l41 fun (v43 : Go.Value) (l44 : List Go.Value) ↦
  Go.AI.tI Go.IntKind.i64 v43 fun (n45 : Int) ↦
  Go.AI.tCons l44 fun (v46 : Go.Value) (l47 : List Go.Value) ↦
  Go.AI.tI Go.IntKind.i64 v46 fun (n48 : Int) ↦
  Go.AI.tCons l47 fun (v49 : Go.Value) (l50 : List Go.Value) ↦
  Go.AI.tI Go.IntKind.i64 v49 fun (n51 : Int) ↦
  Go.AI.tNil l50
  (Go.AI.tTup v35 fun (l52 : List Go.Value) ↦
  Go.AI.pSome l52[(1 : Nat)]? fun (u53 : Go.Value) ↦
  Go.AI.tB u53 fun (b54 : Bool) ↦
  Go.AI.newAt σ36
  (Go.AI.AObj.row Go.AI.RK.plain
  [Go.Value.int Go.IntKind.i64 (0 : Int), Go.Value.int Go.IntKind.i64 (0 : Int), Go.Value.int Go.IntKind.i64 (0 : Int),
  Go.Value.int Go.IntKind.i64 (0 : Int)])
  fun (i55 : Nat) (σ56 : Go.AI.AS) ↦
  Go.AI.puts σ56 (Go.Addr.mk i55 (0 : Nat) Option.none)
  [Go.Value.int Go.IntKind.i64 n42, Go.Value.int Go.IntKind.i64 n45, Go.Value.int Go.IntKind.i64 n48,
  Go.Value.int Go.IntKind.i64 n51]
  fun (σ57 : Go.AI.AS) ↦
  Go.AI.pSome b18 fun (a58 : Go.Addr) ↦
  Go.AI.ldc σ57 (Go.Addr.mk (Go.Addr.block a58) (Go.Addr.off a58 + (2 : Nat)) Option.none) fun (v59 : Go.Value) ↦
  Go.AI.tL (8 : Nat) v59 fun (s60 : Go.AI.Sl) ↦
  Go.AI.bmatch (!b54 == Decidable.decide ((↑(Go.AI.Sl.n s60) : Int) > (0 : Int)))
  (K (Go.Value.bool Bool.false) σ57)
  (Go.AI.bmatch b54
  (Go.AI.lds σ57 (Go.Addr.mk i55 (0 : Nat) Option.none) (4 : Nat) fun (l61 : List Go.Value) ↦
  Go.AI.tCons l61 fun (v62 : Go.Value) (l63 : List Go.Value) ↦
  Go.AI.tI Go.IntKind.i64 v62 fun (n64 : Int) ↦
  Go.AI.tCons l63 fun (v65 : Go.Value) (l66 : List Go.Value) ↦
  Go.AI.tI Go.IntKind.i64 v65 fun (n67 : Int) ↦
  Go.AI.tCons l66 fun (v68 : Go.Value) (l69 : List Go.Value) ↦
  Go.AI.tI Go.IntKind.i64 v68 fun (n70 : Int) ↦
  Go.AI.tCons l69 fun (v71 : Go.Value) (l72 : List Go.Value) ↦
  Go.AI.tI Go.IntKind.i64 v71 fun (n73 : Int) ↦
  Go.AI.tNil l72
  (Go.AI.bmatch
  (!(n64 == (0 : Int) &&
  (n67 == (0 : Int) &&
  (n70 == Go.IntKind.wrap Go.IntKind.i64 c &&
  (n73 == Go.IntKind.wrap Go.IntKind.i64 d && Bool.true)))))
  (K (Go.Value.bool Bool.false) σ57)
  (T (37 : Nat)
  [Go.Value.pointer b15, Go.Value.int Go.IntKind.i64 (0 : Int),
  Go.Value.int Go.IntKind.i64 (0 : Int)]
  σ57 fun (v74 : Go.Value) (σ75 : Go.AI.AS) ↦
  Go.AI.tI Go.IntKind.i64 v74 fun (n76 : Int) ↦
  T (23 : Nat) [Go.Value.int Go.IntKind.i64 n76] σ75
  fun (v77 : Go.Value) (σ78 : Go.AI.AS) ↦
  Go.AI.tI Go.IntKind.i64 v77 fun (n79 : Int) ↦
  Go.AI.bmatch (n79 != (0 : Int)) (K (Go.Value.bool Bool.false) σ78)
  (T (16 : Nat) [Go.Value.pointer b15] σ78
  fun (v80 : Go.Value) (σ81 : Go.AI.AS) ↦
  Go.AI.tL (1 : Nat) v80 fun (s82 : Go.AI.Sl) ↦
  Go.AI.ALoop
  (Go.AI.fl Go.Proofs.Try.prog Go.AI.hintsS T (10 : Nat)
  [Bool.true, Bool.true, Bool.true, Bool.true, Bool.true, Bool.true,
  Bool.true, Bool.true, Bool.true, Bool.true, Bool.true, Bool.false,
  Bool.true, Bool.false]
  [] K)
  [((11 : Nat), Option.some (Go.Value.int Go.IntKind.i64 n22)),
  ((12 : Nat), Option.some (Go.Value.int Go.IntKind.i64 n25)),
  ((13 : Nat), Option.some (Go.Value.pointer b15)),
  ((14 : Nat), Option.some (Go.Value.pointer b18)),
  ((17 : Nat),
  Option.some
  (Go.Value.slice (Go.AI.Sl.a s82) (Go.AI.Sl.n s82) (1 : Nat))),
  ((18 : Nat), Option.some (Go.Value.int Go.IntKind.i64 (0 : Int)))]
  σ81))))
  (T (37 : Nat)
  [Go.Value.pointer b15, Go.Value.int Go.IntKind.i64 (0 : Int), Go.Value.int Go.IntKind.i64 (0 : Int)] σ57
  fun (v83 : Go.Value) (σ84 : Go.AI.AS) ↦
  Go.AI.tI Go.IntKind.i64 v83 fun (n85 : Int) ↦
  T (23 : Nat) [Go.Value.int Go.IntKind.i64 n85] σ84 fun (v86 : Go.Value) (σ87 : Go.AI.AS) ↦
  Go.AI.tI Go.IntKind.i64 v86 fun (n88 : Int) ↦
  Go.AI.bmatch (n88 != (0 : Int)) (K (Go.Value.bool Bool.false) σ87)
  (T (16 : Nat) [Go.Value.pointer b15] σ87 fun (v89 : Go.Value) (σ90 : Go.AI.AS) ↦
  Go.AI.tL (1 : Nat) v89 fun (s91 : Go.AI.Sl) ↦
  Go.AI.ALoop
  (Go.AI.fl Go.Proofs.Try.prog Go.AI.hintsS T (10 : Nat)
  [Bool.true, Bool.true, Bool.true, Bool.true, Bool.true, Bool.true, Bool.true, Bool.true,
  Bool.true, Bool.true, Bool.true, Bool.false, Bool.true, Bool.false]
  [] K)
  [((11 : Nat), Option.some (Go.Value.int Go.IntKind.i64 n22)),
  ((12 : Nat), Option.some (Go.Value.int Go.IntKind.i64 n25)),
  ((13 : Nat), Option.some (Go.Value.pointer b15)),
  ((14 : Nat), Option.some (Go.Value.pointer b18)),
  ((17 : Nat), Option.some (Go.Value.slice (Go.AI.Sl.a s91) (Go.AI.Sl.n s91) (1 : Nat))),
  ((18 : Nat), Option.some (Go.Value.int Go.IntKind.i64 (0 : Int)))]
  σ90))))))) := by
  intros
  kernel_rfl

theorem s10l : ∀ (T : Go.AI.Ct) (w h i : Int) (t x : Nat) (p : Option Go.Addr) (m f : Nat) (X : Go.AI.Regs → Go.AI.AS → Prop) (σ : Go.AI.AS) (K : Go.Value → Go.AI.AS → Prop),
  Go.AI.fl Go.Proofs.Try.prog Go.AI.hintsS T (10 : Nat) [Bool.true, Bool.true, Bool.true, Bool.true, Bool.true, Bool.true, Bool.true, Bool.true, Bool.true, Bool.true, Bool.true, Bool.false, Bool.true, Bool.false] []
  K X
  [((11 : Nat), Option.some (Go.Value.int Go.IntKind.i64 w)), ((12 : Nat), Option.some (Go.Value.int Go.IntKind.i64 h)),
  ((13 : Nat), Option.some (Go.Value.pointer (Option.some (Go.Addr.mk t (0 : Nat) Option.none)))), ((14 : Nat), Option.some (Go.Value.pointer (Option.some (Go.Addr.mk x (0 : Nat) Option.none)))),
  ((17 : Nat), Option.some (Go.Value.slice p m f)), ((18 : Nat), Option.some (Go.Value.int Go.IntKind.i64 i))]
  σ =
  Go.AI.bmatch (Decidable.decide (i < (↑m : Int)))
  (Go.AI.req ((0 : Int) ≤ i)
  (Go.AI.req (i < (↑m : Int))
  (Go.AI.pSome p fun (a0 : Go.Addr) ↦
  Go.AI.req (f = Go.AI.szOf Go.Proofs.Try.prog (3 : Nat))
  (Go.AI.ldc σ (Go.Addr.add a0 (Int.toNat i * Go.AI.szOf Go.Proofs.Try.prog (3 : Nat))) fun (v1 : Go.Value) ↦
  Go.AI.tI Go.IntKind.i64 v1 fun (n2 : Int) ↦
  T (17 : Nat) [Go.Value.pointer (Option.some (Go.Addr.mk t (0 : Nat) Option.none)), Go.Value.int Go.IntKind.i64 n2] σ fun (v3 : Go.Value) (σ4 : Go.AI.AS) ↦
  Go.AI.tTup v3 fun (l5 : List Go.Value) ↦
  Go.AI.pSome l5[(0 : Nat)]? fun (u6 : Go.Value) ↦
  Go.AI.tAgg u6 fun (l7 : List Go.Value) ↦
  Go.AI.tCons l7 fun (v8 : Go.Value) (l9 : List Go.Value) ↦
  Go.AI.tI Go.IntKind.i64 v8 fun (n10 : Int) ↦
  Go.AI.tCons l9 fun (v11 : Go.Value) (l12 : List Go.Value) ↦
  Go.AI.tI Go.IntKind.i64 v11 fun (n13 : Int) ↦
  Go.AI.tCons l12 fun (v14 : Go.Value) (l15 : List Go.Value) ↦
  Go.AI.tI Go.IntKind.i64 v14 fun (n16 : Int) ↦
  Go.AI.tCons l15 fun (v17 : Go.Value) (l18 : List Go.Value) ↦
  Go.AI.tI Go.IntKind.i64 v17 fun (n19 : Int) ↦
  Go.AI.tNil l18
  (Go.AI.tTup v3 fun (l20 : List Go.Value) ↦
  Go.AI.pSome l20[(1 : Nat)]? fun (u21 : Go.Value) ↦
  Go.AI.tB u21 fun (b22 : Bool) ↦
  Go.AI.newAt σ4
  (Go.AI.AObj.row Go.AI.RK.plain
  [Go.Value.int Go.IntKind.i64 (0 : Int), Go.Value.int Go.IntKind.i64 (0 : Int), Go.Value.int Go.IntKind.i64 (0 : Int), Go.Value.int Go.IntKind.i64 (0 : Int)])
  fun (i23 : Nat) (σ24 : Go.AI.AS) ↦
  Go.AI.puts σ24 (Go.Addr.mk i23 (0 : Nat) Option.none)
  [Go.Value.int Go.IntKind.i64 n10, Go.Value.int Go.IntKind.i64 n13, Go.Value.int Go.IntKind.i64 n16, Go.Value.int Go.IntKind.i64 n19] fun (σ25 : Go.AI.AS) ↦
  Go.AI.lds σ25 (Go.Addr.mk i23 (0 : Nat) Option.none) (4 : Nat) fun (l26 : List Go.Value) ↦
  Go.AI.tCons l26 fun (v27 : Go.Value) (l28 : List Go.Value) ↦
  Go.AI.tI Go.IntKind.i64 v27 fun (n29 : Int) ↦
  Go.AI.tCons l28 fun (v30 : Go.Value) (l31 : List Go.Value) ↦
  Go.AI.tI Go.IntKind.i64 v30 fun (n32 : Int) ↦
  Go.AI.tCons l31 fun (v33 : Go.Value) (l34 : List Go.Value) ↦
  Go.AI.tI Go.IntKind.i64 v33 fun (n35 : Int) ↦
  Go.AI.tCons l34 fun (v36 : Go.Value) (l37 : List Go.Value) ↦
  Go.AI.tI Go.IntKind.i64 v36 fun (n38 : Int) ↦
  Go.AI.tNil l37
  (Go.AI.bmatch (!(n29 == (0 : Int) && (n32 == (0 : Int) && (n35 == (0 : Int) && (n38 == (0 : Int) && Bool.true)))))
  (K (Go.Value.bool Bool.false) σ25)
  (X
  [((11 : Nat), Option.some (Go.Value.int Go.IntKind.i64 w)), ((12 : Nat), Option.some (Go.Value.int Go.IntKind.i64 h)),
  ((13 : Nat), Option.some (Go.Value.pointer (Option.some (Go.Addr.mk t (0 : Nat) Option.none)))),
  ((14 : Nat), Option.some (Go.Value.pointer (Option.some (Go.Addr.mk x (0 : Nat) Option.none)))),
  ((17 : Nat), Option.some (Go.Value.slice p m f)),
  ((18 : Nat), Option.some (Go.Value.int Go.IntKind.i64 (Go.IntKind.wrap Go.IntKind.i64 (i + (1 : Int)))))]
  σ25)))))))
  (T (37 : Nat) [Go.Value.pointer (Option.some (Go.Addr.mk t (0 : Nat) Option.none)), Go.Value.int Go.IntKind.i64 w, Go.Value.int Go.IntKind.i64 h] σ fun (v39 : Go.Value) (σ40 : Go.AI.AS) ↦
  Go.AI.tI Go.IntKind.i64 v39 fun (n41 : Int) ↦
  T (23 : Nat) [Go.Value.int Go.IntKind.i64 n41] σ40 fun (v42 : Go.Value) (σ43 : Go.AI.AS) ↦
  Go.AI.tI Go.IntKind.i64 v42 fun (n44 : Int) ↦
  Go.AI.bmatch (n44 == (0 : Int))
  (T (34 : Nat) [Go.Value.pointer (Option.some (Go.Addr.mk t (0 : Nat) Option.none)), Go.Value.pointer (Option.some (Go.Addr.mk x (0 : Nat) Option.none))] σ43 fun (v45 : Go.Value) (σ46 : Go.AI.AS) ↦
  Go.AI.tB v45 fun (b47 : Bool) ↦
  Go.AI.bmatch b47 (T (13 : Nat) [] σ46 fun (v48 : Go.Value) (σ49 : Go.AI.AS) ↦ Go.AI.tB v48 fun (b50 : Bool) ↦ K (Go.Value.bool b50) σ49) (K (Go.Value.bool Bool.false) σ46))
  (K (Go.Value.bool Bool.false) σ43)) := by
  intros
  kernel_rfl

theorem s11 : ∀ (T : Go.AI.Ct) (a b : Int) (l : Option Go.Addr) (n e : Nat) (K0_1 A0_1 B0_1 C0_1 Z0_1 : Int) (N0_1 : Bool) (σ : Go.AI.AS) (K : Go.Value → Go.AI.AS → Prop),
  Go.AI.fw Go.Proofs.Try.prog Go.AI.hintsS T (11 : Nat)
  [Go.Value.int Go.IntKind.u8 a, Go.Value.int Go.IntKind.u8 b, Go.Value.slice l n e,
  Go.Value.agg
  (Array.mk [Go.Value.int Go.IntKind.i64 K0_1, Go.Value.int Go.IntKind.i64 A0_1, Go.Value.int Go.IntKind.i64 B0_1, Go.Value.int Go.IntKind.i64 C0_1, Go.Value.int Go.IntKind.u32 Z0_1, Go.Value.bool N0_1])]
  σ K =
  Go.AI.newAt σ
  (Go.AI.AObj.row Go.AI.RK.plain
  [Go.Value.int Go.IntKind.i64 K0_1, Go.Value.int Go.IntKind.i64 A0_1, Go.Value.int Go.IntKind.i64 B0_1, Go.Value.int Go.IntKind.i64 C0_1, Go.Value.int Go.IntKind.u32 Z0_1, Go.Value.bool N0_1])
  fun (i0 : Nat) (σ1 : Go.AI.AS) ↦
  Go.AI.bmatch (Decidable.decide ((↑n : Int) > (80 : Int))) (T (13 : Nat) [] σ1 fun (v2 : Go.Value) (σ3 : Go.AI.AS) ↦ Go.AI.tB v2 fun (b4 : Bool) ↦ K (Go.Value.bool b4) σ3)
  (T (14 : Nat) [Go.Value.int Go.IntKind.u8 a, Go.Value.int Go.IntKind.u8 b] σ1 fun (v5 : Go.Value) (σ6 : Go.AI.AS) ↦
  Go.AI.tTup v5 fun (l7 : List Go.Value) ↦
  Go.AI.pSome l7[(0 : Nat)]? fun (u8 : Go.Value) ↦
  Go.AI.tI Go.IntKind.i64 u8 fun (n9 : Int) ↦
  Go.AI.tTup v5 fun (l10 : List Go.Value) ↦
  Go.AI.pSome l10[(1 : Nat)]? fun (u11 : Go.Value) ↦
  Go.AI.tI Go.IntKind.i64 u11 fun (n12 : Int) ↦
  T (15 : Nat) [Go.Value.int Go.IntKind.i64 n9, Go.Value.int Go.IntKind.i64 n12, Go.Value.slice l n e] σ6 fun (v13 : Go.Value) (σ14 : Go.AI.AS) ↦
  Go.AI.tTup v13 fun (l15 : List Go.Value) ↦
  Go.AI.pSome l15[(0 : Nat)]? fun (u16 : Go.Value) ↦
  Go.AI.tP u16 fun (b17 : Option Go.Addr) ↦
  Go.AI.tTup v13 fun (l18 : List Go.Value) ↦
  Go.AI.pSome l18[(1 : Nat)]? fun (u19 : Go.Value) ↦
  Go.AI.tP u19 fun (b20 : Option Go.Addr) ↦
  Go.AI.ptrEq σ14 b17 Option.none fun (r21 : Bool) ↦
  Go.AI.bmatch r21 (K (Go.Value.bool Bool.false) σ14)
  (T (38 : Nat) [Go.Value.pointer b20] σ14 fun (v22 : Go.Value) (σ23 : Go.AI.AS) ↦
  Go.AI.tP v22 fun (b24 : Option Go.Addr) ↦
  Go.AI.ldc σ23 (Go.Addr.mk i0 (0 : Nat) Option.none) fun (v25 : Go.Value) ↦
  Go.AI.tI Go.IntKind.i64 v25 fun (n26 : Int) ↦
  Go.AI.bmatch (n26 == (4 : Int))
  (Go.AI.ldc σ23 (Go.Addr.mk i0 ((0 : Nat) + (1 : Nat)) Option.none) fun (v27 : Go.Value) ↦
  Go.AI.tI Go.IntKind.i64 v27 fun (n28 : Int) ↦
  T (28 : Nat) [Go.Value.pointer b17, Go.Value.int Go.IntKind.i64 n28] σ23 fun (v29 : Go.Value) (σ30 : Go.AI.AS) ↦
  Go.AI.tTup v29 fun (l31 : List Go.Value) ↦
  Go.AI.pSome l31[(0 : Nat)]? fun (u32 : Go.Value) ↦
  Go.AI.tL (1 : Nat) u32 fun (s33 : Go.AI.Sl) ↦
  Go.AI.tTup v29 fun (l34 : List Go.Value) ↦
  Go.AI.pSome l34[(1 : Nat)]? fun (u35 : Go.Value) ↦
  Go.AI.tI Go.IntKind.i64 u35 fun (n36 : Int) ↦
  T (23 : Nat) [Go.Value.int Go.IntKind.i64 n36] σ30 fun (v37 : Go.Value) (σ38 : Go.AI.AS) ↦
  Go.AI.tI Go.IntKind.i64 v37 fun (n39 : Int) ↦
  Go.AI.JoinS
  (Go.AI.jn Go.Proofs.Try.prog Go.AI.hintsS T (11 : Nat) [Bool.true, Bool.true, Bool.true, Bool.true, Bool.true, Bool.true, Bool.true] [] K)
  [((11 : Nat), Option.some (Go.Value.pointer b17)), ((13 : Nat), Option.some (Go.Value.pointer b24)),
  ((14 : Nat), Option.some (Go.Value.int Go.IntKind.i64 n39))]
  σ38)
  (Go.AI.bmatch (n26 == (5 : Int))
  (Go.AI.bmatch (n26 == (5 : Int))
  (Go.AI.ldc σ23 (Go.Addr.mk i0 ((0 : Nat) + (1 : Nat)) Option.none) fun (v40 : Go.Value) ↦
  Go.AI.tI Go.IntKind.i64 v40 fun (n41 : Int) ↦
  Go.AI.ldc σ23 (Go.Addr.mk i0 ((0 : Nat) + (2 : Nat)) Option.none) fun (v42 : Go.Value) ↦
  Go.AI.tI Go.IntKind.i64 v42 fun (n43 : Int) ↦
  Go.AI.ldc σ23 (Go.Addr.mk i0 ((0 : Nat) + (4 : Nat)) Option.none) fun (v44 : Go.Value) ↦
  Go.AI.tI Go.IntKind.u32 v44 fun (n45 : Int) ↦
  Go.AI.ldc σ23 (Go.Addr.mk i0 ((0 : Nat) + (3 : Nat)) Option.none) fun (v46 : Go.Value) ↦
  Go.AI.tI Go.IntKind.i64 v46 fun (n47 : Int) ↦
  T (36 : Nat)
  [Go.Value.pointer b17, Go.Value.int Go.IntKind.i64 n41, Go.Value.int Go.IntKind.i64 n43, Go.Value.int Go.IntKind.u32 n45,
  Go.Value.int Go.IntKind.i64 n47]
  σ23 fun (v48 : Go.Value) (σ49 : Go.AI.AS) ↦
  Go.AI.tI Go.IntKind.i64 v48 fun (n50 : Int) ↦
  T (23 : Nat) [Go.Value.int Go.IntKind.i64 n50] σ49 fun (v51 : Go.Value) (σ52 : Go.AI.AS) ↦
  Go.AI.tI Go.IntKind.i64 v51 fun (n53 : Int) ↦
  Go.AI.JoinS
  (Go.AI.jn Go.Proofs.Try.prog Go.AI.hintsS T (11 : Nat) [Bool.true, Bool.true, Bool.true, Bool.true, Bool.true, Bool.true, Bool.true] []
  K)
  [((11 : Nat), Option.some (Go.Value.pointer b17)), ((13 : Nat), Option.some (Go.Value.pointer b24)),
  ((14 : Nat), Option.some (Go.Value.int Go.IntKind.i64 n53))]
  σ52)
  (Go.AI.bmatch (n26 == (7 : Int))
  (Go.AI.ldc σ23 (Go.Addr.mk i0 ((0 : Nat) + (1 : Nat)) Option.none) fun (v54 : Go.Value) ↦
  Go.AI.tI Go.IntKind.i64 v54 fun (n55 : Int) ↦
  Go.AI.ldc σ23 (Go.Addr.mk i0 ((0 : Nat) + (2 : Nat)) Option.none) fun (v56 : Go.Value) ↦
  Go.AI.tI Go.IntKind.i64 v56 fun (n57 : Int) ↦
  T (37 : Nat) [Go.Value.pointer b17, Go.Value.int Go.IntKind.i64 n55, Go.Value.int Go.IntKind.i64 n57] σ23 fun (v58 : Go.Value) (σ59 : Go.AI.AS) ↦
  Go.AI.tI Go.IntKind.i64 v58 fun (n60 : Int) ↦
  T (23 : Nat) [Go.Value.int Go.IntKind.i64 n60] σ59 fun (v61 : Go.Value) (σ62 : Go.AI.AS) ↦
  Go.AI.tI Go.IntKind.i64 v61 fun (n63 : Int) ↦
  Go.AI.JoinS
  (Go.AI.jn Go.Proofs.Try.prog Go.AI.hintsS T (11 : Nat) [Bool.true, Bool.true, Bool.true, Bool.true, Bool.true, Bool.true, Bool.true] [] K)
  [((11 : Nat), Option.some (Go.Value.pointer b17)), ((13 : Nat), Option.some (Go.Value.pointer b24)),
  ((14 : Nat), Option.some (Go.Value.int Go.IntKind.i64 n63))]
  σ62)
  (Go.AI.ldc σ23 (Go.Addr.mk i0 ((0 : Nat) + (1 : Nat)) Option.none) fun (v64 : Go.Value) ↦
  Go.AI.tI Go.IntKind.i64 v64 fun (n65 : Int) ↦
  Go.AI.ldc σ23 (Go.Addr.mk i0 ((0 : Nat) + (2 : Nat)) Option.none) fun (v66 : Go.Value) ↦
  Go.AI.tI Go.IntKind.i64 v66 fun (n67 : Int) ↦
  Go.AI.ldc σ23 (Go.Addr.mk i0 ((0 : Nat) + (4 : Nat)) Option.none) fun (v68 : Go.Value) ↦
  Go.AI.tI Go.IntKind.u32 v68 fun (n69 : Int) ↦
  Go.AI.ldc σ23 (Go.Addr.mk i0 ((0 : Nat) + (3 : Nat)) Option.none) fun (v70 : Go.Value) ↦
  Go.AI.tI Go.IntKind.i64 v70 fun (n71 : Int) ↦
  T (22 : Nat)
  [Go.Value.pointer b17, Go.Value.int Go.IntKind.i64 n65, Go.Value.int Go.IntKind.i64 n67, Go.Value.int Go.IntKind.u32 n69,
  Go.Value.int Go.IntKind.i64 n71]
  σ23 fun (v72 : Go.Value) (σ73 : Go.AI.AS) ↦
  Go.AI.tTup v72 fun (l74 : List Go.Value) ↦
  Go.AI.pSome l74[(0 : Nat)]? fun (u75 : Go.Value) ↦
  Go.AI.tI Go.IntKind.i64 u75 fun (n76 : Int) ↦
  Go.AI.tTup v72 fun (l77 : List Go.Value) ↦
  Go.AI.pSome l77[(1 : Nat)]? fun (u78 : Go.Value) ↦
  Go.AI.tI Go.IntKind.i64 u78 fun (n79 : Int) ↦
  T (23 : Nat) [Go.Value.int Go.IntKind.i64 n79] σ73 fun (v80 : Go.Value) (σ81 : Go.AI.AS) ↦
  Go.AI.tI Go.IntKind.i64 v80 fun (n82 : Int) ↦
  Go.AI.JoinS
  (Go.AI.jn Go.Proofs.Try.prog Go.AI.hintsS T (11 : Nat)
  [Bool.true, Bool.true, Bool.true, Bool.true, Bool.true, Bool.true, Bool.true] [] K)
  [((11 : Nat), Option.some (Go.Value.pointer b17)), ((13 : Nat), Option.some (Go.Value.pointer b24)),
  ((14 : Nat), Option.some (Go.Value.int Go.IntKind.i64 n82))]
  σ81)))
  (Go.AI.bmatch (n26 == (6 : Int))
  (Go.AI.ldc σ23 (Go.Addr.mk i0 ((0 : Nat) + (1 : Nat)) Option.none) fun (v83 : Go.Value) ↦
  Go.AI.tI Go.IntKind.i64 v83 fun (n84 : Int) ↦
  Go.AI.ldc σ23 (Go.Addr.mk i0 ((0 : Nat) + (2 : Nat)) Option.none) fun (v85 : Go.Value) ↦
  Go.AI.tI Go.IntKind.i64 v85 fun (n86 : Int) ↦
  Go.AI.ldc σ23 (Go.Addr.mk i0 ((0 : Nat) + (4 : Nat)) Option.none) fun (v87 : Go.Value) ↦
  Go.AI.tI Go.IntKind.u32 v87 fun (n88 : Int) ↦
  Go.AI.ldc σ23 (Go.Addr.mk i0 ((0 : Nat) + (3 : Nat)) Option.none) fun (v89 : Go.Value) ↦
  Go.AI.tI Go.IntKind.i64 v89 fun (n90 : Int) ↦
  T (36 : Nat)
  [Go.Value.pointer b17, Go.Value.int Go.IntKind.i64 n84, Go.Value.int Go.IntKind.i64 n86, Go.Value.int Go.IntKind.u32 n88,
  Go.Value.int Go.IntKind.i64 n90]
  σ23 fun (v91 : Go.Value) (σ92 : Go.AI.AS) ↦
  Go.AI.tI Go.IntKind.i64 v91 fun (n93 : Int) ↦
  T (23 : Nat) [Go.Value.int Go.IntKind.i64 n93] σ92 fun (v94 : Go.Value) (σ95 : Go.AI.AS) ↦
  Go.AI.tI Go.IntKind.i64 v94 fun (n96 : Int) ↦
  Go.AI.JoinS
  (Go.AI.jn Go.Proofs.Try.prog Go.AI.hintsS T (11 : Nat) [Bool.true, Bool.true, Bool.true, Bool.true, Bool.true, Bool.true, Bool.true] []
  K)
  [((11 : Nat), Option.some (Go.Value.pointer b17)), ((13 : Nat), Option.some (Go.Value.pointer b24)),
  ((14 : Nat), Option.some (Go.Value.int Go.IntKind.i64 n96))]
  σ95)
  (Go.AI.bmatch (n26 == (7 : Int))
  (Go.AI.ldc σ23 (Go.Addr.mk i0 ((0 : Nat) + (1 : Nat)) Option.none) fun (v97 : Go.Value) ↦
  Go.AI.tI Go.IntKind.i64 v97 fun (n98 : Int) ↦
  Go.AI.ldc σ23 (Go.Addr.mk i0 ((0 : Nat) + (2 : Nat)) Option.none) fun (v99 : Go.Value) ↦
  Go.AI.tI Go.IntKind.i64 v99 fun (n100 : Int) ↦
  T (37 : Nat) [Go.Value.pointer b17, Go.Value.int Go.IntKind.i64 n98, Go.Value.int Go.IntKind.i64 n100] σ23 fun (v101 : Go.Value) (σ102 : Go.AI.AS) ↦
  Go.AI.tI Go.IntKind.i64 v101 fun (n103 : Int) ↦
  T (23 : Nat) [Go.Value.int Go.IntKind.i64 n103] σ102 fun (v104 : Go.Value) (σ105 : Go.AI.AS) ↦
  Go.AI.tI Go.IntKind.i64 v104 fun (n106 : Int) ↦
  Go.AI.JoinS
  (Go.AI.jn Go.Proofs.Try.prog Go.AI.hintsS T (11 : Nat) [Bool.true, Bool.true, Bool.true, Bool.true, Bool.true, Bool.true, Bool.true] [] K)
  [((11 : Nat), Option.some (Go.Value.pointer b17)), ((13 : Nat), Option.some (Go.Value.pointer b24)),
  ((14 : Nat), Option.some (Go.Value.int Go.IntKind.i64 n106))]
  σ105)
  (Go.AI.ldc σ23 (Go.Addr.mk i0 ((0 : Nat) + (1 : Nat)) Option.none) fun (v107 : Go.Value) ↦
  Go.AI.tI Go.IntKind.i64 v107 fun (n108 : Int) ↦
  Go.AI.ldc σ23 (Go.Addr.mk i0 ((0 : Nat) + (2 : Nat)) Option.none) fun (v109 : Go.Value) ↦
  Go.AI.tI Go.IntKind.i64 v109 fun (n110 : Int) ↦
  Go.AI.ldc σ23 (Go.Addr.mk i0 ((0 : Nat) + (4 : Nat)) Option.none) fun (v111 : Go.Value) ↦
  Go.AI.tI Go.IntKind.u32 v111 fun (n112 : Int) ↦
  Go.AI.ldc σ23 (Go.Addr.mk i0 ((0 : Nat) + (3 : Nat)) Option.none) fun (v113 : Go.Value) ↦
  Go.AI.tI Go.IntKind.i64 v113 fun (n114 : Int) ↦
  T (22 : Nat)
  [Go.Value.pointer b17, Go.Value.int Go.IntKind.i64 n108, Go.Value.int Go.IntKind.i64 n110, Go.Value.int Go.IntKind.u32 n112,
  Go.Value.int Go.IntKind.i64 n114]
  σ23 fun (v115 : Go.Value) (σ116 : Go.AI.AS) ↦
  Go.AI.tTup v115 fun (l117 : List Go.Value) ↦
  Go.AI.pSome l117[(0 : Nat)]? fun (u118 : Go.Value) ↦
  Go.AI.tI Go.IntKind.i64 u118 fun (n119 : Int) ↦
  Go.AI.tTup v115 fun (l120 : List Go.Value) ↦
  Go.AI.pSome l120[(1 : Nat)]? fun (u121 : Go.Value) ↦
  Go.AI.tI Go.IntKind.i64 u121 fun (n122 : Int) ↦
  T (23 : Nat) [Go.Value.int Go.IntKind.i64 n122] σ116 fun (v123 : Go.Value) (σ124 : Go.AI.AS) ↦
  Go.AI.tI Go.IntKind.i64 v123 fun (n125 : Int) ↦
  Go.AI.JoinS
  (Go.AI.jn Go.Proofs.Try.prog Go.AI.hintsS T (11 : Nat)
  [Bool.true, Bool.true, Bool.true, Bool.true, Bool.true, Bool.true, Bool.true] [] K)
  [((11 : Nat), Option.some (Go.Value.pointer b17)), ((13 : Nat), Option.some (Go.Value.pointer b24)),
  ((14 : Nat), Option.some (Go.Value.int Go.IntKind.i64 n125))]
  σ124)))))) := by
  intros
  kernel_rfl

theorem s11j : ∀ (T : Go.AI.Ct) (er : Int) (t was : Nat) (σ : Go.AI.AS) (K : Go.Value → Go.AI.AS → Prop),
  Go.AI.jn Go.Proofs.Try.prog Go.AI.hintsS T (11 : Nat) [Bool.true, Bool.true, Bool.true, Bool.true, Bool.true, Bool.true, Bool.true] [] K
  [((11 : Nat), Option.some (Go.Value.pointer (Option.some (Go.Addr.mk t (0 : Nat) Option.none)))), ((13 : Nat), Option.some (Go.Value.pointer (Option.some (Go.Addr.mk was (0 : Nat) Option.none)))),
  ((14 : Nat), Option.some (Go.Value.int Go.IntKind.i64 er))]
  σ =
  Go.AI.bmatch (er == (0 : Int)) (T (13 : Nat) [] σ fun (v0 : Go.Value) (σ1 : Go.AI.AS) ↦ Go.AI.tB v0 fun (b2 : Bool) ↦ K (Go.Value.bool b2) σ1)
  (T (34 : Nat) [Go.Value.pointer (Option.some (Go.Addr.mk t (0 : Nat) Option.none)), Go.Value.pointer (Option.some (Go.Addr.mk was (0 : Nat) Option.none))] σ fun (v3 : Go.Value) (σ4 : Go.AI.AS) ↦
  Go.AI.tB v3 fun (b5 : Bool) ↦ Go.AI.bmatch b5 (T (13 : Nat) [] σ4 fun (v6 : Go.Value) (σ7 : Go.AI.AS) ↦ Go.AI.tB v6 fun (b8 : Bool) ↦ K (Go.Value.bool b8) σ7) (K (Go.Value.bool Bool.false) σ4)) := by
  intros
  kernel_rfl

theorem s13 : ∀ (T : Go.AI.Ct) (σ : Go.AI.AS) (K : Go.Value → Go.AI.AS → Prop),
  Go.AI.fw Go.Proofs.Try.prog Go.AI.hintsS T (13 : Nat) [] σ K =
  T (31 : Nat) [Go.Value.int Go.IntKind.i64 (80 : Int), Go.Value.int Go.IntKind.i64 (24 : Int)] σ fun (v0 : Go.Value) (σ1 : Go.AI.AS) ↦
  Go.AI.tTup v0 fun (l2 : List Go.Value) ↦
  Go.AI.pSome l2[(0 : Nat)]? fun (u3 : Go.Value) ↦
  Go.AI.tP u3 fun (b4 : Option Go.Addr) ↦
  Go.AI.tTup v0 fun (l5 : List Go.Value) ↦
  Go.AI.pSome l5[(1 : Nat)]? fun (u6 : Go.Value) ↦
  Go.AI.tI Go.IntKind.i64 u6 fun (n7 : Int) ↦
  T (23 : Nat) [Go.Value.int Go.IntKind.i64 n7] σ1 fun (v8 : Go.Value) (σ9 : Go.AI.AS) ↦
  Go.AI.tI Go.IntKind.i64 v8 fun (n10 : Int) ↦
  Go.AI.bmatch (n10 != (0 : Int)) (K (Go.Value.bool Bool.false) σ9)
  (Go.AI.ptrEq σ9 b4 Option.none fun (r11 : Bool) ↦
  Go.AI.bmatch r11 (K (Go.Value.bool Bool.false) σ9)
  (T (22 : Nat)
  [Go.Value.pointer b4, Go.Value.int Go.IntKind.i64 (0 : Int), Go.Value.int Go.IntKind.i64 (0 : Int), Go.Value.int Go.IntKind.u32 (0 : Int), Go.Value.int Go.IntKind.i64 (2 : Int)] σ9
  fun (v12 : Go.Value) (σ13 : Go.AI.AS) ↦
  Go.AI.tTup v12 fun (l14 : List Go.Value) ↦
  Go.AI.pSome l14[(0 : Nat)]? fun (u15 : Go.Value) ↦
  Go.AI.tI Go.IntKind.i64 u15 fun (n16 : Int) ↦
  Go.AI.tTup v12 fun (l17 : List Go.Value) ↦
  Go.AI.pSome l17[(1 : Nat)]? fun (u18 : Go.Value) ↦
  Go.AI.tI Go.IntKind.i64 u18 fun (n19 : Int) ↦
  T (22 : Nat)
  [Go.Value.pointer b4, Go.Value.int Go.IntKind.i64 (1 : Int), Go.Value.int Go.IntKind.i64 (18 : Int), Go.Value.int Go.IntKind.u32 (3 : Int),
  Go.Value.int Go.IntKind.i64 (3 : Int)]
  σ13 fun (v20 : Go.Value) (σ21 : Go.AI.AS) ↦
  Go.AI.tTup v20 fun (l22 : List Go.Value) ↦
  Go.AI.pSome l22[(0 : Nat)]? fun (u23 : Go.Value) ↦
  Go.AI.tI Go.IntKind.i64 u23 fun (n24 : Int) ↦
  Go.AI.tTup v20 fun (l25 : List Go.Value) ↦
  Go.AI.pSome l25[(1 : Nat)]? fun (u26 : Go.Value) ↦
  Go.AI.tI Go.IntKind.i64 u26 fun (n27 : Int) ↦
  T (22 : Nat)
  [Go.Value.pointer b4, Go.Value.int Go.IntKind.i64 (1 : Int), Go.Value.int Go.IntKind.i64 (33 : Int), Go.Value.int Go.IntKind.u32 (25 : Int),
  Go.Value.int Go.IntKind.i64 (2 : Int)]
  σ21 fun (v28 : Go.Value) (σ29 : Go.AI.AS) ↦
  Go.AI.tTup v28 fun (l30 : List Go.Value) ↦
  Go.AI.pSome l30[(0 : Nat)]? fun (u31 : Go.Value) ↦
  Go.AI.tI Go.IntKind.i64 u31 fun (n32 : Int) ↦
  Go.AI.tTup v28 fun (l33 : List Go.Value) ↦
  Go.AI.pSome l33[(1 : Nat)]? fun (u34 : Go.Value) ↦
  Go.AI.tI Go.IntKind.i64 u34 fun (n35 : Int) ↦
  T (17 : Nat) [Go.Value.pointer b4, Go.Value.int Go.IntKind.i64 (4 : Int)] σ29 fun (v36 : Go.Value) (σ37 : Go.AI.AS) ↦
  Go.AI.tTup v36 fun (l38 : List Go.Value) ↦
  Go.AI.pSome l38[(0 : Nat)]? fun (u39 : Go.Value) ↦
  Go.AI.tAgg u39 fun (l40 : List Go.Value) ↦
  Go.AI.tCons l40 fun (v41 : Go.Value) (l42 : List Go.Value) ↦
  Go.AI.tI Go.IntKind.i64 v41 fun (n43 : Int) ↦
  Go.AI.tCons l42 fun (v44 : Go.Value) (l45 : List Go.Value) ↦
  Go.AI.tI Go.IntKind.i64 v44 fun (n46 : Int) ↦
  Go.AI.tCons l45 fun (v47 : Go.Value) (l48 : List Go.Value) ↦
  Go.AI.tI Go.IntKind.i64 v47 fun (n49 : Int) ↦
  Go.AI.tCons l48 fun (v50 : Go.Value) (l51 : List Go.Value) ↦
  Go.AI.tI Go.IntKind.i64 v50 fun (n52 : Int) ↦
  Go.AI.tNil l51
  (Go.AI.tTup v36 fun (l53 : List Go.Value) ↦
  Go.AI.pSome l53[(1 : Nat)]? fun (u54 : Go.Value) ↦
  Go.AI.tB u54 fun (b55 : Bool) ↦
  Go.AI.newAt σ37
  (Go.AI.AObj.row Go.AI.RK.plain
  [Go.Value.int Go.IntKind.i64 (0 : Int), Go.Value.int Go.IntKind.i64 (0 : Int),
  Go.Value.int Go.IntKind.i64 (0 : Int), Go.Value.int Go.IntKind.i64 (0 : Int)])
  fun (i56 : Nat) (σ57 : Go.AI.AS) ↦
  Go.AI.puts σ57 (Go.Addr.mk i56 (0 : Nat) Option.none)
  [Go.Value.int Go.IntKind.i64 n43, Go.Value.int Go.IntKind.i64 n46, Go.Value.int Go.IntKind.i64 n49,
  Go.Value.int Go.IntKind.i64 n52]
  fun (σ58 : Go.AI.AS) ↦
  T (28 : Nat) [Go.Value.pointer b4, Go.Value.int Go.IntKind.i64 (2 : Int)] σ58
  fun (v59 : Go.Value) (σ60 : Go.AI.AS) ↦
  Go.AI.tTup v59 fun (l61 : List Go.Value) ↦
  Go.AI.pSome l61[(0 : Nat)]? fun (u62 : Go.Value) ↦
  Go.AI.tL (1 : Nat) u62 fun (s63 : Go.AI.Sl) ↦
  Go.AI.tTup v59 fun (l64 : List Go.Value) ↦
  Go.AI.pSome l64[(1 : Nat)]? fun (u65 : Go.Value) ↦
  Go.AI.tI Go.IntKind.i64 u65 fun (n66 : Int) ↦
  T (17 : Nat) [Go.Value.pointer b4, Go.Value.int Go.IntKind.i64 (1 : Int)] σ60
  fun (v67 : Go.Value) (σ68 : Go.AI.AS) ↦
  Go.AI.tTup v67 fun (l69 : List Go.Value) ↦
  Go.AI.pSome l69[(0 : Nat)]? fun (u70 : Go.Value) ↦
  Go.AI.tAgg u70 fun (l71 : List Go.Value) ↦
  Go.AI.tCons l71 fun (v72 : Go.Value) (l73 : List Go.Value) ↦
  Go.AI.tI Go.IntKind.i64 v72 fun (n74 : Int) ↦
  Go.AI.tCons l73 fun (v75 : Go.Value) (l76 : List Go.Value) ↦
  Go.AI.tI Go.IntKind.i64 v75 fun (n77 : Int) ↦
  Go.AI.tCons l76 fun (v78 : Go.Value) (l79 : List Go.Value) ↦
  Go.AI.tI Go.IntKind.i64 v78 fun (n80 : Int) ↦
  Go.AI.tCons l79 fun (v81 : Go.Value) (l82 : List Go.Value) ↦
  Go.AI.tI Go.IntKind.i64 v81 fun (n83 : Int) ↦
  Go.AI.tNil l82
  (Go.AI.tTup v67 fun (l84 : List Go.Value) ↦
  Go.AI.pSome l84[(1 : Nat)]? fun (u85 : Go.Value) ↦
  Go.AI.tB u85 fun (b86 : Bool) ↦
  Go.AI.newAt σ68
  (Go.AI.AObj.row Go.AI.RK.plain
  [Go.Value.int Go.IntKind.i64 (0 : Int),
  Go.Value.int Go.IntKind.i64 (0 : Int),
  Go.Value.int Go.IntKind.i64 (0 : Int),
  Go.Value.int Go.IntKind.i64 (0 : Int)])
  fun (i87 : Nat) (σ88 : Go.AI.AS) ↦
  Go.AI.puts σ88 (Go.Addr.mk i87 (0 : Nat) Option.none)
  [Go.Value.int Go.IntKind.i64 n74,
  Go.Value.int Go.IntKind.i64 n77,
  Go.Value.int Go.IntKind.i64 n80,
  Go.Value.int Go.IntKind.i64 n83]
  fun (σ89 : Go.AI.AS) ↦
  T (23 : Nat) [Go.Value.int Go.IntKind.i64 n19] σ89
  fun (v90 : Go.Value) (σ91 : Go.AI.AS) ↦
  Go.AI.tI Go.IntKind.i64 v90 fun (n92 : Int) ↦
  T (23 : Nat) [Go.Value.int Go.IntKind.i64 n27] σ91
  fun (v93 : Go.Value) (σ94 : Go.AI.AS) ↦
  Go.AI.tI Go.IntKind.i64 v93 fun (n95 : Int) ↦
  T (23 : Nat) [Go.Value.int Go.IntKind.i64 n35] σ94
  fun (v96 : Go.Value) (σ97 : Go.AI.AS) ↦
  Go.AI.tI Go.IntKind.i64 v96 fun (n98 : Int) ↦
  T (23 : Nat) [Go.Value.int Go.IntKind.i64 n66] σ97
  fun (v99 : Go.Value) (σ100 : Go.AI.AS) ↦
  Go.AI.tI Go.IntKind.i64 v99 fun (n101 : Int) ↦
  Go.AI.bmatch
  (Go.IntKind.wrap Go.IntKind.i64
  (Go.IntKind.wrap Go.IntKind.i64
  (Go.IntKind.wrap Go.IntKind.i64
  (n92 + n95) +
  n98) +
  n101) ==
  (0 : Int))
  (Go.AI.bmatch (n16 == (1 : Int))
  (Go.AI.bmatch (n24 == (2 : Int))
  (Go.AI.bmatch (n32 == (4 : Int))
  (Go.AI.bmatch b55
  (Go.AI.bmatch b86
  (Go.AI.lds σ100
  (Go.Addr.mk i56 (0 : Nat)
  Option.none)
  (4 : Nat)
  fun (l102 : List Go.Value) ↦
  Go.AI.tCons l102
  fun (v103 : Go.Value)
  (l104 : List Go.Value) ↦
  Go.AI.tI Go.IntKind.i64 v103
  fun (n105 : Int) ↦
  Go.AI.tCons l104
  fun (v106 : Go.Value)
  (l107 : List Go.Value) ↦
  Go.AI.tI Go.IntKind.i64 v106
  fun (n108 : Int) ↦
  Go.AI.tCons l107
  fun (v109 : Go.Value)
  (l110 :
  List Go.Value) ↦
  Go.AI.tI Go.IntKind.i64
  v109
  fun (n111 : Int) ↦
  Go.AI.tCons l110
  fun
  (v112 : Go.Value)
  (l113 :
  List Go.Value) ↦
  Go.AI.tI
  Go.IntKind.i64
  v112
  fun (n114 : Int) ↦
  Go.AI.tNil l113
  (Go.AI.bmatch
  (n105 ==
  (60 :
  Int) &&
  (n108 ==
  (3 :
  Int) &&
  (n111 ==
  (20 :
  Int) &&
  (n114 ==
  (21 :
  Int) &&
  Bool.true))))
  (Go.AI.lds
  σ100
  (Go.Addr.mk
  i87
  (0 : Nat)
  Option.none)
  (4 : Nat)
  fun
  (l115 :
  List
  Go.Value) ↦
  Go.AI.tCons
  l115
  fun
  (v116 :
  Go.Value)
  (l117 :
  List
  Go.Value) ↦
  Go.AI.tI
  Go.IntKind.i64
  v116
  fun
  (n118 :
  Int) ↦
  Go.AI.tCons
  l117
  fun
  (v119 :
  Go.Value)
  (l120 :
  List
  Go.Value) ↦
  Go.AI.tI
  Go.IntKind.i64
  v119
  fun
  (n121 :
  Int) ↦
  Go.AI.tCons
  l120
  fun
  (v122 :
  Go.Value)
  (l123 :
  List
  Go.Value) ↦
  Go.AI.tI
  Go.IntKind.i64
  v122
  fun
  (n124 :
  Int) ↦
  Go.AI.tCons
  l123
  fun
  (v125 :
  Go.Value)
  (l126 :
  List
  Go.Value) ↦
  Go.AI.tI
  Go.IntKind.i64
  v125
  fun
  (n127 :
  Int) ↦
  Go.AI.tNil
  l126
  (Go.AI.bmatch
  (n118 ==
  (0 :
  Int) &&
  (n121 ==
  (0 :
  Int) &&
  (n124 ==
  (60 :
  Int) &&
  (n127 ==
  (24 :
  Int) &&
  Bool.true))))
  (Go.AI.newAt
  σ100
  (Go.AI.AObj.row
  Go.AI.RK.rw
  [Go.Value.int
  Go.IntKind.i64
  (2 :
  Int),
  Go.Value.int
  Go.IntKind.i64
  (3 :
  Int)])
  fun
  (i128 :
  Nat)
  (σ129 :
  Go.AI.AS) ↦
  T
  (35 :
  Nat)
  [Go.Value.slice
  (Go.AI.Sl.a
  s63)
  (Go.AI.Sl.n
  s63)
  (1 :
  Nat),
  Go.Value.slice
  (Option.some
  (Go.Addr.mk
  i128
  (0 :
  Nat)
  Option.none))
  (2 :
  Nat)
  (1 :
  Nat)]
  σ129
  fun
  (v130 :
  Go.Value)
  (σ131 :
  Go.AI.AS) ↦
  Go.AI.tB
  v130
  fun
  (b132 :
  Bool) ↦
  K
  (Go.Value.bool
  b132)
  σ131)
  (K
  (Go.Value.bool
  Bool.false)
  σ100)))
  (K
  (Go.Value.bool
  Bool.false)
  σ100)))
  (K (Go.Value.bool Bool.false)
  σ100))
  (K (Go.Value.bool Bool.false) σ100))
  (K (Go.Value.bool Bool.false) σ100))
  (K (Go.Value.bool Bool.false) σ100))
  (K (Go.Value.bool Bool.false) σ100))
  (K (Go.Value.bool Bool.false) σ100))))) := by
  intros
  kernel_rfl

end Go.AI
