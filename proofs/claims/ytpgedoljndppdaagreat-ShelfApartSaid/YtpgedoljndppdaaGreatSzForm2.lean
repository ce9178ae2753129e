/- Lemmas of the abstract condition ahead of code (a part of the library that the claim's proof stands on); they hold with no condition but those that each names. -/
import Derived.Test.YtpgedoljndppdaaGreatSzSoft
import Derived.Test.YtpgedoljndppdaaGreatAIJoin
section
/- The conditions ahead of the calls of the program's functions, reckoned as far as they go (equations that the kernel checks); no condition. -/
set_option maxRecDepth 1000000
set_option linter.unusedVariables false
namespace Go.AI
open Go.Proofs
theorem s15 : ∀ (T : Go.AI.Ct) (s : Nat) (name : ByteArray) (mode : Int) (w : Bool) (σ : Go.AI.AS) (K : Go.Value → Go.AI.AS → Prop),
  Go.AI.fw Go.Proofs.Tryz.prog Go.AI.hintsS T (15 : Nat) [Go.Value.pointer (Option.some (Go.Addr.mk s (0 : Nat) Option.none)), Go.Value.string name, Go.Value.int Go.IntKind.i64 mode, Go.Value.bool w] σ K =
  T (47 : Nat) [Go.Value.pointer (Option.some (Go.Addr.mk s (0 : Nat) Option.none)), Go.Value.string name, Go.Value.int Go.IntKind.i64 mode] σ fun (v0 : Go.Value) (σ1 : Go.AI.AS) ↦
  Go.AI.tI Go.IntKind.i64 v0 fun (n2 : Int) ↦
  Go.AI.bmatch (n2 != (0 : Int)) (K (Go.Value.tuple (Array.mk [Go.Value.int Go.IntKind.i64 (0 : Int), Go.Value.int Go.IntKind.i64 n2])) σ1)
  (Go.AI.ldc σ1 (Go.Addr.mk s ((0 : Nat) + (2 : Nat)) Option.none) fun (v3 : Go.Value) ↦
  Go.AI.tM v3 fun (b4 : Option Nat) ↦
  Go.AI.mget σ1 Go.TypeDesc.string b4 (Go.Value.string name) fun (o5 : Option Go.Value) ↦
  Go.AI.tP (Option.getD o5 (Go.Value.pointer Option.none)) fun (b6 : Option Go.Addr) ↦
  Go.AI.ptrEq σ1 b6 Option.none fun (r7 : Bool) ↦
  Go.AI.bmatch r7
  (Go.AI.ldc σ1 (Go.Addr.mk s ((0 : Nat) + (2 : Nat)) Option.none) fun (v8 : Go.Value) ↦
  Go.AI.tM v8 fun (b9 : Option Nat) ↦
  Go.AI.newAt σ1 (Go.AI.AObj.row Go.AI.RK.plain [Go.Value.slice Option.none (0 : Nat) (0 : Nat), Go.Value.slice Option.none (0 : Nat) (0 : Nat)]) fun (i10 : Nat) (σ11 : Go.AI.AS) ↦
  Go.AI.pSome b9 fun (i12 : Nat) ↦
  Go.AI.mset σ11 Go.TypeDesc.string i12 (Go.Value.string name) (Go.Value.pointer (Option.some (Go.Addr.mk i10 (0 : Nat) Option.none))) fun (σ13 : Go.AI.AS) ↦
  Go.AI.JoinS (Go.AI.jn Go.Proofs.Tryz.prog Go.AI.hintsS T (15 : Nat) [Bool.true, Bool.true, Bool.true] [] K)
  [((0 : Nat), Option.some (Go.Value.pointer (Option.some (Go.Addr.mk s (0 : Nat) Option.none)))), ((1 : Nat), Option.some (Go.Value.string name)),
  ((2 : Nat), Option.some (Go.Value.int Go.IntKind.i64 mode)), ((3 : Nat), Option.some (Go.Value.bool w))]
  σ13)
  (Go.AI.JoinS (Go.AI.jn Go.Proofs.Tryz.prog Go.AI.hintsS T (15 : Nat) [Bool.true, Bool.true, Bool.true] [] K)
  [((0 : Nat), Option.some (Go.Value.pointer (Option.some (Go.Addr.mk s (0 : Nat) Option.none)))), ((1 : Nat), Option.some (Go.Value.string name)),
  ((2 : Nat), Option.some (Go.Value.int Go.IntKind.i64 mode)), ((3 : Nat), Option.some (Go.Value.bool w))]
  σ1)) := by
  intros
  kernel_rfl

theorem s15j : ∀ (T : Go.AI.Ct) (s : Nat) (name : ByteArray) (mode : Int) (w : Bool) (σ : Go.AI.AS) (K : Go.Value → Go.AI.AS → Prop),
  Go.AI.jn Go.Proofs.Tryz.prog Go.AI.hintsS T (15 : Nat) [Bool.true, Bool.true, Bool.true] [] K
  [((0 : Nat), Option.some (Go.Value.pointer (Option.some (Go.Addr.mk s (0 : Nat) Option.none)))), ((1 : Nat), Option.some (Go.Value.string name)), ((2 : Nat), Option.some (Go.Value.int Go.IntKind.i64 mode)),
  ((3 : Nat), Option.some (Go.Value.bool w))]
  σ =
  Go.AI.ldc σ (Go.Addr.mk s ((0 : Nat) + (2 : Nat)) Option.none) fun (v0 : Go.Value) ↦
  Go.AI.tM v0 fun (b1 : Option Nat) ↦
  Go.AI.mget σ Go.TypeDesc.string b1 (Go.Value.string name) fun (o2 : Option Go.Value) ↦
  Go.AI.tP (Option.getD o2 (Go.Value.pointer Option.none)) fun (b3 : Option Go.Addr) ↦
  Go.AI.bmatch (mode == (1 : Int))
  (Go.AI.pSome b3 fun (a4 : Go.Addr) ↦
  Go.AI.put1 σ (Go.Addr.add a4 (0 : Nat)) (Go.Value.slice Option.none (0 : Nat) (0 : Nat)) fun (σ5 : Go.AI.AS) ↦
  Go.AI.JoinS (Go.AI.jn Go.Proofs.Tryz.prog Go.AI.hintsS T (15 : Nat) [Bool.true, Bool.true, Bool.true, Bool.true, Bool.true] [] K)
  [((0 : Nat), Option.some (Go.Value.pointer (Option.some (Go.Addr.mk s (0 : Nat) Option.none)))), ((2 : Nat), Option.some (Go.Value.int Go.IntKind.i64 mode)),
  ((3 : Nat), Option.some (Go.Value.bool w)), ((11 : Nat), Option.some (Go.Value.pointer b3))]
  σ5)
  (Go.AI.JoinS (Go.AI.jn Go.Proofs.Tryz.prog Go.AI.hintsS T (15 : Nat) [Bool.true, Bool.true, Bool.true, Bool.true, Bool.true] [] K)
  [((0 : Nat), Option.some (Go.Value.pointer (Option.some (Go.Addr.mk s (0 : Nat) Option.none)))), ((2 : Nat), Option.some (Go.Value.int Go.IntKind.i64 mode)),
  ((3 : Nat), Option.some (Go.Value.bool w)), ((11 : Nat), Option.some (Go.Value.pointer b3))]
  σ) := by
  intros
  kernel_rfl

theorem s15j1 : ∀ (T : Go.AI.Ct) (s : Nat) (mode : Int) (w : Bool) (f : Nat) (σ : Go.AI.AS) (K : Go.Value → Go.AI.AS → Prop),
  Go.AI.jn Go.Proofs.Tryz.prog Go.AI.hintsS T (15 : Nat) [Bool.true, Bool.true, Bool.true, Bool.true, Bool.true] [] K
  [((0 : Nat), Option.some (Go.Value.pointer (Option.some (Go.Addr.mk s (0 : Nat) Option.none)))), ((2 : Nat), Option.some (Go.Value.int Go.IntKind.i64 mode)), ((3 : Nat), Option.some (Go.Value.bool w)),
  ((11 : Nat), Option.some (Go.Value.pointer (Option.some (Go.Addr.mk f (0 : Nat) Option.none))))]
  σ =
  Go.AI.newAt σ
  (Go.AI.AObj.row Go.AI.RK.plain
  [Go.Value.iface (106 : Nat) (Go.Value.agg (Array.mk [Go.Value.pointer (Option.some (Go.Addr.mk f (0 : Nat) Option.none))])), Go.Value.pointer (Option.some (Go.Addr.mk f (0 : Nat) Option.none)),
  Go.Value.int Go.IntKind.i64 mode, Go.Value.int Go.IntKind.i64 (0 : Int), Go.Value.int Go.IntKind.u32 (0 : Int), Go.Value.int Go.IntKind.u32 (0 : Int)])
  fun (i0 : Nat) (σ1 : Go.AI.AS) ↦
  Go.AI.bmatch w
  (Go.AI.put1 σ1 (Go.Addr.mk i0 (0 : Nat) Option.none) (Go.Value.iface (107 : Nat) (Go.Value.agg (Array.mk [Go.Value.pointer (Option.some (Go.Addr.mk f (0 : Nat) Option.none))]))) fun (σ2 : Go.AI.AS) ↦
  Go.AI.JoinS (Go.AI.jn Go.Proofs.Tryz.prog Go.AI.hintsS T (15 : Nat) [Bool.true, Bool.true, Bool.true, Bool.true, Bool.true, Bool.true, Bool.true] [] K)
  [((0 : Nat), Option.some (Go.Value.pointer (Option.some (Go.Addr.mk s (0 : Nat) Option.none)))), ((2 : Nat), Option.some (Go.Value.int Go.IntKind.i64 mode)),
  ((11 : Nat), Option.some (Go.Value.pointer (Option.some (Go.Addr.mk f (0 : Nat) Option.none)))), ((12 : Nat), Option.some (Go.Value.pointer (Option.some (Go.Addr.mk i0 (0 : Nat) Option.none))))]
  σ2)
  (Go.AI.JoinS (Go.AI.jn Go.Proofs.Tryz.prog Go.AI.hintsS T (15 : Nat) [Bool.true, Bool.true, Bool.true, Bool.true, Bool.true, Bool.true, Bool.true] [] K)
  [((0 : Nat), Option.some (Go.Value.pointer (Option.some (Go.Addr.mk s (0 : Nat) Option.none)))), ((2 : Nat), Option.some (Go.Value.int Go.IntKind.i64 mode)),
  ((11 : Nat), Option.some (Go.Value.pointer (Option.some (Go.Addr.mk f (0 : Nat) Option.none)))), ((12 : Nat), Option.some (Go.Value.pointer (Option.some (Go.Addr.mk i0 (0 : Nat) Option.none))))]
  σ1) := by
  intros
  kernel_rfl

theorem s15j2 : ∀ (T : Go.AI.Ct) (s : Nat) (mode : Int) (f x : Nat) (σ : Go.AI.AS) (K : Go.Value → Go.AI.AS → Prop),
  Go.AI.jn Go.Proofs.Tryz.prog Go.AI.hintsS T (15 : Nat) [Bool.true, Bool.true, Bool.true, Bool.true, Bool.true, Bool.true, Bool.true] [] K
  [((0 : Nat), Option.some (Go.Value.pointer (Option.some (Go.Addr.mk s (0 : Nat) Option.none)))), ((2 : Nat), Option.some (Go.Value.int Go.IntKind.i64 mode)),
  ((11 : Nat), Option.some (Go.Value.pointer (Option.some (Go.Addr.mk f (0 : Nat) Option.none)))), ((12 : Nat), Option.some (Go.Value.pointer (Option.some (Go.Addr.mk x (0 : Nat) Option.none))))]
  σ =
  Go.AI.bmatch (mode == (5 : Int))
  (Go.AI.ldc σ (Go.Addr.mk x (0 : Nat) Option.none) fun (v0 : Go.Value) ↦
  Go.AI.tIf v0
  (fun (t1 : Nat) (u2 : Go.Value) ↦
  Go.AI.pSome (Go.AI.methodOf Go.Proofs.Tryz.prog t1 "grotto/shelf.size") fun (f3 : Go.FuncId) ↦
  T f3 [u2] σ fun (v4 : Go.Value) (σ5 : Go.AI.AS) ↦
  Go.AI.tI Go.IntKind.i64 v4 fun (n6 : Int) ↦
  Go.AI.put1 σ5 (Go.Addr.mk x ((0 : Nat) + (3 : Nat)) Option.none) (Go.Value.int Go.IntKind.i64 n6) fun (σ7 : Go.AI.AS) ↦
  Go.AI.JoinS (Go.AI.jn Go.Proofs.Tryz.prog Go.AI.hintsS T (15 : Nat) [Bool.true, Bool.true, Bool.true, Bool.true, Bool.true, Bool.true, Bool.true, Bool.true] [] K)
  [((0 : Nat), Option.some (Go.Value.pointer (Option.some (Go.Addr.mk s (0 : Nat) Option.none)))), ((11 : Nat), Option.some (Go.Value.pointer (Option.some (Go.Addr.mk f (0 : Nat) Option.none)))),
  ((12 : Nat), Option.some (Go.Value.pointer (Option.some (Go.Addr.mk x (0 : Nat) Option.none))))]
  σ7)
  False)
  (Go.AI.JoinS (Go.AI.jn Go.Proofs.Tryz.prog Go.AI.hintsS T (15 : Nat) [Bool.true, Bool.true, Bool.true, Bool.true, Bool.true, Bool.true, Bool.true, Bool.true] [] K)
  [((0 : Nat), Option.some (Go.Value.pointer (Option.some (Go.Addr.mk s (0 : Nat) Option.none)))), ((11 : Nat), Option.some (Go.Value.pointer (Option.some (Go.Addr.mk f (0 : Nat) Option.none)))),
  ((12 : Nat), Option.some (Go.Value.pointer (Option.some (Go.Addr.mk x (0 : Nat) Option.none))))]
  σ) := by
  intros
  kernel_rfl

theorem s15j3 : ∀ (T : Go.AI.Ct) (s f x : Nat) (σ : Go.AI.AS) (K : Go.Value → Go.AI.AS → Prop),
  Go.AI.jn Go.Proofs.Tryz.prog Go.AI.hintsS T (15 : Nat) [Bool.true, Bool.true, Bool.true, Bool.true, Bool.true, Bool.true, Bool.true, Bool.true] [] K
  [((0 : Nat), Option.some (Go.Value.pointer (Option.some (Go.Addr.mk s (0 : Nat) Option.none)))), ((11 : Nat), Option.some (Go.Value.pointer (Option.some (Go.Addr.mk f (0 : Nat) Option.none)))),
  ((12 : Nat), Option.some (Go.Value.pointer (Option.some (Go.Addr.mk x (0 : Nat) Option.none))))]
  σ =
  Go.AI.ldc σ (Go.Addr.mk f ((0 : Nat) + (1 : Nat)) Option.none) fun (v0 : Go.Value) ↦
  Go.AI.tL (1 : Nat) v0 fun (s1 : Go.AI.Sl) ↦
  Go.AI.newAt σ (Go.AI.AObj.row Go.AI.RK.rw [Go.Value.pointer (Option.some (Go.Addr.mk x (0 : Nat) Option.none))]) fun (i2 : Nat) (σ3 : Go.AI.AS) ↦
  Go.AI.lds σ3 (Go.Addr.mk i2 (0 : Nat) Option.none) (1 : Nat) fun (l4 : List Go.Value) ↦
  Go.AI.appendTo σ3 (1 : Nat) (8 : Nat) (Go.AI.Sl.mk (Go.AI.Sl.a s1) (Go.AI.Sl.n s1)) l4 (1 : Nat) fun (s5 : Go.AI.Sl) (σ6 : Go.AI.AS) ↦
  Go.AI.put1 σ6 (Go.Addr.mk f ((0 : Nat) + (1 : Nat)) Option.none) (Go.Value.slice (Go.AI.Sl.a s5) (Go.AI.Sl.n s5) (1 : Nat)) fun (σ7 : Go.AI.AS) ↦
  T (48 : Nat) [Go.Value.pointer (Option.some (Go.Addr.mk s (0 : Nat) Option.none)), Go.Value.pointer (Option.some (Go.Addr.mk x (0 : Nat) Option.none))] σ7 fun (v8 : Go.Value) (σ9 : Go.AI.AS) ↦
  Go.AI.tI Go.IntKind.i64 v8 fun (n10 : Int) ↦ K (Go.Value.tuple (Array.mk [Go.Value.int Go.IntKind.i64 n10, Go.Value.int Go.IntKind.i64 (0 : Int)])) σ9 := by
  intros
  kernel_rfl

theorem s16 : ∀ (T : Go.AI.Ct) (s : Nat) (n place r3_1 : Int) (σ : Go.AI.AS) (K : Go.Value → Go.AI.AS → Prop),
  Go.AI.fw Go.Proofs.Tryz.prog Go.AI.hintsS T (16 : Nat)
  [Go.Value.pointer (Option.some (Go.Addr.mk s (0 : Nat) Option.none)), Go.Value.int Go.IntKind.i64 n, Go.Value.int Go.IntKind.i64 place, Go.Value.int Go.IntKind.i64 r3_1] σ K =
  T (45 : Nat) [Go.Value.pointer (Option.some (Go.Addr.mk s (0 : Nat) Option.none)), Go.Value.int Go.IntKind.i64 n] σ fun (v0 : Go.Value) (σ1 : Go.AI.AS) ↦
  Go.AI.tTup v0 fun (l2 : List Go.Value) ↦
  Go.AI.pSome l2[(0 : Nat)]? fun (u3 : Go.Value) ↦
  Go.AI.tP u3 fun (b4 : Option Go.Addr) ↦
  Go.AI.tTup v0 fun (l5 : List Go.Value) ↦
  Go.AI.pSome l5[(1 : Nat)]? fun (u6 : Go.Value) ↦
  Go.AI.tI Go.IntKind.i64 u6 fun (n7 : Int) ↦
  Go.AI.bmatch (n7 != (0 : Int)) (K (Go.Value.int Go.IntKind.i64 n7) σ1)
  (Go.AI.bmatch (r3_1 == (0 : Int))
  (Go.AI.JoinS (Go.AI.jn Go.Proofs.Tryz.prog Go.AI.hintsS T (16 : Nat) [Bool.true, Bool.true, Bool.true, Bool.true] [] K)
  [((2 : Nat), Option.some (Go.Value.int Go.IntKind.i64 place)), ((9 : Nat), Option.some (Go.Value.pointer b4)), ((11 : Nat), Option.some (Go.Value.int Go.IntKind.i64 (0 : Int)))] σ1)
  (Go.AI.bmatch (r3_1 == (1 : Int))
  (Go.AI.pSome b4 fun (a8 : Go.Addr) ↦
  Go.AI.ldc σ1 (Go.Addr.mk (Go.Addr.block a8) (Go.Addr.off a8 + (3 : Nat)) Option.none) fun (v9 : Go.Value) ↦
  Go.AI.tI Go.IntKind.i64 v9 fun (n10 : Int) ↦
  Go.AI.JoinS (Go.AI.jn Go.Proofs.Tryz.prog Go.AI.hintsS T (16 : Nat) [Bool.true, Bool.true, Bool.true, Bool.true] [] K)
  [((2 : Nat), Option.some (Go.Value.int Go.IntKind.i64 place)), ((9 : Nat), Option.some (Go.Value.pointer b4)), ((11 : Nat), Option.some (Go.Value.int Go.IntKind.i64 n10))] σ1)
  (Go.AI.bmatch (r3_1 == (2 : Int))
  (Go.AI.pSome b4 fun (a11 : Go.Addr) ↦
  Go.AI.ldc σ1 (Go.Addr.add a11 (0 : Nat)) fun (v12 : Go.Value) ↦
  Go.AI.tIf v12
  (fun (t13 : Nat) (u14 : Go.Value) ↦
  Go.AI.pSome (Go.AI.methodOf Go.Proofs.Tryz.prog t13 "grotto/shelf.size") fun (f15 : Go.FuncId) ↦
  T f15 [u14] σ1 fun (v16 : Go.Value) (σ17 : Go.AI.AS) ↦
  Go.AI.tI Go.IntKind.i64 v16 fun (n18 : Int) ↦
  Go.AI.JoinS (Go.AI.jn Go.Proofs.Tryz.prog Go.AI.hintsS T (16 : Nat) [Bool.true, Bool.true, Bool.true, Bool.true] [] K)
  [((2 : Nat), Option.some (Go.Value.int Go.IntKind.i64 place)), ((9 : Nat), Option.some (Go.Value.pointer b4)), ((11 : Nat), Option.some (Go.Value.int Go.IntKind.i64 n18))] σ17)
  False)
  (K (Go.Value.int Go.IntKind.i64 (1 : Int)) σ1)))) := by
  intros
  kernel_rfl

theorem s16j : ∀ (T : Go.AI.Ct) (place : Int) (x : Nat) (base : Int) (σ : Go.AI.AS) (K : Go.Value → Go.AI.AS → Prop),
  Go.AI.jn Go.Proofs.Tryz.prog Go.AI.hintsS T (16 : Nat) [Bool.true, Bool.true, Bool.true, Bool.true] [] K
  [((2 : Nat), Option.some (Go.Value.int Go.IntKind.i64 place)), ((9 : Nat), Option.some (Go.Value.pointer (Option.some (Go.Addr.mk x (0 : Nat) Option.none)))),
  ((11 : Nat), Option.some (Go.Value.int Go.IntKind.i64 base))]
  σ =
  Go.AI.ldc σ (Go.Addr.mk x (0 : Nat) Option.none) fun (v0 : Go.Value) ↦
  Go.AI.tIf v0
  (fun (t1 : Nat) (u2 : Go.Value) ↦
  Go.AI.pSome (Go.AI.methodOf Go.Proofs.Tryz.prog t1 "grotto/shelf.size") fun (f3 : Go.FuncId) ↦
  T f3 [u2] σ fun (v4 : Go.Value) (σ5 : Go.AI.AS) ↦
  Go.AI.tI Go.IntKind.i64 v4 fun (n6 : Int) ↦
  Go.AI.put1 σ5 (Go.Addr.mk x ((0 : Nat) + (3 : Nat)) Option.none)
  (Go.Value.int Go.IntKind.i64
  (Go.IntKind.wrap Go.IntKind.i64 (base + Go.AI.imax (Go.IntKind.wrap Go.IntKind.i64 ((0 : Int) - base)) (Go.AI.imin place (Go.IntKind.wrap Go.IntKind.i64 (n6 - base))))))
  fun (σ7 : Go.AI.AS) ↦ K (Go.Value.int Go.IntKind.i64 (0 : Int)) σ7)
  False := by
  intros
  kernel_rfl

theorem s21 : ∀ (T : Go.AI.Ct) (s : Nat) (name : ByteArray) (σ : Go.AI.AS) (K : Go.Value → Go.AI.AS → Prop),
  Go.AI.fw Go.Proofs.Tryz.prog Go.AI.hintsS T (21 : Nat) [Go.Value.pointer (Option.some (Go.Addr.mk s (0 : Nat) Option.none)), Go.Value.string name] σ K =
  Go.AI.ldc σ (Go.Addr.mk s ((0 : Nat) + (2 : Nat)) Option.none) fun (v0 : Go.Value) ↦
  Go.AI.tM v0 fun (b1 : Option Nat) ↦
  Go.AI.mget σ Go.TypeDesc.string b1 (Go.Value.string name) fun (o2 : Option Go.Value) ↦
  Go.AI.tP (Option.getD o2 (Go.Value.pointer Option.none)) fun (b3 : Option Go.Addr) ↦
  Go.AI.ptrEq σ b3 Option.none fun (r4 : Bool) ↦
  Go.AI.JoinS (Go.AI.jn Go.Proofs.Tryz.prog Go.AI.hintsS T (21 : Nat) [Bool.true, Bool.false] [] K)
  [((0 : Nat), Option.some (Go.Value.pointer (Option.some (Go.Addr.mk s (0 : Nat) Option.none)))), ((1 : Nat), Option.some (Go.Value.string name)), ((16 : Nat), Option.some (Go.Value.bool r4))] σ := by
  intros
  kernel_rfl

theorem s21j : ∀ (T : Go.AI.Ct) (s : Nat) (name : ByteArray) (r16_1 : Bool) (σ : Go.AI.AS) (K : Go.Value → Go.AI.AS → Prop),
  Go.AI.jn Go.Proofs.Tryz.prog Go.AI.hintsS T (21 : Nat) [Bool.true, Bool.false] [] K
  [((0 : Nat), Option.some (Go.Value.pointer (Option.some (Go.Addr.mk s (0 : Nat) Option.none)))), ((1 : Nat), Option.some (Go.Value.string name)), ((16 : Nat), Option.some (Go.Value.bool r16_1))] σ =
  Go.AI.bmatch r16_1 (K (Go.Value.tuple (Array.mk [Go.Value.slice Option.none (0 : Nat) (0 : Nat), Go.Value.bool Bool.false])) σ)
  (Go.AI.newAt σ (Go.AI.AObj.row Go.AI.RK.rw []) fun (i0 : Nat) (σ1 : Go.AI.AS) ↦
  Go.AI.ldc σ1 (Go.Addr.mk s ((0 : Nat) + (2 : Nat)) Option.none) fun (v2 : Go.Value) ↦
  Go.AI.tM v2 fun (b3 : Option Nat) ↦
  Go.AI.mget σ1 Go.TypeDesc.string b3 (Go.Value.string name) fun (o4 : Option Go.Value) ↦
  Go.AI.tP (Option.getD o4 (Go.Value.pointer Option.none)) fun (b5 : Option Go.Addr) ↦
  Go.AI.pSome b5 fun (a6 : Go.Addr) ↦
  Go.AI.ldc σ1 (Go.Addr.add a6 (0 : Nat)) fun (v7 : Go.Value) ↦
  Go.AI.tL (1 : Nat) v7 fun (s8 : Go.AI.Sl) ↦
  Go.AI.srcCells σ1 (1 : Nat) (Option.some (Go.Value.slice (Go.AI.Sl.a s8) (Go.AI.Sl.n s8) (1 : Nat))) fun (m9 : Nat) (new10 : List Go.Value) ↦
  Go.AI.appendTo σ1 (1 : Nat) (1 : Nat) (Go.AI.Sl.mk (Option.some (Go.Addr.mk i0 (0 : Nat) Option.none)) (0 : Nat)) new10 m9 fun (s11 : Go.AI.Sl) (σ12 : Go.AI.AS) ↦
  K (Go.Value.tuple (Array.mk [Go.Value.slice (Go.AI.Sl.a s11) (Go.AI.Sl.n s11) (1 : Nat), Go.Value.bool Bool.true])) σ12) := by
  intros
  kernel_rfl

theorem s22 : ∀ (T : Go.AI.Ct) (s : Nat) (n : Int) (σ : Go.AI.AS) (K : Go.Value → Go.AI.AS → Prop),
  Go.AI.fw Go.Proofs.Tryz.prog Go.AI.hintsS T (22 : Nat) [Go.Value.pointer (Option.some (Go.Addr.mk s (0 : Nat) Option.none)), Go.Value.int Go.IntKind.i64 n] σ K =
  T (45 : Nat) [Go.Value.pointer (Option.some (Go.Addr.mk s (0 : Nat) Option.none)), Go.Value.int Go.IntKind.i64 n] σ fun (v0 : Go.Value) (σ1 : Go.AI.AS) ↦
  Go.AI.tTup v0 fun (l2 : List Go.Value) ↦
  Go.AI.pSome l2[(0 : Nat)]? fun (u3 : Go.Value) ↦
  Go.AI.tP u3 fun (b4 : Option Go.Addr) ↦
  Go.AI.tTup v0 fun (l5 : List Go.Value) ↦
  Go.AI.pSome l5[(1 : Nat)]? fun (u6 : Go.Value) ↦
  Go.AI.tI Go.IntKind.i64 u6 fun (n7 : Int) ↦
  Go.AI.newAt σ1 (Go.AI.AObj.row Go.AI.RK.plain [Go.Value.pointer Option.none]) fun (i8 : Nat) (σ9 : Go.AI.AS) ↦
  Go.AI.put1 σ9 (Go.Addr.mk i8 (0 : Nat) Option.none) (Go.Value.pointer b4) fun (σ10 : Go.AI.AS) ↦
  Go.AI.bmatch (n7 != (0 : Int))
  (K (Go.Value.tuple (Array.mk [Go.Value.int Go.IntKind.u32 (0 : Int), Go.Value.int Go.IntKind.u32 (0 : Int), Go.Value.slice Option.none (0 : Nat) (0 : Nat), Go.Value.int Go.IntKind.i64 n7])) σ10)
  (Go.AI.ldc σ10 (Go.Addr.mk s ((0 : Nat) + (3 : Nat)) Option.none) fun (v11 : Go.Value) ↦
  Go.AI.tM v11 fun (b12 : Option Nat) ↦
  Go.AI.pSome b12 fun (i13 : Nat) ↦
  Go.AI.mdel σ10 (Go.TypeDesc.int Go.IntKind.i64) i13 (Go.Value.int Go.IntKind.i64 n) fun (σ14 : Go.AI.AS) ↦
  Go.AI.ldc σ14 (Go.Addr.mk i8 (0 : Nat) Option.none) fun (v15 : Go.Value) ↦
  Go.AI.tP v15 fun (b16 : Option Go.Addr) ↦
  Go.AI.pSome b16 fun (a17 : Go.Addr) ↦
  Go.AI.ldc σ14 (Go.Addr.add a17 (0 : Nat)) fun (v18 : Go.Value) ↦
  Go.AI.tIf v18
  (fun (t19 : Nat) (u20 : Go.Value) ↦
  Go.AI.tyAs (Go.Value.iface t19 u20) (118 : Nat) fun (o21 : Option Go.Value) ↦
  Go.AI.tP (Option.getD o21 (Go.Value.pointer Option.none)) fun (b22 : Option Go.Addr) ↦
  Go.AI.bmatch (Option.isSome o21)
  (Go.AI.ldc σ14 (Go.Addr.mk i8 (0 : Nat) Option.none) fun (v23 : Go.Value) ↦
  Go.AI.tP v23 fun (b24 : Option Go.Addr) ↦
  Go.AI.pSome b24 fun (a25 : Go.Addr) ↦
  Go.AI.ldc σ14 (Go.Addr.mk (Go.Addr.block a25) (Go.Addr.off a25 + (4 : Nat)) Option.none) fun (v26 : Go.Value) ↦
  Go.AI.tI Go.IntKind.u32 v26 fun (n27 : Int) ↦
  Go.AI.ldc σ14 (Go.Addr.mk i8 (0 : Nat) Option.none) fun (v28 : Go.Value) ↦
  Go.AI.tP v28 fun (b29 : Option Go.Addr) ↦
  Go.AI.pSome b29 fun (a30 : Go.Addr) ↦
  Go.AI.ldc σ14 (Go.Addr.mk (Go.Addr.block a30) (Go.Addr.off a30 + (5 : Nat)) Option.none) fun (v31 : Go.Value) ↦
  Go.AI.tI Go.IntKind.u32 v31 fun (n32 : Int) ↦
  Go.AI.pSome b22 fun (a33 : Go.Addr) ↦
  Go.AI.ldc σ14 (Go.Addr.add a33 (0 : Nat)) fun (v34 : Go.Value) ↦
  Go.AI.tL (1 : Nat) v34 fun (s35 : Go.AI.Sl) ↦
  K
  (Go.Value.tuple
  (Array.mk
  [Go.Value.int Go.IntKind.u32 n27, Go.Value.int Go.IntKind.u32 n32, Go.Value.slice (Go.AI.Sl.a s35) (Go.AI.Sl.n s35) (1 : Nat),
  Go.Value.int Go.IntKind.i64 (0 : Int)]))
  σ14)
  (Go.AI.ldc σ14 (Go.Addr.mk i8 (0 : Nat) Option.none) fun (v36 : Go.Value) ↦
  Go.AI.tP v36 fun (b37 : Option Go.Addr) ↦
  Go.AI.pSome b37 fun (a38 : Go.Addr) ↦
  Go.AI.ldc σ14 (Go.Addr.mk (Go.Addr.block a38) (Go.Addr.off a38 + (1 : Nat)) Option.none) fun (v39 : Go.Value) ↦
  Go.AI.tP v39 fun (b40 : Option Go.Addr) ↦
  Go.AI.ldc σ14 (Go.Addr.mk i8 (0 : Nat) Option.none) fun (v41 : Go.Value) ↦
  Go.AI.tP v41 fun (b42 : Option Go.Addr) ↦
  Go.AI.pSome b42 fun (a43 : Go.Addr) ↦
  Go.AI.ldc σ14 (Go.Addr.mk (Go.Addr.block a43) (Go.Addr.off a43 + (1 : Nat)) Option.none) fun (v44 : Go.Value) ↦
  Go.AI.tP v44 fun (b45 : Option Go.Addr) ↦
  Go.AI.pSome b45 fun (a46 : Go.Addr) ↦
  Go.AI.ldc σ14 (Go.Addr.mk (Go.Addr.block a46) (Go.Addr.off a46 + (1 : Nat)) Option.none) fun (v47 : Go.Value) ↦
  Go.AI.tL (1 : Nat) v47 fun (s48 : Go.AI.Sl) ↦
  T (53 : Nat)
  [Go.Value.slice (Go.AI.Sl.a s48) (Go.AI.Sl.n s48) (1 : Nat),
  Go.Value.func (Go.Fn.func (54 : Nat)) (Array.mk []) (Array.mk [Go.Value.pointer (Option.some (Go.Addr.mk i8 (0 : Nat) Option.none))])]
  σ14 fun (v49 : Go.Value) (σ50 : Go.AI.AS) ↦
  Go.AI.tL (1 : Nat) v49 fun (s51 : Go.AI.Sl) ↦
  Go.AI.ldc σ50 (Go.Addr.mk (Go.Addr.block a38) (Go.Addr.off a38 + (1 : Nat)) Option.none) fun (v52 : Go.Value) ↦
  Go.AI.tP v52 fun (b53 : Option Go.Addr) ↦
  Go.Value.pointer b40 = Go.Value.pointer b53 ∧
  Go.AI.ldc σ50 (Go.Addr.mk i8 (0 : Nat) Option.none) fun (v54 : Go.Value) ↦
  Go.AI.tP v54 fun (b55 : Option Go.Addr) ↦
  Go.Value.pointer b37 = Go.Value.pointer b55 ∧
  Go.AI.pSome b40 fun (a56 : Go.Addr) ↦
  Go.AI.put1 σ50 (Go.Addr.mk (Go.Addr.block a56) (Go.Addr.off a56 + (1 : Nat)) Option.none)
  (Go.Value.slice (Go.AI.Sl.a s51) (Go.AI.Sl.n s51) (1 : Nat)) fun (σ57 : Go.AI.AS) ↦
  Go.AI.ldc σ57 (Go.Addr.mk i8 (0 : Nat) Option.none) fun (v58 : Go.Value) ↦
  Go.AI.tP v58 fun (b59 : Option Go.Addr) ↦
  Go.AI.pSome b59 fun (a60 : Go.Addr) ↦
  Go.AI.ldc σ57 (Go.Addr.mk (Go.Addr.block a60) (Go.Addr.off a60 + (4 : Nat)) Option.none) fun (v61 : Go.Value) ↦
  Go.AI.tI Go.IntKind.u32 v61 fun (n62 : Int) ↦
  Go.AI.ldc σ57 (Go.Addr.mk i8 (0 : Nat) Option.none) fun (v63 : Go.Value) ↦
  Go.AI.tP v63 fun (b64 : Option Go.Addr) ↦
  Go.AI.pSome b64 fun (a65 : Go.Addr) ↦
  Go.AI.ldc σ57 (Go.Addr.mk (Go.Addr.block a65) (Go.Addr.off a65 + (5 : Nat)) Option.none)
  fun (v66 : Go.Value) ↦
  Go.AI.tI Go.IntKind.u32 v66 fun (n67 : Int) ↦
  K
  (Go.Value.tuple
  (Array.mk
  [Go.Value.int Go.IntKind.u32 n62, Go.Value.int Go.IntKind.u32 n67,
  Go.Value.slice Option.none (0 : Nat) (0 : Nat), Go.Value.int Go.IntKind.i64 (0 : Int)]))
  σ57))
  (Go.AI.ldc σ14 (Go.Addr.mk i8 (0 : Nat) Option.none) fun (v68 : Go.Value) ↦
  Go.AI.tP v68 fun (b69 : Option Go.Addr) ↦
  Go.AI.pSome b69 fun (a70 : Go.Addr) ↦
  Go.AI.ldc σ14 (Go.Addr.mk (Go.Addr.block a70) (Go.Addr.off a70 + (1 : Nat)) Option.none) fun (v71 : Go.Value) ↦
  Go.AI.tP v71 fun (b72 : Option Go.Addr) ↦
  Go.AI.ldc σ14 (Go.Addr.mk i8 (0 : Nat) Option.none) fun (v73 : Go.Value) ↦
  Go.AI.tP v73 fun (b74 : Option Go.Addr) ↦
  Go.AI.pSome b74 fun (a75 : Go.Addr) ↦
  Go.AI.ldc σ14 (Go.Addr.mk (Go.Addr.block a75) (Go.Addr.off a75 + (1 : Nat)) Option.none) fun (v76 : Go.Value) ↦
  Go.AI.tP v76 fun (b77 : Option Go.Addr) ↦
  Go.AI.pSome b77 fun (a78 : Go.Addr) ↦
  Go.AI.ldc σ14 (Go.Addr.mk (Go.Addr.block a78) (Go.Addr.off a78 + (1 : Nat)) Option.none) fun (v79 : Go.Value) ↦
  Go.AI.tL (1 : Nat) v79 fun (s80 : Go.AI.Sl) ↦
  T (53 : Nat)
  [Go.Value.slice (Go.AI.Sl.a s80) (Go.AI.Sl.n s80) (1 : Nat),
  Go.Value.func (Go.Fn.func (54 : Nat)) (Array.mk []) (Array.mk [Go.Value.pointer (Option.some (Go.Addr.mk i8 (0 : Nat) Option.none))])]
  σ14 fun (v81 : Go.Value) (σ82 : Go.AI.AS) ↦
  Go.AI.tL (1 : Nat) v81 fun (s83 : Go.AI.Sl) ↦
  Go.AI.ldc σ82 (Go.Addr.mk (Go.Addr.block a70) (Go.Addr.off a70 + (1 : Nat)) Option.none) fun (v84 : Go.Value) ↦
  Go.AI.tP v84 fun (b85 : Option Go.Addr) ↦
  Go.Value.pointer b72 = Go.Value.pointer b85 ∧
  Go.AI.ldc σ82 (Go.Addr.mk i8 (0 : Nat) Option.none) fun (v86 : Go.Value) ↦
  Go.AI.tP v86 fun (b87 : Option Go.Addr) ↦
  Go.Value.pointer b69 = Go.Value.pointer b87 ∧
  Go.AI.pSome b72 fun (a88 : Go.Addr) ↦
  Go.AI.put1 σ82 (Go.Addr.mk (Go.Addr.block a88) (Go.Addr.off a88 + (1 : Nat)) Option.none)
  (Go.Value.slice (Go.AI.Sl.a s83) (Go.AI.Sl.n s83) (1 : Nat)) fun (σ89 : Go.AI.AS) ↦
  Go.AI.ldc σ89 (Go.Addr.mk i8 (0 : Nat) Option.none) fun (v90 : Go.Value) ↦
  Go.AI.tP v90 fun (b91 : Option Go.Addr) ↦
  Go.AI.pSome b91 fun (a92 : Go.Addr) ↦
  Go.AI.ldc σ89 (Go.Addr.mk (Go.Addr.block a92) (Go.Addr.off a92 + (4 : Nat)) Option.none) fun (v93 : Go.Value) ↦
  Go.AI.tI Go.IntKind.u32 v93 fun (n94 : Int) ↦
  Go.AI.ldc σ89 (Go.Addr.mk i8 (0 : Nat) Option.none) fun (v95 : Go.Value) ↦
  Go.AI.tP v95 fun (b96 : Option Go.Addr) ↦
  Go.AI.pSome b96 fun (a97 : Go.Addr) ↦
  Go.AI.ldc σ89 (Go.Addr.mk (Go.Addr.block a97) (Go.Addr.off a97 + (5 : Nat)) Option.none) fun (v98 : Go.Value) ↦
  Go.AI.tI Go.IntKind.u32 v98 fun (n99 : Int) ↦
  K
  (Go.Value.tuple
  (Array.mk
  [Go.Value.int Go.IntKind.u32 n94, Go.Value.int Go.IntKind.u32 n99,
  Go.Value.slice Option.none (0 : Nat) (0 : Nat), Go.Value.int Go.IntKind.i64 (0 : Int)]))
  σ89)) := by
  intros
  kernel_rfl

theorem s24 : ∀ (T : Go.AI.Ct) (s : Nat) (name : ByteArray) (σ : Go.AI.AS) (K : Go.Value → Go.AI.AS → Prop),
  Go.AI.fw Go.Proofs.Tryz.prog Go.AI.hintsS T (24 : Nat) [Go.Value.pointer (Option.some (Go.Addr.mk s (0 : Nat) Option.none)), Go.Value.string name] σ K =
  Go.AI.ldc σ (Go.Addr.mk s ((0 : Nat) + (2 : Nat)) Option.none) fun (v0 : Go.Value) ↦
  Go.AI.tM v0 fun (b1 : Option Nat) ↦
  Go.AI.mget σ Go.TypeDesc.string b1 (Go.Value.string name) fun (o2 : Option Go.Value) ↦
  Go.AI.tP (Option.getD o2 (Go.Value.pointer Option.none)) fun (b3 : Option Go.Addr) ↦
  Go.AI.ptrEq σ b3 Option.none fun (r4 : Bool) ↦
  Go.AI.bmatch r4
  (Go.AI.JoinS (Go.AI.jn Go.Proofs.Tryz.prog Go.AI.hintsS T (24 : Nat) [Bool.true, Bool.false] [] K)
  [((0 : Nat), Option.some (Go.Value.pointer (Option.some (Go.Addr.mk s (0 : Nat) Option.none)))), ((1 : Nat), Option.some (Go.Value.string name)), ((28 : Nat), Option.some (Go.Value.bool Bool.true))]
  σ)
  (Go.AI.ldc σ (Go.Addr.mk s ((0 : Nat) + (2 : Nat)) Option.none) fun (v5 : Go.Value) ↦
  Go.AI.tM v5 fun (b6 : Option Nat) ↦
  Go.AI.mget σ Go.TypeDesc.string b6 (Go.Value.string name) fun (o7 : Option Go.Value) ↦
  Go.AI.tP (Option.getD o7 (Go.Value.pointer Option.none)) fun (b8 : Option Go.Addr) ↦
  Go.AI.pSome b8 fun (a9 : Go.Addr) ↦
  Go.AI.ldc σ (Go.Addr.mk (Go.Addr.block a9) (Go.Addr.off a9 + (1 : Nat)) Option.none) fun (v10 : Go.Value) ↦
  Go.AI.tL (1 : Nat) v10 fun (s11 : Go.AI.Sl) ↦
  Go.AI.JoinS (Go.AI.jn Go.Proofs.Tryz.prog Go.AI.hintsS T (24 : Nat) [Bool.true, Bool.false] [] K)
  [((0 : Nat), Option.some (Go.Value.pointer (Option.some (Go.Addr.mk s (0 : Nat) Option.none)))), ((1 : Nat), Option.some (Go.Value.string name)),
  ((28 : Nat), Option.some (Go.Value.bool (Decidable.decide ((↑(Go.AI.Sl.n s11) : Int) > (0 : Int)))))]
  σ) := by
  intros
  kernel_rfl

theorem s24j : ∀ (T : Go.AI.Ct) (s : Nat) (name : ByteArray) (r28_1 : Bool) (σ : Go.AI.AS) (K : Go.Value → Go.AI.AS → Prop),
  Go.AI.jn Go.Proofs.Tryz.prog Go.AI.hintsS T (24 : Nat) [Bool.true, Bool.false] [] K
  [((0 : Nat), Option.some (Go.Value.pointer (Option.some (Go.Addr.mk s (0 : Nat) Option.none)))), ((1 : Nat), Option.some (Go.Value.string name)), ((28 : Nat), Option.some (Go.Value.bool r28_1))] σ =
  Go.AI.bmatch r28_1 (K (Go.Value.bool Bool.false) σ)
  (Go.AI.ldc σ (Go.Addr.mk s ((0 : Nat) + (2 : Nat)) Option.none) fun (v0 : Go.Value) ↦
  Go.AI.tM v0 fun (b1 : Option Nat) ↦ Go.AI.pSome b1 fun (i2 : Nat) ↦ Go.AI.mdel σ Go.TypeDesc.string i2 (Go.Value.string name) fun (σ3 : Go.AI.AS) ↦ K (Go.Value.bool Bool.true) σ3) := by
  intros
  kernel_rfl

theorem s26 : ∀ (T : Go.AI.Ct) (s : Nat) (n : Int) (σ : Go.AI.AS) (K : Go.Value → Go.AI.AS → Prop),
  Go.AI.fw Go.Proofs.Tryz.prog Go.AI.hintsS T (26 : Nat) [Go.Value.pointer (Option.some (Go.Addr.mk s (0 : Nat) Option.none)), Go.Value.int Go.IntKind.i64 n] σ K =
  T (45 : Nat) [Go.Value.pointer (Option.some (Go.Addr.mk s (0 : Nat) Option.none)), Go.Value.int Go.IntKind.i64 n] σ fun (v0 : Go.Value) (σ1 : Go.AI.AS) ↦
  Go.AI.tTup v0 fun (l2 : List Go.Value) ↦
  Go.AI.pSome l2[(0 : Nat)]? fun (u3 : Go.Value) ↦
  Go.AI.tP u3 fun (b4 : Option Go.Addr) ↦
  Go.AI.tTup v0 fun (l5 : List Go.Value) ↦
  Go.AI.pSome l5[(1 : Nat)]? fun (u6 : Go.Value) ↦
  Go.AI.tI Go.IntKind.i64 u6 fun (n7 : Int) ↦
  Go.AI.bmatch (n7 != (0 : Int)) (K (Go.Value.tuple (Array.mk [Go.Value.int Go.IntKind.i64 (0 : Int), Go.Value.int Go.IntKind.i64 (0 : Int), Go.Value.int Go.IntKind.i64 n7])) σ1)
  (Go.AI.pSome b4 fun (a8 : Go.Addr) ↦
  Go.AI.ldc σ1 (Go.Addr.mk (Go.Addr.block a8) (Go.Addr.off a8 + (3 : Nat)) Option.none) fun (v9 : Go.Value) ↦
  Go.AI.tI Go.IntKind.i64 v9 fun (n10 : Int) ↦
  Go.AI.pSome b4 fun (a11 : Go.Addr) ↦
  Go.AI.ldc σ1 (Go.Addr.add a11 (0 : Nat)) fun (v12 : Go.Value) ↦
  Go.AI.tIf v12
  (fun (t13 : Nat) (u14 : Go.Value) ↦
  Go.AI.pSome (Go.AI.methodOf Go.Proofs.Tryz.prog t13 "grotto/shelf.size") fun (f15 : Go.FuncId) ↦
  T f15 [u14] σ1 fun (v16 : Go.Value) (σ17 : Go.AI.AS) ↦
  Go.AI.tI Go.IntKind.i64 v16 fun (n18 : Int) ↦
  Go.AI.ldc σ17 (Go.Addr.mk (Go.Addr.block a8) (Go.Addr.off a8 + (3 : Nat)) Option.none) fun (v19 : Go.Value) ↦
  Go.AI.tI Go.IntKind.i64 v19 fun (n20 : Int) ↦
  Go.Value.int Go.IntKind.i64 n10 = Go.Value.int Go.IntKind.i64 n20 ∧
  K (Go.Value.tuple (Array.mk [Go.Value.int Go.IntKind.i64 n10, Go.Value.int Go.IntKind.i64 n18, Go.Value.int Go.IntKind.i64 (0 : Int)])) σ17)
  False) := by
  intros
  kernel_rfl

theorem s27 : ∀ (T : Go.AI.Ct) (s : Nat) (la : Option Go.Addr) (ln : Nat) (mode : Int) (w : Bool) (σ : Go.AI.AS) (K : Go.Value → Go.AI.AS → Prop),
  Go.AI.fw Go.Proofs.Tryz.prog Go.AI.hintsS T (27 : Nat)
  [Go.Value.pointer (Option.some (Go.Addr.mk s (0 : Nat) Option.none)), Go.Value.slice la ln (1 : Nat), Go.Value.int Go.IntKind.i64 mode, Go.Value.bool w] σ K =
  Go.AI.bmatch (Decidable.decide (mode < (1 : Int)))
  (Go.AI.JoinS (Go.AI.jn Go.Proofs.Tryz.prog Go.AI.hintsS T (27 : Nat) [Bool.true, Bool.false, Bool.false, Bool.true, Bool.true] [] K)
  [((0 : Nat), Option.some (Go.Value.pointer (Option.some (Go.Addr.mk s (0 : Nat) Option.none)))), ((1 : Nat), Option.some (Go.Value.slice la ln (1 : Nat))),
  ((2 : Nat), Option.some (Go.Value.int Go.IntKind.i64 mode)), ((3 : Nat), Option.some (Go.Value.bool w)), ((16 : Nat), Option.some (Go.Value.bool Bool.true))]
  σ)
  (Go.AI.bmatch (Decidable.decide (mode > (3 : Int)))
  (Go.AI.JoinS (Go.AI.jn Go.Proofs.Tryz.prog Go.AI.hintsS T (27 : Nat) [Bool.true, Bool.false, Bool.false, Bool.true, Bool.true] [] K)
  [((0 : Nat), Option.some (Go.Value.pointer (Option.some (Go.Addr.mk s (0 : Nat) Option.none)))), ((1 : Nat), Option.some (Go.Value.slice la ln (1 : Nat))),
  ((2 : Nat), Option.some (Go.Value.int Go.IntKind.i64 mode)), ((3 : Nat), Option.some (Go.Value.bool w)), ((16 : Nat), Option.some (Go.Value.bool Bool.true))]
  σ)
  (Go.AI.JoinS (Go.AI.jn Go.Proofs.Tryz.prog Go.AI.hintsS T (27 : Nat) [Bool.true, Bool.false, Bool.false, Bool.true, Bool.true] [] K)
  [((0 : Nat), Option.some (Go.Value.pointer (Option.some (Go.Addr.mk s (0 : Nat) Option.none)))), ((1 : Nat), Option.some (Go.Value.slice la ln (1 : Nat))),
  ((2 : Nat), Option.some (Go.Value.int Go.IntKind.i64 mode)), ((3 : Nat), Option.some (Go.Value.bool w)), ((16 : Nat), Option.some (Go.Value.bool (Decidable.decide ((↑ln : Int) > (4096 : Int)))))]
  σ)) := by
  intros
  kernel_rfl

theorem s27j : ∀ (T : Go.AI.Ct) (s : Nat) (la : Option Go.Addr) (ln le : Nat) (mode : Int) (w r16_1 : Bool) (σ : Go.AI.AS) (K : Go.Value → Go.AI.AS → Prop),
  Go.AI.jn Go.Proofs.Tryz.prog Go.AI.hintsS T (27 : Nat) [Bool.true, Bool.false, Bool.false, Bool.true, Bool.true] [] K
  [((0 : Nat), Option.some (Go.Value.pointer (Option.some (Go.Addr.mk s (0 : Nat) Option.none)))), ((1 : Nat), Option.some (Go.Value.slice la ln le)),
  ((2 : Nat), Option.some (Go.Value.int Go.IntKind.i64 mode)), ((3 : Nat), Option.some (Go.Value.bool w)), ((16 : Nat), Option.some (Go.Value.bool r16_1))]
  σ =
  Go.AI.bmatch r16_1 (K (Go.Value.tuple (Array.mk [Go.Value.int Go.IntKind.i64 (0 : Int), Go.Value.int Go.IntKind.i64 (1 : Int)])) σ)
  (Go.AI.ldc σ (Go.Addr.mk s ((0 : Nat) + (3 : Nat)) Option.none) fun (v0 : Go.Value) ↦
  Go.AI.tM v0 fun (b1 : Option Nat) ↦
  Go.AI.mlen σ b1 fun (n2 : Int) ↦
  Go.AI.bmatch (n2 == (64 : Int)) (K (Go.Value.tuple (Array.mk [Go.Value.int Go.IntKind.i64 (0 : Int), Go.Value.int Go.IntKind.i64 (4 : Int)])) σ)
  (Go.AI.req ((0 : Int) ≤ (↑ln : Int))
  (Go.AI.req ((↑ln : Int) ≤ (↑ln : Int))
  (Go.AI.req ((↑ln : Int) * (↑(Go.AI.bytesOf Go.Proofs.Tryz.prog (54 : Nat)) : Int) ≤ (140737488355328 : Int))
  (Go.AI.newAt σ (Go.AI.AObj.row Go.AI.RK.rw (List.flatten (List.replicate (Int.toNat (↑ln : Int)) (Go.AI.valCells (Go.Value.int Go.IntKind.u32 (0 : Int)))))) fun (i3 : Nat) (σ4 : Go.AI.AS) ↦
  Go.AI.newAt σ4 (Go.AI.AObj.row Go.AI.RK.plain [Go.Value.slice (Option.some (Go.Addr.mk i3 (0 : Nat) Option.none)) (Int.toNat (↑ln : Int)) (1 : Nat), Go.Value.bool w])
  fun (i5 : Nat) (σ6 : Go.AI.AS) ↦
  Go.AI.ALoop (Go.AI.fl Go.Proofs.Tryz.prog Go.AI.hintsS T (27 : Nat) [Bool.true, Bool.true, Bool.true, Bool.false, Bool.true, Bool.false] [] K)
  [((0 : Nat), Option.some (Go.Value.pointer (Option.some (Go.Addr.mk s (0 : Nat) Option.none)))), ((2 : Nat), Option.some (Go.Value.int Go.IntKind.i64 mode)),
  ((10 : Nat), Option.some (Go.Value.pointer (Option.some (Go.Addr.mk i5 (0 : Nat) Option.none)))), ((41 : Nat), Option.some (Go.Value.slice la ln le)),
  ((42 : Nat), Option.some (Go.Value.int Go.IntKind.i64 (↑ln : Int))), ((43 : Nat), Option.some (Go.Value.int Go.IntKind.i64 (0 : Int)))]
  σ6))))) := by
  intros
  kernel_rfl

theorem s27l : ∀ (T : Go.AI.Ct) (s : Nat) (mode : Int) (b : Nat) (r41a_1 : Option Go.Addr) (r41n_1 r41e_1 : Nat) (r42_1 r43_1 : Int) (X : Go.AI.Regs → Go.AI.AS → Prop) (σ : Go.AI.AS) (K : Go.Value → Go.AI.AS → Prop),
  Go.AI.fl Go.Proofs.Tryz.prog Go.AI.hintsS T (27 : Nat) [Bool.true, Bool.true, Bool.true, Bool.false, Bool.true, Bool.false] [] K X
  [((0 : Nat), Option.some (Go.Value.pointer (Option.some (Go.Addr.mk s (0 : Nat) Option.none)))), ((2 : Nat), Option.some (Go.Value.int Go.IntKind.i64 mode)),
  ((10 : Nat), Option.some (Go.Value.pointer (Option.some (Go.Addr.mk b (0 : Nat) Option.none)))), ((41 : Nat), Option.some (Go.Value.slice r41a_1 r41n_1 r41e_1)),
  ((42 : Nat), Option.some (Go.Value.int Go.IntKind.i64 r42_1)), ((43 : Nat), Option.some (Go.Value.int Go.IntKind.i64 r43_1))]
  σ =
  Go.AI.bmatch (Decidable.decide (r43_1 < r42_1))
  (Go.AI.req ((0 : Int) ≤ r43_1)
  (Go.AI.req (r43_1 < (↑r41n_1 : Int))
  (Go.AI.pSome r41a_1 fun (a0 : Go.Addr) ↦
  Go.AI.req (r41e_1 = Go.AI.szOf Go.Proofs.Tryz.prog (54 : Nat))
  (Go.AI.ldc σ (Go.Addr.add a0 (Int.toNat r43_1 * Go.AI.szOf Go.Proofs.Tryz.prog (54 : Nat))) fun (v1 : Go.Value) ↦
  Go.AI.tI Go.IntKind.u32 v1 fun (n2 : Int) ↦
  T (55 : Nat) [Go.Value.pointer (Option.some (Go.Addr.mk b (0 : Nat) Option.none)), Go.Value.int Go.IntKind.i64 r43_1, Go.Value.int Go.IntKind.u32 n2] σ fun (v3 : Go.Value) (σ4 : Go.AI.AS) ↦
  X
  [((0 : Nat), Option.some (Go.Value.pointer (Option.some (Go.Addr.mk s (0 : Nat) Option.none)))), ((2 : Nat), Option.some (Go.Value.int Go.IntKind.i64 mode)),
  ((10 : Nat), Option.some (Go.Value.pointer (Option.some (Go.Addr.mk b (0 : Nat) Option.none)))), ((41 : Nat), Option.some (Go.Value.slice r41a_1 r41n_1 r41e_1)),
  ((42 : Nat), Option.some (Go.Value.int Go.IntKind.i64 r42_1)), ((43 : Nat), Option.some (Go.Value.int Go.IntKind.i64 (Go.IntKind.wrap Go.IntKind.i64 (r43_1 + (1 : Int)))))]
  σ4))))
  (Go.AI.newAt σ
  (Go.AI.AObj.row Go.AI.RK.plain
  [Go.Value.iface (118 : Nat) (Go.Value.pointer (Option.some (Go.Addr.mk b (0 : Nat) Option.none))), Go.Value.pointer Option.none, Go.Value.int Go.IntKind.i64 mode, Go.Value.int Go.IntKind.i64 (0 : Int),
  Go.Value.int Go.IntKind.u32 (0 : Int), Go.Value.int Go.IntKind.u32 (0 : Int)])
  fun (i5 : Nat) (σ6 : Go.AI.AS) ↦
  T (48 : Nat) [Go.Value.pointer (Option.some (Go.Addr.mk s (0 : Nat) Option.none)), Go.Value.pointer (Option.some (Go.Addr.mk i5 (0 : Nat) Option.none))] σ6 fun (v7 : Go.Value) (σ8 : Go.AI.AS) ↦
  Go.AI.tI Go.IntKind.i64 v7 fun (n9 : Int) ↦ K (Go.Value.tuple (Array.mk [Go.Value.int Go.IntKind.i64 n9, Go.Value.int Go.IntKind.i64 (0 : Int)])) σ8) := by
  intros
  kernel_rfl

theorem s37 : ∀ (T : Go.AI.Ct) (s : Nat) (n : Int) (σ : Go.AI.AS) (K : Go.Value → Go.AI.AS → Prop),
  Go.AI.fw Go.Proofs.Tryz.prog Go.AI.hintsS T (37 : Nat) [Go.Value.pointer (Option.some (Go.Addr.mk s (0 : Nat) Option.none)), Go.Value.int Go.IntKind.i64 n] σ K =
  T (64 : Nat) [Go.Value.pointer (Option.some (Go.Addr.mk s (0 : Nat) Option.none)), Go.Value.int Go.IntKind.i64 n] σ fun (v0 : Go.Value) (σ1 : Go.AI.AS) ↦
  Go.AI.tTup v0 fun (l2 : List Go.Value) ↦
  Go.AI.pSome l2[(0 : Nat)]? fun (u3 : Go.Value) ↦
  Go.AI.tP u3 fun (b4 : Option Go.Addr) ↦
  Go.AI.tTup v0 fun (l5 : List Go.Value) ↦
  Go.AI.pSome l5[(1 : Nat)]? fun (u6 : Go.Value) ↦
  Go.AI.tI Go.IntKind.i64 u6 fun (n7 : Int) ↦
  Go.AI.bmatch (n7 != (0 : Int))
  (Go.AI.JoinS (Go.AI.jn Go.Proofs.Tryz.prog Go.AI.hintsS T (37 : Nat) [Bool.true, Bool.true, Bool.false] [] K)
  [((7 : Nat), Option.some (Go.Value.pointer b4)), ((8 : Nat), Option.some (Go.Value.int Go.IntKind.i64 n7)), ((28 : Nat), Option.some (Go.Value.bool Bool.true))] σ1)
  (Go.AI.pSome b4 fun (a8 : Go.Addr) ↦
  Go.AI.ldc σ1 (Go.Addr.mk (Go.Addr.block a8) (Go.Addr.off a8 + (3 : Nat)) Option.none) fun (v9 : Go.Value) ↦
  Go.AI.tI Go.IntKind.i64 v9 fun (n10 : Int) ↦
  Go.AI.pSome b4 fun (a11 : Go.Addr) ↦
  Go.AI.ldc σ1 (Go.Addr.add a11 (0 : Nat)) fun (v12 : Go.Value) ↦
  Go.AI.tIf v12
  (fun (t13 : Nat) (u14 : Go.Value) ↦
  Go.AI.pSome (Go.AI.methodOf Go.Proofs.Tryz.prog t13 "grotto/shelf.size") fun (f15 : Go.FuncId) ↦
  T f15 [u14] σ1 fun (v16 : Go.Value) (σ17 : Go.AI.AS) ↦
  Go.AI.tI Go.IntKind.i64 v16 fun (n18 : Int) ↦
  Go.AI.ldc σ17 (Go.Addr.mk (Go.Addr.block a8) (Go.Addr.off a8 + (3 : Nat)) Option.none) fun (v19 : Go.Value) ↦
  Go.AI.tI Go.IntKind.i64 v19 fun (n20 : Int) ↦
  Go.Value.int Go.IntKind.i64 n10 = Go.Value.int Go.IntKind.i64 n20 ∧
  Go.AI.JoinS (Go.AI.jn Go.Proofs.Tryz.prog Go.AI.hintsS T (37 : Nat) [Bool.true, Bool.true, Bool.false] [] K)
  [((7 : Nat), Option.some (Go.Value.pointer b4)), ((8 : Nat), Option.some (Go.Value.int Go.IntKind.i64 n7)),
  ((28 : Nat), Option.some (Go.Value.bool (Decidable.decide (n10 ≥ n18))))]
  σ17)
  False) := by
  intros
  kernel_rfl

theorem s37j : ∀ (T : Go.AI.Ct) (x : Option Go.Addr) (e : Int) (r28_1 : Bool) (σ : Go.AI.AS) (K : Go.Value → Go.AI.AS → Prop),
  Go.AI.jn Go.Proofs.Tryz.prog Go.AI.hintsS T (37 : Nat) [Bool.true, Bool.true, Bool.false] [] K
  [((7 : Nat), Option.some (Go.Value.pointer x)), ((8 : Nat), Option.some (Go.Value.int Go.IntKind.i64 e)), ((28 : Nat), Option.some (Go.Value.bool r28_1))] σ =
  Go.AI.bmatch r28_1 (K (Go.Value.tuple (Array.mk [Go.Value.int Go.IntKind.u32 (0 : Int), Go.Value.bool Bool.false, Go.Value.int Go.IntKind.i64 e])) σ)
  (Go.AI.pSome x fun (a0 : Go.Addr) ↦
  Go.AI.ldc σ (Go.Addr.mk (Go.Addr.block a0) (Go.Addr.off a0 + (3 : Nat)) Option.none) fun (v1 : Go.Value) ↦
  Go.AI.tI Go.IntKind.i64 v1 fun (n2 : Int) ↦
  Go.AI.pSome x fun (a3 : Go.Addr) ↦
  Go.AI.put1 σ (Go.Addr.mk (Go.Addr.block a3) (Go.Addr.off a3 + (3 : Nat)) Option.none) (Go.Value.int Go.IntKind.i64 (Go.IntKind.wrap Go.IntKind.i64 (n2 + (1 : Int)))) fun (σ4 : Go.AI.AS) ↦
  Go.AI.pSome x fun (a5 : Go.Addr) ↦
  Go.AI.ldc σ4 (Go.Addr.mk (Go.Addr.block a5) (Go.Addr.off a5 + (4 : Nat)) Option.none) fun (v6 : Go.Value) ↦
  Go.AI.tI Go.IntKind.u32 v6 fun (n7 : Int) ↦
  Go.AI.pSome x fun (a8 : Go.Addr) ↦
  Go.AI.put1 σ4 (Go.Addr.mk (Go.Addr.block a8) (Go.Addr.off a8 + (4 : Nat)) Option.none) (Go.Value.int Go.IntKind.u32 (Go.IntKind.wrap Go.IntKind.u32 (n7 + (1 : Int)))) fun (σ9 : Go.AI.AS) ↦
  Go.AI.pSome x fun (a10 : Go.Addr) ↦
  Go.AI.ldc σ9 (Go.Addr.add a10 (0 : Nat)) fun (v11 : Go.Value) ↦
  Go.AI.tIf v11
  (fun (t12 : Nat) (u13 : Go.Value) ↦
  Go.AI.pSome x fun (a14 : Go.Addr) ↦
  Go.AI.ldc σ9 (Go.Addr.mk (Go.Addr.block a14) (Go.Addr.off a14 + (3 : Nat)) Option.none) fun (v15 : Go.Value) ↦
  Go.AI.tI Go.IntKind.i64 v15 fun (n16 : Int) ↦
  Go.AI.pSome (Go.AI.methodOf Go.Proofs.Tryz.prog t12 "grotto/shelf.at") fun (f17 : Go.FuncId) ↦
  T f17 [u13, Go.Value.int Go.IntKind.i64 (Go.IntKind.wrap Go.IntKind.i64 (n16 - (1 : Int)))] σ9 fun (v18 : Go.Value) (σ19 : Go.AI.AS) ↦
  Go.AI.tI Go.IntKind.u32 v18 fun (n20 : Int) ↦
  K (Go.Value.tuple (Array.mk [Go.Value.int Go.IntKind.u32 n20, Go.Value.bool Bool.true, Go.Value.int Go.IntKind.i64 (0 : Int)])) σ19)
  (Go.AI.pSome x fun (a21 : Go.Addr) ↦
  Go.AI.ldc σ9 (Go.Addr.mk (Go.Addr.block a21) (Go.Addr.off a21 + (3 : Nat)) Option.none) fun (v22 : Go.Value) ↦ Go.AI.tI Go.IntKind.i64 v22 fun (n23 : Int) ↦ False)) := by
  intros
  kernel_rfl

theorem s39 : ∀ (T : Go.AI.Ct) (s : Nat) (n most : Int) (σ : Go.AI.AS) (K : Go.Value → Go.AI.AS → Prop),
  Go.AI.fw Go.Proofs.Tryz.prog Go.AI.hintsS T (39 : Nat) [Go.Value.pointer (Option.some (Go.Addr.mk s (0 : Nat) Option.none)), Go.Value.int Go.IntKind.i64 n, Go.Value.int Go.IntKind.i64 most] σ K =
  T (64 : Nat) [Go.Value.pointer (Option.some (Go.Addr.mk s (0 : Nat) Option.none)), Go.Value.int Go.IntKind.i64 n] σ fun (v0 : Go.Value) (σ1 : Go.AI.AS) ↦
  Go.AI.tTup v0 fun (l2 : List Go.Value) ↦
  Go.AI.pSome l2[(0 : Nat)]? fun (u3 : Go.Value) ↦
  Go.AI.tP u3 fun (b4 : Option Go.Addr) ↦
  Go.AI.tTup v0 fun (l5 : List Go.Value) ↦
  Go.AI.pSome l5[(1 : Nat)]? fun (u6 : Go.Value) ↦
  Go.AI.tI Go.IntKind.i64 u6 fun (n7 : Int) ↦
  Go.AI.bmatch (n7 != (0 : Int)) (K (Go.Value.tuple (Array.mk [Go.Value.slice Option.none (0 : Nat) (0 : Nat), Go.Value.int Go.IntKind.i64 n7])) σ1)
  (Go.AI.ALoop (Go.AI.fl Go.Proofs.Tryz.prog Go.AI.hintsS T (39 : Nat) [Bool.true, Bool.true, Bool.true, Bool.false, Bool.false] [] K)
  [((0 : Nat), Option.some (Go.Value.pointer (Option.some (Go.Addr.mk s (0 : Nat) Option.none)))), ((1 : Nat), Option.some (Go.Value.int Go.IntKind.i64 n)),
  ((2 : Nat), Option.some (Go.Value.int Go.IntKind.i64 most)), ((10 : Nat), Option.some (Go.Value.slice Option.none (0 : Nat) (0 : Nat)))]
  σ1) := by
  intros
  kernel_rfl

theorem s39j : ∀ (T : Go.AI.Ct) (la : Option Go.Addr) (ln le : Nat) (σ : Go.AI.AS) (K : Go.Value → Go.AI.AS → Prop),
  Go.AI.jn Go.Proofs.Tryz.prog Go.AI.hintsS T (39 : Nat) [Bool.true, Bool.true, Bool.true] [] K [((10 : Nat), Option.some (Go.Value.slice la ln le))] σ =
  K (Go.Value.tuple (Array.mk [Go.Value.slice la ln le, Go.Value.int Go.IntKind.i64 (0 : Int)])) σ := by
  intros
  kernel_rfl

theorem s39l : ∀ (T : Go.AI.Ct) (s : Nat) (n most : Int) (la : Option Go.Addr) (ln le : Nat) (X : Go.AI.Regs → Go.AI.AS → Prop) (σ : Go.AI.AS) (K : Go.Value → Go.AI.AS → Prop),
  Go.AI.fl Go.Proofs.Tryz.prog Go.AI.hintsS T (39 : Nat) [Bool.true, Bool.true, Bool.true, Bool.false, Bool.false] [] K X
  [((0 : Nat), Option.some (Go.Value.pointer (Option.some (Go.Addr.mk s (0 : Nat) Option.none)))), ((1 : Nat), Option.some (Go.Value.int Go.IntKind.i64 n)),
  ((2 : Nat), Option.some (Go.Value.int Go.IntKind.i64 most)), ((10 : Nat), Option.some (Go.Value.slice la ln le))]
  σ =
  Go.AI.bmatch (Decidable.decide ((↑ln : Int) < most))
  (T (37 : Nat) [Go.Value.pointer (Option.some (Go.Addr.mk s (0 : Nat) Option.none)), Go.Value.int Go.IntKind.i64 n] σ fun (v0 : Go.Value) (σ1 : Go.AI.AS) ↦
  Go.AI.tTup v0 fun (l2 : List Go.Value) ↦
  Go.AI.pSome l2[(0 : Nat)]? fun (u3 : Go.Value) ↦
  Go.AI.tI Go.IntKind.u32 u3 fun (n4 : Int) ↦
  Go.AI.tTup v0 fun (l5 : List Go.Value) ↦
  Go.AI.pSome l5[(1 : Nat)]? fun (u6 : Go.Value) ↦
  Go.AI.tB u6 fun (b7 : Bool) ↦
  Go.AI.tTup v0 fun (l8 : List Go.Value) ↦
  Go.AI.pSome l8[(2 : Nat)]? fun (u9 : Go.Value) ↦
  Go.AI.tI Go.IntKind.i64 u9 fun (n10 : Int) ↦
  Go.AI.bmatch (!b7)
  (Go.AI.JoinS (Go.AI.jn Go.Proofs.Tryz.prog Go.AI.hintsS T (39 : Nat) [Bool.true, Bool.true, Bool.true] [] K) [((10 : Nat), Option.some (Go.Value.slice la ln le))] σ1)
  (Go.AI.newAt σ1 (Go.AI.AObj.row Go.AI.RK.rw [Go.Value.int Go.IntKind.u32 n4]) fun (i11 : Nat) (σ12 : Go.AI.AS) ↦
  Go.AI.chk (Go.AI.nilOr la le (Go.AI.szOf Go.Proofs.Tryz.prog (54 : Nat)))
  (Go.AI.lds σ12 (Go.Addr.mk i11 (0 : Nat) Option.none) (1 : Nat) fun (l13 : List Go.Value) ↦
  Go.AI.appendTo σ12 (1 : Nat) (4 : Nat) (Go.AI.Sl.mk la ln) l13 (1 : Nat) fun (s14 : Go.AI.Sl) (σ15 : Go.AI.AS) ↦
  Go.AI.bmatch (n4 == (10 : Int))
  (Go.AI.JoinS (Go.AI.jn Go.Proofs.Tryz.prog Go.AI.hintsS T (39 : Nat) [Bool.true, Bool.true, Bool.true] [] K)
  [((10 : Nat), Option.some (Go.Value.slice (Go.AI.Sl.a s14) (Go.AI.Sl.n s14) (1 : Nat)))] σ15)
  (X
  [((0 : Nat), Option.some (Go.Value.pointer (Option.some (Go.Addr.mk s (0 : Nat) Option.none)))), ((1 : Nat), Option.some (Go.Value.int Go.IntKind.i64 n)),
  ((2 : Nat), Option.some (Go.Value.int Go.IntKind.i64 most)), ((10 : Nat), Option.some (Go.Value.slice (Go.AI.Sl.a s14) (Go.AI.Sl.n s14) (1 : Nat)))]
  σ15))))
  (Go.AI.JoinS (Go.AI.jn Go.Proofs.Tryz.prog Go.AI.hintsS T (39 : Nat) [Bool.true, Bool.true, Bool.true] [] K) [((10 : Nat), Option.some (Go.Value.slice la ln le))] σ) := by
  intros
  kernel_rfl

theorem s43 : ∀ (T : Go.AI.Ct) (name : ByteArray) (σ : Go.AI.AS) (K : Go.Value → Go.AI.AS → Prop),
  Go.AI.fw Go.Proofs.Tryz.prog Go.AI.hintsS T (43 : Nat) [Go.Value.string name] σ K =
  Go.AI.bmatch (Decidable.decide ((↑(ByteArray.size name) : Int) ≥ (1 : Int))) (K (Go.Value.bool (Decidable.decide ((↑(ByteArray.size name) : Int) ≤ (32 : Int)))) σ) (K (Go.Value.bool Bool.false) σ) := by
  intros
  kernel_rfl

theorem s44 : ∀ (T : Go.AI.Ct) (sa : Option Go.Addr) (sn : Nat) (σ : Go.AI.AS) (K : Go.Value → Go.AI.AS → Prop),
  Go.AI.fw Go.Proofs.Tryz.prog Go.AI.hintsS T (44 : Nat) [Go.Value.slice sa sn (1 : Nat)] σ K =
  Go.AI.bmatch (Option.isNone sa) (K (Go.Value.slice Option.none (0 : Nat) (0 : Nat)) σ)
  (Go.AI.newAt σ (Go.AI.AObj.row Go.AI.RK.rw []) fun (i0 : Nat) (σ1 : Go.AI.AS) ↦
  Go.AI.srcCells σ1 (1 : Nat) (Option.some (Go.Value.slice sa sn (1 : Nat))) fun (m2 : Nat) (new3 : List Go.Value) ↦
  Go.AI.appendTo σ1 (1 : Nat) (1 : Nat) (Go.AI.Sl.mk (Option.some (Go.Addr.mk i0 (0 : Nat) Option.none)) (0 : Nat)) new3 m2 fun (s4 : Go.AI.Sl) (σ5 : Go.AI.AS) ↦
  K (Go.Value.slice (Go.AI.Sl.a s4) (Go.AI.Sl.n s4) (1 : Nat)) σ5) := by
  intros
  kernel_rfl

theorem s45 : ∀ (T : Go.AI.Ct) (s : Nat) (n : Int) (σ : Go.AI.AS) (K : Go.Value → Go.AI.AS → Prop),
  Go.AI.fw Go.Proofs.Tryz.prog Go.AI.hintsS T (45 : Nat) [Go.Value.pointer (Option.some (Go.Addr.mk s (0 : Nat) Option.none)), Go.Value.int Go.IntKind.i64 n] σ K =
  Go.AI.ldc σ (Go.Addr.mk s ((0 : Nat) + (3 : Nat)) Option.none) fun (v0 : Go.Value) ↦
  Go.AI.tM v0 fun (b1 : Option Nat) ↦
  Go.AI.mget σ (Go.TypeDesc.int Go.IntKind.i64) b1 (Go.Value.int Go.IntKind.i64 n) fun (o2 : Option Go.Value) ↦
  Go.AI.tP (Option.getD o2 (Go.Value.pointer Option.none)) fun (b3 : Option Go.Addr) ↦
  Go.AI.ptrEq σ b3 Option.none fun (r4 : Bool) ↦
  Go.AI.bmatch r4 (K (Go.Value.tuple (Array.mk [Go.Value.pointer Option.none, Go.Value.int Go.IntKind.i64 (5 : Int)])) σ)
  (K (Go.Value.tuple (Array.mk [Go.Value.pointer b3, Go.Value.int Go.IntKind.i64 (0 : Int)])) σ) := by
  intros
  kernel_rfl

theorem s46 : ∀ (T : Go.AI.Ct) (x : Nat) (σ : Go.AI.AS) (K : Go.Value → Go.AI.AS → Prop),
  Go.AI.fw Go.Proofs.Tryz.prog Go.AI.hintsS T (46 : Nat) [Go.Value.pointer (Option.some (Go.Addr.mk x (0 : Nat) Option.none))] σ K =
  Go.AI.ldc σ (Go.Addr.mk x ((0 : Nat) + (2 : Nat)) Option.none) fun (v0 : Go.Value) ↦ Go.AI.tI Go.IntKind.i64 v0 fun (n1 : Int) ↦ K (Go.Value.bool (n1 != (2 : Int))) σ := by
  intros
  kernel_rfl

theorem s47 : ∀ (T : Go.AI.Ct) (s : Nat) (name : ByteArray) (mode : Int) (σ : Go.AI.AS) (K : Go.Value → Go.AI.AS → Prop),
  Go.AI.fw Go.Proofs.Tryz.prog Go.AI.hintsS T (47 : Nat) [Go.Value.pointer (Option.some (Go.Addr.mk s (0 : Nat) Option.none)), Go.Value.string name, Go.Value.int Go.IntKind.i64 mode] σ K =
  Go.AI.ldc σ (Go.Addr.mk s ((0 : Nat) + (2 : Nat)) Option.none) fun (v0 : Go.Value) ↦
  Go.AI.tM v0 fun (b1 : Option Nat) ↦
  Go.AI.mget σ Go.TypeDesc.string b1 (Go.Value.string name) fun (o2 : Option Go.Value) ↦
  Go.AI.tP (Option.getD o2 (Go.Value.pointer Option.none)) fun (b3 : Option Go.Addr) ↦
  T (43 : Nat) [Go.Value.string name] σ fun (v4 : Go.Value) (σ5 : Go.AI.AS) ↦
  Go.AI.tB v4 fun (b6 : Bool) ↦
  Go.AI.bmatch (!b6)
  (Go.AI.JoinS (Go.AI.jn Go.Proofs.Tryz.prog Go.AI.hintsS T (47 : Nat) [Bool.true, Bool.true, Bool.false, Bool.false] [] K)
  [((0 : Nat), Option.some (Go.Value.pointer (Option.some (Go.Addr.mk s (0 : Nat) Option.none)))), ((2 : Nat), Option.some (Go.Value.int Go.IntKind.i64 mode)),
  ((7 : Nat), Option.some (Go.Value.pointer b3)), ((16 : Nat), Option.some (Go.Value.bool Bool.true))]
  σ5)
  (Go.AI.bmatch (Decidable.decide (mode < (1 : Int)))
  (Go.AI.JoinS (Go.AI.jn Go.Proofs.Tryz.prog Go.AI.hintsS T (47 : Nat) [Bool.true, Bool.true, Bool.false, Bool.false] [] K)
  [((0 : Nat), Option.some (Go.Value.pointer (Option.some (Go.Addr.mk s (0 : Nat) Option.none)))), ((2 : Nat), Option.some (Go.Value.int Go.IntKind.i64 mode)),
  ((7 : Nat), Option.some (Go.Value.pointer b3)), ((16 : Nat), Option.some (Go.Value.bool Bool.true))]
  σ5)
  (Go.AI.bmatch (Decidable.decide (mode > (5 : Int)))
  (Go.AI.JoinS (Go.AI.jn Go.Proofs.Tryz.prog Go.AI.hintsS T (47 : Nat) [Bool.true, Bool.true, Bool.false, Bool.false] [] K)
  [((0 : Nat), Option.some (Go.Value.pointer (Option.some (Go.Addr.mk s (0 : Nat) Option.none)))), ((2 : Nat), Option.some (Go.Value.int Go.IntKind.i64 mode)),
  ((7 : Nat), Option.some (Go.Value.pointer b3)), ((16 : Nat), Option.some (Go.Value.bool Bool.true))]
  σ5)
  (Go.AI.JoinS (Go.AI.jn Go.Proofs.Tryz.prog Go.AI.hintsS T (47 : Nat) [Bool.true, Bool.true, Bool.false, Bool.false] [] K)
  [((0 : Nat), Option.some (Go.Value.pointer (Option.some (Go.Addr.mk s (0 : Nat) Option.none)))), ((2 : Nat), Option.some (Go.Value.int Go.IntKind.i64 mode)),
  ((7 : Nat), Option.some (Go.Value.pointer b3)), ((16 : Nat), Option.some (Go.Value.bool (mode == (4 : Int))))]
  σ5))) := by
  intros
  kernel_rfl

theorem s47j : ∀ (T : Go.AI.Ct) (s : Nat) (mode : Int) (f : Option Go.Addr) (r16_1 : Bool) (σ : Go.AI.AS) (K : Go.Value → Go.AI.AS → Prop),
  Go.AI.jn Go.Proofs.Tryz.prog Go.AI.hintsS T (47 : Nat) [Bool.true, Bool.true, Bool.false, Bool.false] [] K
  [((0 : Nat), Option.some (Go.Value.pointer (Option.some (Go.Addr.mk s (0 : Nat) Option.none)))), ((2 : Nat), Option.some (Go.Value.int Go.IntKind.i64 mode)), ((7 : Nat), Option.some (Go.Value.pointer f)),
  ((16 : Nat), Option.some (Go.Value.bool r16_1))]
  σ =
  Go.AI.bmatch r16_1 (K (Go.Value.int Go.IntKind.i64 (1 : Int)) σ)
  (Go.AI.ldc σ (Go.Addr.mk s ((0 : Nat) + (3 : Nat)) Option.none) fun (v0 : Go.Value) ↦
  Go.AI.tM v0 fun (b1 : Option Nat) ↦
  Go.AI.mlen σ b1 fun (n2 : Int) ↦
  Go.AI.bmatch (n2 == (64 : Int)) (K (Go.Value.int Go.IntKind.i64 (4 : Int)) σ)
  (Go.AI.ptrEq σ f Option.none fun (r3 : Bool) ↦
  Go.AI.bmatch r3
  (Go.AI.JoinS (Go.AI.jn Go.Proofs.Tryz.prog Go.AI.hintsS T (47 : Nat) [Bool.true, Bool.true, Bool.false, Bool.false, Bool.true, Bool.true, Bool.true, Bool.true] [] K)
  [((0 : Nat), Option.some (Go.Value.pointer (Option.some (Go.Addr.mk s (0 : Nat) Option.none)))), ((2 : Nat), Option.some (Go.Value.int Go.IntKind.i64 mode)),
  ((7 : Nat), Option.some (Go.Value.pointer f)), ((39 : Nat), Option.some (Go.Value.bool (mode == (2 : Int))))]
  σ)
  (Go.AI.JoinS (Go.AI.jn Go.Proofs.Tryz.prog Go.AI.hintsS T (47 : Nat) [Bool.true, Bool.true, Bool.false, Bool.false, Bool.true, Bool.true, Bool.true, Bool.true] [] K)
  [((0 : Nat), Option.some (Go.Value.pointer (Option.some (Go.Addr.mk s (0 : Nat) Option.none)))), ((2 : Nat), Option.some (Go.Value.int Go.IntKind.i64 mode)),
  ((7 : Nat), Option.some (Go.Value.pointer f)), ((39 : Nat), Option.some (Go.Value.bool Bool.false))]
  σ))) := by
  intros
  kernel_rfl

theorem s47j1 : ∀ (T : Go.AI.Ct) (s : Nat) (mode : Int) (f : Option Go.Addr) (r39_1 : Bool) (σ : Go.AI.AS) (K : Go.Value → Go.AI.AS → Prop),
  Go.AI.jn Go.Proofs.Tryz.prog Go.AI.hintsS T (47 : Nat) [Bool.true, Bool.true, Bool.false, Bool.false, Bool.true, Bool.true, Bool.true, Bool.true] [] K
  [((0 : Nat), Option.some (Go.Value.pointer (Option.some (Go.Addr.mk s (0 : Nat) Option.none)))), ((2 : Nat), Option.some (Go.Value.int Go.IntKind.i64 mode)), ((7 : Nat), Option.some (Go.Value.pointer f)),
  ((39 : Nat), Option.some (Go.Value.bool r39_1))]
  σ =
  Go.AI.bmatch r39_1 (K (Go.Value.int Go.IntKind.i64 (5 : Int)) σ)
  (Go.AI.ptrEq σ f Option.none fun (r0 : Bool) ↦
  Go.AI.bmatch r0
  (Go.AI.ldc σ (Go.Addr.mk s ((0 : Nat) + (2 : Nat)) Option.none) fun (v1 : Go.Value) ↦
  Go.AI.tM v1 fun (b2 : Option Nat) ↦
  Go.AI.mlen σ b2 fun (n3 : Int) ↦
  Go.AI.JoinS (Go.AI.jn Go.Proofs.Tryz.prog Go.AI.hintsS T (47 : Nat) [Bool.true, Bool.true, Bool.false, Bool.false, Bool.true, Bool.true, Bool.true, Bool.true, Bool.true, Bool.true] [] K)
  [((2 : Nat), Option.some (Go.Value.int Go.IntKind.i64 mode)), ((7 : Nat), Option.some (Go.Value.pointer f)), ((46 : Nat), Option.some (Go.Value.bool (n3 == (64 : Int))))] σ)
  (Go.AI.JoinS (Go.AI.jn Go.Proofs.Tryz.prog Go.AI.hintsS T (47 : Nat) [Bool.true, Bool.true, Bool.false, Bool.false, Bool.true, Bool.true, Bool.true, Bool.true, Bool.true, Bool.true] [] K)
  [((2 : Nat), Option.some (Go.Value.int Go.IntKind.i64 mode)), ((7 : Nat), Option.some (Go.Value.pointer f)), ((46 : Nat), Option.some (Go.Value.bool Bool.false))] σ)) := by
  intros
  kernel_rfl

theorem s47j2 : ∀ (T : Go.AI.Ct) (mode : Int) (f : Option Go.Addr) (r46_1 : Bool) (σ : Go.AI.AS) (K : Go.Value → Go.AI.AS → Prop),
  Go.AI.jn Go.Proofs.Tryz.prog Go.AI.hintsS T (47 : Nat) [Bool.true, Bool.true, Bool.false, Bool.false, Bool.true, Bool.true, Bool.true, Bool.true, Bool.true, Bool.true] [] K
  [((2 : Nat), Option.some (Go.Value.int Go.IntKind.i64 mode)), ((7 : Nat), Option.some (Go.Value.pointer f)), ((46 : Nat), Option.some (Go.Value.bool r46_1))] σ =
  Go.AI.bmatch r46_1 (K (Go.Value.int Go.IntKind.i64 (4 : Int)) σ)
  (Go.AI.ptrEq σ f Option.none fun (r0 : Bool) ↦
  Go.AI.bmatch r0 (K (Go.Value.int Go.IntKind.i64 (0 : Int)) σ)
  (Go.AI.pSome f fun (a1 : Go.Addr) ↦
  Go.AI.ldc σ (Go.Addr.mk (Go.Addr.block a1) (Go.Addr.off a1 + (1 : Nat)) Option.none) fun (v2 : Go.Value) ↦
  Go.AI.tL (1 : Nat) v2 fun (s3 : Go.AI.Sl) ↦
  Go.AI.ALoop (Go.AI.fl Go.Proofs.Tryz.prog Go.AI.hintsS T (47 : Nat) [Bool.true, Bool.true, Bool.true, Bool.false, Bool.true, Bool.false] [] K)
  [((2 : Nat), Option.some (Go.Value.int Go.IntKind.i64 mode)), ((63 : Nat), Option.some (Go.Value.slice (Go.AI.Sl.a s3) (Go.AI.Sl.n s3) (1 : Nat))),
  ((64 : Nat), Option.some (Go.Value.int Go.IntKind.i64 (↑(Go.AI.Sl.n s3) : Int))), ((65 : Nat), Option.some (Go.Value.int Go.IntKind.i64 (0 : Int)))]
  σ)) := by
  intros
  kernel_rfl

theorem s47l : ∀ (T : Go.AI.Ct) (mode : Int) (r63a_1 : Option Go.Addr) (r63n_1 r63e_1 : Nat) (r64_1 r65_1 : Int) (X : Go.AI.Regs → Go.AI.AS → Prop) (σ : Go.AI.AS) (K : Go.Value → Go.AI.AS → Prop),
  Go.AI.fl Go.Proofs.Tryz.prog Go.AI.hintsS T (47 : Nat) [Bool.true, Bool.true, Bool.true, Bool.false, Bool.true, Bool.false] [] K X
  [((2 : Nat), Option.some (Go.Value.int Go.IntKind.i64 mode)), ((63 : Nat), Option.some (Go.Value.slice r63a_1 r63n_1 r63e_1)), ((64 : Nat), Option.some (Go.Value.int Go.IntKind.i64 r64_1)),
  ((65 : Nat), Option.some (Go.Value.int Go.IntKind.i64 r65_1))]
  σ =
  Go.AI.bmatch (Decidable.decide (r65_1 < r64_1))
  (Go.AI.req ((0 : Int) ≤ r65_1)
  (Go.AI.req (r65_1 < (↑r63n_1 : Int))
  (Go.AI.pSome r63a_1 fun (a0 : Go.Addr) ↦
  Go.AI.req (r63e_1 = Go.AI.szOf Go.Proofs.Tryz.prog (95 : Nat))
  (Go.AI.ldc σ (Go.Addr.add a0 (Int.toNat r65_1 * Go.AI.szOf Go.Proofs.Tryz.prog (95 : Nat))) fun (v1 : Go.Value) ↦
  Go.AI.tP v1 fun (b2 : Option Go.Addr) ↦
  Go.AI.pSome b2 fun (a3 : Go.Addr) ↦
  Go.AI.ldc σ (Go.Addr.mk (Go.Addr.block a3) (Go.Addr.off a3 + (2 : Nat)) Option.none) fun (v4 : Go.Value) ↦
  Go.AI.tI Go.IntKind.i64 v4 fun (n5 : Int) ↦
  Go.AI.bmatch (n5 != (2 : Int))
  (Go.AI.JoinS
  (Go.AI.jn Go.Proofs.Tryz.prog Go.AI.hintsS T (47 : Nat)
  [Bool.true, Bool.true, Bool.true, Bool.false, Bool.true, Bool.false, Bool.false, Bool.true, Bool.true, Bool.false, Bool.false, Bool.true] [X] K)
  [((2 : Nat), Option.some (Go.Value.int Go.IntKind.i64 mode)), ((63 : Nat), Option.some (Go.Value.slice r63a_1 r63n_1 r63e_1)), ((64 : Nat), Option.some (Go.Value.int Go.IntKind.i64 r64_1)),
  ((65 : Nat), Option.some (Go.Value.int Go.IntKind.i64 r65_1)), ((77 : Nat), Option.some (Go.Value.bool Bool.true))]
  σ)
  (Go.AI.JoinS
  (Go.AI.jn Go.Proofs.Tryz.prog Go.AI.hintsS T (47 : Nat)
  [Bool.true, Bool.true, Bool.true, Bool.false, Bool.true, Bool.false, Bool.false, Bool.true, Bool.true, Bool.false, Bool.false, Bool.true] [X] K)
  [((2 : Nat), Option.some (Go.Value.int Go.IntKind.i64 mode)), ((63 : Nat), Option.some (Go.Value.slice r63a_1 r63n_1 r63e_1)), ((64 : Nat), Option.some (Go.Value.int Go.IntKind.i64 r64_1)),
  ((65 : Nat), Option.some (Go.Value.int Go.IntKind.i64 r65_1)), ((77 : Nat), Option.some (Go.Value.bool (mode != (2 : Int))))]
  σ)))))
  (K (Go.Value.int Go.IntKind.i64 (0 : Int)) σ) := by
  intros
  kernel_rfl

theorem s47j3 : ∀ (T : Go.AI.Ct) (mode : Int) (r63a_1 : Option Go.Addr) (r63n_1 r63e_1 : Nat) (r64_1 r65_1 : Int) (r77_1 : Bool) (X : Go.AI.Regs → Go.AI.AS → Prop) (σ : Go.AI.AS) (K : Go.Value → Go.AI.AS → Prop),
  Go.AI.jn Go.Proofs.Tryz.prog Go.AI.hintsS T (47 : Nat) [Bool.true, Bool.true, Bool.true, Bool.false, Bool.true, Bool.false, Bool.false, Bool.true, Bool.true, Bool.false, Bool.false, Bool.true] [X] K
  [((2 : Nat), Option.some (Go.Value.int Go.IntKind.i64 mode)), ((63 : Nat), Option.some (Go.Value.slice r63a_1 r63n_1 r63e_1)), ((64 : Nat), Option.some (Go.Value.int Go.IntKind.i64 r64_1)),
  ((65 : Nat), Option.some (Go.Value.int Go.IntKind.i64 r65_1)), ((77 : Nat), Option.some (Go.Value.bool r77_1))]
  σ =
  Go.AI.bmatch r77_1 (K (Go.Value.int Go.IntKind.i64 (6 : Int)) σ)
  (X
  [((2 : Nat), Option.some (Go.Value.int Go.IntKind.i64 mode)), ((63 : Nat), Option.some (Go.Value.slice r63a_1 r63n_1 r63e_1)), ((64 : Nat), Option.some (Go.Value.int Go.IntKind.i64 r64_1)),
  ((65 : Nat), Option.some (Go.Value.int Go.IntKind.i64 (Go.IntKind.wrap Go.IntKind.i64 (r65_1 + (1 : Int)))))]
  σ) := by
  intros
  kernel_rfl

theorem s48 : ∀ (T : Go.AI.Ct) (s x : Nat) (σ : Go.AI.AS) (K : Go.Value → Go.AI.AS → Prop),
  Go.AI.fw Go.Proofs.Tryz.prog Go.AI.hintsS T (48 : Nat) [Go.Value.pointer (Option.some (Go.Addr.mk s (0 : Nat) Option.none)), Go.Value.pointer (Option.some (Go.Addr.mk x (0 : Nat) Option.none))] σ K =
  Go.AI.ldc σ (Go.Addr.mk s ((0 : Nat) + (1 : Nat)) Option.none) fun (v0 : Go.Value) ↦
  Go.AI.tI Go.IntKind.i64 v0 fun (n1 : Int) ↦
  Go.AI.put1 σ (Go.Addr.mk s ((0 : Nat) + (1 : Nat)) Option.none) (Go.Value.int Go.IntKind.i64 (Go.IntKind.wrap Go.IntKind.i64 (n1 + (1 : Int)))) fun (σ2 : Go.AI.AS) ↦
  Go.AI.ldc σ2 (Go.Addr.mk s ((0 : Nat) + (3 : Nat)) Option.none) fun (v3 : Go.Value) ↦
  Go.AI.tM v3 fun (b4 : Option Nat) ↦
  Go.AI.ldc σ2 (Go.Addr.mk s ((0 : Nat) + (1 : Nat)) Option.none) fun (v5 : Go.Value) ↦
  Go.AI.tI Go.IntKind.i64 v5 fun (n6 : Int) ↦
  Go.AI.pSome b4 fun (i7 : Nat) ↦
  Go.AI.mset σ2 (Go.TypeDesc.int Go.IntKind.i64) i7 (Go.Value.int Go.IntKind.i64 n6) (Go.Value.pointer (Option.some (Go.Addr.mk x (0 : Nat) Option.none))) fun (σ8 : Go.AI.AS) ↦
  Go.AI.ldc σ8 (Go.Addr.mk s ((0 : Nat) + (1 : Nat)) Option.none) fun (v9 : Go.Value) ↦ Go.AI.tI Go.IntKind.i64 v9 fun (n10 : Int) ↦ K (Go.Value.int Go.IntKind.i64 n10) σ8 := by
  intros
  kernel_rfl

end Go.AI
end
section
/- The conditions ahead of the calls of the program's functions, reckoned as far as they go (equations that the kernel checks); no condition. -/
set_option maxRecDepth 1000000
set_option linter.unusedVariables false
namespace Go.AI
open Go.Proofs
theorem s49 : ∀ (T : Go.AI.Ct) (s : Nat) (σ : Go.AI.AS) (K : Go.Value → Go.AI.AS → Prop),
  Go.AI.fw Go.Proofs.Tryz.prog Go.AI.hintsS T (49 : Nat) [Go.Value.pointer (Option.some (Go.Addr.mk s (0 : Nat) Option.none))] σ K =
  Go.AI.ldc σ (Go.Addr.mk s ((0 : Nat) + (2 : Nat)) Option.none) fun (v0 : Go.Value) ↦
  Go.AI.tM v0 fun (b1 : Option Nat) ↦
  Go.AI.mlen σ b1 fun (n2 : Int) ↦
  Go.AI.req ((0 : Int) ≤ n2)
  (Go.AI.req (n2 * (↑(Go.AI.bytesOf Go.Proofs.Tryz.prog (9 : Nat)) : Int) ≤ (140737488355328 : Int))
  (Go.AI.newAt σ (Go.AI.AObj.row Go.AI.RK.rw []) fun (i3 : Nat) (σ4 : Go.AI.AS) ↦
  Go.AI.ldc σ4 (Go.Addr.mk s ((0 : Nat) + (2 : Nat)) Option.none) fun (v5 : Go.Value) ↦
  Go.AI.tM v5 fun (b6 : Option Nat) ↦
  Go.AI.rngM σ4 b6 fun (j7 : Nat) (σ8 : Go.AI.AS) ↦
  Go.AI.ALoop (Go.AI.fl Go.Proofs.Tryz.prog Go.AI.hintsS T (49 : Nat) [Bool.true, Bool.true, Bool.true, Bool.false, Bool.true, Bool.false] [] K)
  [((3 : Nat), Option.some (Go.Value.slice (Option.some (Go.Addr.mk i3 (0 : Nat) Option.none)) (0 : Nat) (1 : Nat))),
  ((17 : Nat), Option.some (Go.Value.pointer (Option.some (Go.Addr.mk j7 (0 : Nat) Option.none))))]
  σ8)) := by
  intros
  kernel_rfl

theorem s49l : ∀ (T : Go.AI.Ct) (la : Option Go.Addr) (ln le r17_1 : Nat) (X : Go.AI.Regs → Go.AI.AS → Prop) (σ : Go.AI.AS) (K : Go.Value → Go.AI.AS → Prop),
  Go.AI.fl Go.Proofs.Tryz.prog Go.AI.hintsS T (49 : Nat) [Bool.true, Bool.true, Bool.true, Bool.false, Bool.true, Bool.false] [] K X
  [((3 : Nat), Option.some (Go.Value.slice la ln le)), ((17 : Nat), Option.some (Go.Value.pointer (Option.some (Go.Addr.mk r17_1 (0 : Nat) Option.none))))] σ =
  Go.AI.mnext σ r17_1 fun (r0 : Option (Go.Value × Go.Value)) (σ1 : Go.AI.AS) ↦
  Go.AI.onNx r0
  (fun (k2 v3 : Go.Value) ↦
  Go.AI.mentry σ1 r17_1 fun (k4 v5 : Go.Value) ↦
  Go.AI.tS k4 fun (b6 : ByteArray) ↦
  Go.AI.newAt σ1 (Go.AI.AObj.row Go.AI.RK.rw [Go.Value.string b6]) fun (i7 : Nat) (σ8 : Go.AI.AS) ↦
  Go.AI.chk (Go.AI.nilOr la le (Go.AI.szOf Go.Proofs.Tryz.prog (9 : Nat)))
  (Go.AI.lds σ8 (Go.Addr.mk i7 (0 : Nat) Option.none) (1 : Nat) fun (l9 : List Go.Value) ↦
  Go.AI.appendTo σ8 (1 : Nat) (16 : Nat) (Go.AI.Sl.mk la ln) l9 (1 : Nat) fun (s10 : Go.AI.Sl) (σ11 : Go.AI.AS) ↦
  X [((3 : Nat), Option.some (Go.Value.slice (Go.AI.Sl.a s10) (Go.AI.Sl.n s10) (1 : Nat))), ((17 : Nat), Option.some (Go.Value.pointer (Option.some (Go.Addr.mk r17_1 (0 : Nat) Option.none))))] σ11))
  (T (65 : Nat) [Go.Value.slice la ln le] σ1 fun (v12 : Go.Value) (σ13 : Go.AI.AS) ↦ K (Go.Value.slice la ln le) σ13) := by
  intros
  kernel_rfl

theorem s52 : ∀ (T : Go.AI.Ct) (s : Nat) (σ : Go.AI.AS) (K : Go.Value → Go.AI.AS → Prop),
  Go.AI.fw Go.Proofs.Tryz.prog Go.AI.hintsS T (52 : Nat) [Go.Value.pointer (Option.some (Go.Addr.mk s (0 : Nat) Option.none))] σ K =
  Go.AI.ldc σ (Go.Addr.mk s ((0 : Nat) + (3 : Nat)) Option.none) fun (v0 : Go.Value) ↦
  Go.AI.tM v0 fun (b1 : Option Nat) ↦
  Go.AI.mlen σ b1 fun (n2 : Int) ↦
  Go.AI.req ((0 : Int) ≤ n2)
  (Go.AI.req (n2 * (↑(Go.AI.bytesOf Go.Proofs.Tryz.prog (3 : Nat)) : Int) ≤ (140737488355328 : Int))
  (Go.AI.newAt σ (Go.AI.AObj.row Go.AI.RK.rw []) fun (i3 : Nat) (σ4 : Go.AI.AS) ↦
  Go.AI.ldc σ4 (Go.Addr.mk s ((0 : Nat) + (3 : Nat)) Option.none) fun (v5 : Go.Value) ↦
  Go.AI.tM v5 fun (b6 : Option Nat) ↦
  Go.AI.rngM σ4 b6 fun (j7 : Nat) (σ8 : Go.AI.AS) ↦
  Go.AI.ALoop (Go.AI.fl Go.Proofs.Tryz.prog Go.AI.hintsS T (52 : Nat) [Bool.true, Bool.true, Bool.true, Bool.false, Bool.true, Bool.false] [] K)
  [((3 : Nat), Option.some (Go.Value.slice (Option.some (Go.Addr.mk i3 (0 : Nat) Option.none)) (0 : Nat) (1 : Nat))),
  ((17 : Nat), Option.some (Go.Value.pointer (Option.some (Go.Addr.mk j7 (0 : Nat) Option.none))))]
  σ8)) := by
  intros
  kernel_rfl

theorem s52l : ∀ (T : Go.AI.Ct) (la : Option Go.Addr) (ln le r17_1 : Nat) (X : Go.AI.Regs → Go.AI.AS → Prop) (σ : Go.AI.AS) (K : Go.Value → Go.AI.AS → Prop),
  Go.AI.fl Go.Proofs.Tryz.prog Go.AI.hintsS T (52 : Nat) [Bool.true, Bool.true, Bool.true, Bool.false, Bool.true, Bool.false] [] K X
  [((3 : Nat), Option.some (Go.Value.slice la ln le)), ((17 : Nat), Option.some (Go.Value.pointer (Option.some (Go.Addr.mk r17_1 (0 : Nat) Option.none))))] σ =
  Go.AI.mnext σ r17_1 fun (r0 : Option (Go.Value × Go.Value)) (σ1 : Go.AI.AS) ↦
  Go.AI.onNx r0
  (fun (k2 v3 : Go.Value) ↦
  Go.AI.mentry σ1 r17_1 fun (k4 v5 : Go.Value) ↦
  Go.AI.tI Go.IntKind.i64 k4 fun (n6 : Int) ↦
  Go.AI.newAt σ1 (Go.AI.AObj.row Go.AI.RK.rw [Go.Value.int Go.IntKind.i64 n6]) fun (i7 : Nat) (σ8 : Go.AI.AS) ↦
  Go.AI.chk (Go.AI.nilOr la le (Go.AI.szOf Go.Proofs.Tryz.prog (3 : Nat)))
  (Go.AI.lds σ8 (Go.Addr.mk i7 (0 : Nat) Option.none) (1 : Nat) fun (l9 : List Go.Value) ↦
  Go.AI.appendTo σ8 (1 : Nat) (8 : Nat) (Go.AI.Sl.mk la ln) l9 (1 : Nat) fun (s10 : Go.AI.Sl) (σ11 : Go.AI.AS) ↦
  X [((3 : Nat), Option.some (Go.Value.slice (Go.AI.Sl.a s10) (Go.AI.Sl.n s10) (1 : Nat))), ((17 : Nat), Option.some (Go.Value.pointer (Option.some (Go.Addr.mk r17_1 (0 : Nat) Option.none))))] σ11))
  (T (66 : Nat) [Go.Value.slice la ln le] σ1 fun (v12 : Go.Value) (σ13 : Go.AI.AS) ↦ K (Go.Value.slice la ln le) σ13) := by
  intros
  kernel_rfl

theorem s53 : ∀ (T : Go.AI.Ct) (sa : Option Go.Addr) (sn : Nat) (del : Go.Value) (σ : Go.AI.AS) (K : Go.Value → Go.AI.AS → Prop),
  Go.AI.fw Go.Proofs.Tryz.prog Go.AI.hintsS T (53 : Nat) [Go.Value.slice sa sn (1 : Nat), del] σ K =
  T (67 : Nat) [Go.Value.slice sa sn (1 : Nat), del] σ fun (v0 : Go.Value) (σ1 : Go.AI.AS) ↦
  Go.AI.tI Go.IntKind.i64 v0 fun (n2 : Int) ↦
  Go.AI.bmatch (n2 == (-1 : Int)) (K (Go.Value.slice sa sn (1 : Nat)) σ1)
  (Go.AI.ALoop (Go.AI.fl Go.Proofs.Tryz.prog Go.AI.hintsS T (53 : Nat) [Bool.true, Bool.true, Bool.true, Bool.false, Bool.true, Bool.false] [] K)
  [((0 : Nat), Option.some (Go.Value.slice sa sn (1 : Nat))), ((1 : Nat), Option.some del), ((5 : Nat), Option.some (Go.Value.int Go.IntKind.i64 n2)),
  ((6 : Nat), Option.some (Go.Value.int Go.IntKind.i64 (Go.IntKind.wrap Go.IntKind.i64 (n2 + (1 : Int)))))]
  σ1) := by
  intros
  kernel_rfl

theorem s53l : ∀ (T : Go.AI.Ct) (sa : Option Go.Addr) (sn se : Nat) (del : Go.Value) (i j : Int) (X : Go.AI.Regs → Go.AI.AS → Prop) (σ : Go.AI.AS) (K : Go.Value → Go.AI.AS → Prop),
  Go.AI.fl Go.Proofs.Tryz.prog Go.AI.hintsS T (53 : Nat) [Bool.true, Bool.true, Bool.true, Bool.false, Bool.true, Bool.false] [] K X
  [((0 : Nat), Option.some (Go.Value.slice sa sn se)), ((1 : Nat), Option.some del), ((5 : Nat), Option.some (Go.Value.int Go.IntKind.i64 i)), ((6 : Nat), Option.some (Go.Value.int Go.IntKind.i64 j))]
  σ =
  Go.AI.bmatch (Decidable.decide (j < (↑sn : Int)))
  (Go.AI.req ((0 : Int) ≤ j)
  (Go.AI.req (j < (↑sn : Int))
  (Go.AI.pSome sa fun (a0 : Go.Addr) ↦
  Go.AI.req (se = Go.AI.szOf Go.Proofs.Tryz.prog (95 : Nat))
  (Go.AI.ldc σ (Go.Addr.add a0 (Int.toNat j * Go.AI.szOf Go.Proofs.Tryz.prog (95 : Nat))) fun (v1 : Go.Value) ↦
  Go.AI.tP v1 fun (b2 : Option Go.Addr) ↦
  Go.AI.callV T del [Go.Value.pointer b2] σ fun (v3 : Go.Value) (σ4 : Go.AI.AS) ↦
  Go.AI.tB v3 fun (b5 : Bool) ↦
  Go.AI.bmatch (!b5)
  (Go.AI.req ((0 : Int) ≤ i)
  (Go.AI.req (i < (↑sn : Int))
  (Go.AI.pSome sa fun (a6 : Go.Addr) ↦
  Go.AI.req (se = Go.AI.szOf Go.Proofs.Tryz.prog (95 : Nat))
  (Go.AI.put1 σ4 (Go.Addr.add a6 (Int.toNat i * Go.AI.szOf Go.Proofs.Tryz.prog (95 : Nat))) (Go.Value.pointer b2) fun (σ7 : Go.AI.AS) ↦
  X
  [((0 : Nat), Option.some (Go.Value.slice sa sn se)), ((1 : Nat), Option.some del),
  ((5 : Nat), Option.some (Go.Value.int Go.IntKind.i64 (Go.IntKind.wrap Go.IntKind.i64 (i + (1 : Int))))),
  ((6 : Nat), Option.some (Go.Value.int Go.IntKind.i64 (Go.IntKind.wrap Go.IntKind.i64 (j + (1 : Int)))))]
  σ7))))
  (X
  [((0 : Nat), Option.some (Go.Value.slice sa sn se)), ((1 : Nat), Option.some del), ((5 : Nat), Option.some (Go.Value.int Go.IntKind.i64 i)),
  ((6 : Nat), Option.some (Go.Value.int Go.IntKind.i64 (Go.IntKind.wrap Go.IntKind.i64 (j + (1 : Int)))))]
  σ4)))))
  (Go.AI.req ((0 : Int) ≤ i)
  (Go.AI.req (i ≤ (↑sn : Int))
  (Go.AI.req ((↑sn : Int) ≤ (↑(Go.AI.capLo σ sa se sn) : Int))
  (Go.AI.chk (Go.AI.nilOr sa se (Go.AI.szOf Go.Proofs.Tryz.prog (95 : Nat)))
  (Go.AI.clearTo σ (Option.map (fun (x : Go.Addr) ↦ Go.Addr.add x (Int.toNat i * Go.AI.szOf Go.Proofs.Tryz.prog (95 : Nat))) sa) (Int.toNat ((↑sn : Int) - i)) [Go.Value.pointer Option.none]
  fun (σ8 : Go.AI.AS) ↦
  Go.AI.req ((0 : Int) ≤ i)
  (Go.AI.req (i ≤ (↑(Go.AI.capLo σ8 sa se sn) : Int))
  (Go.AI.chk (Go.AI.nilOr sa se (Go.AI.szOf Go.Proofs.Tryz.prog (95 : Nat)))
  (K (Go.Value.slice (Option.map (fun (x : Go.Addr) ↦ Go.Addr.add x (Int.toNat (0 : Int) * Go.AI.szOf Go.Proofs.Tryz.prog (95 : Nat))) sa) (Int.toNat (i - (0 : Int))) (1 : Nat)) σ8)))))))) := by
  intros
  kernel_rfl

theorem s55 : ∀ (T : Go.AI.Ct) (x : Nat) (i c : Int) (σ : Go.AI.AS) (K : Go.Value → Go.AI.AS → Prop),
  Go.AI.fw Go.Proofs.Tryz.prog Go.AI.hintsS T (55 : Nat) [Go.Value.pointer (Option.some (Go.Addr.mk x (0 : Nat) Option.none)), Go.Value.int Go.IntKind.i64 i, Go.Value.int Go.IntKind.u32 c] σ K =
  Go.AI.ldc σ (Go.Addr.mk x ((0 : Nat) + (1 : Nat)) Option.none) fun (v0 : Go.Value) ↦
  Go.AI.tB v0 fun (b1 : Bool) ↦
  Go.AI.bmatch (!b1)
  (T (68 : Nat) [Go.Value.int Go.IntKind.u32 c] σ fun (v2 : Go.Value) (σ3 : Go.AI.AS) ↦
  Go.AI.tI Go.IntKind.u8 v2 fun (n4 : Int) ↦
  Go.AI.JoinS (Go.AI.jn Go.Proofs.Tryz.prog Go.AI.hintsS T (55 : Nat) [] [] K)
  [((0 : Nat), Option.some (Go.Value.pointer (Option.some (Go.Addr.mk x (0 : Nat) Option.none)))), ((1 : Nat), Option.some (Go.Value.int Go.IntKind.i64 i)),
  ((2 : Nat), Option.some (Go.Value.int Go.IntKind.u32 (Go.IntKind.wrap Go.IntKind.u32 n4)))]
  σ3)
  (Go.AI.JoinS (Go.AI.jn Go.Proofs.Tryz.prog Go.AI.hintsS T (55 : Nat) [] [] K)
  [((0 : Nat), Option.some (Go.Value.pointer (Option.some (Go.Addr.mk x (0 : Nat) Option.none)))), ((1 : Nat), Option.some (Go.Value.int Go.IntKind.i64 i)),
  ((2 : Nat), Option.some (Go.Value.int Go.IntKind.u32 c))]
  σ) := by
  intros
  kernel_rfl

theorem s55j : ∀ (T : Go.AI.Ct) (x : Nat) (i c : Int) (σ : Go.AI.AS) (K : Go.Value → Go.AI.AS → Prop),
  Go.AI.jn Go.Proofs.Tryz.prog Go.AI.hintsS T (55 : Nat) [] [] K
  [((0 : Nat), Option.some (Go.Value.pointer (Option.some (Go.Addr.mk x (0 : Nat) Option.none)))), ((1 : Nat), Option.some (Go.Value.int Go.IntKind.i64 i)),
  ((2 : Nat), Option.some (Go.Value.int Go.IntKind.u32 c))]
  σ =
  Go.AI.ldc σ (Go.Addr.mk x (0 : Nat) Option.none) fun (v0 : Go.Value) ↦
  Go.AI.tL (1 : Nat) v0 fun (s1 : Go.AI.Sl) ↦
  Go.AI.bmatch (Decidable.decide (i < (↑(Go.AI.Sl.n s1) : Int)))
  (Go.AI.ldc σ (Go.Addr.mk x (0 : Nat) Option.none) fun (v2 : Go.Value) ↦
  Go.AI.tL (1 : Nat) v2 fun (s3 : Go.AI.Sl) ↦
  Go.AI.req ((0 : Int) ≤ i)
  (Go.AI.req (i < (↑(Go.AI.Sl.n s3) : Int))
  (Go.AI.pSome (Go.AI.Sl.a s3) fun (a4 : Go.Addr) ↦
  Go.AI.put1 σ (Go.Addr.add a4 (Int.toNat i * Go.AI.szOf Go.Proofs.Tryz.prog (54 : Nat))) (Go.Value.int Go.IntKind.u32 c) fun (σ5 : Go.AI.AS) ↦ K (Go.Value.tuple (Array.mk [])) σ5)))
  (K (Go.Value.tuple (Array.mk [])) σ) := by
  intros
  kernel_rfl

theorem s64 : ∀ (T : Go.AI.Ct) (s : Nat) (n : Int) (σ : Go.AI.AS) (K : Go.Value → Go.AI.AS → Prop),
  Go.AI.fw Go.Proofs.Tryz.prog Go.AI.hintsS T (64 : Nat) [Go.Value.pointer (Option.some (Go.Addr.mk s (0 : Nat) Option.none)), Go.Value.int Go.IntKind.i64 n] σ K =
  T (45 : Nat) [Go.Value.pointer (Option.some (Go.Addr.mk s (0 : Nat) Option.none)), Go.Value.int Go.IntKind.i64 n] σ fun (v0 : Go.Value) (σ1 : Go.AI.AS) ↦
  Go.AI.tTup v0 fun (l2 : List Go.Value) ↦
  Go.AI.pSome l2[(0 : Nat)]? fun (u3 : Go.Value) ↦
  Go.AI.tP u3 fun (b4 : Option Go.Addr) ↦
  Go.AI.tTup v0 fun (l5 : List Go.Value) ↦
  Go.AI.pSome l5[(1 : Nat)]? fun (u6 : Go.Value) ↦
  Go.AI.tI Go.IntKind.i64 u6 fun (n7 : Int) ↦
  Go.AI.bmatch (n7 == (0 : Int))
  (T (71 : Nat) [Go.Value.pointer b4] σ1 fun (v8 : Go.Value) (σ9 : Go.AI.AS) ↦
  Go.AI.tB v8 fun (b10 : Bool) ↦
  Go.AI.JoinS (Go.AI.jn Go.Proofs.Tryz.prog Go.AI.hintsS T (64 : Nat) [Bool.true, Bool.true, Bool.false] [] K)
  [((6 : Nat), Option.some (Go.Value.pointer b4)), ((7 : Nat), Option.some (Go.Value.int Go.IntKind.i64 n7)), ((20 : Nat), Option.some (Go.Value.bool !b10))] σ9)
  (Go.AI.JoinS (Go.AI.jn Go.Proofs.Tryz.prog Go.AI.hintsS T (64 : Nat) [Bool.true, Bool.true, Bool.false] [] K)
  [((6 : Nat), Option.some (Go.Value.pointer b4)), ((7 : Nat), Option.some (Go.Value.int Go.IntKind.i64 n7)), ((20 : Nat), Option.some (Go.Value.bool Bool.false))] σ1) := by
  intros
  kernel_rfl

theorem s64j : ∀ (T : Go.AI.Ct) (x : Option Go.Addr) (e : Int) (r20_1 : Bool) (σ : Go.AI.AS) (K : Go.Value → Go.AI.AS → Prop),
  Go.AI.jn Go.Proofs.Tryz.prog Go.AI.hintsS T (64 : Nat) [Bool.true, Bool.true, Bool.false] [] K
  [((6 : Nat), Option.some (Go.Value.pointer x)), ((7 : Nat), Option.some (Go.Value.int Go.IntKind.i64 e)), ((20 : Nat), Option.some (Go.Value.bool r20_1))] σ =
  Go.AI.bmatch r20_1 (K (Go.Value.tuple (Array.mk [Go.Value.pointer Option.none, Go.Value.int Go.IntKind.i64 (1 : Int)])) σ)
  (K (Go.Value.tuple (Array.mk [Go.Value.pointer x, Go.Value.int Go.IntKind.i64 e])) σ) := by
  intros
  kernel_rfl

theorem s67 : ∀ (T : Go.AI.Ct) (sa : Option Go.Addr) (sn : Nat) (f : Go.Value) (σ : Go.AI.AS) (K : Go.Value → Go.AI.AS → Prop),
  Go.AI.fw Go.Proofs.Tryz.prog Go.AI.hintsS T (67 : Nat) [Go.Value.slice sa sn (1 : Nat), f] σ K =
  Go.AI.ALoop (Go.AI.fl Go.Proofs.Tryz.prog Go.AI.hintsS T (67 : Nat) [Bool.true, Bool.false, Bool.true, Bool.false] [] K)
  [((0 : Nat), Option.some (Go.Value.slice sa sn (1 : Nat))), ((1 : Nat), Option.some f), ((7 : Nat), Option.some (Go.Value.int Go.IntKind.i64 (↑sn : Int))),
  ((8 : Nat), Option.some (Go.Value.int Go.IntKind.i64 (0 : Int)))]
  σ := by
  intros
  kernel_rfl

theorem s67l : ∀ (T : Go.AI.Ct) (sa : Option Go.Addr) (sn se : Nat) (f : Go.Value) (r7_1 r8_1 : Int) (X : Go.AI.Regs → Go.AI.AS → Prop) (σ : Go.AI.AS) (K : Go.Value → Go.AI.AS → Prop),
  Go.AI.fl Go.Proofs.Tryz.prog Go.AI.hintsS T (67 : Nat) [Bool.true, Bool.false, Bool.true, Bool.false] [] K X
  [((0 : Nat), Option.some (Go.Value.slice sa sn se)), ((1 : Nat), Option.some f), ((7 : Nat), Option.some (Go.Value.int Go.IntKind.i64 r7_1)), ((8 : Nat), Option.some (Go.Value.int Go.IntKind.i64 r8_1))]
  σ =
  Go.AI.bmatch (Decidable.decide (r8_1 < r7_1))
  (Go.AI.req ((0 : Int) ≤ r8_1)
  (Go.AI.req (r8_1 < (↑sn : Int))
  (Go.AI.pSome sa fun (a0 : Go.Addr) ↦
  Go.AI.req (se = Go.AI.szOf Go.Proofs.Tryz.prog (95 : Nat))
  (Go.AI.ldc σ (Go.Addr.add a0 (Int.toNat r8_1 * Go.AI.szOf Go.Proofs.Tryz.prog (95 : Nat))) fun (v1 : Go.Value) ↦
  Go.AI.tP v1 fun (b2 : Option Go.Addr) ↦
  Go.AI.callV T f [Go.Value.pointer b2] σ fun (v3 : Go.Value) (σ4 : Go.AI.AS) ↦
  Go.AI.tB v3 fun (b5 : Bool) ↦
  Go.AI.bmatch b5 (K (Go.Value.int Go.IntKind.i64 r8_1) σ4)
  (X
  [((0 : Nat), Option.some (Go.Value.slice sa sn se)), ((1 : Nat), Option.some f), ((7 : Nat), Option.some (Go.Value.int Go.IntKind.i64 r7_1)),
  ((8 : Nat), Option.some (Go.Value.int Go.IntKind.i64 (Go.IntKind.wrap Go.IntKind.i64 (r8_1 + (1 : Int)))))]
  σ4)))))
  (K (Go.Value.int Go.IntKind.i64 (-1 : Int)) σ) := by
  intros
  kernel_rfl

theorem s68 : ∀ (T : Go.AI.Ct) (c : Int) (σ : Go.AI.AS) (K : Go.Value → Go.AI.AS → Prop),
  Go.AI.fw Go.Proofs.Tryz.prog Go.AI.hintsS T (68 : Nat) [Go.Value.int Go.IntKind.u32 c] σ K =
  Go.AI.bmatch (Decidable.decide (c > (255 : Int))) (K (Go.Value.int Go.IntKind.u8 (63 : Int)) σ) (K (Go.Value.int Go.IntKind.u8 (Go.IntKind.wrap Go.IntKind.u8 c)) σ) := by
  intros
  kernel_rfl

theorem s71 : ∀ (T : Go.AI.Ct) (x : Nat) (σ : Go.AI.AS) (K : Go.Value → Go.AI.AS → Prop),
  Go.AI.fw Go.Proofs.Tryz.prog Go.AI.hintsS T (71 : Nat) [Go.Value.pointer (Option.some (Go.Addr.mk x (0 : Nat) Option.none))] σ K =
  Go.AI.ldc σ (Go.Addr.mk x ((0 : Nat) + (2 : Nat)) Option.none) fun (v0 : Go.Value) ↦
  Go.AI.tI Go.IntKind.i64 v0 fun (n1 : Int) ↦
  Go.AI.bmatch (n1 == (2 : Int)) (K (Go.Value.bool Bool.true) σ)
  (Go.AI.ldc σ (Go.Addr.mk x ((0 : Nat) + (2 : Nat)) Option.none) fun (v2 : Go.Value) ↦ Go.AI.tI Go.IntKind.i64 v2 fun (n3 : Int) ↦ K (Go.Value.bool (n3 == (3 : Int))) σ) := by
  intros
  kernel_rfl

theorem s122 : ∀ (T : Go.AI.Ct) (xf : Nat) (i : Int) (σ : Go.AI.AS) (K : Go.Value → Go.AI.AS → Prop),
  Go.AI.fw Go.Proofs.Tryz.prog Go.AI.hintsS T (122 : Nat) [Go.Value.agg (Array.mk [Go.Value.pointer (Option.some (Go.Addr.mk xf (0 : Nat) Option.none))]), Go.Value.int Go.IntKind.i64 i] σ K =
  Go.AI.newAt σ (Go.AI.AObj.row Go.AI.RK.plain [Go.Value.pointer (Option.some (Go.Addr.mk xf (0 : Nat) Option.none))]) fun (i0 : Nat) (σ1 : Go.AI.AS) ↦
  Go.AI.ldc σ1 (Go.Addr.mk i0 (0 : Nat) Option.none) fun (v2 : Go.Value) ↦
  Go.AI.tP v2 fun (b3 : Option Go.Addr) ↦
  Go.AI.pSome b3 fun (a4 : Go.Addr) ↦
  Go.AI.ldc σ1 (Go.Addr.add a4 (0 : Nat)) fun (v5 : Go.Value) ↦
  Go.AI.tL (1 : Nat) v5 fun (s6 : Go.AI.Sl) ↦
  Go.AI.req ((0 : Int) ≤ i)
  (Go.AI.req (i < (↑(Go.AI.Sl.n s6) : Int))
  (Go.AI.pSome (Go.AI.Sl.a s6) fun (a7 : Go.Addr) ↦
  Go.AI.ldc σ1 (Go.Addr.add a7 (Int.toNat i * Go.AI.szOf Go.Proofs.Tryz.prog (5 : Nat))) fun (v8 : Go.Value) ↦
  Go.AI.tI Go.IntKind.u8 v8 fun (n9 : Int) ↦ K (Go.Value.int Go.IntKind.u32 (Go.IntKind.wrap Go.IntKind.u32 n9)) σ1)) := by
  intros
  kernel_rfl

theorem s123 : ∀ (T : Go.AI.Ct) (xf : Nat) (n : Int) (σ : Go.AI.AS) (K : Go.Value → Go.AI.AS → Prop),
  Go.AI.fw Go.Proofs.Tryz.prog Go.AI.hintsS T (123 : Nat) [Go.Value.agg (Array.mk [Go.Value.pointer (Option.some (Go.Addr.mk xf (0 : Nat) Option.none))]), Go.Value.int Go.IntKind.i64 n] σ K =
  Go.AI.newAt σ (Go.AI.AObj.row Go.AI.RK.plain [Go.Value.pointer (Option.some (Go.Addr.mk xf (0 : Nat) Option.none))]) fun (i0 : Nat) (σ1 : Go.AI.AS) ↦
  Go.AI.ldc σ1 (Go.Addr.mk i0 (0 : Nat) Option.none) fun (v2 : Go.Value) ↦
  Go.AI.tP v2 fun (b3 : Option Go.Addr) ↦
  Go.AI.pSome b3 fun (a4 : Go.Addr) ↦
  Go.AI.ldc σ1 (Go.Addr.add a4 (0 : Nat)) fun (v5 : Go.Value) ↦
  Go.AI.tL (1 : Nat) v5 fun (s6 : Go.AI.Sl) ↦ K (Go.Value.int Go.IntKind.i64 (Go.AI.imax (0 : Int) (Go.IntKind.wrap Go.IntKind.i64 (n - (↑(Go.AI.Sl.n s6) : Int))))) σ1 := by
  intros
  kernel_rfl

theorem s124 : ∀ (T : Go.AI.Ct) (xf : Nat) (i c : Int) (σ : Go.AI.AS) (K : Go.Value → Go.AI.AS → Prop),
  Go.AI.fw Go.Proofs.Tryz.prog Go.AI.hintsS T (124 : Nat)
  [Go.Value.agg (Array.mk [Go.Value.pointer (Option.some (Go.Addr.mk xf (0 : Nat) Option.none))]), Go.Value.int Go.IntKind.i64 i, Go.Value.int Go.IntKind.u32 c] σ K =
  Go.AI.newAt σ (Go.AI.AObj.row Go.AI.RK.plain [Go.Value.pointer (Option.some (Go.Addr.mk xf (0 : Nat) Option.none))]) fun (i0 : Nat) (σ1 : Go.AI.AS) ↦
  Go.AI.ldc σ1 (Go.Addr.mk i0 (0 : Nat) Option.none) fun (v2 : Go.Value) ↦
  Go.AI.tP v2 fun (b3 : Option Go.Addr) ↦
  Go.AI.pSome b3 fun (a4 : Go.Addr) ↦
  Go.AI.ldc σ1 (Go.Addr.add a4 (0 : Nat)) fun (v5 : Go.Value) ↦
  Go.AI.tL (1 : Nat) v5 fun (s6 : Go.AI.Sl) ↦
  Go.AI.bmatch (i == (↑(Go.AI.Sl.n s6) : Int))
  (Go.AI.ldc σ1 (Go.Addr.mk i0 (0 : Nat) Option.none) fun (v7 : Go.Value) ↦
  Go.AI.tP v7 fun (b8 : Option Go.Addr) ↦
  Go.AI.ldc σ1 (Go.Addr.mk i0 (0 : Nat) Option.none) fun (v9 : Go.Value) ↦
  Go.AI.tP v9 fun (b10 : Option Go.Addr) ↦
  Go.AI.pSome b10 fun (a11 : Go.Addr) ↦
  Go.AI.ldc σ1 (Go.Addr.add a11 (0 : Nat)) fun (v12 : Go.Value) ↦
  Go.AI.tL (1 : Nat) v12 fun (s13 : Go.AI.Sl) ↦
  Go.AI.newAt σ1 (Go.AI.AObj.row Go.AI.RK.rw [Go.Value.int Go.IntKind.u8 (0 : Int)]) fun (i14 : Nat) (σ15 : Go.AI.AS) ↦
  Go.AI.ldc σ15 (Go.Addr.add a11 (0 : Nat)) fun (v16 : Go.Value) ↦
  Go.AI.tL (1 : Nat) v16 fun (s17 : Go.AI.Sl) ↦
  Go.Value.slice (Go.AI.Sl.a s13) (Go.AI.Sl.n s13) (Go.AI.szOf Go.Proofs.Tryz.prog (5 : Nat)) =
  Go.Value.slice (Go.AI.Sl.a s17) (Go.AI.Sl.n s17) (Go.AI.szOf Go.Proofs.Tryz.prog (5 : Nat)) ∧
  Go.AI.ldc σ15 (Go.Addr.mk i0 (0 : Nat) Option.none) fun (v18 : Go.Value) ↦
  Go.AI.tP v18 fun (b19 : Option Go.Addr) ↦
  Go.Value.pointer b10 = Go.Value.pointer b19 ∧
  Go.AI.ldc σ15 (Go.Addr.mk i0 (0 : Nat) Option.none) fun (v20 : Go.Value) ↦
  Go.AI.tP v20 fun (b21 : Option Go.Addr) ↦
  Go.Value.pointer b8 = Go.Value.pointer b21 ∧
  Go.AI.lds σ15 (Go.Addr.mk i14 (0 : Nat) Option.none) (1 : Nat) fun (l22 : List Go.Value) ↦
  Go.AI.appendTo σ15 (1 : Nat) (1 : Nat) (Go.AI.Sl.mk (Go.AI.Sl.a s13) (Go.AI.Sl.n s13)) l22 (1 : Nat) fun (s23 : Go.AI.Sl) (σ24 : Go.AI.AS) ↦
  Go.AI.ldc σ24 (Go.Addr.mk i0 (0 : Nat) Option.none) fun (v25 : Go.Value) ↦
  Go.AI.tP v25 fun (b26 : Option Go.Addr) ↦
  Go.Value.pointer b8 = Go.Value.pointer b26 ∧
  Go.AI.pSome b8 fun (a27 : Go.Addr) ↦
  Go.AI.put1 σ24 (Go.Addr.add a27 (0 : Nat)) (Go.Value.slice (Go.AI.Sl.a s23) (Go.AI.Sl.n s23) (1 : Nat)) fun (σ28 : Go.AI.AS) ↦
  Go.AI.JoinS (Go.AI.jn Go.Proofs.Tryz.prog Go.AI.hintsS T (124 : Nat) [Bool.true] [] K)
  [((1 : Nat), Option.some (Go.Value.int Go.IntKind.i64 i)), ((2 : Nat), Option.some (Go.Value.int Go.IntKind.u32 c)),
  ((3 : Nat), Option.some (Go.Value.pointer (Option.some (Go.Addr.mk i0 (0 : Nat) Option.none))))]
  σ28)
  (Go.AI.JoinS (Go.AI.jn Go.Proofs.Tryz.prog Go.AI.hintsS T (124 : Nat) [Bool.true] [] K)
  [((1 : Nat), Option.some (Go.Value.int Go.IntKind.i64 i)), ((2 : Nat), Option.some (Go.Value.int Go.IntKind.u32 c)),
  ((3 : Nat), Option.some (Go.Value.pointer (Option.some (Go.Addr.mk i0 (0 : Nat) Option.none))))]
  σ1) := by
  intros
  kernel_rfl

theorem s124j : ∀ (T : Go.AI.Ct) (i c : Int) (x : Nat) (σ : Go.AI.AS) (K : Go.Value → Go.AI.AS → Prop),
  Go.AI.jn Go.Proofs.Tryz.prog Go.AI.hintsS T (124 : Nat) [Bool.true] [] K
  [((1 : Nat), Option.some (Go.Value.int Go.IntKind.i64 i)), ((2 : Nat), Option.some (Go.Value.int Go.IntKind.u32 c)),
  ((3 : Nat), Option.some (Go.Value.pointer (Option.some (Go.Addr.mk x (0 : Nat) Option.none))))]
  σ =
  Go.AI.ldc σ (Go.Addr.mk x (0 : Nat) Option.none) fun (v0 : Go.Value) ↦
  Go.AI.tP v0 fun (b1 : Option Go.Addr) ↦
  Go.AI.pSome b1 fun (a2 : Go.Addr) ↦
  Go.AI.ldc σ (Go.Addr.add a2 (0 : Nat)) fun (v3 : Go.Value) ↦
  Go.AI.tL (1 : Nat) v3 fun (s4 : Go.AI.Sl) ↦
  T (68 : Nat) [Go.Value.int Go.IntKind.u32 c] σ fun (v5 : Go.Value) (σ6 : Go.AI.AS) ↦
  Go.AI.tI Go.IntKind.u8 v5 fun (n7 : Int) ↦
  Go.AI.ldc σ6 (Go.Addr.add a2 (0 : Nat)) fun (v8 : Go.Value) ↦
  Go.AI.tL (1 : Nat) v8 fun (s9 : Go.AI.Sl) ↦
  Go.Value.slice (Go.AI.Sl.a s4) (Go.AI.Sl.n s4) (Go.AI.szOf Go.Proofs.Tryz.prog (5 : Nat)) = Go.Value.slice (Go.AI.Sl.a s9) (Go.AI.Sl.n s9) (Go.AI.szOf Go.Proofs.Tryz.prog (5 : Nat)) ∧
  Go.AI.ldc σ6 (Go.Addr.mk x (0 : Nat) Option.none) fun (v10 : Go.Value) ↦
  Go.AI.tP v10 fun (b11 : Option Go.Addr) ↦
  Go.Value.pointer b1 = Go.Value.pointer b11 ∧
  Go.AI.req ((0 : Int) ≤ i)
  (Go.AI.req (i < (↑(Go.AI.Sl.n s4) : Int))
  (Go.AI.pSome (Go.AI.Sl.a s4) fun (a12 : Go.Addr) ↦
  Go.AI.put1 σ6 (Go.Addr.add a12 (Int.toNat i * Go.AI.szOf Go.Proofs.Tryz.prog (5 : Nat))) (Go.Value.int Go.IntKind.u8 n7) fun (σ13 : Go.AI.AS) ↦
  K (Go.Value.tuple (Array.mk [])) σ13)) := by
  intros
  kernel_rfl

theorem s125 : ∀ (T : Go.AI.Ct) (xf : Nat) (σ : Go.AI.AS) (K : Go.Value → Go.AI.AS → Prop),
  Go.AI.fw Go.Proofs.Tryz.prog Go.AI.hintsS T (125 : Nat) [Go.Value.agg (Array.mk [Go.Value.pointer (Option.some (Go.Addr.mk xf (0 : Nat) Option.none))])] σ K =
  Go.AI.newAt σ (Go.AI.AObj.row Go.AI.RK.plain [Go.Value.pointer (Option.some (Go.Addr.mk xf (0 : Nat) Option.none))]) fun (i0 : Nat) (σ1 : Go.AI.AS) ↦
  Go.AI.ldc σ1 (Go.Addr.mk i0 (0 : Nat) Option.none) fun (v2 : Go.Value) ↦
  Go.AI.tP v2 fun (b3 : Option Go.Addr) ↦
  Go.AI.pSome b3 fun (a4 : Go.Addr) ↦ Go.AI.ldc σ1 (Go.Addr.add a4 (0 : Nat)) fun (v5 : Go.Value) ↦ Go.AI.tL (1 : Nat) v5 fun (s6 : Go.AI.Sl) ↦ K (Go.Value.int Go.IntKind.i64 (↑(Go.AI.Sl.n s6) : Int)) σ1 := by
  intros
  kernel_rfl

theorem s126 : ∀ (T : Go.AI.Ct) (xf : Nat) (i : Int) (σ : Go.AI.AS) (K : Go.Value → Go.AI.AS → Prop),
  Go.AI.fw Go.Proofs.Tryz.prog Go.AI.hintsS T (126 : Nat) [Go.Value.agg (Array.mk [Go.Value.pointer (Option.some (Go.Addr.mk xf (0 : Nat) Option.none))]), Go.Value.int Go.IntKind.i64 i] σ K =
  Go.AI.newAt σ (Go.AI.AObj.row Go.AI.RK.plain [Go.Value.pointer (Option.some (Go.Addr.mk xf (0 : Nat) Option.none))]) fun (i0 : Nat) (σ1 : Go.AI.AS) ↦
  Go.AI.ldc σ1 (Go.Addr.mk i0 (0 : Nat) Option.none) fun (v2 : Go.Value) ↦
  Go.AI.tP v2 fun (b3 : Option Go.Addr) ↦
  Go.AI.pSome b3 fun (a4 : Go.Addr) ↦
  Go.AI.ldc σ1 (Go.Addr.add a4 (0 : Nat)) fun (v5 : Go.Value) ↦
  Go.AI.tL (1 : Nat) v5 fun (s6 : Go.AI.Sl) ↦
  T (130 : Nat) [Go.Value.slice (Go.AI.Sl.a s6) (Go.AI.Sl.n s6) (1 : Nat), Go.Value.int Go.IntKind.i64 (Go.IntKind.wrap Go.IntKind.i64 ((4 : Int) * i)), Go.Value.int Go.IntKind.i64 (4 : Int)] σ1
  fun (v7 : Go.Value) (σ8 : Go.AI.AS) ↦
  Go.AI.tTup v7 fun (l9 : List Go.Value) ↦
  Go.AI.pSome l9[(0 : Nat)]? fun (u10 : Go.Value) ↦
  Go.AI.tI Go.IntKind.u32 u10 fun (n11 : Int) ↦
  Go.AI.tTup v7 fun (l12 : List Go.Value) ↦ Go.AI.pSome l12[(1 : Nat)]? fun (u13 : Go.Value) ↦ Go.AI.tI Go.IntKind.i64 u13 fun (n14 : Int) ↦ K (Go.Value.int Go.IntKind.u32 n11) σ8 := by
  intros
  kernel_rfl

theorem s127 : ∀ (T : Go.AI.Ct) (xf : Nat) (n : Int) (σ : Go.AI.AS) (K : Go.Value → Go.AI.AS → Prop),
  Go.AI.fw Go.Proofs.Tryz.prog Go.AI.hintsS T (127 : Nat) [Go.Value.agg (Array.mk [Go.Value.pointer (Option.some (Go.Addr.mk xf (0 : Nat) Option.none))]), Go.Value.int Go.IntKind.i64 n] σ K =
  Go.AI.newAt σ (Go.AI.AObj.row Go.AI.RK.plain [Go.Value.pointer (Option.some (Go.Addr.mk xf (0 : Nat) Option.none))]) fun (i0 : Nat) (σ1 : Go.AI.AS) ↦
  Go.AI.ldc σ1 (Go.Addr.mk i0 (0 : Nat) Option.none) fun (v2 : Go.Value) ↦
  Go.AI.tP v2 fun (b3 : Option Go.Addr) ↦
  Go.AI.pSome b3 fun (a4 : Go.Addr) ↦
  Go.AI.ldc σ1 (Go.Addr.add a4 (0 : Nat)) fun (v5 : Go.Value) ↦
  Go.AI.tL (1 : Nat) v5 fun (s6 : Go.AI.Sl) ↦
  K (Go.Value.int Go.IntKind.i64 (Go.AI.imax (0 : Int) (Go.IntKind.wrap Go.IntKind.i64 (Go.IntKind.wrap Go.IntKind.i64 ((4 : Int) * n) - (↑(Go.AI.Sl.n s6) : Int))))) σ1 := by
  intros
  kernel_rfl

theorem s128 : ∀ (T : Go.AI.Ct) (xf : Nat) (i c : Int) (σ : Go.AI.AS) (K : Go.Value → Go.AI.AS → Prop),
  Go.AI.fw Go.Proofs.Tryz.prog Go.AI.hintsS T (128 : Nat)
  [Go.Value.agg (Array.mk [Go.Value.pointer (Option.some (Go.Addr.mk xf (0 : Nat) Option.none))]), Go.Value.int Go.IntKind.i64 i, Go.Value.int Go.IntKind.u32 c] σ K =
  Go.AI.newAt σ (Go.AI.AObj.row Go.AI.RK.plain [Go.Value.pointer (Option.some (Go.Addr.mk xf (0 : Nat) Option.none))]) fun (i0 : Nat) (σ1 : Go.AI.AS) ↦
  Go.AI.ALoop (Go.AI.fl Go.Proofs.Tryz.prog Go.AI.hintsS T (128 : Nat) [Bool.true, Bool.false, Bool.false] [] K)
  [((1 : Nat), Option.some (Go.Value.int Go.IntKind.i64 i)), ((2 : Nat), Option.some (Go.Value.int Go.IntKind.u32 c)),
  ((3 : Nat), Option.some (Go.Value.pointer (Option.some (Go.Addr.mk i0 (0 : Nat) Option.none))))]
  σ1 := by
  intros
  kernel_rfl

theorem s128l : ∀ (T : Go.AI.Ct) (i c : Int) (x : Nat) (X : Go.AI.Regs → Go.AI.AS → Prop) (σ : Go.AI.AS) (K : Go.Value → Go.AI.AS → Prop),
  Go.AI.fl Go.Proofs.Tryz.prog Go.AI.hintsS T (128 : Nat) [Bool.true, Bool.false, Bool.false] [] K X
  [((1 : Nat), Option.some (Go.Value.int Go.IntKind.i64 i)), ((2 : Nat), Option.some (Go.Value.int Go.IntKind.u32 c)),
  ((3 : Nat), Option.some (Go.Value.pointer (Option.some (Go.Addr.mk x (0 : Nat) Option.none))))]
  σ =
  Go.AI.ldc σ (Go.Addr.mk x (0 : Nat) Option.none) fun (v0 : Go.Value) ↦
  Go.AI.tP v0 fun (b1 : Option Go.Addr) ↦
  Go.AI.pSome b1 fun (a2 : Go.Addr) ↦
  Go.AI.ldc σ (Go.Addr.add a2 (0 : Nat)) fun (v3 : Go.Value) ↦
  Go.AI.tL (1 : Nat) v3 fun (s4 : Go.AI.Sl) ↦
  Go.AI.bmatch (Decidable.decide ((↑(Go.AI.Sl.n s4) : Int) < Go.IntKind.wrap Go.IntKind.i64 (Go.IntKind.wrap Go.IntKind.i64 ((4 : Int) * i) + (4 : Int))))
  (Go.AI.ldc σ (Go.Addr.mk x (0 : Nat) Option.none) fun (v5 : Go.Value) ↦
  Go.AI.tP v5 fun (b6 : Option Go.Addr) ↦
  Go.AI.ldc σ (Go.Addr.mk x (0 : Nat) Option.none) fun (v7 : Go.Value) ↦
  Go.AI.tP v7 fun (b8 : Option Go.Addr) ↦
  Go.AI.pSome b8 fun (a9 : Go.Addr) ↦
  Go.AI.ldc σ (Go.Addr.add a9 (0 : Nat)) fun (v10 : Go.Value) ↦
  Go.AI.tL (1 : Nat) v10 fun (s11 : Go.AI.Sl) ↦
  Go.AI.newAt σ (Go.AI.AObj.row Go.AI.RK.rw [Go.Value.int Go.IntKind.u8 (0 : Int)]) fun (i12 : Nat) (σ13 : Go.AI.AS) ↦
  Go.AI.ldc σ13 (Go.Addr.add a9 (0 : Nat)) fun (v14 : Go.Value) ↦
  Go.AI.tL (1 : Nat) v14 fun (s15 : Go.AI.Sl) ↦
  Go.Value.slice (Go.AI.Sl.a s11) (Go.AI.Sl.n s11) (Go.AI.szOf Go.Proofs.Tryz.prog (5 : Nat)) =
  Go.Value.slice (Go.AI.Sl.a s15) (Go.AI.Sl.n s15) (Go.AI.szOf Go.Proofs.Tryz.prog (5 : Nat)) ∧
  Go.AI.ldc σ13 (Go.Addr.mk x (0 : Nat) Option.none) fun (v16 : Go.Value) ↦
  Go.AI.tP v16 fun (b17 : Option Go.Addr) ↦
  Go.Value.pointer b8 = Go.Value.pointer b17 ∧
  Go.AI.ldc σ13 (Go.Addr.mk x (0 : Nat) Option.none) fun (v18 : Go.Value) ↦
  Go.AI.tP v18 fun (b19 : Option Go.Addr) ↦
  Go.Value.pointer b6 = Go.Value.pointer b19 ∧
  Go.AI.lds σ13 (Go.Addr.mk i12 (0 : Nat) Option.none) (1 : Nat) fun (l20 : List Go.Value) ↦
  Go.AI.appendTo σ13 (1 : Nat) (1 : Nat) (Go.AI.Sl.mk (Go.AI.Sl.a s11) (Go.AI.Sl.n s11)) l20 (1 : Nat) fun (s21 : Go.AI.Sl) (σ22 : Go.AI.AS) ↦
  Go.AI.ldc σ22 (Go.Addr.mk x (0 : Nat) Option.none) fun (v23 : Go.Value) ↦
  Go.AI.tP v23 fun (b24 : Option Go.Addr) ↦
  Go.Value.pointer b6 = Go.Value.pointer b24 ∧
  Go.AI.pSome b6 fun (a25 : Go.Addr) ↦
  Go.AI.put1 σ22 (Go.Addr.add a25 (0 : Nat)) (Go.Value.slice (Go.AI.Sl.a s21) (Go.AI.Sl.n s21) (1 : Nat)) fun (σ26 : Go.AI.AS) ↦
  X
  [((1 : Nat), Option.some (Go.Value.int Go.IntKind.i64 i)), ((2 : Nat), Option.some (Go.Value.int Go.IntKind.u32 c)),
  ((3 : Nat), Option.some (Go.Value.pointer (Option.some (Go.Addr.mk x (0 : Nat) Option.none))))]
  σ26)
  (Go.AI.ldc σ (Go.Addr.mk x (0 : Nat) Option.none) fun (v27 : Go.Value) ↦
  Go.AI.tP v27 fun (b28 : Option Go.Addr) ↦
  Go.AI.pSome b28 fun (a29 : Go.Addr) ↦
  Go.AI.ldc σ (Go.Addr.add a29 (0 : Nat)) fun (v30 : Go.Value) ↦
  Go.AI.tL (1 : Nat) v30 fun (s31 : Go.AI.Sl) ↦
  Go.AI.req ((0 : Int) ≤ Go.IntKind.wrap Go.IntKind.i64 ((4 : Int) * i))
  (Go.AI.req (Go.IntKind.wrap Go.IntKind.i64 ((4 : Int) * i) ≤ (↑(Go.AI.Sl.n s31) : Int))
  (Go.AI.req ((↑(Go.AI.Sl.n s31) : Int) ≤ (↑(Go.AI.capLo σ (Go.AI.Sl.a s31) (Go.AI.szOf Go.Proofs.Tryz.prog (5 : Nat)) (Go.AI.Sl.n s31)) : Int))
  (T (131 : Nat) [Go.Value.int Go.IntKind.u32 c, Go.Value.int Go.IntKind.i64 (4 : Int)] σ fun (v32 : Go.Value) (σ33 : Go.AI.AS) ↦
  Go.AI.tL (1 : Nat) v32 fun (s34 : Go.AI.Sl) ↦
  Go.AI.req ((0 : Int) ≤ Go.IntKind.wrap Go.IntKind.i64 ((4 : Int) * i))
  (Go.AI.req (Go.IntKind.wrap Go.IntKind.i64 ((4 : Int) * i) ≤ (↑(Go.AI.Sl.n s31) : Int))
  (Go.AI.req ((↑(Go.AI.Sl.n s31) : Int) ≤ (↑(Go.AI.capLo σ33 (Go.AI.Sl.a s31) (Go.AI.szOf Go.Proofs.Tryz.prog (5 : Nat)) (Go.AI.Sl.n s31)) : Int))
  (Go.Value.slice
  (Option.map (fun (x_2 : Go.Addr) ↦ Go.Addr.add x_2 (Int.toNat (Go.IntKind.wrap Go.IntKind.i64 ((4 : Int) * i)) * Go.AI.szOf Go.Proofs.Tryz.prog (5 : Nat)))
  (Go.AI.Sl.a s31))
  (Int.toNat ((↑(Go.AI.Sl.n s31) : Int) - Go.IntKind.wrap Go.IntKind.i64 ((4 : Int) * i))) (Go.AI.szOf Go.Proofs.Tryz.prog (5 : Nat)) =
  Go.Value.slice
  (Option.map (fun (x_2 : Go.Addr) ↦ Go.Addr.add x_2 (Int.toNat (Go.IntKind.wrap Go.IntKind.i64 ((4 : Int) * i)) * Go.AI.szOf Go.Proofs.Tryz.prog (5 : Nat)))
  (Go.AI.Sl.a s31))
  (Int.toNat ((↑(Go.AI.Sl.n s31) : Int) - Go.IntKind.wrap Go.IntKind.i64 ((4 : Int) * i))) (Go.AI.szOf Go.Proofs.Tryz.prog (5 : Nat)) ∧
  Go.AI.ldc σ33 (Go.Addr.add a29 (0 : Nat)) fun (v35 : Go.Value) ↦
  Go.AI.tL (1 : Nat) v35 fun (s36 : Go.AI.Sl) ↦
  Go.Value.slice (Go.AI.Sl.a s31) (Go.AI.Sl.n s31) (Go.AI.szOf Go.Proofs.Tryz.prog (5 : Nat)) =
  Go.Value.slice (Go.AI.Sl.a s36) (Go.AI.Sl.n s36) (Go.AI.szOf Go.Proofs.Tryz.prog (5 : Nat)) ∧
  Go.AI.ldc σ33 (Go.Addr.mk x (0 : Nat) Option.none) fun (v37 : Go.Value) ↦
  Go.AI.tP v37 fun (b38 : Option Go.Addr) ↦
  Go.Value.pointer b28 = Go.Value.pointer b38 ∧
  Go.AI.srcCells σ33 (1 : Nat) (Option.some (Go.Value.slice (Go.AI.Sl.a s34) (Go.AI.Sl.n s34) (1 : Nat))) fun (m39 : Nat) (l40 : List Go.Value) ↦
  Go.AI.copyTo σ33 (1 : Nat)
  (Option.map (fun (x_2 : Go.Addr) ↦ Go.Addr.add x_2 (Int.toNat (Go.IntKind.wrap Go.IntKind.i64 ((4 : Int) * i)) * Go.AI.szOf Go.Proofs.Tryz.prog (5 : Nat)))
  (Go.AI.Sl.a s31))
  (Int.toNat ((↑(Go.AI.Sl.n s31) : Int) - Go.IntKind.wrap Go.IntKind.i64 ((4 : Int) * i))) m39 l40 fun (r41 : Int) (σ42 : Go.AI.AS) ↦
  K (Go.Value.tuple (Array.mk [])) σ42))))))) := by
  intros
  kernel_rfl

theorem s129 : ∀ (T : Go.AI.Ct) (xf : Nat) (σ : Go.AI.AS) (K : Go.Value → Go.AI.AS → Prop),
  Go.AI.fw Go.Proofs.Tryz.prog Go.AI.hintsS T (129 : Nat) [Go.Value.agg (Array.mk [Go.Value.pointer (Option.some (Go.Addr.mk xf (0 : Nat) Option.none))])] σ K =
  Go.AI.newAt σ (Go.AI.AObj.row Go.AI.RK.plain [Go.Value.pointer (Option.some (Go.Addr.mk xf (0 : Nat) Option.none))]) fun (i0 : Nat) (σ1 : Go.AI.AS) ↦
  Go.AI.ldc σ1 (Go.Addr.mk i0 (0 : Nat) Option.none) fun (v2 : Go.Value) ↦
  Go.AI.tP v2 fun (b3 : Option Go.Addr) ↦
  Go.AI.pSome b3 fun (a4 : Go.Addr) ↦
  Go.AI.ldc σ1 (Go.Addr.add a4 (0 : Nat)) fun (v5 : Go.Value) ↦
  Go.AI.tL (1 : Nat) v5 fun (s6 : Go.AI.Sl) ↦ K (Go.Value.int Go.IntKind.i64 (Go.IntKind.wrap Go.IntKind.i64 (Int.tdiv (↑(Go.AI.Sl.n s6) : Int) (4 : Int)))) σ1 := by
  intros
  kernel_rfl

theorem s130 : ∀ (T : Go.AI.Ct) (ba : Option Go.Addr) (bn : Nat) (r1_1 n : Int) (σ : Go.AI.AS) (K : Go.Value → Go.AI.AS → Prop),
  Go.AI.fw Go.Proofs.Tryz.prog Go.AI.hintsS T (130 : Nat) [Go.Value.slice ba bn (1 : Nat), Go.Value.int Go.IntKind.i64 r1_1, Go.Value.int Go.IntKind.i64 n] σ K =
  T (132 : Nat) [Go.Value.int Go.IntKind.i64 n] σ fun (v0 : Go.Value) (σ1 : Go.AI.AS) ↦
  Go.AI.tB v0 fun (b2 : Bool) ↦
  Go.AI.bmatch (!b2) (K (Go.Value.tuple (Array.mk [Go.Value.int Go.IntKind.u32 (0 : Int), Go.Value.int Go.IntKind.i64 (1 : Int)])) σ1)
  (Go.AI.bmatch (Decidable.decide (r1_1 < (0 : Int))) (K (Go.Value.tuple (Array.mk [Go.Value.int Go.IntKind.u32 (0 : Int), Go.Value.int Go.IntKind.i64 (1 : Int)])) σ1)
  (Go.AI.bmatch (Decidable.decide (r1_1 > (↑bn : Int))) (K (Go.Value.tuple (Array.mk [Go.Value.int Go.IntKind.u32 (0 : Int), Go.Value.int Go.IntKind.i64 (2 : Int)])) σ1)
  (Go.AI.bmatch (Decidable.decide (Go.IntKind.wrap Go.IntKind.i64 ((↑bn : Int) - r1_1) < n))
  (K (Go.Value.tuple (Array.mk [Go.Value.int Go.IntKind.u32 (0 : Int), Go.Value.int Go.IntKind.i64 (2 : Int)])) σ1)
  (Go.AI.req ((0 : Int) ≤ r1_1)
  (Go.AI.req (r1_1 ≤ Go.IntKind.wrap Go.IntKind.i64 (r1_1 + n))
  (Go.AI.req (Go.IntKind.wrap Go.IntKind.i64 (r1_1 + n) ≤ (↑(Go.AI.capLo σ1 ba (1 : Nat) bn) : Int))
  (Go.AI.ALoop (Go.AI.fl Go.Proofs.Tryz.prog Go.AI.hintsS T (130 : Nat) [Bool.true, Bool.true, Bool.true, Bool.false, Bool.true, Bool.false] [] K)
  [((8 : Nat), Option.some (Go.Value.int Go.IntKind.u32 (0 : Int))),
  ((37 : Nat),
  Option.some
  (Go.Value.slice (Option.map (fun (x : Go.Addr) ↦ Go.Addr.add x (Int.toNat r1_1 * Go.AI.szOf Go.Proofs.Tryz.prog (5 : Nat))) ba)
  (Int.toNat (Go.IntKind.wrap Go.IntKind.i64 (r1_1 + n) - r1_1)) (1 : Nat))),
  ((38 : Nat), Option.some (Go.Value.int Go.IntKind.i64 (↑(Int.toNat (Go.IntKind.wrap Go.IntKind.i64 (r1_1 + n) - r1_1)) : Int))),
  ((39 : Nat), Option.some (Go.Value.int Go.IntKind.i64 (0 : Int)))]
  σ1))))))) := by
  intros
  kernel_rfl

theorem s130l : ∀ (T : Go.AI.Ct) (x : Int) (r37a_1 : Option Go.Addr) (r37n_1 r37e_1 : Nat) (r38_1 r39_1 : Int) (X : Go.AI.Regs → Go.AI.AS → Prop) (σ : Go.AI.AS) (K : Go.Value → Go.AI.AS → Prop),
  Go.AI.fl Go.Proofs.Tryz.prog Go.AI.hintsS T (130 : Nat) [Bool.true, Bool.true, Bool.true, Bool.false, Bool.true, Bool.false] [] K X
  [((8 : Nat), Option.some (Go.Value.int Go.IntKind.u32 x)), ((37 : Nat), Option.some (Go.Value.slice r37a_1 r37n_1 r37e_1)), ((38 : Nat), Option.some (Go.Value.int Go.IntKind.i64 r38_1)),
  ((39 : Nat), Option.some (Go.Value.int Go.IntKind.i64 r39_1))]
  σ =
  Go.AI.bmatch (Decidable.decide (r39_1 < r38_1))
  (Go.AI.req ((0 : Int) ≤ r39_1)
  (Go.AI.req (r39_1 < (↑r37n_1 : Int))
  (Go.AI.pSome r37a_1 fun (a0 : Go.Addr) ↦
  Go.AI.req (r37e_1 = Go.AI.szOf Go.Proofs.Tryz.prog (5 : Nat))
  (Go.AI.ldc σ (Go.Addr.add a0 (Int.toNat r39_1 * Go.AI.szOf Go.Proofs.Tryz.prog (5 : Nat))) fun (v1 : Go.Value) ↦
  Go.AI.tI Go.IntKind.u8 v1 fun (n2 : Int) ↦
  X
  [((8 : Nat), Option.some (Go.Value.int Go.IntKind.u32 (Go.AI.ior Go.IntKind.u32 (Go.AI.ishl Go.IntKind.u32 x (8 : Int)) (Go.IntKind.wrap Go.IntKind.u32 n2)))),
  ((37 : Nat), Option.some (Go.Value.slice r37a_1 r37n_1 r37e_1)), ((38 : Nat), Option.some (Go.Value.int Go.IntKind.i64 r38_1)),
  ((39 : Nat), Option.some (Go.Value.int Go.IntKind.i64 (Go.IntKind.wrap Go.IntKind.i64 (r39_1 + (1 : Int)))))]
  σ))))
  (K (Go.Value.tuple (Array.mk [Go.Value.int Go.IntKind.u32 x, Go.Value.int Go.IntKind.i64 (0 : Int)])) σ) := by
  intros
  kernel_rfl

theorem s131 : ∀ (T : Go.AI.Ct) (x n : Int) (σ : Go.AI.AS) (K : Go.Value → Go.AI.AS → Prop),
  Go.AI.fw Go.Proofs.Tryz.prog Go.AI.hintsS T (131 : Nat) [Go.Value.int Go.IntKind.u32 x, Go.Value.int Go.IntKind.i64 n] σ K =
  T (132 : Nat) [Go.Value.int Go.IntKind.i64 n] σ fun (v0 : Go.Value) (σ1 : Go.AI.AS) ↦
  Go.AI.tB v0 fun (b2 : Bool) ↦
  Go.AI.bmatch (!b2) (K (Go.Value.slice Option.none (0 : Nat) (0 : Nat)) σ1)
  (Go.AI.req ((0 : Int) ≤ n)
  (Go.AI.req (n ≤ n)
  (Go.AI.req (n * (↑(Go.AI.bytesOf Go.Proofs.Tryz.prog (5 : Nat)) : Int) ≤ (140737488355328 : Int))
  (Go.AI.newAt σ1 (Go.AI.AObj.row Go.AI.RK.rw (List.flatten (List.replicate (Int.toNat n) (Go.AI.valCells (Go.Value.int Go.IntKind.u8 (0 : Int)))))) fun (i3 : Nat) (σ4 : Go.AI.AS) ↦
  Go.AI.ALoop (Go.AI.fl Go.Proofs.Tryz.prog Go.AI.hintsS T (131 : Nat) [Bool.true, Bool.true, Bool.true, Bool.false, Bool.true, Bool.false] [] K)
  [((0 : Nat), Option.some (Go.Value.int Go.IntKind.u32 x)), ((5 : Nat), Option.some (Go.Value.slice (Option.some (Go.Addr.mk i3 (0 : Nat) Option.none)) (Int.toNat n) (1 : Nat))),
  ((6 : Nat), Option.some (Go.Value.int Go.IntKind.i64 (Go.IntKind.wrap Go.IntKind.i64 (n - (1 : Int)))))]
  σ4)))) := by
  intros
  kernel_rfl

theorem s131l : ∀ (T : Go.AI.Ct) (x : Int) (ba : Option Go.Addr) (bn be : Nat) (i : Int) (X : Go.AI.Regs → Go.AI.AS → Prop) (σ : Go.AI.AS) (K : Go.Value → Go.AI.AS → Prop),
  Go.AI.fl Go.Proofs.Tryz.prog Go.AI.hintsS T (131 : Nat) [Bool.true, Bool.true, Bool.true, Bool.false, Bool.true, Bool.false] [] K X
  [((0 : Nat), Option.some (Go.Value.int Go.IntKind.u32 x)), ((5 : Nat), Option.some (Go.Value.slice ba bn be)), ((6 : Nat), Option.some (Go.Value.int Go.IntKind.i64 i))] σ =
  Go.AI.bmatch (Decidable.decide (i ≥ (0 : Int)))
  (Go.AI.req ((0 : Int) ≤ i)
  (Go.AI.req (i < (↑bn : Int))
  (Go.AI.pSome ba fun (a0 : Go.Addr) ↦
  Go.AI.req (be = Go.AI.szOf Go.Proofs.Tryz.prog (5 : Nat))
  (Go.AI.put1 σ (Go.Addr.add a0 (Int.toNat i * Go.AI.szOf Go.Proofs.Tryz.prog (5 : Nat))) (Go.Value.int Go.IntKind.u8 (Go.IntKind.wrap Go.IntKind.u8 x)) fun (σ1 : Go.AI.AS) ↦
  X
  [((0 : Nat), Option.some (Go.Value.int Go.IntKind.u32 (Go.AI.ishr Go.IntKind.u32 x (8 : Int)))), ((5 : Nat), Option.some (Go.Value.slice ba bn be)),
  ((6 : Nat), Option.some (Go.Value.int Go.IntKind.i64 (Go.IntKind.wrap Go.IntKind.i64 (i - (1 : Int)))))]
  σ1))))
  (K (Go.Value.slice ba bn be) σ) := by
  intros
  kernel_rfl

theorem s132 : ∀ (T : Go.AI.Ct) (n : Int) (σ : Go.AI.AS) (K : Go.Value → Go.AI.AS → Prop),
  Go.AI.fw Go.Proofs.Tryz.prog Go.AI.hintsS T (132 : Nat) [Go.Value.int Go.IntKind.i64 n] σ K =
  Go.AI.bmatch (n == (1 : Int)) (K (Go.Value.bool Bool.true) σ) (Go.AI.bmatch (n == (2 : Int)) (K (Go.Value.bool Bool.true) σ) (K (Go.Value.bool (n == (4 : Int))) σ)) := by
  intros
  kernel_rfl

theorem s133 : ∀ (T : Go.AI.Ct) (x : Nat) (i : Int) (σ : Go.AI.AS) (K : Go.Value → Go.AI.AS → Prop),
  Go.AI.fw Go.Proofs.Tryz.prog Go.AI.hintsS T (133 : Nat) [Go.Value.pointer (Option.some (Go.Addr.mk x (0 : Nat) Option.none)), Go.Value.int Go.IntKind.i64 i] σ K =
  Go.AI.ldc σ (Go.Addr.mk x (0 : Nat) Option.none) fun (v0 : Go.Value) ↦
  Go.AI.tL (1 : Nat) v0 fun (s1 : Go.AI.Sl) ↦
  Go.AI.req ((0 : Int) ≤ i)
  (Go.AI.req (i < (↑(Go.AI.Sl.n s1) : Int))
  (Go.AI.pSome (Go.AI.Sl.a s1) fun (a2 : Go.Addr) ↦
  Go.AI.ldc σ (Go.Addr.add a2 (Int.toNat i * Go.AI.szOf Go.Proofs.Tryz.prog (54 : Nat))) fun (v3 : Go.Value) ↦ Go.AI.tI Go.IntKind.u32 v3 fun (n4 : Int) ↦ K (Go.Value.int Go.IntKind.u32 n4) σ)) := by
  intros
  kernel_rfl

theorem s134 : ∀ (T : Go.AI.Ct) (x : Nat) (n : Int) (σ : Go.AI.AS) (K : Go.Value → Go.AI.AS → Prop),
  Go.AI.fw Go.Proofs.Tryz.prog Go.AI.hintsS T (134 : Nat) [Go.Value.pointer (Option.some (Go.Addr.mk x (0 : Nat) Option.none)), Go.Value.int Go.IntKind.i64 n] σ K =
  K (Go.Value.int Go.IntKind.i64 (0 : Int)) σ := by
  intros
  kernel_rfl

theorem s135 : ∀ (T : Go.AI.Ct) (x : Nat) (σ : Go.AI.AS) (K : Go.Value → Go.AI.AS → Prop),
  Go.AI.fw Go.Proofs.Tryz.prog Go.AI.hintsS T (135 : Nat) [Go.Value.pointer (Option.some (Go.Addr.mk x (0 : Nat) Option.none))] σ K =
  Go.AI.ldc σ (Go.Addr.mk x (0 : Nat) Option.none) fun (v0 : Go.Value) ↦ Go.AI.tL (1 : Nat) v0 fun (s1 : Go.AI.Sl) ↦ K (Go.Value.int Go.IntKind.i64 (↑(Go.AI.Sl.n s1) : Int)) σ := by
  intros
  kernel_rfl

theorem s54 : ∀ (T : Go.AI.Ct) (y : Option Go.Addr) (c : Nat) (σ : Go.AI.AS) (K : Go.Value → Go.AI.AS → Prop),
  Go.AI.fw Go.Proofs.Tryz.prog Go.AI.hintsS T (54 : Nat) [Go.Value.pointer y, Go.Value.pointer (Option.some (Go.Addr.mk c (0 : Nat) Option.none))] σ K =
  Go.AI.ldc σ (Go.Addr.mk c (0 : Nat) Option.none) fun (v0 : Go.Value) ↦ Go.AI.tP v0 fun (b1 : Option Go.Addr) ↦ Go.AI.ptrEq σ b1 y fun (r2 : Bool) ↦ K (Go.Value.bool r2) σ := by
  intros
  kernel_rfl

end Go.AI
end
section
/- The conditions ahead of the calls of the program's functions, reckoned as far as they go (equations that the kernel checks); no condition. -/
set_option maxRecDepth 1000000
set_option linter.unusedVariables false
namespace Go.AI
open Go.Proofs
theorem s23 : ∀ (T : Go.AI.Ct) (aa : Option Go.Addr) (an : Nat) (ba : Option Go.Addr) (bn : Nat) (σ : Go.AI.AS) (K : Go.Value → Go.AI.AS → Prop),
  Go.AI.fw Go.Proofs.Tryz.prog Go.AI.hintsS T (23 : Nat) [Go.Value.slice aa an (1 : Nat), Go.Value.slice ba bn (1 : Nat)] σ K =
  Go.AI.bts σ (Go.AI.Sl.mk aa an) fun (l0 : List UInt8) ↦
  Go.AI.bts σ (Go.AI.Sl.mk ba bn) fun (l1 : List UInt8) ↦ K (Go.Value.bool (Go.AI.strEq (ByteArray.mk (List.toArray l0)) (ByteArray.mk (List.toArray l1)))) σ := by
  intros
  kernel_rfl

theorem s28 : ∀ (T : Go.AI.Ct) (aa : Option Go.Addr) (an : Nat) (ba : Option Go.Addr) (bn : Nat) (σ : Go.AI.AS) (K : Go.Value → Go.AI.AS → Prop),
  Go.AI.fw Go.Proofs.Tryz.prog Go.AI.hintsS T (28 : Nat) [Go.Value.slice aa an (1 : Nat), Go.Value.slice ba bn (1 : Nat)] σ K =
  Go.AI.bmatch ((↑an : Int) != (↑bn : Int)) (K (Go.Value.bool Bool.false) σ)
  (Go.AI.ALoop (Go.AI.fl Go.Proofs.Tryz.prog Go.AI.hintsS T (28 : Nat) [Bool.true, Bool.true, Bool.false, Bool.true, Bool.false] [] K)
  [((0 : Nat), Option.some (Go.Value.slice aa an (1 : Nat))), ((1 : Nat), Option.some (Go.Value.slice ba bn (1 : Nat))), ((5 : Nat), Option.some (Go.Value.int Go.IntKind.i64 (0 : Int)))] σ) := by
  intros
  kernel_rfl

theorem s28l : ∀ (T : Go.AI.Ct) (aa : Option Go.Addr) (an ae : Nat) (ba : Option Go.Addr) (bn be : Nat) (i : Int) (X : Go.AI.Regs → Go.AI.AS → Prop) (σ : Go.AI.AS) (K : Go.Value → Go.AI.AS → Prop),
  Go.AI.fl Go.Proofs.Tryz.prog Go.AI.hintsS T (28 : Nat) [Bool.true, Bool.true, Bool.false, Bool.true, Bool.false] [] K X
  [((0 : Nat), Option.some (Go.Value.slice aa an ae)), ((1 : Nat), Option.some (Go.Value.slice ba bn be)), ((5 : Nat), Option.some (Go.Value.int Go.IntKind.i64 i))] σ =
  Go.AI.bmatch (Decidable.decide (i < (↑an : Int)))
  (Go.AI.req ((0 : Int) ≤ i)
  (Go.AI.req (i < (↑an : Int))
  (Go.AI.pSome aa fun (a0 : Go.Addr) ↦
  Go.AI.req (ae = Go.AI.szOf Go.Proofs.Tryz.prog (54 : Nat))
  (Go.AI.ldc σ (Go.Addr.add a0 (Int.toNat i * Go.AI.szOf Go.Proofs.Tryz.prog (54 : Nat))) fun (v1 : Go.Value) ↦
  Go.AI.tI Go.IntKind.u32 v1 fun (n2 : Int) ↦
  Go.AI.req ((0 : Int) ≤ i)
  (Go.AI.req (i < (↑bn : Int))
  (Go.AI.pSome ba fun (a3 : Go.Addr) ↦
  Go.AI.req (be = Go.AI.szOf Go.Proofs.Tryz.prog (54 : Nat))
  (Go.AI.ldc σ (Go.Addr.add a3 (Int.toNat i * Go.AI.szOf Go.Proofs.Tryz.prog (54 : Nat))) fun (v4 : Go.Value) ↦
  Go.AI.tI Go.IntKind.u32 v4 fun (n5 : Int) ↦
  Go.AI.bmatch (n2 != n5) (K (Go.Value.bool Bool.false) σ)
  (X
  [((0 : Nat), Option.some (Go.Value.slice aa an ae)), ((1 : Nat), Option.some (Go.Value.slice ba bn be)),
  ((5 : Nat), Option.some (Go.Value.int Go.IntKind.i64 (Go.IntKind.wrap Go.IntKind.i64 (i + (1 : Int)))))]
  σ))))))))
  (K (Go.Value.bool Bool.true) σ) := by
  intros
  kernel_rfl

theorem s29 : ∀ (T : Go.AI.Ct) (ba : Option Go.Addr) (bn : Nat) (σ : Go.AI.AS) (K : Go.Value → Go.AI.AS → Prop),
  Go.AI.fw Go.Proofs.Tryz.prog Go.AI.hintsS T (29 : Nat) [Go.Value.slice ba bn (1 : Nat)] σ K =
  Go.AI.newAt σ (Go.AI.AObj.row Go.AI.RK.rw []) fun (i0 : Nat) (σ1 : Go.AI.AS) ↦
  Go.AI.srcCells σ1 (1 : Nat) (Option.some (Go.Value.slice ba bn (1 : Nat))) fun (m2 : Nat) (new3 : List Go.Value) ↦
  Go.AI.appendTo σ1 (1 : Nat) (1 : Nat) (Go.AI.Sl.mk (Option.some (Go.Addr.mk i0 (0 : Nat) Option.none)) (0 : Nat)) new3 m2 fun (s4 : Go.AI.Sl) (σ5 : Go.AI.AS) ↦
  Go.AI.newAt σ5 (Go.AI.AObj.row Go.AI.RK.rw [Go.Value.int Go.IntKind.u8 (77 : Int)]) fun (i6 : Nat) (σ7 : Go.AI.AS) ↦
  Go.AI.lds σ7 (Go.Addr.mk i6 (0 : Nat) Option.none) (1 : Nat) fun (l8 : List Go.Value) ↦
  Go.AI.appendTo σ7 (1 : Nat) (1 : Nat) (Go.AI.Sl.mk (Go.AI.Sl.a s4) (Go.AI.Sl.n s4)) l8 (1 : Nat) fun (s9 : Go.AI.Sl) (σ10 : Go.AI.AS) ↦
  Go.AI.req ((0 : Int) ≤ (↑bn : Int))
  (Go.AI.req ((↑bn : Int) ≤ (↑(Go.AI.capLo σ10 (Go.AI.Sl.a s9) (Go.AI.szOf Go.Proofs.Tryz.prog (5 : Nat)) (Go.AI.Sl.n s9)) : Int))
  (K
  (Go.Value.slice (Option.map (fun (x : Go.Addr) ↦ Go.Addr.add x (Int.toNat (0 : Int) * Go.AI.szOf Go.Proofs.Tryz.prog (5 : Nat))) (Go.AI.Sl.a s9)) (Int.toNat ((↑bn : Int) - (0 : Int))) (1 : Nat))
  σ10)) := by
  intros
  kernel_rfl

theorem s30 : ∀ (T : Go.AI.Ct) (ca : Option Go.Addr) (cn : Nat) (ba : Option Go.Addr) (bn : Nat) (σ : Go.AI.AS) (K : Go.Value → Go.AI.AS → Prop),
  Go.AI.fw Go.Proofs.Tryz.prog Go.AI.hintsS T (30 : Nat) [Go.Value.slice ca cn (1 : Nat), Go.Value.slice ba bn (1 : Nat)] σ K =
  Go.AI.bts σ (Go.AI.Sl.mk ca cn) fun (l0 : List UInt8) ↦
  Go.AI.bts σ (Go.AI.Sl.mk ba bn) fun (l1 : List UInt8) ↦
  Go.AI.bmatch (Go.AI.strEq (ByteArray.mk (List.toArray l0)) (ByteArray.mk (List.toArray l1)))
  (Go.AI.req ((0 : Int) ≤ Go.IntKind.wrap Go.IntKind.i64 ((↑bn : Int) + (1 : Int)))
  (Go.AI.req (Go.IntKind.wrap Go.IntKind.i64 ((↑bn : Int) + (1 : Int)) ≤ (↑(Go.AI.capLo σ ca (1 : Nat) cn) : Int))
  (Go.AI.req ((0 : Int) ≤ (↑bn : Int))
  (Go.AI.req ((↑bn : Int) < (↑(Int.toNat (Go.IntKind.wrap Go.IntKind.i64 ((↑bn : Int) + (1 : Int)) - (0 : Int))) : Int))
  (Go.AI.pSome (Option.map (fun (x : Go.Addr) ↦ Go.Addr.add x (Int.toNat (0 : Int) * Go.AI.szOf Go.Proofs.Tryz.prog (5 : Nat))) ca) fun (a2 : Go.Addr) ↦
  Go.AI.ldc σ (Go.Addr.add a2 (Int.toNat (↑bn : Int) * Go.AI.szOf Go.Proofs.Tryz.prog (5 : Nat))) fun (v3 : Go.Value) ↦
  Go.AI.tI Go.IntKind.u8 v3 fun (n4 : Int) ↦ K (Go.Value.bool (n4 == (77 : Int))) σ)))))
  (K (Go.Value.bool Bool.false) σ) := by
  intros
  kernel_rfl

theorem s31 : ∀ (T : Go.AI.Ct) (ba : Option Go.Addr) (bn : Nat) (σ : Go.AI.AS) (K : Go.Value → Go.AI.AS → Prop),
  Go.AI.fw Go.Proofs.Tryz.prog Go.AI.hintsS T (31 : Nat) [Go.Value.slice ba bn (1 : Nat)] σ K =
  Go.AI.ALoop (Go.AI.fl Go.Proofs.Tryz.prog Go.AI.hintsS T (31 : Nat) [Bool.true, Bool.false] [] K)
  [((0 : Nat), Option.some (Go.Value.slice ba bn (1 : Nat))), ((2 : Nat), Option.some (Go.Value.int Go.IntKind.i64 (0 : Int)))] σ := by
  intros
  kernel_rfl

theorem s31l : ∀ (T : Go.AI.Ct) (ba : Option Go.Addr) (bn be : Nat) (i : Int) (X : Go.AI.Regs → Go.AI.AS → Prop) (σ : Go.AI.AS) (K : Go.Value → Go.AI.AS → Prop),
  Go.AI.fl Go.Proofs.Tryz.prog Go.AI.hintsS T (31 : Nat) [Bool.true, Bool.false] [] K X [((0 : Nat), Option.some (Go.Value.slice ba bn be)), ((2 : Nat), Option.some (Go.Value.int Go.IntKind.i64 i))] σ =
  Go.AI.bmatch (Decidable.decide (i < (↑bn : Int)))
  (Go.AI.req ((0 : Int) ≤ i)
  (Go.AI.req (i < (↑bn : Int))
  (Go.AI.pSome ba fun (a0 : Go.Addr) ↦
  Go.AI.req (be = Go.AI.szOf Go.Proofs.Tryz.prog (5 : Nat))
  (Go.AI.put1 σ (Go.Addr.add a0 (Int.toNat i * Go.AI.szOf Go.Proofs.Tryz.prog (5 : Nat))) (Go.Value.int Go.IntKind.u8 (85 : Int)) fun (σ1 : Go.AI.AS) ↦
  X [((0 : Nat), Option.some (Go.Value.slice ba bn be)), ((2 : Nat), Option.some (Go.Value.int Go.IntKind.i64 (Go.IntKind.wrap Go.IntKind.i64 (i + (1 : Int)))))] σ1))))
  (K (Go.Value.tuple (Array.mk [])) σ) := by
  intros
  kernel_rfl

theorem s51l : ∀ (T : Go.AI.Ct) (aa : Option Go.Addr) (an ae : Nat) (ba : Option Go.Addr) (bn be : Nat) (i : Int) (X : Go.AI.Regs → Go.AI.AS → Prop) (σ : Go.AI.AS) (K : Go.Value → Go.AI.AS → Prop),
  Go.AI.fl Go.Proofs.Tryz.prog Go.AI.hintsS T (51 : Nat) [Bool.true, Bool.true, Bool.false, Bool.true, Bool.false] [] K X
  [((0 : Nat), Option.some (Go.Value.slice aa an ae)), ((1 : Nat), Option.some (Go.Value.slice ba bn be)), ((5 : Nat), Option.some (Go.Value.int Go.IntKind.i64 i))] σ =
  Go.AI.bmatch (Decidable.decide (i < (↑an : Int)))
  (Go.AI.req ((0 : Int) ≤ i)
  (Go.AI.req (i < (↑an : Int))
  (Go.AI.pSome aa fun (a0 : Go.Addr) ↦
  Go.AI.req (ae = Go.AI.szOf Go.Proofs.Tryz.prog (3 : Nat))
  (Go.AI.ldc σ (Go.Addr.add a0 (Int.toNat i * Go.AI.szOf Go.Proofs.Tryz.prog (3 : Nat))) fun (v1 : Go.Value) ↦
  Go.AI.tI Go.IntKind.i64 v1 fun (n2 : Int) ↦
  Go.AI.req ((0 : Int) ≤ i)
  (Go.AI.req (i < (↑bn : Int))
  (Go.AI.pSome ba fun (a3 : Go.Addr) ↦
  Go.AI.req (be = Go.AI.szOf Go.Proofs.Tryz.prog (3 : Nat))
  (Go.AI.ldc σ (Go.Addr.add a3 (Int.toNat i * Go.AI.szOf Go.Proofs.Tryz.prog (3 : Nat))) fun (v4 : Go.Value) ↦
  Go.AI.tI Go.IntKind.i64 v4 fun (n5 : Int) ↦
  Go.AI.bmatch (n2 != n5) (K (Go.Value.bool Bool.false) σ)
  (X
  [((0 : Nat), Option.some (Go.Value.slice aa an ae)), ((1 : Nat), Option.some (Go.Value.slice ba bn be)),
  ((5 : Nat), Option.some (Go.Value.int Go.IntKind.i64 (Go.IntKind.wrap Go.IntKind.i64 (i + (1 : Int)))))]
  σ))))))))
  (K (Go.Value.bool Bool.true) σ) := by
  intros
  kernel_rfl

theorem s5 : ∀ (T : Go.AI.Ct) (la : Option Go.Addr) (ln : Nat) (σ : Go.AI.AS) (K : Go.Value → Go.AI.AS → Prop),
  Go.AI.fw Go.Proofs.Tryz.prog Go.AI.hintsS T (5 : Nat) [Go.Value.slice la ln (9 : Nat)] σ K =
  Go.AI.ALoop (Go.AI.fl Go.Proofs.Tryz.prog Go.AI.hintsS T (5 : Nat) [Bool.true, Bool.true, Bool.false, Bool.true, Bool.false] [] K)
  [((0 : Nat), Option.some (Go.Value.slice la ln (9 : Nat))), ((3 : Nat), Option.some (Go.Value.int Go.IntKind.i64 (0 : Int))), ((4 : Nat), Option.some (Go.Value.int Go.IntKind.i64 (0 : Int)))] σ := by
  intros
  kernel_rfl

theorem s5l : ∀ (T : Go.AI.Ct) (la : Option Go.Addr) (ln le : Nat) (n i : Int) (X : Go.AI.Regs → Go.AI.AS → Prop) (σ : Go.AI.AS) (K : Go.Value → Go.AI.AS → Prop),
  Go.AI.fl Go.Proofs.Tryz.prog Go.AI.hintsS T (5 : Nat) [Bool.true, Bool.true, Bool.false, Bool.true, Bool.false] [] K X
  [((0 : Nat), Option.some (Go.Value.slice la ln le)), ((3 : Nat), Option.some (Go.Value.int Go.IntKind.i64 n)), ((4 : Nat), Option.some (Go.Value.int Go.IntKind.i64 i))] σ =
  Go.AI.bmatch (Decidable.decide (i < (↑ln : Int)))
  (Go.AI.bmatch (Decidable.decide (i ≤ (120 : Int)))
  (Go.AI.req ((0 : Int) ≤ i)
  (Go.AI.req (i < (↑ln : Int))
  (Go.AI.pSome la fun (a0 : Go.Addr) ↦
  Go.AI.req (le = Go.AI.szOf Go.Proofs.Tryz.prog (26 : Nat))
  (Go.AI.ldc σ
  (Go.Addr.mk (Go.Addr.block (Go.Addr.add a0 (Int.toNat i * Go.AI.szOf Go.Proofs.Tryz.prog (26 : Nat))))
  (Go.Addr.off (Go.Addr.add a0 (Int.toNat i * Go.AI.szOf Go.Proofs.Tryz.prog (26 : Nat))) + (2 : Nat)) Option.none)
  fun (v1 : Go.Value) ↦
  Go.AI.tL (1 : Nat) v1 fun (s2 : Go.AI.Sl) ↦
  Go.AI.req ((0 : Int) ≤ i)
  (Go.AI.req (i < (↑ln : Int))
  (Go.AI.pSome la fun (a3 : Go.Addr) ↦
  Go.AI.req (le = Go.AI.szOf Go.Proofs.Tryz.prog (26 : Nat))
  (Go.AI.ldc σ
  (Go.Addr.mk (Go.Addr.block (Go.Addr.add a3 (Int.toNat i * Go.AI.szOf Go.Proofs.Tryz.prog (26 : Nat))))
  (Go.Addr.off (Go.Addr.add a3 (Int.toNat i * Go.AI.szOf Go.Proofs.Tryz.prog (26 : Nat))) + (3 : Nat)) Option.none)
  fun (v4 : Go.Value) ↦
  Go.AI.tL (1 : Nat) v4 fun (s5 : Go.AI.Sl) ↦
  X
  [((0 : Nat), Option.some (Go.Value.slice la ln le)),
  ((3 : Nat), Option.some (Go.Value.int Go.IntKind.i64 (Go.IntKind.wrap Go.IntKind.i64 (Go.IntKind.wrap Go.IntKind.i64 (n + (↑(Go.AI.Sl.n s2) : Int)) + (↑(Go.AI.Sl.n s5) : Int))))),
  ((4 : Nat), Option.some (Go.Value.int Go.IntKind.i64 (Go.IntKind.wrap Go.IntKind.i64 (i + (1 : Int)))))]
  σ)))))))
  (Go.AI.bmatch (Decidable.decide ((↑ln : Int) > (120 : Int))) (K (Go.Value.bool Bool.true) σ) (K (Go.Value.bool (Decidable.decide (n > (16384 : Int)))) σ)))
  (Go.AI.bmatch (Decidable.decide ((↑ln : Int) > (120 : Int))) (K (Go.Value.bool Bool.true) σ) (K (Go.Value.bool (Decidable.decide (n > (16384 : Int)))) σ)) := by
  intros
  kernel_rfl

theorem s12 : ∀ (T : Go.AI.Ct) (w : Nat) (aKind : Int) (aName : ByteArray) (aBa : Option Go.Addr) (aBn aBe : Nat) (aLa : Option Go.Addr) (aLn aLe : Nat) (aN aA aMode : Int) (aWide aNear : Bool)
  (σ : Go.AI.AS) (K : Go.Value → Go.AI.AS → Prop),
  Go.AI.fw Go.Proofs.Tryz.prog Go.AI.hintsS T (12 : Nat)
  [Go.Value.pointer (Option.some (Go.Addr.mk w (0 : Nat) Option.none)),
  Go.Value.agg
  (Array.mk
  [Go.Value.int Go.IntKind.i64 aKind, Go.Value.string aName, Go.Value.slice aBa aBn aBe, Go.Value.slice aLa aLn aLe, Go.Value.int Go.IntKind.i64 aN, Go.Value.int Go.IntKind.i64 aA,
  Go.Value.int Go.IntKind.i64 aMode, Go.Value.bool aWide, Go.Value.bool aNear])]
  σ K =
  Go.AI.newAt σ
  (Go.AI.AObj.row Go.AI.RK.plain
  [Go.Value.int Go.IntKind.i64 aKind, Go.Value.string aName, Go.Value.slice aBa aBn aBe, Go.Value.slice aLa aLn aLe, Go.Value.int Go.IntKind.i64 aN, Go.Value.int Go.IntKind.i64 aA,
  Go.Value.int Go.IntKind.i64 aMode, Go.Value.bool aWide, Go.Value.bool aNear])
  fun (i0 : Nat) (σ1 : Go.AI.AS) ↦
  Go.AI.ldc σ1 (Go.Addr.mk i0 ((0 : Nat) + (8 : Nat)) Option.none) fun (v2 : Go.Value) ↦
  Go.AI.tB v2 fun (b3 : Bool) ↦
  Go.AI.bmatch (!b3) (Go.AI.ldc σ1 (Go.Addr.mk i0 ((0 : Nat) + (4 : Nat)) Option.none) fun (v4 : Go.Value) ↦ Go.AI.tI Go.IntKind.i64 v4 fun (n5 : Int) ↦ K (Go.Value.int Go.IntKind.i64 n5) σ1)
  (Go.AI.ldc σ1 (Go.Addr.mk w ((0 : Nat) + (2 : Nat)) Option.none) fun (v6 : Go.Value) ↦
  Go.AI.tL (8 : Nat) v6 fun (s7 : Go.AI.Sl) ↦
  Go.AI.bmatch ((↑(Go.AI.Sl.n s7) : Int) == (0 : Int))
  (Go.AI.ldc σ1 (Go.Addr.mk i0 ((0 : Nat) + (4 : Nat)) Option.none) fun (v8 : Go.Value) ↦ Go.AI.tI Go.IntKind.i64 v8 fun (n9 : Int) ↦ K (Go.Value.int Go.IntKind.i64 n9) σ1)
  (Go.AI.ldc σ1 (Go.Addr.mk i0 ((0 : Nat) + (4 : Nat)) Option.none) fun (v10 : Go.Value) ↦
  Go.AI.tI Go.IntKind.i64 v10 fun (n11 : Int) ↦
  Go.AI.ldc σ1 (Go.Addr.mk w ((0 : Nat) + (2 : Nat)) Option.none) fun (v12 : Go.Value) ↦
  Go.AI.tL (8 : Nat) v12 fun (s13 : Go.AI.Sl) ↦
  Go.AI.req ((↑(Go.AI.Sl.n s13) : Int) ≠ (0 : Int))
  (Go.AI.bmatch (Decidable.decide (Int.tmod n11 (↑(Go.AI.Sl.n s13) : Int) < (0 : Int)))
  (Go.AI.ldc σ1 (Go.Addr.mk w ((0 : Nat) + (2 : Nat)) Option.none) fun (v14 : Go.Value) ↦
  Go.AI.tL (8 : Nat) v14 fun (s15 : Go.AI.Sl) ↦
  Go.AI.JoinS (Go.AI.jn Go.Proofs.Tryz.prog Go.AI.hintsS T (12 : Nat) [Bool.true, Bool.true, Bool.true] [] K)
  [((0 : Nat), Option.some (Go.Value.pointer (Option.some (Go.Addr.mk w (0 : Nat) Option.none)))),
  ((5 : Nat), Option.some (Go.Value.int Go.IntKind.i64 (Go.IntKind.wrap Go.IntKind.i64 (Int.tmod n11 (↑(Go.AI.Sl.n s13) : Int) + (↑(Go.AI.Sl.n s15) : Int)))))]
  σ1)
  (Go.AI.JoinS (Go.AI.jn Go.Proofs.Tryz.prog Go.AI.hintsS T (12 : Nat) [Bool.true, Bool.true, Bool.true] [] K)
  [((0 : Nat), Option.some (Go.Value.pointer (Option.some (Go.Addr.mk w (0 : Nat) Option.none)))),
  ((5 : Nat), Option.some (Go.Value.int Go.IntKind.i64 (Int.tmod n11 (↑(Go.AI.Sl.n s13) : Int))))]
  σ1)))) := by
  intros
  kernel_rfl

theorem s12j : ∀ (T : Go.AI.Ct) (w : Nat) (k : Int) (σ : Go.AI.AS) (K : Go.Value → Go.AI.AS → Prop),
  Go.AI.jn Go.Proofs.Tryz.prog Go.AI.hintsS T (12 : Nat) [Bool.true, Bool.true, Bool.true] [] K
  [((0 : Nat), Option.some (Go.Value.pointer (Option.some (Go.Addr.mk w (0 : Nat) Option.none)))), ((5 : Nat), Option.some (Go.Value.int Go.IntKind.i64 k))] σ =
  Go.AI.ldc σ (Go.Addr.mk w ((0 : Nat) + (2 : Nat)) Option.none) fun (v0 : Go.Value) ↦
  Go.AI.tL (8 : Nat) v0 fun (s1 : Go.AI.Sl) ↦
  Go.AI.req ((0 : Int) ≤ k)
  (Go.AI.req (k < (↑(Go.AI.Sl.n s1) : Int))
  (Go.AI.pSome (Go.AI.Sl.a s1) fun (a2 : Go.Addr) ↦
  Go.AI.ldc σ (Go.Addr.add (Go.Addr.add a2 (Int.toNat k * Go.AI.szOf Go.Proofs.Tryz.prog (94 : Nat))) (0 : Nat)) fun (v3 : Go.Value) ↦
  Go.AI.tI Go.IntKind.i64 v3 fun (n4 : Int) ↦ K (Go.Value.int Go.IntKind.i64 n4) σ)) := by
  intros
  kernel_rfl

theorem s9 : ∀ (T : Go.AI.Ct) (e : Int) (σ : Go.AI.AS) (K : Go.Value → Go.AI.AS → Prop),
  Go.AI.fw Go.Proofs.Tryz.prog Go.AI.hintsS T (9 : Nat) [Go.Value.int Go.IntKind.i64 e] σ K = K (Go.Value.int Go.IntKind.i64 e) σ := by
  intros
  kernel_rfl

theorem s51 : ∀ (T : Go.AI.Ct) (aa : Option Go.Addr) (an : Nat) (ba : Option Go.Addr) (bn be : Nat) (σ : Go.AI.AS) (K : Go.Value → Go.AI.AS → Prop),
  Go.AI.fw Go.Proofs.Tryz.prog Go.AI.hintsS T (51 : Nat) [Go.Value.slice aa an (1 : Nat), Go.Value.slice ba bn be] σ K =
  Go.AI.bmatch ((↑an : Int) != (↑bn : Int)) (K (Go.Value.bool Bool.false) σ)
  (Go.AI.ALoop (Go.AI.fl Go.Proofs.Tryz.prog Go.AI.hintsS T (51 : Nat) [Bool.true, Bool.true, Bool.false, Bool.true, Bool.false] [] K)
  [((0 : Nat), Option.some (Go.Value.slice aa an (1 : Nat))), ((1 : Nat), Option.some (Go.Value.slice ba bn be)), ((5 : Nat), Option.some (Go.Value.int Go.IntKind.i64 (0 : Int)))] σ) := by
  intros
  kernel_rfl

end Go.AI
end
section
/- The conditions ahead of the calls of the program's functions, reckoned as far as they go (equations that the kernel checks); no condition. -/
set_option maxRecDepth 1000000
set_option linter.unusedVariables false
namespace Go.AI
open Go.Proofs
theorem s10 : ∀ (T : Go.AI.Ct) (s w : Nat) (aKind : Int) (aName : ByteArray) (aBa : Option Go.Addr) (aBn aBe : Nat) (aLa : Option Go.Addr) (aLn aLe : Nat) (aN aA aMode : Int) (aWide aNear : Bool)
  (σ : Go.AI.AS) (K : Go.Value → Go.AI.AS → Prop),
  Go.AI.fw Go.Proofs.Tryz.prog Go.AI.hintsS T (10 : Nat)
  [Go.Value.pointer (Option.some (Go.Addr.mk s (0 : Nat) Option.none)), Go.Value.pointer (Option.some (Go.Addr.mk w (0 : Nat) Option.none)),
  Go.Value.agg
  (Array.mk
  [Go.Value.int Go.IntKind.i64 aKind, Go.Value.string aName, Go.Value.slice aBa aBn aBe, Go.Value.slice aLa aLn aLe, Go.Value.int Go.IntKind.i64 aN, Go.Value.int Go.IntKind.i64 aA,
  Go.Value.int Go.IntKind.i64 aMode, Go.Value.bool aWide, Go.Value.bool aNear])]
  σ K =
  Go.AI.newAt σ
  (Go.AI.AObj.row Go.AI.RK.plain
  [Go.Value.int Go.IntKind.i64 aKind, Go.Value.string aName, Go.Value.slice aBa aBn aBe, Go.Value.slice aLa aLn aLe, Go.Value.int Go.IntKind.i64 aN, Go.Value.int Go.IntKind.i64 aA,
  Go.Value.int Go.IntKind.i64 aMode, Go.Value.bool aWide, Go.Value.bool aNear])
  fun (i0 : Nat) (σ1 : Go.AI.AS) ↦
  Go.AI.lds σ1 (Go.Addr.mk i0 (0 : Nat) Option.none) (9 : Nat) fun (l2 : List Go.Value) ↦
  Go.AI.tCons l2 fun (v3 : Go.Value) (l4 : List Go.Value) ↦
  Go.AI.tI Go.IntKind.i64 v3 fun (n5 : Int) ↦
  Go.AI.tCons l4 fun (v6 : Go.Value) (l7 : List Go.Value) ↦
  Go.AI.tS v6 fun (b8 : ByteArray) ↦
  Go.AI.tCons l7 fun (v9 : Go.Value) (l10 : List Go.Value) ↦
  Go.AI.tL (1 : Nat) v9 fun (s11 : Go.AI.Sl) ↦
  Go.AI.tCons l10 fun (v12 : Go.Value) (l13 : List Go.Value) ↦
  Go.AI.tL (1 : Nat) v12 fun (s14 : Go.AI.Sl) ↦
  Go.AI.tCons l13 fun (v15 : Go.Value) (l16 : List Go.Value) ↦
  Go.AI.tI Go.IntKind.i64 v15 fun (n17 : Int) ↦
  Go.AI.tCons l16 fun (v18 : Go.Value) (l19 : List Go.Value) ↦
  Go.AI.tI Go.IntKind.i64 v18 fun (n20 : Int) ↦
  Go.AI.tCons l19 fun (v21 : Go.Value) (l22 : List Go.Value) ↦
  Go.AI.tI Go.IntKind.i64 v21 fun (n23 : Int) ↦
  Go.AI.tCons l22 fun (v24 : Go.Value) (l25 : List Go.Value) ↦
  Go.AI.tB v24 fun (b26 : Bool) ↦
  Go.AI.tCons l25 fun (v27 : Go.Value) (l28 : List Go.Value) ↦
  Go.AI.tB v27 fun (b29 : Bool) ↦
  Go.AI.tNil l28
  (T (12 : Nat)
  [Go.Value.pointer (Option.some (Go.Addr.mk w (0 : Nat) Option.none)),
  Go.Value.agg
  (Array.mk
  [Go.Value.int Go.IntKind.i64 n5, Go.Value.string b8, Go.Value.slice (Go.AI.Sl.a s11) (Go.AI.Sl.n s11) (1 : Nat),
  Go.Value.slice (Go.AI.Sl.a s14) (Go.AI.Sl.n s14) (1 : Nat), Go.Value.int Go.IntKind.i64 n17, Go.Value.int Go.IntKind.i64 n20, Go.Value.int Go.IntKind.i64 n23,
  Go.Value.bool b26, Go.Value.bool b29])]
  σ1 fun (v30 : Go.Value) (σ31 : Go.AI.AS) ↦
  Go.AI.tI Go.IntKind.i64 v30 fun (n32 : Int) ↦
  Go.AI.ldc σ31 (Go.Addr.mk i0 (0 : Nat) Option.none) fun (v33 : Go.Value) ↦
  Go.AI.tI Go.IntKind.i64 v33 fun (n34 : Int) ↦
  Go.AI.bmatch (n34 == (0 : Int))
  (Go.AI.ldc σ31 (Go.Addr.mk i0 ((0 : Nat) + (2 : Nat)) Option.none) fun (v35 : Go.Value) ↦
  Go.AI.tL (1 : Nat) v35 fun (s36 : Go.AI.Sl) ↦
  T (29 : Nat) [Go.Value.slice (Go.AI.Sl.a s36) (Go.AI.Sl.n s36) (1 : Nat)] σ31 fun (v37 : Go.Value) (σ38 : Go.AI.AS) ↦
  Go.AI.tL (1 : Nat) v37 fun (s39 : Go.AI.Sl) ↦
  Go.AI.ldc σ38 (Go.Addr.mk i0 ((0 : Nat) + (1 : Nat)) Option.none) fun (v40 : Go.Value) ↦
  Go.AI.tS v40 fun (b41 : ByteArray) ↦
  T (13 : Nat)
  [Go.Value.pointer (Option.some (Go.Addr.mk s (0 : Nat) Option.none)), Go.Value.string b41,
  Go.Value.slice (Go.AI.Sl.a s39) (Go.AI.Sl.n s39) (1 : Nat)]
  σ38 fun (v42 : Go.Value) (σ43 : Go.AI.AS) ↦
  Go.AI.tI Go.IntKind.i64 v42 fun (n44 : Int) ↦
  Go.AI.ldc σ43 (Go.Addr.mk i0 ((0 : Nat) + (2 : Nat)) Option.none) fun (v45 : Go.Value) ↦
  Go.AI.tL (1 : Nat) v45 fun (s46 : Go.AI.Sl) ↦
  T (30 : Nat) [Go.Value.slice (Go.AI.Sl.a s39) (Go.AI.Sl.n s39) (1 : Nat), Go.Value.slice (Go.AI.Sl.a s46) (Go.AI.Sl.n s46) (1 : Nat)] σ43
  fun (v47 : Go.Value) (σ48 : Go.AI.AS) ↦
  Go.AI.tB v47 fun (b49 : Bool) ↦
  T (31 : Nat) [Go.Value.slice (Go.AI.Sl.a s39) (Go.AI.Sl.n s39) (1 : Nat)] σ48 fun (v50 : Go.Value) (σ51 : Go.AI.AS) ↦
  Go.AI.bmatch b49
  (Go.AI.ldc σ51 (Go.Addr.mk i0 ((0 : Nat) + (1 : Nat)) Option.none) fun (v52 : Go.Value) ↦
  Go.AI.tS v52 fun (b53 : ByteArray) ↦
  Go.AI.ldc σ51 (Go.Addr.mk i0 ((0 : Nat) + (2 : Nat)) Option.none) fun (v54 : Go.Value) ↦
  Go.AI.tL (1 : Nat) v54 fun (s55 : Go.AI.Sl) ↦
  T (9 : Nat) [Go.Value.int Go.IntKind.i64 n44] σ51 fun (v56 : Go.Value) (σ57 : Go.AI.AS) ↦
  Go.AI.tI Go.IntKind.i64 v56 fun (n58 : Int) ↦
  Go.AI.ldc σ57 (Go.Addr.mk i0 ((0 : Nat) + (2 : Nat)) Option.none) fun (v59 : Go.Value) ↦
  Go.AI.tL (1 : Nat) v59 fun (s60 : Go.AI.Sl) ↦
  Go.Value.slice (Go.AI.Sl.a s55) (Go.AI.Sl.n s55) (Go.AI.szOf Go.Proofs.Tryz.prog (5 : Nat)) =
  Go.Value.slice (Go.AI.Sl.a s60) (Go.AI.Sl.n s60) (Go.AI.szOf Go.Proofs.Tryz.prog (5 : Nat)) ∧
  Go.AI.ldc σ57 (Go.Addr.mk i0 ((0 : Nat) + (1 : Nat)) Option.none) fun (v61 : Go.Value) ↦
  Go.AI.tS v61 fun (b62 : ByteArray) ↦
  Go.Value.string b53 = Go.Value.string b62 ∧
  T (32 : Nat)
  [Go.Value.pointer (Option.some (Go.Addr.mk w (0 : Nat) Option.none)), Go.Value.string b53,
  Go.Value.slice (Go.AI.Sl.a s55) (Go.AI.Sl.n s55) (1 : Nat)]
  σ57 fun (v63 : Go.Value) (σ64 : Go.AI.AS) ↦
  Go.AI.tI Go.IntKind.i64 v63 fun (n65 : Int) ↦
  Go.AI.JoinS
  (Go.AI.jn Go.Proofs.Tryz.prog Go.AI.hintsS T (10 : Nat)
  [Bool.true, Bool.true, Bool.false, Bool.true, Bool.false, Bool.true, Bool.false, Bool.true, Bool.true,
  Bool.true, Bool.true]
  [] K)
  [((6 : Nat), Option.some (Go.Value.bool (n58 == n65)))] σ64)
  (Go.AI.JoinS
  (Go.AI.jn Go.Proofs.Tryz.prog Go.AI.hintsS T (10 : Nat)
  [Bool.true, Bool.true, Bool.false, Bool.true, Bool.false, Bool.true, Bool.false, Bool.true, Bool.true, Bool.true, Bool.true] [] K)
  [((6 : Nat), Option.some (Go.Value.bool Bool.false))] σ51))
  (Go.AI.bmatch (n34 == (1 : Int))
  (Go.AI.ldc σ31 (Go.Addr.mk i0 ((0 : Nat) + (1 : Nat)) Option.none) fun (v66 : Go.Value) ↦
  Go.AI.tS v66 fun (b67 : ByteArray) ↦
  Go.AI.ldc σ31 (Go.Addr.mk i0 ((0 : Nat) + (1 : Nat)) Option.none) fun (v68 : Go.Value) ↦
  Go.AI.tS v68 fun (b69 : ByteArray) ↦
  T (24 : Nat) [Go.Value.pointer (Option.some (Go.Addr.mk s (0 : Nat) Option.none)), Go.Value.string b67] σ31 fun (v70 : Go.Value) (σ71 : Go.AI.AS) ↦
  Go.AI.tB v70 fun (b72 : Bool) ↦
  Go.AI.ldc σ71 (Go.Addr.mk i0 ((0 : Nat) + (1 : Nat)) Option.none) fun (v73 : Go.Value) ↦
  Go.AI.tS v73 fun (b74 : ByteArray) ↦
  Go.Value.string b69 = Go.Value.string b74 ∧
  T (33 : Nat) [Go.Value.pointer (Option.some (Go.Addr.mk w (0 : Nat) Option.none)), Go.Value.string b69] σ71
  fun (v75 : Go.Value) (σ76 : Go.AI.AS) ↦ Go.AI.tB v75 fun (b77 : Bool) ↦ K (Go.Value.bool (b72 == b77)) σ76)
  (Go.AI.bmatch (n34 == (2 : Int))
  (Go.AI.JoinS
  (Go.AI.jn Go.Proofs.Tryz.prog Go.AI.hintsS T (10 : Nat)
  [Bool.true, Bool.true, Bool.false, Bool.true, Bool.false, Bool.true, Bool.true, Bool.true, Bool.true] [] K)
  [((0 : Nat), Option.some (Go.Value.pointer (Option.some (Go.Addr.mk s (0 : Nat) Option.none)))),
  ((1 : Nat), Option.some (Go.Value.pointer (Option.some (Go.Addr.mk w (0 : Nat) Option.none)))),
  ((5 : Nat), Option.some (Go.Value.pointer (Option.some (Go.Addr.mk i0 (0 : Nat) Option.none)))), ((7 : Nat), Option.some (Go.Value.int Go.IntKind.i64 n32)),
  ((43 : Nat), Option.some (Go.Value.int Go.IntKind.i64 n34)), ((83 : Nat), Option.some (Go.Value.bool (n34 == (2 : Int))))]
  σ31)
  (Go.AI.JoinS
  (Go.AI.jn Go.Proofs.Tryz.prog Go.AI.hintsS T (10 : Nat)
  [Bool.true, Bool.true, Bool.false, Bool.true, Bool.false, Bool.true, Bool.true, Bool.true, Bool.true] [] K)
  [((0 : Nat), Option.some (Go.Value.pointer (Option.some (Go.Addr.mk s (0 : Nat) Option.none)))),
  ((1 : Nat), Option.some (Go.Value.pointer (Option.some (Go.Addr.mk w (0 : Nat) Option.none)))),
  ((5 : Nat), Option.some (Go.Value.pointer (Option.some (Go.Addr.mk i0 (0 : Nat) Option.none)))), ((7 : Nat), Option.some (Go.Value.int Go.IntKind.i64 n32)),
  ((43 : Nat), Option.some (Go.Value.int Go.IntKind.i64 n34)), ((83 : Nat), Option.some (Go.Value.bool (n34 == (3 : Int))))]
  σ31)))) := by
  intros
  kernel_rfl

theorem s10j : ∀ (T : Go.AI.Ct) (r6_1 : Bool) (σ : Go.AI.AS) (K : Go.Value → Go.AI.AS → Prop),
  Go.AI.jn Go.Proofs.Tryz.prog Go.AI.hintsS T (10 : Nat) [Bool.true, Bool.true, Bool.false, Bool.true, Bool.false, Bool.true, Bool.false, Bool.true, Bool.true, Bool.true, Bool.true] [] K
  [((6 : Nat), Option.some (Go.Value.bool r6_1))] σ =
  K (Go.Value.bool r6_1) σ := by
  intros
  kernel_rfl

theorem s10j1 : ∀ (T : Go.AI.Ct) (s w a : Nat) (n r43_1 : Int) (r83_1 : Bool) (σ : Go.AI.AS) (K : Go.Value → Go.AI.AS → Prop),
  Go.AI.jn Go.Proofs.Tryz.prog Go.AI.hintsS T (10 : Nat) [Bool.true, Bool.true, Bool.false, Bool.true, Bool.false, Bool.true, Bool.true, Bool.true, Bool.true] [] K
  [((0 : Nat), Option.some (Go.Value.pointer (Option.some (Go.Addr.mk s (0 : Nat) Option.none)))), ((1 : Nat), Option.some (Go.Value.pointer (Option.some (Go.Addr.mk w (0 : Nat) Option.none)))),
  ((5 : Nat), Option.some (Go.Value.pointer (Option.some (Go.Addr.mk a (0 : Nat) Option.none)))), ((7 : Nat), Option.some (Go.Value.int Go.IntKind.i64 n)),
  ((43 : Nat), Option.some (Go.Value.int Go.IntKind.i64 r43_1)), ((83 : Nat), Option.some (Go.Value.bool r83_1))]
  σ =
  Go.AI.bmatch r83_1
  (Go.AI.ldc σ (Go.Addr.mk a ((0 : Nat) + (1 : Nat)) Option.none) fun (v0 : Go.Value) ↦
  Go.AI.tS v0 fun (b1 : ByteArray) ↦
  Go.AI.ldc σ (Go.Addr.mk a ((0 : Nat) + (6 : Nat)) Option.none) fun (v2 : Go.Value) ↦
  Go.AI.tI Go.IntKind.i64 v2 fun (n3 : Int) ↦
  Go.AI.ldc σ (Go.Addr.mk a ((0 : Nat) + (7 : Nat)) Option.none) fun (v4 : Go.Value) ↦
  Go.AI.tB v4 fun (b5 : Bool) ↦
  T (15 : Nat) [Go.Value.pointer (Option.some (Go.Addr.mk s (0 : Nat) Option.none)), Go.Value.string b1, Go.Value.int Go.IntKind.i64 n3, Go.Value.bool b5] σ fun (v6 : Go.Value) (σ7 : Go.AI.AS) ↦
  Go.AI.tTup v6 fun (l8 : List Go.Value) ↦
  Go.AI.pSome l8[(0 : Nat)]? fun (u9 : Go.Value) ↦
  Go.AI.tI Go.IntKind.i64 u9 fun (n10 : Int) ↦
  Go.AI.tTup v6 fun (l11 : List Go.Value) ↦
  Go.AI.pSome l11[(1 : Nat)]? fun (u12 : Go.Value) ↦
  Go.AI.tI Go.IntKind.i64 u12 fun (n13 : Int) ↦
  Go.AI.ldc σ7 (Go.Addr.mk a ((0 : Nat) + (1 : Nat)) Option.none) fun (v14 : Go.Value) ↦
  Go.AI.tS v14 fun (b15 : ByteArray) ↦
  Go.AI.ldc σ7 (Go.Addr.mk a ((0 : Nat) + (6 : Nat)) Option.none) fun (v16 : Go.Value) ↦
  Go.AI.tI Go.IntKind.i64 v16 fun (n17 : Int) ↦
  Go.AI.ldc σ7 (Go.Addr.mk a ((0 : Nat) + (7 : Nat)) Option.none) fun (v18 : Go.Value) ↦
  Go.AI.tB v18 fun (b19 : Bool) ↦
  T (34 : Nat) [Go.Value.pointer (Option.some (Go.Addr.mk w (0 : Nat) Option.none)), Go.Value.string b15, Go.Value.int Go.IntKind.i64 n17, Go.Value.bool b19] σ7
  fun (v20 : Go.Value) (σ21 : Go.AI.AS) ↦
  Go.AI.tTup v20 fun (l22 : List Go.Value) ↦
  Go.AI.pSome l22[(0 : Nat)]? fun (u23 : Go.Value) ↦
  Go.AI.tI Go.IntKind.i64 u23 fun (n24 : Int) ↦
  Go.AI.tTup v20 fun (l25 : List Go.Value) ↦
  Go.AI.pSome l25[(1 : Nat)]? fun (u26 : Go.Value) ↦
  Go.AI.tI Go.IntKind.i64 u26 fun (n27 : Int) ↦
  Go.AI.bmatch (n10 == n24)
  (T (9 : Nat) [Go.Value.int Go.IntKind.i64 n13] σ21 fun (v28 : Go.Value) (σ29 : Go.AI.AS) ↦
  Go.AI.tI Go.IntKind.i64 v28 fun (n30 : Int) ↦
  Go.AI.JoinS
  (Go.AI.jn Go.Proofs.Tryz.prog Go.AI.hintsS T (10 : Nat)
  [Bool.true, Bool.true, Bool.false, Bool.true, Bool.false, Bool.true, Bool.false, Bool.true, Bool.true, Bool.true, Bool.true] [] K)
  [((6 : Nat), Option.some (Go.Value.bool (n30 == n27)))] σ29)
  (Go.AI.JoinS
  (Go.AI.jn Go.Proofs.Tryz.prog Go.AI.hintsS T (10 : Nat)
  [Bool.true, Bool.true, Bool.false, Bool.true, Bool.false, Bool.true, Bool.false, Bool.true, Bool.true, Bool.true, Bool.true] [] K)
  [((6 : Nat), Option.some (Go.Value.bool Bool.false))] σ21))
  (Go.AI.bmatch (r43_1 == (4 : Int))
  (Go.AI.newAt σ (Go.AI.AObj.row Go.AI.RK.rw []) fun (i31 : Nat) (σ32 : Go.AI.AS) ↦
  Go.AI.ldc σ32 (Go.Addr.mk a ((0 : Nat) + (3 : Nat)) Option.none) fun (v33 : Go.Value) ↦
  Go.AI.tL (1 : Nat) v33 fun (s34 : Go.AI.Sl) ↦
  Go.AI.srcCells σ32 (1 : Nat) (Option.some (Go.Value.slice (Go.AI.Sl.a s34) (Go.AI.Sl.n s34) (1 : Nat))) fun (m35 : Nat) (new36 : List Go.Value) ↦
  Go.AI.appendTo σ32 (1 : Nat) (4 : Nat) (Go.AI.Sl.mk (Option.some (Go.Addr.mk i31 (0 : Nat) Option.none)) (0 : Nat)) new36 m35 fun (s37 : Go.AI.Sl) (σ38 : Go.AI.AS) ↦
  Go.AI.ldc σ38 (Go.Addr.mk a ((0 : Nat) + (6 : Nat)) Option.none) fun (v39 : Go.Value) ↦
  Go.AI.tI Go.IntKind.i64 v39 fun (n40 : Int) ↦
  Go.AI.ldc σ38 (Go.Addr.mk a ((0 : Nat) + (7 : Nat)) Option.none) fun (v41 : Go.Value) ↦
  Go.AI.tB v41 fun (b42 : Bool) ↦
  T (27 : Nat)
  [Go.Value.pointer (Option.some (Go.Addr.mk s (0 : Nat) Option.none)), Go.Value.slice (Go.AI.Sl.a s37) (Go.AI.Sl.n s37) (1 : Nat), Go.Value.int Go.IntKind.i64 n40, Go.Value.bool b42] σ38
  fun (v43 : Go.Value) (σ44 : Go.AI.AS) ↦
  Go.AI.tTup v43 fun (l45 : List Go.Value) ↦
  Go.AI.pSome l45[(0 : Nat)]? fun (u46 : Go.Value) ↦
  Go.AI.tI Go.IntKind.i64 u46 fun (n47 : Int) ↦
  Go.AI.tTup v43 fun (l48 : List Go.Value) ↦
  Go.AI.pSome l48[(1 : Nat)]? fun (u49 : Go.Value) ↦
  Go.AI.tI Go.IntKind.i64 u49 fun (n50 : Int) ↦
  Go.AI.ALoop
  (Go.AI.fl Go.Proofs.Tryz.prog Go.AI.hintsS T (10 : Nat)
  [Bool.true, Bool.true, Bool.false, Bool.true, Bool.false, Bool.true, Bool.true, Bool.true, Bool.true, Bool.true, Bool.true, Bool.true, Bool.false, Bool.true, Bool.true,
  Bool.false, Bool.true, Bool.false]
  [] K)
  [((1 : Nat), Option.some (Go.Value.pointer (Option.some (Go.Addr.mk w (0 : Nat) Option.none)))),
  ((5 : Nat), Option.some (Go.Value.pointer (Option.some (Go.Addr.mk a (0 : Nat) Option.none)))),
  ((15 : Nat), Option.some (Go.Value.slice (Go.AI.Sl.a s37) (Go.AI.Sl.n s37) (1 : Nat))), ((16 : Nat), Option.some (Go.Value.int Go.IntKind.i64 n47)),
  ((17 : Nat), Option.some (Go.Value.int Go.IntKind.i64 n50)), ((18 : Nat), Option.some (Go.Value.int Go.IntKind.i64 (0 : Int)))]
  σ44)
  (Go.AI.bmatch (r43_1 == (5 : Int))
  (Go.AI.JoinS
  (Go.AI.jn Go.Proofs.Tryz.prog Go.AI.hintsS T (10 : Nat) [Bool.true, Bool.true, Bool.false, Bool.true, Bool.false, Bool.true, Bool.true, Bool.true, Bool.true, Bool.true, Bool.true, Bool.true, Bool.true] []
  K)
  [((0 : Nat), Option.some (Go.Value.pointer (Option.some (Go.Addr.mk s (0 : Nat) Option.none)))), ((1 : Nat), Option.some (Go.Value.pointer (Option.some (Go.Addr.mk w (0 : Nat) Option.none)))),
  ((5 : Nat), Option.some (Go.Value.pointer (Option.some (Go.Addr.mk a (0 : Nat) Option.none)))), ((7 : Nat), Option.some (Go.Value.int Go.IntKind.i64 n)),
  ((43 : Nat), Option.some (Go.Value.int Go.IntKind.i64 r43_1)), ((162 : Nat), Option.some (Go.Value.bool (r43_1 == (5 : Int))))]
  σ)
  (Go.AI.JoinS
  (Go.AI.jn Go.Proofs.Tryz.prog Go.AI.hintsS T (10 : Nat) [Bool.true, Bool.true, Bool.false, Bool.true, Bool.false, Bool.true, Bool.true, Bool.true, Bool.true, Bool.true, Bool.true, Bool.true, Bool.true] []
  K)
  [((0 : Nat), Option.some (Go.Value.pointer (Option.some (Go.Addr.mk s (0 : Nat) Option.none)))), ((1 : Nat), Option.some (Go.Value.pointer (Option.some (Go.Addr.mk w (0 : Nat) Option.none)))),
  ((5 : Nat), Option.some (Go.Value.pointer (Option.some (Go.Addr.mk a (0 : Nat) Option.none)))), ((7 : Nat), Option.some (Go.Value.int Go.IntKind.i64 n)),
  ((43 : Nat), Option.some (Go.Value.int Go.IntKind.i64 r43_1)), ((162 : Nat), Option.some (Go.Value.bool (r43_1 == (6 : Int))))]
  σ))) := by
  intros
  kernel_rfl

theorem s10j2 : ∀ (T : Go.AI.Ct) (r6_1 : Bool) (σ : Go.AI.AS) (K : Go.Value → Go.AI.AS → Prop),
  Go.AI.jn Go.Proofs.Tryz.prog Go.AI.hintsS T (10 : Nat) [Bool.true, Bool.true, Bool.false, Bool.true, Bool.false, Bool.true, Bool.true, Bool.true, Bool.true, Bool.true, Bool.false, Bool.true, Bool.true] [] K
  [((6 : Nat), Option.some (Go.Value.bool r6_1))] σ =
  K (Go.Value.bool r6_1) σ := by
  intros
  kernel_rfl

theorem s10l : ∀ (T : Go.AI.Ct) (w a : Nat) (la : Option Go.Addr) (ln le : Nat) (x e i : Int) (X : Go.AI.Regs → Go.AI.AS → Prop) (σ : Go.AI.AS) (K : Go.Value → Go.AI.AS → Prop),
  Go.AI.fl Go.Proofs.Tryz.prog Go.AI.hintsS T (10 : Nat)
  [Bool.true, Bool.true, Bool.false, Bool.true, Bool.false, Bool.true, Bool.true, Bool.true, Bool.true, Bool.true, Bool.true, Bool.true, Bool.false, Bool.true, Bool.true, Bool.false, Bool.true, Bool.false] [] K X
  [((1 : Nat), Option.some (Go.Value.pointer (Option.some (Go.Addr.mk w (0 : Nat) Option.none)))), ((5 : Nat), Option.some (Go.Value.pointer (Option.some (Go.Addr.mk a (0 : Nat) Option.none)))),
  ((15 : Nat), Option.some (Go.Value.slice la ln le)), ((16 : Nat), Option.some (Go.Value.int Go.IntKind.i64 x)), ((17 : Nat), Option.some (Go.Value.int Go.IntKind.i64 e)),
  ((18 : Nat), Option.some (Go.Value.int Go.IntKind.i64 i))]
  σ =
  Go.AI.bmatch (Decidable.decide (i < (↑ln : Int)))
  (Go.AI.req ((0 : Int) ≤ i)
  (Go.AI.req (i < (↑ln : Int))
  (Go.AI.pSome la fun (a0 : Go.Addr) ↦
  Go.AI.req (le = Go.AI.szOf Go.Proofs.Tryz.prog (54 : Nat))
  (Go.AI.put1 σ (Go.Addr.add a0 (Int.toNat i * Go.AI.szOf Go.Proofs.Tryz.prog (54 : Nat))) (Go.Value.int Go.IntKind.u32 (77 : Int)) fun (σ1 : Go.AI.AS) ↦
  X
  [((1 : Nat), Option.some (Go.Value.pointer (Option.some (Go.Addr.mk w (0 : Nat) Option.none)))), ((5 : Nat), Option.some (Go.Value.pointer (Option.some (Go.Addr.mk a (0 : Nat) Option.none)))),
  ((15 : Nat), Option.some (Go.Value.slice la ln le)), ((16 : Nat), Option.some (Go.Value.int Go.IntKind.i64 x)), ((17 : Nat), Option.some (Go.Value.int Go.IntKind.i64 e)),
  ((18 : Nat), Option.some (Go.Value.int Go.IntKind.i64 (Go.IntKind.wrap Go.IntKind.i64 (i + (1 : Int)))))]
  σ1))))
  (Go.AI.ldc σ (Go.Addr.mk a ((0 : Nat) + (3 : Nat)) Option.none) fun (v2 : Go.Value) ↦
  Go.AI.tL (1 : Nat) v2 fun (s3 : Go.AI.Sl) ↦
  Go.AI.ldc σ (Go.Addr.mk a ((0 : Nat) + (6 : Nat)) Option.none) fun (v4 : Go.Value) ↦
  Go.AI.tI Go.IntKind.i64 v4 fun (n5 : Int) ↦
  Go.AI.ldc σ (Go.Addr.mk a ((0 : Nat) + (7 : Nat)) Option.none) fun (v6 : Go.Value) ↦
  Go.AI.tB v6 fun (b7 : Bool) ↦
  T (35 : Nat) [Go.Value.pointer (Option.some (Go.Addr.mk w (0 : Nat) Option.none)), Go.Value.slice (Go.AI.Sl.a s3) (Go.AI.Sl.n s3) (1 : Nat), Go.Value.int Go.IntKind.i64 n5, Go.Value.bool b7] σ
  fun (v8 : Go.Value) (σ9 : Go.AI.AS) ↦
  Go.AI.tTup v8 fun (l10 : List Go.Value) ↦
  Go.AI.pSome l10[(0 : Nat)]? fun (u11 : Go.Value) ↦
  Go.AI.tI Go.IntKind.i64 u11 fun (n12 : Int) ↦
  Go.AI.tTup v8 fun (l13 : List Go.Value) ↦
  Go.AI.pSome l13[(1 : Nat)]? fun (u14 : Go.Value) ↦
  Go.AI.tI Go.IntKind.i64 u14 fun (n15 : Int) ↦
  Go.AI.bmatch (x == n12)
  (T (9 : Nat) [Go.Value.int Go.IntKind.i64 e] σ9 fun (v16 : Go.Value) (σ17 : Go.AI.AS) ↦
  Go.AI.tI Go.IntKind.i64 v16 fun (n18 : Int) ↦
  Go.AI.JoinS
  (Go.AI.jn Go.Proofs.Tryz.prog Go.AI.hintsS T (10 : Nat)
  [Bool.true, Bool.true, Bool.false, Bool.true, Bool.false, Bool.true, Bool.false, Bool.true, Bool.true, Bool.true, Bool.true] [] K)
  [((6 : Nat), Option.some (Go.Value.bool (n18 == n15)))] σ17)
  (Go.AI.JoinS
  (Go.AI.jn Go.Proofs.Tryz.prog Go.AI.hintsS T (10 : Nat) [Bool.true, Bool.true, Bool.false, Bool.true, Bool.false, Bool.true, Bool.false, Bool.true, Bool.true, Bool.true, Bool.true]
  [] K)
  [((6 : Nat), Option.some (Go.Value.bool Bool.false))] σ9)) := by
  intros
  kernel_rfl

theorem s10j3 : ∀ (T : Go.AI.Ct) (r6_1 : Bool) (σ : Go.AI.AS) (K : Go.Value → Go.AI.AS → Prop),
  Go.AI.jn Go.Proofs.Tryz.prog Go.AI.hintsS T (10 : Nat)
  [Bool.true, Bool.true, Bool.false, Bool.true, Bool.false, Bool.true, Bool.true, Bool.true, Bool.true, Bool.true, Bool.true, Bool.true, Bool.false, Bool.true, Bool.true, Bool.true, Bool.true] [] K
  [((6 : Nat), Option.some (Go.Value.bool r6_1))] σ =
  K (Go.Value.bool r6_1) σ := by
  intros
  kernel_rfl

theorem s10j4 : ∀ (T : Go.AI.Ct) (s w a : Nat) (n r43_1 : Int) (r162_1 : Bool) (σ : Go.AI.AS) (K : Go.Value → Go.AI.AS → Prop),
  Go.AI.jn Go.Proofs.Tryz.prog Go.AI.hintsS T (10 : Nat) [Bool.true, Bool.true, Bool.false, Bool.true, Bool.false, Bool.true, Bool.true, Bool.true, Bool.true, Bool.true, Bool.true, Bool.true, Bool.true] [] K
  [((0 : Nat), Option.some (Go.Value.pointer (Option.some (Go.Addr.mk s (0 : Nat) Option.none)))), ((1 : Nat), Option.some (Go.Value.pointer (Option.some (Go.Addr.mk w (0 : Nat) Option.none)))),
  ((5 : Nat), Option.some (Go.Value.pointer (Option.some (Go.Addr.mk a (0 : Nat) Option.none)))), ((7 : Nat), Option.some (Go.Value.int Go.IntKind.i64 n)),
  ((43 : Nat), Option.some (Go.Value.int Go.IntKind.i64 r43_1)), ((162 : Nat), Option.some (Go.Value.bool r162_1))]
  σ =
  Go.AI.bmatch r162_1
  (Go.AI.ldc σ (Go.Addr.mk a ((0 : Nat) + (3 : Nat)) Option.none) fun (v0 : Go.Value) ↦
  Go.AI.tL (1 : Nat) v0 fun (s1 : Go.AI.Sl) ↦
  Go.AI.ldc σ (Go.Addr.mk a ((0 : Nat) + (3 : Nat)) Option.none) fun (v2 : Go.Value) ↦
  Go.AI.tL (1 : Nat) v2 fun (s3 : Go.AI.Sl) ↦
  T (14 : Nat) [Go.Value.pointer (Option.some (Go.Addr.mk s (0 : Nat) Option.none)), Go.Value.int Go.IntKind.i64 n, Go.Value.slice (Go.AI.Sl.a s1) (Go.AI.Sl.n s1) (1 : Nat)] σ
  fun (v4 : Go.Value) (σ5 : Go.AI.AS) ↦
  Go.AI.tI Go.IntKind.i64 v4 fun (n6 : Int) ↦
  Go.AI.ldc σ5 (Go.Addr.mk a ((0 : Nat) + (3 : Nat)) Option.none) fun (v7 : Go.Value) ↦
  Go.AI.tL (1 : Nat) v7 fun (s8 : Go.AI.Sl) ↦
  Go.Value.slice (Go.AI.Sl.a s3) (Go.AI.Sl.n s3) (Go.AI.szOf Go.Proofs.Tryz.prog (54 : Nat)) = Go.Value.slice (Go.AI.Sl.a s8) (Go.AI.Sl.n s8) (Go.AI.szOf Go.Proofs.Tryz.prog (54 : Nat)) ∧
  T (9 : Nat) [Go.Value.int Go.IntKind.i64 n6] σ5 fun (v9 : Go.Value) (σ10 : Go.AI.AS) ↦
  Go.AI.tI Go.IntKind.i64 v9 fun (n11 : Int) ↦
  Go.AI.ldc σ10 (Go.Addr.mk a ((0 : Nat) + (3 : Nat)) Option.none) fun (v12 : Go.Value) ↦
  Go.AI.tL (1 : Nat) v12 fun (s13 : Go.AI.Sl) ↦
  Go.Value.slice (Go.AI.Sl.a s3) (Go.AI.Sl.n s3) (Go.AI.szOf Go.Proofs.Tryz.prog (54 : Nat)) = Go.Value.slice (Go.AI.Sl.a s13) (Go.AI.Sl.n s13) (Go.AI.szOf Go.Proofs.Tryz.prog (54 : Nat)) ∧
  T (36 : Nat) [Go.Value.pointer (Option.some (Go.Addr.mk w (0 : Nat) Option.none)), Go.Value.int Go.IntKind.i64 n, Go.Value.slice (Go.AI.Sl.a s3) (Go.AI.Sl.n s3) (1 : Nat)] σ10
  fun (v14 : Go.Value) (σ15 : Go.AI.AS) ↦ Go.AI.tI Go.IntKind.i64 v14 fun (n16 : Int) ↦ K (Go.Value.bool (n11 == n16)) σ15)
  (Go.AI.bmatch (r43_1 == (7 : Int))
  (T (37 : Nat) [Go.Value.pointer (Option.some (Go.Addr.mk s (0 : Nat) Option.none)), Go.Value.int Go.IntKind.i64 n] σ fun (v17 : Go.Value) (σ18 : Go.AI.AS) ↦
  Go.AI.tTup v17 fun (l19 : List Go.Value) ↦
  Go.AI.pSome l19[(0 : Nat)]? fun (u20 : Go.Value) ↦
  Go.AI.tI Go.IntKind.u32 u20 fun (n21 : Int) ↦
  Go.AI.tTup v17 fun (l22 : List Go.Value) ↦
  Go.AI.pSome l22[(1 : Nat)]? fun (u23 : Go.Value) ↦
  Go.AI.tB u23 fun (b24 : Bool) ↦
  Go.AI.tTup v17 fun (l25 : List Go.Value) ↦
  Go.AI.pSome l25[(2 : Nat)]? fun (u26 : Go.Value) ↦
  Go.AI.tI Go.IntKind.i64 u26 fun (n27 : Int) ↦
  T (38 : Nat) [Go.Value.pointer (Option.some (Go.Addr.mk w (0 : Nat) Option.none)), Go.Value.int Go.IntKind.i64 n] σ18 fun (v28 : Go.Value) (σ29 : Go.AI.AS) ↦
  Go.AI.tTup v28 fun (l30 : List Go.Value) ↦
  Go.AI.pSome l30[(0 : Nat)]? fun (u31 : Go.Value) ↦
  Go.AI.tI Go.IntKind.u32 u31 fun (n32 : Int) ↦
  Go.AI.tTup v28 fun (l33 : List Go.Value) ↦
  Go.AI.pSome l33[(1 : Nat)]? fun (u34 : Go.Value) ↦
  Go.AI.tB u34 fun (b35 : Bool) ↦
  Go.AI.tTup v28 fun (l36 : List Go.Value) ↦
  Go.AI.pSome l36[(2 : Nat)]? fun (u37 : Go.Value) ↦
  Go.AI.tI Go.IntKind.i64 u37 fun (n38 : Int) ↦
  Go.AI.bmatch (n21 == n32)
  (Go.AI.bmatch (b24 == b35)
  (T (9 : Nat) [Go.Value.int Go.IntKind.i64 n27] σ29 fun (v39 : Go.Value) (σ40 : Go.AI.AS) ↦
  Go.AI.tI Go.IntKind.i64 v39 fun (n41 : Int) ↦
  Go.AI.JoinS
  (Go.AI.jn Go.Proofs.Tryz.prog Go.AI.hintsS T (10 : Nat)
  [Bool.true, Bool.true, Bool.false, Bool.true, Bool.false, Bool.true, Bool.false, Bool.true, Bool.true, Bool.true, Bool.true] [] K)
  [((6 : Nat), Option.some (Go.Value.bool (n41 == n38)))] σ40)
  (Go.AI.JoinS
  (Go.AI.jn Go.Proofs.Tryz.prog Go.AI.hintsS T (10 : Nat)
  [Bool.true, Bool.true, Bool.false, Bool.true, Bool.false, Bool.true, Bool.false, Bool.true, Bool.true, Bool.true, Bool.true] [] K)
  [((6 : Nat), Option.some (Go.Value.bool Bool.false))] σ29))
  (Go.AI.JoinS
  (Go.AI.jn Go.Proofs.Tryz.prog Go.AI.hintsS T (10 : Nat)
  [Bool.true, Bool.true, Bool.false, Bool.true, Bool.false, Bool.true, Bool.false, Bool.true, Bool.true, Bool.true, Bool.true] [] K)
  [((6 : Nat), Option.some (Go.Value.bool Bool.false))] σ29))
  (Go.AI.bmatch (r43_1 == (8 : Int))
  (Go.AI.ldc σ (Go.Addr.mk a ((0 : Nat) + (5 : Nat)) Option.none) fun (v42 : Go.Value) ↦
  Go.AI.tI Go.IntKind.i64 v42 fun (n43 : Int) ↦
  T (39 : Nat) [Go.Value.pointer (Option.some (Go.Addr.mk s (0 : Nat) Option.none)), Go.Value.int Go.IntKind.i64 n, Go.Value.int Go.IntKind.i64 n43] σ fun (v44 : Go.Value) (σ45 : Go.AI.AS) ↦
  Go.AI.tTup v44 fun (l46 : List Go.Value) ↦
  Go.AI.pSome l46[(0 : Nat)]? fun (u47 : Go.Value) ↦
  Go.AI.tL (1 : Nat) u47 fun (s48 : Go.AI.Sl) ↦
  Go.AI.tTup v44 fun (l49 : List Go.Value) ↦
  Go.AI.pSome l49[(1 : Nat)]? fun (u50 : Go.Value) ↦
  Go.AI.tI Go.IntKind.i64 u50 fun (n51 : Int) ↦
  Go.AI.ldc σ45 (Go.Addr.mk a ((0 : Nat) + (5 : Nat)) Option.none) fun (v52 : Go.Value) ↦
  Go.AI.tI Go.IntKind.i64 v52 fun (n53 : Int) ↦
  T (40 : Nat) [Go.Value.pointer (Option.some (Go.Addr.mk w (0 : Nat) Option.none)), Go.Value.int Go.IntKind.i64 n, Go.Value.int Go.IntKind.i64 n53] σ45
  fun (v54 : Go.Value) (σ55 : Go.AI.AS) ↦
  Go.AI.tTup v54 fun (l56 : List Go.Value) ↦
  Go.AI.pSome l56[(0 : Nat)]? fun (u57 : Go.Value) ↦
  Go.AI.tL (1 : Nat) u57 fun (s58 : Go.AI.Sl) ↦
  Go.AI.tTup v54 fun (l59 : List Go.Value) ↦
  Go.AI.pSome l59[(1 : Nat)]? fun (u60 : Go.Value) ↦
  Go.AI.tI Go.IntKind.i64 u60 fun (n61 : Int) ↦
  T (28 : Nat) [Go.Value.slice (Go.AI.Sl.a s48) (Go.AI.Sl.n s48) (1 : Nat), Go.Value.slice (Go.AI.Sl.a s58) (Go.AI.Sl.n s58) (1 : Nat)] σ55
  fun (v62 : Go.Value) (σ63 : Go.AI.AS) ↦
  Go.AI.tB v62 fun (b64 : Bool) ↦
  Go.AI.bmatch b64
  (T (9 : Nat) [Go.Value.int Go.IntKind.i64 n51] σ63 fun (v65 : Go.Value) (σ66 : Go.AI.AS) ↦
  Go.AI.tI Go.IntKind.i64 v65 fun (n67 : Int) ↦
  Go.AI.JoinS
  (Go.AI.jn Go.Proofs.Tryz.prog Go.AI.hintsS T (10 : Nat)
  [Bool.true, Bool.true, Bool.false, Bool.true, Bool.false, Bool.true, Bool.false, Bool.true, Bool.true, Bool.true, Bool.true] [] K)
  [((6 : Nat), Option.some (Go.Value.bool (n67 == n61)))] σ66)
  (Go.AI.JoinS
  (Go.AI.jn Go.Proofs.Tryz.prog Go.AI.hintsS T (10 : Nat)
  [Bool.true, Bool.true, Bool.false, Bool.true, Bool.false, Bool.true, Bool.false, Bool.true, Bool.true, Bool.true, Bool.true] [] K)
  [((6 : Nat), Option.some (Go.Value.bool Bool.false))] σ63))
  (Go.AI.bmatch (r43_1 == (9 : Int))
  (Go.AI.JoinS
  (Go.AI.jn Go.Proofs.Tryz.prog Go.AI.hintsS T (10 : Nat)
  [Bool.true, Bool.true, Bool.false, Bool.true, Bool.false, Bool.true, Bool.true, Bool.true, Bool.true, Bool.true, Bool.true, Bool.true, Bool.true, Bool.true, Bool.true, Bool.true, Bool.true, Bool.true,
  Bool.true]
  [] K)
  [((0 : Nat), Option.some (Go.Value.pointer (Option.some (Go.Addr.mk s (0 : Nat) Option.none)))), ((1 : Nat), Option.some (Go.Value.pointer (Option.some (Go.Addr.mk w (0 : Nat) Option.none)))),
  ((5 : Nat), Option.some (Go.Value.pointer (Option.some (Go.Addr.mk a (0 : Nat) Option.none)))), ((7 : Nat), Option.some (Go.Value.int Go.IntKind.i64 n)),
  ((234 : Nat), Option.some (Go.Value.bool (r43_1 == (9 : Int))))]
  σ)
  (Go.AI.JoinS
  (Go.AI.jn Go.Proofs.Tryz.prog Go.AI.hintsS T (10 : Nat)
  [Bool.true, Bool.true, Bool.false, Bool.true, Bool.false, Bool.true, Bool.true, Bool.true, Bool.true, Bool.true, Bool.true, Bool.true, Bool.true, Bool.true, Bool.true, Bool.true, Bool.true, Bool.true,
  Bool.true]
  [] K)
  [((0 : Nat), Option.some (Go.Value.pointer (Option.some (Go.Addr.mk s (0 : Nat) Option.none)))), ((1 : Nat), Option.some (Go.Value.pointer (Option.some (Go.Addr.mk w (0 : Nat) Option.none)))),
  ((5 : Nat), Option.some (Go.Value.pointer (Option.some (Go.Addr.mk a (0 : Nat) Option.none)))), ((7 : Nat), Option.some (Go.Value.int Go.IntKind.i64 n)),
  ((234 : Nat), Option.some (Go.Value.bool (r43_1 == (10 : Int))))]
  σ)))) := by
  intros
  kernel_rfl

theorem s10j5 : ∀ (T : Go.AI.Ct) (r6_1 : Bool) (σ : Go.AI.AS) (K : Go.Value → Go.AI.AS → Prop),
  Go.AI.jn Go.Proofs.Tryz.prog Go.AI.hintsS T (10 : Nat)
  [Bool.true, Bool.true, Bool.false, Bool.true, Bool.false, Bool.true, Bool.true, Bool.true, Bool.true, Bool.true, Bool.true, Bool.true, Bool.true, Bool.true, Bool.true, Bool.true, Bool.false, Bool.true, Bool.true]
  [] K [((6 : Nat), Option.some (Go.Value.bool r6_1))] σ =
  K (Go.Value.bool r6_1) σ := by
  intros
  kernel_rfl

theorem s10j6 : ∀ (T : Go.AI.Ct) (r6_1 : Bool) (σ : Go.AI.AS) (K : Go.Value → Go.AI.AS → Prop),
  Go.AI.jn Go.Proofs.Tryz.prog Go.AI.hintsS T (10 : Nat)
  [Bool.true, Bool.true, Bool.false, Bool.true, Bool.false, Bool.true, Bool.true, Bool.true, Bool.true, Bool.true, Bool.true, Bool.true, Bool.true, Bool.true, Bool.true, Bool.true, Bool.true, Bool.true, Bool.false,
  Bool.true, Bool.true]
  [] K [((6 : Nat), Option.some (Go.Value.bool r6_1))] σ =
  K (Go.Value.bool r6_1) σ := by
  intros
  kernel_rfl

theorem s10j7 : ∀ (T : Go.AI.Ct) (s w a : Nat) (n : Int) (r234_1 : Bool) (σ : Go.AI.AS) (K : Go.Value → Go.AI.AS → Prop),
  Go.AI.jn Go.Proofs.Tryz.prog Go.AI.hintsS T (10 : Nat)
  [Bool.true, Bool.true, Bool.false, Bool.true, Bool.false, Bool.true, Bool.true, Bool.true, Bool.true, Bool.true, Bool.true, Bool.true, Bool.true, Bool.true, Bool.true, Bool.true, Bool.true, Bool.true, Bool.true] []
  K
  [((0 : Nat), Option.some (Go.Value.pointer (Option.some (Go.Addr.mk s (0 : Nat) Option.none)))), ((1 : Nat), Option.some (Go.Value.pointer (Option.some (Go.Addr.mk w (0 : Nat) Option.none)))),
  ((5 : Nat), Option.some (Go.Value.pointer (Option.some (Go.Addr.mk a (0 : Nat) Option.none)))), ((7 : Nat), Option.some (Go.Value.int Go.IntKind.i64 n)), ((234 : Nat), Option.some (Go.Value.bool r234_1))]
  σ =
  Go.AI.bmatch r234_1
  (Go.AI.ldc σ (Go.Addr.mk a ((0 : Nat) + (5 : Nat)) Option.none) fun (v0 : Go.Value) ↦
  Go.AI.tI Go.IntKind.i64 v0 fun (n1 : Int) ↦
  Go.AI.ldc σ (Go.Addr.mk a ((0 : Nat) + (6 : Nat)) Option.none) fun (v2 : Go.Value) ↦
  Go.AI.tI Go.IntKind.i64 v2 fun (n3 : Int) ↦
  Go.AI.ldc σ (Go.Addr.mk a ((0 : Nat) + (5 : Nat)) Option.none) fun (v4 : Go.Value) ↦
  Go.AI.tI Go.IntKind.i64 v4 fun (n5 : Int) ↦
  Go.AI.ldc σ (Go.Addr.mk a ((0 : Nat) + (6 : Nat)) Option.none) fun (v6 : Go.Value) ↦
  Go.AI.tI Go.IntKind.i64 v6 fun (n7 : Int) ↦
  T (16 : Nat) [Go.Value.pointer (Option.some (Go.Addr.mk s (0 : Nat) Option.none)), Go.Value.int Go.IntKind.i64 n, Go.Value.int Go.IntKind.i64 n1, Go.Value.int Go.IntKind.i64 n3] σ
  fun (v8 : Go.Value) (σ9 : Go.AI.AS) ↦
  Go.AI.tI Go.IntKind.i64 v8 fun (n10 : Int) ↦
  Go.AI.ldc σ9 (Go.Addr.mk a ((0 : Nat) + (6 : Nat)) Option.none) fun (v11 : Go.Value) ↦
  Go.AI.tI Go.IntKind.i64 v11 fun (n12 : Int) ↦
  Go.Value.int Go.IntKind.i64 n7 = Go.Value.int Go.IntKind.i64 n12 ∧
  Go.AI.ldc σ9 (Go.Addr.mk a ((0 : Nat) + (5 : Nat)) Option.none) fun (v13 : Go.Value) ↦
  Go.AI.tI Go.IntKind.i64 v13 fun (n14 : Int) ↦
  Go.Value.int Go.IntKind.i64 n5 = Go.Value.int Go.IntKind.i64 n14 ∧
  T (9 : Nat) [Go.Value.int Go.IntKind.i64 n10] σ9 fun (v15 : Go.Value) (σ16 : Go.AI.AS) ↦
  Go.AI.tI Go.IntKind.i64 v15 fun (n17 : Int) ↦
  Go.AI.ldc σ16 (Go.Addr.mk a ((0 : Nat) + (6 : Nat)) Option.none) fun (v18 : Go.Value) ↦
  Go.AI.tI Go.IntKind.i64 v18 fun (n19 : Int) ↦
  Go.Value.int Go.IntKind.i64 n7 = Go.Value.int Go.IntKind.i64 n19 ∧
  Go.AI.ldc σ16 (Go.Addr.mk a ((0 : Nat) + (5 : Nat)) Option.none) fun (v20 : Go.Value) ↦
  Go.AI.tI Go.IntKind.i64 v20 fun (n21 : Int) ↦
  Go.Value.int Go.IntKind.i64 n5 = Go.Value.int Go.IntKind.i64 n21 ∧
  T (41 : Nat)
  [Go.Value.pointer (Option.some (Go.Addr.mk w (0 : Nat) Option.none)), Go.Value.int Go.IntKind.i64 n, Go.Value.int Go.IntKind.i64 n5,
  Go.Value.int Go.IntKind.i64 n7]
  σ16 fun (v22 : Go.Value) (σ23 : Go.AI.AS) ↦ Go.AI.tI Go.IntKind.i64 v22 fun (n24 : Int) ↦ K (Go.Value.bool (n17 == n24)) σ23)
  (T (22 : Nat) [Go.Value.pointer (Option.some (Go.Addr.mk s (0 : Nat) Option.none)), Go.Value.int Go.IntKind.i64 n] σ fun (v25 : Go.Value) (σ26 : Go.AI.AS) ↦
  Go.AI.tTup v25 fun (l27 : List Go.Value) ↦
  Go.AI.pSome l27[(0 : Nat)]? fun (u28 : Go.Value) ↦
  Go.AI.tI Go.IntKind.u32 u28 fun (n29 : Int) ↦
  Go.AI.tTup v25 fun (l30 : List Go.Value) ↦
  Go.AI.pSome l30[(1 : Nat)]? fun (u31 : Go.Value) ↦
  Go.AI.tI Go.IntKind.u32 u31 fun (n32 : Int) ↦
  Go.AI.tTup v25 fun (l33 : List Go.Value) ↦
  Go.AI.pSome l33[(2 : Nat)]? fun (u34 : Go.Value) ↦
  Go.AI.tL (1 : Nat) u34 fun (s35 : Go.AI.Sl) ↦
  Go.AI.tTup v25 fun (l36 : List Go.Value) ↦
  Go.AI.pSome l36[(3 : Nat)]? fun (u37 : Go.Value) ↦
  Go.AI.tI Go.IntKind.i64 u37 fun (n38 : Int) ↦
  T (42 : Nat) [Go.Value.pointer (Option.some (Go.Addr.mk w (0 : Nat) Option.none)), Go.Value.int Go.IntKind.i64 n] σ26 fun (v39 : Go.Value) (σ40 : Go.AI.AS) ↦
  Go.AI.tTup v39 fun (l41 : List Go.Value) ↦
  Go.AI.pSome l41[(0 : Nat)]? fun (u42 : Go.Value) ↦
  Go.AI.tI Go.IntKind.i64 u42 fun (n43 : Int) ↦
  Go.AI.tTup v39 fun (l44 : List Go.Value) ↦
  Go.AI.pSome l44[(1 : Nat)]? fun (u45 : Go.Value) ↦
  Go.AI.tI Go.IntKind.i64 u45 fun (n46 : Int) ↦
  Go.AI.tTup v39 fun (l47 : List Go.Value) ↦
  Go.AI.pSome l47[(2 : Nat)]? fun (u48 : Go.Value) ↦
  Go.AI.tL (1 : Nat) u48 fun (s49 : Go.AI.Sl) ↦
  Go.AI.tTup v39 fun (l50 : List Go.Value) ↦
  Go.AI.pSome l50[(3 : Nat)]? fun (u51 : Go.Value) ↦
  Go.AI.tI Go.IntKind.i64 u51 fun (n52 : Int) ↦
  Go.AI.bmatch (Go.IntKind.wrap Go.IntKind.i64 n29 == n43)
  (Go.AI.bmatch (Go.IntKind.wrap Go.IntKind.i64 n32 == n46)
  (T (28 : Nat) [Go.Value.slice (Go.AI.Sl.a s35) (Go.AI.Sl.n s35) (1 : Nat), Go.Value.slice (Go.AI.Sl.a s49) (Go.AI.Sl.n s49) (1 : Nat)] σ40
  fun (v53 : Go.Value) (σ54 : Go.AI.AS) ↦
  Go.AI.tB v53 fun (b55 : Bool) ↦
  Go.AI.bmatch b55
  (T (9 : Nat) [Go.Value.int Go.IntKind.i64 n38] σ54 fun (v56 : Go.Value) (σ57 : Go.AI.AS) ↦
  Go.AI.tI Go.IntKind.i64 v56 fun (n58 : Int) ↦
  Go.AI.JoinS
  (Go.AI.jn Go.Proofs.Tryz.prog Go.AI.hintsS T (10 : Nat)
  [Bool.true, Bool.true, Bool.false, Bool.true, Bool.false, Bool.true, Bool.false, Bool.true, Bool.true, Bool.true, Bool.true] [] K)
  [((6 : Nat), Option.some (Go.Value.bool (n58 == n52)))] σ57)
  (Go.AI.JoinS
  (Go.AI.jn Go.Proofs.Tryz.prog Go.AI.hintsS T (10 : Nat)
  [Bool.true, Bool.true, Bool.false, Bool.true, Bool.false, Bool.true, Bool.false, Bool.true, Bool.true, Bool.true, Bool.true] [] K)
  [((6 : Nat), Option.some (Go.Value.bool Bool.false))] σ54))
  (Go.AI.JoinS
  (Go.AI.jn Go.Proofs.Tryz.prog Go.AI.hintsS T (10 : Nat)
  [Bool.true, Bool.true, Bool.false, Bool.true, Bool.false, Bool.true, Bool.false, Bool.true, Bool.true, Bool.true, Bool.true] [] K)
  [((6 : Nat), Option.some (Go.Value.bool Bool.false))] σ40))
  (Go.AI.JoinS
  (Go.AI.jn Go.Proofs.Tryz.prog Go.AI.hintsS T (10 : Nat)
  [Bool.true, Bool.true, Bool.false, Bool.true, Bool.false, Bool.true, Bool.false, Bool.true, Bool.true, Bool.true, Bool.true] [] K)
  [((6 : Nat), Option.some (Go.Value.bool Bool.false))] σ40)) := by
  intros
  kernel_rfl

theorem s10j8 : ∀ (T : Go.AI.Ct) (r6_1 : Bool) (σ : Go.AI.AS) (K : Go.Value → Go.AI.AS → Prop),
  Go.AI.jn Go.Proofs.Tryz.prog Go.AI.hintsS T (10 : Nat) [Bool.true, Bool.true, Bool.true, Bool.true, Bool.true] [] K [((6 : Nat), Option.some (Go.Value.bool r6_1))] σ = K (Go.Value.bool r6_1) σ := by
  intros
  kernel_rfl

theorem s17 : ∀ (T : Go.AI.Ct) (s w : Nat) (σ : Go.AI.AS) (K : Go.Value → Go.AI.AS → Prop),
  Go.AI.fw Go.Proofs.Tryz.prog Go.AI.hintsS T (17 : Nat) [Go.Value.pointer (Option.some (Go.Addr.mk s (0 : Nat) Option.none)), Go.Value.pointer (Option.some (Go.Addr.mk w (0 : Nat) Option.none))] σ K =
  T (49 : Nat) [Go.Value.pointer (Option.some (Go.Addr.mk s (0 : Nat) Option.none))] σ fun (v0 : Go.Value) (σ1 : Go.AI.AS) ↦
  Go.AI.tL (1 : Nat) v0 fun (s2 : Go.AI.Sl) ↦
  Go.AI.ldc σ1 (Go.Addr.mk w ((0 : Nat) + (1 : Nat)) Option.none) fun (v3 : Go.Value) ↦
  Go.AI.tL (2 : Nat) v3 fun (s4 : Go.AI.Sl) ↦
  Go.AI.bmatch ((↑(Go.AI.Sl.n s2) : Int) != (↑(Go.AI.Sl.n s4) : Int))
  (Go.AI.JoinS (Go.AI.jn Go.Proofs.Tryz.prog Go.AI.hintsS T (17 : Nat) [Bool.true, Bool.true, Bool.false] [] K)
  [((0 : Nat), Option.some (Go.Value.pointer (Option.some (Go.Addr.mk s (0 : Nat) Option.none)))), ((1 : Nat), Option.some (Go.Value.pointer (Option.some (Go.Addr.mk w (0 : Nat) Option.none)))),
  ((5 : Nat), Option.some (Go.Value.slice (Go.AI.Sl.a s2) (Go.AI.Sl.n s2) (1 : Nat))), ((38 : Nat), Option.some (Go.Value.bool Bool.true))]
  σ1)
  (T (11 : Nat) [Go.Value.pointer (Option.some (Go.Addr.mk s (0 : Nat) Option.none))] σ1 fun (v5 : Go.Value) (σ6 : Go.AI.AS) ↦
  Go.AI.tI Go.IntKind.i64 v5 fun (n7 : Int) ↦
  T (20 : Nat) [Go.Value.pointer (Option.some (Go.Addr.mk w (0 : Nat) Option.none))] σ6 fun (v8 : Go.Value) (σ9 : Go.AI.AS) ↦
  Go.AI.tI Go.IntKind.i64 v8 fun (n10 : Int) ↦
  Go.AI.JoinS (Go.AI.jn Go.Proofs.Tryz.prog Go.AI.hintsS T (17 : Nat) [Bool.true, Bool.true, Bool.false] [] K)
  [((0 : Nat), Option.some (Go.Value.pointer (Option.some (Go.Addr.mk s (0 : Nat) Option.none)))), ((1 : Nat), Option.some (Go.Value.pointer (Option.some (Go.Addr.mk w (0 : Nat) Option.none)))),
  ((5 : Nat), Option.some (Go.Value.slice (Go.AI.Sl.a s2) (Go.AI.Sl.n s2) (1 : Nat))), ((38 : Nat), Option.some (Go.Value.bool (n7 != n10)))]
  σ9) := by
  intros
  kernel_rfl

theorem s17j : ∀ (T : Go.AI.Ct) (s w : Nat) (namesa : Option Go.Addr) (namesn namese : Nat) (r38_1 : Bool) (σ : Go.AI.AS) (K : Go.Value → Go.AI.AS → Prop),
  Go.AI.jn Go.Proofs.Tryz.prog Go.AI.hintsS T (17 : Nat) [Bool.true, Bool.true, Bool.false] [] K
  [((0 : Nat), Option.some (Go.Value.pointer (Option.some (Go.Addr.mk s (0 : Nat) Option.none)))), ((1 : Nat), Option.some (Go.Value.pointer (Option.some (Go.Addr.mk w (0 : Nat) Option.none)))),
  ((5 : Nat), Option.some (Go.Value.slice namesa namesn namese)), ((38 : Nat), Option.some (Go.Value.bool r38_1))]
  σ =
  Go.AI.bmatch r38_1 (K (Go.Value.bool Bool.false) σ)
  (Go.AI.ALoop (Go.AI.fl Go.Proofs.Tryz.prog Go.AI.hintsS T (17 : Nat) [Bool.true, Bool.true, Bool.true, Bool.false, Bool.true, Bool.false] [] K)
  [((0 : Nat), Option.some (Go.Value.pointer (Option.some (Go.Addr.mk s (0 : Nat) Option.none)))), ((1 : Nat), Option.some (Go.Value.pointer (Option.some (Go.Addr.mk w (0 : Nat) Option.none)))),
  ((5 : Nat), Option.some (Go.Value.slice namesa namesn namese)), ((6 : Nat), Option.some (Go.Value.int Go.IntKind.i64 (0 : Int)))]
  σ) := by
  intros
  kernel_rfl

theorem s17l : ∀ (T : Go.AI.Ct) (s w : Nat) (namesa : Option Go.Addr) (namesn namese : Nat) (i : Int) (X : Go.AI.Regs → Go.AI.AS → Prop) (σ : Go.AI.AS) (K : Go.Value → Go.AI.AS → Prop),
  Go.AI.fl Go.Proofs.Tryz.prog Go.AI.hintsS T (17 : Nat) [Bool.true, Bool.true, Bool.true, Bool.false, Bool.true, Bool.false] [] K X
  [((0 : Nat), Option.some (Go.Value.pointer (Option.some (Go.Addr.mk s (0 : Nat) Option.none)))), ((1 : Nat), Option.some (Go.Value.pointer (Option.some (Go.Addr.mk w (0 : Nat) Option.none)))),
  ((5 : Nat), Option.some (Go.Value.slice namesa namesn namese)), ((6 : Nat), Option.some (Go.Value.int Go.IntKind.i64 i))]
  σ =
  Go.AI.bmatch (Decidable.decide (i < (↑namesn : Int)))
  (Go.AI.req ((0 : Int) ≤ i)
  (Go.AI.req (i < (↑namesn : Int))
  (Go.AI.pSome namesa fun (a0 : Go.Addr) ↦
  Go.AI.req (namese = Go.AI.szOf Go.Proofs.Tryz.prog (9 : Nat))
  (Go.AI.ldc σ (Go.Addr.add a0 (Int.toNat i * Go.AI.szOf Go.Proofs.Tryz.prog (9 : Nat))) fun (v1 : Go.Value) ↦
  Go.AI.tS v1 fun (b2 : ByteArray) ↦
  T (21 : Nat) [Go.Value.pointer (Option.some (Go.Addr.mk s (0 : Nat) Option.none)), Go.Value.string b2] σ fun (v3 : Go.Value) (σ4 : Go.AI.AS) ↦
  Go.AI.tTup v3 fun (l5 : List Go.Value) ↦
  Go.AI.pSome l5[(0 : Nat)]? fun (u6 : Go.Value) ↦
  Go.AI.tL (1 : Nat) u6 fun (s7 : Go.AI.Sl) ↦
  Go.AI.tTup v3 fun (l8 : List Go.Value) ↦
  Go.AI.pSome l8[(1 : Nat)]? fun (u9 : Go.Value) ↦
  Go.AI.tB u9 fun (b10 : Bool) ↦
  Go.AI.req ((0 : Int) ≤ i)
  (Go.AI.req (i < (↑namesn : Int))
  (Go.AI.pSome namesa fun (a11 : Go.Addr) ↦
  Go.AI.req (namese = Go.AI.szOf Go.Proofs.Tryz.prog (9 : Nat))
  (Go.AI.ldc σ4 (Go.Addr.add a11 (Int.toNat i * Go.AI.szOf Go.Proofs.Tryz.prog (9 : Nat))) fun (v12 : Go.Value) ↦
  Go.AI.tS v12 fun (b13 : ByteArray) ↦
  Go.AI.ldc σ4 (Go.Addr.mk w ((0 : Nat) + (1 : Nat)) Option.none) fun (v14 : Go.Value) ↦
  Go.AI.tL (2 : Nat) v14 fun (s15 : Go.AI.Sl) ↦
  Go.AI.req ((0 : Int) ≤ i)
  (Go.AI.req (i < (↑(Go.AI.Sl.n s15) : Int))
  (Go.AI.pSome (Go.AI.Sl.a s15) fun (a16 : Go.Addr) ↦
  Go.AI.ldc σ4 (Go.Addr.add (Go.Addr.add a16 (Int.toNat i * Go.AI.szOf Go.Proofs.Tryz.prog (112 : Nat))) (0 : Nat)) fun (v17 : Go.Value) ↦
  Go.AI.tS v17 fun (b18 : ByteArray) ↦
  Go.AI.bmatch (!Go.AI.strEq b13 b18)
  (Go.AI.JoinS
  (Go.AI.jn Go.Proofs.Tryz.prog Go.AI.hintsS T (17 : Nat)
  [Bool.true, Bool.true, Bool.true, Bool.false, Bool.true, Bool.false, Bool.false, Bool.true, Bool.false, Bool.false, Bool.true, Bool.false] [X] K)
  [((0 : Nat), Option.some (Go.Value.pointer (Option.some (Go.Addr.mk s (0 : Nat) Option.none)))),
  ((1 : Nat), Option.some (Go.Value.pointer (Option.some (Go.Addr.mk w (0 : Nat) Option.none)))),
  ((5 : Nat), Option.some (Go.Value.slice namesa namesn namese)), ((6 : Nat), Option.some (Go.Value.int Go.IntKind.i64 i)),
  ((7 : Nat), Option.some (Go.Value.slice (Go.AI.Sl.a s7) (Go.AI.Sl.n s7) (1 : Nat))), ((83 : Nat), Option.some (Go.Value.bool Bool.true))]
  σ4)
  (Go.AI.bmatch (!b10)
  (Go.AI.JoinS
  (Go.AI.jn Go.Proofs.Tryz.prog Go.AI.hintsS T (17 : Nat)
  [Bool.true, Bool.true, Bool.true, Bool.false, Bool.true, Bool.false, Bool.false, Bool.true, Bool.false, Bool.false, Bool.true, Bool.false] [X] K)
  [((0 : Nat), Option.some (Go.Value.pointer (Option.some (Go.Addr.mk s (0 : Nat) Option.none)))),
  ((1 : Nat), Option.some (Go.Value.pointer (Option.some (Go.Addr.mk w (0 : Nat) Option.none)))),
  ((5 : Nat), Option.some (Go.Value.slice namesa namesn namese)), ((6 : Nat), Option.some (Go.Value.int Go.IntKind.i64 i)),
  ((7 : Nat), Option.some (Go.Value.slice (Go.AI.Sl.a s7) (Go.AI.Sl.n s7) (1 : Nat))), ((83 : Nat), Option.some (Go.Value.bool Bool.true))]
  σ4)
  (Go.AI.ldc σ4 (Go.Addr.mk w ((0 : Nat) + (1 : Nat)) Option.none) fun (v19 : Go.Value) ↦
  Go.AI.tL (2 : Nat) v19 fun (s20 : Go.AI.Sl) ↦
  Go.AI.req ((0 : Int) ≤ i)
  (Go.AI.req (i < (↑(Go.AI.Sl.n s20) : Int))
  (Go.AI.pSome (Go.AI.Sl.a s20) fun (a21 : Go.Addr) ↦
  Go.AI.ldc σ4
  (Go.Addr.mk (Go.Addr.block (Go.Addr.add a21 (Int.toNat i * Go.AI.szOf Go.Proofs.Tryz.prog (112 : Nat))))
  (Go.Addr.off (Go.Addr.add a21 (Int.toNat i * Go.AI.szOf Go.Proofs.Tryz.prog (112 : Nat))) + (1 : Nat)) Option.none)
  fun (v22 : Go.Value) ↦
  Go.AI.tL (1 : Nat) v22 fun (s23 : Go.AI.Sl) ↦
  T (23 : Nat) [Go.Value.slice (Go.AI.Sl.a s7) (Go.AI.Sl.n s7) (1 : Nat), Go.Value.slice (Go.AI.Sl.a s23) (Go.AI.Sl.n s23) (1 : Nat)] σ4
  fun (v24 : Go.Value) (σ25 : Go.AI.AS) ↦
  Go.AI.tB v24 fun (b26 : Bool) ↦
  Go.AI.JoinS
  (Go.AI.jn Go.Proofs.Tryz.prog Go.AI.hintsS T (17 : Nat)
  [Bool.true, Bool.true, Bool.true, Bool.false, Bool.true, Bool.false, Bool.false, Bool.true, Bool.false, Bool.false, Bool.true,
  Bool.false]
  [X] K)
  [((0 : Nat), Option.some (Go.Value.pointer (Option.some (Go.Addr.mk s (0 : Nat) Option.none)))),
  ((1 : Nat), Option.some (Go.Value.pointer (Option.some (Go.Addr.mk w (0 : Nat) Option.none)))),
  ((5 : Nat), Option.some (Go.Value.slice namesa namesn namese)), ((6 : Nat), Option.some (Go.Value.int Go.IntKind.i64 i)),
  ((7 : Nat), Option.some (Go.Value.slice (Go.AI.Sl.a s7) (Go.AI.Sl.n s7) (1 : Nat))), ((83 : Nat), Option.some (Go.Value.bool !b26))]
  σ25)))))))))))))
  (Go.AI.ALoop (Go.AI.fl Go.Proofs.Tryz.prog Go.AI.hintsS T (17 : Nat) [Bool.true, Bool.true, Bool.true, Bool.true, Bool.true, Bool.false, Bool.true, Bool.false] [] K)
  [((0 : Nat), Option.some (Go.Value.pointer (Option.some (Go.Addr.mk s (0 : Nat) Option.none)))), ((1 : Nat), Option.some (Go.Value.pointer (Option.some (Go.Addr.mk w (0 : Nat) Option.none)))),
  ((9 : Nat), Option.some (Go.Value.slice Option.none (0 : Nat) (0 : Nat))), ((10 : Nat), Option.some (Go.Value.int Go.IntKind.i64 (0 : Int)))]
  σ) := by
  intros
  kernel_rfl

theorem s17j1 : ∀ (T : Go.AI.Ct) (s w : Nat) (namesa : Option Go.Addr) (namesn namese : Nat) (i : Int) (ba : Option Go.Addr) (bn be : Nat) (r83_1 : Bool) (X : Go.AI.Regs → Go.AI.AS → Prop) (σ : Go.AI.AS)
  (K : Go.Value → Go.AI.AS → Prop),
  Go.AI.jn Go.Proofs.Tryz.prog Go.AI.hintsS T (17 : Nat) [Bool.true, Bool.true, Bool.true, Bool.false, Bool.true, Bool.false, Bool.false, Bool.true, Bool.false, Bool.false, Bool.true, Bool.false] [X] K
  [((0 : Nat), Option.some (Go.Value.pointer (Option.some (Go.Addr.mk s (0 : Nat) Option.none)))), ((1 : Nat), Option.some (Go.Value.pointer (Option.some (Go.Addr.mk w (0 : Nat) Option.none)))),
  ((5 : Nat), Option.some (Go.Value.slice namesa namesn namese)), ((6 : Nat), Option.some (Go.Value.int Go.IntKind.i64 i)), ((7 : Nat), Option.some (Go.Value.slice ba bn be)),
  ((83 : Nat), Option.some (Go.Value.bool r83_1))]
  σ =
  Go.AI.bmatch r83_1 (K (Go.Value.bool Bool.false) σ)
  (T (31 : Nat) [Go.Value.slice ba bn be] σ fun (v0 : Go.Value) (σ1 : Go.AI.AS) ↦
  X
  [((0 : Nat), Option.some (Go.Value.pointer (Option.some (Go.Addr.mk s (0 : Nat) Option.none)))), ((1 : Nat), Option.some (Go.Value.pointer (Option.some (Go.Addr.mk w (0 : Nat) Option.none)))),
  ((5 : Nat), Option.some (Go.Value.slice namesa namesn namese)), ((6 : Nat), Option.some (Go.Value.int Go.IntKind.i64 (Go.IntKind.wrap Go.IntKind.i64 (i + (1 : Int)))))]
  σ1) := by
  intros
  kernel_rfl

theorem s17l1 : ∀ (T : Go.AI.Ct) (s w : Nat) (la : Option Go.Addr) (ln le : Nat) (i : Int) (X : Go.AI.Regs → Go.AI.AS → Prop) (σ : Go.AI.AS) (K : Go.Value → Go.AI.AS → Prop),
  Go.AI.fl Go.Proofs.Tryz.prog Go.AI.hintsS T (17 : Nat) [Bool.true, Bool.true, Bool.true, Bool.true, Bool.true, Bool.false, Bool.true, Bool.false] [] K X
  [((0 : Nat), Option.some (Go.Value.pointer (Option.some (Go.Addr.mk s (0 : Nat) Option.none)))), ((1 : Nat), Option.some (Go.Value.pointer (Option.some (Go.Addr.mk w (0 : Nat) Option.none)))),
  ((9 : Nat), Option.some (Go.Value.slice la ln le)), ((10 : Nat), Option.some (Go.Value.int Go.IntKind.i64 i))]
  σ =
  Go.AI.ldc σ (Go.Addr.mk w ((0 : Nat) + (2 : Nat)) Option.none) fun (v0 : Go.Value) ↦
  Go.AI.tL (8 : Nat) v0 fun (s1 : Go.AI.Sl) ↦
  Go.AI.bmatch (Decidable.decide (i < (↑(Go.AI.Sl.n s1) : Int)))
  (Go.AI.ldc σ (Go.Addr.mk w ((0 : Nat) + (2 : Nat)) Option.none) fun (v2 : Go.Value) ↦
  Go.AI.tL (8 : Nat) v2 fun (s3 : Go.AI.Sl) ↦
  Go.AI.req ((0 : Int) ≤ i)
  (Go.AI.req (i < (↑(Go.AI.Sl.n s3) : Int))
  (Go.AI.pSome (Go.AI.Sl.a s3) fun (a4 : Go.Addr) ↦
  Go.AI.ldc σ (Go.Addr.add (Go.Addr.add a4 (Int.toNat i * Go.AI.szOf Go.Proofs.Tryz.prog (94 : Nat))) (0 : Nat)) fun (v5 : Go.Value) ↦
  Go.AI.tI Go.IntKind.i64 v5 fun (n6 : Int) ↦
  Go.AI.newAt σ (Go.AI.AObj.row Go.AI.RK.rw [Go.Value.int Go.IntKind.i64 n6]) fun (i7 : Nat) (σ8 : Go.AI.AS) ↦
  Go.AI.chk (Go.AI.nilOr la le (Go.AI.szOf Go.Proofs.Tryz.prog (3 : Nat)))
  (Go.AI.lds σ8 (Go.Addr.mk i7 (0 : Nat) Option.none) (1 : Nat) fun (l9 : List Go.Value) ↦
  Go.AI.appendTo σ8 (1 : Nat) (8 : Nat) (Go.AI.Sl.mk la ln) l9 (1 : Nat) fun (s10 : Go.AI.Sl) (σ11 : Go.AI.AS) ↦
  Go.AI.ldc σ11 (Go.Addr.mk w ((0 : Nat) + (2 : Nat)) Option.none) fun (v12 : Go.Value) ↦
  Go.AI.tL (8 : Nat) v12 fun (s13 : Go.AI.Sl) ↦
  Go.AI.req ((0 : Int) ≤ i)
  (Go.AI.req (i < (↑(Go.AI.Sl.n s13) : Int))
  (Go.AI.pSome (Go.AI.Sl.a s13) fun (a14 : Go.Addr) ↦
  Go.AI.ldc σ11 (Go.Addr.add (Go.Addr.add a14 (Int.toNat i * Go.AI.szOf Go.Proofs.Tryz.prog (94 : Nat))) (0 : Nat)) fun (v15 : Go.Value) ↦
  Go.AI.tI Go.IntKind.i64 v15 fun (n16 : Int) ↦
  T (26 : Nat) [Go.Value.pointer (Option.some (Go.Addr.mk s (0 : Nat) Option.none)), Go.Value.int Go.IntKind.i64 n16] σ11 fun (v17 : Go.Value) (σ18 : Go.AI.AS) ↦
  Go.AI.tTup v17 fun (l19 : List Go.Value) ↦
  Go.AI.pSome l19[(0 : Nat)]? fun (u20 : Go.Value) ↦
  Go.AI.tI Go.IntKind.i64 u20 fun (n21 : Int) ↦
  Go.AI.tTup v17 fun (l22 : List Go.Value) ↦
  Go.AI.pSome l22[(1 : Nat)]? fun (u23 : Go.Value) ↦
  Go.AI.tI Go.IntKind.i64 u23 fun (n24 : Int) ↦
  Go.AI.tTup v17 fun (l25 : List Go.Value) ↦
  Go.AI.pSome l25[(2 : Nat)]? fun (u26 : Go.Value) ↦
  Go.AI.tI Go.IntKind.i64 u26 fun (n27 : Int) ↦
  Go.AI.ldc σ18 (Go.Addr.mk w ((0 : Nat) + (2 : Nat)) Option.none) fun (v28 : Go.Value) ↦
  Go.AI.tL (8 : Nat) v28 fun (s29 : Go.AI.Sl) ↦
  Go.AI.req ((0 : Int) ≤ i)
  (Go.AI.req (i < (↑(Go.AI.Sl.n s29) : Int))
  (Go.AI.pSome (Go.AI.Sl.a s29) fun (a30 : Go.Addr) ↦
  Go.AI.ldc σ18 (Go.Addr.add (Go.Addr.add a30 (Int.toNat i * Go.AI.szOf Go.Proofs.Tryz.prog (94 : Nat))) (0 : Nat)) fun (v31 : Go.Value) ↦
  Go.AI.tI Go.IntKind.i64 v31 fun (n32 : Int) ↦
  T (50 : Nat) [Go.Value.pointer (Option.some (Go.Addr.mk w (0 : Nat) Option.none)), Go.Value.int Go.IntKind.i64 n32] σ18
  fun (v33 : Go.Value) (σ34 : Go.AI.AS) ↦
  Go.AI.tTup v33 fun (l35 : List Go.Value) ↦
  Go.AI.pSome l35[(0 : Nat)]? fun (u36 : Go.Value) ↦
  Go.AI.tI Go.IntKind.i64 u36 fun (n37 : Int) ↦
  Go.AI.tTup v33 fun (l38 : List Go.Value) ↦
  Go.AI.pSome l38[(1 : Nat)]? fun (u39 : Go.Value) ↦
  Go.AI.tI Go.IntKind.i64 u39 fun (n40 : Int) ↦
  Go.AI.tTup v33 fun (l41 : List Go.Value) ↦
  Go.AI.pSome l41[(2 : Nat)]? fun (u42 : Go.Value) ↦
  Go.AI.tI Go.IntKind.i64 u42 fun (n43 : Int) ↦
  Go.AI.bmatch (n21 != n37)
  (Go.AI.JoinS
  (Go.AI.jn Go.Proofs.Tryz.prog Go.AI.hintsS T (17 : Nat)
  [Bool.true, Bool.true, Bool.true, Bool.true, Bool.true, Bool.false, Bool.true, Bool.false, Bool.false, Bool.true,
  Bool.false, Bool.false, Bool.true, Bool.true, Bool.true]
  [X] K)
  [((0 : Nat), Option.some (Go.Value.pointer (Option.some (Go.Addr.mk s (0 : Nat) Option.none)))),
  ((1 : Nat), Option.some (Go.Value.pointer (Option.some (Go.Addr.mk w (0 : Nat) Option.none)))),
  ((9 : Nat), Option.some (Go.Value.slice (Go.AI.Sl.a s10) (Go.AI.Sl.n s10) (1 : Nat))),
  ((10 : Nat), Option.some (Go.Value.int Go.IntKind.i64 i)), ((147 : Nat), Option.some (Go.Value.bool Bool.true))]
  σ34)
  (Go.AI.bmatch (n24 != n40)
  (Go.AI.JoinS
  (Go.AI.jn Go.Proofs.Tryz.prog Go.AI.hintsS T (17 : Nat)
  [Bool.true, Bool.true, Bool.true, Bool.true, Bool.true, Bool.false, Bool.true, Bool.false, Bool.false,
  Bool.true, Bool.false, Bool.false, Bool.true, Bool.true, Bool.true]
  [X] K)
  [((0 : Nat), Option.some (Go.Value.pointer (Option.some (Go.Addr.mk s (0 : Nat) Option.none)))),
  ((1 : Nat), Option.some (Go.Value.pointer (Option.some (Go.Addr.mk w (0 : Nat) Option.none)))),
  ((9 : Nat), Option.some (Go.Value.slice (Go.AI.Sl.a s10) (Go.AI.Sl.n s10) (1 : Nat))),
  ((10 : Nat), Option.some (Go.Value.int Go.IntKind.i64 i)),
  ((147 : Nat), Option.some (Go.Value.bool Bool.true))]
  σ34)
  (T (9 : Nat) [Go.Value.int Go.IntKind.i64 n27] σ34 fun (v44 : Go.Value) (σ45 : Go.AI.AS) ↦
  Go.AI.tI Go.IntKind.i64 v44 fun (n46 : Int) ↦
  Go.AI.JoinS
  (Go.AI.jn Go.Proofs.Tryz.prog Go.AI.hintsS T (17 : Nat)
  [Bool.true, Bool.true, Bool.true, Bool.true, Bool.true, Bool.false, Bool.true, Bool.false, Bool.false,
  Bool.true, Bool.false, Bool.false, Bool.true, Bool.true, Bool.true]
  [X] K)
  [((0 : Nat), Option.some (Go.Value.pointer (Option.some (Go.Addr.mk s (0 : Nat) Option.none)))),
  ((1 : Nat), Option.some (Go.Value.pointer (Option.some (Go.Addr.mk w (0 : Nat) Option.none)))),
  ((9 : Nat), Option.some (Go.Value.slice (Go.AI.Sl.a s10) (Go.AI.Sl.n s10) (1 : Nat))),
  ((10 : Nat), Option.some (Go.Value.int Go.IntKind.i64 i)),
  ((147 : Nat), Option.some (Go.Value.bool (n46 != n43)))]
  σ45))))))))))
  (Go.AI.ldc σ (Go.Addr.mk w ((0 : Nat) + (3 : Nat)) Option.none) fun (v47 : Go.Value) ↦
  Go.AI.tI Go.IntKind.i64 v47 fun (n48 : Int) ↦
  T (26 : Nat) [Go.Value.pointer (Option.some (Go.Addr.mk s (0 : Nat) Option.none)), Go.Value.int Go.IntKind.i64 (Go.IntKind.wrap Go.IntKind.i64 (n48 + (1 : Int)))] σ
  fun (v49 : Go.Value) (σ50 : Go.AI.AS) ↦
  Go.AI.tTup v49 fun (l51 : List Go.Value) ↦
  Go.AI.pSome l51[(0 : Nat)]? fun (u52 : Go.Value) ↦
  Go.AI.tI Go.IntKind.i64 u52 fun (n53 : Int) ↦
  Go.AI.tTup v49 fun (l54 : List Go.Value) ↦
  Go.AI.pSome l54[(1 : Nat)]? fun (u55 : Go.Value) ↦
  Go.AI.tI Go.IntKind.i64 u55 fun (n56 : Int) ↦
  Go.AI.tTup v49 fun (l57 : List Go.Value) ↦
  Go.AI.pSome l57[(2 : Nat)]? fun (u58 : Go.Value) ↦
  Go.AI.tI Go.IntKind.i64 u58 fun (n59 : Int) ↦
  T (21 : Nat) [Go.Value.pointer (Option.some (Go.Addr.mk s (0 : Nat) Option.none)), Go.Value.string (ByteArray.mk #[])] σ50 fun (v60 : Go.Value) (σ61 : Go.AI.AS) ↦
  Go.AI.tTup v60 fun (l62 : List Go.Value) ↦
  Go.AI.pSome l62[(0 : Nat)]? fun (u63 : Go.Value) ↦
  Go.AI.tL (1 : Nat) u63 fun (s64 : Go.AI.Sl) ↦
  Go.AI.tTup v60 fun (l65 : List Go.Value) ↦
  Go.AI.pSome l65[(1 : Nat)]? fun (u66 : Go.Value) ↦
  Go.AI.tB u66 fun (b67 : Bool) ↦
  T (52 : Nat) [Go.Value.pointer (Option.some (Go.Addr.mk s (0 : Nat) Option.none))] σ61 fun (v68 : Go.Value) (σ69 : Go.AI.AS) ↦
  Go.AI.tL (1 : Nat) v68 fun (s70 : Go.AI.Sl) ↦
  T (51 : Nat) [Go.Value.slice (Go.AI.Sl.a s70) (Go.AI.Sl.n s70) (1 : Nat), Go.Value.slice la ln le] σ69 fun (v71 : Go.Value) (σ72 : Go.AI.AS) ↦
  Go.AI.tB v71 fun (b73 : Bool) ↦
  Go.AI.bmatch b73
  (T (9 : Nat) [Go.Value.int Go.IntKind.i64 n59] σ72 fun (v74 : Go.Value) (σ75 : Go.AI.AS) ↦
  Go.AI.tI Go.IntKind.i64 v74 fun (n76 : Int) ↦
  Go.AI.bmatch (n76 == (5 : Int))
  (Go.AI.JoinS
  (Go.AI.jn Go.Proofs.Tryz.prog Go.AI.hintsS T (17 : Nat) [Bool.true, Bool.true, Bool.true, Bool.true, Bool.true, Bool.true, Bool.true, Bool.true] [] K)
  [((4 : Nat), Option.some (Go.Value.bool !b67))] σ75)
  (Go.AI.JoinS
  (Go.AI.jn Go.Proofs.Tryz.prog Go.AI.hintsS T (17 : Nat) [Bool.true, Bool.true, Bool.true, Bool.true, Bool.true, Bool.true, Bool.true, Bool.true] [] K)
  [((4 : Nat), Option.some (Go.Value.bool Bool.false))] σ75))
  (Go.AI.JoinS
  (Go.AI.jn Go.Proofs.Tryz.prog Go.AI.hintsS T (17 : Nat) [Bool.true, Bool.true, Bool.true, Bool.true, Bool.true, Bool.true, Bool.true, Bool.true] [] K)
  [((4 : Nat), Option.some (Go.Value.bool Bool.false))] σ72)) := by
  intros
  kernel_rfl

theorem s17j2 : ∀ (T : Go.AI.Ct) (s w : Nat) (la : Option Go.Addr) (ln le : Nat) (i : Int) (r147_1 : Bool) (X : Go.AI.Regs → Go.AI.AS → Prop) (σ : Go.AI.AS) (K : Go.Value → Go.AI.AS → Prop),
  Go.AI.jn Go.Proofs.Tryz.prog Go.AI.hintsS T (17 : Nat)
  [Bool.true, Bool.true, Bool.true, Bool.true, Bool.true, Bool.false, Bool.true, Bool.false, Bool.false, Bool.true, Bool.false, Bool.false, Bool.true, Bool.true, Bool.true] [X] K
  [((0 : Nat), Option.some (Go.Value.pointer (Option.some (Go.Addr.mk s (0 : Nat) Option.none)))), ((1 : Nat), Option.some (Go.Value.pointer (Option.some (Go.Addr.mk w (0 : Nat) Option.none)))),
  ((9 : Nat), Option.some (Go.Value.slice la ln le)), ((10 : Nat), Option.some (Go.Value.int Go.IntKind.i64 i)), ((147 : Nat), Option.some (Go.Value.bool r147_1))]
  σ =
  Go.AI.bmatch r147_1 (K (Go.Value.bool Bool.false) σ)
  (X
  [((0 : Nat), Option.some (Go.Value.pointer (Option.some (Go.Addr.mk s (0 : Nat) Option.none)))), ((1 : Nat), Option.some (Go.Value.pointer (Option.some (Go.Addr.mk w (0 : Nat) Option.none)))),
  ((9 : Nat), Option.some (Go.Value.slice la ln le)), ((10 : Nat), Option.some (Go.Value.int Go.IntKind.i64 (Go.IntKind.wrap Go.IntKind.i64 (i + (1 : Int)))))]
  σ) := by
  intros
  kernel_rfl

theorem s17j3 : ∀ (T : Go.AI.Ct) (r4_1 : Bool) (σ : Go.AI.AS) (K : Go.Value → Go.AI.AS → Prop),
  Go.AI.jn Go.Proofs.Tryz.prog Go.AI.hintsS T (17 : Nat) [Bool.true, Bool.true, Bool.true, Bool.true, Bool.true, Bool.true, Bool.true, Bool.true] [] K [((4 : Nat), Option.some (Go.Value.bool r4_1))] σ =
  K (Go.Value.bool r4_1) σ := by
  intros
  kernel_rfl

theorem s18 : ∀ (T : Go.AI.Ct) (la : Option Go.Addr) (ln : Nat) (σ : Go.AI.AS) (K : Go.Value → Go.AI.AS → Prop),
  Go.AI.fw Go.Proofs.Tryz.prog Go.AI.hintsS T (18 : Nat) [Go.Value.slice la ln (9 : Nat)] σ K =
  T (7 : Nat) [Go.Value.int Go.IntKind.i64 (16384 : Int)] σ fun (v0 : Go.Value) (σ1 : Go.AI.AS) ↦
  Go.AI.tTup v0 fun (l2 : List Go.Value) ↦
  Go.AI.pSome l2[(0 : Nat)]? fun (u3 : Go.Value) ↦
  Go.AI.tP u3 fun (b4 : Option Go.Addr) ↦
  Go.AI.tTup v0 fun (l5 : List Go.Value) ↦
  Go.AI.pSome l5[(1 : Nat)]? fun (u6 : Go.Value) ↦
  Go.AI.tI Go.IntKind.i64 u6 fun (n7 : Int) ↦
  T (8 : Nat) [Go.Value.int Go.IntKind.i64 (16384 : Int)] σ1 fun (v8 : Go.Value) (σ9 : Go.AI.AS) ↦
  Go.AI.tTup v8 fun (l10 : List Go.Value) ↦
  Go.AI.pSome l10[(0 : Nat)]? fun (u11 : Go.Value) ↦
  Go.AI.tP u11 fun (b12 : Option Go.Addr) ↦
  Go.AI.tTup v8 fun (l13 : List Go.Value) ↦
  Go.AI.pSome l13[(1 : Nat)]? fun (u14 : Go.Value) ↦
  Go.AI.tI Go.IntKind.i64 u14 fun (n15 : Int) ↦
  T (9 : Nat) [Go.Value.int Go.IntKind.i64 n7] σ9 fun (v16 : Go.Value) (σ17 : Go.AI.AS) ↦
  Go.AI.tI Go.IntKind.i64 v16 fun (n18 : Int) ↦
  Go.AI.bmatch (Go.IntKind.wrap Go.IntKind.i64 (n18 + n15) != (0 : Int)) (K (Go.Value.tuple (Array.mk [Go.Value.pointer Option.none, Go.Value.pointer Option.none])) σ17)
  (Go.AI.ptrEq σ17 b4 Option.none fun (r19 : Bool) ↦
  Go.AI.bmatch r19 (K (Go.Value.tuple (Array.mk [Go.Value.pointer Option.none, Go.Value.pointer Option.none])) σ17)
  (Go.AI.ALoop (Go.AI.fl Go.Proofs.Tryz.prog Go.AI.hintsS T (18 : Nat) [Bool.true, Bool.true, Bool.true, Bool.true, Bool.false, Bool.true, Bool.false] [] K)
  [((0 : Nat), Option.some (Go.Value.slice la ln (9 : Nat))), ((4 : Nat), Option.some (Go.Value.pointer b4)), ((6 : Nat), Option.some (Go.Value.pointer b12)),
  ((8 : Nat), Option.some (Go.Value.int Go.IntKind.i64 (0 : Int)))]
  σ17)) := by
  intros
  kernel_rfl

theorem s18l : ∀ (T : Go.AI.Ct) (la : Option Go.Addr) (ln le s w : Nat) (i : Int) (X : Go.AI.Regs → Go.AI.AS → Prop) (σ : Go.AI.AS) (K : Go.Value → Go.AI.AS → Prop),
  Go.AI.fl Go.Proofs.Tryz.prog Go.AI.hintsS T (18 : Nat) [Bool.true, Bool.true, Bool.true, Bool.true, Bool.false, Bool.true, Bool.false] [] K X
  [((0 : Nat), Option.some (Go.Value.slice la ln le)), ((4 : Nat), Option.some (Go.Value.pointer (Option.some (Go.Addr.mk s (0 : Nat) Option.none)))),
  ((6 : Nat), Option.some (Go.Value.pointer (Option.some (Go.Addr.mk w (0 : Nat) Option.none)))), ((8 : Nat), Option.some (Go.Value.int Go.IntKind.i64 i))]
  σ =
  Go.AI.bmatch (Decidable.decide (i < (↑ln : Int)))
  (Go.AI.req ((0 : Int) ≤ i)
  (Go.AI.req (i < (↑ln : Int))
  (Go.AI.pSome la fun (a0 : Go.Addr) ↦
  Go.AI.req (le = Go.AI.szOf Go.Proofs.Tryz.prog (26 : Nat))
  (Go.AI.lds σ (Go.Addr.add a0 (Int.toNat i * Go.AI.szOf Go.Proofs.Tryz.prog (26 : Nat))) (9 : Nat) fun (l1 : List Go.Value) ↦
  Go.AI.tCons l1 fun (v2 : Go.Value) (l3 : List Go.Value) ↦
  Go.AI.tI Go.IntKind.i64 v2 fun (n4 : Int) ↦
  Go.AI.tCons l3 fun (v5 : Go.Value) (l6 : List Go.Value) ↦
  Go.AI.tS v5 fun (b7 : ByteArray) ↦
  Go.AI.tCons l6 fun (v8 : Go.Value) (l9 : List Go.Value) ↦
  Go.AI.tL (1 : Nat) v8 fun (s10 : Go.AI.Sl) ↦
  Go.AI.tCons l9 fun (v11 : Go.Value) (l12 : List Go.Value) ↦
  Go.AI.tL (1 : Nat) v11 fun (s13 : Go.AI.Sl) ↦
  Go.AI.tCons l12 fun (v14 : Go.Value) (l15 : List Go.Value) ↦
  Go.AI.tI Go.IntKind.i64 v14 fun (n16 : Int) ↦
  Go.AI.tCons l15 fun (v17 : Go.Value) (l18 : List Go.Value) ↦
  Go.AI.tI Go.IntKind.i64 v17 fun (n19 : Int) ↦
  Go.AI.tCons l18 fun (v20 : Go.Value) (l21 : List Go.Value) ↦
  Go.AI.tI Go.IntKind.i64 v20 fun (n22 : Int) ↦
  Go.AI.tCons l21 fun (v23 : Go.Value) (l24 : List Go.Value) ↦
  Go.AI.tB v23 fun (b25 : Bool) ↦
  Go.AI.tCons l24 fun (v26 : Go.Value) (l27 : List Go.Value) ↦
  Go.AI.tB v26 fun (b28 : Bool) ↦
  Go.AI.tNil l27
  (T (10 : Nat)
  [Go.Value.pointer (Option.some (Go.Addr.mk s (0 : Nat) Option.none)), Go.Value.pointer (Option.some (Go.Addr.mk w (0 : Nat) Option.none)),
  Go.Value.agg
  (Array.mk
  [Go.Value.int Go.IntKind.i64 n4, Go.Value.string b7, Go.Value.slice (Go.AI.Sl.a s10) (Go.AI.Sl.n s10) (1 : Nat),
  Go.Value.slice (Go.AI.Sl.a s13) (Go.AI.Sl.n s13) (1 : Nat), Go.Value.int Go.IntKind.i64 n16, Go.Value.int Go.IntKind.i64 n19,
  Go.Value.int Go.IntKind.i64 n22, Go.Value.bool b25, Go.Value.bool b28])]
  σ fun (v29 : Go.Value) (σ30 : Go.AI.AS) ↦
  Go.AI.tB v29 fun (b31 : Bool) ↦
  Go.AI.bmatch (!b31) (K (Go.Value.tuple (Array.mk [Go.Value.pointer Option.none, Go.Value.pointer Option.none])) σ30)
  (X
  [((0 : Nat), Option.some (Go.Value.slice la ln le)), ((4 : Nat), Option.some (Go.Value.pointer (Option.some (Go.Addr.mk s (0 : Nat) Option.none)))),
  ((6 : Nat), Option.some (Go.Value.pointer (Option.some (Go.Addr.mk w (0 : Nat) Option.none)))),
  ((8 : Nat), Option.some (Go.Value.int Go.IntKind.i64 (Go.IntKind.wrap Go.IntKind.i64 (i + (1 : Int)))))]
  σ30))))))
  (K (Go.Value.tuple (Array.mk [Go.Value.pointer (Option.some (Go.Addr.mk s (0 : Nat) Option.none)), Go.Value.pointer (Option.some (Go.Addr.mk w (0 : Nat) Option.none))])) σ) := by
  intros
  kernel_rfl

theorem s25 : ∀ (T : Go.AI.Ct) (s w : Nat) (n : Int) (σ : Go.AI.AS) (K : Go.Value → Go.AI.AS → Prop),
  Go.AI.fw Go.Proofs.Tryz.prog Go.AI.hintsS T (25 : Nat)
  [Go.Value.pointer (Option.some (Go.Addr.mk s (0 : Nat) Option.none)), Go.Value.pointer (Option.some (Go.Addr.mk w (0 : Nat) Option.none)), Go.Value.int Go.IntKind.i64 n] σ K =
  Go.AI.put1 σ (Go.Addr.mk w ((0 : Nat) + (3 : Nat)) Option.none) (Go.Value.int Go.IntKind.i64 n) fun (σ0 : Go.AI.AS) ↦
  T (17 : Nat) [Go.Value.pointer (Option.some (Go.Addr.mk s (0 : Nat) Option.none)), Go.Value.pointer (Option.some (Go.Addr.mk w (0 : Nat) Option.none))] σ0 fun (v1 : Go.Value) (σ2 : Go.AI.AS) ↦
  Go.AI.tB v1 fun (b3 : Bool) ↦ K (Go.Value.bool b3) σ2 := by
  intros
  kernel_rfl

end Go.AI
end
section
/- The conditions ahead of the calls of the program's functions, reckoned as far as they go (equations that the kernel checks); no condition. -/
set_option maxRecDepth 1000000
set_option linter.unusedVariables false
namespace Go.AI
open Go.Proofs
theorem s3 : ∀ (T : Go.AI.Ct) (most : Int) (la : Option Go.Addr) (ln : Nat) (oneKind : Int) (oneName : ByteArray) (oneBa : Option Go.Addr) (oneBn oneBe : Nat) (oneLa : Option Go.Addr) (oneLn oneLe : Nat)
  (oneN oneA oneMode : Int) (oneWide oneNear : Bool) (σ : Go.AI.AS) (K : Go.Value → Go.AI.AS → Prop),
  Go.AI.fw Go.Proofs.Tryz.prog Go.AI.hintsS T (3 : Nat)
  [Go.Value.int Go.IntKind.i64 most, Go.Value.slice la ln (9 : Nat),
  Go.Value.agg
  (Array.mk
  [Go.Value.int Go.IntKind.i64 oneKind, Go.Value.string oneName, Go.Value.slice oneBa oneBn oneBe, Go.Value.slice oneLa oneLn oneLe, Go.Value.int Go.IntKind.i64 oneN,
  Go.Value.int Go.IntKind.i64 oneA, Go.Value.int Go.IntKind.i64 oneMode, Go.Value.bool oneWide, Go.Value.bool oneNear])]
  σ K =
  Go.AI.newAt σ
  (Go.AI.AObj.row Go.AI.RK.plain
  [Go.Value.int Go.IntKind.i64 oneKind, Go.Value.string oneName, Go.Value.slice oneBa oneBn oneBe, Go.Value.slice oneLa oneLn oneLe, Go.Value.int Go.IntKind.i64 oneN,
  Go.Value.int Go.IntKind.i64 oneA, Go.Value.int Go.IntKind.i64 oneMode, Go.Value.bool oneWide, Go.Value.bool oneNear])
  fun (i0 : Nat) (σ1 : Go.AI.AS) ↦
  T (5 : Nat) [Go.Value.slice la ln (9 : Nat)] σ1 fun (v2 : Go.Value) (σ3 : Go.AI.AS) ↦
  Go.AI.tB v2 fun (b4 : Bool) ↦
  Go.AI.bmatch b4 (T (6 : Nat) [] σ3 fun (v5 : Go.Value) (σ6 : Go.AI.AS) ↦ Go.AI.tB v5 fun (b7 : Bool) ↦ K (Go.Value.bool b7) σ6)
  (Go.AI.ldc σ3 (Go.Addr.mk i0 ((0 : Nat) + (2 : Nat)) Option.none) fun (v8 : Go.Value) ↦
  Go.AI.tL (1 : Nat) v8 fun (s9 : Go.AI.Sl) ↦
  Go.AI.ldc σ3 (Go.Addr.mk i0 ((0 : Nat) + (3 : Nat)) Option.none) fun (v10 : Go.Value) ↦
  Go.AI.tL (1 : Nat) v10 fun (s11 : Go.AI.Sl) ↦
  Go.AI.bmatch (Decidable.decide (Go.IntKind.wrap Go.IntKind.i64 ((↑(Go.AI.Sl.n s9) : Int) + (↑(Go.AI.Sl.n s11) : Int)) > (4096 : Int)))
  (T (6 : Nat) [] σ3 fun (v12 : Go.Value) (σ13 : Go.AI.AS) ↦ Go.AI.tB v12 fun (b14 : Bool) ↦ K (Go.Value.bool b14) σ13)
  (Go.AI.bmatch (Decidable.decide (Int.tmod most (200 : Int) < (0 : Int)))
  (Go.AI.JoinS (Go.AI.jn Go.Proofs.Tryz.prog Go.AI.hintsS T (3 : Nat) [Bool.true, Bool.true, Bool.true] [] K)
  [((1 : Nat), Option.some (Go.Value.slice la ln (9 : Nat))), ((5 : Nat), Option.some (Go.Value.pointer (Option.some (Go.Addr.mk i0 (0 : Nat) Option.none)))),
  ((7 : Nat), Option.some (Go.Value.int Go.IntKind.i64 (Go.IntKind.wrap Go.IntKind.i64 ((0 : Int) - Int.tmod most (200 : Int)))))]
  σ3)
  (Go.AI.JoinS (Go.AI.jn Go.Proofs.Tryz.prog Go.AI.hintsS T (3 : Nat) [Bool.true, Bool.true, Bool.true] [] K)
  [((1 : Nat), Option.some (Go.Value.slice la ln (9 : Nat))), ((5 : Nat), Option.some (Go.Value.pointer (Option.some (Go.Addr.mk i0 (0 : Nat) Option.none)))),
  ((7 : Nat), Option.some (Go.Value.int Go.IntKind.i64 (Int.tmod most (200 : Int))))]
  σ3))) := by
  intros
  kernel_rfl

theorem s3j : ∀ (T : Go.AI.Ct) (la : Option Go.Addr) (ln le one : Nat) (n : Int) (σ : Go.AI.AS) (K : Go.Value → Go.AI.AS → Prop),
  Go.AI.jn Go.Proofs.Tryz.prog Go.AI.hintsS T (3 : Nat) [Bool.true, Bool.true, Bool.true] [] K
  [((1 : Nat), Option.some (Go.Value.slice la ln le)), ((5 : Nat), Option.some (Go.Value.pointer (Option.some (Go.Addr.mk one (0 : Nat) Option.none)))),
  ((7 : Nat), Option.some (Go.Value.int Go.IntKind.i64 n))]
  σ =
  T (7 : Nat) [Go.Value.int Go.IntKind.i64 n] σ fun (v0 : Go.Value) (σ1 : Go.AI.AS) ↦
  Go.AI.tTup v0 fun (l2 : List Go.Value) ↦
  Go.AI.pSome l2[(0 : Nat)]? fun (u3 : Go.Value) ↦
  Go.AI.tP u3 fun (b4 : Option Go.Addr) ↦
  Go.AI.tTup v0 fun (l5 : List Go.Value) ↦
  Go.AI.pSome l5[(1 : Nat)]? fun (u6 : Go.Value) ↦
  Go.AI.tI Go.IntKind.i64 u6 fun (n7 : Int) ↦
  T (8 : Nat) [Go.Value.int Go.IntKind.i64 n] σ1 fun (v8 : Go.Value) (σ9 : Go.AI.AS) ↦
  Go.AI.tTup v8 fun (l10 : List Go.Value) ↦
  Go.AI.pSome l10[(0 : Nat)]? fun (u11 : Go.Value) ↦
  Go.AI.tP u11 fun (b12 : Option Go.Addr) ↦
  Go.AI.tTup v8 fun (l13 : List Go.Value) ↦
  Go.AI.pSome l13[(1 : Nat)]? fun (u14 : Go.Value) ↦
  Go.AI.tI Go.IntKind.i64 u14 fun (n15 : Int) ↦
  T (9 : Nat) [Go.Value.int Go.IntKind.i64 n7] σ9 fun (v16 : Go.Value) (σ17 : Go.AI.AS) ↦
  Go.AI.tI Go.IntKind.i64 v16 fun (n18 : Int) ↦
  Go.AI.bmatch (Go.IntKind.wrap Go.IntKind.i64 (n18 + n15) != (0 : Int)) (K (Go.Value.bool Bool.false) σ17)
  (Go.AI.ptrEq σ17 b4 Option.none fun (r19 : Bool) ↦
  Go.AI.bmatch r19 (K (Go.Value.bool Bool.false) σ17)
  (Go.AI.ALoop
  (Go.AI.fl Go.Proofs.Tryz.prog Go.AI.hintsS T (3 : Nat) [Bool.true, Bool.true, Bool.true, Bool.true, Bool.true, Bool.true, Bool.true, Bool.false, Bool.true, Bool.false] []
  K)
  [((1 : Nat), Option.some (Go.Value.slice la ln le)), ((5 : Nat), Option.some (Go.Value.pointer (Option.some (Go.Addr.mk one (0 : Nat) Option.none)))),
  ((7 : Nat), Option.some (Go.Value.int Go.IntKind.i64 n)), ((8 : Nat), Option.some (Go.Value.pointer b4)), ((10 : Nat), Option.some (Go.Value.pointer b12)),
  ((12 : Nat), Option.some (Go.Value.int Go.IntKind.i64 (0 : Int)))]
  σ17)) := by
  intros
  kernel_rfl

theorem s3l : ∀ (T : Go.AI.Ct) (la : Option Go.Addr) (ln le one : Nat) (n : Int) (s w : Nat) (i : Int) (X : Go.AI.Regs → Go.AI.AS → Prop) (σ : Go.AI.AS) (K : Go.Value → Go.AI.AS → Prop),
  Go.AI.fl Go.Proofs.Tryz.prog Go.AI.hintsS T (3 : Nat) [Bool.true, Bool.true, Bool.true, Bool.true, Bool.true, Bool.true, Bool.true, Bool.false, Bool.true, Bool.false] [] K X
  [((1 : Nat), Option.some (Go.Value.slice la ln le)), ((5 : Nat), Option.some (Go.Value.pointer (Option.some (Go.Addr.mk one (0 : Nat) Option.none)))),
  ((7 : Nat), Option.some (Go.Value.int Go.IntKind.i64 n)), ((8 : Nat), Option.some (Go.Value.pointer (Option.some (Go.Addr.mk s (0 : Nat) Option.none)))),
  ((10 : Nat), Option.some (Go.Value.pointer (Option.some (Go.Addr.mk w (0 : Nat) Option.none)))), ((12 : Nat), Option.some (Go.Value.int Go.IntKind.i64 i))]
  σ =
  Go.AI.bmatch (Decidable.decide (i < (↑ln : Int)))
  (Go.AI.req ((0 : Int) ≤ i)
  (Go.AI.req (i < (↑ln : Int))
  (Go.AI.pSome la fun (a0 : Go.Addr) ↦
  Go.AI.req (le = Go.AI.szOf Go.Proofs.Tryz.prog (26 : Nat))
  (Go.AI.lds σ (Go.Addr.add a0 (Int.toNat i * Go.AI.szOf Go.Proofs.Tryz.prog (26 : Nat))) (9 : Nat) fun (l1 : List Go.Value) ↦
  Go.AI.tCons l1 fun (v2 : Go.Value) (l3 : List Go.Value) ↦
  Go.AI.tI Go.IntKind.i64 v2 fun (n4 : Int) ↦
  Go.AI.tCons l3 fun (v5 : Go.Value) (l6 : List Go.Value) ↦
  Go.AI.tS v5 fun (b7 : ByteArray) ↦
  Go.AI.tCons l6 fun (v8 : Go.Value) (l9 : List Go.Value) ↦
  Go.AI.tL (1 : Nat) v8 fun (s10 : Go.AI.Sl) ↦
  Go.AI.tCons l9 fun (v11 : Go.Value) (l12 : List Go.Value) ↦
  Go.AI.tL (1 : Nat) v11 fun (s13 : Go.AI.Sl) ↦
  Go.AI.tCons l12 fun (v14 : Go.Value) (l15 : List Go.Value) ↦
  Go.AI.tI Go.IntKind.i64 v14 fun (n16 : Int) ↦
  Go.AI.tCons l15 fun (v17 : Go.Value) (l18 : List Go.Value) ↦
  Go.AI.tI Go.IntKind.i64 v17 fun (n19 : Int) ↦
  Go.AI.tCons l18 fun (v20 : Go.Value) (l21 : List Go.Value) ↦
  Go.AI.tI Go.IntKind.i64 v20 fun (n22 : Int) ↦
  Go.AI.tCons l21 fun (v23 : Go.Value) (l24 : List Go.Value) ↦
  Go.AI.tB v23 fun (b25 : Bool) ↦
  Go.AI.tCons l24 fun (v26 : Go.Value) (l27 : List Go.Value) ↦
  Go.AI.tB v26 fun (b28 : Bool) ↦
  Go.AI.tNil l27
  (T (10 : Nat)
  [Go.Value.pointer (Option.some (Go.Addr.mk s (0 : Nat) Option.none)), Go.Value.pointer (Option.some (Go.Addr.mk w (0 : Nat) Option.none)),
  Go.Value.agg
  (Array.mk
  [Go.Value.int Go.IntKind.i64 n4, Go.Value.string b7, Go.Value.slice (Go.AI.Sl.a s10) (Go.AI.Sl.n s10) (1 : Nat),
  Go.Value.slice (Go.AI.Sl.a s13) (Go.AI.Sl.n s13) (1 : Nat), Go.Value.int Go.IntKind.i64 n16, Go.Value.int Go.IntKind.i64 n19,
  Go.Value.int Go.IntKind.i64 n22, Go.Value.bool b25, Go.Value.bool b28])]
  σ fun (v29 : Go.Value) (σ30 : Go.AI.AS) ↦
  Go.AI.tB v29 fun (b31 : Bool) ↦
  Go.AI.bmatch (!b31) (K (Go.Value.bool Bool.false) σ30)
  (T (11 : Nat) [Go.Value.pointer (Option.some (Go.Addr.mk s (0 : Nat) Option.none))] σ30 fun (v32 : Go.Value) (σ33 : Go.AI.AS) ↦
  Go.AI.tI Go.IntKind.i64 v32 fun (n34 : Int) ↦
  Go.AI.bmatch (Decidable.decide (n34 > n)) (K (Go.Value.bool Bool.false) σ33)
  (X
  [((1 : Nat), Option.some (Go.Value.slice la ln le)),
  ((5 : Nat), Option.some (Go.Value.pointer (Option.some (Go.Addr.mk one (0 : Nat) Option.none)))),
  ((7 : Nat), Option.some (Go.Value.int Go.IntKind.i64 n)),
  ((8 : Nat), Option.some (Go.Value.pointer (Option.some (Go.Addr.mk s (0 : Nat) Option.none)))),
  ((10 : Nat), Option.some (Go.Value.pointer (Option.some (Go.Addr.mk w (0 : Nat) Option.none)))),
  ((12 : Nat), Option.some (Go.Value.int Go.IntKind.i64 (Go.IntKind.wrap Go.IntKind.i64 (i + (1 : Int)))))]
  σ33)))))))
  (Go.AI.lds σ (Go.Addr.mk one (0 : Nat) Option.none) (9 : Nat) fun (l35 : List Go.Value) ↦
  Go.AI.tCons l35 fun (v36 : Go.Value) (l37 : List Go.Value) ↦
  Go.AI.tI Go.IntKind.i64 v36 fun (n38 : Int) ↦
  Go.AI.tCons l37 fun (v39 : Go.Value) (l40 : List Go.Value) ↦
  Go.AI.tS v39 fun (b41 : ByteArray) ↦
  Go.AI.tCons l40 fun (v42 : Go.Value) (l43 : List Go.Value) ↦
  Go.AI.tL (1 : Nat) v42 fun (s44 : Go.AI.Sl) ↦
  Go.AI.tCons l43 fun (v45 : Go.Value) (l46 : List Go.Value) ↦
  Go.AI.tL (1 : Nat) v45 fun (s47 : Go.AI.Sl) ↦
  Go.AI.tCons l46 fun (v48 : Go.Value) (l49 : List Go.Value) ↦
  Go.AI.tI Go.IntKind.i64 v48 fun (n50 : Int) ↦
  Go.AI.tCons l49 fun (v51 : Go.Value) (l52 : List Go.Value) ↦
  Go.AI.tI Go.IntKind.i64 v51 fun (n53 : Int) ↦
  Go.AI.tCons l52 fun (v54 : Go.Value) (l55 : List Go.Value) ↦
  Go.AI.tI Go.IntKind.i64 v54 fun (n56 : Int) ↦
  Go.AI.tCons l55 fun (v57 : Go.Value) (l58 : List Go.Value) ↦
  Go.AI.tB v57 fun (b59 : Bool) ↦
  Go.AI.tCons l58 fun (v60 : Go.Value) (l61 : List Go.Value) ↦
  Go.AI.tB v60 fun (b62 : Bool) ↦
  Go.AI.tNil l61
  (T (12 : Nat)
  [Go.Value.pointer (Option.some (Go.Addr.mk w (0 : Nat) Option.none)),
  Go.Value.agg
  (Array.mk
  [Go.Value.int Go.IntKind.i64 n38, Go.Value.string b41, Go.Value.slice (Go.AI.Sl.a s44) (Go.AI.Sl.n s44) (1 : Nat),
  Go.Value.slice (Go.AI.Sl.a s47) (Go.AI.Sl.n s47) (1 : Nat), Go.Value.int Go.IntKind.i64 n50, Go.Value.int Go.IntKind.i64 n53, Go.Value.int Go.IntKind.i64 n56,
  Go.Value.bool b59, Go.Value.bool b62])]
  σ fun (v63 : Go.Value) (σ64 : Go.AI.AS) ↦
  Go.AI.tI Go.IntKind.i64 v63 fun (n65 : Int) ↦
  Go.AI.ldc σ64 (Go.Addr.mk one (0 : Nat) Option.none) fun (v66 : Go.Value) ↦
  Go.AI.tI Go.IntKind.i64 v66 fun (n67 : Int) ↦
  Go.AI.bmatch (Int.tmod n67 (4 : Int) == (0 : Int))
  (Go.AI.ldc σ64 (Go.Addr.mk one ((0 : Nat) + (1 : Nat)) Option.none) fun (v68 : Go.Value) ↦
  Go.AI.tS v68 fun (b69 : ByteArray) ↦
  Go.AI.ldc σ64 (Go.Addr.mk one ((0 : Nat) + (2 : Nat)) Option.none) fun (v70 : Go.Value) ↦
  Go.AI.tL (1 : Nat) v70 fun (s71 : Go.AI.Sl) ↦
  T (13 : Nat)
  [Go.Value.pointer (Option.some (Go.Addr.mk s (0 : Nat) Option.none)), Go.Value.string b69, Go.Value.slice (Go.AI.Sl.a s71) (Go.AI.Sl.n s71) (1 : Nat)]
  σ64 fun (v72 : Go.Value) (σ73 : Go.AI.AS) ↦
  Go.AI.tI Go.IntKind.i64 v72 fun (n74 : Int) ↦
  T (9 : Nat) [Go.Value.int Go.IntKind.i64 n74] σ73 fun (v75 : Go.Value) (σ76 : Go.AI.AS) ↦
  Go.AI.tI Go.IntKind.i64 v75 fun (n77 : Int) ↦
  Go.AI.JoinS
  (Go.AI.jn Go.Proofs.Tryz.prog Go.AI.hintsS T (3 : Nat)
  [Bool.true, Bool.true, Bool.true, Bool.true, Bool.true, Bool.true, Bool.true, Bool.true, Bool.true, Bool.true] [] K)
  [((7 : Nat), Option.some (Go.Value.int Go.IntKind.i64 n)),
  ((8 : Nat), Option.some (Go.Value.pointer (Option.some (Go.Addr.mk s (0 : Nat) Option.none)))),
  ((10 : Nat), Option.some (Go.Value.pointer (Option.some (Go.Addr.mk w (0 : Nat) Option.none)))),
  ((14 : Nat), Option.some (Go.Value.bool (n77 != (0 : Int))))]
  σ76)
  (Go.AI.bmatch (Int.tmod n67 (4 : Int) == (1 : Int))
  (Go.AI.ldc σ64 (Go.Addr.mk one ((0 : Nat) + (3 : Nat)) Option.none) fun (v78 : Go.Value) ↦
  Go.AI.tL (1 : Nat) v78 fun (s79 : Go.AI.Sl) ↦
  T (14 : Nat)
  [Go.Value.pointer (Option.some (Go.Addr.mk s (0 : Nat) Option.none)), Go.Value.int Go.IntKind.i64 n65,
  Go.Value.slice (Go.AI.Sl.a s79) (Go.AI.Sl.n s79) (1 : Nat)]
  σ64 fun (v80 : Go.Value) (σ81 : Go.AI.AS) ↦
  Go.AI.tI Go.IntKind.i64 v80 fun (n82 : Int) ↦
  T (9 : Nat) [Go.Value.int Go.IntKind.i64 n82] σ81 fun (v83 : Go.Value) (σ84 : Go.AI.AS) ↦
  Go.AI.tI Go.IntKind.i64 v83 fun (n85 : Int) ↦
  Go.AI.JoinS
  (Go.AI.jn Go.Proofs.Tryz.prog Go.AI.hintsS T (3 : Nat)
  [Bool.true, Bool.true, Bool.true, Bool.true, Bool.true, Bool.true, Bool.true, Bool.true, Bool.true, Bool.true] [] K)
  [((7 : Nat), Option.some (Go.Value.int Go.IntKind.i64 n)),
  ((8 : Nat), Option.some (Go.Value.pointer (Option.some (Go.Addr.mk s (0 : Nat) Option.none)))),
  ((10 : Nat), Option.some (Go.Value.pointer (Option.some (Go.Addr.mk w (0 : Nat) Option.none)))),
  ((14 : Nat), Option.some (Go.Value.bool (n85 != (0 : Int))))]
  σ84)
  (Go.AI.bmatch (Int.tmod n67 (4 : Int) == (2 : Int))
  (Go.AI.ldc σ64 (Go.Addr.mk one ((0 : Nat) + (1 : Nat)) Option.none) fun (v86 : Go.Value) ↦
  Go.AI.tS v86 fun (b87 : ByteArray) ↦
  Go.AI.ldc σ64 (Go.Addr.mk one ((0 : Nat) + (6 : Nat)) Option.none) fun (v88 : Go.Value) ↦
  Go.AI.tI Go.IntKind.i64 v88 fun (n89 : Int) ↦
  Go.AI.ldc σ64 (Go.Addr.mk one ((0 : Nat) + (7 : Nat)) Option.none) fun (v90 : Go.Value) ↦
  Go.AI.tB v90 fun (b91 : Bool) ↦
  T (15 : Nat)
  [Go.Value.pointer (Option.some (Go.Addr.mk s (0 : Nat) Option.none)), Go.Value.string b87, Go.Value.int Go.IntKind.i64 n89, Go.Value.bool b91]
  σ64 fun (v92 : Go.Value) (σ93 : Go.AI.AS) ↦
  Go.AI.tTup v92 fun (l94 : List Go.Value) ↦
  Go.AI.pSome l94[(0 : Nat)]? fun (u95 : Go.Value) ↦
  Go.AI.tI Go.IntKind.i64 u95 fun (n96 : Int) ↦
  Go.AI.tTup v92 fun (l97 : List Go.Value) ↦
  Go.AI.pSome l97[(1 : Nat)]? fun (u98 : Go.Value) ↦
  Go.AI.tI Go.IntKind.i64 u98 fun (n99 : Int) ↦
  T (9 : Nat) [Go.Value.int Go.IntKind.i64 n99] σ93 fun (v100 : Go.Value) (σ101 : Go.AI.AS) ↦
  Go.AI.tI Go.IntKind.i64 v100 fun (n102 : Int) ↦
  Go.AI.JoinS
  (Go.AI.jn Go.Proofs.Tryz.prog Go.AI.hintsS T (3 : Nat)
  [Bool.true, Bool.true, Bool.true, Bool.true, Bool.true, Bool.true, Bool.true, Bool.true, Bool.true, Bool.true] [] K)
  [((7 : Nat), Option.some (Go.Value.int Go.IntKind.i64 n)),
  ((8 : Nat), Option.some (Go.Value.pointer (Option.some (Go.Addr.mk s (0 : Nat) Option.none)))),
  ((10 : Nat), Option.some (Go.Value.pointer (Option.some (Go.Addr.mk w (0 : Nat) Option.none)))),
  ((14 : Nat), Option.some (Go.Value.bool (n102 != (0 : Int))))]
  σ101)
  (Go.AI.ldc σ64 (Go.Addr.mk one ((0 : Nat) + (5 : Nat)) Option.none) fun (v103 : Go.Value) ↦
  Go.AI.tI Go.IntKind.i64 v103 fun (n104 : Int) ↦
  Go.AI.ldc σ64 (Go.Addr.mk one ((0 : Nat) + (6 : Nat)) Option.none) fun (v105 : Go.Value) ↦
  Go.AI.tI Go.IntKind.i64 v105 fun (n106 : Int) ↦
  T (16 : Nat)
  [Go.Value.pointer (Option.some (Go.Addr.mk s (0 : Nat) Option.none)), Go.Value.int Go.IntKind.i64 n65, Go.Value.int Go.IntKind.i64 n104,
  Go.Value.int Go.IntKind.i64 n106]
  σ64 fun (v107 : Go.Value) (σ108 : Go.AI.AS) ↦
  Go.AI.tI Go.IntKind.i64 v107 fun (n109 : Int) ↦
  T (9 : Nat) [Go.Value.int Go.IntKind.i64 n109] σ108 fun (v110 : Go.Value) (σ111 : Go.AI.AS) ↦
  Go.AI.tI Go.IntKind.i64 v110 fun (n112 : Int) ↦
  Go.AI.JoinS
  (Go.AI.jn Go.Proofs.Tryz.prog Go.AI.hintsS T (3 : Nat)
  [Bool.true, Bool.true, Bool.true, Bool.true, Bool.true, Bool.true, Bool.true, Bool.true, Bool.true, Bool.true] [] K)
  [((7 : Nat), Option.some (Go.Value.int Go.IntKind.i64 n)),
  ((8 : Nat), Option.some (Go.Value.pointer (Option.some (Go.Addr.mk s (0 : Nat) Option.none)))),
  ((10 : Nat), Option.some (Go.Value.pointer (Option.some (Go.Addr.mk w (0 : Nat) Option.none)))),
  ((14 : Nat), Option.some (Go.Value.bool (n112 != (0 : Int))))]
  σ111))))) := by
  intros
  kernel_rfl

theorem s3j1 : ∀ (T : Go.AI.Ct) (n : Int) (s w : Nat) (bad : Bool) (σ : Go.AI.AS) (K : Go.Value → Go.AI.AS → Prop),
  Go.AI.jn Go.Proofs.Tryz.prog Go.AI.hintsS T (3 : Nat) [Bool.true, Bool.true, Bool.true, Bool.true, Bool.true, Bool.true, Bool.true, Bool.true, Bool.true, Bool.true] [] K
  [((7 : Nat), Option.some (Go.Value.int Go.IntKind.i64 n)), ((8 : Nat), Option.some (Go.Value.pointer (Option.some (Go.Addr.mk s (0 : Nat) Option.none)))),
  ((10 : Nat), Option.some (Go.Value.pointer (Option.some (Go.Addr.mk w (0 : Nat) Option.none)))), ((14 : Nat), Option.some (Go.Value.bool bad))]
  σ =
  T (11 : Nat) [Go.Value.pointer (Option.some (Go.Addr.mk s (0 : Nat) Option.none))] σ fun (v0 : Go.Value) (σ1 : Go.AI.AS) ↦
  Go.AI.tI Go.IntKind.i64 v0 fun (n2 : Int) ↦
  Go.AI.bmatch (Decidable.decide (n2 ≤ n))
  (Go.AI.bmatch (!bad) (T (6 : Nat) [] σ1 fun (v3 : Go.Value) (σ4 : Go.AI.AS) ↦ Go.AI.tB v3 fun (b5 : Bool) ↦ K (Go.Value.bool b5) σ4)
  (T (17 : Nat) [Go.Value.pointer (Option.some (Go.Addr.mk s (0 : Nat) Option.none)), Go.Value.pointer (Option.some (Go.Addr.mk w (0 : Nat) Option.none))] σ1 fun (v6 : Go.Value) (σ7 : Go.AI.AS) ↦
  Go.AI.tB v6 fun (b8 : Bool) ↦ Go.AI.bmatch b8 (T (6 : Nat) [] σ7 fun (v9 : Go.Value) (σ10 : Go.AI.AS) ↦ Go.AI.tB v9 fun (b11 : Bool) ↦ K (Go.Value.bool b11) σ10) (K (Go.Value.bool Bool.false) σ7)))
  (K (Go.Value.bool Bool.false) σ1) := by
  intros
  kernel_rfl

theorem s4 : ∀ (T : Go.AI.Ct) (la : Option Go.Addr) (ln : Nat) (name : ByteArray) (ba : Option Go.Addr) (bn : Nat) (σ : Go.AI.AS) (K : Go.Value → Go.AI.AS → Prop),
  Go.AI.fw Go.Proofs.Tryz.prog Go.AI.hintsS T (4 : Nat) [Go.Value.slice la ln (9 : Nat), Go.Value.string name, Go.Value.slice ba bn (1 : Nat)] σ K =
  T (5 : Nat) [Go.Value.slice la ln (9 : Nat)] σ fun (v0 : Go.Value) (σ1 : Go.AI.AS) ↦
  Go.AI.tB v0 fun (b2 : Bool) ↦
  Go.AI.bmatch b2 (T (6 : Nat) [] σ1 fun (v3 : Go.Value) (σ4 : Go.AI.AS) ↦ Go.AI.tB v3 fun (b5 : Bool) ↦ K (Go.Value.bool b5) σ4)
  (Go.AI.bmatch (Decidable.decide ((↑bn : Int) > (4096 : Int))) (T (6 : Nat) [] σ1 fun (v6 : Go.Value) (σ7 : Go.AI.AS) ↦ Go.AI.tB v6 fun (b8 : Bool) ↦ K (Go.Value.bool b8) σ7)
  (T (18 : Nat) [Go.Value.slice la ln (9 : Nat)] σ1 fun (v9 : Go.Value) (σ10 : Go.AI.AS) ↦
  Go.AI.tTup v9 fun (l11 : List Go.Value) ↦
  Go.AI.pSome l11[(0 : Nat)]? fun (u12 : Go.Value) ↦
  Go.AI.tP u12 fun (b13 : Option Go.Addr) ↦
  Go.AI.tTup v9 fun (l14 : List Go.Value) ↦
  Go.AI.pSome l14[(1 : Nat)]? fun (u15 : Go.Value) ↦
  Go.AI.tP u15 fun (b16 : Option Go.Addr) ↦
  Go.AI.ptrEq σ10 b13 Option.none fun (r17 : Bool) ↦
  Go.AI.bmatch r17 (K (Go.Value.bool Bool.false) σ10)
  (Go.AI.req (ByteArray.size name + ByteArray.size (ByteArray.mk #[(126 : UInt8)]) < (2 : Nat) ^ (62 : Nat))
  (Go.AI.bmatch (Decidable.decide ((↑(ByteArray.size (name ++ ByteArray.mk #[(126 : UInt8)])) : Int) > (32 : Int)))
  (T (6 : Nat) [] σ10 fun (v18 : Go.Value) (σ19 : Go.AI.AS) ↦ Go.AI.tB v18 fun (b20 : Bool) ↦ K (Go.Value.bool b20) σ19)
  (T (19 : Nat) [Go.Value.pointer b16, Go.Value.string (name ++ ByteArray.mk #[(126 : UInt8)])] σ10 fun (v21 : Go.Value) (σ22 : Go.AI.AS) ↦
  Go.AI.tI Go.IntKind.i64 v21 fun (n23 : Int) ↦
  Go.AI.bmatch (Decidable.decide (n23 ≥ (0 : Int))) (T (6 : Nat) [] σ22 fun (v24 : Go.Value) (σ25 : Go.AI.AS) ↦ Go.AI.tB v24 fun (b26 : Bool) ↦ K (Go.Value.bool b26) σ25)
  (Go.AI.pSome b16 fun (a27 : Go.Addr) ↦
  Go.AI.ldc σ22 (Go.Addr.mk (Go.Addr.block a27) (Go.Addr.off a27 + (1 : Nat)) Option.none) fun (v28 : Go.Value) ↦
  Go.AI.tL (2 : Nat) v28 fun (s29 : Go.AI.Sl) ↦
  Go.AI.bmatch ((↑(Go.AI.Sl.n s29) : Int) == (64 : Int))
  (T (6 : Nat) [] σ22 fun (v30 : Go.Value) (σ31 : Go.AI.AS) ↦ Go.AI.tB v30 fun (b32 : Bool) ↦ K (Go.Value.bool b32) σ31)
  (Go.AI.pSome b16 fun (a33 : Go.Addr) ↦
  Go.AI.ldc σ22 (Go.Addr.mk (Go.Addr.block a33) (Go.Addr.off a33 + (2 : Nat)) Option.none) fun (v34 : Go.Value) ↦
  Go.AI.tL (8 : Nat) v34 fun (s35 : Go.AI.Sl) ↦
  Go.AI.bmatch ((↑(Go.AI.Sl.n s35) : Int) == (64 : Int))
  (T (6 : Nat) [] σ22 fun (v36 : Go.Value) (σ37 : Go.AI.AS) ↦ Go.AI.tB v36 fun (b38 : Bool) ↦ K (Go.Value.bool b38) σ37)
  (T (20 : Nat) [Go.Value.pointer b16] σ22 fun (v39 : Go.Value) (σ40 : Go.AI.AS) ↦
  Go.AI.tI Go.IntKind.i64 v39 fun (n41 : Int) ↦
  Go.AI.bmatch (Decidable.decide (Go.IntKind.wrap Go.IntKind.i64 (Go.IntKind.wrap Go.IntKind.i64 (n41 + (↑bn : Int)) + (2 : Int)) > (16384 : Int)))
  (T (6 : Nat) [] σ40 fun (v42 : Go.Value) (σ43 : Go.AI.AS) ↦ Go.AI.tB v42 fun (b44 : Bool) ↦ K (Go.Value.bool b44) σ43)
  (T (13 : Nat) [Go.Value.pointer b13, Go.Value.string (name ++ ByteArray.mk #[(126 : UInt8)]), Go.Value.slice ba bn (1 : Nat)] σ40
  fun (v45 : Go.Value) (σ46 : Go.AI.AS) ↦
  Go.AI.tI Go.IntKind.i64 v45 fun (n47 : Int) ↦
  T (9 : Nat) [Go.Value.int Go.IntKind.i64 n47] σ46 fun (v48 : Go.Value) (σ49 : Go.AI.AS) ↦
  Go.AI.tI Go.IntKind.i64 v48 fun (n50 : Int) ↦
  Go.AI.bmatch (n50 != (0 : Int)) (K (Go.Value.bool Bool.false) σ49)
  (T (15 : Nat)
  [Go.Value.pointer b13, Go.Value.string (name ++ ByteArray.mk #[(126 : UInt8)]), Go.Value.int Go.IntKind.i64 (5 : Int), Go.Value.bool Bool.false]
  σ49 fun (v51 : Go.Value) (σ52 : Go.AI.AS) ↦
  Go.AI.tTup v51 fun (l53 : List Go.Value) ↦
  Go.AI.pSome l53[(0 : Nat)]? fun (u54 : Go.Value) ↦
  Go.AI.tI Go.IntKind.i64 u54 fun (n55 : Int) ↦
  Go.AI.tTup v51 fun (l56 : List Go.Value) ↦
  Go.AI.pSome l56[(1 : Nat)]? fun (u57 : Go.Value) ↦
  Go.AI.tI Go.IntKind.i64 u57 fun (n58 : Int) ↦
  T (9 : Nat) [Go.Value.int Go.IntKind.i64 n58] σ52 fun (v59 : Go.Value) (σ60 : Go.AI.AS) ↦
  Go.AI.tI Go.IntKind.i64 v59 fun (n61 : Int) ↦
  Go.AI.bmatch (n61 != (0 : Int)) (K (Go.Value.bool Bool.false) σ60)
  (Go.AI.newAt σ60 (Go.AI.AObj.row Go.AI.RK.rw [Go.Value.int Go.IntKind.u32 (1 : Int), Go.Value.int Go.IntKind.u32 (2 : Int)])
  fun (i62 : Nat) (σ63 : Go.AI.AS) ↦
  T (14 : Nat)
  [Go.Value.pointer b13, Go.Value.int Go.IntKind.i64 n55,
  Go.Value.slice (Option.some (Go.Addr.mk i62 (0 : Nat) Option.none)) (2 : Nat) (1 : Nat)]
  σ63 fun (v64 : Go.Value) (σ65 : Go.AI.AS) ↦
  Go.AI.tI Go.IntKind.i64 v64 fun (n66 : Int) ↦
  T (9 : Nat) [Go.Value.int Go.IntKind.i64 n66] σ65 fun (v67 : Go.Value) (σ68 : Go.AI.AS) ↦
  Go.AI.tI Go.IntKind.i64 v67 fun (n69 : Int) ↦
  Go.AI.bmatch (n69 != (0 : Int)) (K (Go.Value.bool Bool.false) σ68)
  (T (21 : Nat) [Go.Value.pointer b13, Go.Value.string (name ++ ByteArray.mk #[(126 : UInt8)])] σ68
  fun (v70 : Go.Value) (σ71 : Go.AI.AS) ↦
  Go.AI.tTup v70 fun (l72 : List Go.Value) ↦
  Go.AI.pSome l72[(0 : Nat)]? fun (u73 : Go.Value) ↦
  Go.AI.tL (1 : Nat) u73 fun (s74 : Go.AI.Sl) ↦
  Go.AI.tTup v70 fun (l75 : List Go.Value) ↦
  Go.AI.pSome l75[(1 : Nat)]? fun (u76 : Go.Value) ↦
  Go.AI.tB u76 fun (b77 : Bool) ↦
  T (22 : Nat) [Go.Value.pointer b13, Go.Value.int Go.IntKind.i64 n55] σ71
  fun (v78 : Go.Value) (σ79 : Go.AI.AS) ↦
  Go.AI.tTup v78 fun (l80 : List Go.Value) ↦
  Go.AI.pSome l80[(0 : Nat)]? fun (u81 : Go.Value) ↦
  Go.AI.tI Go.IntKind.u32 u81 fun (n82 : Int) ↦
  Go.AI.tTup v78 fun (l83 : List Go.Value) ↦
  Go.AI.pSome l83[(1 : Nat)]? fun (u84 : Go.Value) ↦
  Go.AI.tI Go.IntKind.u32 u84 fun (n85 : Int) ↦
  Go.AI.tTup v78 fun (l86 : List Go.Value) ↦
  Go.AI.pSome l86[(2 : Nat)]? fun (u87 : Go.Value) ↦
  Go.AI.tL (1 : Nat) u87 fun (s88 : Go.AI.Sl) ↦
  Go.AI.tTup v78 fun (l89 : List Go.Value) ↦
  Go.AI.pSome l89[(3 : Nat)]? fun (u90 : Go.Value) ↦
  Go.AI.tI Go.IntKind.i64 u90 fun (n91 : Int) ↦
  Go.AI.bmatch b77
  (Go.AI.newAt σ79 (Go.AI.AObj.row Go.AI.RK.rw [])
  fun (i92 : Nat) (σ93 : Go.AI.AS) ↦
  Go.AI.srcCells σ93 (1 : Nat)
  (Option.some (Go.Value.slice ba bn (1 : Nat)))
  fun (m94 : Nat) (new95 : List Go.Value) ↦
  Go.AI.appendTo σ93 (1 : Nat) (1 : Nat)
  (Go.AI.Sl.mk (Option.some (Go.Addr.mk i92 (0 : Nat) Option.none))
  (0 : Nat))
  new95 m94 fun (s96 : Go.AI.Sl) (σ97 : Go.AI.AS) ↦
  Go.AI.newAt σ97
  (Go.AI.AObj.row Go.AI.RK.rw
  [Go.Value.int Go.IntKind.u8 (1 : Int),
  Go.Value.int Go.IntKind.u8 (2 : Int)])
  fun (i98 : Nat) (σ99 : Go.AI.AS) ↦
  Go.AI.lds σ99 (Go.Addr.mk i98 (0 : Nat) Option.none) (2 : Nat)
  fun (l100 : List Go.Value) ↦
  Go.AI.appendTo σ99 (1 : Nat) (1 : Nat)
  (Go.AI.Sl.mk (Go.AI.Sl.a s96) (Go.AI.Sl.n s96)) l100 (2 : Nat)
  fun (s101 : Go.AI.Sl) (σ102 : Go.AI.AS) ↦
  T (23 : Nat)
  [Go.Value.slice (Go.AI.Sl.a s74) (Go.AI.Sl.n s74) (1 : Nat),
  Go.Value.slice (Go.AI.Sl.a s101) (Go.AI.Sl.n s101)
  (1 : Nat)]
  σ102 fun (v103 : Go.Value) (σ104 : Go.AI.AS) ↦
  Go.AI.tB v103 fun (b105 : Bool) ↦
  Go.AI.bmatch b105
  (T (9 : Nat) [Go.Value.int Go.IntKind.i64 n91] σ104
  fun (v106 : Go.Value) (σ107 : Go.AI.AS) ↦
  Go.AI.tI Go.IntKind.i64 v106 fun (n108 : Int) ↦
  Go.AI.bmatch (n108 == (0 : Int))
  (T (24 : Nat)
  [Go.Value.pointer b13,
  Go.Value.string
  (name ++ ByteArray.mk #[(126 : UInt8)])]
  σ107 fun (v109 : Go.Value) (σ110 : Go.AI.AS) ↦
  Go.AI.tB v109 fun (b111 : Bool) ↦
  Go.AI.bmatch b111
  (T (24 : Nat)
  [Go.Value.pointer b13,
  Go.Value.string
  (name ++
  ByteArray.mk #[(126 : UInt8)])]
  σ110
  fun (v112 : Go.Value) (σ113 : Go.AI.AS) ↦
  Go.AI.tB v112 fun (b114 : Bool) ↦
  Go.AI.bmatch (!b114)
  (T (25 : Nat)
  [Go.Value.pointer b13,
  Go.Value.pointer b16,
  Go.Value.int Go.IntKind.i64 n55]
  σ113
  fun (v115 : Go.Value)
  (σ116 : Go.AI.AS) ↦
  Go.AI.tB v115 fun (b117 : Bool) ↦
  Go.AI.bmatch b117
  (T (6 : Nat) [] σ116
  fun (v118 : Go.Value)
  (σ119 : Go.AI.AS) ↦
  Go.AI.tB v118
  fun (b120 : Bool) ↦
  K (Go.Value.bool b120)
  σ119)
  (K (Go.Value.bool Bool.false)
  σ116))
  (K (Go.Value.bool Bool.false) σ113))
  (K (Go.Value.bool Bool.false) σ110))
  (K (Go.Value.bool Bool.false) σ107))
  (K (Go.Value.bool Bool.false) σ104))
  (K (Go.Value.bool Bool.false) σ79))))))))))))) := by
  intros
  kernel_rfl

end Go.AI
end
