/- Lemmas of the abstract condition ahead of code (a part of the library that the claim's proof stands on); they hold with no condition but those that each names. -/
import Derived.Test.YtpgedoljndppdaaGreatSzSoft
import Derived.Test.YtpgedoljndppdaaGreatAIJoin
section
/- The conditions ahead of the calls of the program's functions, reckoned as far as they go (equations that the kernel checks); no condition. -/
set_option maxRecDepth 1000000
set_option linter.unusedVariables false
namespace Go.AI
open Go.Proofs
theorem s19 : ∀ (T : Go.AI.Ct) (s : Nat) (name : ByteArray) (σ : Go.AI.AS) (K : Go.Value → Go.AI.AS → Prop),
  Go.AI.fw Go.Proofs.Tryz.prog Go.AI.hintsS T (19 : Nat) [Go.Value.pointer (Option.some (Go.Addr.mk s (0 : Nat) Option.none)), Go.Value.string name] σ K =
  Go.AI.ALoop (Go.AI.fl Go.Proofs.Tryz.prog Go.AI.hintsS T (19 : Nat) [Bool.true, Bool.false, Bool.true, Bool.false] [] K)
  [((0 : Nat), Option.some (Go.Value.pointer (Option.some (Go.Addr.mk s (0 : Nat) Option.none)))), ((1 : Nat), Option.some (Go.Value.string name)),
  ((5 : Nat), Option.some (Go.Value.int Go.IntKind.i64 (0 : Int)))]
  σ := by
  intros
  kernel_rfl

theorem s19l : ∀ (T : Go.AI.Ct) (s : Nat) (name : ByteArray) (i : Int) (X : Go.AI.Regs → Go.AI.AS → Prop) (σ : Go.AI.AS) (K : Go.Value → Go.AI.AS → Prop),
  Go.AI.fl Go.Proofs.Tryz.prog Go.AI.hintsS T (19 : Nat) [Bool.true, Bool.false, Bool.true, Bool.false] [] K X
  [((0 : Nat), Option.some (Go.Value.pointer (Option.some (Go.Addr.mk s (0 : Nat) Option.none)))), ((1 : Nat), Option.some (Go.Value.string name)), ((5 : Nat), Option.some (Go.Value.int Go.IntKind.i64 i))]
  σ =
  Go.AI.ldc σ (Go.Addr.mk s ((0 : Nat) + (1 : Nat)) Option.none) fun (v0 : Go.Value) ↦
  Go.AI.tL (2 : Nat) v0 fun (s1 : Go.AI.Sl) ↦
  Go.AI.bmatch (Decidable.decide (i < (↑(Go.AI.Sl.n s1) : Int)))
  (Go.AI.ldc σ (Go.Addr.mk s ((0 : Nat) + (1 : Nat)) Option.none) fun (v2 : Go.Value) ↦
  Go.AI.tL (2 : Nat) v2 fun (s3 : Go.AI.Sl) ↦
  Go.AI.req ((0 : Int) ≤ i)
  (Go.AI.req (i < (↑(Go.AI.Sl.n s3) : Int))
  (Go.AI.pSome (Go.AI.Sl.a s3) fun (a4 : Go.Addr) ↦
  Go.AI.ldc σ (Go.Addr.add (Go.Addr.add a4 (Int.toNat i * Go.AI.szOf Go.Proofs.Tryz.prog (112 : Nat))) (0 : Nat)) fun (v5 : Go.Value) ↦
  Go.AI.tS v5 fun (b6 : ByteArray) ↦
  Go.AI.bmatch (Go.AI.strEq b6 name) (K (Go.Value.int Go.IntKind.i64 i) σ)
  (X
  [((0 : Nat), Option.some (Go.Value.pointer (Option.some (Go.Addr.mk s (0 : Nat) Option.none)))), ((1 : Nat), Option.some (Go.Value.string name)),
  ((5 : Nat), Option.some (Go.Value.int Go.IntKind.i64 (Go.IntKind.wrap Go.IntKind.i64 (i + (1 : Int)))))]
  σ))))
  (K (Go.Value.int Go.IntKind.i64 (-1 : Int)) σ) := by
  intros
  kernel_rfl

theorem s20 : ∀ (T : Go.AI.Ct) (s : Nat) (σ : Go.AI.AS) (K : Go.Value → Go.AI.AS → Prop),
  Go.AI.fw Go.Proofs.Tryz.prog Go.AI.hintsS T (20 : Nat) [Go.Value.pointer (Option.some (Go.Addr.mk s (0 : Nat) Option.none))] σ K =
  Go.AI.ALoop (Go.AI.fl Go.Proofs.Tryz.prog Go.AI.hintsS T (20 : Nat) [Bool.true, Bool.true, Bool.false, Bool.true, Bool.false] [] K)
  [((0 : Nat), Option.some (Go.Value.pointer (Option.some (Go.Addr.mk s (0 : Nat) Option.none)))), ((3 : Nat), Option.some (Go.Value.int Go.IntKind.i64 (0 : Int))),
  ((4 : Nat), Option.some (Go.Value.int Go.IntKind.i64 (0 : Int)))]
  σ := by
  intros
  kernel_rfl

theorem s20l : ∀ (T : Go.AI.Ct) (s : Nat) (n i : Int) (X : Go.AI.Regs → Go.AI.AS → Prop) (σ : Go.AI.AS) (K : Go.Value → Go.AI.AS → Prop),
  Go.AI.fl Go.Proofs.Tryz.prog Go.AI.hintsS T (20 : Nat) [Bool.true, Bool.true, Bool.false, Bool.true, Bool.false] [] K X
  [((0 : Nat), Option.some (Go.Value.pointer (Option.some (Go.Addr.mk s (0 : Nat) Option.none)))), ((3 : Nat), Option.some (Go.Value.int Go.IntKind.i64 n)),
  ((4 : Nat), Option.some (Go.Value.int Go.IntKind.i64 i))]
  σ =
  Go.AI.ldc σ (Go.Addr.mk s ((0 : Nat) + (1 : Nat)) Option.none) fun (v0 : Go.Value) ↦
  Go.AI.tL (2 : Nat) v0 fun (s1 : Go.AI.Sl) ↦
  Go.AI.bmatch (Decidable.decide (i < (↑(Go.AI.Sl.n s1) : Int)))
  (Go.AI.ldc σ (Go.Addr.mk s ((0 : Nat) + (1 : Nat)) Option.none) fun (v2 : Go.Value) ↦
  Go.AI.tL (2 : Nat) v2 fun (s3 : Go.AI.Sl) ↦
  Go.AI.req ((0 : Int) ≤ i)
  (Go.AI.req (i < (↑(Go.AI.Sl.n s3) : Int))
  (Go.AI.pSome (Go.AI.Sl.a s3) fun (a4 : Go.Addr) ↦
  Go.AI.ldc σ
  (Go.Addr.mk (Go.Addr.block (Go.Addr.add a4 (Int.toNat i * Go.AI.szOf Go.Proofs.Tryz.prog (112 : Nat))))
  (Go.Addr.off (Go.Addr.add a4 (Int.toNat i * Go.AI.szOf Go.Proofs.Tryz.prog (112 : Nat))) + (1 : Nat)) Option.none)
  fun (v5 : Go.Value) ↦
  Go.AI.tL (1 : Nat) v5 fun (s6 : Go.AI.Sl) ↦
  X
  [((0 : Nat), Option.some (Go.Value.pointer (Option.some (Go.Addr.mk s (0 : Nat) Option.none)))),
  ((3 : Nat), Option.some (Go.Value.int Go.IntKind.i64 (Go.IntKind.wrap Go.IntKind.i64 (n + (↑(Go.AI.Sl.n s6) : Int))))),
  ((4 : Nat), Option.some (Go.Value.int Go.IntKind.i64 (Go.IntKind.wrap Go.IntKind.i64 (i + (1 : Int)))))]
  σ)))
  (K (Go.Value.int Go.IntKind.i64 n) σ) := by
  intros
  kernel_rfl

theorem s57 : ∀ (T : Go.AI.Ct) (s : Nat) (name : ByteArray) (σ : Go.AI.AS) (K : Go.Value → Go.AI.AS → Prop),
  Go.AI.fw Go.Proofs.Tryz.prog Go.AI.hintsS T (57 : Nat) [Go.Value.pointer (Option.some (Go.Addr.mk s (0 : Nat) Option.none)), Go.Value.string name] σ K =
  Go.AI.ALoop (Go.AI.fl Go.Proofs.Tryz.prog Go.AI.hintsS T (57 : Nat) [Bool.true, Bool.true, Bool.false, Bool.true, Bool.false] [] K)
  [((0 : Nat), Option.some (Go.Value.pointer (Option.some (Go.Addr.mk s (0 : Nat) Option.none)))), ((1 : Nat), Option.some (Go.Value.string name)), ((6 : Nat), Option.some (Go.Value.bool Bool.false)),
  ((7 : Nat), Option.some (Go.Value.bool Bool.false)), ((8 : Nat), Option.some (Go.Value.int Go.IntKind.i64 (0 : Int)))]
  σ := by
  intros
  kernel_rfl

theorem s57l : ∀ (T : Go.AI.Ct) (s : Nat) (name : ByteArray) (r6_1 other : Bool) (i : Int) (X : Go.AI.Regs → Go.AI.AS → Prop) (σ : Go.AI.AS) (K : Go.Value → Go.AI.AS → Prop),
  Go.AI.fl Go.Proofs.Tryz.prog Go.AI.hintsS T (57 : Nat) [Bool.true, Bool.true, Bool.false, Bool.true, Bool.false] [] K X
  [((0 : Nat), Option.some (Go.Value.pointer (Option.some (Go.Addr.mk s (0 : Nat) Option.none)))), ((1 : Nat), Option.some (Go.Value.string name)), ((6 : Nat), Option.some (Go.Value.bool r6_1)),
  ((7 : Nat), Option.some (Go.Value.bool other)), ((8 : Nat), Option.some (Go.Value.int Go.IntKind.i64 i))]
  σ =
  Go.AI.ldc σ (Go.Addr.mk s ((0 : Nat) + (2 : Nat)) Option.none) fun (v0 : Go.Value) ↦
  Go.AI.tL (8 : Nat) v0 fun (s1 : Go.AI.Sl) ↦
  Go.AI.bmatch (Decidable.decide (i < (↑(Go.AI.Sl.n s1) : Int)))
  (Go.AI.ldc σ (Go.Addr.mk s ((0 : Nat) + (2 : Nat)) Option.none) fun (v2 : Go.Value) ↦
  Go.AI.tL (8 : Nat) v2 fun (s3 : Go.AI.Sl) ↦
  Go.AI.req ((0 : Int) ≤ i)
  (Go.AI.req (i < (↑(Go.AI.Sl.n s3) : Int))
  (Go.AI.pSome (Go.AI.Sl.a s3) fun (a4 : Go.Addr) ↦
  Go.AI.ldc σ
  (Go.Addr.mk (Go.Addr.block (Go.Addr.add a4 (Int.toNat i * Go.AI.szOf Go.Proofs.Tryz.prog (94 : Nat))))
  (Go.Addr.off (Go.Addr.add a4 (Int.toNat i * Go.AI.szOf Go.Proofs.Tryz.prog (94 : Nat))) + (1 : Nat)) Option.none)
  fun (v5 : Go.Value) ↦
  Go.AI.tS v5 fun (b6 : ByteArray) ↦
  Go.AI.bmatch (Go.AI.strEq b6 name)
  (Go.AI.bmatch other
  (Go.AI.JoinS (Go.AI.jn Go.Proofs.Tryz.prog Go.AI.hintsS T (57 : Nat) [Bool.true, Bool.true, Bool.false, Bool.true, Bool.false, Bool.false, Bool.true] [X] K)
  [((0 : Nat), Option.some (Go.Value.pointer (Option.some (Go.Addr.mk s (0 : Nat) Option.none)))), ((1 : Nat), Option.some (Go.Value.string name)),
  ((6 : Nat), Option.some (Go.Value.bool Bool.true)), ((7 : Nat), Option.some (Go.Value.bool Bool.true)), ((8 : Nat), Option.some (Go.Value.int Go.IntKind.i64 i))]
  σ)
  (Go.AI.ldc σ (Go.Addr.mk s ((0 : Nat) + (2 : Nat)) Option.none) fun (v7 : Go.Value) ↦
  Go.AI.tL (8 : Nat) v7 fun (s8 : Go.AI.Sl) ↦
  Go.AI.req ((0 : Int) ≤ i)
  (Go.AI.req (i < (↑(Go.AI.Sl.n s8) : Int))
  (Go.AI.pSome (Go.AI.Sl.a s8) fun (a9 : Go.Addr) ↦
  Go.AI.ldc σ
  (Go.Addr.mk (Go.Addr.block (Go.Addr.add a9 (Int.toNat i * Go.AI.szOf Go.Proofs.Tryz.prog (94 : Nat))))
  (Go.Addr.off (Go.Addr.add a9 (Int.toNat i * Go.AI.szOf Go.Proofs.Tryz.prog (94 : Nat))) + (3 : Nat)) Option.none)
  fun (v10 : Go.Value) ↦
  Go.AI.tI Go.IntKind.i64 v10 fun (n11 : Int) ↦
  Go.AI.JoinS (Go.AI.jn Go.Proofs.Tryz.prog Go.AI.hintsS T (57 : Nat) [Bool.true, Bool.true, Bool.false, Bool.true, Bool.false, Bool.false, Bool.true] [X] K)
  [((0 : Nat), Option.some (Go.Value.pointer (Option.some (Go.Addr.mk s (0 : Nat) Option.none)))), ((1 : Nat), Option.some (Go.Value.string name)),
  ((6 : Nat), Option.some (Go.Value.bool Bool.true)), ((7 : Nat), Option.some (Go.Value.bool (n11 != (2 : Int)))), ((8 : Nat), Option.some (Go.Value.int Go.IntKind.i64 i))]
  σ))))
  (Go.AI.JoinS (Go.AI.jn Go.Proofs.Tryz.prog Go.AI.hintsS T (57 : Nat) [Bool.true, Bool.true, Bool.false, Bool.true, Bool.false, Bool.false, Bool.true] [X] K)
  [((0 : Nat), Option.some (Go.Value.pointer (Option.some (Go.Addr.mk s (0 : Nat) Option.none)))), ((1 : Nat), Option.some (Go.Value.string name)),
  ((6 : Nat), Option.some (Go.Value.bool r6_1)), ((7 : Nat), Option.some (Go.Value.bool other)), ((8 : Nat), Option.some (Go.Value.int Go.IntKind.i64 i))]
  σ))))
  (K (Go.Value.tuple (Array.mk [Go.Value.bool r6_1, Go.Value.bool other])) σ) := by
  intros
  kernel_rfl

theorem s57j : ∀ (T : Go.AI.Ct) (s : Nat) (name : ByteArray) (r6_1 other : Bool) (i : Int) (X : Go.AI.Regs → Go.AI.AS → Prop) (σ : Go.AI.AS) (K : Go.Value → Go.AI.AS → Prop),
  Go.AI.jn Go.Proofs.Tryz.prog Go.AI.hintsS T (57 : Nat) [Bool.true, Bool.true, Bool.false, Bool.true, Bool.false, Bool.false, Bool.true] [X] K
  [((0 : Nat), Option.some (Go.Value.pointer (Option.some (Go.Addr.mk s (0 : Nat) Option.none)))), ((1 : Nat), Option.some (Go.Value.string name)), ((6 : Nat), Option.some (Go.Value.bool r6_1)),
  ((7 : Nat), Option.some (Go.Value.bool other)), ((8 : Nat), Option.some (Go.Value.int Go.IntKind.i64 i))]
  σ =
  X
  [((0 : Nat), Option.some (Go.Value.pointer (Option.some (Go.Addr.mk s (0 : Nat) Option.none)))), ((1 : Nat), Option.some (Go.Value.string name)), ((6 : Nat), Option.some (Go.Value.bool r6_1)),
  ((7 : Nat), Option.some (Go.Value.bool other)), ((8 : Nat), Option.some (Go.Value.int Go.IntKind.i64 (Go.IntKind.wrap Go.IntKind.i64 (i + (1 : Int)))))]
  σ := by
  intros
  kernel_rfl

theorem s58 : ∀ (T : Go.AI.Ct) (s : Nat) (name : ByteArray) (σ : Go.AI.AS) (K : Go.Value → Go.AI.AS → Prop),
  Go.AI.fw Go.Proofs.Tryz.prog Go.AI.hintsS T (58 : Nat) [Go.Value.pointer (Option.some (Go.Addr.mk s (0 : Nat) Option.none)), Go.Value.string name] σ K =
  Go.AI.ALoop (Go.AI.fl Go.Proofs.Tryz.prog Go.AI.hintsS T (58 : Nat) [Bool.true, Bool.true, Bool.false, Bool.true, Bool.false] [] K)
  [((0 : Nat), Option.some (Go.Value.pointer (Option.some (Go.Addr.mk s (0 : Nat) Option.none)))), ((1 : Nat), Option.some (Go.Value.string name)),
  ((4 : Nat), Option.some (Go.Value.slice Option.none (0 : Nat) (0 : Nat))), ((5 : Nat), Option.some (Go.Value.bool Bool.false)), ((6 : Nat), Option.some (Go.Value.int Go.IntKind.i64 (0 : Int)))]
  σ := by
  intros
  kernel_rfl

theorem s58l : ∀ (T : Go.AI.Ct) (s : Nat) (name : ByteArray) (la : Option Go.Addr) (ln le : Nat) (r5_1 : Bool) (i : Int) (X : Go.AI.Regs → Go.AI.AS → Prop) (σ : Go.AI.AS) (K : Go.Value → Go.AI.AS → Prop),
  Go.AI.fl Go.Proofs.Tryz.prog Go.AI.hintsS T (58 : Nat) [Bool.true, Bool.true, Bool.false, Bool.true, Bool.false] [] K X
  [((0 : Nat), Option.some (Go.Value.pointer (Option.some (Go.Addr.mk s (0 : Nat) Option.none)))), ((1 : Nat), Option.some (Go.Value.string name)), ((4 : Nat), Option.some (Go.Value.slice la ln le)),
  ((5 : Nat), Option.some (Go.Value.bool r5_1)), ((6 : Nat), Option.some (Go.Value.int Go.IntKind.i64 i))]
  σ =
  Go.AI.ldc σ (Go.Addr.mk s ((0 : Nat) + (1 : Nat)) Option.none) fun (v0 : Go.Value) ↦
  Go.AI.tL (2 : Nat) v0 fun (s1 : Go.AI.Sl) ↦
  Go.AI.bmatch (Decidable.decide (i < (↑(Go.AI.Sl.n s1) : Int)))
  (Go.AI.bmatch (!r5_1)
  (Go.AI.ldc σ (Go.Addr.mk s ((0 : Nat) + (1 : Nat)) Option.none) fun (v2 : Go.Value) ↦
  Go.AI.tL (2 : Nat) v2 fun (s3 : Go.AI.Sl) ↦
  Go.AI.req ((0 : Int) ≤ i)
  (Go.AI.req (i < (↑(Go.AI.Sl.n s3) : Int))
  (Go.AI.pSome (Go.AI.Sl.a s3) fun (a4 : Go.Addr) ↦
  Go.AI.ldc σ (Go.Addr.add (Go.Addr.add a4 (Int.toNat i * Go.AI.szOf Go.Proofs.Tryz.prog (112 : Nat))) (0 : Nat)) fun (v5 : Go.Value) ↦
  Go.AI.tS v5 fun (b6 : ByteArray) ↦
  Go.AI.bmatch (!(Go.AI.strLt b6 name || Go.AI.strEq b6 name))
  (Go.AI.newAt σ (Go.AI.AObj.row Go.AI.RK.rw [Go.Value.string name, Go.Value.slice Option.none (0 : Nat) (0 : Nat)]) fun (i7 : Nat) (σ8 : Go.AI.AS) ↦
  Go.AI.chk (Go.AI.nilOr la le (Go.AI.szOf Go.Proofs.Tryz.prog (112 : Nat)))
  (Go.AI.lds σ8 (Go.Addr.mk i7 (0 : Nat) Option.none) (2 : Nat) fun (l9 : List Go.Value) ↦
  Go.AI.appendTo σ8 (2 : Nat) (40 : Nat) (Go.AI.Sl.mk la ln) l9 (1 : Nat) fun (s10 : Go.AI.Sl) (σ11 : Go.AI.AS) ↦
  Go.AI.JoinS
  (Go.AI.jn Go.Proofs.Tryz.prog Go.AI.hintsS T (58 : Nat) [Bool.true, Bool.true, Bool.false, Bool.true, Bool.false, Bool.false, Bool.true, Bool.false, Bool.false] [X] K)
  [((0 : Nat), Option.some (Go.Value.pointer (Option.some (Go.Addr.mk s (0 : Nat) Option.none)))), ((1 : Nat), Option.some (Go.Value.string name)),
  ((4 : Nat), Option.some (Go.Value.slice (Go.AI.Sl.a s10) (Go.AI.Sl.n s10) (2 : Nat))), ((5 : Nat), Option.some (Go.Value.bool Bool.true)),
  ((6 : Nat), Option.some (Go.Value.int Go.IntKind.i64 i))]
  σ11))
  (Go.AI.JoinS (Go.AI.jn Go.Proofs.Tryz.prog Go.AI.hintsS T (58 : Nat) [Bool.true, Bool.true, Bool.false, Bool.true, Bool.false, Bool.false, Bool.true, Bool.false, Bool.false] [X] K)
  [((0 : Nat), Option.some (Go.Value.pointer (Option.some (Go.Addr.mk s (0 : Nat) Option.none)))), ((1 : Nat), Option.some (Go.Value.string name)),
  ((4 : Nat), Option.some (Go.Value.slice la ln le)), ((5 : Nat), Option.some (Go.Value.bool r5_1)), ((6 : Nat), Option.some (Go.Value.int Go.IntKind.i64 i))]
  σ))))
  (Go.AI.JoinS (Go.AI.jn Go.Proofs.Tryz.prog Go.AI.hintsS T (58 : Nat) [Bool.true, Bool.true, Bool.false, Bool.true, Bool.false, Bool.false, Bool.true, Bool.false, Bool.false] [X] K)
  [((0 : Nat), Option.some (Go.Value.pointer (Option.some (Go.Addr.mk s (0 : Nat) Option.none)))), ((1 : Nat), Option.some (Go.Value.string name)),
  ((4 : Nat), Option.some (Go.Value.slice la ln le)), ((5 : Nat), Option.some (Go.Value.bool r5_1)), ((6 : Nat), Option.some (Go.Value.int Go.IntKind.i64 i))]
  σ))
  (Go.AI.bmatch (!r5_1)
  (Go.AI.newAt σ (Go.AI.AObj.row Go.AI.RK.rw [Go.Value.string name, Go.Value.slice Option.none (0 : Nat) (0 : Nat)]) fun (i12 : Nat) (σ13 : Go.AI.AS) ↦
  Go.AI.chk (Go.AI.nilOr la le (Go.AI.szOf Go.Proofs.Tryz.prog (112 : Nat)))
  (Go.AI.lds σ13 (Go.Addr.mk i12 (0 : Nat) Option.none) (2 : Nat) fun (l14 : List Go.Value) ↦
  Go.AI.appendTo σ13 (2 : Nat) (40 : Nat) (Go.AI.Sl.mk la ln) l14 (1 : Nat) fun (s15 : Go.AI.Sl) (σ16 : Go.AI.AS) ↦
  Go.AI.JoinS (Go.AI.jn Go.Proofs.Tryz.prog Go.AI.hintsS T (58 : Nat) [Bool.true, Bool.true, Bool.true] [] K)
  [((0 : Nat), Option.some (Go.Value.pointer (Option.some (Go.Addr.mk s (0 : Nat) Option.none)))), ((4 : Nat), Option.some (Go.Value.slice (Go.AI.Sl.a s15) (Go.AI.Sl.n s15) (2 : Nat)))] σ16))
  (Go.AI.JoinS (Go.AI.jn Go.Proofs.Tryz.prog Go.AI.hintsS T (58 : Nat) [Bool.true, Bool.true, Bool.true] [] K)
  [((0 : Nat), Option.some (Go.Value.pointer (Option.some (Go.Addr.mk s (0 : Nat) Option.none)))), ((4 : Nat), Option.some (Go.Value.slice la ln le))] σ)) := by
  intros
  kernel_rfl

theorem s58j : ∀ (T : Go.AI.Ct) (s : Nat) (name : ByteArray) (la : Option Go.Addr) (ln le : Nat) (r5_1 : Bool) (i : Int) (X : Go.AI.Regs → Go.AI.AS → Prop) (σ : Go.AI.AS) (K : Go.Value → Go.AI.AS → Prop),
  Go.AI.jn Go.Proofs.Tryz.prog Go.AI.hintsS T (58 : Nat) [Bool.true, Bool.true, Bool.false, Bool.true, Bool.false, Bool.false, Bool.true, Bool.false, Bool.false] [X] K
  [((0 : Nat), Option.some (Go.Value.pointer (Option.some (Go.Addr.mk s (0 : Nat) Option.none)))), ((1 : Nat), Option.some (Go.Value.string name)), ((4 : Nat), Option.some (Go.Value.slice la ln le)),
  ((5 : Nat), Option.some (Go.Value.bool r5_1)), ((6 : Nat), Option.some (Go.Value.int Go.IntKind.i64 i))]
  σ =
  Go.AI.ldc σ (Go.Addr.mk s ((0 : Nat) + (1 : Nat)) Option.none) fun (v0 : Go.Value) ↦
  Go.AI.tL (2 : Nat) v0 fun (s1 : Go.AI.Sl) ↦
  Go.AI.req ((0 : Int) ≤ i)
  (Go.AI.req (i < (↑(Go.AI.Sl.n s1) : Int))
  (Go.AI.pSome (Go.AI.Sl.a s1) fun (a2 : Go.Addr) ↦
  Go.AI.lds σ (Go.Addr.add a2 (Int.toNat i * Go.AI.szOf Go.Proofs.Tryz.prog (112 : Nat))) (2 : Nat) fun (l3 : List Go.Value) ↦
  Go.AI.tCons l3 fun (v4 : Go.Value) (l5 : List Go.Value) ↦
  Go.AI.tS v4 fun (b6 : ByteArray) ↦
  Go.AI.tCons l5 fun (v7 : Go.Value) (l8 : List Go.Value) ↦
  Go.AI.tL (1 : Nat) v7 fun (s9 : Go.AI.Sl) ↦
  Go.AI.tNil l8
  (Go.AI.newAt σ (Go.AI.AObj.row Go.AI.RK.rw [Go.Value.string b6, Go.Value.slice (Go.AI.Sl.a s9) (Go.AI.Sl.n s9) (1 : Nat)]) fun (i10 : Nat) (σ11 : Go.AI.AS) ↦
  Go.AI.chk (Go.AI.nilOr la le (Go.AI.szOf Go.Proofs.Tryz.prog (112 : Nat)))
  (Go.AI.lds σ11 (Go.Addr.mk i10 (0 : Nat) Option.none) (2 : Nat) fun (l12 : List Go.Value) ↦
  Go.AI.appendTo σ11 (2 : Nat) (40 : Nat) (Go.AI.Sl.mk la ln) l12 (1 : Nat) fun (s13 : Go.AI.Sl) (σ14 : Go.AI.AS) ↦
  X
  [((0 : Nat), Option.some (Go.Value.pointer (Option.some (Go.Addr.mk s (0 : Nat) Option.none)))), ((1 : Nat), Option.some (Go.Value.string name)),
  ((4 : Nat), Option.some (Go.Value.slice (Go.AI.Sl.a s13) (Go.AI.Sl.n s13) (2 : Nat))), ((5 : Nat), Option.some (Go.Value.bool r5_1)),
  ((6 : Nat), Option.some (Go.Value.int Go.IntKind.i64 (Go.IntKind.wrap Go.IntKind.i64 (i + (1 : Int)))))]
  σ14)))) := by
  intros
  kernel_rfl

theorem s58j1 : ∀ (T : Go.AI.Ct) (s : Nat) (la : Option Go.Addr) (ln le : Nat) (σ : Go.AI.AS) (K : Go.Value → Go.AI.AS → Prop),
  Go.AI.jn Go.Proofs.Tryz.prog Go.AI.hintsS T (58 : Nat) [Bool.true, Bool.true, Bool.true] [] K
  [((0 : Nat), Option.some (Go.Value.pointer (Option.some (Go.Addr.mk s (0 : Nat) Option.none)))), ((4 : Nat), Option.some (Go.Value.slice la ln le))] σ =
  Go.AI.put1 σ (Go.Addr.mk s ((0 : Nat) + (1 : Nat)) Option.none) (Go.Value.slice la ln le) fun (σ0 : Go.AI.AS) ↦ K (Go.Value.tuple (Array.mk [])) σ0 := by
  intros
  kernel_rfl

theorem s56 : ∀ (T : Go.AI.Ct) (name : ByteArray) (σ : Go.AI.AS) (K : Go.Value → Go.AI.AS → Prop),
  Go.AI.fw Go.Proofs.Tryz.prog Go.AI.hintsS T (56 : Nat) [Go.Value.string name] σ K =
  Go.AI.bmatch (Decidable.decide ((↑(ByteArray.size name) : Int) > (0 : Int))) (K (Go.Value.bool (Decidable.decide ((↑(ByteArray.size name) : Int) ≤ (32 : Int)))) σ) (K (Go.Value.bool Bool.false) σ) := by
  intros
  kernel_rfl

theorem s60 : ∀ (T : Go.AI.Ct) (s : Nat) (xN : Int) (xName : ByteArray) (xLa : Option Go.Addr) (xLn xLe : Nat) (xMode : Int) (xWide : Bool) (xPlace xRead xWritten : Int) (σ : Go.AI.AS)
  (K : Go.Value → Go.AI.AS → Prop),
  Go.AI.fw Go.Proofs.Tryz.prog Go.AI.hintsS T (60 : Nat)
  [Go.Value.pointer (Option.some (Go.Addr.mk s (0 : Nat) Option.none)),
  Go.Value.agg
  (Array.mk
  [Go.Value.int Go.IntKind.i64 xN, Go.Value.string xName, Go.Value.slice xLa xLn xLe, Go.Value.int Go.IntKind.i64 xMode, Go.Value.bool xWide, Go.Value.int Go.IntKind.i64 xPlace,
  Go.Value.int Go.IntKind.i64 xRead, Go.Value.int Go.IntKind.i64 xWritten])]
  σ K =
  Go.AI.newAt σ
  (Go.AI.AObj.row Go.AI.RK.plain
  [Go.Value.int Go.IntKind.i64 xN, Go.Value.string xName, Go.Value.slice xLa xLn xLe, Go.Value.int Go.IntKind.i64 xMode, Go.Value.bool xWide, Go.Value.int Go.IntKind.i64 xPlace,
  Go.Value.int Go.IntKind.i64 xRead, Go.Value.int Go.IntKind.i64 xWritten])
  fun (i0 : Nat) (σ1 : Go.AI.AS) ↦
  Go.AI.ldc σ1 (Go.Addr.mk s ((0 : Nat) + (3 : Nat)) Option.none) fun (v2 : Go.Value) ↦
  Go.AI.tI Go.IntKind.i64 v2 fun (n3 : Int) ↦
  Go.AI.put1 σ1 (Go.Addr.mk s ((0 : Nat) + (3 : Nat)) Option.none) (Go.Value.int Go.IntKind.i64 (Go.IntKind.wrap Go.IntKind.i64 (n3 + (1 : Int)))) fun (σ4 : Go.AI.AS) ↦
  Go.AI.ldc σ4 (Go.Addr.mk s ((0 : Nat) + (3 : Nat)) Option.none) fun (v5 : Go.Value) ↦
  Go.AI.tI Go.IntKind.i64 v5 fun (n6 : Int) ↦
  Go.AI.put1 σ4 (Go.Addr.mk i0 (0 : Nat) Option.none) (Go.Value.int Go.IntKind.i64 n6) fun (σ7 : Go.AI.AS) ↦
  Go.AI.ldc σ7 (Go.Addr.mk s ((0 : Nat) + (2 : Nat)) Option.none) fun (v8 : Go.Value) ↦
  Go.AI.tL (8 : Nat) v8 fun (s9 : Go.AI.Sl) ↦
  Go.AI.lds σ7 (Go.Addr.mk i0 (0 : Nat) Option.none) (8 : Nat) fun (l10 : List Go.Value) ↦
  Go.AI.tCons l10 fun (v11 : Go.Value) (l12 : List Go.Value) ↦
  Go.AI.tI Go.IntKind.i64 v11 fun (n13 : Int) ↦
  Go.AI.tCons l12 fun (v14 : Go.Value) (l15 : List Go.Value) ↦
  Go.AI.tS v14 fun (b16 : ByteArray) ↦
  Go.AI.tCons l15 fun (v17 : Go.Value) (l18 : List Go.Value) ↦
  Go.AI.tL (1 : Nat) v17 fun (s19 : Go.AI.Sl) ↦
  Go.AI.tCons l18 fun (v20 : Go.Value) (l21 : List Go.Value) ↦
  Go.AI.tI Go.IntKind.i64 v20 fun (n22 : Int) ↦
  Go.AI.tCons l21 fun (v23 : Go.Value) (l24 : List Go.Value) ↦
  Go.AI.tB v23 fun (b25 : Bool) ↦
  Go.AI.tCons l24 fun (v26 : Go.Value) (l27 : List Go.Value) ↦
  Go.AI.tI Go.IntKind.i64 v26 fun (n28 : Int) ↦
  Go.AI.tCons l27 fun (v29 : Go.Value) (l30 : List Go.Value) ↦
  Go.AI.tI Go.IntKind.i64 v29 fun (n31 : Int) ↦
  Go.AI.tCons l30 fun (v32 : Go.Value) (l33 : List Go.Value) ↦
  Go.AI.tI Go.IntKind.i64 v32 fun (n34 : Int) ↦
  Go.AI.tNil l33
  (Go.AI.newAt σ7
  (Go.AI.AObj.row Go.AI.RK.rw
  [Go.Value.int Go.IntKind.i64 n13, Go.Value.string b16, Go.Value.slice (Go.AI.Sl.a s19) (Go.AI.Sl.n s19) (1 : Nat), Go.Value.int Go.IntKind.i64 n22,
  Go.Value.bool b25, Go.Value.int Go.IntKind.i64 n28, Go.Value.int Go.IntKind.i64 n31, Go.Value.int Go.IntKind.i64 n34])
  fun (i35 : Nat) (σ36 : Go.AI.AS) ↦
  Go.AI.ldc σ36 (Go.Addr.mk s ((0 : Nat) + (2 : Nat)) Option.none) fun (v37 : Go.Value) ↦
  Go.AI.tL (8 : Nat) v37 fun (s38 : Go.AI.Sl) ↦
  Go.Value.slice (Go.AI.Sl.a s9) (Go.AI.Sl.n s9) (Go.AI.szOf Go.Proofs.Tryz.prog (94 : Nat)) =
  Go.Value.slice (Go.AI.Sl.a s38) (Go.AI.Sl.n s38) (Go.AI.szOf Go.Proofs.Tryz.prog (94 : Nat)) ∧
  Go.AI.lds σ36 (Go.Addr.mk i35 (0 : Nat) Option.none) (8 : Nat) fun (l39 : List Go.Value) ↦
  Go.AI.appendTo σ36 (8 : Nat) (88 : Nat) (Go.AI.Sl.mk (Go.AI.Sl.a s9) (Go.AI.Sl.n s9)) l39 (1 : Nat) fun (s40 : Go.AI.Sl) (σ41 : Go.AI.AS) ↦
  Go.AI.put1 σ41 (Go.Addr.mk s ((0 : Nat) + (2 : Nat)) Option.none) (Go.Value.slice (Go.AI.Sl.a s40) (Go.AI.Sl.n s40) (8 : Nat))
  fun (σ42 : Go.AI.AS) ↦
  Go.AI.ldc σ42 (Go.Addr.mk i0 (0 : Nat) Option.none) fun (v43 : Go.Value) ↦
  Go.AI.tI Go.IntKind.i64 v43 fun (n44 : Int) ↦ K (Go.Value.int Go.IntKind.i64 n44) σ42) := by
  intros
  kernel_rfl

theorem s62 : ∀ (T : Go.AI.Ct) (s : Nat) (n : Int) (σ : Go.AI.AS) (K : Go.Value → Go.AI.AS → Prop),
  Go.AI.fw Go.Proofs.Tryz.prog Go.AI.hintsS T (62 : Nat) [Go.Value.pointer (Option.some (Go.Addr.mk s (0 : Nat) Option.none)), Go.Value.int Go.IntKind.i64 n] σ K =
  Go.AI.ALoop (Go.AI.fl Go.Proofs.Tryz.prog Go.AI.hintsS T (62 : Nat) [Bool.true, Bool.false, Bool.true, Bool.false] [] K)
  [((0 : Nat), Option.some (Go.Value.pointer (Option.some (Go.Addr.mk s (0 : Nat) Option.none)))), ((1 : Nat), Option.some (Go.Value.int Go.IntKind.i64 n)),
  ((5 : Nat), Option.some (Go.Value.int Go.IntKind.i64 (0 : Int)))]
  σ := by
  intros
  kernel_rfl

theorem s62l : ∀ (T : Go.AI.Ct) (s : Nat) (n i : Int) (X : Go.AI.Regs → Go.AI.AS → Prop) (σ : Go.AI.AS) (K : Go.Value → Go.AI.AS → Prop),
  Go.AI.fl Go.Proofs.Tryz.prog Go.AI.hintsS T (62 : Nat) [Bool.true, Bool.false, Bool.true, Bool.false] [] K X
  [((0 : Nat), Option.some (Go.Value.pointer (Option.some (Go.Addr.mk s (0 : Nat) Option.none)))), ((1 : Nat), Option.some (Go.Value.int Go.IntKind.i64 n)),
  ((5 : Nat), Option.some (Go.Value.int Go.IntKind.i64 i))]
  σ =
  Go.AI.ldc σ (Go.Addr.mk s ((0 : Nat) + (2 : Nat)) Option.none) fun (v0 : Go.Value) ↦
  Go.AI.tL (8 : Nat) v0 fun (s1 : Go.AI.Sl) ↦
  Go.AI.bmatch (Decidable.decide (i < (↑(Go.AI.Sl.n s1) : Int)))
  (Go.AI.ldc σ (Go.Addr.mk s ((0 : Nat) + (2 : Nat)) Option.none) fun (v2 : Go.Value) ↦
  Go.AI.tL (8 : Nat) v2 fun (s3 : Go.AI.Sl) ↦
  Go.AI.req ((0 : Int) ≤ i)
  (Go.AI.req (i < (↑(Go.AI.Sl.n s3) : Int))
  (Go.AI.pSome (Go.AI.Sl.a s3) fun (a4 : Go.Addr) ↦
  Go.AI.ldc σ (Go.Addr.add (Go.Addr.add a4 (Int.toNat i * Go.AI.szOf Go.Proofs.Tryz.prog (94 : Nat))) (0 : Nat)) fun (v5 : Go.Value) ↦
  Go.AI.tI Go.IntKind.i64 v5 fun (n6 : Int) ↦
  Go.AI.bmatch (n6 == n) (K (Go.Value.int Go.IntKind.i64 i) σ)
  (X
  [((0 : Nat), Option.some (Go.Value.pointer (Option.some (Go.Addr.mk s (0 : Nat) Option.none)))), ((1 : Nat), Option.some (Go.Value.int Go.IntKind.i64 n)),
  ((5 : Nat), Option.some (Go.Value.int Go.IntKind.i64 (Go.IntKind.wrap Go.IntKind.i64 (i + (1 : Int)))))]
  σ))))
  (K (Go.Value.int Go.IntKind.i64 (-1 : Int)) σ) := by
  intros
  kernel_rfl

theorem s70 : ∀ (T : Go.AI.Ct) (c : Int) (σ : Go.AI.AS) (K : Go.Value → Go.AI.AS → Prop),
  Go.AI.fw Go.Proofs.Tryz.prog Go.AI.hintsS T (70 : Nat) [Go.Value.int Go.IntKind.u32 c] σ K =
  Go.AI.bmatch (Decidable.decide (c > (255 : Int))) (K (Go.Value.int Go.IntKind.u32 (63 : Int)) σ) (K (Go.Value.int Go.IntKind.u32 c) σ) := by
  intros
  kernel_rfl

theorem s61 : ∀ (T : Go.AI.Ct) (la : Option Go.Addr) (ln : Nat) (wide : Bool) (σ : Go.AI.AS) (K : Go.Value → Go.AI.AS → Prop),
  Go.AI.fw Go.Proofs.Tryz.prog Go.AI.hintsS T (61 : Nat) [Go.Value.slice la ln (1 : Nat), Go.Value.bool wide] σ K =
  Go.AI.ALoop (Go.AI.fl Go.Proofs.Tryz.prog Go.AI.hintsS T (61 : Nat) [Bool.true, Bool.true, Bool.false, Bool.true, Bool.false] [] K)
  [((0 : Nat), Option.some (Go.Value.slice la ln (1 : Nat))), ((1 : Nat), Option.some (Go.Value.bool wide)), ((5 : Nat), Option.some (Go.Value.slice Option.none (0 : Nat) (0 : Nat))),
  ((6 : Nat), Option.some (Go.Value.int Go.IntKind.i64 (0 : Int)))]
  σ := by
  intros
  kernel_rfl

theorem s61l : ∀ (T : Go.AI.Ct) (la : Option Go.Addr) (ln le : Nat) (wide : Bool) (outa : Option Go.Addr) (outn oute : Nat) (i : Int) (X : Go.AI.Regs → Go.AI.AS → Prop) (σ : Go.AI.AS)
  (K : Go.Value → Go.AI.AS → Prop),
  Go.AI.fl Go.Proofs.Tryz.prog Go.AI.hintsS T (61 : Nat) [Bool.true, Bool.true, Bool.false, Bool.true, Bool.false] [] K X
  [((0 : Nat), Option.some (Go.Value.slice la ln le)), ((1 : Nat), Option.some (Go.Value.bool wide)), ((5 : Nat), Option.some (Go.Value.slice outa outn oute)),
  ((6 : Nat), Option.some (Go.Value.int Go.IntKind.i64 i))]
  σ =
  Go.AI.bmatch (Decidable.decide (i < (↑ln : Int)))
  (Go.AI.bmatch wide
  (Go.AI.req ((0 : Int) ≤ i)
  (Go.AI.req (i < (↑ln : Int))
  (Go.AI.pSome la fun (a0 : Go.Addr) ↦
  Go.AI.req (le = Go.AI.szOf Go.Proofs.Tryz.prog (54 : Nat))
  (Go.AI.ldc σ (Go.Addr.add a0 (Int.toNat i * Go.AI.szOf Go.Proofs.Tryz.prog (54 : Nat))) fun (v1 : Go.Value) ↦
  Go.AI.tI Go.IntKind.u32 v1 fun (n2 : Int) ↦
  Go.AI.newAt σ (Go.AI.AObj.row Go.AI.RK.rw [Go.Value.int Go.IntKind.u32 n2]) fun (i3 : Nat) (σ4 : Go.AI.AS) ↦
  Go.AI.chk (Go.AI.nilOr outa oute (Go.AI.szOf Go.Proofs.Tryz.prog (54 : Nat)))
  (Go.AI.lds σ4 (Go.Addr.mk i3 (0 : Nat) Option.none) (1 : Nat) fun (l5 : List Go.Value) ↦
  Go.AI.appendTo σ4 (1 : Nat) (4 : Nat) (Go.AI.Sl.mk outa outn) l5 (1 : Nat) fun (s6 : Go.AI.Sl) (σ7 : Go.AI.AS) ↦
  Go.AI.JoinS (Go.AI.jn Go.Proofs.Tryz.prog Go.AI.hintsS T (61 : Nat) [Bool.true, Bool.true, Bool.false, Bool.true, Bool.false, Bool.false, Bool.true] [X] K)
  [((0 : Nat), Option.some (Go.Value.slice la ln le)), ((1 : Nat), Option.some (Go.Value.bool wide)),
  ((5 : Nat), Option.some (Go.Value.slice (Go.AI.Sl.a s6) (Go.AI.Sl.n s6) (1 : Nat))), ((6 : Nat), Option.some (Go.Value.int Go.IntKind.i64 i))]
  σ7)))))
  (Go.AI.req ((0 : Int) ≤ i)
  (Go.AI.req (i < (↑ln : Int))
  (Go.AI.pSome la fun (a8 : Go.Addr) ↦
  Go.AI.req (le = Go.AI.szOf Go.Proofs.Tryz.prog (54 : Nat))
  (Go.AI.ldc σ (Go.Addr.add a8 (Int.toNat i * Go.AI.szOf Go.Proofs.Tryz.prog (54 : Nat))) fun (v9 : Go.Value) ↦
  Go.AI.tI Go.IntKind.u32 v9 fun (n10 : Int) ↦
  T (70 : Nat) [Go.Value.int Go.IntKind.u32 n10] σ fun (v11 : Go.Value) (σ12 : Go.AI.AS) ↦
  Go.AI.tI Go.IntKind.u32 v11 fun (n13 : Int) ↦
  Go.AI.newAt σ12 (Go.AI.AObj.row Go.AI.RK.rw [Go.Value.int Go.IntKind.u32 n13]) fun (i14 : Nat) (σ15 : Go.AI.AS) ↦
  Go.AI.chk (Go.AI.nilOr outa oute (Go.AI.szOf Go.Proofs.Tryz.prog (54 : Nat)))
  (Go.AI.lds σ15 (Go.Addr.mk i14 (0 : Nat) Option.none) (1 : Nat) fun (l16 : List Go.Value) ↦
  Go.AI.appendTo σ15 (1 : Nat) (4 : Nat) (Go.AI.Sl.mk outa outn) l16 (1 : Nat) fun (s17 : Go.AI.Sl) (σ18 : Go.AI.AS) ↦
  Go.AI.JoinS (Go.AI.jn Go.Proofs.Tryz.prog Go.AI.hintsS T (61 : Nat) [Bool.true, Bool.true, Bool.false, Bool.true, Bool.false, Bool.false, Bool.true] [X] K)
  [((0 : Nat), Option.some (Go.Value.slice la ln le)), ((1 : Nat), Option.some (Go.Value.bool wide)),
  ((5 : Nat), Option.some (Go.Value.slice (Go.AI.Sl.a s17) (Go.AI.Sl.n s17) (1 : Nat))), ((6 : Nat), Option.some (Go.Value.int Go.IntKind.i64 i))]
  σ18))))))
  (K (Go.Value.slice outa outn oute) σ) := by
  intros
  kernel_rfl

theorem s61j : ∀ (T : Go.AI.Ct) (la : Option Go.Addr) (ln le : Nat) (wide : Bool) (outa : Option Go.Addr) (outn oute : Nat) (i : Int) (X : Go.AI.Regs → Go.AI.AS → Prop) (σ : Go.AI.AS)
  (K : Go.Value → Go.AI.AS → Prop),
  Go.AI.jn Go.Proofs.Tryz.prog Go.AI.hintsS T (61 : Nat) [Bool.true, Bool.true, Bool.false, Bool.true, Bool.false, Bool.false, Bool.true] [X] K
  [((0 : Nat), Option.some (Go.Value.slice la ln le)), ((1 : Nat), Option.some (Go.Value.bool wide)), ((5 : Nat), Option.some (Go.Value.slice outa outn oute)),
  ((6 : Nat), Option.some (Go.Value.int Go.IntKind.i64 i))]
  σ =
  X
  [((0 : Nat), Option.some (Go.Value.slice la ln le)), ((1 : Nat), Option.some (Go.Value.bool wide)), ((5 : Nat), Option.some (Go.Value.slice outa outn oute)),
  ((6 : Nat), Option.some (Go.Value.int Go.IntKind.i64 (Go.IntKind.wrap Go.IntKind.i64 (i + (1 : Int)))))]
  σ := by
  intros
  kernel_rfl

theorem s59 : ∀ (T : Go.AI.Ct) (s : Nat) (xN : Int) (xName : ByteArray) (xLa : Option Go.Addr) (xLn xLe : Nat) (xMode : Int) (xWide : Bool) (xPlace xRead xWritten : Int) (σ : Go.AI.AS)
  (K : Go.Value → Go.AI.AS → Prop),
  Go.AI.fw Go.Proofs.Tryz.prog Go.AI.hintsS T (59 : Nat)
  [Go.Value.pointer (Option.some (Go.Addr.mk s (0 : Nat) Option.none)),
  Go.Value.agg
  (Array.mk
  [Go.Value.int Go.IntKind.i64 xN, Go.Value.string xName, Go.Value.slice xLa xLn xLe, Go.Value.int Go.IntKind.i64 xMode, Go.Value.bool xWide, Go.Value.int Go.IntKind.i64 xPlace,
  Go.Value.int Go.IntKind.i64 xRead, Go.Value.int Go.IntKind.i64 xWritten])]
  σ K =
  Go.AI.newAt σ
  (Go.AI.AObj.row Go.AI.RK.plain
  [Go.Value.int Go.IntKind.i64 xN, Go.Value.string xName, Go.Value.slice xLa xLn xLe, Go.Value.int Go.IntKind.i64 xMode, Go.Value.bool xWide, Go.Value.int Go.IntKind.i64 xPlace,
  Go.Value.int Go.IntKind.i64 xRead, Go.Value.int Go.IntKind.i64 xWritten])
  fun (i0 : Nat) (σ1 : Go.AI.AS) ↦
  Go.AI.ldc σ1 (Go.Addr.mk i0 ((0 : Nat) + (1 : Nat)) Option.none) fun (v2 : Go.Value) ↦
  Go.AI.tS v2 fun (b3 : ByteArray) ↦
  Go.AI.bmatch (Go.AI.strEq b3 (ByteArray.mk #[]))
  (Go.AI.ldc σ1 (Go.Addr.mk i0 ((0 : Nat) + (2 : Nat)) Option.none) fun (v4 : Go.Value) ↦ Go.AI.tL (1 : Nat) v4 fun (s5 : Go.AI.Sl) ↦ K (Go.Value.slice (Go.AI.Sl.a s5) (Go.AI.Sl.n s5) (1 : Nat)) σ1)
  (Go.AI.ldc σ1 (Go.Addr.mk s ((0 : Nat) + (1 : Nat)) Option.none) fun (v6 : Go.Value) ↦
  Go.AI.tL (2 : Nat) v6 fun (s7 : Go.AI.Sl) ↦
  Go.AI.ldc σ1 (Go.Addr.mk i0 ((0 : Nat) + (1 : Nat)) Option.none) fun (v8 : Go.Value) ↦
  Go.AI.tS v8 fun (b9 : ByteArray) ↦
  T (19 : Nat) [Go.Value.pointer (Option.some (Go.Addr.mk s (0 : Nat) Option.none)), Go.Value.string b9] σ1 fun (v10 : Go.Value) (σ11 : Go.AI.AS) ↦
  Go.AI.tI Go.IntKind.i64 v10 fun (n12 : Int) ↦
  Go.AI.ldc σ11 (Go.Addr.mk s ((0 : Nat) + (1 : Nat)) Option.none) fun (v13 : Go.Value) ↦
  Go.AI.tL (2 : Nat) v13 fun (s14 : Go.AI.Sl) ↦
  Go.Value.slice (Go.AI.Sl.a s7) (Go.AI.Sl.n s7) (Go.AI.szOf Go.Proofs.Tryz.prog (112 : Nat)) = Go.Value.slice (Go.AI.Sl.a s14) (Go.AI.Sl.n s14) (Go.AI.szOf Go.Proofs.Tryz.prog (112 : Nat)) ∧
  Go.AI.req ((0 : Int) ≤ n12)
  (Go.AI.req (n12 < (↑(Go.AI.Sl.n s7) : Int))
  (Go.AI.pSome (Go.AI.Sl.a s7) fun (a15 : Go.Addr) ↦
  Go.AI.ldc σ11
  (Go.Addr.mk (Go.Addr.block (Go.Addr.add a15 (Int.toNat n12 * Go.AI.szOf Go.Proofs.Tryz.prog (112 : Nat))))
  (Go.Addr.off (Go.Addr.add a15 (Int.toNat n12 * Go.AI.szOf Go.Proofs.Tryz.prog (112 : Nat))) + (1 : Nat)) Option.none)
  fun (v16 : Go.Value) ↦
  Go.AI.tL (1 : Nat) v16 fun (s17 : Go.AI.Sl) ↦
  Go.AI.ldc σ11 (Go.Addr.mk i0 ((0 : Nat) + (4 : Nat)) Option.none) fun (v18 : Go.Value) ↦
  Go.AI.tB v18 fun (b19 : Bool) ↦
  Go.AI.bmatch b19
  (Go.AI.JoinS (Go.AI.jn Go.Proofs.Tryz.prog Go.AI.hintsS T (59 : Nat) [Bool.true, Bool.true, Bool.true, Bool.true] [] K)
  [((5 : Nat), Option.some (Go.Value.slice (Go.AI.Sl.a s17) (Go.AI.Sl.n s17) (1 : Nat))), ((6 : Nat), Option.some (Go.Value.int Go.IntKind.i64 (4 : Int)))] σ11)
  (Go.AI.JoinS (Go.AI.jn Go.Proofs.Tryz.prog Go.AI.hintsS T (59 : Nat) [Bool.true, Bool.true, Bool.true, Bool.true] [] K)
  [((5 : Nat), Option.some (Go.Value.slice (Go.AI.Sl.a s17) (Go.AI.Sl.n s17) (1 : Nat))), ((6 : Nat), Option.some (Go.Value.int Go.IntKind.i64 (1 : Int)))] σ11)))) := by
  intros
  kernel_rfl

theorem s59j : ∀ (T : Go.AI.Ct) (ba : Option Go.Addr) (bn be : Nat) (unit : Int) (σ : Go.AI.AS) (K : Go.Value → Go.AI.AS → Prop),
  Go.AI.jn Go.Proofs.Tryz.prog Go.AI.hintsS T (59 : Nat) [Bool.true, Bool.true, Bool.true, Bool.true] [] K
  [((5 : Nat), Option.some (Go.Value.slice ba bn be)), ((6 : Nat), Option.some (Go.Value.int Go.IntKind.i64 unit))] σ =
  Go.AI.ALoop (Go.AI.fl Go.Proofs.Tryz.prog Go.AI.hintsS T (59 : Nat) [Bool.true, Bool.true, Bool.true, Bool.true, Bool.true, Bool.true, Bool.false, Bool.true, Bool.false] [] K)
  [((5 : Nat), Option.some (Go.Value.slice ba bn be)), ((6 : Nat), Option.some (Go.Value.int Go.IntKind.i64 unit)), ((7 : Nat), Option.some (Go.Value.slice Option.none (0 : Nat) (0 : Nat))),
  ((8 : Nat), Option.some (Go.Value.int Go.IntKind.i64 (0 : Int)))]
  σ := by
  intros
  kernel_rfl

theorem s59l : ∀ (T : Go.AI.Ct) (ba : Option Go.Addr) (bn be : Nat) (unit : Int) (outa : Option Go.Addr) (outn oute : Nat) (i : Int) (X : Go.AI.Regs → Go.AI.AS → Prop) (σ : Go.AI.AS)
  (K : Go.Value → Go.AI.AS → Prop),
  Go.AI.fl Go.Proofs.Tryz.prog Go.AI.hintsS T (59 : Nat) [Bool.true, Bool.true, Bool.true, Bool.true, Bool.true, Bool.true, Bool.false, Bool.true, Bool.false] [] K X
  [((5 : Nat), Option.some (Go.Value.slice ba bn be)), ((6 : Nat), Option.some (Go.Value.int Go.IntKind.i64 unit)), ((7 : Nat), Option.some (Go.Value.slice outa outn oute)),
  ((8 : Nat), Option.some (Go.Value.int Go.IntKind.i64 i))]
  σ =
  Go.AI.bmatch (Decidable.decide (Go.IntKind.wrap Go.IntKind.i64 (i + unit) ≤ (↑bn : Int)))
  (T (69 : Nat) [Go.Value.slice ba bn be, Go.Value.int Go.IntKind.i64 i, Go.Value.int Go.IntKind.i64 unit] σ fun (v0 : Go.Value) (σ1 : Go.AI.AS) ↦
  Go.AI.tTup v0 fun (l2 : List Go.Value) ↦
  Go.AI.pSome l2[(0 : Nat)]? fun (u3 : Go.Value) ↦
  Go.AI.tI Go.IntKind.u32 u3 fun (n4 : Int) ↦
  Go.AI.tTup v0 fun (l5 : List Go.Value) ↦
  Go.AI.pSome l5[(1 : Nat)]? fun (u6 : Go.Value) ↦
  Go.AI.tI Go.IntKind.i64 u6 fun (n7 : Int) ↦
  Go.AI.newAt σ1 (Go.AI.AObj.row Go.AI.RK.rw [Go.Value.int Go.IntKind.u32 n4]) fun (i8 : Nat) (σ9 : Go.AI.AS) ↦
  Go.AI.chk (Go.AI.nilOr outa oute (Go.AI.szOf Go.Proofs.Tryz.prog (54 : Nat)))
  (Go.AI.lds σ9 (Go.Addr.mk i8 (0 : Nat) Option.none) (1 : Nat) fun (l10 : List Go.Value) ↦
  Go.AI.appendTo σ9 (1 : Nat) (4 : Nat) (Go.AI.Sl.mk outa outn) l10 (1 : Nat) fun (s11 : Go.AI.Sl) (σ12 : Go.AI.AS) ↦
  X
  [((5 : Nat), Option.some (Go.Value.slice ba bn be)), ((6 : Nat), Option.some (Go.Value.int Go.IntKind.i64 unit)),
  ((7 : Nat), Option.some (Go.Value.slice (Go.AI.Sl.a s11) (Go.AI.Sl.n s11) (1 : Nat))),
  ((8 : Nat), Option.some (Go.Value.int Go.IntKind.i64 (Go.IntKind.wrap Go.IntKind.i64 (i + unit))))]
  σ12))
  (K (Go.Value.slice outa outn oute) σ) := by
  intros
  kernel_rfl

theorem s63 : ∀ (T : Go.AI.Ct) (x n : Int) (σ : Go.AI.AS) (K : Go.Value → Go.AI.AS → Prop),
  Go.AI.fw Go.Proofs.Tryz.prog Go.AI.hintsS T (63 : Nat) [Go.Value.int Go.IntKind.u32 x, Go.Value.int Go.IntKind.i64 n] σ K =
  Go.AI.bmatch (n != (1 : Int))
  (Go.AI.bmatch (n != (2 : Int))
  (Go.AI.bmatch (n != (4 : Int)) (K (Go.Value.slice Option.none (0 : Nat) (0 : Nat)) σ)
  (Go.AI.ALoop (Go.AI.fl Go.Proofs.Tryz.prog Go.AI.hintsS T (63 : Nat) [Bool.true, Bool.true, Bool.true, Bool.true, Bool.false, Bool.true, Bool.false] [] K)
  [((0 : Nat), Option.some (Go.Value.int Go.IntKind.u32 x)), ((1 : Nat), Option.some (Go.Value.int Go.IntKind.i64 n)), ((5 : Nat), Option.some (Go.Value.slice Option.none (0 : Nat) (0 : Nat))),
  ((6 : Nat), Option.some (Go.Value.int Go.IntKind.i64 (1 : Int))), ((7 : Nat), Option.some (Go.Value.int Go.IntKind.i64 (1 : Int)))]
  σ))
  (Go.AI.ALoop (Go.AI.fl Go.Proofs.Tryz.prog Go.AI.hintsS T (63 : Nat) [Bool.true, Bool.true, Bool.true, Bool.true, Bool.false, Bool.true, Bool.false] [] K)
  [((0 : Nat), Option.some (Go.Value.int Go.IntKind.u32 x)), ((1 : Nat), Option.some (Go.Value.int Go.IntKind.i64 n)), ((5 : Nat), Option.some (Go.Value.slice Option.none (0 : Nat) (0 : Nat))),
  ((6 : Nat), Option.some (Go.Value.int Go.IntKind.i64 (1 : Int))), ((7 : Nat), Option.some (Go.Value.int Go.IntKind.i64 (1 : Int)))]
  σ))
  (Go.AI.ALoop (Go.AI.fl Go.Proofs.Tryz.prog Go.AI.hintsS T (63 : Nat) [Bool.true, Bool.true, Bool.true, Bool.true, Bool.false, Bool.true, Bool.false] [] K)
  [((0 : Nat), Option.some (Go.Value.int Go.IntKind.u32 x)), ((1 : Nat), Option.some (Go.Value.int Go.IntKind.i64 n)), ((5 : Nat), Option.some (Go.Value.slice Option.none (0 : Nat) (0 : Nat))),
  ((6 : Nat), Option.some (Go.Value.int Go.IntKind.i64 (1 : Int))), ((7 : Nat), Option.some (Go.Value.int Go.IntKind.i64 (1 : Int)))]
  σ) := by
  intros
  kernel_rfl

theorem s63l : ∀ (T : Go.AI.Ct) (x n : Int) (outa : Option Go.Addr) (outn oute : Nat) (p i : Int) (X : Go.AI.Regs → Go.AI.AS → Prop) (σ : Go.AI.AS) (K : Go.Value → Go.AI.AS → Prop),
  Go.AI.fl Go.Proofs.Tryz.prog Go.AI.hintsS T (63 : Nat) [Bool.true, Bool.true, Bool.true, Bool.true, Bool.false, Bool.true, Bool.false] [] K X
  [((0 : Nat), Option.some (Go.Value.int Go.IntKind.u32 x)), ((1 : Nat), Option.some (Go.Value.int Go.IntKind.i64 n)), ((5 : Nat), Option.some (Go.Value.slice outa outn oute)),
  ((6 : Nat), Option.some (Go.Value.int Go.IntKind.i64 p)), ((7 : Nat), Option.some (Go.Value.int Go.IntKind.i64 i))]
  σ =
  Go.AI.bmatch (Decidable.decide (i < n))
  (X
  [((0 : Nat), Option.some (Go.Value.int Go.IntKind.u32 x)), ((1 : Nat), Option.some (Go.Value.int Go.IntKind.i64 n)), ((5 : Nat), Option.some (Go.Value.slice outa outn oute)),
  ((6 : Nat), Option.some (Go.Value.int Go.IntKind.i64 (Go.IntKind.wrap Go.IntKind.i64 ((256 : Int) * p)))),
  ((7 : Nat), Option.some (Go.Value.int Go.IntKind.i64 (Go.IntKind.wrap Go.IntKind.i64 (i + (1 : Int)))))]
  σ)
  (Go.AI.ALoop (Go.AI.fl Go.Proofs.Tryz.prog Go.AI.hintsS T (63 : Nat) [Bool.true, Bool.true, Bool.true, Bool.true, Bool.true, Bool.false, Bool.true, Bool.false] [] K)
  [((0 : Nat), Option.some (Go.Value.int Go.IntKind.u32 x)), ((1 : Nat), Option.some (Go.Value.int Go.IntKind.i64 n)), ((5 : Nat), Option.some (Go.Value.slice outa outn oute)),
  ((6 : Nat), Option.some (Go.Value.int Go.IntKind.i64 p)), ((8 : Nat), Option.some (Go.Value.int Go.IntKind.i64 (0 : Int)))]
  σ) := by
  intros
  kernel_rfl

theorem s63l1 : ∀ (T : Go.AI.Ct) (x n : Int) (outa : Option Go.Addr) (outn oute : Nat) (p i : Int) (X : Go.AI.Regs → Go.AI.AS → Prop) (σ : Go.AI.AS) (K : Go.Value → Go.AI.AS → Prop),
  Go.AI.fl Go.Proofs.Tryz.prog Go.AI.hintsS T (63 : Nat) [Bool.true, Bool.true, Bool.true, Bool.true, Bool.true, Bool.false, Bool.true, Bool.false] [] K X
  [((0 : Nat), Option.some (Go.Value.int Go.IntKind.u32 x)), ((1 : Nat), Option.some (Go.Value.int Go.IntKind.i64 n)), ((5 : Nat), Option.some (Go.Value.slice outa outn oute)),
  ((6 : Nat), Option.some (Go.Value.int Go.IntKind.i64 p)), ((8 : Nat), Option.some (Go.Value.int Go.IntKind.i64 i))]
  σ =
  Go.AI.bmatch (Decidable.decide (i < n))
  (Go.AI.req (p ≠ (0 : Int))
  (Go.AI.newAt σ
  (Go.AI.AObj.row Go.AI.RK.rw [Go.Value.int Go.IntKind.u8 (Go.IntKind.wrap Go.IntKind.u8 (Int.tmod (Go.IntKind.wrap Go.IntKind.i64 (Int.tdiv (Go.IntKind.wrap Go.IntKind.i64 x) p)) (256 : Int)))])
  fun (i0 : Nat) (σ1 : Go.AI.AS) ↦
  Go.AI.chk (Go.AI.nilOr outa oute (Go.AI.szOf Go.Proofs.Tryz.prog (5 : Nat)))
  (Go.AI.lds σ1 (Go.Addr.mk i0 (0 : Nat) Option.none) (1 : Nat) fun (l2 : List Go.Value) ↦
  Go.AI.appendTo σ1 (1 : Nat) (1 : Nat) (Go.AI.Sl.mk outa outn) l2 (1 : Nat) fun (s3 : Go.AI.Sl) (σ4 : Go.AI.AS) ↦
  X
  [((0 : Nat), Option.some (Go.Value.int Go.IntKind.u32 x)), ((1 : Nat), Option.some (Go.Value.int Go.IntKind.i64 n)),
  ((5 : Nat), Option.some (Go.Value.slice (Go.AI.Sl.a s3) (Go.AI.Sl.n s3) (1 : Nat))), ((6 : Nat), Option.some (Go.Value.int Go.IntKind.i64 (Go.IntKind.wrap Go.IntKind.i64 (Int.tdiv p (256 : Int))))),
  ((8 : Nat), Option.some (Go.Value.int Go.IntKind.i64 (Go.IntKind.wrap Go.IntKind.i64 (i + (1 : Int)))))]
  σ4)))
  (K (Go.Value.slice outa outn oute) σ) := by
  intros
  kernel_rfl

theorem s69 : ∀ (T : Go.AI.Ct) (ba : Option Go.Addr) (bn : Nat) (r1_1 n : Int) (σ : Go.AI.AS) (K : Go.Value → Go.AI.AS → Prop),
  Go.AI.fw Go.Proofs.Tryz.prog Go.AI.hintsS T (69 : Nat) [Go.Value.slice ba bn (1 : Nat), Go.Value.int Go.IntKind.i64 r1_1, Go.Value.int Go.IntKind.i64 n] σ K =
  Go.AI.bmatch (n != (1 : Int))
  (Go.AI.bmatch (n != (2 : Int))
  (Go.AI.bmatch (n != (4 : Int)) (K (Go.Value.tuple (Array.mk [Go.Value.int Go.IntKind.u32 (0 : Int), Go.Value.int Go.IntKind.i64 (1 : Int)])) σ)
  (Go.AI.bmatch (Decidable.decide (r1_1 < (0 : Int))) (K (Go.Value.tuple (Array.mk [Go.Value.int Go.IntKind.u32 (0 : Int), Go.Value.int Go.IntKind.i64 (1 : Int)])) σ)
  (Go.AI.ALoop (Go.AI.fl Go.Proofs.Tryz.prog Go.AI.hintsS T (69 : Nat) [Bool.true, Bool.true, Bool.true, Bool.false, Bool.true, Bool.false] [] K)
  [((0 : Nat), Option.some (Go.Value.slice ba bn (1 : Nat))), ((1 : Nat), Option.some (Go.Value.int Go.IntKind.i64 r1_1)), ((2 : Nat), Option.some (Go.Value.int Go.IntKind.i64 n)),
  ((8 : Nat), Option.some (Go.Value.int Go.IntKind.i64 (0 : Int))), ((9 : Nat), Option.some (Go.Value.int Go.IntKind.i64 (0 : Int)))]
  σ)))
  (Go.AI.bmatch (Decidable.decide (r1_1 < (0 : Int))) (K (Go.Value.tuple (Array.mk [Go.Value.int Go.IntKind.u32 (0 : Int), Go.Value.int Go.IntKind.i64 (1 : Int)])) σ)
  (Go.AI.ALoop (Go.AI.fl Go.Proofs.Tryz.prog Go.AI.hintsS T (69 : Nat) [Bool.true, Bool.true, Bool.true, Bool.false, Bool.true, Bool.false] [] K)
  [((0 : Nat), Option.some (Go.Value.slice ba bn (1 : Nat))), ((1 : Nat), Option.some (Go.Value.int Go.IntKind.i64 r1_1)), ((2 : Nat), Option.some (Go.Value.int Go.IntKind.i64 n)),
  ((8 : Nat), Option.some (Go.Value.int Go.IntKind.i64 (0 : Int))), ((9 : Nat), Option.some (Go.Value.int Go.IntKind.i64 (0 : Int)))]
  σ)))
  (Go.AI.bmatch (Decidable.decide (r1_1 < (0 : Int))) (K (Go.Value.tuple (Array.mk [Go.Value.int Go.IntKind.u32 (0 : Int), Go.Value.int Go.IntKind.i64 (1 : Int)])) σ)
  (Go.AI.ALoop (Go.AI.fl Go.Proofs.Tryz.prog Go.AI.hintsS T (69 : Nat) [Bool.true, Bool.true, Bool.true, Bool.false, Bool.true, Bool.false] [] K)
  [((0 : Nat), Option.some (Go.Value.slice ba bn (1 : Nat))), ((1 : Nat), Option.some (Go.Value.int Go.IntKind.i64 r1_1)), ((2 : Nat), Option.some (Go.Value.int Go.IntKind.i64 n)),
  ((8 : Nat), Option.some (Go.Value.int Go.IntKind.i64 (0 : Int))), ((9 : Nat), Option.some (Go.Value.int Go.IntKind.i64 (0 : Int)))]
  σ)) := by
  intros
  kernel_rfl

theorem s69l : ∀ (T : Go.AI.Ct) (ba : Option Go.Addr) (bn be : Nat) (r1_1 n x i : Int) (X : Go.AI.Regs → Go.AI.AS → Prop) (σ : Go.AI.AS) (K : Go.Value → Go.AI.AS → Prop),
  Go.AI.fl Go.Proofs.Tryz.prog Go.AI.hintsS T (69 : Nat) [Bool.true, Bool.true, Bool.true, Bool.false, Bool.true, Bool.false] [] K X
  [((0 : Nat), Option.some (Go.Value.slice ba bn be)), ((1 : Nat), Option.some (Go.Value.int Go.IntKind.i64 r1_1)), ((2 : Nat), Option.some (Go.Value.int Go.IntKind.i64 n)),
  ((8 : Nat), Option.some (Go.Value.int Go.IntKind.i64 x)), ((9 : Nat), Option.some (Go.Value.int Go.IntKind.i64 i))]
  σ =
  Go.AI.bmatch (Decidable.decide (i < n))
  (Go.AI.bmatch (Decidable.decide (r1_1 ≥ Go.IntKind.wrap Go.IntKind.i64 ((↑bn : Int) - i))) (K (Go.Value.tuple (Array.mk [Go.Value.int Go.IntKind.u32 (0 : Int), Go.Value.int Go.IntKind.i64 (2 : Int)])) σ)
  (Go.AI.req ((0 : Int) ≤ Go.IntKind.wrap Go.IntKind.i64 (r1_1 + i))
  (Go.AI.req (Go.IntKind.wrap Go.IntKind.i64 (r1_1 + i) < (↑bn : Int))
  (Go.AI.pSome ba fun (a0 : Go.Addr) ↦
  Go.AI.req (be = Go.AI.szOf Go.Proofs.Tryz.prog (5 : Nat))
  (Go.AI.ldc σ (Go.Addr.add a0 (Int.toNat (Go.IntKind.wrap Go.IntKind.i64 (r1_1 + i)) * Go.AI.szOf Go.Proofs.Tryz.prog (5 : Nat))) fun (v1 : Go.Value) ↦
  Go.AI.tI Go.IntKind.u8 v1 fun (n2 : Int) ↦
  X
  [((0 : Nat), Option.some (Go.Value.slice ba bn be)), ((1 : Nat), Option.some (Go.Value.int Go.IntKind.i64 r1_1)), ((2 : Nat), Option.some (Go.Value.int Go.IntKind.i64 n)),
  ((8 : Nat), Option.some (Go.Value.int Go.IntKind.i64 (Go.IntKind.wrap Go.IntKind.i64 (Go.IntKind.wrap Go.IntKind.i64 ((256 : Int) * x) + Go.IntKind.wrap Go.IntKind.i64 n2)))),
  ((9 : Nat), Option.some (Go.Value.int Go.IntKind.i64 (Go.IntKind.wrap Go.IntKind.i64 (i + (1 : Int)))))]
  σ)))))
  (K (Go.Value.tuple (Array.mk [Go.Value.int Go.IntKind.u32 (Go.IntKind.wrap Go.IntKind.u32 x), Go.Value.int Go.IntKind.i64 (0 : Int)])) σ) := by
  intros
  kernel_rfl

theorem s8 : ∀ (T : Go.AI.Ct) (most : Int) (σ : Go.AI.AS) (K : Go.Value → Go.AI.AS → Prop),
  Go.AI.fw Go.Proofs.Tryz.prog Go.AI.hintsS T (8 : Nat) [Go.Value.int Go.IntKind.i64 most] σ K =
  Go.AI.bmatch (Decidable.decide (most < (0 : Int))) (K (Go.Value.tuple (Array.mk [Go.Value.pointer Option.none, Go.Value.int Go.IntKind.i64 (1 : Int)])) σ)
  (Go.AI.bmatch (Decidable.decide (most > (1048576 : Int))) (K (Go.Value.tuple (Array.mk [Go.Value.pointer Option.none, Go.Value.int Go.IntKind.i64 (1 : Int)])) σ)
  (Go.AI.newAt σ
  (Go.AI.AObj.row Go.AI.RK.plain [Go.Value.int Go.IntKind.i64 most, Go.Value.slice Option.none (0 : Nat) (0 : Nat), Go.Value.slice Option.none (0 : Nat) (0 : Nat), Go.Value.int Go.IntKind.i64 (0 : Int)])
  fun (i0 : Nat) (σ1 : Go.AI.AS) ↦ K (Go.Value.tuple (Array.mk [Go.Value.pointer (Option.some (Go.Addr.mk i0 (0 : Nat) Option.none)), Go.Value.int Go.IntKind.i64 (0 : Int)])) σ1)) := by
  intros
  kernel_rfl

end Go.AI
end
section
/- The conditions ahead of the calls of the program's functions, reckoned as far as they go (equations that the kernel checks); no condition. -/
set_option maxRecDepth 1000000
set_option linter.unusedVariables false
namespace Go.AI
open Go.Proofs
theorem s32 : ∀ (T : Go.AI.Ct) (s : Nat) (name : ByteArray) (ba : Option Go.Addr) (bn : Nat) (σ : Go.AI.AS) (K : Go.Value → Go.AI.AS → Prop),
  Go.AI.fw Go.Proofs.Tryz.prog Go.AI.hintsS T (32 : Nat) [Go.Value.pointer (Option.some (Go.Addr.mk s (0 : Nat) Option.none)), Go.Value.string name, Go.Value.slice ba bn (1 : Nat)] σ K =
  T (56 : Nat) [Go.Value.string name] σ fun (v0 : Go.Value) (σ1 : Go.AI.AS) ↦
  Go.AI.tB v0 fun (b2 : Bool) ↦
  Go.AI.bmatch (!b2) (K (Go.Value.int Go.IntKind.i64 (1 : Int)) σ1)
  (T (57 : Nat) [Go.Value.pointer (Option.some (Go.Addr.mk s (0 : Nat) Option.none)), Go.Value.string name] σ1 fun (v3 : Go.Value) (σ4 : Go.AI.AS) ↦
  Go.AI.tTup v3 fun (l5 : List Go.Value) ↦
  Go.AI.pSome l5[(0 : Nat)]? fun (u6 : Go.Value) ↦
  Go.AI.tB u6 fun (b7 : Bool) ↦
  Go.AI.tTup v3 fun (l8 : List Go.Value) ↦
  Go.AI.pSome l8[(1 : Nat)]? fun (u9 : Go.Value) ↦
  Go.AI.tB u9 fun (b10 : Bool) ↦
  T (19 : Nat) [Go.Value.pointer (Option.some (Go.Addr.mk s (0 : Nat) Option.none)), Go.Value.string name] σ4 fun (v11 : Go.Value) (σ12 : Go.AI.AS) ↦
  Go.AI.tI Go.IntKind.i64 v11 fun (n13 : Int) ↦
  Go.AI.bmatch b7 (K (Go.Value.int Go.IntKind.i64 (6 : Int)) σ12)
  (Go.AI.bmatch (Decidable.decide (n13 < (0 : Int)))
  (Go.AI.ldc σ12 (Go.Addr.mk s ((0 : Nat) + (1 : Nat)) Option.none) fun (v14 : Go.Value) ↦
  Go.AI.tL (2 : Nat) v14 fun (s15 : Go.AI.Sl) ↦
  Go.AI.JoinS (Go.AI.jn Go.Proofs.Tryz.prog Go.AI.hintsS T (32 : Nat) [Bool.true, Bool.true, Bool.true, Bool.true, Bool.true, Bool.false] [] K)
  [((0 : Nat), Option.some (Go.Value.pointer (Option.some (Go.Addr.mk s (0 : Nat) Option.none)))), ((1 : Nat), Option.some (Go.Value.string name)),
  ((2 : Nat), Option.some (Go.Value.slice ba bn (1 : Nat))), ((9 : Nat), Option.some (Go.Value.int Go.IntKind.i64 n13)),
  ((33 : Nat), Option.some (Go.Value.bool ((↑(Go.AI.Sl.n s15) : Int) == (64 : Int))))]
  σ12)
  (Go.AI.JoinS (Go.AI.jn Go.Proofs.Tryz.prog Go.AI.hintsS T (32 : Nat) [Bool.true, Bool.true, Bool.true, Bool.true, Bool.true, Bool.false] [] K)
  [((0 : Nat), Option.some (Go.Value.pointer (Option.some (Go.Addr.mk s (0 : Nat) Option.none)))), ((1 : Nat), Option.some (Go.Value.string name)),
  ((2 : Nat), Option.some (Go.Value.slice ba bn (1 : Nat))), ((9 : Nat), Option.some (Go.Value.int Go.IntKind.i64 n13)), ((33 : Nat), Option.some (Go.Value.bool Bool.false))]
  σ12))) := by
  intros
  kernel_rfl

theorem s32j : ∀ (T : Go.AI.Ct) (s : Nat) (name : ByteArray) (ba : Option Go.Addr) (bn be : Nat) (i : Int) (r33_1 : Bool) (σ : Go.AI.AS) (K : Go.Value → Go.AI.AS → Prop),
  Go.AI.jn Go.Proofs.Tryz.prog Go.AI.hintsS T (32 : Nat) [Bool.true, Bool.true, Bool.true, Bool.true, Bool.true, Bool.false] [] K
  [((0 : Nat), Option.some (Go.Value.pointer (Option.some (Go.Addr.mk s (0 : Nat) Option.none)))), ((1 : Nat), Option.some (Go.Value.string name)), ((2 : Nat), Option.some (Go.Value.slice ba bn be)),
  ((9 : Nat), Option.some (Go.Value.int Go.IntKind.i64 i)), ((33 : Nat), Option.some (Go.Value.bool r33_1))]
  σ =
  Go.AI.bmatch r33_1 (K (Go.Value.int Go.IntKind.i64 (4 : Int)) σ)
  (T (20 : Nat) [Go.Value.pointer (Option.some (Go.Addr.mk s (0 : Nat) Option.none))] σ fun (v0 : Go.Value) (σ1 : Go.AI.AS) ↦
  Go.AI.tI Go.IntKind.i64 v0 fun (n2 : Int) ↦
  Go.AI.bmatch (Decidable.decide (i ≥ (0 : Int)))
  (Go.AI.ldc σ1 (Go.Addr.mk s ((0 : Nat) + (1 : Nat)) Option.none) fun (v3 : Go.Value) ↦
  Go.AI.tL (2 : Nat) v3 fun (s4 : Go.AI.Sl) ↦
  Go.AI.req ((0 : Int) ≤ i)
  (Go.AI.req (i < (↑(Go.AI.Sl.n s4) : Int))
  (Go.AI.pSome (Go.AI.Sl.a s4) fun (a5 : Go.Addr) ↦
  Go.AI.ldc σ1
  (Go.Addr.mk (Go.Addr.block (Go.Addr.add a5 (Int.toNat i * Go.AI.szOf Go.Proofs.Tryz.prog (112 : Nat))))
  (Go.Addr.off (Go.Addr.add a5 (Int.toNat i * Go.AI.szOf Go.Proofs.Tryz.prog (112 : Nat))) + (1 : Nat)) Option.none)
  fun (v6 : Go.Value) ↦
  Go.AI.tL (1 : Nat) v6 fun (s7 : Go.AI.Sl) ↦
  Go.AI.JoinS (Go.AI.jn Go.Proofs.Tryz.prog Go.AI.hintsS T (32 : Nat) [Bool.true, Bool.true, Bool.true, Bool.true, Bool.true, Bool.true, Bool.true] [] K)
  [((0 : Nat), Option.some (Go.Value.pointer (Option.some (Go.Addr.mk s (0 : Nat) Option.none)))), ((1 : Nat), Option.some (Go.Value.string name)),
  ((2 : Nat), Option.some (Go.Value.slice ba bn be)), ((9 : Nat), Option.some (Go.Value.int Go.IntKind.i64 i)),
  ((10 : Nat), Option.some (Go.Value.int Go.IntKind.i64 (Go.IntKind.wrap Go.IntKind.i64 (Go.IntKind.wrap Go.IntKind.i64 (n2 + (↑bn : Int)) - (↑(Go.AI.Sl.n s7) : Int)))))]
  σ1)))
  (Go.AI.JoinS (Go.AI.jn Go.Proofs.Tryz.prog Go.AI.hintsS T (32 : Nat) [Bool.true, Bool.true, Bool.true, Bool.true, Bool.true, Bool.true, Bool.true] [] K)
  [((0 : Nat), Option.some (Go.Value.pointer (Option.some (Go.Addr.mk s (0 : Nat) Option.none)))), ((1 : Nat), Option.some (Go.Value.string name)),
  ((2 : Nat), Option.some (Go.Value.slice ba bn be)), ((9 : Nat), Option.some (Go.Value.int Go.IntKind.i64 i)),
  ((10 : Nat), Option.some (Go.Value.int Go.IntKind.i64 (Go.IntKind.wrap Go.IntKind.i64 (n2 + (↑bn : Int)))))]
  σ1)) := by
  intros
  kernel_rfl

theorem s32j1 : ∀ (T : Go.AI.Ct) (s : Nat) (name : ByteArray) (ba : Option Go.Addr) (bn be : Nat) (i n : Int) (σ : Go.AI.AS) (K : Go.Value → Go.AI.AS → Prop),
  Go.AI.jn Go.Proofs.Tryz.prog Go.AI.hintsS T (32 : Nat) [Bool.true, Bool.true, Bool.true, Bool.true, Bool.true, Bool.true, Bool.true] [] K
  [((0 : Nat), Option.some (Go.Value.pointer (Option.some (Go.Addr.mk s (0 : Nat) Option.none)))), ((1 : Nat), Option.some (Go.Value.string name)), ((2 : Nat), Option.some (Go.Value.slice ba bn be)),
  ((9 : Nat), Option.some (Go.Value.int Go.IntKind.i64 i)), ((10 : Nat), Option.some (Go.Value.int Go.IntKind.i64 n))]
  σ =
  Go.AI.ldc σ (Go.Addr.mk s (0 : Nat) Option.none) fun (v0 : Go.Value) ↦
  Go.AI.tI Go.IntKind.i64 v0 fun (n1 : Int) ↦
  Go.AI.bmatch (Decidable.decide (n > n1)) (K (Go.Value.int Go.IntKind.i64 (7 : Int)) σ)
  (Go.AI.bmatch (Decidable.decide (i < (0 : Int)))
  (T (58 : Nat) [Go.Value.pointer (Option.some (Go.Addr.mk s (0 : Nat) Option.none)), Go.Value.string name] σ fun (v2 : Go.Value) (σ3 : Go.AI.AS) ↦
  Go.AI.JoinS (Go.AI.jn Go.Proofs.Tryz.prog Go.AI.hintsS T (32 : Nat) [Bool.true, Bool.true, Bool.true, Bool.true, Bool.true, Bool.true, Bool.true, Bool.true, Bool.true] [] K)
  [((0 : Nat), Option.some (Go.Value.pointer (Option.some (Go.Addr.mk s (0 : Nat) Option.none)))), ((1 : Nat), Option.some (Go.Value.string name)),
  ((2 : Nat), Option.some (Go.Value.slice ba bn be))]
  σ3)
  (Go.AI.JoinS (Go.AI.jn Go.Proofs.Tryz.prog Go.AI.hintsS T (32 : Nat) [Bool.true, Bool.true, Bool.true, Bool.true, Bool.true, Bool.true, Bool.true, Bool.true, Bool.true] [] K)
  [((0 : Nat), Option.some (Go.Value.pointer (Option.some (Go.Addr.mk s (0 : Nat) Option.none)))), ((1 : Nat), Option.some (Go.Value.string name)),
  ((2 : Nat), Option.some (Go.Value.slice ba bn be))]
  σ)) := by
  intros
  kernel_rfl

theorem s32j2 : ∀ (T : Go.AI.Ct) (s : Nat) (name : ByteArray) (ba : Option Go.Addr) (bn be : Nat) (σ : Go.AI.AS) (K : Go.Value → Go.AI.AS → Prop),
  Go.AI.jn Go.Proofs.Tryz.prog Go.AI.hintsS T (32 : Nat) [Bool.true, Bool.true, Bool.true, Bool.true, Bool.true, Bool.true, Bool.true, Bool.true, Bool.true] [] K
  [((0 : Nat), Option.some (Go.Value.pointer (Option.some (Go.Addr.mk s (0 : Nat) Option.none)))), ((1 : Nat), Option.some (Go.Value.string name)), ((2 : Nat), Option.some (Go.Value.slice ba bn be))] σ =
  ((Go.AI.ldc σ (Go.Addr.mk s ((0 : Nat) + (1 : Nat)) Option.none) fun (v0 : Go.Value) ↦
  Go.AI.tL (2 : Nat) v0 fun (s1 : Go.AI.Sl) ↦
  Go.AI.newAt σ (Go.AI.AObj.row Go.AI.RK.rw []) fun (i2 : Nat) (σ3 : Go.AI.AS) ↦
  Go.AI.ldc σ3 (Go.Addr.mk s ((0 : Nat) + (1 : Nat)) Option.none) fun (v4 : Go.Value) ↦
  Go.AI.tL (2 : Nat) v4 fun (s5 : Go.AI.Sl) ↦
  Go.Value.slice (Go.AI.Sl.a s1) (Go.AI.Sl.n s1) (Go.AI.szOf Go.Proofs.Tryz.prog (112 : Nat)) = Go.Value.slice (Go.AI.Sl.a s5) (Go.AI.Sl.n s5) (Go.AI.szOf Go.Proofs.Tryz.prog (112 : Nat)) ∧
  T (19 : Nat) [Go.Value.pointer (Option.some (Go.Addr.mk s (0 : Nat) Option.none)), Go.Value.string name] σ3 fun (v6 : Go.Value) (σ7 : Go.AI.AS) ↦
  Go.AI.tI Go.IntKind.i64 v6 fun (n8 : Int) ↦
  Go.AI.ldc σ7 (Go.Addr.mk s ((0 : Nat) + (1 : Nat)) Option.none) fun (v9 : Go.Value) ↦
  Go.AI.tL (2 : Nat) v9 fun (s10 : Go.AI.Sl) ↦
  Go.Value.slice (Go.AI.Sl.a s1) (Go.AI.Sl.n s1) (Go.AI.szOf Go.Proofs.Tryz.prog (112 : Nat)) = Go.Value.slice (Go.AI.Sl.a s10) (Go.AI.Sl.n s10) (Go.AI.szOf Go.Proofs.Tryz.prog (112 : Nat)) ∧
  Go.AI.srcCells σ7 (1 : Nat) (Option.some (Go.Value.slice ba bn be)) fun (m11 : Nat) (new12 : List Go.Value) ↦
  Go.AI.appendTo σ7 (1 : Nat) (1 : Nat) (Go.AI.Sl.mk (Option.some (Go.Addr.mk i2 (0 : Nat) Option.none)) (0 : Nat)) new12 m11 fun (s13 : Go.AI.Sl) (σ14 : Go.AI.AS) ↦
  Go.AI.ldc σ14 (Go.Addr.mk s ((0 : Nat) + (1 : Nat)) Option.none) fun (v15 : Go.Value) ↦
  Go.AI.tL (2 : Nat) v15 fun (s16 : Go.AI.Sl) ↦
  Go.Value.slice (Go.AI.Sl.a s1) (Go.AI.Sl.n s1) (Go.AI.szOf Go.Proofs.Tryz.prog (112 : Nat)) =
  Go.Value.slice (Go.AI.Sl.a s16) (Go.AI.Sl.n s16) (Go.AI.szOf Go.Proofs.Tryz.prog (112 : Nat)) ∧
  Go.AI.req ((0 : Int) ≤ n8)
  (Go.AI.req (n8 < (↑(Go.AI.Sl.n s1) : Int))
  (Go.AI.pSome (Go.AI.Sl.a s1) fun (a17 : Go.Addr) ↦
  Go.AI.put1 σ14
  (Go.Addr.mk (Go.Addr.block (Go.Addr.add a17 (Int.toNat n8 * Go.AI.szOf Go.Proofs.Tryz.prog (112 : Nat))))
  (Go.Addr.off (Go.Addr.add a17 (Int.toNat n8 * Go.AI.szOf Go.Proofs.Tryz.prog (112 : Nat))) + (1 : Nat)) Option.none)
  (Go.Value.slice (Go.AI.Sl.a s13) (Go.AI.Sl.n s13) (1 : Nat)) fun (σ18 : Go.AI.AS) ↦ K (Go.Value.int Go.IntKind.i64 (0 : Int)) σ18))) ∧
  Go.AI.ldc σ (Go.Addr.mk s ((0 : Nat) + (1 : Nat)) Option.none) fun (v19 : Go.Value) ↦
  Go.AI.tL (2 : Nat) v19 fun (s20 : Go.AI.Sl) ↦
  T (19 : Nat) [Go.Value.pointer (Option.some (Go.Addr.mk s (0 : Nat) Option.none)), Go.Value.string name] σ fun (v21 : Go.Value) (σ22 : Go.AI.AS) ↦
  Go.AI.tI Go.IntKind.i64 v21 fun (n23 : Int) ↦
  Go.AI.ldc σ22 (Go.Addr.mk s ((0 : Nat) + (1 : Nat)) Option.none) fun (v24 : Go.Value) ↦
  Go.AI.tL (2 : Nat) v24 fun (s25 : Go.AI.Sl) ↦
  Go.Value.slice (Go.AI.Sl.a s20) (Go.AI.Sl.n s20) (Go.AI.szOf Go.Proofs.Tryz.prog (112 : Nat)) = Go.Value.slice (Go.AI.Sl.a s25) (Go.AI.Sl.n s25) (Go.AI.szOf Go.Proofs.Tryz.prog (112 : Nat)) ∧
  Go.AI.newAt σ22 (Go.AI.AObj.row Go.AI.RK.rw []) fun (i26 : Nat) (σ27 : Go.AI.AS) ↦
  Go.AI.ldc σ27 (Go.Addr.mk s ((0 : Nat) + (1 : Nat)) Option.none) fun (v28 : Go.Value) ↦
  Go.AI.tL (2 : Nat) v28 fun (s29 : Go.AI.Sl) ↦
  Go.Value.slice (Go.AI.Sl.a s20) (Go.AI.Sl.n s20) (Go.AI.szOf Go.Proofs.Tryz.prog (112 : Nat)) = Go.Value.slice (Go.AI.Sl.a s29) (Go.AI.Sl.n s29) (Go.AI.szOf Go.Proofs.Tryz.prog (112 : Nat)) ∧
  Go.AI.srcCells σ27 (1 : Nat) (Option.some (Go.Value.slice ba bn be)) fun (m30 : Nat) (new31 : List Go.Value) ↦
  Go.AI.appendTo σ27 (1 : Nat) (1 : Nat) (Go.AI.Sl.mk (Option.some (Go.Addr.mk i26 (0 : Nat) Option.none)) (0 : Nat)) new31 m30 fun (s32 : Go.AI.Sl) (σ33 : Go.AI.AS) ↦
  Go.AI.ldc σ33 (Go.Addr.mk s ((0 : Nat) + (1 : Nat)) Option.none) fun (v34 : Go.Value) ↦
  Go.AI.tL (2 : Nat) v34 fun (s35 : Go.AI.Sl) ↦
  Go.Value.slice (Go.AI.Sl.a s20) (Go.AI.Sl.n s20) (Go.AI.szOf Go.Proofs.Tryz.prog (112 : Nat)) =
  Go.Value.slice (Go.AI.Sl.a s35) (Go.AI.Sl.n s35) (Go.AI.szOf Go.Proofs.Tryz.prog (112 : Nat)) ∧
  Go.AI.req ((0 : Int) ≤ n23)
  (Go.AI.req (n23 < (↑(Go.AI.Sl.n s20) : Int))
  (Go.AI.pSome (Go.AI.Sl.a s20) fun (a36 : Go.Addr) ↦
  Go.AI.put1 σ33
  (Go.Addr.mk (Go.Addr.block (Go.Addr.add a36 (Int.toNat n23 * Go.AI.szOf Go.Proofs.Tryz.prog (112 : Nat))))
  (Go.Addr.off (Go.Addr.add a36 (Int.toNat n23 * Go.AI.szOf Go.Proofs.Tryz.prog (112 : Nat))) + (1 : Nat)) Option.none)
  (Go.Value.slice (Go.AI.Sl.a s32) (Go.AI.Sl.n s32) (1 : Nat)) fun (σ37 : Go.AI.AS) ↦ K (Go.Value.int Go.IntKind.i64 (0 : Int)) σ37))) := by
  intros
  kernel_rfl

theorem s33 : ∀ (T : Go.AI.Ct) (s : Nat) (name : ByteArray) (σ : Go.AI.AS) (K : Go.Value → Go.AI.AS → Prop),
  Go.AI.fw Go.Proofs.Tryz.prog Go.AI.hintsS T (33 : Nat) [Go.Value.pointer (Option.some (Go.Addr.mk s (0 : Nat) Option.none)), Go.Value.string name] σ K =
  T (57 : Nat) [Go.Value.pointer (Option.some (Go.Addr.mk s (0 : Nat) Option.none)), Go.Value.string name] σ fun (v0 : Go.Value) (σ1 : Go.AI.AS) ↦
  Go.AI.tTup v0 fun (l2 : List Go.Value) ↦
  Go.AI.pSome l2[(0 : Nat)]? fun (u3 : Go.Value) ↦
  Go.AI.tB u3 fun (b4 : Bool) ↦
  Go.AI.tTup v0 fun (l5 : List Go.Value) ↦
  Go.AI.pSome l5[(1 : Nat)]? fun (u6 : Go.Value) ↦
  Go.AI.tB u6 fun (b7 : Bool) ↦
  T (19 : Nat) [Go.Value.pointer (Option.some (Go.Addr.mk s (0 : Nat) Option.none)), Go.Value.string name] σ1 fun (v8 : Go.Value) (σ9 : Go.AI.AS) ↦
  Go.AI.tI Go.IntKind.i64 v8 fun (n10 : Int) ↦
  Go.AI.bmatch (Decidable.decide (n10 < (0 : Int)))
  (Go.AI.JoinS (Go.AI.jn Go.Proofs.Tryz.prog Go.AI.hintsS T (33 : Nat) [Bool.true, Bool.true, Bool.true, Bool.false] [] K)
  [((0 : Nat), Option.some (Go.Value.pointer (Option.some (Go.Addr.mk s (0 : Nat) Option.none)))), ((7 : Nat), Option.some (Go.Value.int Go.IntKind.i64 n10)),
  ((21 : Nat), Option.some (Go.Value.bool Bool.true))]
  σ9)
  (Go.AI.JoinS (Go.AI.jn Go.Proofs.Tryz.prog Go.AI.hintsS T (33 : Nat) [Bool.true, Bool.true, Bool.true, Bool.false] [] K)
  [((0 : Nat), Option.some (Go.Value.pointer (Option.some (Go.Addr.mk s (0 : Nat) Option.none)))), ((7 : Nat), Option.some (Go.Value.int Go.IntKind.i64 n10)),
  ((21 : Nat), Option.some (Go.Value.bool b4))]
  σ9) := by
  intros
  kernel_rfl

theorem s33j : ∀ (T : Go.AI.Ct) (s : Nat) (i : Int) (r21_1 : Bool) (σ : Go.AI.AS) (K : Go.Value → Go.AI.AS → Prop),
  Go.AI.jn Go.Proofs.Tryz.prog Go.AI.hintsS T (33 : Nat) [Bool.true, Bool.true, Bool.true, Bool.false] [] K
  [((0 : Nat), Option.some (Go.Value.pointer (Option.some (Go.Addr.mk s (0 : Nat) Option.none)))), ((7 : Nat), Option.some (Go.Value.int Go.IntKind.i64 i)), ((21 : Nat), Option.some (Go.Value.bool r21_1))] σ =
  Go.AI.bmatch r21_1 (K (Go.Value.bool Bool.false) σ)
  (Go.AI.ldc σ (Go.Addr.mk s ((0 : Nat) + (1 : Nat)) Option.none) fun (v0 : Go.Value) ↦
  Go.AI.tL (2 : Nat) v0 fun (s1 : Go.AI.Sl) ↦
  Go.AI.req ((0 : Int) ≤ i)
  (Go.AI.req (i ≤ (↑(Go.AI.capLo σ (Go.AI.Sl.a s1) (Go.AI.szOf Go.Proofs.Tryz.prog (112 : Nat)) (Go.AI.Sl.n s1)) : Int))
  (Go.AI.ldc σ (Go.Addr.mk s ((0 : Nat) + (1 : Nat)) Option.none) fun (v2 : Go.Value) ↦
  Go.AI.tL (2 : Nat) v2 fun (s3 : Go.AI.Sl) ↦
  Go.AI.req ((0 : Int) ≤ Go.IntKind.wrap Go.IntKind.i64 (i + (1 : Int)))
  (Go.AI.req (Go.IntKind.wrap Go.IntKind.i64 (i + (1 : Int)) ≤ (↑(Go.AI.Sl.n s3) : Int))
  (Go.AI.req ((↑(Go.AI.Sl.n s3) : Int) ≤ (↑(Go.AI.capLo σ (Go.AI.Sl.a s3) (Go.AI.szOf Go.Proofs.Tryz.prog (112 : Nat)) (Go.AI.Sl.n s3)) : Int))
  (Go.AI.newAt σ (Go.AI.AObj.row Go.AI.RK.rw []) fun (i4 : Nat) (σ5 : Go.AI.AS) ↦
  Go.AI.req ((0 : Int) ≤ Go.IntKind.wrap Go.IntKind.i64 (i + (1 : Int)))
  (Go.AI.req (Go.IntKind.wrap Go.IntKind.i64 (i + (1 : Int)) ≤ (↑(Go.AI.Sl.n s3) : Int))
  (Go.AI.req ((↑(Go.AI.Sl.n s3) : Int) ≤ (↑(Go.AI.capLo σ5 (Go.AI.Sl.a s3) (Go.AI.szOf Go.Proofs.Tryz.prog (112 : Nat)) (Go.AI.Sl.n s3)) : Int))
  (Go.Value.slice (Option.map (fun (x : Go.Addr) ↦ Go.Addr.add x (Int.toNat (Go.IntKind.wrap Go.IntKind.i64 (i + (1 : Int))) * Go.AI.szOf Go.Proofs.Tryz.prog (112 : Nat))) (Go.AI.Sl.a s3))
  (Int.toNat ((↑(Go.AI.Sl.n s3) : Int) - Go.IntKind.wrap Go.IntKind.i64 (i + (1 : Int)))) (Go.AI.szOf Go.Proofs.Tryz.prog (112 : Nat)) =
  Go.Value.slice
  (Option.map (fun (x : Go.Addr) ↦ Go.Addr.add x (Int.toNat (Go.IntKind.wrap Go.IntKind.i64 (i + (1 : Int))) * Go.AI.szOf Go.Proofs.Tryz.prog (112 : Nat))) (Go.AI.Sl.a s3))
  (Int.toNat ((↑(Go.AI.Sl.n s3) : Int) - Go.IntKind.wrap Go.IntKind.i64 (i + (1 : Int)))) (Go.AI.szOf Go.Proofs.Tryz.prog (112 : Nat)) ∧
  Go.AI.ldc σ5 (Go.Addr.mk s ((0 : Nat) + (1 : Nat)) Option.none) fun (v6 : Go.Value) ↦
  Go.AI.tL (2 : Nat) v6 fun (s7 : Go.AI.Sl) ↦
  Go.Value.slice (Go.AI.Sl.a s3) (Go.AI.Sl.n s3) (Go.AI.szOf Go.Proofs.Tryz.prog (112 : Nat)) =
  Go.Value.slice (Go.AI.Sl.a s7) (Go.AI.Sl.n s7) (Go.AI.szOf Go.Proofs.Tryz.prog (112 : Nat)) ∧
  Go.AI.req ((0 : Int) ≤ i)
  (Go.AI.req (i ≤ (↑(Go.AI.capLo σ5 (Go.AI.Sl.a s1) (Go.AI.szOf Go.Proofs.Tryz.prog (112 : Nat)) (Go.AI.Sl.n s1)) : Int))
  (Go.Value.slice (Option.map (fun (x : Go.Addr) ↦ Go.Addr.add x (Int.toNat (0 : Int) * Go.AI.szOf Go.Proofs.Tryz.prog (112 : Nat))) (Go.AI.Sl.a s1))
  (Int.toNat (i - (0 : Int))) (Go.AI.szOf Go.Proofs.Tryz.prog (112 : Nat)) =
  Go.Value.slice (Option.map (fun (x : Go.Addr) ↦ Go.Addr.add x (Int.toNat (0 : Int) * Go.AI.szOf Go.Proofs.Tryz.prog (112 : Nat))) (Go.AI.Sl.a s1))
  (Int.toNat (i - (0 : Int))) (Go.AI.szOf Go.Proofs.Tryz.prog (112 : Nat)) ∧
  Go.AI.ldc σ5 (Go.Addr.mk s ((0 : Nat) + (1 : Nat)) Option.none) fun (v8 : Go.Value) ↦
  Go.AI.tL (2 : Nat) v8 fun (s9 : Go.AI.Sl) ↦
  Go.Value.slice (Go.AI.Sl.a s1) (Go.AI.Sl.n s1) (Go.AI.szOf Go.Proofs.Tryz.prog (112 : Nat)) =
  Go.Value.slice (Go.AI.Sl.a s9) (Go.AI.Sl.n s9) (Go.AI.szOf Go.Proofs.Tryz.prog (112 : Nat)) ∧
  Go.AI.srcCells σ5 (2 : Nat)
  (Option.some
  (Go.Value.slice (Option.map (fun (x : Go.Addr) ↦ Go.Addr.add x (Int.toNat (0 : Int) * Go.AI.szOf Go.Proofs.Tryz.prog (112 : Nat))) (Go.AI.Sl.a s1))
  (Int.toNat (i - (0 : Int))) (2 : Nat)))
  fun (m10 : Nat) (new11 : List Go.Value) ↦
  Go.AI.appendTo σ5 (2 : Nat) (40 : Nat) (Go.AI.Sl.mk (Option.some (Go.Addr.mk i4 (0 : Nat) Option.none)) (0 : Nat)) new11 m10 fun (s12 : Go.AI.Sl) (σ13 : Go.AI.AS) ↦
  Go.AI.req ((0 : Int) ≤ Go.IntKind.wrap Go.IntKind.i64 (i + (1 : Int)))
  (Go.AI.req (Go.IntKind.wrap Go.IntKind.i64 (i + (1 : Int)) ≤ (↑(Go.AI.Sl.n s3) : Int))
  (Go.AI.req ((↑(Go.AI.Sl.n s3) : Int) ≤ (↑(Go.AI.capLo σ13 (Go.AI.Sl.a s3) (Go.AI.szOf Go.Proofs.Tryz.prog (112 : Nat)) (Go.AI.Sl.n s3)) : Int))
  (Go.Value.slice
  (Option.map
  (fun (x : Go.Addr) ↦ Go.Addr.add x (Int.toNat (Go.IntKind.wrap Go.IntKind.i64 (i + (1 : Int))) * Go.AI.szOf Go.Proofs.Tryz.prog (112 : Nat)))
  (Go.AI.Sl.a s3))
  (Int.toNat ((↑(Go.AI.Sl.n s3) : Int) - Go.IntKind.wrap Go.IntKind.i64 (i + (1 : Int)))) (Go.AI.szOf Go.Proofs.Tryz.prog (112 : Nat)) =
  Go.Value.slice
  (Option.map
  (fun (x : Go.Addr) ↦ Go.Addr.add x (Int.toNat (Go.IntKind.wrap Go.IntKind.i64 (i + (1 : Int))) * Go.AI.szOf Go.Proofs.Tryz.prog (112 : Nat)))
  (Go.AI.Sl.a s3))
  (Int.toNat ((↑(Go.AI.Sl.n s3) : Int) - Go.IntKind.wrap Go.IntKind.i64 (i + (1 : Int)))) (Go.AI.szOf Go.Proofs.Tryz.prog (112 : Nat)) ∧
  Go.AI.ldc σ13 (Go.Addr.mk s ((0 : Nat) + (1 : Nat)) Option.none) fun (v14 : Go.Value) ↦
  Go.AI.tL (2 : Nat) v14 fun (s15 : Go.AI.Sl) ↦
  Go.Value.slice (Go.AI.Sl.a s3) (Go.AI.Sl.n s3) (Go.AI.szOf Go.Proofs.Tryz.prog (112 : Nat)) =
  Go.Value.slice (Go.AI.Sl.a s15) (Go.AI.Sl.n s15) (Go.AI.szOf Go.Proofs.Tryz.prog (112 : Nat)) ∧
  Go.AI.srcCells σ13 (2 : Nat)
  (Option.some
  (Go.Value.slice
  (Option.map
  (fun (x : Go.Addr) ↦
  Go.Addr.add x (Int.toNat (Go.IntKind.wrap Go.IntKind.i64 (i + (1 : Int))) * Go.AI.szOf Go.Proofs.Tryz.prog (112 : Nat)))
  (Go.AI.Sl.a s3))
  (Int.toNat ((↑(Go.AI.Sl.n s3) : Int) - Go.IntKind.wrap Go.IntKind.i64 (i + (1 : Int)))) (2 : Nat)))
  fun (m16 : Nat) (new17 : List Go.Value) ↦
  Go.AI.appendTo σ13 (2 : Nat) (40 : Nat) (Go.AI.Sl.mk (Go.AI.Sl.a s12) (Go.AI.Sl.n s12)) new17 m16 fun (s18 : Go.AI.Sl) (σ19 : Go.AI.AS) ↦
  Go.AI.put1 σ19 (Go.Addr.mk s ((0 : Nat) + (1 : Nat)) Option.none) (Go.Value.slice (Go.AI.Sl.a s18) (Go.AI.Sl.n s18) (2 : Nat))
  fun (σ20 : Go.AI.AS) ↦ K (Go.Value.bool Bool.true) σ20)))))))))))))) := by
  intros
  kernel_rfl

theorem s34 : ∀ (T : Go.AI.Ct) (s : Nat) (name : ByteArray) (mode : Int) (wide : Bool) (σ : Go.AI.AS) (K : Go.Value → Go.AI.AS → Prop),
  Go.AI.fw Go.Proofs.Tryz.prog Go.AI.hintsS T (34 : Nat) [Go.Value.pointer (Option.some (Go.Addr.mk s (0 : Nat) Option.none)), Go.Value.string name, Go.Value.int Go.IntKind.i64 mode, Go.Value.bool wide] σ
  K =
  T (56 : Nat) [Go.Value.string name] σ fun (v0 : Go.Value) (σ1 : Go.AI.AS) ↦
  Go.AI.tB v0 fun (b2 : Bool) ↦
  Go.AI.bmatch (!b2)
  (Go.AI.JoinS (Go.AI.jn Go.Proofs.Tryz.prog Go.AI.hintsS T (34 : Nat) [Bool.true, Bool.false] [] K)
  [((0 : Nat), Option.some (Go.Value.pointer (Option.some (Go.Addr.mk s (0 : Nat) Option.none)))), ((1 : Nat), Option.some (Go.Value.string name)),
  ((2 : Nat), Option.some (Go.Value.int Go.IntKind.i64 mode)), ((3 : Nat), Option.some (Go.Value.bool wide)), ((32 : Nat), Option.some (Go.Value.bool Bool.true))]
  σ1)
  (Go.AI.bmatch (mode != (1 : Int))
  (Go.AI.bmatch (mode != (2 : Int))
  (Go.AI.bmatch (mode != (3 : Int))
  (Go.AI.JoinS (Go.AI.jn Go.Proofs.Tryz.prog Go.AI.hintsS T (34 : Nat) [Bool.true, Bool.false] [] K)
  [((0 : Nat), Option.some (Go.Value.pointer (Option.some (Go.Addr.mk s (0 : Nat) Option.none)))), ((1 : Nat), Option.some (Go.Value.string name)),
  ((2 : Nat), Option.some (Go.Value.int Go.IntKind.i64 mode)), ((3 : Nat), Option.some (Go.Value.bool wide)), ((32 : Nat), Option.some (Go.Value.bool (mode != (5 : Int))))]
  σ1)
  (Go.AI.JoinS (Go.AI.jn Go.Proofs.Tryz.prog Go.AI.hintsS T (34 : Nat) [Bool.true, Bool.false] [] K)
  [((0 : Nat), Option.some (Go.Value.pointer (Option.some (Go.Addr.mk s (0 : Nat) Option.none)))), ((1 : Nat), Option.some (Go.Value.string name)),
  ((2 : Nat), Option.some (Go.Value.int Go.IntKind.i64 mode)), ((3 : Nat), Option.some (Go.Value.bool wide)), ((32 : Nat), Option.some (Go.Value.bool Bool.false))]
  σ1))
  (Go.AI.JoinS (Go.AI.jn Go.Proofs.Tryz.prog Go.AI.hintsS T (34 : Nat) [Bool.true, Bool.false] [] K)
  [((0 : Nat), Option.some (Go.Value.pointer (Option.some (Go.Addr.mk s (0 : Nat) Option.none)))), ((1 : Nat), Option.some (Go.Value.string name)),
  ((2 : Nat), Option.some (Go.Value.int Go.IntKind.i64 mode)), ((3 : Nat), Option.some (Go.Value.bool wide)), ((32 : Nat), Option.some (Go.Value.bool Bool.false))]
  σ1))
  (Go.AI.JoinS (Go.AI.jn Go.Proofs.Tryz.prog Go.AI.hintsS T (34 : Nat) [Bool.true, Bool.false] [] K)
  [((0 : Nat), Option.some (Go.Value.pointer (Option.some (Go.Addr.mk s (0 : Nat) Option.none)))), ((1 : Nat), Option.some (Go.Value.string name)),
  ((2 : Nat), Option.some (Go.Value.int Go.IntKind.i64 mode)), ((3 : Nat), Option.some (Go.Value.bool wide)), ((32 : Nat), Option.some (Go.Value.bool Bool.false))]
  σ1)) := by
  intros
  kernel_rfl

theorem s34j : ∀ (T : Go.AI.Ct) (s : Nat) (name : ByteArray) (mode : Int) (wide r32_1 : Bool) (σ : Go.AI.AS) (K : Go.Value → Go.AI.AS → Prop),
  Go.AI.jn Go.Proofs.Tryz.prog Go.AI.hintsS T (34 : Nat) [Bool.true, Bool.false] [] K
  [((0 : Nat), Option.some (Go.Value.pointer (Option.some (Go.Addr.mk s (0 : Nat) Option.none)))), ((1 : Nat), Option.some (Go.Value.string name)), ((2 : Nat), Option.some (Go.Value.int Go.IntKind.i64 mode)),
  ((3 : Nat), Option.some (Go.Value.bool wide)), ((32 : Nat), Option.some (Go.Value.bool r32_1))]
  σ =
  Go.AI.bmatch r32_1 (K (Go.Value.tuple (Array.mk [Go.Value.int Go.IntKind.i64 (0 : Int), Go.Value.int Go.IntKind.i64 (1 : Int)])) σ)
  (Go.AI.ldc σ (Go.Addr.mk s ((0 : Nat) + (2 : Nat)) Option.none) fun (v0 : Go.Value) ↦
  Go.AI.tL (8 : Nat) v0 fun (s1 : Go.AI.Sl) ↦
  Go.AI.bmatch ((↑(Go.AI.Sl.n s1) : Int) == (64 : Int)) (K (Go.Value.tuple (Array.mk [Go.Value.int Go.IntKind.i64 (0 : Int), Go.Value.int Go.IntKind.i64 (4 : Int)])) σ)
  (T (19 : Nat) [Go.Value.pointer (Option.some (Go.Addr.mk s (0 : Nat) Option.none)), Go.Value.string name] σ fun (v2 : Go.Value) (σ3 : Go.AI.AS) ↦
  Go.AI.tI Go.IntKind.i64 v2 fun (n4 : Int) ↦
  Go.AI.bmatch (Decidable.decide (n4 < (0 : Int)))
  (Go.AI.JoinS (Go.AI.jn Go.Proofs.Tryz.prog Go.AI.hintsS T (34 : Nat) [Bool.true, Bool.true, Bool.true, Bool.true, Bool.false] [] K)
  [((0 : Nat), Option.some (Go.Value.pointer (Option.some (Go.Addr.mk s (0 : Nat) Option.none)))), ((1 : Nat), Option.some (Go.Value.string name)),
  ((2 : Nat), Option.some (Go.Value.int Go.IntKind.i64 mode)), ((3 : Nat), Option.some (Go.Value.bool wide)), ((10 : Nat), Option.some (Go.Value.int Go.IntKind.i64 n4)),
  ((47 : Nat), Option.some (Go.Value.bool (mode == (2 : Int))))]
  σ3)
  (Go.AI.JoinS (Go.AI.jn Go.Proofs.Tryz.prog Go.AI.hintsS T (34 : Nat) [Bool.true, Bool.true, Bool.true, Bool.true, Bool.false] [] K)
  [((0 : Nat), Option.some (Go.Value.pointer (Option.some (Go.Addr.mk s (0 : Nat) Option.none)))), ((1 : Nat), Option.some (Go.Value.string name)),
  ((2 : Nat), Option.some (Go.Value.int Go.IntKind.i64 mode)), ((3 : Nat), Option.some (Go.Value.bool wide)), ((10 : Nat), Option.some (Go.Value.int Go.IntKind.i64 n4)),
  ((47 : Nat), Option.some (Go.Value.bool Bool.false))]
  σ3))) := by
  intros
  kernel_rfl

theorem s34j1 : ∀ (T : Go.AI.Ct) (s : Nat) (name : ByteArray) (mode : Int) (wide : Bool) (i : Int) (r47_1 : Bool) (σ : Go.AI.AS) (K : Go.Value → Go.AI.AS → Prop),
  Go.AI.jn Go.Proofs.Tryz.prog Go.AI.hintsS T (34 : Nat) [Bool.true, Bool.true, Bool.true, Bool.true, Bool.false] [] K
  [((0 : Nat), Option.some (Go.Value.pointer (Option.some (Go.Addr.mk s (0 : Nat) Option.none)))), ((1 : Nat), Option.some (Go.Value.string name)), ((2 : Nat), Option.some (Go.Value.int Go.IntKind.i64 mode)),
  ((3 : Nat), Option.some (Go.Value.bool wide)), ((10 : Nat), Option.some (Go.Value.int Go.IntKind.i64 i)), ((47 : Nat), Option.some (Go.Value.bool r47_1))]
  σ =
  Go.AI.bmatch r47_1 (K (Go.Value.tuple (Array.mk [Go.Value.int Go.IntKind.i64 (0 : Int), Go.Value.int Go.IntKind.i64 (5 : Int)])) σ)
  (Go.AI.bmatch (Decidable.decide (i < (0 : Int)))
  (Go.AI.ldc σ (Go.Addr.mk s ((0 : Nat) + (1 : Nat)) Option.none) fun (v0 : Go.Value) ↦
  Go.AI.tL (2 : Nat) v0 fun (s1 : Go.AI.Sl) ↦
  Go.AI.JoinS (Go.AI.jn Go.Proofs.Tryz.prog Go.AI.hintsS T (34 : Nat) [Bool.true, Bool.true, Bool.true, Bool.true, Bool.true, Bool.false] [] K)
  [((0 : Nat), Option.some (Go.Value.pointer (Option.some (Go.Addr.mk s (0 : Nat) Option.none)))), ((1 : Nat), Option.some (Go.Value.string name)),
  ((2 : Nat), Option.some (Go.Value.int Go.IntKind.i64 mode)), ((3 : Nat), Option.some (Go.Value.bool wide)), ((10 : Nat), Option.some (Go.Value.int Go.IntKind.i64 i)),
  ((57 : Nat), Option.some (Go.Value.bool ((↑(Go.AI.Sl.n s1) : Int) == (64 : Int))))]
  σ)
  (Go.AI.JoinS (Go.AI.jn Go.Proofs.Tryz.prog Go.AI.hintsS T (34 : Nat) [Bool.true, Bool.true, Bool.true, Bool.true, Bool.true, Bool.false] [] K)
  [((0 : Nat), Option.some (Go.Value.pointer (Option.some (Go.Addr.mk s (0 : Nat) Option.none)))), ((1 : Nat), Option.some (Go.Value.string name)),
  ((2 : Nat), Option.some (Go.Value.int Go.IntKind.i64 mode)), ((3 : Nat), Option.some (Go.Value.bool wide)), ((10 : Nat), Option.some (Go.Value.int Go.IntKind.i64 i)),
  ((57 : Nat), Option.some (Go.Value.bool Bool.false))]
  σ)) := by
  intros
  kernel_rfl

theorem s34j2 : ∀ (T : Go.AI.Ct) (s : Nat) (name : ByteArray) (mode : Int) (wide : Bool) (i : Int) (r57_1 : Bool) (σ : Go.AI.AS) (K : Go.Value → Go.AI.AS → Prop),
  Go.AI.jn Go.Proofs.Tryz.prog Go.AI.hintsS T (34 : Nat) [Bool.true, Bool.true, Bool.true, Bool.true, Bool.true, Bool.false] [] K
  [((0 : Nat), Option.some (Go.Value.pointer (Option.some (Go.Addr.mk s (0 : Nat) Option.none)))), ((1 : Nat), Option.some (Go.Value.string name)), ((2 : Nat), Option.some (Go.Value.int Go.IntKind.i64 mode)),
  ((3 : Nat), Option.some (Go.Value.bool wide)), ((10 : Nat), Option.some (Go.Value.int Go.IntKind.i64 i)), ((57 : Nat), Option.some (Go.Value.bool r57_1))]
  σ =
  Go.AI.bmatch r57_1 (K (Go.Value.tuple (Array.mk [Go.Value.int Go.IntKind.i64 (0 : Int), Go.Value.int Go.IntKind.i64 (4 : Int)])) σ)
  (T (57 : Nat) [Go.Value.pointer (Option.some (Go.Addr.mk s (0 : Nat) Option.none)), Go.Value.string name] σ fun (v0 : Go.Value) (σ1 : Go.AI.AS) ↦
  Go.AI.tTup v0 fun (l2 : List Go.Value) ↦
  Go.AI.pSome l2[(0 : Nat)]? fun (u3 : Go.Value) ↦
  Go.AI.tB u3 fun (b4 : Bool) ↦
  Go.AI.tTup v0 fun (l5 : List Go.Value) ↦
  Go.AI.pSome l5[(1 : Nat)]? fun (u6 : Go.Value) ↦
  Go.AI.tB u6 fun (b7 : Bool) ↦
  Go.AI.bmatch b4
  (Go.AI.bmatch b7
  (Go.AI.JoinS (Go.AI.jn Go.Proofs.Tryz.prog Go.AI.hintsS T (34 : Nat) [Bool.true, Bool.true, Bool.true, Bool.true, Bool.true, Bool.true, Bool.true, Bool.false] [] K)
  [((0 : Nat), Option.some (Go.Value.pointer (Option.some (Go.Addr.mk s (0 : Nat) Option.none)))), ((1 : Nat), Option.some (Go.Value.string name)),
  ((2 : Nat), Option.some (Go.Value.int Go.IntKind.i64 mode)), ((3 : Nat), Option.some (Go.Value.bool wide)), ((10 : Nat), Option.some (Go.Value.int Go.IntKind.i64 i)),
  ((71 : Nat), Option.some (Go.Value.bool Bool.true))]
  σ1)
  (Go.AI.JoinS (Go.AI.jn Go.Proofs.Tryz.prog Go.AI.hintsS T (34 : Nat) [Bool.true, Bool.true, Bool.true, Bool.true, Bool.true, Bool.true, Bool.true, Bool.false] [] K)
  [((0 : Nat), Option.some (Go.Value.pointer (Option.some (Go.Addr.mk s (0 : Nat) Option.none)))), ((1 : Nat), Option.some (Go.Value.string name)),
  ((2 : Nat), Option.some (Go.Value.int Go.IntKind.i64 mode)), ((3 : Nat), Option.some (Go.Value.bool wide)), ((10 : Nat), Option.some (Go.Value.int Go.IntKind.i64 i)),
  ((71 : Nat), Option.some (Go.Value.bool (mode != (2 : Int))))]
  σ1))
  (Go.AI.JoinS (Go.AI.jn Go.Proofs.Tryz.prog Go.AI.hintsS T (34 : Nat) [Bool.true, Bool.true, Bool.true, Bool.true, Bool.true, Bool.true, Bool.true, Bool.false] [] K)
  [((0 : Nat), Option.some (Go.Value.pointer (Option.some (Go.Addr.mk s (0 : Nat) Option.none)))), ((1 : Nat), Option.some (Go.Value.string name)),
  ((2 : Nat), Option.some (Go.Value.int Go.IntKind.i64 mode)), ((3 : Nat), Option.some (Go.Value.bool wide)), ((10 : Nat), Option.some (Go.Value.int Go.IntKind.i64 i)),
  ((71 : Nat), Option.some (Go.Value.bool Bool.false))]
  σ1)) := by
  intros
  kernel_rfl

theorem s34j3 : ∀ (T : Go.AI.Ct) (s : Nat) (name : ByteArray) (mode : Int) (wide : Bool) (i : Int) (r71_1 : Bool) (σ : Go.AI.AS) (K : Go.Value → Go.AI.AS → Prop),
  Go.AI.jn Go.Proofs.Tryz.prog Go.AI.hintsS T (34 : Nat) [Bool.true, Bool.true, Bool.true, Bool.true, Bool.true, Bool.true, Bool.true, Bool.false] [] K
  [((0 : Nat), Option.some (Go.Value.pointer (Option.some (Go.Addr.mk s (0 : Nat) Option.none)))), ((1 : Nat), Option.some (Go.Value.string name)), ((2 : Nat), Option.some (Go.Value.int Go.IntKind.i64 mode)),
  ((3 : Nat), Option.some (Go.Value.bool wide)), ((10 : Nat), Option.some (Go.Value.int Go.IntKind.i64 i)), ((71 : Nat), Option.some (Go.Value.bool r71_1))]
  σ =
  Go.AI.bmatch r71_1 (K (Go.Value.tuple (Array.mk [Go.Value.int Go.IntKind.i64 (0 : Int), Go.Value.int Go.IntKind.i64 (6 : Int)])) σ)
  (Go.AI.bmatch (Decidable.decide (i < (0 : Int)))
  (T (58 : Nat) [Go.Value.pointer (Option.some (Go.Addr.mk s (0 : Nat) Option.none)), Go.Value.string name] σ fun (v0 : Go.Value) (σ1 : Go.AI.AS) ↦
  T (19 : Nat) [Go.Value.pointer (Option.some (Go.Addr.mk s (0 : Nat) Option.none)), Go.Value.string name] σ1 fun (v2 : Go.Value) (σ3 : Go.AI.AS) ↦
  Go.AI.tI Go.IntKind.i64 v2 fun (n4 : Int) ↦
  Go.AI.JoinS (Go.AI.jn Go.Proofs.Tryz.prog Go.AI.hintsS T (34 : Nat) [Bool.true, Bool.true, Bool.true, Bool.true, Bool.true, Bool.true, Bool.true, Bool.true] [] K)
  [((0 : Nat), Option.some (Go.Value.pointer (Option.some (Go.Addr.mk s (0 : Nat) Option.none)))), ((1 : Nat), Option.some (Go.Value.string name)),
  ((2 : Nat), Option.some (Go.Value.int Go.IntKind.i64 mode)), ((3 : Nat), Option.some (Go.Value.bool wide)), ((10 : Nat), Option.some (Go.Value.int Go.IntKind.i64 n4))]
  σ3)
  (Go.AI.JoinS (Go.AI.jn Go.Proofs.Tryz.prog Go.AI.hintsS T (34 : Nat) [Bool.true, Bool.true, Bool.true, Bool.true, Bool.true, Bool.true, Bool.true, Bool.true] [] K)
  [((0 : Nat), Option.some (Go.Value.pointer (Option.some (Go.Addr.mk s (0 : Nat) Option.none)))), ((1 : Nat), Option.some (Go.Value.string name)),
  ((2 : Nat), Option.some (Go.Value.int Go.IntKind.i64 mode)), ((3 : Nat), Option.some (Go.Value.bool wide)), ((10 : Nat), Option.some (Go.Value.int Go.IntKind.i64 i))]
  σ)) := by
  intros
  kernel_rfl

theorem s34j4 : ∀ (T : Go.AI.Ct) (s : Nat) (name : ByteArray) (mode : Int) (wide : Bool) (i : Int) (σ : Go.AI.AS) (K : Go.Value → Go.AI.AS → Prop),
  Go.AI.jn Go.Proofs.Tryz.prog Go.AI.hintsS T (34 : Nat) [Bool.true, Bool.true, Bool.true, Bool.true, Bool.true, Bool.true, Bool.true, Bool.true] [] K
  [((0 : Nat), Option.some (Go.Value.pointer (Option.some (Go.Addr.mk s (0 : Nat) Option.none)))), ((1 : Nat), Option.some (Go.Value.string name)), ((2 : Nat), Option.some (Go.Value.int Go.IntKind.i64 mode)),
  ((3 : Nat), Option.some (Go.Value.bool wide)), ((10 : Nat), Option.some (Go.Value.int Go.IntKind.i64 i))]
  σ =
  Go.AI.bmatch (mode == (1 : Int))
  (Go.AI.ldc σ (Go.Addr.mk s ((0 : Nat) + (1 : Nat)) Option.none) fun (v0 : Go.Value) ↦
  Go.AI.tL (2 : Nat) v0 fun (s1 : Go.AI.Sl) ↦
  Go.AI.req ((0 : Int) ≤ i)
  (Go.AI.req (i < (↑(Go.AI.Sl.n s1) : Int))
  (Go.AI.pSome (Go.AI.Sl.a s1) fun (a2 : Go.Addr) ↦
  Go.AI.put1 σ
  (Go.Addr.mk (Go.Addr.block (Go.Addr.add a2 (Int.toNat i * Go.AI.szOf Go.Proofs.Tryz.prog (112 : Nat))))
  (Go.Addr.off (Go.Addr.add a2 (Int.toNat i * Go.AI.szOf Go.Proofs.Tryz.prog (112 : Nat))) + (1 : Nat)) Option.none)
  (Go.Value.slice Option.none (0 : Nat) (0 : Nat)) fun (σ3 : Go.AI.AS) ↦
  Go.AI.JoinS (Go.AI.jn Go.Proofs.Tryz.prog Go.AI.hintsS T (34 : Nat) [Bool.true, Bool.true, Bool.true, Bool.true, Bool.true, Bool.true, Bool.true, Bool.true, Bool.true] [] K)
  [((0 : Nat), Option.some (Go.Value.pointer (Option.some (Go.Addr.mk s (0 : Nat) Option.none)))), ((1 : Nat), Option.some (Go.Value.string name)),
  ((2 : Nat), Option.some (Go.Value.int Go.IntKind.i64 mode)), ((3 : Nat), Option.some (Go.Value.bool wide))]
  σ3)))
  (Go.AI.JoinS (Go.AI.jn Go.Proofs.Tryz.prog Go.AI.hintsS T (34 : Nat) [Bool.true, Bool.true, Bool.true, Bool.true, Bool.true, Bool.true, Bool.true, Bool.true, Bool.true] [] K)
  [((0 : Nat), Option.some (Go.Value.pointer (Option.some (Go.Addr.mk s (0 : Nat) Option.none)))), ((1 : Nat), Option.some (Go.Value.string name)), ((2 : Nat), Option.some (Go.Value.int Go.IntKind.i64 mode)),
  ((3 : Nat), Option.some (Go.Value.bool wide))]
  σ) := by
  intros
  kernel_rfl

theorem s34j5 : ∀ (T : Go.AI.Ct) (s : Nat) (name : ByteArray) (mode : Int) (wide : Bool) (σ : Go.AI.AS) (K : Go.Value → Go.AI.AS → Prop),
  Go.AI.jn Go.Proofs.Tryz.prog Go.AI.hintsS T (34 : Nat) [Bool.true, Bool.true, Bool.true, Bool.true, Bool.true, Bool.true, Bool.true, Bool.true, Bool.true] [] K
  [((0 : Nat), Option.some (Go.Value.pointer (Option.some (Go.Addr.mk s (0 : Nat) Option.none)))), ((1 : Nat), Option.some (Go.Value.string name)), ((2 : Nat), Option.some (Go.Value.int Go.IntKind.i64 mode)),
  ((3 : Nat), Option.some (Go.Value.bool wide))]
  σ =
  Go.AI.newAt σ
  (Go.AI.AObj.row Go.AI.RK.plain
  [Go.Value.int Go.IntKind.i64 (0 : Int), Go.Value.string (ByteArray.mk #[]), Go.Value.slice Option.none (0 : Nat) (0 : Nat), Go.Value.int Go.IntKind.i64 (0 : Int), Go.Value.bool Bool.false,
  Go.Value.int Go.IntKind.i64 (0 : Int), Go.Value.int Go.IntKind.i64 (0 : Int), Go.Value.int Go.IntKind.i64 (0 : Int)])
  fun (i0 : Nat) (σ1 : Go.AI.AS) ↦
  Go.AI.puts σ1 (Go.Addr.mk i0 (0 : Nat) Option.none)
  [Go.Value.int Go.IntKind.i64 (0 : Int), Go.Value.string name, Go.Value.slice Option.none (0 : Nat) (0 : Nat), Go.Value.int Go.IntKind.i64 mode, Go.Value.bool wide, Go.Value.int Go.IntKind.i64 (0 : Int),
  Go.Value.int Go.IntKind.i64 (0 : Int), Go.Value.int Go.IntKind.i64 (0 : Int)]
  fun (σ2 : Go.AI.AS) ↦
  Go.AI.bmatch (mode == (5 : Int))
  (Go.AI.lds σ2 (Go.Addr.mk i0 (0 : Nat) Option.none) (8 : Nat) fun (l3 : List Go.Value) ↦
  Go.AI.tCons l3 fun (v4 : Go.Value) (l5 : List Go.Value) ↦
  Go.AI.tI Go.IntKind.i64 v4 fun (n6 : Int) ↦
  Go.AI.tCons l5 fun (v7 : Go.Value) (l8 : List Go.Value) ↦
  Go.AI.tS v7 fun (b9 : ByteArray) ↦
  Go.AI.tCons l8 fun (v10 : Go.Value) (l11 : List Go.Value) ↦
  Go.AI.tL (1 : Nat) v10 fun (s12 : Go.AI.Sl) ↦
  Go.AI.tCons l11 fun (v13 : Go.Value) (l14 : List Go.Value) ↦
  Go.AI.tI Go.IntKind.i64 v13 fun (n15 : Int) ↦
  Go.AI.tCons l14 fun (v16 : Go.Value) (l17 : List Go.Value) ↦
  Go.AI.tB v16 fun (b18 : Bool) ↦
  Go.AI.tCons l17 fun (v19 : Go.Value) (l20 : List Go.Value) ↦
  Go.AI.tI Go.IntKind.i64 v19 fun (n21 : Int) ↦
  Go.AI.tCons l20 fun (v22 : Go.Value) (l23 : List Go.Value) ↦
  Go.AI.tI Go.IntKind.i64 v22 fun (n24 : Int) ↦
  Go.AI.tCons l23 fun (v25 : Go.Value) (l26 : List Go.Value) ↦
  Go.AI.tI Go.IntKind.i64 v25 fun (n27 : Int) ↦
  Go.AI.tNil l26
  (T (59 : Nat)
  [Go.Value.pointer (Option.some (Go.Addr.mk s (0 : Nat) Option.none)),
  Go.Value.agg
  (Array.mk
  [Go.Value.int Go.IntKind.i64 n6, Go.Value.string b9, Go.Value.slice (Go.AI.Sl.a s12) (Go.AI.Sl.n s12) (1 : Nat), Go.Value.int Go.IntKind.i64 n15, Go.Value.bool b18,
  Go.Value.int Go.IntKind.i64 n21, Go.Value.int Go.IntKind.i64 n24, Go.Value.int Go.IntKind.i64 n27])]
  σ2 fun (v28 : Go.Value) (σ29 : Go.AI.AS) ↦
  Go.AI.tL (1 : Nat) v28 fun (s30 : Go.AI.Sl) ↦
  Go.AI.put1 σ29 (Go.Addr.mk i0 ((0 : Nat) + (5 : Nat)) Option.none) (Go.Value.int Go.IntKind.i64 (↑(Go.AI.Sl.n s30) : Int)) fun (σ31 : Go.AI.AS) ↦
  Go.AI.JoinS
  (Go.AI.jn Go.Proofs.Tryz.prog Go.AI.hintsS T (34 : Nat)
  [Bool.true, Bool.true, Bool.true, Bool.true, Bool.true, Bool.true, Bool.true, Bool.true, Bool.true, Bool.true, Bool.true] [] K)
  [((0 : Nat), Option.some (Go.Value.pointer (Option.some (Go.Addr.mk s (0 : Nat) Option.none)))),
  ((13 : Nat), Option.some (Go.Value.pointer (Option.some (Go.Addr.mk i0 (0 : Nat) Option.none))))]
  σ31))
  (Go.AI.JoinS (Go.AI.jn Go.Proofs.Tryz.prog Go.AI.hintsS T (34 : Nat) [Bool.true, Bool.true, Bool.true, Bool.true, Bool.true, Bool.true, Bool.true, Bool.true, Bool.true, Bool.true, Bool.true] [] K)
  [((0 : Nat), Option.some (Go.Value.pointer (Option.some (Go.Addr.mk s (0 : Nat) Option.none)))), ((13 : Nat), Option.some (Go.Value.pointer (Option.some (Go.Addr.mk i0 (0 : Nat) Option.none))))] σ2) := by
  intros
  kernel_rfl

theorem s34j6 : ∀ (T : Go.AI.Ct) (s x : Nat) (σ : Go.AI.AS) (K : Go.Value → Go.AI.AS → Prop),
  Go.AI.jn Go.Proofs.Tryz.prog Go.AI.hintsS T (34 : Nat) [Bool.true, Bool.true, Bool.true, Bool.true, Bool.true, Bool.true, Bool.true, Bool.true, Bool.true, Bool.true, Bool.true] [] K
  [((0 : Nat), Option.some (Go.Value.pointer (Option.some (Go.Addr.mk s (0 : Nat) Option.none)))), ((13 : Nat), Option.some (Go.Value.pointer (Option.some (Go.Addr.mk x (0 : Nat) Option.none))))] σ =
  Go.AI.lds σ (Go.Addr.mk x (0 : Nat) Option.none) (8 : Nat) fun (l0 : List Go.Value) ↦
  Go.AI.tCons l0 fun (v1 : Go.Value) (l2 : List Go.Value) ↦
  Go.AI.tI Go.IntKind.i64 v1 fun (n3 : Int) ↦
  Go.AI.tCons l2 fun (v4 : Go.Value) (l5 : List Go.Value) ↦
  Go.AI.tS v4 fun (b6 : ByteArray) ↦
  Go.AI.tCons l5 fun (v7 : Go.Value) (l8 : List Go.Value) ↦
  Go.AI.tL (1 : Nat) v7 fun (s9 : Go.AI.Sl) ↦
  Go.AI.tCons l8 fun (v10 : Go.Value) (l11 : List Go.Value) ↦
  Go.AI.tI Go.IntKind.i64 v10 fun (n12 : Int) ↦
  Go.AI.tCons l11 fun (v13 : Go.Value) (l14 : List Go.Value) ↦
  Go.AI.tB v13 fun (b15 : Bool) ↦
  Go.AI.tCons l14 fun (v16 : Go.Value) (l17 : List Go.Value) ↦
  Go.AI.tI Go.IntKind.i64 v16 fun (n18 : Int) ↦
  Go.AI.tCons l17 fun (v19 : Go.Value) (l20 : List Go.Value) ↦
  Go.AI.tI Go.IntKind.i64 v19 fun (n21 : Int) ↦
  Go.AI.tCons l20 fun (v22 : Go.Value) (l23 : List Go.Value) ↦
  Go.AI.tI Go.IntKind.i64 v22 fun (n24 : Int) ↦
  Go.AI.tNil l23
  (T (60 : Nat)
  [Go.Value.pointer (Option.some (Go.Addr.mk s (0 : Nat) Option.none)),
  Go.Value.agg
  (Array.mk
  [Go.Value.int Go.IntKind.i64 n3, Go.Value.string b6, Go.Value.slice (Go.AI.Sl.a s9) (Go.AI.Sl.n s9) (1 : Nat), Go.Value.int Go.IntKind.i64 n12, Go.Value.bool b15,
  Go.Value.int Go.IntKind.i64 n18, Go.Value.int Go.IntKind.i64 n21, Go.Value.int Go.IntKind.i64 n24])]
  σ fun (v25 : Go.Value) (σ26 : Go.AI.AS) ↦
  Go.AI.tI Go.IntKind.i64 v25 fun (n27 : Int) ↦ K (Go.Value.tuple (Array.mk [Go.Value.int Go.IntKind.i64 n27, Go.Value.int Go.IntKind.i64 (0 : Int)])) σ26) := by
  intros
  kernel_rfl

theorem s35 : ∀ (T : Go.AI.Ct) (s : Nat) (la : Option Go.Addr) (ln : Nat) (mode : Int) (wide : Bool) (σ : Go.AI.AS) (K : Go.Value → Go.AI.AS → Prop),
  Go.AI.fw Go.Proofs.Tryz.prog Go.AI.hintsS T (35 : Nat)
  [Go.Value.pointer (Option.some (Go.Addr.mk s (0 : Nat) Option.none)), Go.Value.slice la ln (1 : Nat), Go.Value.int Go.IntKind.i64 mode, Go.Value.bool wide] σ K =
  Go.AI.bmatch (Decidable.decide (mode < (1 : Int)))
  (Go.AI.JoinS (Go.AI.jn Go.Proofs.Tryz.prog Go.AI.hintsS T (35 : Nat) [Bool.true, Bool.false] [] K)
  [((0 : Nat), Option.some (Go.Value.pointer (Option.some (Go.Addr.mk s (0 : Nat) Option.none)))), ((1 : Nat), Option.some (Go.Value.slice la ln (1 : Nat))),
  ((2 : Nat), Option.some (Go.Value.int Go.IntKind.i64 mode)), ((3 : Nat), Option.some (Go.Value.bool wide)), ((20 : Nat), Option.some (Go.Value.bool Bool.true))]
  σ)
  (Go.AI.bmatch (Decidable.decide (mode > (3 : Int)))
  (Go.AI.JoinS (Go.AI.jn Go.Proofs.Tryz.prog Go.AI.hintsS T (35 : Nat) [Bool.true, Bool.false] [] K)
  [((0 : Nat), Option.some (Go.Value.pointer (Option.some (Go.Addr.mk s (0 : Nat) Option.none)))), ((1 : Nat), Option.some (Go.Value.slice la ln (1 : Nat))),
  ((2 : Nat), Option.some (Go.Value.int Go.IntKind.i64 mode)), ((3 : Nat), Option.some (Go.Value.bool wide)), ((20 : Nat), Option.some (Go.Value.bool Bool.true))]
  σ)
  (Go.AI.JoinS (Go.AI.jn Go.Proofs.Tryz.prog Go.AI.hintsS T (35 : Nat) [Bool.true, Bool.false] [] K)
  [((0 : Nat), Option.some (Go.Value.pointer (Option.some (Go.Addr.mk s (0 : Nat) Option.none)))), ((1 : Nat), Option.some (Go.Value.slice la ln (1 : Nat))),
  ((2 : Nat), Option.some (Go.Value.int Go.IntKind.i64 mode)), ((3 : Nat), Option.some (Go.Value.bool wide)), ((20 : Nat), Option.some (Go.Value.bool (Decidable.decide ((↑ln : Int) > (4096 : Int)))))]
  σ)) := by
  intros
  kernel_rfl

theorem s35j : ∀ (T : Go.AI.Ct) (s : Nat) (la : Option Go.Addr) (ln le : Nat) (mode : Int) (wide r20_1 : Bool) (σ : Go.AI.AS) (K : Go.Value → Go.AI.AS → Prop),
  Go.AI.jn Go.Proofs.Tryz.prog Go.AI.hintsS T (35 : Nat) [Bool.true, Bool.false] [] K
  [((0 : Nat), Option.some (Go.Value.pointer (Option.some (Go.Addr.mk s (0 : Nat) Option.none)))), ((1 : Nat), Option.some (Go.Value.slice la ln le)),
  ((2 : Nat), Option.some (Go.Value.int Go.IntKind.i64 mode)), ((3 : Nat), Option.some (Go.Value.bool wide)), ((20 : Nat), Option.some (Go.Value.bool r20_1))]
  σ =
  Go.AI.bmatch r20_1 (K (Go.Value.tuple (Array.mk [Go.Value.int Go.IntKind.i64 (0 : Int), Go.Value.int Go.IntKind.i64 (1 : Int)])) σ)
  (Go.AI.ldc σ (Go.Addr.mk s ((0 : Nat) + (2 : Nat)) Option.none) fun (v0 : Go.Value) ↦
  Go.AI.tL (8 : Nat) v0 fun (s1 : Go.AI.Sl) ↦
  Go.AI.bmatch ((↑(Go.AI.Sl.n s1) : Int) == (64 : Int)) (K (Go.Value.tuple (Array.mk [Go.Value.int Go.IntKind.i64 (0 : Int), Go.Value.int Go.IntKind.i64 (4 : Int)])) σ)
  (T (61 : Nat) [Go.Value.slice la ln le, Go.Value.bool wide] σ fun (v2 : Go.Value) (σ3 : Go.AI.AS) ↦
  Go.AI.tL (1 : Nat) v2 fun (s4 : Go.AI.Sl) ↦
  T (60 : Nat)
  [Go.Value.pointer (Option.some (Go.Addr.mk s (0 : Nat) Option.none)),
  Go.Value.agg
  (Array.mk
  [Go.Value.int Go.IntKind.i64 (0 : Int), Go.Value.string (ByteArray.mk #[]), Go.Value.slice (Go.AI.Sl.a s4) (Go.AI.Sl.n s4) (1 : Nat), Go.Value.int Go.IntKind.i64 mode, Go.Value.bool wide,
  Go.Value.int Go.IntKind.i64 (0 : Int), Go.Value.int Go.IntKind.i64 (0 : Int), Go.Value.int Go.IntKind.i64 (0 : Int)])]
  σ3 fun (v5 : Go.Value) (σ6 : Go.AI.AS) ↦ Go.AI.tI Go.IntKind.i64 v5 fun (n7 : Int) ↦ K (Go.Value.tuple (Array.mk [Go.Value.int Go.IntKind.i64 n7, Go.Value.int Go.IntKind.i64 (0 : Int)])) σ6)) := by
  intros
  kernel_rfl

theorem s36 : ∀ (T : Go.AI.Ct) (s : Nat) (n : Int) (la : Option Go.Addr) (ln : Nat) (σ : Go.AI.AS) (K : Go.Value → Go.AI.AS → Prop),
  Go.AI.fw Go.Proofs.Tryz.prog Go.AI.hintsS T (36 : Nat) [Go.Value.pointer (Option.some (Go.Addr.mk s (0 : Nat) Option.none)), Go.Value.int Go.IntKind.i64 n, Go.Value.slice la ln (1 : Nat)] σ K =
  T (62 : Nat) [Go.Value.pointer (Option.some (Go.Addr.mk s (0 : Nat) Option.none)), Go.Value.int Go.IntKind.i64 n] σ fun (v0 : Go.Value) (σ1 : Go.AI.AS) ↦
  Go.AI.tI Go.IntKind.i64 v0 fun (n2 : Int) ↦
  Go.AI.bmatch (Decidable.decide (n2 < (0 : Int))) (K (Go.Value.int Go.IntKind.i64 (5 : Int)) σ1)
  (Go.AI.ldc σ1 (Go.Addr.mk s ((0 : Nat) + (2 : Nat)) Option.none) fun (v3 : Go.Value) ↦
  Go.AI.tL (8 : Nat) v3 fun (s4 : Go.AI.Sl) ↦
  Go.AI.req ((0 : Int) ≤ n2)
  (Go.AI.req (n2 < (↑(Go.AI.Sl.n s4) : Int))
  (Go.AI.pSome (Go.AI.Sl.a s4) fun (a5 : Go.Addr) ↦
  Go.AI.lds σ1 (Go.Addr.add a5 (Int.toNat n2 * Go.AI.szOf Go.Proofs.Tryz.prog (94 : Nat))) (8 : Nat) fun (l6 : List Go.Value) ↦
  Go.AI.tCons l6 fun (v7 : Go.Value) (l8 : List Go.Value) ↦
  Go.AI.tI Go.IntKind.i64 v7 fun (n9 : Int) ↦
  Go.AI.tCons l8 fun (v10 : Go.Value) (l11 : List Go.Value) ↦
  Go.AI.tS v10 fun (b12 : ByteArray) ↦
  Go.AI.tCons l11 fun (v13 : Go.Value) (l14 : List Go.Value) ↦
  Go.AI.tL (1 : Nat) v13 fun (s15 : Go.AI.Sl) ↦
  Go.AI.tCons l14 fun (v16 : Go.Value) (l17 : List Go.Value) ↦
  Go.AI.tI Go.IntKind.i64 v16 fun (n18 : Int) ↦
  Go.AI.tCons l17 fun (v19 : Go.Value) (l20 : List Go.Value) ↦
  Go.AI.tB v19 fun (b21 : Bool) ↦
  Go.AI.tCons l20 fun (v22 : Go.Value) (l23 : List Go.Value) ↦
  Go.AI.tI Go.IntKind.i64 v22 fun (n24 : Int) ↦
  Go.AI.tCons l23 fun (v25 : Go.Value) (l26 : List Go.Value) ↦
  Go.AI.tI Go.IntKind.i64 v25 fun (n27 : Int) ↦
  Go.AI.tCons l26 fun (v28 : Go.Value) (l29 : List Go.Value) ↦
  Go.AI.tI Go.IntKind.i64 v28 fun (n30 : Int) ↦
  Go.AI.tNil l29
  (Go.AI.newAt σ1
  (Go.AI.AObj.row Go.AI.RK.plain
  [Go.Value.int Go.IntKind.i64 (0 : Int), Go.Value.string (ByteArray.mk #[]), Go.Value.slice Option.none (0 : Nat) (0 : Nat),
  Go.Value.int Go.IntKind.i64 (0 : Int), Go.Value.bool Bool.false, Go.Value.int Go.IntKind.i64 (0 : Int), Go.Value.int Go.IntKind.i64 (0 : Int),
  Go.Value.int Go.IntKind.i64 (0 : Int)])
  fun (i31 : Nat) (σ32 : Go.AI.AS) ↦
  Go.AI.puts σ32 (Go.Addr.mk i31 (0 : Nat) Option.none)
  [Go.Value.int Go.IntKind.i64 n9, Go.Value.string b12, Go.Value.slice (Go.AI.Sl.a s15) (Go.AI.Sl.n s15) (1 : Nat), Go.Value.int Go.IntKind.i64 n18,
  Go.Value.bool b21, Go.Value.int Go.IntKind.i64 n24, Go.Value.int Go.IntKind.i64 n27, Go.Value.int Go.IntKind.i64 n30]
  fun (σ33 : Go.AI.AS) ↦
  Go.AI.ldc σ33 (Go.Addr.mk i31 ((0 : Nat) + (3 : Nat)) Option.none) fun (v34 : Go.Value) ↦
  Go.AI.tI Go.IntKind.i64 v34 fun (n35 : Int) ↦
  Go.AI.bmatch (n35 == (2 : Int)) (K (Go.Value.int Go.IntKind.i64 (1 : Int)) σ33)
  (Go.AI.ldc σ33 (Go.Addr.mk i31 ((0 : Nat) + (4 : Nat)) Option.none) fun (v36 : Go.Value) ↦
  Go.AI.tB v36 fun (b37 : Bool) ↦
  T (61 : Nat) [Go.Value.slice la ln (1 : Nat), Go.Value.bool b37] σ33 fun (v38 : Go.Value) (σ39 : Go.AI.AS) ↦
  Go.AI.tL (1 : Nat) v38 fun (s40 : Go.AI.Sl) ↦
  Go.AI.ldc σ39 (Go.Addr.mk i31 ((0 : Nat) + (1 : Nat)) Option.none) fun (v41 : Go.Value) ↦
  Go.AI.tS v41 fun (b42 : ByteArray) ↦
  Go.AI.bmatch (Go.AI.strEq b42 (ByteArray.mk #[]))
  (Go.AI.ALoop
  (Go.AI.fl Go.Proofs.Tryz.prog Go.AI.hintsS T (36 : Nat)
  [Bool.true, Bool.true, Bool.true, Bool.true, Bool.true, Bool.true, Bool.false, Bool.true, Bool.false, Bool.true, Bool.false] [] K)
  [((0 : Nat), Option.some (Go.Value.pointer (Option.some (Go.Addr.mk s (0 : Nat) Option.none)))),
  ((2 : Nat), Option.some (Go.Value.slice (Go.AI.Sl.a s40) (Go.AI.Sl.n s40) (1 : Nat))),
  ((7 : Nat), Option.some (Go.Value.int Go.IntKind.i64 n2)),
  ((8 : Nat), Option.some (Go.Value.pointer (Option.some (Go.Addr.mk i31 (0 : Nat) Option.none)))),
  ((9 : Nat), Option.some (Go.Value.int Go.IntKind.i64 (0 : Int)))]
  σ39)
  (Go.AI.ldc σ39 (Go.Addr.mk i31 ((0 : Nat) + (1 : Nat)) Option.none) fun (v43 : Go.Value) ↦
  Go.AI.tS v43 fun (b44 : ByteArray) ↦
  T (19 : Nat) [Go.Value.pointer (Option.some (Go.Addr.mk s (0 : Nat) Option.none)), Go.Value.string b44] σ39
  fun (v45 : Go.Value) (σ46 : Go.AI.AS) ↦
  Go.AI.tI Go.IntKind.i64 v45 fun (n47 : Int) ↦
  Go.AI.ldc σ46 (Go.Addr.mk i31 ((0 : Nat) + (4 : Nat)) Option.none) fun (v48 : Go.Value) ↦
  Go.AI.tB v48 fun (b49 : Bool) ↦
  Go.AI.bmatch b49
  (Go.AI.JoinS
  (Go.AI.jn Go.Proofs.Tryz.prog Go.AI.hintsS T (36 : Nat)
  [Bool.true, Bool.true, Bool.true, Bool.true, Bool.true, Bool.true, Bool.false, Bool.true, Bool.true, Bool.true, Bool.true]
  [] K)
  [((0 : Nat), Option.some (Go.Value.pointer (Option.some (Go.Addr.mk s (0 : Nat) Option.none)))),
  ((2 : Nat), Option.some (Go.Value.slice (Go.AI.Sl.a s40) (Go.AI.Sl.n s40) (1 : Nat))),
  ((7 : Nat), Option.some (Go.Value.int Go.IntKind.i64 n2)),
  ((8 : Nat), Option.some (Go.Value.pointer (Option.some (Go.Addr.mk i31 (0 : Nat) Option.none)))),
  ((10 : Nat), Option.some (Go.Value.int Go.IntKind.i64 n47)),
  ((11 : Nat), Option.some (Go.Value.int Go.IntKind.i64 (4 : Int)))]
  σ46)
  (Go.AI.JoinS
  (Go.AI.jn Go.Proofs.Tryz.prog Go.AI.hintsS T (36 : Nat)
  [Bool.true, Bool.true, Bool.true, Bool.true, Bool.true, Bool.true, Bool.false, Bool.true, Bool.true, Bool.true, Bool.true]
  [] K)
  [((0 : Nat), Option.some (Go.Value.pointer (Option.some (Go.Addr.mk s (0 : Nat) Option.none)))),
  ((2 : Nat), Option.some (Go.Value.slice (Go.AI.Sl.a s40) (Go.AI.Sl.n s40) (1 : Nat))),
  ((7 : Nat), Option.some (Go.Value.int Go.IntKind.i64 n2)),
  ((8 : Nat), Option.some (Go.Value.pointer (Option.some (Go.Addr.mk i31 (0 : Nat) Option.none)))),
  ((10 : Nat), Option.some (Go.Value.int Go.IntKind.i64 n47)),
  ((11 : Nat), Option.some (Go.Value.int Go.IntKind.i64 (1 : Int)))]
  σ46))))))) := by
  intros
  kernel_rfl

theorem s36j : ∀ (T : Go.AI.Ct) (s : Nat) (la : Option Go.Addr) (ln le : Nat) (i : Int) (x : Nat) (σ : Go.AI.AS) (K : Go.Value → Go.AI.AS → Prop),
  Go.AI.jn Go.Proofs.Tryz.prog Go.AI.hintsS T (36 : Nat) [Bool.true, Bool.true, Bool.true, Bool.true, Bool.true, Bool.true] [] K
  [((0 : Nat), Option.some (Go.Value.pointer (Option.some (Go.Addr.mk s (0 : Nat) Option.none)))), ((2 : Nat), Option.some (Go.Value.slice la ln le)),
  ((7 : Nat), Option.some (Go.Value.int Go.IntKind.i64 i)), ((8 : Nat), Option.some (Go.Value.pointer (Option.some (Go.Addr.mk x (0 : Nat) Option.none))))]
  σ =
  Go.AI.ldc σ (Go.Addr.mk x ((0 : Nat) + (7 : Nat)) Option.none) fun (v0 : Go.Value) ↦
  Go.AI.tI Go.IntKind.i64 v0 fun (n1 : Int) ↦
  Go.AI.put1 σ (Go.Addr.mk x ((0 : Nat) + (7 : Nat)) Option.none) (Go.Value.int Go.IntKind.i64 (Go.IntKind.wrap Go.IntKind.i64 (n1 + (↑ln : Int)))) fun (σ2 : Go.AI.AS) ↦
  Go.AI.ldc σ2 (Go.Addr.mk s ((0 : Nat) + (2 : Nat)) Option.none) fun (v3 : Go.Value) ↦
  Go.AI.tL (8 : Nat) v3 fun (s4 : Go.AI.Sl) ↦
  Go.AI.lds σ2 (Go.Addr.mk x (0 : Nat) Option.none) (8 : Nat) fun (l5 : List Go.Value) ↦
  Go.AI.tCons l5 fun (v6 : Go.Value) (l7 : List Go.Value) ↦
  Go.AI.tI Go.IntKind.i64 v6 fun (n8 : Int) ↦
  Go.AI.tCons l7 fun (v9 : Go.Value) (l10 : List Go.Value) ↦
  Go.AI.tS v9 fun (b11 : ByteArray) ↦
  Go.AI.tCons l10 fun (v12 : Go.Value) (l13 : List Go.Value) ↦
  Go.AI.tL (1 : Nat) v12 fun (s14 : Go.AI.Sl) ↦
  Go.AI.tCons l13 fun (v15 : Go.Value) (l16 : List Go.Value) ↦
  Go.AI.tI Go.IntKind.i64 v15 fun (n17 : Int) ↦
  Go.AI.tCons l16 fun (v18 : Go.Value) (l19 : List Go.Value) ↦
  Go.AI.tB v18 fun (b20 : Bool) ↦
  Go.AI.tCons l19 fun (v21 : Go.Value) (l22 : List Go.Value) ↦
  Go.AI.tI Go.IntKind.i64 v21 fun (n23 : Int) ↦
  Go.AI.tCons l22 fun (v24 : Go.Value) (l25 : List Go.Value) ↦
  Go.AI.tI Go.IntKind.i64 v24 fun (n26 : Int) ↦
  Go.AI.tCons l25 fun (v27 : Go.Value) (l28 : List Go.Value) ↦
  Go.AI.tI Go.IntKind.i64 v27 fun (n29 : Int) ↦
  Go.AI.tNil l28
  (Go.AI.req ((0 : Int) ≤ i)
  (Go.AI.req (i < (↑(Go.AI.Sl.n s4) : Int))
  (Go.AI.pSome (Go.AI.Sl.a s4) fun (a30 : Go.Addr) ↦
  Go.AI.puts σ2 (Go.Addr.add a30 (Int.toNat i * Go.AI.szOf Go.Proofs.Tryz.prog (94 : Nat)))
  [Go.Value.int Go.IntKind.i64 n8, Go.Value.string b11, Go.Value.slice (Go.AI.Sl.a s14) (Go.AI.Sl.n s14) (1 : Nat), Go.Value.int Go.IntKind.i64 n17,
  Go.Value.bool b20, Go.Value.int Go.IntKind.i64 n23, Go.Value.int Go.IntKind.i64 n26, Go.Value.int Go.IntKind.i64 n29]
  fun (σ31 : Go.AI.AS) ↦ K (Go.Value.int Go.IntKind.i64 (0 : Int)) σ31))) := by
  intros
  kernel_rfl

theorem s36l : ∀ (T : Go.AI.Ct) (s : Nat) (la : Option Go.Addr) (ln le : Nat) (i : Int) (x : Nat) (k : Int) (X : Go.AI.Regs → Go.AI.AS → Prop) (σ : Go.AI.AS) (K : Go.Value → Go.AI.AS → Prop),
  Go.AI.fl Go.Proofs.Tryz.prog Go.AI.hintsS T (36 : Nat) [Bool.true, Bool.true, Bool.true, Bool.true, Bool.true, Bool.true, Bool.false, Bool.true, Bool.false, Bool.true, Bool.false] [] K X
  [((0 : Nat), Option.some (Go.Value.pointer (Option.some (Go.Addr.mk s (0 : Nat) Option.none)))), ((2 : Nat), Option.some (Go.Value.slice la ln le)),
  ((7 : Nat), Option.some (Go.Value.int Go.IntKind.i64 i)), ((8 : Nat), Option.some (Go.Value.pointer (Option.some (Go.Addr.mk x (0 : Nat) Option.none)))),
  ((9 : Nat), Option.some (Go.Value.int Go.IntKind.i64 k))]
  σ =
  Go.AI.bmatch (Decidable.decide (k < (↑ln : Int)))
  (Go.AI.ldc σ (Go.Addr.mk x ((0 : Nat) + (5 : Nat)) Option.none) fun (v0 : Go.Value) ↦
  Go.AI.tI Go.IntKind.i64 v0 fun (n1 : Int) ↦
  Go.AI.ldc σ (Go.Addr.mk x ((0 : Nat) + (2 : Nat)) Option.none) fun (v2 : Go.Value) ↦
  Go.AI.tL (1 : Nat) v2 fun (s3 : Go.AI.Sl) ↦
  Go.AI.bmatch (Decidable.decide (n1 < (↑(Go.AI.Sl.n s3) : Int)))
  (Go.AI.ldc σ (Go.Addr.mk x ((0 : Nat) + (2 : Nat)) Option.none) fun (v4 : Go.Value) ↦
  Go.AI.tL (1 : Nat) v4 fun (s5 : Go.AI.Sl) ↦
  Go.AI.ldc σ (Go.Addr.mk x ((0 : Nat) + (5 : Nat)) Option.none) fun (v6 : Go.Value) ↦
  Go.AI.tI Go.IntKind.i64 v6 fun (n7 : Int) ↦
  Go.AI.req ((0 : Int) ≤ k)
  (Go.AI.req (k < (↑ln : Int))
  (Go.AI.pSome la fun (a8 : Go.Addr) ↦
  Go.AI.req (le = Go.AI.szOf Go.Proofs.Tryz.prog (54 : Nat))
  (Go.AI.ldc σ (Go.Addr.add a8 (Int.toNat k * Go.AI.szOf Go.Proofs.Tryz.prog (54 : Nat))) fun (v9 : Go.Value) ↦
  Go.AI.tI Go.IntKind.u32 v9 fun (n10 : Int) ↦
  Go.AI.req ((0 : Int) ≤ n7)
  (Go.AI.req (n7 < (↑(Go.AI.Sl.n s5) : Int))
  (Go.AI.pSome (Go.AI.Sl.a s5) fun (a11 : Go.Addr) ↦
  Go.AI.put1 σ (Go.Addr.add a11 (Int.toNat n7 * Go.AI.szOf Go.Proofs.Tryz.prog (54 : Nat))) (Go.Value.int Go.IntKind.u32 n10) fun (σ12 : Go.AI.AS) ↦
  Go.AI.ldc σ12 (Go.Addr.mk x ((0 : Nat) + (5 : Nat)) Option.none) fun (v13 : Go.Value) ↦
  Go.AI.tI Go.IntKind.i64 v13 fun (n14 : Int) ↦
  Go.AI.put1 σ12 (Go.Addr.mk x ((0 : Nat) + (5 : Nat)) Option.none) (Go.Value.int Go.IntKind.i64 (Go.IntKind.wrap Go.IntKind.i64 (n14 + (1 : Int)))) fun (σ15 : Go.AI.AS) ↦
  Go.AI.JoinS
  (Go.AI.jn Go.Proofs.Tryz.prog Go.AI.hintsS T (36 : Nat)
  [Bool.true, Bool.true, Bool.true, Bool.true, Bool.true, Bool.true, Bool.false, Bool.true, Bool.false, Bool.true, Bool.false, Bool.false, Bool.true] [X] K)
  [((0 : Nat), Option.some (Go.Value.pointer (Option.some (Go.Addr.mk s (0 : Nat) Option.none)))), ((2 : Nat), Option.some (Go.Value.slice la ln le)),
  ((7 : Nat), Option.some (Go.Value.int Go.IntKind.i64 i)), ((8 : Nat), Option.some (Go.Value.pointer (Option.some (Go.Addr.mk x (0 : Nat) Option.none)))),
  ((9 : Nat), Option.some (Go.Value.int Go.IntKind.i64 k))]
  σ15))))))
  (Go.AI.JoinS
  (Go.AI.jn Go.Proofs.Tryz.prog Go.AI.hintsS T (36 : Nat)
  [Bool.true, Bool.true, Bool.true, Bool.true, Bool.true, Bool.true, Bool.false, Bool.true, Bool.false, Bool.true, Bool.false, Bool.false, Bool.true] [X] K)
  [((0 : Nat), Option.some (Go.Value.pointer (Option.some (Go.Addr.mk s (0 : Nat) Option.none)))), ((2 : Nat), Option.some (Go.Value.slice la ln le)),
  ((7 : Nat), Option.some (Go.Value.int Go.IntKind.i64 i)), ((8 : Nat), Option.some (Go.Value.pointer (Option.some (Go.Addr.mk x (0 : Nat) Option.none)))),
  ((9 : Nat), Option.some (Go.Value.int Go.IntKind.i64 k))]
  σ))
  (Go.AI.JoinS (Go.AI.jn Go.Proofs.Tryz.prog Go.AI.hintsS T (36 : Nat) [Bool.true, Bool.true, Bool.true, Bool.true, Bool.true, Bool.true] [] K)
  [((0 : Nat), Option.some (Go.Value.pointer (Option.some (Go.Addr.mk s (0 : Nat) Option.none)))), ((2 : Nat), Option.some (Go.Value.slice la ln le)),
  ((7 : Nat), Option.some (Go.Value.int Go.IntKind.i64 i)), ((8 : Nat), Option.some (Go.Value.pointer (Option.some (Go.Addr.mk x (0 : Nat) Option.none))))]
  σ) := by
  intros
  kernel_rfl

theorem s36j1 : ∀ (T : Go.AI.Ct) (s : Nat) (la : Option Go.Addr) (ln le : Nat) (i : Int) (x : Nat) (k : Int) (X : Go.AI.Regs → Go.AI.AS → Prop) (σ : Go.AI.AS) (K : Go.Value → Go.AI.AS → Prop),
  Go.AI.jn Go.Proofs.Tryz.prog Go.AI.hintsS T (36 : Nat) [Bool.true, Bool.true, Bool.true, Bool.true, Bool.true, Bool.true, Bool.false, Bool.true, Bool.false, Bool.true, Bool.false, Bool.false, Bool.true] [X] K
  [((0 : Nat), Option.some (Go.Value.pointer (Option.some (Go.Addr.mk s (0 : Nat) Option.none)))), ((2 : Nat), Option.some (Go.Value.slice la ln le)),
  ((7 : Nat), Option.some (Go.Value.int Go.IntKind.i64 i)), ((8 : Nat), Option.some (Go.Value.pointer (Option.some (Go.Addr.mk x (0 : Nat) Option.none)))),
  ((9 : Nat), Option.some (Go.Value.int Go.IntKind.i64 k))]
  σ =
  X
  [((0 : Nat), Option.some (Go.Value.pointer (Option.some (Go.Addr.mk s (0 : Nat) Option.none)))), ((2 : Nat), Option.some (Go.Value.slice la ln le)),
  ((7 : Nat), Option.some (Go.Value.int Go.IntKind.i64 i)), ((8 : Nat), Option.some (Go.Value.pointer (Option.some (Go.Addr.mk x (0 : Nat) Option.none)))),
  ((9 : Nat), Option.some (Go.Value.int Go.IntKind.i64 (Go.IntKind.wrap Go.IntKind.i64 (k + (1 : Int)))))]
  σ := by
  intros
  kernel_rfl

theorem s36j2 : ∀ (T : Go.AI.Ct) (s : Nat) (la : Option Go.Addr) (ln le : Nat) (i : Int) (x : Nat) (k unit : Int) (σ : Go.AI.AS) (K : Go.Value → Go.AI.AS → Prop),
  Go.AI.jn Go.Proofs.Tryz.prog Go.AI.hintsS T (36 : Nat) [Bool.true, Bool.true, Bool.true, Bool.true, Bool.true, Bool.true, Bool.false, Bool.true, Bool.true, Bool.true, Bool.true] [] K
  [((0 : Nat), Option.some (Go.Value.pointer (Option.some (Go.Addr.mk s (0 : Nat) Option.none)))), ((2 : Nat), Option.some (Go.Value.slice la ln le)),
  ((7 : Nat), Option.some (Go.Value.int Go.IntKind.i64 i)), ((8 : Nat), Option.some (Go.Value.pointer (Option.some (Go.Addr.mk x (0 : Nat) Option.none)))),
  ((10 : Nat), Option.some (Go.Value.int Go.IntKind.i64 k)), ((11 : Nat), Option.some (Go.Value.int Go.IntKind.i64 unit))]
  σ =
  Go.AI.newAt σ (Go.AI.AObj.row Go.AI.RK.rw []) fun (i0 : Nat) (σ1 : Go.AI.AS) ↦
  Go.AI.ldc σ1 (Go.Addr.mk s ((0 : Nat) + (1 : Nat)) Option.none) fun (v2 : Go.Value) ↦
  Go.AI.tL (2 : Nat) v2 fun (s3 : Go.AI.Sl) ↦
  Go.AI.req ((0 : Int) ≤ k)
  (Go.AI.req (k < (↑(Go.AI.Sl.n s3) : Int))
  (Go.AI.pSome (Go.AI.Sl.a s3) fun (a4 : Go.Addr) ↦
  Go.AI.ldc σ1
  (Go.Addr.mk (Go.Addr.block (Go.Addr.add a4 (Int.toNat k * Go.AI.szOf Go.Proofs.Tryz.prog (112 : Nat))))
  (Go.Addr.off (Go.Addr.add a4 (Int.toNat k * Go.AI.szOf Go.Proofs.Tryz.prog (112 : Nat))) + (1 : Nat)) Option.none)
  fun (v5 : Go.Value) ↦
  Go.AI.tL (1 : Nat) v5 fun (s6 : Go.AI.Sl) ↦
  Go.AI.srcCells σ1 (1 : Nat) (Option.some (Go.Value.slice (Go.AI.Sl.a s6) (Go.AI.Sl.n s6) (1 : Nat))) fun (m7 : Nat) (new8 : List Go.Value) ↦
  Go.AI.appendTo σ1 (1 : Nat) (1 : Nat) (Go.AI.Sl.mk (Option.some (Go.Addr.mk i0 (0 : Nat) Option.none)) (0 : Nat)) new8 m7 fun (s9 : Go.AI.Sl) (σ10 : Go.AI.AS) ↦
  Go.AI.ALoop
  (Go.AI.fl Go.Proofs.Tryz.prog Go.AI.hintsS T (36 : Nat)
  [Bool.true, Bool.true, Bool.true, Bool.true, Bool.true, Bool.true, Bool.false, Bool.true, Bool.true, Bool.true, Bool.true, Bool.true, Bool.true, Bool.false, Bool.true, Bool.false] [] K)
  [((0 : Nat), Option.some (Go.Value.pointer (Option.some (Go.Addr.mk s (0 : Nat) Option.none)))), ((2 : Nat), Option.some (Go.Value.slice la ln le)),
  ((7 : Nat), Option.some (Go.Value.int Go.IntKind.i64 i)), ((8 : Nat), Option.some (Go.Value.pointer (Option.some (Go.Addr.mk x (0 : Nat) Option.none)))),
  ((10 : Nat), Option.some (Go.Value.int Go.IntKind.i64 k)), ((11 : Nat), Option.some (Go.Value.int Go.IntKind.i64 unit)),
  ((12 : Nat), Option.some (Go.Value.slice (Go.AI.Sl.a s9) (Go.AI.Sl.n s9) (1 : Nat))), ((13 : Nat), Option.some (Go.Value.int Go.IntKind.i64 (0 : Int)))]
  σ10)) := by
  intros
  kernel_rfl

theorem s36l1 : ∀ (T : Go.AI.Ct) (s : Nat) (la : Option Go.Addr) (ln le : Nat) (i : Int) (x : Nat) (k unit : Int) (ba : Option Go.Addr) (bn be : Nat) (j : Int) (X : Go.AI.Regs → Go.AI.AS → Prop)
  (σ : Go.AI.AS) (K : Go.Value → Go.AI.AS → Prop),
  Go.AI.fl Go.Proofs.Tryz.prog Go.AI.hintsS T (36 : Nat)
  [Bool.true, Bool.true, Bool.true, Bool.true, Bool.true, Bool.true, Bool.false, Bool.true, Bool.true, Bool.true, Bool.true, Bool.true, Bool.true, Bool.false, Bool.true, Bool.false] [] K X
  [((0 : Nat), Option.some (Go.Value.pointer (Option.some (Go.Addr.mk s (0 : Nat) Option.none)))), ((2 : Nat), Option.some (Go.Value.slice la ln le)),
  ((7 : Nat), Option.some (Go.Value.int Go.IntKind.i64 i)), ((8 : Nat), Option.some (Go.Value.pointer (Option.some (Go.Addr.mk x (0 : Nat) Option.none)))),
  ((10 : Nat), Option.some (Go.Value.int Go.IntKind.i64 k)), ((11 : Nat), Option.some (Go.Value.int Go.IntKind.i64 unit)), ((12 : Nat), Option.some (Go.Value.slice ba bn be)),
  ((13 : Nat), Option.some (Go.Value.int Go.IntKind.i64 j))]
  σ =
  Go.AI.bmatch (Decidable.decide (j < (↑ln : Int)))
  (Go.AI.req ((0 : Int) ≤ j)
  (Go.AI.req (j < (↑ln : Int))
  (Go.AI.pSome la fun (a0 : Go.Addr) ↦
  Go.AI.req (le = Go.AI.szOf Go.Proofs.Tryz.prog (54 : Nat))
  (Go.AI.ldc σ (Go.Addr.add a0 (Int.toNat j * Go.AI.szOf Go.Proofs.Tryz.prog (54 : Nat))) fun (v1 : Go.Value) ↦
  Go.AI.tI Go.IntKind.u32 v1 fun (n2 : Int) ↦
  T (63 : Nat) [Go.Value.int Go.IntKind.u32 n2, Go.Value.int Go.IntKind.i64 unit] σ fun (v3 : Go.Value) (σ4 : Go.AI.AS) ↦
  Go.AI.tL (1 : Nat) v3 fun (s5 : Go.AI.Sl) ↦
  Go.AI.ALoop
  (Go.AI.fl Go.Proofs.Tryz.prog Go.AI.hintsS T (36 : Nat)
  [Bool.true, Bool.true, Bool.true, Bool.true, Bool.true, Bool.true, Bool.false, Bool.true, Bool.true, Bool.true, Bool.true, Bool.true, Bool.true, Bool.false, Bool.true, Bool.false, Bool.false,
  Bool.true, Bool.false, Bool.false, Bool.true, Bool.false, Bool.true, Bool.false]
  [X] K)
  [((0 : Nat), Option.some (Go.Value.pointer (Option.some (Go.Addr.mk s (0 : Nat) Option.none)))), ((2 : Nat), Option.some (Go.Value.slice la ln le)),
  ((7 : Nat), Option.some (Go.Value.int Go.IntKind.i64 i)), ((8 : Nat), Option.some (Go.Value.pointer (Option.some (Go.Addr.mk x (0 : Nat) Option.none)))),
  ((10 : Nat), Option.some (Go.Value.int Go.IntKind.i64 k)), ((11 : Nat), Option.some (Go.Value.int Go.IntKind.i64 unit)), ((12 : Nat), Option.some (Go.Value.slice ba bn be)),
  ((13 : Nat), Option.some (Go.Value.int Go.IntKind.i64 j)), ((14 : Nat), Option.some (Go.Value.slice (Go.AI.Sl.a s5) (Go.AI.Sl.n s5) (1 : Nat))),
  ((15 : Nat), Option.some (Go.Value.int Go.IntKind.i64 (0 : Int)))]
  σ4))))
  (Go.AI.ldc σ (Go.Addr.mk s ((0 : Nat) + (1 : Nat)) Option.none) fun (v6 : Go.Value) ↦
  Go.AI.tL (2 : Nat) v6 fun (s7 : Go.AI.Sl) ↦
  Go.AI.req ((0 : Int) ≤ k)
  (Go.AI.req (k < (↑(Go.AI.Sl.n s7) : Int))
  (Go.AI.pSome (Go.AI.Sl.a s7) fun (a8 : Go.Addr) ↦
  Go.AI.ldc σ
  (Go.Addr.mk (Go.Addr.block (Go.Addr.add a8 (Int.toNat k * Go.AI.szOf Go.Proofs.Tryz.prog (112 : Nat))))
  (Go.Addr.off (Go.Addr.add a8 (Int.toNat k * Go.AI.szOf Go.Proofs.Tryz.prog (112 : Nat))) + (1 : Nat)) Option.none)
  fun (v9 : Go.Value) ↦
  Go.AI.tL (1 : Nat) v9 fun (s10 : Go.AI.Sl) ↦
  Go.AI.ldc σ (Go.Addr.mk s (0 : Nat) Option.none) fun (v11 : Go.Value) ↦
  Go.AI.tI Go.IntKind.i64 v11 fun (n12 : Int) ↦
  T (20 : Nat) [Go.Value.pointer (Option.some (Go.Addr.mk s (0 : Nat) Option.none))] σ fun (v13 : Go.Value) (σ14 : Go.AI.AS) ↦
  Go.AI.tI Go.IntKind.i64 v13 fun (n15 : Int) ↦
  Go.AI.ldc σ14 (Go.Addr.mk s (0 : Nat) Option.none) fun (v16 : Go.Value) ↦
  Go.AI.tI Go.IntKind.i64 v16 fun (n17 : Int) ↦
  Go.Value.int Go.IntKind.i64 n12 = Go.Value.int Go.IntKind.i64 n17 ∧
  Go.Value.int Go.IntKind.i64 (↑bn : Int) = Go.Value.int Go.IntKind.i64 (↑bn : Int) ∧
  Go.Value.int Go.IntKind.i64 (↑(Go.AI.Sl.n s10) : Int) = Go.Value.int Go.IntKind.i64 (↑(Go.AI.Sl.n s10) : Int) ∧
  Go.AI.ldc σ14
  (Go.Addr.mk (Go.Addr.block (Go.Addr.add a8 (Int.toNat k * Go.AI.szOf Go.Proofs.Tryz.prog (112 : Nat))))
  (Go.Addr.off (Go.Addr.add a8 (Int.toNat k * Go.AI.szOf Go.Proofs.Tryz.prog (112 : Nat))) + (1 : Nat)) Option.none)
  fun (v18 : Go.Value) ↦
  Go.AI.tL (1 : Nat) v18 fun (s19 : Go.AI.Sl) ↦
  Go.Value.slice (Go.AI.Sl.a s10) (Go.AI.Sl.n s10) (Go.AI.szOf Go.Proofs.Tryz.prog (5 : Nat)) =
  Go.Value.slice (Go.AI.Sl.a s19) (Go.AI.Sl.n s19) (Go.AI.szOf Go.Proofs.Tryz.prog (5 : Nat)) ∧
  Go.AI.ldc σ14 (Go.Addr.mk s ((0 : Nat) + (1 : Nat)) Option.none) fun (v20 : Go.Value) ↦
  Go.AI.tL (2 : Nat) v20 fun (s21 : Go.AI.Sl) ↦
  Go.Value.slice (Go.AI.Sl.a s7) (Go.AI.Sl.n s7) (Go.AI.szOf Go.Proofs.Tryz.prog (112 : Nat)) =
  Go.Value.slice (Go.AI.Sl.a s21) (Go.AI.Sl.n s21) (Go.AI.szOf Go.Proofs.Tryz.prog (112 : Nat)) ∧
  Go.AI.bmatch (Decidable.decide (Go.IntKind.wrap Go.IntKind.i64 (Go.IntKind.wrap Go.IntKind.i64 (n15 - (↑(Go.AI.Sl.n s10) : Int)) + (↑bn : Int)) > n12))
  (K (Go.Value.int Go.IntKind.i64 (7 : Int)) σ14)
  (Go.AI.ldc σ14 (Go.Addr.mk s ((0 : Nat) + (1 : Nat)) Option.none) fun (v22 : Go.Value) ↦
  Go.AI.tL (2 : Nat) v22 fun (s23 : Go.AI.Sl) ↦
  Go.AI.req ((0 : Int) ≤ k)
  (Go.AI.req (k < (↑(Go.AI.Sl.n s23) : Int))
  (Go.AI.pSome (Go.AI.Sl.a s23) fun (a24 : Go.Addr) ↦
  Go.AI.put1 σ14
  (Go.Addr.mk (Go.Addr.block (Go.Addr.add a24 (Int.toNat k * Go.AI.szOf Go.Proofs.Tryz.prog (112 : Nat))))
  (Go.Addr.off (Go.Addr.add a24 (Int.toNat k * Go.AI.szOf Go.Proofs.Tryz.prog (112 : Nat))) + (1 : Nat)) Option.none)
  (Go.Value.slice ba bn be) fun (σ25 : Go.AI.AS) ↦
  Go.AI.JoinS (Go.AI.jn Go.Proofs.Tryz.prog Go.AI.hintsS T (36 : Nat) [Bool.true, Bool.true, Bool.true, Bool.true, Bool.true, Bool.true] [] K)
  [((0 : Nat), Option.some (Go.Value.pointer (Option.some (Go.Addr.mk s (0 : Nat) Option.none)))),
  ((2 : Nat), Option.some (Go.Value.slice la ln le)), ((7 : Nat), Option.some (Go.Value.int Go.IntKind.i64 i)),
  ((8 : Nat), Option.some (Go.Value.pointer (Option.some (Go.Addr.mk x (0 : Nat) Option.none))))]
  σ25)))))) := by
  intros
  kernel_rfl

theorem s36l2 : ∀ (T : Go.AI.Ct) (s : Nat) (la : Option Go.Addr) (ln le : Nat) (i : Int) (x : Nat) (k unit : Int) (ba : Option Go.Addr) (bn be : Nat) (j : Int) (pa : Option Go.Addr) (pn pe : Nat)
  (o : Int) (X Y : Go.AI.Regs → Go.AI.AS → Prop) (σ : Go.AI.AS) (K : Go.Value → Go.AI.AS → Prop),
  Go.AI.fl Go.Proofs.Tryz.prog Go.AI.hintsS T (36 : Nat)
  [Bool.true, Bool.true, Bool.true, Bool.true, Bool.true, Bool.true, Bool.false, Bool.true, Bool.true, Bool.true, Bool.true, Bool.true, Bool.true, Bool.false, Bool.true, Bool.false, Bool.false, Bool.true, Bool.false,
  Bool.false, Bool.true, Bool.false, Bool.true, Bool.false]
  [X] K Y
  [((0 : Nat), Option.some (Go.Value.pointer (Option.some (Go.Addr.mk s (0 : Nat) Option.none)))), ((2 : Nat), Option.some (Go.Value.slice la ln le)),
  ((7 : Nat), Option.some (Go.Value.int Go.IntKind.i64 i)), ((8 : Nat), Option.some (Go.Value.pointer (Option.some (Go.Addr.mk x (0 : Nat) Option.none)))),
  ((10 : Nat), Option.some (Go.Value.int Go.IntKind.i64 k)), ((11 : Nat), Option.some (Go.Value.int Go.IntKind.i64 unit)), ((12 : Nat), Option.some (Go.Value.slice ba bn be)),
  ((13 : Nat), Option.some (Go.Value.int Go.IntKind.i64 j)), ((14 : Nat), Option.some (Go.Value.slice pa pn pe)), ((15 : Nat), Option.some (Go.Value.int Go.IntKind.i64 o))]
  σ =
  Go.AI.bmatch (Decidable.decide (o < unit))
  (Go.AI.ldc σ (Go.Addr.mk x ((0 : Nat) + (5 : Nat)) Option.none) fun (v0 : Go.Value) ↦
  Go.AI.tI Go.IntKind.i64 v0 fun (n1 : Int) ↦
  Go.AI.bmatch (Go.IntKind.wrap Go.IntKind.i64 (Go.IntKind.wrap Go.IntKind.i64 (unit * n1) + o) == (↑bn : Int))
  (Go.AI.newAt σ (Go.AI.AObj.row Go.AI.RK.rw [Go.Value.int Go.IntKind.u8 (0 : Int)]) fun (i2 : Nat) (σ3 : Go.AI.AS) ↦
  Go.AI.chk (Go.AI.nilOr ba be (Go.AI.szOf Go.Proofs.Tryz.prog (5 : Nat)))
  (Go.AI.lds σ3 (Go.Addr.mk i2 (0 : Nat) Option.none) (1 : Nat) fun (l4 : List Go.Value) ↦
  Go.AI.appendTo σ3 (1 : Nat) (1 : Nat) (Go.AI.Sl.mk ba bn) l4 (1 : Nat) fun (s5 : Go.AI.Sl) (σ6 : Go.AI.AS) ↦
  Go.AI.JoinS
  (Go.AI.jn Go.Proofs.Tryz.prog Go.AI.hintsS T (36 : Nat)
  [Bool.true, Bool.true, Bool.true, Bool.true, Bool.true, Bool.true, Bool.false, Bool.true, Bool.true, Bool.true, Bool.true, Bool.true, Bool.true, Bool.false, Bool.true, Bool.false, Bool.false,
  Bool.true, Bool.false, Bool.false, Bool.true, Bool.false, Bool.true, Bool.false, Bool.false, Bool.true, Bool.false, Bool.false]
  [X, Y] K)
  [((0 : Nat), Option.some (Go.Value.pointer (Option.some (Go.Addr.mk s (0 : Nat) Option.none)))), ((2 : Nat), Option.some (Go.Value.slice la ln le)),
  ((7 : Nat), Option.some (Go.Value.int Go.IntKind.i64 i)), ((8 : Nat), Option.some (Go.Value.pointer (Option.some (Go.Addr.mk x (0 : Nat) Option.none)))),
  ((10 : Nat), Option.some (Go.Value.int Go.IntKind.i64 k)), ((11 : Nat), Option.some (Go.Value.int Go.IntKind.i64 unit)),
  ((12 : Nat), Option.some (Go.Value.slice (Go.AI.Sl.a s5) (Go.AI.Sl.n s5) (1 : Nat))), ((13 : Nat), Option.some (Go.Value.int Go.IntKind.i64 j)),
  ((14 : Nat), Option.some (Go.Value.slice pa pn pe)), ((15 : Nat), Option.some (Go.Value.int Go.IntKind.i64 o))]
  σ6))
  (Go.AI.JoinS
  (Go.AI.jn Go.Proofs.Tryz.prog Go.AI.hintsS T (36 : Nat)
  [Bool.true, Bool.true, Bool.true, Bool.true, Bool.true, Bool.true, Bool.false, Bool.true, Bool.true, Bool.true, Bool.true, Bool.true, Bool.true, Bool.false, Bool.true, Bool.false, Bool.false, Bool.true,
  Bool.false, Bool.false, Bool.true, Bool.false, Bool.true, Bool.false, Bool.false, Bool.true, Bool.false, Bool.false]
  [X, Y] K)
  [((0 : Nat), Option.some (Go.Value.pointer (Option.some (Go.Addr.mk s (0 : Nat) Option.none)))), ((2 : Nat), Option.some (Go.Value.slice la ln le)),
  ((7 : Nat), Option.some (Go.Value.int Go.IntKind.i64 i)), ((8 : Nat), Option.some (Go.Value.pointer (Option.some (Go.Addr.mk x (0 : Nat) Option.none)))),
  ((10 : Nat), Option.some (Go.Value.int Go.IntKind.i64 k)), ((11 : Nat), Option.some (Go.Value.int Go.IntKind.i64 unit)), ((12 : Nat), Option.some (Go.Value.slice ba bn be)),
  ((13 : Nat), Option.some (Go.Value.int Go.IntKind.i64 j)), ((14 : Nat), Option.some (Go.Value.slice pa pn pe)), ((15 : Nat), Option.some (Go.Value.int Go.IntKind.i64 o))]
  σ))
  (Go.AI.ldc σ (Go.Addr.mk x ((0 : Nat) + (5 : Nat)) Option.none) fun (v7 : Go.Value) ↦
  Go.AI.tI Go.IntKind.i64 v7 fun (n8 : Int) ↦
  Go.AI.put1 σ (Go.Addr.mk x ((0 : Nat) + (5 : Nat)) Option.none) (Go.Value.int Go.IntKind.i64 (Go.IntKind.wrap Go.IntKind.i64 (n8 + (1 : Int)))) fun (σ9 : Go.AI.AS) ↦
  X
  [((0 : Nat), Option.some (Go.Value.pointer (Option.some (Go.Addr.mk s (0 : Nat) Option.none)))), ((2 : Nat), Option.some (Go.Value.slice la ln le)),
  ((7 : Nat), Option.some (Go.Value.int Go.IntKind.i64 i)), ((8 : Nat), Option.some (Go.Value.pointer (Option.some (Go.Addr.mk x (0 : Nat) Option.none)))),
  ((10 : Nat), Option.some (Go.Value.int Go.IntKind.i64 k)), ((11 : Nat), Option.some (Go.Value.int Go.IntKind.i64 unit)), ((12 : Nat), Option.some (Go.Value.slice ba bn be)),
  ((13 : Nat), Option.some (Go.Value.int Go.IntKind.i64 (Go.IntKind.wrap Go.IntKind.i64 (j + (1 : Int)))))]
  σ9) := by
  intros
  kernel_rfl

theorem s36j3 : ∀ (T : Go.AI.Ct) (s : Nat) (la : Option Go.Addr) (ln le : Nat) (i : Int) (x : Nat) (k unit : Int) (ba : Option Go.Addr) (bn be : Nat) (j : Int) (pa : Option Go.Addr) (pn pe : Nat)
  (o : Int) (X Y : Go.AI.Regs → Go.AI.AS → Prop) (σ : Go.AI.AS) (K : Go.Value → Go.AI.AS → Prop),
  Go.AI.jn Go.Proofs.Tryz.prog Go.AI.hintsS T (36 : Nat)
  [Bool.true, Bool.true, Bool.true, Bool.true, Bool.true, Bool.true, Bool.false, Bool.true, Bool.true, Bool.true, Bool.true, Bool.true, Bool.true, Bool.false, Bool.true, Bool.false, Bool.false, Bool.true, Bool.false,
  Bool.false, Bool.true, Bool.false, Bool.true, Bool.false, Bool.false, Bool.true, Bool.false, Bool.false]
  [X, Y] K
  [((0 : Nat), Option.some (Go.Value.pointer (Option.some (Go.Addr.mk s (0 : Nat) Option.none)))), ((2 : Nat), Option.some (Go.Value.slice la ln le)),
  ((7 : Nat), Option.some (Go.Value.int Go.IntKind.i64 i)), ((8 : Nat), Option.some (Go.Value.pointer (Option.some (Go.Addr.mk x (0 : Nat) Option.none)))),
  ((10 : Nat), Option.some (Go.Value.int Go.IntKind.i64 k)), ((11 : Nat), Option.some (Go.Value.int Go.IntKind.i64 unit)), ((12 : Nat), Option.some (Go.Value.slice ba bn be)),
  ((13 : Nat), Option.some (Go.Value.int Go.IntKind.i64 j)), ((14 : Nat), Option.some (Go.Value.slice pa pn pe)), ((15 : Nat), Option.some (Go.Value.int Go.IntKind.i64 o))]
  σ =
  Go.AI.ldc σ (Go.Addr.mk x ((0 : Nat) + (5 : Nat)) Option.none) fun (v0 : Go.Value) ↦
  Go.AI.tI Go.IntKind.i64 v0 fun (n1 : Int) ↦
  Go.AI.req ((0 : Int) ≤ o)
  (Go.AI.req (o < (↑pn : Int))
  (Go.AI.pSome pa fun (a2 : Go.Addr) ↦
  Go.AI.req (pe = Go.AI.szOf Go.Proofs.Tryz.prog (5 : Nat))
  (Go.AI.ldc σ (Go.Addr.add a2 (Int.toNat o * Go.AI.szOf Go.Proofs.Tryz.prog (5 : Nat))) fun (v3 : Go.Value) ↦
  Go.AI.tI Go.IntKind.u8 v3 fun (n4 : Int) ↦
  Go.AI.req ((0 : Int) ≤ Go.IntKind.wrap Go.IntKind.i64 (Go.IntKind.wrap Go.IntKind.i64 (unit * n1) + o))
  (Go.AI.req (Go.IntKind.wrap Go.IntKind.i64 (Go.IntKind.wrap Go.IntKind.i64 (unit * n1) + o) < (↑bn : Int))
  (Go.AI.pSome ba fun (a5 : Go.Addr) ↦
  Go.AI.req (be = Go.AI.szOf Go.Proofs.Tryz.prog (5 : Nat))
  (Go.AI.put1 σ (Go.Addr.add a5 (Int.toNat (Go.IntKind.wrap Go.IntKind.i64 (Go.IntKind.wrap Go.IntKind.i64 (unit * n1) + o)) * Go.AI.szOf Go.Proofs.Tryz.prog (5 : Nat)))
  (Go.Value.int Go.IntKind.u8 n4) fun (σ6 : Go.AI.AS) ↦
  Y
  [((0 : Nat), Option.some (Go.Value.pointer (Option.some (Go.Addr.mk s (0 : Nat) Option.none)))), ((2 : Nat), Option.some (Go.Value.slice la ln le)),
  ((7 : Nat), Option.some (Go.Value.int Go.IntKind.i64 i)), ((8 : Nat), Option.some (Go.Value.pointer (Option.some (Go.Addr.mk x (0 : Nat) Option.none)))),
  ((10 : Nat), Option.some (Go.Value.int Go.IntKind.i64 k)), ((11 : Nat), Option.some (Go.Value.int Go.IntKind.i64 unit)), ((12 : Nat), Option.some (Go.Value.slice ba bn be)),
  ((13 : Nat), Option.some (Go.Value.int Go.IntKind.i64 j)), ((14 : Nat), Option.some (Go.Value.slice pa pn pe)),
  ((15 : Nat), Option.some (Go.Value.int Go.IntKind.i64 (Go.IntKind.wrap Go.IntKind.i64 (o + (1 : Int)))))]
  σ6)))))) := by
  intros
  kernel_rfl

theorem s42 : ∀ (T : Go.AI.Ct) (s : Nat) (n : Int) (σ : Go.AI.AS) (K : Go.Value → Go.AI.AS → Prop),
  Go.AI.fw Go.Proofs.Tryz.prog Go.AI.hintsS T (42 : Nat) [Go.Value.pointer (Option.some (Go.Addr.mk s (0 : Nat) Option.none)), Go.Value.int Go.IntKind.i64 n] σ K =
  T (62 : Nat) [Go.Value.pointer (Option.some (Go.Addr.mk s (0 : Nat) Option.none)), Go.Value.int Go.IntKind.i64 n] σ fun (v0 : Go.Value) (σ1 : Go.AI.AS) ↦
  Go.AI.tI Go.IntKind.i64 v0 fun (n2 : Int) ↦
  Go.AI.bmatch (Decidable.decide (n2 < (0 : Int)))
  (K (Go.Value.tuple (Array.mk [Go.Value.int Go.IntKind.i64 (0 : Int), Go.Value.int Go.IntKind.i64 (0 : Int), Go.Value.slice Option.none (0 : Nat) (0 : Nat), Go.Value.int Go.IntKind.i64 (5 : Int)])) σ1)
  (Go.AI.ldc σ1 (Go.Addr.mk s ((0 : Nat) + (2 : Nat)) Option.none) fun (v3 : Go.Value) ↦
  Go.AI.tL (8 : Nat) v3 fun (s4 : Go.AI.Sl) ↦
  Go.AI.req ((0 : Int) ≤ n2)
  (Go.AI.req (n2 < (↑(Go.AI.Sl.n s4) : Int))
  (Go.AI.pSome (Go.AI.Sl.a s4) fun (a5 : Go.Addr) ↦
  Go.AI.lds σ1 (Go.Addr.add a5 (Int.toNat n2 * Go.AI.szOf Go.Proofs.Tryz.prog (94 : Nat))) (8 : Nat) fun (l6 : List Go.Value) ↦
  Go.AI.tCons l6 fun (v7 : Go.Value) (l8 : List Go.Value) ↦
  Go.AI.tI Go.IntKind.i64 v7 fun (n9 : Int) ↦
  Go.AI.tCons l8 fun (v10 : Go.Value) (l11 : List Go.Value) ↦
  Go.AI.tS v10 fun (b12 : ByteArray) ↦
  Go.AI.tCons l11 fun (v13 : Go.Value) (l14 : List Go.Value) ↦
  Go.AI.tL (1 : Nat) v13 fun (s15 : Go.AI.Sl) ↦
  Go.AI.tCons l14 fun (v16 : Go.Value) (l17 : List Go.Value) ↦
  Go.AI.tI Go.IntKind.i64 v16 fun (n18 : Int) ↦
  Go.AI.tCons l17 fun (v19 : Go.Value) (l20 : List Go.Value) ↦
  Go.AI.tB v19 fun (b21 : Bool) ↦
  Go.AI.tCons l20 fun (v22 : Go.Value) (l23 : List Go.Value) ↦
  Go.AI.tI Go.IntKind.i64 v22 fun (n24 : Int) ↦
  Go.AI.tCons l23 fun (v25 : Go.Value) (l26 : List Go.Value) ↦
  Go.AI.tI Go.IntKind.i64 v25 fun (n27 : Int) ↦
  Go.AI.tCons l26 fun (v28 : Go.Value) (l29 : List Go.Value) ↦
  Go.AI.tI Go.IntKind.i64 v28 fun (n30 : Int) ↦
  Go.AI.tNil l29
  (Go.AI.newAt σ1
  (Go.AI.AObj.row Go.AI.RK.plain
  [Go.Value.int Go.IntKind.i64 (0 : Int), Go.Value.string (ByteArray.mk #[]), Go.Value.slice Option.none (0 : Nat) (0 : Nat),
  Go.Value.int Go.IntKind.i64 (0 : Int), Go.Value.bool Bool.false, Go.Value.int Go.IntKind.i64 (0 : Int), Go.Value.int Go.IntKind.i64 (0 : Int),
  Go.Value.int Go.IntKind.i64 (0 : Int)])
  fun (i31 : Nat) (σ32 : Go.AI.AS) ↦
  Go.AI.puts σ32 (Go.Addr.mk i31 (0 : Nat) Option.none)
  [Go.Value.int Go.IntKind.i64 n9, Go.Value.string b12, Go.Value.slice (Go.AI.Sl.a s15) (Go.AI.Sl.n s15) (1 : Nat), Go.Value.int Go.IntKind.i64 n18,
  Go.Value.bool b21, Go.Value.int Go.IntKind.i64 n24, Go.Value.int Go.IntKind.i64 n27, Go.Value.int Go.IntKind.i64 n30]
  fun (σ33 : Go.AI.AS) ↦
  Go.AI.ldc σ33 (Go.Addr.mk s ((0 : Nat) + (2 : Nat)) Option.none) fun (v34 : Go.Value) ↦
  Go.AI.tL (8 : Nat) v34 fun (s35 : Go.AI.Sl) ↦
  Go.AI.req ((0 : Int) ≤ n2)
  (Go.AI.req (n2 ≤ (↑(Go.AI.capLo σ33 (Go.AI.Sl.a s35) (Go.AI.szOf Go.Proofs.Tryz.prog (94 : Nat)) (Go.AI.Sl.n s35)) : Int))
  (Go.AI.ldc σ33 (Go.Addr.mk s ((0 : Nat) + (2 : Nat)) Option.none) fun (v36 : Go.Value) ↦
  Go.AI.tL (8 : Nat) v36 fun (s37 : Go.AI.Sl) ↦
  Go.AI.req ((0 : Int) ≤ Go.IntKind.wrap Go.IntKind.i64 (n2 + (1 : Int)))
  (Go.AI.req (Go.IntKind.wrap Go.IntKind.i64 (n2 + (1 : Int)) ≤ (↑(Go.AI.Sl.n s37) : Int))
  (Go.AI.req
  ((↑(Go.AI.Sl.n s37) : Int) ≤ (↑(Go.AI.capLo σ33 (Go.AI.Sl.a s37) (Go.AI.szOf Go.Proofs.Tryz.prog (94 : Nat)) (Go.AI.Sl.n s37)) : Int))
  (Go.AI.newAt σ33 (Go.AI.AObj.row Go.AI.RK.rw []) fun (i38 : Nat) (σ39 : Go.AI.AS) ↦
  Go.AI.req ((0 : Int) ≤ Go.IntKind.wrap Go.IntKind.i64 (n2 + (1 : Int)))
  (Go.AI.req (Go.IntKind.wrap Go.IntKind.i64 (n2 + (1 : Int)) ≤ (↑(Go.AI.Sl.n s37) : Int))
  (Go.AI.req
  ((↑(Go.AI.Sl.n s37) : Int) ≤ (↑(Go.AI.capLo σ39 (Go.AI.Sl.a s37) (Go.AI.szOf Go.Proofs.Tryz.prog (94 : Nat)) (Go.AI.Sl.n s37)) : Int))
  (Go.Value.slice
  (Option.map
  (fun (x : Go.Addr) ↦
  Go.Addr.add x (Int.toNat (Go.IntKind.wrap Go.IntKind.i64 (n2 + (1 : Int))) * Go.AI.szOf Go.Proofs.Tryz.prog (94 : Nat)))
  (Go.AI.Sl.a s37))
  (Int.toNat ((↑(Go.AI.Sl.n s37) : Int) - Go.IntKind.wrap Go.IntKind.i64 (n2 + (1 : Int))))
  (Go.AI.szOf Go.Proofs.Tryz.prog (94 : Nat)) =
  Go.Value.slice
  (Option.map
  (fun (x : Go.Addr) ↦
  Go.Addr.add x (Int.toNat (Go.IntKind.wrap Go.IntKind.i64 (n2 + (1 : Int))) * Go.AI.szOf Go.Proofs.Tryz.prog (94 : Nat)))
  (Go.AI.Sl.a s37))
  (Int.toNat ((↑(Go.AI.Sl.n s37) : Int) - Go.IntKind.wrap Go.IntKind.i64 (n2 + (1 : Int))))
  (Go.AI.szOf Go.Proofs.Tryz.prog (94 : Nat)) ∧
  Go.AI.ldc σ39 (Go.Addr.mk s ((0 : Nat) + (2 : Nat)) Option.none) fun (v40 : Go.Value) ↦
  Go.AI.tL (8 : Nat) v40 fun (s41 : Go.AI.Sl) ↦
  Go.Value.slice (Go.AI.Sl.a s37) (Go.AI.Sl.n s37) (Go.AI.szOf Go.Proofs.Tryz.prog (94 : Nat)) =
  Go.Value.slice (Go.AI.Sl.a s41) (Go.AI.Sl.n s41) (Go.AI.szOf Go.Proofs.Tryz.prog (94 : Nat)) ∧
  Go.AI.req ((0 : Int) ≤ n2)
  (Go.AI.req (n2 ≤ (↑(Go.AI.capLo σ39 (Go.AI.Sl.a s35) (Go.AI.szOf Go.Proofs.Tryz.prog (94 : Nat)) (Go.AI.Sl.n s35)) : Int))
  (Go.Value.slice
  (Option.map (fun (x : Go.Addr) ↦ Go.Addr.add x (Int.toNat (0 : Int) * Go.AI.szOf Go.Proofs.Tryz.prog (94 : Nat)))
  (Go.AI.Sl.a s35))
  (Int.toNat (n2 - (0 : Int))) (Go.AI.szOf Go.Proofs.Tryz.prog (94 : Nat)) =
  Go.Value.slice
  (Option.map (fun (x : Go.Addr) ↦ Go.Addr.add x (Int.toNat (0 : Int) * Go.AI.szOf Go.Proofs.Tryz.prog (94 : Nat)))
  (Go.AI.Sl.a s35))
  (Int.toNat (n2 - (0 : Int))) (Go.AI.szOf Go.Proofs.Tryz.prog (94 : Nat)) ∧
  Go.AI.ldc σ39 (Go.Addr.mk s ((0 : Nat) + (2 : Nat)) Option.none) fun (v42 : Go.Value) ↦
  Go.AI.tL (8 : Nat) v42 fun (s43 : Go.AI.Sl) ↦
  Go.Value.slice (Go.AI.Sl.a s35) (Go.AI.Sl.n s35) (Go.AI.szOf Go.Proofs.Tryz.prog (94 : Nat)) =
  Go.Value.slice (Go.AI.Sl.a s43) (Go.AI.Sl.n s43) (Go.AI.szOf Go.Proofs.Tryz.prog (94 : Nat)) ∧
  Go.AI.srcCells σ39 (8 : Nat)
  (Option.some
  (Go.Value.slice
  (Option.map
  (fun (x : Go.Addr) ↦ Go.Addr.add x (Int.toNat (0 : Int) * Go.AI.szOf Go.Proofs.Tryz.prog (94 : Nat)))
  (Go.AI.Sl.a s35))
  (Int.toNat (n2 - (0 : Int))) (8 : Nat)))
  fun (m44 : Nat) (new45 : List Go.Value) ↦
  Go.AI.appendTo σ39 (8 : Nat) (88 : Nat)
  (Go.AI.Sl.mk (Option.some (Go.Addr.mk i38 (0 : Nat) Option.none)) (0 : Nat)) new45 m44
  fun (s46 : Go.AI.Sl) (σ47 : Go.AI.AS) ↦
  Go.AI.req ((0 : Int) ≤ Go.IntKind.wrap Go.IntKind.i64 (n2 + (1 : Int)))
  (Go.AI.req (Go.IntKind.wrap Go.IntKind.i64 (n2 + (1 : Int)) ≤ (↑(Go.AI.Sl.n s37) : Int))
  (Go.AI.req
  ((↑(Go.AI.Sl.n s37) : Int) ≤
  (↑(Go.AI.capLo σ47 (Go.AI.Sl.a s37) (Go.AI.szOf Go.Proofs.Tryz.prog (94 : Nat)) (Go.AI.Sl.n s37)) :
  Int))
  (Go.Value.slice
  (Option.map
  (fun (x : Go.Addr) ↦
  Go.Addr.add x
  (Int.toNat (Go.IntKind.wrap Go.IntKind.i64 (n2 + (1 : Int))) *
  Go.AI.szOf Go.Proofs.Tryz.prog (94 : Nat)))
  (Go.AI.Sl.a s37))
  (Int.toNat ((↑(Go.AI.Sl.n s37) : Int) - Go.IntKind.wrap Go.IntKind.i64 (n2 + (1 : Int))))
  (Go.AI.szOf Go.Proofs.Tryz.prog (94 : Nat)) =
  Go.Value.slice
  (Option.map
  (fun (x : Go.Addr) ↦
  Go.Addr.add x
  (Int.toNat (Go.IntKind.wrap Go.IntKind.i64 (n2 + (1 : Int))) *
  Go.AI.szOf Go.Proofs.Tryz.prog (94 : Nat)))
  (Go.AI.Sl.a s37))
  (Int.toNat ((↑(Go.AI.Sl.n s37) : Int) - Go.IntKind.wrap Go.IntKind.i64 (n2 + (1 : Int))))
  (Go.AI.szOf Go.Proofs.Tryz.prog (94 : Nat)) ∧
  Go.AI.ldc σ47 (Go.Addr.mk s ((0 : Nat) + (2 : Nat)) Option.none) fun (v48 : Go.Value) ↦
  Go.AI.tL (8 : Nat) v48 fun (s49 : Go.AI.Sl) ↦
  Go.Value.slice (Go.AI.Sl.a s37) (Go.AI.Sl.n s37) (Go.AI.szOf Go.Proofs.Tryz.prog (94 : Nat)) =
  Go.Value.slice (Go.AI.Sl.a s49) (Go.AI.Sl.n s49) (Go.AI.szOf Go.Proofs.Tryz.prog (94 : Nat)) ∧
  Go.AI.srcCells σ47 (8 : Nat)
  (Option.some
  (Go.Value.slice
  (Option.map
  (fun (x : Go.Addr) ↦
  Go.Addr.add x
  (Int.toNat (Go.IntKind.wrap Go.IntKind.i64 (n2 + (1 : Int))) *
  Go.AI.szOf Go.Proofs.Tryz.prog (94 : Nat)))
  (Go.AI.Sl.a s37))
  (Int.toNat ((↑(Go.AI.Sl.n s37) : Int) - Go.IntKind.wrap Go.IntKind.i64 (n2 + (1 : Int))))
  (8 : Nat)))
  fun (m50 : Nat) (new51 : List Go.Value) ↦
  Go.AI.appendTo σ47 (8 : Nat) (88 : Nat) (Go.AI.Sl.mk (Go.AI.Sl.a s46) (Go.AI.Sl.n s46)) new51
  m50 fun (s52 : Go.AI.Sl) (σ53 : Go.AI.AS) ↦
  Go.AI.put1 σ53 (Go.Addr.mk s ((0 : Nat) + (2 : Nat)) Option.none)
  (Go.Value.slice (Go.AI.Sl.a s52) (Go.AI.Sl.n s52) (8 : Nat)) fun (σ54 : Go.AI.AS) ↦
  Go.AI.ldc σ54 (Go.Addr.mk i31 ((0 : Nat) + (6 : Nat)) Option.none) fun (v55 : Go.Value) ↦
  Go.AI.tI Go.IntKind.i64 v55 fun (n56 : Int) ↦
  Go.AI.ldc σ54 (Go.Addr.mk i31 ((0 : Nat) + (7 : Nat)) Option.none)
  fun (v57 : Go.Value) ↦
  Go.AI.tI Go.IntKind.i64 v57 fun (n58 : Int) ↦
  Go.AI.ldc σ54 (Go.Addr.mk i31 ((0 : Nat) + (2 : Nat)) Option.none)
  fun (v59 : Go.Value) ↦
  Go.AI.tL (1 : Nat) v59 fun (s60 : Go.AI.Sl) ↦
  K
  (Go.Value.tuple
  (Array.mk
  [Go.Value.int Go.IntKind.i64 n56, Go.Value.int Go.IntKind.i64 n58,
  Go.Value.slice (Go.AI.Sl.a s60) (Go.AI.Sl.n s60) (1 : Nat),
  Go.Value.int Go.IntKind.i64 (0 : Int)]))
  σ54))))))))))))))))) := by
  intros
  kernel_rfl

theorem s50 : ∀ (T : Go.AI.Ct) (s : Nat) (n : Int) (σ : Go.AI.AS) (K : Go.Value → Go.AI.AS → Prop),
  Go.AI.fw Go.Proofs.Tryz.prog Go.AI.hintsS T (50 : Nat) [Go.Value.pointer (Option.some (Go.Addr.mk s (0 : Nat) Option.none)), Go.Value.int Go.IntKind.i64 n] σ K =
  T (62 : Nat) [Go.Value.pointer (Option.some (Go.Addr.mk s (0 : Nat) Option.none)), Go.Value.int Go.IntKind.i64 n] σ fun (v0 : Go.Value) (σ1 : Go.AI.AS) ↦
  Go.AI.tI Go.IntKind.i64 v0 fun (n2 : Int) ↦
  Go.AI.bmatch (Decidable.decide (n2 < (0 : Int))) (K (Go.Value.tuple (Array.mk [Go.Value.int Go.IntKind.i64 (0 : Int), Go.Value.int Go.IntKind.i64 (0 : Int), Go.Value.int Go.IntKind.i64 (5 : Int)])) σ1)
  (Go.AI.ldc σ1 (Go.Addr.mk s ((0 : Nat) + (2 : Nat)) Option.none) fun (v3 : Go.Value) ↦
  Go.AI.tL (8 : Nat) v3 fun (s4 : Go.AI.Sl) ↦
  Go.AI.req ((0 : Int) ≤ n2)
  (Go.AI.req (n2 < (↑(Go.AI.Sl.n s4) : Int))
  (Go.AI.pSome (Go.AI.Sl.a s4) fun (a5 : Go.Addr) ↦
  Go.AI.ldc σ1
  (Go.Addr.mk (Go.Addr.block (Go.Addr.add a5 (Int.toNat n2 * Go.AI.szOf Go.Proofs.Tryz.prog (94 : Nat))))
  (Go.Addr.off (Go.Addr.add a5 (Int.toNat n2 * Go.AI.szOf Go.Proofs.Tryz.prog (94 : Nat))) + (5 : Nat)) Option.none)
  fun (v6 : Go.Value) ↦
  Go.AI.tI Go.IntKind.i64 v6 fun (n7 : Int) ↦
  Go.AI.ldc σ1 (Go.Addr.mk s ((0 : Nat) + (2 : Nat)) Option.none) fun (v8 : Go.Value) ↦
  Go.AI.tL (8 : Nat) v8 fun (s9 : Go.AI.Sl) ↦
  Go.AI.req ((0 : Int) ≤ n2)
  (Go.AI.req (n2 < (↑(Go.AI.Sl.n s9) : Int))
  (Go.AI.pSome (Go.AI.Sl.a s9) fun (a10 : Go.Addr) ↦
  Go.AI.lds σ1 (Go.Addr.add a10 (Int.toNat n2 * Go.AI.szOf Go.Proofs.Tryz.prog (94 : Nat))) (8 : Nat) fun (l11 : List Go.Value) ↦
  Go.AI.tCons l11 fun (v12 : Go.Value) (l13 : List Go.Value) ↦
  Go.AI.tI Go.IntKind.i64 v12 fun (n14 : Int) ↦
  Go.AI.tCons l13 fun (v15 : Go.Value) (l16 : List Go.Value) ↦
  Go.AI.tS v15 fun (b17 : ByteArray) ↦
  Go.AI.tCons l16 fun (v18 : Go.Value) (l19 : List Go.Value) ↦
  Go.AI.tL (1 : Nat) v18 fun (s20 : Go.AI.Sl) ↦
  Go.AI.tCons l19 fun (v21 : Go.Value) (l22 : List Go.Value) ↦
  Go.AI.tI Go.IntKind.i64 v21 fun (n23 : Int) ↦
  Go.AI.tCons l22 fun (v24 : Go.Value) (l25 : List Go.Value) ↦
  Go.AI.tB v24 fun (b26 : Bool) ↦
  Go.AI.tCons l25 fun (v27 : Go.Value) (l28 : List Go.Value) ↦
  Go.AI.tI Go.IntKind.i64 v27 fun (n29 : Int) ↦
  Go.AI.tCons l28 fun (v30 : Go.Value) (l31 : List Go.Value) ↦
  Go.AI.tI Go.IntKind.i64 v30 fun (n32 : Int) ↦
  Go.AI.tCons l31 fun (v33 : Go.Value) (l34 : List Go.Value) ↦
  Go.AI.tI Go.IntKind.i64 v33 fun (n35 : Int) ↦
  Go.AI.tNil l34
  (T (59 : Nat)
  [Go.Value.pointer (Option.some (Go.Addr.mk s (0 : Nat) Option.none)),
  Go.Value.agg
  (Array.mk
  [Go.Value.int Go.IntKind.i64 n14, Go.Value.string b17, Go.Value.slice (Go.AI.Sl.a s20) (Go.AI.Sl.n s20) (1 : Nat),
  Go.Value.int Go.IntKind.i64 n23, Go.Value.bool b26, Go.Value.int Go.IntKind.i64 n29, Go.Value.int Go.IntKind.i64 n32,
  Go.Value.int Go.IntKind.i64 n35])]
  σ1 fun (v36 : Go.Value) (σ37 : Go.AI.AS) ↦
  Go.AI.tL (1 : Nat) v36 fun (s38 : Go.AI.Sl) ↦
  Go.AI.ldc σ37
  (Go.Addr.mk (Go.Addr.block (Go.Addr.add a5 (Int.toNat n2 * Go.AI.szOf Go.Proofs.Tryz.prog (94 : Nat))))
  (Go.Addr.off (Go.Addr.add a5 (Int.toNat n2 * Go.AI.szOf Go.Proofs.Tryz.prog (94 : Nat))) + (5 : Nat)) Option.none)
  fun (v39 : Go.Value) ↦
  Go.AI.tI Go.IntKind.i64 v39 fun (n40 : Int) ↦
  Go.Value.int Go.IntKind.i64 n7 = Go.Value.int Go.IntKind.i64 n40 ∧
  Go.AI.ldc σ37 (Go.Addr.mk s ((0 : Nat) + (2 : Nat)) Option.none) fun (v41 : Go.Value) ↦
  Go.AI.tL (8 : Nat) v41 fun (s42 : Go.AI.Sl) ↦
  Go.Value.slice (Go.AI.Sl.a s4) (Go.AI.Sl.n s4) (Go.AI.szOf Go.Proofs.Tryz.prog (94 : Nat)) =
  Go.Value.slice (Go.AI.Sl.a s42) (Go.AI.Sl.n s42) (Go.AI.szOf Go.Proofs.Tryz.prog (94 : Nat)) ∧
  K
  (Go.Value.tuple
  (Array.mk
  [Go.Value.int Go.IntKind.i64 n7, Go.Value.int Go.IntKind.i64 (↑(Go.AI.Sl.n s38) : Int), Go.Value.int Go.IntKind.i64 (0 : Int)]))
  σ37)))))) := by
  intros
  kernel_rfl

end Go.AI
end
section
/- The conditions ahead of the calls of the program's functions, reckoned as far as they go (equations that the kernel checks); no condition. -/
set_option maxRecDepth 1000000
set_option linter.unusedVariables false
namespace Go.AI
open Go.Proofs
theorem s38 : ∀ (T : Go.AI.Ct) (s : Nat) (n : Int) (σ : Go.AI.AS) (K : Go.Value → Go.AI.AS → Prop),
  Go.AI.fw Go.Proofs.Tryz.prog Go.AI.hintsS T (38 : Nat) [Go.Value.pointer (Option.some (Go.Addr.mk s (0 : Nat) Option.none)), Go.Value.int Go.IntKind.i64 n] σ K =
  T (62 : Nat) [Go.Value.pointer (Option.some (Go.Addr.mk s (0 : Nat) Option.none)), Go.Value.int Go.IntKind.i64 n] σ fun (v0 : Go.Value) (σ1 : Go.AI.AS) ↦
  Go.AI.tI Go.IntKind.i64 v0 fun (n2 : Int) ↦
  Go.AI.bmatch (Decidable.decide (n2 < (0 : Int))) (K (Go.Value.tuple (Array.mk [Go.Value.int Go.IntKind.u32 (0 : Int), Go.Value.bool Bool.false, Go.Value.int Go.IntKind.i64 (5 : Int)])) σ1)
  (Go.AI.ldc σ1 (Go.Addr.mk s ((0 : Nat) + (2 : Nat)) Option.none) fun (v3 : Go.Value) ↦
  Go.AI.tL (8 : Nat) v3 fun (s4 : Go.AI.Sl) ↦
  Go.AI.req ((0 : Int) ≤ n2)
  (Go.AI.req (n2 < (↑(Go.AI.Sl.n s4) : Int))
  (Go.AI.pSome (Go.AI.Sl.a s4) fun (a5 : Go.Addr) ↦
  Go.AI.ldc σ1
  (Go.Addr.mk (Go.Addr.block (Go.Addr.add a5 (Int.toNat n2 * Go.AI.szOf Go.Proofs.Tryz.prog (94 : Nat))))
  (Go.Addr.off (Go.Addr.add a5 (Int.toNat n2 * Go.AI.szOf Go.Proofs.Tryz.prog (94 : Nat))) + (3 : Nat)) Option.none)
  fun (v6 : Go.Value) ↦
  Go.AI.tI Go.IntKind.i64 v6 fun (n7 : Int) ↦
  Go.AI.bmatch (n7 != (2 : Int))
  (Go.AI.ldc σ1 (Go.Addr.mk s ((0 : Nat) + (2 : Nat)) Option.none) fun (v8 : Go.Value) ↦
  Go.AI.tL (8 : Nat) v8 fun (s9 : Go.AI.Sl) ↦
  Go.AI.req ((0 : Int) ≤ n2)
  (Go.AI.req (n2 < (↑(Go.AI.Sl.n s9) : Int))
  (Go.AI.pSome (Go.AI.Sl.a s9) fun (a10 : Go.Addr) ↦
  Go.AI.ldc σ1
  (Go.Addr.mk (Go.Addr.block (Go.Addr.add a10 (Int.toNat n2 * Go.AI.szOf Go.Proofs.Tryz.prog (94 : Nat))))
  (Go.Addr.off (Go.Addr.add a10 (Int.toNat n2 * Go.AI.szOf Go.Proofs.Tryz.prog (94 : Nat))) + (3 : Nat)) Option.none)
  fun (v11 : Go.Value) ↦
  Go.AI.tI Go.IntKind.i64 v11 fun (n12 : Int) ↦
  Go.AI.JoinS (Go.AI.jn Go.Proofs.Tryz.prog Go.AI.hintsS T (38 : Nat) [Bool.true, Bool.true, Bool.true, Bool.false] [] K)
  [((0 : Nat), Option.some (Go.Value.pointer (Option.some (Go.Addr.mk s (0 : Nat) Option.none)))), ((7 : Nat), Option.some (Go.Value.int Go.IntKind.i64 n2)),
  ((34 : Nat), Option.some (Go.Value.bool (n12 != (3 : Int))))]
  σ1)))
  (Go.AI.JoinS (Go.AI.jn Go.Proofs.Tryz.prog Go.AI.hintsS T (38 : Nat) [Bool.true, Bool.true, Bool.true, Bool.false] [] K)
  [((0 : Nat), Option.some (Go.Value.pointer (Option.some (Go.Addr.mk s (0 : Nat) Option.none)))), ((7 : Nat), Option.some (Go.Value.int Go.IntKind.i64 n2)),
  ((34 : Nat), Option.some (Go.Value.bool Bool.false))]
  σ1)))) := by
  intros
  kernel_rfl

theorem s38j : ∀ (T : Go.AI.Ct) (s : Nat) (i : Int) (r34_1 : Bool) (σ : Go.AI.AS) (K : Go.Value → Go.AI.AS → Prop),
  Go.AI.jn Go.Proofs.Tryz.prog Go.AI.hintsS T (38 : Nat) [Bool.true, Bool.true, Bool.true, Bool.false] [] K
  [((0 : Nat), Option.some (Go.Value.pointer (Option.some (Go.Addr.mk s (0 : Nat) Option.none)))), ((7 : Nat), Option.some (Go.Value.int Go.IntKind.i64 i)), ((34 : Nat), Option.some (Go.Value.bool r34_1))] σ =
  Go.AI.bmatch r34_1 (K (Go.Value.tuple (Array.mk [Go.Value.int Go.IntKind.u32 (0 : Int), Go.Value.bool Bool.false, Go.Value.int Go.IntKind.i64 (1 : Int)])) σ)
  (Go.AI.ldc σ (Go.Addr.mk s ((0 : Nat) + (2 : Nat)) Option.none) fun (v0 : Go.Value) ↦
  Go.AI.tL (8 : Nat) v0 fun (s1 : Go.AI.Sl) ↦
  Go.AI.req ((0 : Int) ≤ i)
  (Go.AI.req (i < (↑(Go.AI.Sl.n s1) : Int))
  (Go.AI.pSome (Go.AI.Sl.a s1) fun (a2 : Go.Addr) ↦
  Go.AI.lds σ (Go.Addr.add a2 (Int.toNat i * Go.AI.szOf Go.Proofs.Tryz.prog (94 : Nat))) (8 : Nat) fun (l3 : List Go.Value) ↦
  Go.AI.tCons l3 fun (v4 : Go.Value) (l5 : List Go.Value) ↦
  Go.AI.tI Go.IntKind.i64 v4 fun (n6 : Int) ↦
  Go.AI.tCons l5 fun (v7 : Go.Value) (l8 : List Go.Value) ↦
  Go.AI.tS v7 fun (b9 : ByteArray) ↦
  Go.AI.tCons l8 fun (v10 : Go.Value) (l11 : List Go.Value) ↦
  Go.AI.tL (1 : Nat) v10 fun (s12 : Go.AI.Sl) ↦
  Go.AI.tCons l11 fun (v13 : Go.Value) (l14 : List Go.Value) ↦
  Go.AI.tI Go.IntKind.i64 v13 fun (n15 : Int) ↦
  Go.AI.tCons l14 fun (v16 : Go.Value) (l17 : List Go.Value) ↦
  Go.AI.tB v16 fun (b18 : Bool) ↦
  Go.AI.tCons l17 fun (v19 : Go.Value) (l20 : List Go.Value) ↦
  Go.AI.tI Go.IntKind.i64 v19 fun (n21 : Int) ↦
  Go.AI.tCons l20 fun (v22 : Go.Value) (l23 : List Go.Value) ↦
  Go.AI.tI Go.IntKind.i64 v22 fun (n24 : Int) ↦
  Go.AI.tCons l23 fun (v25 : Go.Value) (l26 : List Go.Value) ↦
  Go.AI.tI Go.IntKind.i64 v25 fun (n27 : Int) ↦
  Go.AI.tNil l26
  (T (59 : Nat)
  [Go.Value.pointer (Option.some (Go.Addr.mk s (0 : Nat) Option.none)),
  Go.Value.agg
  (Array.mk
  [Go.Value.int Go.IntKind.i64 n6, Go.Value.string b9, Go.Value.slice (Go.AI.Sl.a s12) (Go.AI.Sl.n s12) (1 : Nat), Go.Value.int Go.IntKind.i64 n15,
  Go.Value.bool b18, Go.Value.int Go.IntKind.i64 n21, Go.Value.int Go.IntKind.i64 n24, Go.Value.int Go.IntKind.i64 n27])]
  σ fun (v28 : Go.Value) (σ29 : Go.AI.AS) ↦
  Go.AI.tL (1 : Nat) v28 fun (s30 : Go.AI.Sl) ↦
  Go.AI.ldc σ29 (Go.Addr.mk s ((0 : Nat) + (2 : Nat)) Option.none) fun (v31 : Go.Value) ↦
  Go.AI.tL (8 : Nat) v31 fun (s32 : Go.AI.Sl) ↦
  Go.AI.req ((0 : Int) ≤ i)
  (Go.AI.req (i < (↑(Go.AI.Sl.n s32) : Int))
  (Go.AI.pSome (Go.AI.Sl.a s32) fun (a33 : Go.Addr) ↦
  Go.AI.ldc σ29
  (Go.Addr.mk (Go.Addr.block (Go.Addr.add a33 (Int.toNat i * Go.AI.szOf Go.Proofs.Tryz.prog (94 : Nat))))
  (Go.Addr.off (Go.Addr.add a33 (Int.toNat i * Go.AI.szOf Go.Proofs.Tryz.prog (94 : Nat))) + (5 : Nat)) Option.none)
  fun (v34 : Go.Value) ↦
  Go.AI.tI Go.IntKind.i64 v34 fun (n35 : Int) ↦
  Go.AI.bmatch (Decidable.decide (n35 ≥ (↑(Go.AI.Sl.n s30) : Int)))
  (K (Go.Value.tuple (Array.mk [Go.Value.int Go.IntKind.u32 (0 : Int), Go.Value.bool Bool.false, Go.Value.int Go.IntKind.i64 (0 : Int)])) σ29)
  (Go.AI.ldc σ29 (Go.Addr.mk s ((0 : Nat) + (2 : Nat)) Option.none) fun (v36 : Go.Value) ↦
  Go.AI.tL (8 : Nat) v36 fun (s37 : Go.AI.Sl) ↦
  Go.AI.req ((0 : Int) ≤ i)
  (Go.AI.req (i < (↑(Go.AI.Sl.n s37) : Int))
  (Go.AI.pSome (Go.AI.Sl.a s37) fun (a38 : Go.Addr) ↦
  Go.AI.ldc σ29
  (Go.Addr.mk (Go.Addr.block (Go.Addr.add a38 (Int.toNat i * Go.AI.szOf Go.Proofs.Tryz.prog (94 : Nat))))
  (Go.Addr.off (Go.Addr.add a38 (Int.toNat i * Go.AI.szOf Go.Proofs.Tryz.prog (94 : Nat))) + (5 : Nat)) Option.none)
  fun (v39 : Go.Value) ↦
  Go.AI.tI Go.IntKind.i64 v39 fun (n40 : Int) ↦
  Go.AI.req ((0 : Int) ≤ n40)
  (Go.AI.req (n40 < (↑(Go.AI.Sl.n s30) : Int))
  (Go.AI.pSome (Go.AI.Sl.a s30) fun (a41 : Go.Addr) ↦
  Go.AI.ldc σ29 (Go.Addr.add a41 (Int.toNat n40 * Go.AI.szOf Go.Proofs.Tryz.prog (54 : Nat))) fun (v42 : Go.Value) ↦
  Go.AI.tI Go.IntKind.u32 v42 fun (n43 : Int) ↦
  Go.AI.ldc σ29 (Go.Addr.mk s ((0 : Nat) + (2 : Nat)) Option.none) fun (v44 : Go.Value) ↦
  Go.AI.tL (8 : Nat) v44 fun (s45 : Go.AI.Sl) ↦
  Go.AI.req ((0 : Int) ≤ i)
  (Go.AI.req (i < (↑(Go.AI.Sl.n s45) : Int))
  (Go.AI.pSome (Go.AI.Sl.a s45) fun (a46 : Go.Addr) ↦
  Go.AI.ldc σ29
  (Go.Addr.mk (Go.Addr.block (Go.Addr.add a46 (Int.toNat i * Go.AI.szOf Go.Proofs.Tryz.prog (94 : Nat))))
  (Go.Addr.off (Go.Addr.add a46 (Int.toNat i * Go.AI.szOf Go.Proofs.Tryz.prog (94 : Nat))) + (5 : Nat))
  Option.none)
  fun (v47 : Go.Value) ↦
  Go.AI.tI Go.IntKind.i64 v47 fun (n48 : Int) ↦
  Go.AI.req ((0 : Int) ≤ i)
  (Go.AI.req (i < (↑(Go.AI.Sl.n s45) : Int))
  (Go.AI.pSome (Go.AI.Sl.a s45) fun (a49 : Go.Addr) ↦
  Go.AI.put1 σ29
  (Go.Addr.mk
  (Go.Addr.block (Go.Addr.add a49 (Int.toNat i * Go.AI.szOf Go.Proofs.Tryz.prog (94 : Nat))))
  (Go.Addr.off (Go.Addr.add a49 (Int.toNat i * Go.AI.szOf Go.Proofs.Tryz.prog (94 : Nat))) +
  (5 : Nat))
  Option.none)
  (Go.Value.int Go.IntKind.i64 (Go.IntKind.wrap Go.IntKind.i64 (n48 + (1 : Int))))
  fun (σ50 : Go.AI.AS) ↦
  Go.AI.ldc σ50 (Go.Addr.mk s ((0 : Nat) + (2 : Nat)) Option.none) fun (v51 : Go.Value) ↦
  Go.AI.tL (8 : Nat) v51 fun (s52 : Go.AI.Sl) ↦
  Go.AI.req ((0 : Int) ≤ i)
  (Go.AI.req (i < (↑(Go.AI.Sl.n s52) : Int))
  (Go.AI.pSome (Go.AI.Sl.a s52) fun (a53 : Go.Addr) ↦
  Go.AI.ldc σ50
  (Go.Addr.mk
  (Go.Addr.block
  (Go.Addr.add a53 (Int.toNat i * Go.AI.szOf Go.Proofs.Tryz.prog (94 : Nat))))
  (Go.Addr.off
  (Go.Addr.add a53 (Int.toNat i * Go.AI.szOf Go.Proofs.Tryz.prog (94 : Nat))) +
  (6 : Nat))
  Option.none)
  fun (v54 : Go.Value) ↦
  Go.AI.tI Go.IntKind.i64 v54 fun (n55 : Int) ↦
  Go.AI.req ((0 : Int) ≤ i)
  (Go.AI.req (i < (↑(Go.AI.Sl.n s52) : Int))
  (Go.AI.pSome (Go.AI.Sl.a s52) fun (a56 : Go.Addr) ↦
  Go.AI.put1 σ50
  (Go.Addr.mk
  (Go.Addr.block
  (Go.Addr.add a56
  (Int.toNat i * Go.AI.szOf Go.Proofs.Tryz.prog (94 : Nat))))
  (Go.Addr.off
  (Go.Addr.add a56
  (Int.toNat i * Go.AI.szOf Go.Proofs.Tryz.prog (94 : Nat))) +
  (6 : Nat))
  Option.none)
  (Go.Value.int Go.IntKind.i64 (Go.IntKind.wrap Go.IntKind.i64 (n55 + (1 : Int))))
  fun (σ57 : Go.AI.AS) ↦
  K
  (Go.Value.tuple
  (Array.mk
  [Go.Value.int Go.IntKind.u32 n43, Go.Value.bool Bool.true,
  Go.Value.int Go.IntKind.i64 (0 : Int)]))
  σ57))))))))))))))))))) := by
  intros
  kernel_rfl

theorem s40 : ∀ (T : Go.AI.Ct) (s : Nat) (n most : Int) (σ : Go.AI.AS) (K : Go.Value → Go.AI.AS → Prop),
  Go.AI.fw Go.Proofs.Tryz.prog Go.AI.hintsS T (40 : Nat) [Go.Value.pointer (Option.some (Go.Addr.mk s (0 : Nat) Option.none)), Go.Value.int Go.IntKind.i64 n, Go.Value.int Go.IntKind.i64 most] σ K =
  T (62 : Nat) [Go.Value.pointer (Option.some (Go.Addr.mk s (0 : Nat) Option.none)), Go.Value.int Go.IntKind.i64 n] σ fun (v0 : Go.Value) (σ1 : Go.AI.AS) ↦
  Go.AI.tI Go.IntKind.i64 v0 fun (n2 : Int) ↦
  Go.AI.bmatch (Decidable.decide (n2 < (0 : Int))) (K (Go.Value.tuple (Array.mk [Go.Value.slice Option.none (0 : Nat) (0 : Nat), Go.Value.int Go.IntKind.i64 (5 : Int)])) σ1)
  (Go.AI.ldc σ1 (Go.Addr.mk s ((0 : Nat) + (2 : Nat)) Option.none) fun (v3 : Go.Value) ↦
  Go.AI.tL (8 : Nat) v3 fun (s4 : Go.AI.Sl) ↦
  Go.AI.req ((0 : Int) ≤ n2)
  (Go.AI.req (n2 < (↑(Go.AI.Sl.n s4) : Int))
  (Go.AI.pSome (Go.AI.Sl.a s4) fun (a5 : Go.Addr) ↦
  Go.AI.ldc σ1
  (Go.Addr.mk (Go.Addr.block (Go.Addr.add a5 (Int.toNat n2 * Go.AI.szOf Go.Proofs.Tryz.prog (94 : Nat))))
  (Go.Addr.off (Go.Addr.add a5 (Int.toNat n2 * Go.AI.szOf Go.Proofs.Tryz.prog (94 : Nat))) + (3 : Nat)) Option.none)
  fun (v6 : Go.Value) ↦
  Go.AI.tI Go.IntKind.i64 v6 fun (n7 : Int) ↦
  Go.AI.bmatch (n7 != (2 : Int))
  (Go.AI.ldc σ1 (Go.Addr.mk s ((0 : Nat) + (2 : Nat)) Option.none) fun (v8 : Go.Value) ↦
  Go.AI.tL (8 : Nat) v8 fun (s9 : Go.AI.Sl) ↦
  Go.AI.req ((0 : Int) ≤ n2)
  (Go.AI.req (n2 < (↑(Go.AI.Sl.n s9) : Int))
  (Go.AI.pSome (Go.AI.Sl.a s9) fun (a10 : Go.Addr) ↦
  Go.AI.ldc σ1
  (Go.Addr.mk (Go.Addr.block (Go.Addr.add a10 (Int.toNat n2 * Go.AI.szOf Go.Proofs.Tryz.prog (94 : Nat))))
  (Go.Addr.off (Go.Addr.add a10 (Int.toNat n2 * Go.AI.szOf Go.Proofs.Tryz.prog (94 : Nat))) + (3 : Nat)) Option.none)
  fun (v11 : Go.Value) ↦
  Go.AI.tI Go.IntKind.i64 v11 fun (n12 : Int) ↦
  Go.AI.JoinS (Go.AI.jn Go.Proofs.Tryz.prog Go.AI.hintsS T (40 : Nat) [Bool.true, Bool.true, Bool.true, Bool.true, Bool.false] [] K)
  [((0 : Nat), Option.some (Go.Value.pointer (Option.some (Go.Addr.mk s (0 : Nat) Option.none)))), ((1 : Nat), Option.some (Go.Value.int Go.IntKind.i64 n)),
  ((2 : Nat), Option.some (Go.Value.int Go.IntKind.i64 most)), ((8 : Nat), Option.some (Go.Value.slice Option.none (0 : Nat) (0 : Nat))),
  ((37 : Nat), Option.some (Go.Value.bool (n12 != (3 : Int))))]
  σ1)))
  (Go.AI.JoinS (Go.AI.jn Go.Proofs.Tryz.prog Go.AI.hintsS T (40 : Nat) [Bool.true, Bool.true, Bool.true, Bool.true, Bool.false] [] K)
  [((0 : Nat), Option.some (Go.Value.pointer (Option.some (Go.Addr.mk s (0 : Nat) Option.none)))), ((1 : Nat), Option.some (Go.Value.int Go.IntKind.i64 n)),
  ((2 : Nat), Option.some (Go.Value.int Go.IntKind.i64 most)), ((8 : Nat), Option.some (Go.Value.slice Option.none (0 : Nat) (0 : Nat))),
  ((37 : Nat), Option.some (Go.Value.bool Bool.false))]
  σ1)))) := by
  intros
  kernel_rfl

theorem s40j : ∀ (T : Go.AI.Ct) (s : Nat) (n most : Int) (outa : Option Go.Addr) (outn oute : Nat) (r37_1 : Bool) (σ : Go.AI.AS) (K : Go.Value → Go.AI.AS → Prop),
  Go.AI.jn Go.Proofs.Tryz.prog Go.AI.hintsS T (40 : Nat) [Bool.true, Bool.true, Bool.true, Bool.true, Bool.false] [] K
  [((0 : Nat), Option.some (Go.Value.pointer (Option.some (Go.Addr.mk s (0 : Nat) Option.none)))), ((1 : Nat), Option.some (Go.Value.int Go.IntKind.i64 n)),
  ((2 : Nat), Option.some (Go.Value.int Go.IntKind.i64 most)), ((8 : Nat), Option.some (Go.Value.slice outa outn oute)), ((37 : Nat), Option.some (Go.Value.bool r37_1))]
  σ =
  Go.AI.bmatch r37_1 (K (Go.Value.tuple (Array.mk [Go.Value.slice Option.none (0 : Nat) (0 : Nat), Go.Value.int Go.IntKind.i64 (1 : Int)])) σ)
  (Go.AI.ALoop (Go.AI.fl Go.Proofs.Tryz.prog Go.AI.hintsS T (40 : Nat) [Bool.true, Bool.true, Bool.true, Bool.true, Bool.true, Bool.false, Bool.false] [] K)
  [((0 : Nat), Option.some (Go.Value.pointer (Option.some (Go.Addr.mk s (0 : Nat) Option.none)))), ((1 : Nat), Option.some (Go.Value.int Go.IntKind.i64 n)),
  ((2 : Nat), Option.some (Go.Value.int Go.IntKind.i64 most)), ((8 : Nat), Option.some (Go.Value.slice outa outn oute))]
  σ) := by
  intros
  kernel_rfl

theorem s40l : ∀ (T : Go.AI.Ct) (s : Nat) (n most : Int) (outa : Option Go.Addr) (outn oute : Nat) (X : Go.AI.Regs → Go.AI.AS → Prop) (σ : Go.AI.AS) (K : Go.Value → Go.AI.AS → Prop),
  Go.AI.fl Go.Proofs.Tryz.prog Go.AI.hintsS T (40 : Nat) [Bool.true, Bool.true, Bool.true, Bool.true, Bool.true, Bool.false, Bool.false] [] K X
  [((0 : Nat), Option.some (Go.Value.pointer (Option.some (Go.Addr.mk s (0 : Nat) Option.none)))), ((1 : Nat), Option.some (Go.Value.int Go.IntKind.i64 n)),
  ((2 : Nat), Option.some (Go.Value.int Go.IntKind.i64 most)), ((8 : Nat), Option.some (Go.Value.slice outa outn oute))]
  σ =
  Go.AI.bmatch (Decidable.decide ((↑outn : Int) < most))
  (T (38 : Nat) [Go.Value.pointer (Option.some (Go.Addr.mk s (0 : Nat) Option.none)), Go.Value.int Go.IntKind.i64 n] σ fun (v0 : Go.Value) (σ1 : Go.AI.AS) ↦
  Go.AI.tTup v0 fun (l2 : List Go.Value) ↦
  Go.AI.pSome l2[(0 : Nat)]? fun (u3 : Go.Value) ↦
  Go.AI.tI Go.IntKind.u32 u3 fun (n4 : Int) ↦
  Go.AI.tTup v0 fun (l5 : List Go.Value) ↦
  Go.AI.pSome l5[(1 : Nat)]? fun (u6 : Go.Value) ↦
  Go.AI.tB u6 fun (b7 : Bool) ↦
  Go.AI.tTup v0 fun (l8 : List Go.Value) ↦
  Go.AI.pSome l8[(2 : Nat)]? fun (u9 : Go.Value) ↦
  Go.AI.tI Go.IntKind.i64 u9 fun (n10 : Int) ↦
  Go.AI.bmatch (!b7) (K (Go.Value.tuple (Array.mk [Go.Value.slice outa outn oute, Go.Value.int Go.IntKind.i64 (0 : Int)])) σ1)
  (Go.AI.newAt σ1 (Go.AI.AObj.row Go.AI.RK.rw [Go.Value.int Go.IntKind.u32 n4]) fun (i11 : Nat) (σ12 : Go.AI.AS) ↦
  Go.AI.chk (Go.AI.nilOr outa oute (Go.AI.szOf Go.Proofs.Tryz.prog (54 : Nat)))
  (Go.AI.lds σ12 (Go.Addr.mk i11 (0 : Nat) Option.none) (1 : Nat) fun (l13 : List Go.Value) ↦
  Go.AI.appendTo σ12 (1 : Nat) (4 : Nat) (Go.AI.Sl.mk outa outn) l13 (1 : Nat) fun (s14 : Go.AI.Sl) (σ15 : Go.AI.AS) ↦
  Go.AI.bmatch (n4 == (10 : Int)) (K (Go.Value.tuple (Array.mk [Go.Value.slice (Go.AI.Sl.a s14) (Go.AI.Sl.n s14) (1 : Nat), Go.Value.int Go.IntKind.i64 (0 : Int)])) σ15)
  (X
  [((0 : Nat), Option.some (Go.Value.pointer (Option.some (Go.Addr.mk s (0 : Nat) Option.none)))), ((1 : Nat), Option.some (Go.Value.int Go.IntKind.i64 n)),
  ((2 : Nat), Option.some (Go.Value.int Go.IntKind.i64 most)), ((8 : Nat), Option.some (Go.Value.slice (Go.AI.Sl.a s14) (Go.AI.Sl.n s14) (1 : Nat)))]
  σ15))))
  (K (Go.Value.tuple (Array.mk [Go.Value.slice outa outn oute, Go.Value.int Go.IntKind.i64 (0 : Int)])) σ) := by
  intros
  kernel_rfl

theorem s41 : ∀ (T : Go.AI.Ct) (s : Nat) (n place r3_1 : Int) (σ : Go.AI.AS) (K : Go.Value → Go.AI.AS → Prop),
  Go.AI.fw Go.Proofs.Tryz.prog Go.AI.hintsS T (41 : Nat)
  [Go.Value.pointer (Option.some (Go.Addr.mk s (0 : Nat) Option.none)), Go.Value.int Go.IntKind.i64 n, Go.Value.int Go.IntKind.i64 place, Go.Value.int Go.IntKind.i64 r3_1] σ K =
  T (62 : Nat) [Go.Value.pointer (Option.some (Go.Addr.mk s (0 : Nat) Option.none)), Go.Value.int Go.IntKind.i64 n] σ fun (v0 : Go.Value) (σ1 : Go.AI.AS) ↦
  Go.AI.tI Go.IntKind.i64 v0 fun (n2 : Int) ↦
  Go.AI.bmatch (Decidable.decide (n2 < (0 : Int))) (K (Go.Value.int Go.IntKind.i64 (5 : Int)) σ1)
  (Go.AI.bmatch (Decidable.decide (r3_1 < (0 : Int))) (K (Go.Value.int Go.IntKind.i64 (1 : Int)) σ1)
  (Go.AI.bmatch (Decidable.decide (r3_1 > (2 : Int))) (K (Go.Value.int Go.IntKind.i64 (1 : Int)) σ1)
  (Go.AI.ldc σ1 (Go.Addr.mk s ((0 : Nat) + (2 : Nat)) Option.none) fun (v3 : Go.Value) ↦
  Go.AI.tL (8 : Nat) v3 fun (s4 : Go.AI.Sl) ↦
  Go.AI.req ((0 : Int) ≤ n2)
  (Go.AI.req (n2 < (↑(Go.AI.Sl.n s4) : Int))
  (Go.AI.pSome (Go.AI.Sl.a s4) fun (a5 : Go.Addr) ↦
  Go.AI.lds σ1 (Go.Addr.add a5 (Int.toNat n2 * Go.AI.szOf Go.Proofs.Tryz.prog (94 : Nat))) (8 : Nat) fun (l6 : List Go.Value) ↦
  Go.AI.tCons l6 fun (v7 : Go.Value) (l8 : List Go.Value) ↦
  Go.AI.tI Go.IntKind.i64 v7 fun (n9 : Int) ↦
  Go.AI.tCons l8 fun (v10 : Go.Value) (l11 : List Go.Value) ↦
  Go.AI.tS v10 fun (b12 : ByteArray) ↦
  Go.AI.tCons l11 fun (v13 : Go.Value) (l14 : List Go.Value) ↦
  Go.AI.tL (1 : Nat) v13 fun (s15 : Go.AI.Sl) ↦
  Go.AI.tCons l14 fun (v16 : Go.Value) (l17 : List Go.Value) ↦
  Go.AI.tI Go.IntKind.i64 v16 fun (n18 : Int) ↦
  Go.AI.tCons l17 fun (v19 : Go.Value) (l20 : List Go.Value) ↦
  Go.AI.tB v19 fun (b21 : Bool) ↦
  Go.AI.tCons l20 fun (v22 : Go.Value) (l23 : List Go.Value) ↦
  Go.AI.tI Go.IntKind.i64 v22 fun (n24 : Int) ↦
  Go.AI.tCons l23 fun (v25 : Go.Value) (l26 : List Go.Value) ↦
  Go.AI.tI Go.IntKind.i64 v25 fun (n27 : Int) ↦
  Go.AI.tCons l26 fun (v28 : Go.Value) (l29 : List Go.Value) ↦
  Go.AI.tI Go.IntKind.i64 v28 fun (n30 : Int) ↦
  Go.AI.tNil l29
  (T (59 : Nat)
  [Go.Value.pointer (Option.some (Go.Addr.mk s (0 : Nat) Option.none)),
  Go.Value.agg
  (Array.mk
  [Go.Value.int Go.IntKind.i64 n9, Go.Value.string b12, Go.Value.slice (Go.AI.Sl.a s15) (Go.AI.Sl.n s15) (1 : Nat), Go.Value.int Go.IntKind.i64 n18,
  Go.Value.bool b21, Go.Value.int Go.IntKind.i64 n24, Go.Value.int Go.IntKind.i64 n27, Go.Value.int Go.IntKind.i64 n30])]
  σ1 fun (v31 : Go.Value) (σ32 : Go.AI.AS) ↦
  Go.AI.tL (1 : Nat) v31 fun (s33 : Go.AI.Sl) ↦
  Go.AI.bmatch (r3_1 == (1 : Int))
  (Go.AI.ldc σ32 (Go.Addr.mk s ((0 : Nat) + (2 : Nat)) Option.none) fun (v34 : Go.Value) ↦
  Go.AI.tL (8 : Nat) v34 fun (s35 : Go.AI.Sl) ↦
  Go.AI.req ((0 : Int) ≤ n2)
  (Go.AI.req (n2 < (↑(Go.AI.Sl.n s35) : Int))
  (Go.AI.pSome (Go.AI.Sl.a s35) fun (a36 : Go.Addr) ↦
  Go.AI.ldc σ32
  (Go.Addr.mk (Go.Addr.block (Go.Addr.add a36 (Int.toNat n2 * Go.AI.szOf Go.Proofs.Tryz.prog (94 : Nat))))
  (Go.Addr.off (Go.Addr.add a36 (Int.toNat n2 * Go.AI.szOf Go.Proofs.Tryz.prog (94 : Nat))) + (5 : Nat)) Option.none)
  fun (v37 : Go.Value) ↦
  Go.AI.tI Go.IntKind.i64 v37 fun (n38 : Int) ↦
  Go.AI.JoinS
  (Go.AI.jn Go.Proofs.Tryz.prog Go.AI.hintsS T (41 : Nat) [Bool.true, Bool.true, Bool.true, Bool.true, Bool.true, Bool.true] [] K)
  [((0 : Nat), Option.some (Go.Value.pointer (Option.some (Go.Addr.mk s (0 : Nat) Option.none)))),
  ((2 : Nat), Option.some (Go.Value.int Go.IntKind.i64 place)), ((3 : Nat), Option.some (Go.Value.int Go.IntKind.i64 r3_1)),
  ((9 : Nat), Option.some (Go.Value.int Go.IntKind.i64 n2)),
  ((10 : Nat), Option.some (Go.Value.int Go.IntKind.i64 (↑(Go.AI.Sl.n s33) : Int))),
  ((11 : Nat), Option.some (Go.Value.int Go.IntKind.i64 n38))]
  σ32)))
  (Go.AI.JoinS (Go.AI.jn Go.Proofs.Tryz.prog Go.AI.hintsS T (41 : Nat) [Bool.true, Bool.true, Bool.true, Bool.true, Bool.true, Bool.true] [] K)
  [((0 : Nat), Option.some (Go.Value.pointer (Option.some (Go.Addr.mk s (0 : Nat) Option.none)))),
  ((2 : Nat), Option.some (Go.Value.int Go.IntKind.i64 place)), ((3 : Nat), Option.some (Go.Value.int Go.IntKind.i64 r3_1)),
  ((9 : Nat), Option.some (Go.Value.int Go.IntKind.i64 n2)), ((10 : Nat), Option.some (Go.Value.int Go.IntKind.i64 (↑(Go.AI.Sl.n s33) : Int))),
  ((11 : Nat), Option.some (Go.Value.int Go.IntKind.i64 (0 : Int)))]
  σ32))))))) := by
  intros
  kernel_rfl

theorem s41j : ∀ (T : Go.AI.Ct) (s : Nat) (place r3_1 i size base : Int) (σ : Go.AI.AS) (K : Go.Value → Go.AI.AS → Prop),
  Go.AI.jn Go.Proofs.Tryz.prog Go.AI.hintsS T (41 : Nat) [Bool.true, Bool.true, Bool.true, Bool.true, Bool.true, Bool.true] [] K
  [((0 : Nat), Option.some (Go.Value.pointer (Option.some (Go.Addr.mk s (0 : Nat) Option.none)))), ((2 : Nat), Option.some (Go.Value.int Go.IntKind.i64 place)),
  ((3 : Nat), Option.some (Go.Value.int Go.IntKind.i64 r3_1)), ((9 : Nat), Option.some (Go.Value.int Go.IntKind.i64 i)), ((10 : Nat), Option.some (Go.Value.int Go.IntKind.i64 size)),
  ((11 : Nat), Option.some (Go.Value.int Go.IntKind.i64 base))]
  σ =
  Go.AI.bmatch (r3_1 == (2 : Int))
  (Go.AI.JoinS (Go.AI.jn Go.Proofs.Tryz.prog Go.AI.hintsS T (41 : Nat) [Bool.true, Bool.true, Bool.true, Bool.true, Bool.true, Bool.true, Bool.true] [] K)
  [((0 : Nat), Option.some (Go.Value.pointer (Option.some (Go.Addr.mk s (0 : Nat) Option.none)))), ((2 : Nat), Option.some (Go.Value.int Go.IntKind.i64 place)),
  ((9 : Nat), Option.some (Go.Value.int Go.IntKind.i64 i)), ((10 : Nat), Option.some (Go.Value.int Go.IntKind.i64 size)), ((11 : Nat), Option.some (Go.Value.int Go.IntKind.i64 size))]
  σ)
  (Go.AI.JoinS (Go.AI.jn Go.Proofs.Tryz.prog Go.AI.hintsS T (41 : Nat) [Bool.true, Bool.true, Bool.true, Bool.true, Bool.true, Bool.true, Bool.true] [] K)
  [((0 : Nat), Option.some (Go.Value.pointer (Option.some (Go.Addr.mk s (0 : Nat) Option.none)))), ((2 : Nat), Option.some (Go.Value.int Go.IntKind.i64 place)),
  ((9 : Nat), Option.some (Go.Value.int Go.IntKind.i64 i)), ((10 : Nat), Option.some (Go.Value.int Go.IntKind.i64 size)), ((11 : Nat), Option.some (Go.Value.int Go.IntKind.i64 base))]
  σ) := by
  intros
  kernel_rfl

theorem s41j1 : ∀ (T : Go.AI.Ct) (s : Nat) (place i size base : Int) (σ : Go.AI.AS) (K : Go.Value → Go.AI.AS → Prop),
  Go.AI.jn Go.Proofs.Tryz.prog Go.AI.hintsS T (41 : Nat) [Bool.true, Bool.true, Bool.true, Bool.true, Bool.true, Bool.true, Bool.true] [] K
  [((0 : Nat), Option.some (Go.Value.pointer (Option.some (Go.Addr.mk s (0 : Nat) Option.none)))), ((2 : Nat), Option.some (Go.Value.int Go.IntKind.i64 place)),
  ((9 : Nat), Option.some (Go.Value.int Go.IntKind.i64 i)), ((10 : Nat), Option.some (Go.Value.int Go.IntKind.i64 size)), ((11 : Nat), Option.some (Go.Value.int Go.IntKind.i64 base))]
  σ =
  Go.AI.bmatch (Decidable.decide (place > size))
  (Go.AI.JoinS (Go.AI.jn Go.Proofs.Tryz.prog Go.AI.hintsS T (41 : Nat) [Bool.true, Bool.true, Bool.true, Bool.true, Bool.true, Bool.true, Bool.true, Bool.true] [] K)
  [((0 : Nat), Option.some (Go.Value.pointer (Option.some (Go.Addr.mk s (0 : Nat) Option.none)))), ((2 : Nat), Option.some (Go.Value.int Go.IntKind.i64 size)),
  ((9 : Nat), Option.some (Go.Value.int Go.IntKind.i64 i)), ((10 : Nat), Option.some (Go.Value.int Go.IntKind.i64 size)), ((11 : Nat), Option.some (Go.Value.int Go.IntKind.i64 base))]
  σ)
  (Go.AI.JoinS (Go.AI.jn Go.Proofs.Tryz.prog Go.AI.hintsS T (41 : Nat) [Bool.true, Bool.true, Bool.true, Bool.true, Bool.true, Bool.true, Bool.true, Bool.true] [] K)
  [((0 : Nat), Option.some (Go.Value.pointer (Option.some (Go.Addr.mk s (0 : Nat) Option.none)))), ((2 : Nat), Option.some (Go.Value.int Go.IntKind.i64 place)),
  ((9 : Nat), Option.some (Go.Value.int Go.IntKind.i64 i)), ((10 : Nat), Option.some (Go.Value.int Go.IntKind.i64 size)), ((11 : Nat), Option.some (Go.Value.int Go.IntKind.i64 base))]
  σ) := by
  intros
  kernel_rfl

theorem s41j2 : ∀ (T : Go.AI.Ct) (s : Nat) (place i size base : Int) (σ : Go.AI.AS) (K : Go.Value → Go.AI.AS → Prop),
  Go.AI.jn Go.Proofs.Tryz.prog Go.AI.hintsS T (41 : Nat) [Bool.true, Bool.true, Bool.true, Bool.true, Bool.true, Bool.true, Bool.true, Bool.true] [] K
  [((0 : Nat), Option.some (Go.Value.pointer (Option.some (Go.Addr.mk s (0 : Nat) Option.none)))), ((2 : Nat), Option.some (Go.Value.int Go.IntKind.i64 place)),
  ((9 : Nat), Option.some (Go.Value.int Go.IntKind.i64 i)), ((10 : Nat), Option.some (Go.Value.int Go.IntKind.i64 size)), ((11 : Nat), Option.some (Go.Value.int Go.IntKind.i64 base))]
  σ =
  Go.AI.bmatch (Decidable.decide (place < Go.IntKind.wrap Go.IntKind.i64 ((0 : Int) - size)))
  (Go.AI.JoinS (Go.AI.jn Go.Proofs.Tryz.prog Go.AI.hintsS T (41 : Nat) [Bool.true, Bool.true, Bool.true, Bool.true, Bool.true, Bool.true, Bool.true, Bool.true, Bool.true] [] K)
  [((0 : Nat), Option.some (Go.Value.pointer (Option.some (Go.Addr.mk s (0 : Nat) Option.none)))), ((2 : Nat), Option.some (Go.Value.int Go.IntKind.i64 (Go.IntKind.wrap Go.IntKind.i64 ((0 : Int) - size)))),
  ((9 : Nat), Option.some (Go.Value.int Go.IntKind.i64 i)), ((10 : Nat), Option.some (Go.Value.int Go.IntKind.i64 size)), ((11 : Nat), Option.some (Go.Value.int Go.IntKind.i64 base))]
  σ)
  (Go.AI.JoinS (Go.AI.jn Go.Proofs.Tryz.prog Go.AI.hintsS T (41 : Nat) [Bool.true, Bool.true, Bool.true, Bool.true, Bool.true, Bool.true, Bool.true, Bool.true, Bool.true] [] K)
  [((0 : Nat), Option.some (Go.Value.pointer (Option.some (Go.Addr.mk s (0 : Nat) Option.none)))), ((2 : Nat), Option.some (Go.Value.int Go.IntKind.i64 place)),
  ((9 : Nat), Option.some (Go.Value.int Go.IntKind.i64 i)), ((10 : Nat), Option.some (Go.Value.int Go.IntKind.i64 size)), ((11 : Nat), Option.some (Go.Value.int Go.IntKind.i64 base))]
  σ) := by
  intros
  kernel_rfl

theorem s41j3 : ∀ (T : Go.AI.Ct) (s : Nat) (place i size base : Int) (σ : Go.AI.AS) (K : Go.Value → Go.AI.AS → Prop),
  Go.AI.jn Go.Proofs.Tryz.prog Go.AI.hintsS T (41 : Nat) [Bool.true, Bool.true, Bool.true, Bool.true, Bool.true, Bool.true, Bool.true, Bool.true, Bool.true] [] K
  [((0 : Nat), Option.some (Go.Value.pointer (Option.some (Go.Addr.mk s (0 : Nat) Option.none)))), ((2 : Nat), Option.some (Go.Value.int Go.IntKind.i64 place)),
  ((9 : Nat), Option.some (Go.Value.int Go.IntKind.i64 i)), ((10 : Nat), Option.some (Go.Value.int Go.IntKind.i64 size)), ((11 : Nat), Option.some (Go.Value.int Go.IntKind.i64 base))]
  σ =
  Go.AI.ldc σ (Go.Addr.mk s ((0 : Nat) + (2 : Nat)) Option.none) fun (v0 : Go.Value) ↦
  Go.AI.tL (8 : Nat) v0 fun (s1 : Go.AI.Sl) ↦
  Go.AI.req ((0 : Int) ≤ i)
  (Go.AI.req (i < (↑(Go.AI.Sl.n s1) : Int))
  (Go.AI.pSome (Go.AI.Sl.a s1) fun (a2 : Go.Addr) ↦
  Go.AI.put1 σ
  (Go.Addr.mk (Go.Addr.block (Go.Addr.add a2 (Int.toNat i * Go.AI.szOf Go.Proofs.Tryz.prog (94 : Nat))))
  (Go.Addr.off (Go.Addr.add a2 (Int.toNat i * Go.AI.szOf Go.Proofs.Tryz.prog (94 : Nat))) + (5 : Nat)) Option.none)
  (Go.Value.int Go.IntKind.i64 (Go.AI.imin (Go.AI.imax (Go.IntKind.wrap Go.IntKind.i64 (base + place)) (0 : Int)) size)) fun (σ3 : Go.AI.AS) ↦ K (Go.Value.int Go.IntKind.i64 (0 : Int)) σ3)) := by
  intros
  kernel_rfl

theorem s7 : ∀ (T : Go.AI.Ct) (most : Int) (σ : Go.AI.AS) (K : Go.Value → Go.AI.AS → Prop),
  Go.AI.fw Go.Proofs.Tryz.prog Go.AI.hintsS T (7 : Nat) [Go.Value.int Go.IntKind.i64 most] σ K =
  Go.AI.bmatch (Decidable.decide (most < (0 : Int))) (K (Go.Value.tuple (Array.mk [Go.Value.pointer Option.none, Go.Value.int Go.IntKind.i64 (1 : Int)])) σ)
  (Go.AI.bmatch (Decidable.decide (most > (1048576 : Int))) (K (Go.Value.tuple (Array.mk [Go.Value.pointer Option.none, Go.Value.int Go.IntKind.i64 (1 : Int)])) σ)
  (Go.AI.newAt σ (Go.AI.AObj.map [] (0 : Nat)) fun (i0 : Nat) (σ1 : Go.AI.AS) ↦
  Go.AI.newAt σ1 (Go.AI.AObj.map [] (0 : Nat)) fun (i2 : Nat) (σ3 : Go.AI.AS) ↦
  Go.AI.newAt σ3 (Go.AI.AObj.row Go.AI.RK.plain [Go.Value.int Go.IntKind.i64 most, Go.Value.int Go.IntKind.i64 (0 : Int), Go.Value.map (Option.some i0), Go.Value.map (Option.some i2)])
  fun (i4 : Nat) (σ5 : Go.AI.AS) ↦ K (Go.Value.tuple (Array.mk [Go.Value.pointer (Option.some (Go.Addr.mk i4 (0 : Nat) Option.none)), Go.Value.int Go.IntKind.i64 (0 : Int)])) σ5)) := by
  intros
  kernel_rfl

theorem s11 : ∀ (T : Go.AI.Ct) (s : Nat) (σ : Go.AI.AS) (K : Go.Value → Go.AI.AS → Prop),
  Go.AI.fw Go.Proofs.Tryz.prog Go.AI.hintsS T (11 : Nat) [Go.Value.pointer (Option.some (Go.Addr.mk s (0 : Nat) Option.none))] σ K =
  Go.AI.ldc σ (Go.Addr.mk s ((0 : Nat) + (2 : Nat)) Option.none) fun (v0 : Go.Value) ↦
  Go.AI.tM v0 fun (b1 : Option Nat) ↦
  Go.AI.rngM σ b1 fun (j2 : Nat) (σ3 : Go.AI.AS) ↦
  Go.AI.ALoop (Go.AI.fl Go.Proofs.Tryz.prog Go.AI.hintsS T (11 : Nat) [Bool.true, Bool.true, Bool.true, Bool.false, Bool.true, Bool.false] [] K)
  [((3 : Nat), Option.some (Go.Value.int Go.IntKind.i64 (0 : Int))), ((12 : Nat), Option.some (Go.Value.pointer (Option.some (Go.Addr.mk j2 (0 : Nat) Option.none))))] σ3 := by
  intros
  kernel_rfl

theorem s11l : ∀ (T : Go.AI.Ct) (n : Int) (r12_1 : Nat) (X : Go.AI.Regs → Go.AI.AS → Prop) (σ : Go.AI.AS) (K : Go.Value → Go.AI.AS → Prop),
  Go.AI.fl Go.Proofs.Tryz.prog Go.AI.hintsS T (11 : Nat) [Bool.true, Bool.true, Bool.true, Bool.false, Bool.true, Bool.false] [] K X
  [((3 : Nat), Option.some (Go.Value.int Go.IntKind.i64 n)), ((12 : Nat), Option.some (Go.Value.pointer (Option.some (Go.Addr.mk r12_1 (0 : Nat) Option.none))))] σ =
  Go.AI.mnext σ r12_1 fun (r0 : Option (Go.Value × Go.Value)) (σ1 : Go.AI.AS) ↦
  Go.AI.onNx r0
  (fun (k2 v3 : Go.Value) ↦
  Go.AI.mentry σ1 r12_1 fun (k4 v5 : Go.Value) ↦
  Go.AI.tP v5 fun (b6 : Option Go.Addr) ↦
  Go.AI.pSome b6 fun (a7 : Go.Addr) ↦
  Go.AI.ldc σ1 (Go.Addr.add a7 (0 : Nat)) fun (v8 : Go.Value) ↦
  Go.AI.tL (1 : Nat) v8 fun (s9 : Go.AI.Sl) ↦
  X
  [((3 : Nat), Option.some (Go.Value.int Go.IntKind.i64 (Go.IntKind.wrap Go.IntKind.i64 (n + (↑(Go.AI.Sl.n s9) : Int))))),
  ((12 : Nat), Option.some (Go.Value.pointer (Option.some (Go.Addr.mk r12_1 (0 : Nat) Option.none))))]
  σ1)
  (K (Go.Value.int Go.IntKind.i64 n) σ1) := by
  intros
  kernel_rfl

theorem s13 : ∀ (T : Go.AI.Ct) (s : Nat) (name : ByteArray) (ba : Option Go.Addr) (bn : Nat) (σ : Go.AI.AS) (K : Go.Value → Go.AI.AS → Prop),
  Go.AI.fw Go.Proofs.Tryz.prog Go.AI.hintsS T (13 : Nat) [Go.Value.pointer (Option.some (Go.Addr.mk s (0 : Nat) Option.none)), Go.Value.string name, Go.Value.slice ba bn (1 : Nat)] σ K =
  Go.AI.ldc σ (Go.Addr.mk s ((0 : Nat) + (2 : Nat)) Option.none) fun (v0 : Go.Value) ↦
  Go.AI.tM v0 fun (b1 : Option Nat) ↦
  Go.AI.mget σ Go.TypeDesc.string b1 (Go.Value.string name) fun (o2 : Option Go.Value) ↦
  Go.AI.tP (Option.getD o2 (Go.Value.pointer Option.none)) fun (b3 : Option Go.Addr) ↦
  T (43 : Nat) [Go.Value.string name] σ fun (v4 : Go.Value) (σ5 : Go.AI.AS) ↦
  Go.AI.tB v4 fun (b6 : Bool) ↦
  Go.AI.bmatch (!b6) (K (Go.Value.int Go.IntKind.i64 (1 : Int)) σ5)
  (Go.AI.ptrEq σ5 b3 Option.none fun (r7 : Bool) ↦
  Go.AI.bmatch (!r7)
  (Go.AI.pSome b3 fun (a8 : Go.Addr) ↦
  Go.AI.ldc σ5 (Go.Addr.mk (Go.Addr.block a8) (Go.Addr.off a8 + (1 : Nat)) Option.none) fun (v9 : Go.Value) ↦
  Go.AI.tL (1 : Nat) v9 fun (s10 : Go.AI.Sl) ↦
  Go.AI.JoinS (Go.AI.jn Go.Proofs.Tryz.prog Go.AI.hintsS T (13 : Nat) [Bool.true, Bool.true, Bool.true, Bool.false, Bool.false, Bool.true, Bool.true] [] K)
  [((0 : Nat), Option.some (Go.Value.pointer (Option.some (Go.Addr.mk s (0 : Nat) Option.none)))), ((1 : Nat), Option.some (Go.Value.string name)),
  ((2 : Nat), Option.some (Go.Value.slice ba bn (1 : Nat))), ((7 : Nat), Option.some (Go.Value.pointer b3)),
  ((21 : Nat), Option.some (Go.Value.bool (Decidable.decide ((↑(Go.AI.Sl.n s10) : Int) > (0 : Int)))))]
  σ5)
  (Go.AI.JoinS (Go.AI.jn Go.Proofs.Tryz.prog Go.AI.hintsS T (13 : Nat) [Bool.true, Bool.true, Bool.true, Bool.false, Bool.false, Bool.true, Bool.true] [] K)
  [((0 : Nat), Option.some (Go.Value.pointer (Option.some (Go.Addr.mk s (0 : Nat) Option.none)))), ((1 : Nat), Option.some (Go.Value.string name)),
  ((2 : Nat), Option.some (Go.Value.slice ba bn (1 : Nat))), ((7 : Nat), Option.some (Go.Value.pointer b3)), ((21 : Nat), Option.some (Go.Value.bool Bool.false))]
  σ5)) := by
  intros
  kernel_rfl

theorem s13j : ∀ (T : Go.AI.Ct) (s : Nat) (name : ByteArray) (ba : Option Go.Addr) (bn be : Nat) (f : Option Go.Addr) (r21_1 : Bool) (σ : Go.AI.AS) (K : Go.Value → Go.AI.AS → Prop),
  Go.AI.jn Go.Proofs.Tryz.prog Go.AI.hintsS T (13 : Nat) [Bool.true, Bool.true, Bool.true, Bool.false, Bool.false, Bool.true, Bool.true] [] K
  [((0 : Nat), Option.some (Go.Value.pointer (Option.some (Go.Addr.mk s (0 : Nat) Option.none)))), ((1 : Nat), Option.some (Go.Value.string name)), ((2 : Nat), Option.some (Go.Value.slice ba bn be)),
  ((7 : Nat), Option.some (Go.Value.pointer f)), ((21 : Nat), Option.some (Go.Value.bool r21_1))]
  σ =
  Go.AI.bmatch r21_1 (K (Go.Value.int Go.IntKind.i64 (6 : Int)) σ)
  (Go.AI.ptrEq σ f Option.none fun (r0 : Bool) ↦
  Go.AI.bmatch r0
  (Go.AI.ldc σ (Go.Addr.mk s ((0 : Nat) + (2 : Nat)) Option.none) fun (v1 : Go.Value) ↦
  Go.AI.tM v1 fun (b2 : Option Nat) ↦
  Go.AI.mlen σ b2 fun (n3 : Int) ↦
  Go.AI.JoinS (Go.AI.jn Go.Proofs.Tryz.prog Go.AI.hintsS T (13 : Nat) [Bool.true, Bool.true, Bool.true, Bool.false, Bool.false, Bool.true, Bool.true, Bool.true, Bool.true] [] K)
  [((0 : Nat), Option.some (Go.Value.pointer (Option.some (Go.Addr.mk s (0 : Nat) Option.none)))), ((1 : Nat), Option.some (Go.Value.string name)),
  ((2 : Nat), Option.some (Go.Value.slice ba bn be)), ((7 : Nat), Option.some (Go.Value.pointer f)), ((32 : Nat), Option.some (Go.Value.bool (n3 == (64 : Int))))]
  σ)
  (Go.AI.JoinS (Go.AI.jn Go.Proofs.Tryz.prog Go.AI.hintsS T (13 : Nat) [Bool.true, Bool.true, Bool.true, Bool.false, Bool.false, Bool.true, Bool.true, Bool.true, Bool.true] [] K)
  [((0 : Nat), Option.some (Go.Value.pointer (Option.some (Go.Addr.mk s (0 : Nat) Option.none)))), ((1 : Nat), Option.some (Go.Value.string name)), ((2 : Nat), Option.some (Go.Value.slice ba bn be)),
  ((7 : Nat), Option.some (Go.Value.pointer f)), ((32 : Nat), Option.some (Go.Value.bool Bool.false))]
  σ)) := by
  intros
  kernel_rfl

theorem s13j1 : ∀ (T : Go.AI.Ct) (s : Nat) (name : ByteArray) (ba : Option Go.Addr) (bn be : Nat) (f : Option Go.Addr) (r32_1 : Bool) (σ : Go.AI.AS) (K : Go.Value → Go.AI.AS → Prop),
  Go.AI.jn Go.Proofs.Tryz.prog Go.AI.hintsS T (13 : Nat) [Bool.true, Bool.true, Bool.true, Bool.false, Bool.false, Bool.true, Bool.true, Bool.true, Bool.true] [] K
  [((0 : Nat), Option.some (Go.Value.pointer (Option.some (Go.Addr.mk s (0 : Nat) Option.none)))), ((1 : Nat), Option.some (Go.Value.string name)), ((2 : Nat), Option.some (Go.Value.slice ba bn be)),
  ((7 : Nat), Option.some (Go.Value.pointer f)), ((32 : Nat), Option.some (Go.Value.bool r32_1))]
  σ =
  Go.AI.bmatch r32_1 (K (Go.Value.int Go.IntKind.i64 (4 : Int)) σ)
  (T (11 : Nat) [Go.Value.pointer (Option.some (Go.Addr.mk s (0 : Nat) Option.none))] σ fun (v0 : Go.Value) (σ1 : Go.AI.AS) ↦
  Go.AI.tI Go.IntKind.i64 v0 fun (n2 : Int) ↦
  Go.AI.ptrEq σ1 f Option.none fun (r3 : Bool) ↦
  Go.AI.bmatch (!r3)
  (Go.AI.pSome f fun (a4 : Go.Addr) ↦
  Go.AI.ldc σ1 (Go.Addr.add a4 (0 : Nat)) fun (v5 : Go.Value) ↦
  Go.AI.tL (1 : Nat) v5 fun (s6 : Go.AI.Sl) ↦
  Go.AI.JoinS (Go.AI.jn Go.Proofs.Tryz.prog Go.AI.hintsS T (13 : Nat) [Bool.true, Bool.true, Bool.true, Bool.true, Bool.true] [] K)
  [((0 : Nat), Option.some (Go.Value.pointer (Option.some (Go.Addr.mk s (0 : Nat) Option.none)))), ((1 : Nat), Option.some (Go.Value.string name)),
  ((2 : Nat), Option.some (Go.Value.slice ba bn be)),
  ((8 : Nat), Option.some (Go.Value.int Go.IntKind.i64 (Go.IntKind.wrap Go.IntKind.i64 (Go.IntKind.wrap Go.IntKind.i64 (n2 + (↑bn : Int)) - (↑(Go.AI.Sl.n s6) : Int)))))]
  σ1)
  (Go.AI.JoinS (Go.AI.jn Go.Proofs.Tryz.prog Go.AI.hintsS T (13 : Nat) [Bool.true, Bool.true, Bool.true, Bool.true, Bool.true] [] K)
  [((0 : Nat), Option.some (Go.Value.pointer (Option.some (Go.Addr.mk s (0 : Nat) Option.none)))), ((1 : Nat), Option.some (Go.Value.string name)),
  ((2 : Nat), Option.some (Go.Value.slice ba bn be)), ((8 : Nat), Option.some (Go.Value.int Go.IntKind.i64 (Go.IntKind.wrap Go.IntKind.i64 (n2 + (↑bn : Int)))))]
  σ1)) := by
  intros
  kernel_rfl

theorem s13j2 : ∀ (T : Go.AI.Ct) (s : Nat) (name : ByteArray) (ba : Option Go.Addr) (bn be : Nat) (n : Int) (σ : Go.AI.AS) (K : Go.Value → Go.AI.AS → Prop),
  Go.AI.jn Go.Proofs.Tryz.prog Go.AI.hintsS T (13 : Nat) [Bool.true, Bool.true, Bool.true, Bool.true, Bool.true] [] K
  [((0 : Nat), Option.some (Go.Value.pointer (Option.some (Go.Addr.mk s (0 : Nat) Option.none)))), ((1 : Nat), Option.some (Go.Value.string name)), ((2 : Nat), Option.some (Go.Value.slice ba bn be)),
  ((8 : Nat), Option.some (Go.Value.int Go.IntKind.i64 n))]
  σ =
  Go.AI.ldc σ (Go.Addr.mk s (0 : Nat) Option.none) fun (v0 : Go.Value) ↦
  Go.AI.tI Go.IntKind.i64 v0 fun (n1 : Int) ↦
  Go.AI.bmatch (Decidable.decide (n > n1)) (K (Go.Value.int Go.IntKind.i64 (7 : Int)) σ)
  (Go.AI.ldc σ (Go.Addr.mk s ((0 : Nat) + (2 : Nat)) Option.none) fun (v2 : Go.Value) ↦
  Go.AI.tM v2 fun (b3 : Option Nat) ↦
  T (44 : Nat) [Go.Value.slice ba bn be] σ fun (v4 : Go.Value) (σ5 : Go.AI.AS) ↦
  Go.AI.tL (1 : Nat) v4 fun (s6 : Go.AI.Sl) ↦
  Go.AI.ldc σ5 (Go.Addr.mk s ((0 : Nat) + (2 : Nat)) Option.none) fun (v7 : Go.Value) ↦
  Go.AI.tM v7 fun (b8 : Option Nat) ↦
  Go.Value.map b3 = Go.Value.map b8 ∧
  Go.AI.newAt σ5 (Go.AI.AObj.row Go.AI.RK.plain [Go.Value.slice (Go.AI.Sl.a s6) (Go.AI.Sl.n s6) (1 : Nat), Go.Value.slice Option.none (0 : Nat) (0 : Nat)]) fun (i9 : Nat) (σ10 : Go.AI.AS) ↦
  Go.AI.ldc σ10 (Go.Addr.mk s ((0 : Nat) + (2 : Nat)) Option.none) fun (v11 : Go.Value) ↦
  Go.AI.tM v11 fun (b12 : Option Nat) ↦
  Go.Value.map b3 = Go.Value.map b12 ∧
  Go.AI.pSome b3 fun (i13 : Nat) ↦
  Go.AI.mset σ10 Go.TypeDesc.string i13 (Go.Value.string name) (Go.Value.pointer (Option.some (Go.Addr.mk i9 (0 : Nat) Option.none))) fun (σ14 : Go.AI.AS) ↦
  K (Go.Value.int Go.IntKind.i64 (0 : Int)) σ14) := by
  intros
  kernel_rfl

theorem s14 : ∀ (T : Go.AI.Ct) (s : Nat) (n : Int) (la : Option Go.Addr) (ln : Nat) (σ : Go.AI.AS) (K : Go.Value → Go.AI.AS → Prop),
  Go.AI.fw Go.Proofs.Tryz.prog Go.AI.hintsS T (14 : Nat) [Go.Value.pointer (Option.some (Go.Addr.mk s (0 : Nat) Option.none)), Go.Value.int Go.IntKind.i64 n, Go.Value.slice la ln (1 : Nat)] σ K =
  T (45 : Nat) [Go.Value.pointer (Option.some (Go.Addr.mk s (0 : Nat) Option.none)), Go.Value.int Go.IntKind.i64 n] σ fun (v0 : Go.Value) (σ1 : Go.AI.AS) ↦
  Go.AI.tTup v0 fun (l2 : List Go.Value) ↦
  Go.AI.pSome l2[(0 : Nat)]? fun (u3 : Go.Value) ↦
  Go.AI.tP u3 fun (b4 : Option Go.Addr) ↦
  Go.AI.tTup v0 fun (l5 : List Go.Value) ↦
  Go.AI.pSome l5[(1 : Nat)]? fun (u6 : Go.Value) ↦
  Go.AI.tI Go.IntKind.i64 u6 fun (n7 : Int) ↦
  Go.AI.bmatch (n7 != (0 : Int)) (K (Go.Value.int Go.IntKind.i64 n7) σ1)
  (T (46 : Nat) [Go.Value.pointer b4] σ1 fun (v8 : Go.Value) (σ9 : Go.AI.AS) ↦
  Go.AI.tB v8 fun (b10 : Bool) ↦
  Go.AI.bmatch (!b10) (K (Go.Value.int Go.IntKind.i64 (1 : Int)) σ9)
  (Go.AI.bmatch (Decidable.decide ((↑ln : Int) > (0 : Int)))
  (Go.AI.pSome b4 fun (a11 : Go.Addr) ↦
  Go.AI.ldc σ9 (Go.Addr.mk (Go.Addr.block a11) (Go.Addr.off a11 + (1 : Nat)) Option.none) fun (v12 : Go.Value) ↦
  Go.AI.tP v12 fun (b13 : Option Go.Addr) ↦
  Go.AI.ptrEq σ9 b13 Option.none fun (r14 : Bool) ↦
  Go.AI.bmatch (!r14)
  (Go.AI.pSome b4 fun (a15 : Go.Addr) ↦
  Go.AI.ldc σ9 (Go.Addr.add a15 (0 : Nat)) fun (v16 : Go.Value) ↦
  Go.AI.tIf v16
  (fun (t17 : Nat) (u18 : Go.Value) ↦
  Go.AI.pSome b4 fun (a19 : Go.Addr) ↦
  Go.AI.ldc σ9 (Go.Addr.mk (Go.Addr.block a19) (Go.Addr.off a19 + (3 : Nat)) Option.none) fun (v20 : Go.Value) ↦
  Go.AI.tI Go.IntKind.i64 v20 fun (n21 : Int) ↦
  Go.AI.ldc σ9 (Go.Addr.mk s (0 : Nat) Option.none) fun (v22 : Go.Value) ↦
  Go.AI.tI Go.IntKind.i64 v22 fun (n23 : Int) ↦
  T (11 : Nat) [Go.Value.pointer (Option.some (Go.Addr.mk s (0 : Nat) Option.none))] σ9 fun (v24 : Go.Value) (σ25 : Go.AI.AS) ↦
  Go.AI.tI Go.IntKind.i64 v24 fun (n26 : Int) ↦
  Go.AI.ldc σ25 (Go.Addr.mk s (0 : Nat) Option.none) fun (v27 : Go.Value) ↦
  Go.AI.tI Go.IntKind.i64 v27 fun (n28 : Int) ↦
  Go.Value.int Go.IntKind.i64 n23 = Go.Value.int Go.IntKind.i64 n28 ∧
  Go.Value.int Go.IntKind.i64 (↑ln : Int) = Go.Value.int Go.IntKind.i64 (↑ln : Int) ∧
  Go.AI.ldc σ25 (Go.Addr.mk (Go.Addr.block a19) (Go.Addr.off a19 + (3 : Nat)) Option.none) fun (v29 : Go.Value) ↦
  Go.AI.tI Go.IntKind.i64 v29 fun (n30 : Int) ↦
  Go.Value.int Go.IntKind.i64 n21 = Go.Value.int Go.IntKind.i64 n30 ∧
  Go.AI.ldc σ25 (Go.Addr.add a15 (0 : Nat)) fun (v31 : Go.Value) ↦
  Go.AI.tIf v31
  (fun (t32 : Nat) (u33 : Go.Value) ↦
  Go.Value.iface t17 u18 = Go.Value.iface t32 u33 ∧
  Go.AI.pSome (Go.AI.methodOf Go.Proofs.Tryz.prog t17 "grotto/shelf.more") fun (f34 : Go.FuncId) ↦
  T f34 [u18, Go.Value.int Go.IntKind.i64 (Go.IntKind.wrap Go.IntKind.i64 (n21 + (↑ln : Int)))] σ25
  fun (v35 : Go.Value) (σ36 : Go.AI.AS) ↦
  Go.AI.tI Go.IntKind.i64 v35 fun (n37 : Int) ↦
  Go.AI.ldc σ36 (Go.Addr.mk s (0 : Nat) Option.none) fun (v38 : Go.Value) ↦
  Go.AI.tI Go.IntKind.i64 v38 fun (n39 : Int) ↦
  Go.Value.int Go.IntKind.i64 n23 = Go.Value.int Go.IntKind.i64 n39 ∧
  Go.AI.JoinS
  (Go.AI.jn Go.Proofs.Tryz.prog Go.AI.hintsS T (14 : Nat)
  [Bool.true, Bool.true, Bool.false, Bool.false, Bool.true, Bool.true, Bool.true, Bool.true] [] K)
  [((2 : Nat), Option.some (Go.Value.slice la ln (1 : Nat))), ((7 : Nat), Option.some (Go.Value.pointer b4)),
  ((25 : Nat), Option.some (Go.Value.bool (Decidable.decide (Go.IntKind.wrap Go.IntKind.i64 (n26 + n37) > n23))))]
  σ36)
  (Go.Value.iface t17 u18 = Go.Value.nilIface ∧
  Go.AI.pSome (Go.AI.methodOf Go.Proofs.Tryz.prog t17 "grotto/shelf.more") fun (f40 : Go.FuncId) ↦
  T f40 [u18, Go.Value.int Go.IntKind.i64 (Go.IntKind.wrap Go.IntKind.i64 (n21 + (↑ln : Int)))] σ25
  fun (v41 : Go.Value) (σ42 : Go.AI.AS) ↦
  Go.AI.tI Go.IntKind.i64 v41 fun (n43 : Int) ↦
  Go.AI.ldc σ42 (Go.Addr.mk s (0 : Nat) Option.none) fun (v44 : Go.Value) ↦
  Go.AI.tI Go.IntKind.i64 v44 fun (n45 : Int) ↦
  Go.Value.int Go.IntKind.i64 n23 = Go.Value.int Go.IntKind.i64 n45 ∧
  Go.AI.JoinS
  (Go.AI.jn Go.Proofs.Tryz.prog Go.AI.hintsS T (14 : Nat)
  [Bool.true, Bool.true, Bool.false, Bool.false, Bool.true, Bool.true, Bool.true, Bool.true] [] K)
  [((2 : Nat), Option.some (Go.Value.slice la ln (1 : Nat))), ((7 : Nat), Option.some (Go.Value.pointer b4)),
  ((25 : Nat), Option.some (Go.Value.bool (Decidable.decide (Go.IntKind.wrap Go.IntKind.i64 (n26 + n43) > n23))))]
  σ42))
  (Go.AI.pSome b4 fun (a46 : Go.Addr) ↦
  Go.AI.ldc σ9 (Go.Addr.mk (Go.Addr.block a46) (Go.Addr.off a46 + (3 : Nat)) Option.none) fun (v47 : Go.Value) ↦ Go.AI.tI Go.IntKind.i64 v47 fun (n48 : Int) ↦ False))
  (Go.AI.JoinS (Go.AI.jn Go.Proofs.Tryz.prog Go.AI.hintsS T (14 : Nat) [Bool.true, Bool.true, Bool.false, Bool.false, Bool.true, Bool.true, Bool.true, Bool.true] [] K)
  [((2 : Nat), Option.some (Go.Value.slice la ln (1 : Nat))), ((7 : Nat), Option.some (Go.Value.pointer b4)), ((25 : Nat), Option.some (Go.Value.bool Bool.false))] σ9))
  (Go.AI.JoinS (Go.AI.jn Go.Proofs.Tryz.prog Go.AI.hintsS T (14 : Nat) [Bool.true, Bool.true, Bool.false, Bool.false, Bool.true, Bool.true, Bool.true, Bool.true] [] K)
  [((2 : Nat), Option.some (Go.Value.slice la ln (1 : Nat))), ((7 : Nat), Option.some (Go.Value.pointer b4)), ((25 : Nat), Option.some (Go.Value.bool Bool.false))] σ9))) := by
  intros
  kernel_rfl

theorem s14j : ∀ (T : Go.AI.Ct) (la : Option Go.Addr) (ln le x : Nat) (r25_1 : Bool) (σ : Go.AI.AS) (K : Go.Value → Go.AI.AS → Prop),
  Go.AI.jn Go.Proofs.Tryz.prog Go.AI.hintsS T (14 : Nat) [Bool.true, Bool.true, Bool.false, Bool.false, Bool.true, Bool.true, Bool.true, Bool.true] [] K
  [((2 : Nat), Option.some (Go.Value.slice la ln le)), ((7 : Nat), Option.some (Go.Value.pointer (Option.some (Go.Addr.mk x (0 : Nat) Option.none)))), ((25 : Nat), Option.some (Go.Value.bool r25_1))] σ =
  Go.AI.bmatch r25_1 (K (Go.Value.int Go.IntKind.i64 (7 : Int)) σ)
  (Go.AI.ALoop (Go.AI.fl Go.Proofs.Tryz.prog Go.AI.hintsS T (14 : Nat) [Bool.true, Bool.true, Bool.true, Bool.false, Bool.true, Bool.false] [] K)
  [((2 : Nat), Option.some (Go.Value.slice la ln le)), ((7 : Nat), Option.some (Go.Value.pointer (Option.some (Go.Addr.mk x (0 : Nat) Option.none)))),
  ((60 : Nat), Option.some (Go.Value.slice la ln le)), ((61 : Nat), Option.some (Go.Value.int Go.IntKind.i64 (↑ln : Int))), ((62 : Nat), Option.some (Go.Value.int Go.IntKind.i64 (0 : Int)))]
  σ) := by
  intros
  kernel_rfl

theorem s14l : ∀ (T : Go.AI.Ct) (la : Option Go.Addr) (ln le x : Nat) (r60a_1 : Option Go.Addr) (r60n_1 r60e_1 : Nat) (r61_1 r62_1 : Int) (X : Go.AI.Regs → Go.AI.AS → Prop) (σ : Go.AI.AS)
  (K : Go.Value → Go.AI.AS → Prop),
  Go.AI.fl Go.Proofs.Tryz.prog Go.AI.hintsS T (14 : Nat) [Bool.true, Bool.true, Bool.true, Bool.false, Bool.true, Bool.false] [] K X
  [((2 : Nat), Option.some (Go.Value.slice la ln le)), ((7 : Nat), Option.some (Go.Value.pointer (Option.some (Go.Addr.mk x (0 : Nat) Option.none)))),
  ((60 : Nat), Option.some (Go.Value.slice r60a_1 r60n_1 r60e_1)), ((61 : Nat), Option.some (Go.Value.int Go.IntKind.i64 r61_1)), ((62 : Nat), Option.some (Go.Value.int Go.IntKind.i64 r62_1))]
  σ =
  Go.AI.bmatch (Decidable.decide (r62_1 < r61_1))
  (Go.AI.req ((0 : Int) ≤ r62_1)
  (Go.AI.req (r62_1 < (↑r60n_1 : Int))
  (Go.AI.pSome r60a_1 fun (a0 : Go.Addr) ↦
  Go.AI.req (r60e_1 = Go.AI.szOf Go.Proofs.Tryz.prog (54 : Nat))
  (Go.AI.ldc σ (Go.Addr.add a0 (Int.toNat r62_1 * Go.AI.szOf Go.Proofs.Tryz.prog (54 : Nat))) fun (v1 : Go.Value) ↦
  Go.AI.tI Go.IntKind.u32 v1 fun (n2 : Int) ↦
  Go.AI.ldc σ (Go.Addr.mk x (0 : Nat) Option.none) fun (v3 : Go.Value) ↦
  Go.AI.tIf v3
  (fun (t4 : Nat) (u5 : Go.Value) ↦
  Go.AI.ldc σ (Go.Addr.mk x ((0 : Nat) + (3 : Nat)) Option.none) fun (v6 : Go.Value) ↦
  Go.AI.tI Go.IntKind.i64 v6 fun (n7 : Int) ↦
  Go.AI.pSome (Go.AI.methodOf Go.Proofs.Tryz.prog t4 "grotto/shelf.put") fun (f8 : Go.FuncId) ↦
  T f8 [u5, Go.Value.int Go.IntKind.i64 n7, Go.Value.int Go.IntKind.u32 n2] σ fun (v9 : Go.Value) (σ10 : Go.AI.AS) ↦
  Go.AI.ldc σ10 (Go.Addr.mk x ((0 : Nat) + (3 : Nat)) Option.none) fun (v11 : Go.Value) ↦
  Go.AI.tI Go.IntKind.i64 v11 fun (n12 : Int) ↦
  Go.AI.ldc σ10 (Go.Addr.mk x (0 : Nat) Option.none) fun (v13 : Go.Value) ↦
  Go.AI.tIf v13
  (fun (t14 : Nat) (u15 : Go.Value) ↦
  Go.AI.pSome (Go.AI.methodOf Go.Proofs.Tryz.prog t14 "grotto/shelf.size") fun (f16 : Go.FuncId) ↦
  T f16 [u15] σ10 fun (v17 : Go.Value) (σ18 : Go.AI.AS) ↦
  Go.AI.tI Go.IntKind.i64 v17 fun (n19 : Int) ↦
  Go.AI.ldc σ18 (Go.Addr.mk x ((0 : Nat) + (3 : Nat)) Option.none) fun (v20 : Go.Value) ↦
  Go.AI.tI Go.IntKind.i64 v20 fun (n21 : Int) ↦
  Go.Value.int Go.IntKind.i64 n12 = Go.Value.int Go.IntKind.i64 n21 ∧
  Go.AI.put1 σ18 (Go.Addr.mk x ((0 : Nat) + (3 : Nat)) Option.none) (Go.Value.int Go.IntKind.i64 (Go.AI.imin (Go.IntKind.wrap Go.IntKind.i64 (n12 + (1 : Int))) n19))
  fun (σ22 : Go.AI.AS) ↦
  X
  [((2 : Nat), Option.some (Go.Value.slice la ln le)), ((7 : Nat), Option.some (Go.Value.pointer (Option.some (Go.Addr.mk x (0 : Nat) Option.none)))),
  ((60 : Nat), Option.some (Go.Value.slice r60a_1 r60n_1 r60e_1)), ((61 : Nat), Option.some (Go.Value.int Go.IntKind.i64 r61_1)),
  ((62 : Nat), Option.some (Go.Value.int Go.IntKind.i64 (Go.IntKind.wrap Go.IntKind.i64 (r62_1 + (1 : Int)))))]
  σ22)
  False)
  (Go.AI.ldc σ (Go.Addr.mk x ((0 : Nat) + (3 : Nat)) Option.none) fun (v23 : Go.Value) ↦ Go.AI.tI Go.IntKind.i64 v23 fun (n24 : Int) ↦ False)))))
  (Go.AI.ldc σ (Go.Addr.mk x ((0 : Nat) + (5 : Nat)) Option.none) fun (v25 : Go.Value) ↦
  Go.AI.tI Go.IntKind.u32 v25 fun (n26 : Int) ↦
  Go.AI.put1 σ (Go.Addr.mk x ((0 : Nat) + (5 : Nat)) Option.none) (Go.Value.int Go.IntKind.u32 (Go.IntKind.wrap Go.IntKind.u32 (n26 + Go.IntKind.wrap Go.IntKind.u32 (↑ln : Int)))) fun (σ27 : Go.AI.AS) ↦
  K (Go.Value.int Go.IntKind.i64 (0 : Int)) σ27) := by
  intros
  kernel_rfl

end Go.AI
end
