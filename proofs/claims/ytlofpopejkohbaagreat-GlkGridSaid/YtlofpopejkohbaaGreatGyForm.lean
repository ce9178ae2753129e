/- Lemmas of the abstract condition ahead of code (a part of the library that the claim's proof stands on); they hold with no condition but those that each names. -/
import Derived.Test.YtlofpopejkohbaaGreatGkSoft
import Derived.Test.YtlofpopejkohbaaGreatAIJoin
section
/- The conditions ahead of the calls of the program's functions, reckoned as far as they go (equations that the kernel checks); no condition. -/
set_option maxRecDepth 1000000
set_option linter.unusedVariables false
namespace Go.AI
open Go.Proofs
theorem s159 : ∀ (T : Go.AI.Ct) (s : Nat) (la : Option Go.Addr) (ln : Nat) (mode : Int) (w : Bool) (σ : Go.AI.AS) (K : Go.Value → Go.AI.AS → Prop),
 Go.AI.fw Go.Proofs.Tryz.prog Go.AI.hintsS T (159 : Nat)
 [Go.Value.pointer (Option.some (Go.Addr.mk s (0 : Nat) Option.none)), Go.Value.slice la ln (1 : Nat), Go.Value.int Go.IntKind.i64 mode, Go.Value.bool w] σ K =
 Go.AI.bmatch (Decidable.decide (mode < (1 : Int))) (K (Go.Value.tuple (Array.mk [Go.Value.int Go.IntKind.i64 (0 : Int), Go.Value.int Go.IntKind.i64 (1 : Int)])) σ)
 (Go.AI.bmatch (Decidable.decide (mode > (3 : Int))) (K (Go.Value.tuple (Array.mk [Go.Value.int Go.IntKind.i64 (0 : Int), Go.Value.int Go.IntKind.i64 (1 : Int)])) σ)
 (Go.AI.bmatch (Decidable.decide ((↑ln : Int) > (4096 : Int))) (K (Go.Value.tuple (Array.mk [Go.Value.int Go.IntKind.i64 (0 : Int), Go.Value.int Go.IntKind.i64 (1 : Int)])) σ)
 (Go.AI.ldc σ (Go.Addr.mk s ((0 : Nat) + (3 : Nat)) Option.none) fun (v0 : Go.Value) ↦
 Go.AI.tM v0 fun (b1 : Option Nat) ↦
 Go.AI.mlen σ b1 fun (n2 : Int) ↦
 Go.AI.bmatch (n2 == (64 : Int)) (K (Go.Value.tuple (Array.mk [Go.Value.int Go.IntKind.i64 (0 : Int), Go.Value.int Go.IntKind.i64 (4 : Int)])) σ)
 (Go.AI.req ((0 : Int) ≤ (↑ln : Int))
 (Go.AI.req ((↑ln : Int) ≤ (↑ln : Int))
 (Go.AI.req ((↑ln : Int) * (↑(Go.AI.bytesOf Go.Proofs.Tryz.prog (32 : Nat)) : Int) ≤ (140737488355328 : Int))
 (Go.AI.newAt σ (Go.AI.AObj.row Go.AI.RK.rw (List.flatten (List.replicate (Int.toNat (↑ln : Int)) (Go.AI.valCells (Go.Value.int Go.IntKind.u32 (0 : Int)))))) fun (i3 : Nat) (σ4 : Go.AI.AS) ↦
 Go.AI.newAt σ4 (Go.AI.AObj.row Go.AI.RK.plain [Go.Value.slice (Option.some (Go.Addr.mk i3 (0 : Nat) Option.none)) (Int.toNat (↑ln : Int)) (1 : Nat), Go.Value.bool w])
 fun (i5 : Nat) (σ6 : Go.AI.AS) ↦
 Go.AI.ALoop (Go.AI.fl Go.Proofs.Tryz.prog Go.AI.hintsS T (159 : Nat) [Bool.true, Bool.true, Bool.true, Bool.false, Bool.true, Bool.false] [] K)
 [((0 : Nat), Option.some (Go.Value.pointer (Option.some (Go.Addr.mk s (0 : Nat) Option.none)))), ((2 : Nat), Option.some (Go.Value.int Go.IntKind.i64 mode)),
 ((10 : Nat), Option.some (Go.Value.pointer (Option.some (Go.Addr.mk i5 (0 : Nat) Option.none)))), ((41 : Nat), Option.some (Go.Value.slice la ln (1 : Nat))),
 ((42 : Nat), Option.some (Go.Value.int Go.IntKind.i64 (↑ln : Int))), ((43 : Nat), Option.some (Go.Value.int Go.IntKind.i64 (0 : Int)))]
 σ6))))))) := by
 intros
 kernel_rfl

theorem s159l : ∀ (T : Go.AI.Ct) (s : Nat) (mode : Int) (b : Nat) (r41a_1 : Option Go.Addr) (r41n_1 r41e_1 : Nat) (r42_1 r43_1 : Int) (X : Go.AI.Regs → Go.AI.AS → Prop) (σ : Go.AI.AS) (K : Go.Value → Go.AI.AS → Prop),
 Go.AI.fl Go.Proofs.Tryz.prog Go.AI.hintsS T (159 : Nat) [Bool.true, Bool.true, Bool.true, Bool.false, Bool.true, Bool.false] [] K X
 [((0 : Nat), Option.some (Go.Value.pointer (Option.some (Go.Addr.mk s (0 : Nat) Option.none)))), ((2 : Nat), Option.some (Go.Value.int Go.IntKind.i64 mode)),
 ((10 : Nat), Option.some (Go.Value.pointer (Option.some (Go.Addr.mk b (0 : Nat) Option.none)))), ((41 : Nat), Option.some (Go.Value.slice r41a_1 r41n_1 r41e_1)),
 ((42 : Nat), Option.some (Go.Value.int Go.IntKind.i64 r42_1)), ((43 : Nat), Option.some (Go.Value.int Go.IntKind.i64 r43_1))]
 σ =
 Go.AI.bmatch (Decidable.decide (r43_1 < r42_1))
 (Go.AI.req ((0 : Int) ≤ r43_1)
 (Go.AI.req (r43_1 < (↑r41n_1 : Int))
 (Go.AI.pSome r41a_1 fun (a0 : Go.Addr) ↦
 Go.AI.req (r41e_1 = Go.AI.szOf Go.Proofs.Tryz.prog (32 : Nat))
 (Go.AI.ldc σ (Go.AI.aadd a0 (Int.toNat r43_1 * Go.AI.szOf Go.Proofs.Tryz.prog (32 : Nat))) fun (v1 : Go.Value) ↦
 Go.AI.tI Go.IntKind.u32 v1 fun (n2 : Int) ↦
 T (187 : Nat) [Go.Value.pointer (Option.some (Go.Addr.mk b (0 : Nat) Option.none)), Go.Value.int Go.IntKind.i64 r43_1, Go.Value.int Go.IntKind.u32 n2] σ fun (v3 : Go.Value) (σ4 : Go.AI.AS) ↦
 X
 [((0 : Nat), Option.some (Go.Value.pointer (Option.some (Go.Addr.mk s (0 : Nat) Option.none)))), ((2 : Nat), Option.some (Go.Value.int Go.IntKind.i64 mode)),
 ((10 : Nat), Option.some (Go.Value.pointer (Option.some (Go.Addr.mk b (0 : Nat) Option.none)))), ((41 : Nat), Option.some (Go.Value.slice r41a_1 r41n_1 r41e_1)),
 ((42 : Nat), Option.some (Go.Value.int Go.IntKind.i64 r42_1)), ((43 : Nat), Option.some (Go.Value.int Go.IntKind.i64 (Go.IntKind.wrap Go.IntKind.i64 (r43_1 + (1 : Int)))))]
 σ4))))
 (Go.AI.newAt σ
 (Go.AI.AObj.row Go.AI.RK.plain
 [Go.Value.iface (270 : Nat) (Go.Value.pointer (Option.some (Go.Addr.mk b (0 : Nat) Option.none))), Go.Value.pointer Option.none, Go.Value.int Go.IntKind.i64 mode, Go.Value.int Go.IntKind.i64 (0 : Int),
 Go.Value.int Go.IntKind.u32 (0 : Int), Go.Value.int Go.IntKind.u32 (0 : Int)])
 fun (i5 : Nat) (σ6 : Go.AI.AS) ↦
 T (185 : Nat) [Go.Value.pointer (Option.some (Go.Addr.mk s (0 : Nat) Option.none)), Go.Value.pointer (Option.some (Go.Addr.mk i5 (0 : Nat) Option.none))] σ6 fun (v7 : Go.Value) (σ8 : Go.AI.AS) ↦
 Go.AI.tI Go.IntKind.i64 v7 fun (n9 : Int) ↦ K (Go.Value.tuple (Array.mk [Go.Value.int Go.IntKind.i64 n9, Go.Value.int Go.IntKind.i64 (0 : Int)])) σ8) := by
 intros
 kernel_rfl

theorem s147 : ∀ (T : Go.AI.Ct) (c : Nat) (to : Int) (la : Option Go.Addr) (ln : Nat) (σ : Go.AI.AS) (K : Go.Value → Go.AI.AS → Prop),
 Go.AI.fw Go.Proofs.Tryz.prog Go.AI.hintsS T (147 : Nat) [Go.Value.pointer (Option.some (Go.Addr.mk c (0 : Nat) Option.none)), Go.Value.int Go.IntKind.u32 to, Go.Value.slice la ln (1 : Nat)] σ K =
 Go.AI.ALoop (Go.AI.fl Go.Proofs.Tryz.prog Go.AI.hintsS T (147 : Nat) [Bool.true, Bool.false, Bool.true, Bool.false] [] K)
 [((0 : Nat), Option.some (Go.Value.pointer (Option.some (Go.Addr.mk c (0 : Nat) Option.none)))), ((1 : Nat), Option.some (Go.Value.int Go.IntKind.u32 to)),
 ((10 : Nat), Option.some (Go.Value.slice la ln (1 : Nat))), ((11 : Nat), Option.some (Go.Value.int Go.IntKind.i64 (↑ln : Int))), ((12 : Nat), Option.some (Go.Value.int Go.IntKind.i64 (0 : Int)))]
 σ := by
 intros
 kernel_rfl

theorem s147l : ∀ (T : Go.AI.Ct) (c : Nat) (to : Int) (r10a_1 : Option Go.Addr) (r10n_1 r10e_1 : Nat) (r11_1 r12_1 : Int) (X : Go.AI.Regs → Go.AI.AS → Prop) (σ : Go.AI.AS) (K : Go.Value → Go.AI.AS → Prop),
 Go.AI.fl Go.Proofs.Tryz.prog Go.AI.hintsS T (147 : Nat) [Bool.true, Bool.false, Bool.true, Bool.false] [] K X
 [((0 : Nat), Option.some (Go.Value.pointer (Option.some (Go.Addr.mk c (0 : Nat) Option.none)))), ((1 : Nat), Option.some (Go.Value.int Go.IntKind.u32 to)),
 ((10 : Nat), Option.some (Go.Value.slice r10a_1 r10n_1 r10e_1)), ((11 : Nat), Option.some (Go.Value.int Go.IntKind.i64 r11_1)), ((12 : Nat), Option.some (Go.Value.int Go.IntKind.i64 r12_1))]
 σ =
 Go.AI.bmatch (Decidable.decide (r12_1 < r11_1))
 (Go.AI.req ((0 : Int) ≤ r12_1)
 (Go.AI.req (r12_1 < (↑r10n_1 : Int))
 (Go.AI.pSome r10a_1 fun (a0 : Go.Addr) ↦
 Go.AI.req (r10e_1 = Go.AI.szOf Go.Proofs.Tryz.prog (32 : Nat))
 (Go.AI.ldc σ (Go.AI.aadd a0 (Int.toNat r12_1 * Go.AI.szOf Go.Proofs.Tryz.prog (32 : Nat))) fun (v1 : Go.Value) ↦
 Go.AI.tI Go.IntKind.u32 v1 fun (n2 : Int) ↦
 Go.AI.bmatch (to == (0 : Int))
 (X
 [((0 : Nat), Option.some (Go.Value.pointer (Option.some (Go.Addr.mk c (0 : Nat) Option.none)))), ((1 : Nat), Option.some (Go.Value.int Go.IntKind.u32 to)),
 ((10 : Nat), Option.some (Go.Value.slice r10a_1 r10n_1 r10e_1)), ((11 : Nat), Option.some (Go.Value.int Go.IntKind.i64 r11_1)),
 ((12 : Nat), Option.some (Go.Value.int Go.IntKind.i64 (Go.IntKind.wrap Go.IntKind.i64 (r12_1 + (1 : Int)))))]
 σ)
 (Go.AI.bmatch (to == (4294967295 : Int))
 (Go.AI.ldc σ (Go.Addr.mk c ((0 : Nat) + (1 : Nat)) Option.none) fun (v3 : Go.Value) ↦
 Go.AI.tIf v3
 (fun (t4 : Nat) (u5 : Go.Value) ↦
 Go.AI.pSome (Go.AI.methodOf Go.Proofs.Tryz.prog t4 "Push") fun (f6 : Go.FuncId) ↦
 T f6 [u5, Go.Value.int Go.IntKind.u32 n2] σ fun (v7 : Go.Value) (σ8 : Go.AI.AS) ↦
 Go.AI.tI Go.IntKind.i64 v7 fun (n9 : Int) ↦
 Go.AI.bmatch (n9 != (0 : Int)) (K (Go.Value.int Go.IntKind.i64 n9) σ8)
 (X
 [((0 : Nat), Option.some (Go.Value.pointer (Option.some (Go.Addr.mk c (0 : Nat) Option.none)))), ((1 : Nat), Option.some (Go.Value.int Go.IntKind.u32 to)),
 ((10 : Nat), Option.some (Go.Value.slice r10a_1 r10n_1 r10e_1)), ((11 : Nat), Option.some (Go.Value.int Go.IntKind.i64 r11_1)),
 ((12 : Nat), Option.some (Go.Value.int Go.IntKind.i64 (Go.IntKind.wrap Go.IntKind.i64 (r12_1 + (1 : Int)))))]
 σ8))
 False)
 (Go.AI.ldc σ (Go.Addr.mk c ((0 : Nat) + (1 : Nat)) Option.none) fun (v10 : Go.Value) ↦
 Go.AI.tIf v10
 (fun (t11 : Nat) (u12 : Go.Value) ↦
 Go.AI.pSome (Go.AI.methodOf Go.Proofs.Tryz.prog t11 "Set") fun (f13 : Go.FuncId) ↦
 T f13
 [u12, Go.Value.int Go.IntKind.u32 (Go.IntKind.wrap Go.IntKind.u32 (to + Go.IntKind.wrap Go.IntKind.u32 ((4 : Int) * Go.IntKind.wrap Go.IntKind.u32 r12_1))),
 Go.Value.int Go.IntKind.i64 (4 : Int), Go.Value.int Go.IntKind.u32 n2]
 σ fun (v14 : Go.Value) (σ15 : Go.AI.AS) ↦
 Go.AI.tI Go.IntKind.i64 v14 fun (n16 : Int) ↦
 Go.AI.bmatch (n16 != (0 : Int)) (K (Go.Value.int Go.IntKind.i64 n16) σ15)
 (X
 [((0 : Nat), Option.some (Go.Value.pointer (Option.some (Go.Addr.mk c (0 : Nat) Option.none)))), ((1 : Nat), Option.some (Go.Value.int Go.IntKind.u32 to)),
 ((10 : Nat), Option.some (Go.Value.slice r10a_1 r10n_1 r10e_1)), ((11 : Nat), Option.some (Go.Value.int Go.IntKind.i64 r11_1)),
 ((12 : Nat), Option.some (Go.Value.int Go.IntKind.i64 (Go.IntKind.wrap Go.IntKind.i64 (r12_1 + (1 : Int)))))]
 σ15))
 False))))))
 (K (Go.Value.int Go.IntKind.i64 (0 : Int)) σ) := by
 intros
 kernel_rfl

theorem s92 : ∀ (T : Go.AI.Ct) (c : Nat) (x to : Int) (la : Option Go.Addr) (ln : Nat) (σ : Go.AI.AS) (K : Go.Value → Go.AI.AS → Prop),
 Go.AI.fw Go.Proofs.Tryz.prog Go.AI.hintsS T (92 : Nat)
 [Go.Value.pointer (Option.some (Go.Addr.mk c (0 : Nat) Option.none)), Go.Value.int Go.IntKind.u32 x, Go.Value.int Go.IntKind.u32 to, Go.Value.slice la ln (1 : Nat)] σ K =
 T (147 : Nat) [Go.Value.pointer (Option.some (Go.Addr.mk c (0 : Nat) Option.none)), Go.Value.int Go.IntKind.u32 to, Go.Value.slice la ln (1 : Nat)] σ fun (v0 : Go.Value) (σ1 : Go.AI.AS) ↦
 Go.AI.tI Go.IntKind.i64 v0 fun (n2 : Int) ↦
 Go.AI.bmatch (n2 != (0 : Int)) (K (Go.Value.tuple (Array.mk [Go.Value.int Go.IntKind.u32 (0 : Int), Go.Value.int Go.IntKind.i64 n2])) σ1)
 (K (Go.Value.tuple (Array.mk [Go.Value.int Go.IntKind.u32 x, Go.Value.int Go.IntKind.i64 (0 : Int)])) σ1) := by
 intros
 kernel_rfl

theorem s122 : ∀ (T : Go.AI.Ct) (m : Nat) (addr n : Int) (σ : Go.AI.AS) (K : Go.Value → Go.AI.AS → Prop),
 Go.AI.fw Go.Proofs.Tryz.prog Go.AI.hintsS T (122 : Nat) [Go.Value.pointer (Option.some (Go.Addr.mk m (0 : Nat) Option.none)), Go.Value.int Go.IntKind.u32 addr, Go.Value.int Go.IntKind.i64 n] σ K =
 Go.AI.ldc σ (Go.Addr.mk m ((0 : Nat) + (3 : Nat)) Option.none) fun (v0 : Go.Value) ↦
 Go.AI.tP v0 fun (b1 : Option Go.Addr) ↦
 Go.AI.ptrEq σ b1 Option.none fun (r2 : Bool) ↦
 Go.AI.bmatch (!r2)
 (Go.AI.ldc σ (Go.Addr.mk m ((0 : Nat) + (3 : Nat)) Option.none) fun (v3 : Go.Value) ↦
 Go.AI.tP v3 fun (b4 : Option Go.Addr) ↦
 T (175 : Nat) [Go.Value.pointer b4, Go.Value.int Go.IntKind.u32 addr, Go.Value.int Go.IntKind.i64 n] σ fun (v5 : Go.Value) (σ6 : Go.AI.AS) ↦
 Go.AI.tTup v5 fun (l7 : List Go.Value) ↦
 Go.AI.pSome l7[(0 : Nat)]? fun (u8 : Go.Value) ↦
 Go.AI.tI Go.IntKind.u32 u8 fun (n9 : Int) ↦
 Go.AI.tTup v5 fun (l10 : List Go.Value) ↦
 Go.AI.pSome l10[(1 : Nat)]? fun (u11 : Go.Value) ↦
 Go.AI.tI Go.IntKind.i64 u11 fun (n12 : Int) ↦ K (Go.Value.tuple (Array.mk [Go.Value.int Go.IntKind.u32 n9, Go.Value.int Go.IntKind.i64 n12])) σ6)
 (Go.AI.ldc σ (Go.Addr.mk m (0 : Nat) Option.none) fun (v13 : Go.Value) ↦
 Go.AI.tL (1 : Nat) v13 fun (s14 : Go.AI.Sl) ↦
 Go.AI.bmatch (Decidable.decide (Go.IntKind.wrap Go.IntKind.i64 (Go.IntKind.wrap Go.IntKind.i64 addr + n) > (↑(Go.AI.Sl.n s14) : Int)))
 (K (Go.Value.tuple (Array.mk [Go.Value.int Go.IntKind.u32 (0 : Int), Go.Value.int Go.IntKind.i64 (90 : Int)])) σ)
 (Go.AI.ldc σ (Go.Addr.mk m (0 : Nat) Option.none) fun (v15 : Go.Value) ↦
 Go.AI.tL (1 : Nat) v15 fun (s16 : Go.AI.Sl) ↦
 T (20 : Nat) [Go.Value.slice (Go.AI.Sl.a s16) (Go.AI.Sl.n s16) (1 : Nat), Go.Value.int Go.IntKind.i64 (Go.IntKind.wrap Go.IntKind.i64 addr), Go.Value.int Go.IntKind.i64 n] σ
 fun (v17 : Go.Value) (σ18 : Go.AI.AS) ↦
 Go.AI.tTup v17 fun (l19 : List Go.Value) ↦
 Go.AI.pSome l19[(0 : Nat)]? fun (u20 : Go.Value) ↦
 Go.AI.tI Go.IntKind.u32 u20 fun (n21 : Int) ↦
 Go.AI.tTup v17 fun (l22 : List Go.Value) ↦
 Go.AI.pSome l22[(1 : Nat)]? fun (u23 : Go.Value) ↦
 Go.AI.tI Go.IntKind.i64 u23 fun (n24 : Int) ↦ K (Go.Value.tuple (Array.mk [Go.Value.int Go.IntKind.u32 n21, Go.Value.int Go.IntKind.i64 (0 : Int)])) σ18)) := by
 intros
 kernel_rfl

theorem s128 : ∀ (T : Go.AI.Ct) (m : Nat) (addr n x : Int) (σ : Go.AI.AS) (K : Go.Value → Go.AI.AS → Prop),
 Go.AI.fw Go.Proofs.Tryz.prog Go.AI.hintsS T (128 : Nat)
 [Go.Value.pointer (Option.some (Go.Addr.mk m (0 : Nat) Option.none)), Go.Value.int Go.IntKind.u32 addr, Go.Value.int Go.IntKind.i64 n, Go.Value.int Go.IntKind.u32 x] σ K =
 Go.AI.ldc σ (Go.Addr.mk m ((0 : Nat) + (3 : Nat)) Option.none) fun (v0 : Go.Value) ↦
 Go.AI.tP v0 fun (b1 : Option Go.Addr) ↦
 Go.AI.ptrEq σ b1 Option.none fun (r2 : Bool) ↦
 Go.AI.bmatch (!r2)
 (Go.AI.ldc σ (Go.Addr.mk m ((0 : Nat) + (3 : Nat)) Option.none) fun (v3 : Go.Value) ↦
 Go.AI.tP v3 fun (b4 : Option Go.Addr) ↦
 T (176 : Nat) [Go.Value.pointer b4, Go.Value.int Go.IntKind.u32 addr, Go.Value.int Go.IntKind.i64 n, Go.Value.int Go.IntKind.u32 x] σ fun (v5 : Go.Value) (σ6 : Go.AI.AS) ↦
 Go.AI.tI Go.IntKind.i64 v5 fun (n7 : Int) ↦ K (Go.Value.int Go.IntKind.i64 n7) σ6)
 (Go.AI.ldc σ (Go.Addr.mk m (0 : Nat) Option.none) fun (v8 : Go.Value) ↦
 Go.AI.tL (1 : Nat) v8 fun (s9 : Go.AI.Sl) ↦
 Go.AI.bmatch (Decidable.decide (Go.IntKind.wrap Go.IntKind.i64 (Go.IntKind.wrap Go.IntKind.i64 addr + n) > (↑(Go.AI.Sl.n s9) : Int))) (K (Go.Value.int Go.IntKind.i64 (91 : Int)) σ)
 (T (140 : Nat) [Go.Value.int Go.IntKind.u32 x, Go.Value.int Go.IntKind.i64 n] σ fun (v10 : Go.Value) (σ11 : Go.AI.AS) ↦
 Go.AI.tL (1 : Nat) v10 fun (s12 : Go.AI.Sl) ↦
 Go.AI.ALoop (Go.AI.fl Go.Proofs.Tryz.prog Go.AI.hintsS T (128 : Nat) [Bool.true, Bool.true, Bool.true, Bool.true, Bool.false, Bool.true, Bool.false] [] K)
 [((0 : Nat), Option.some (Go.Value.pointer (Option.some (Go.Addr.mk m (0 : Nat) Option.none)))), ((1 : Nat), Option.some (Go.Value.int Go.IntKind.u32 addr)),
 ((2 : Nat), Option.some (Go.Value.int Go.IntKind.i64 n)), ((9 : Nat), Option.some (Go.Value.slice (Go.AI.Sl.a s12) (Go.AI.Sl.n s12) (1 : Nat))),
 ((10 : Nat), Option.some (Go.Value.int Go.IntKind.i64 (0 : Int)))]
 σ11)) := by
 intros
 kernel_rfl

theorem s128l : ∀ (T : Go.AI.Ct) (m : Nat) (addr n : Int) (ba : Option Go.Addr) (bn be : Nat) (i : Int) (X : Go.AI.Regs → Go.AI.AS → Prop) (σ : Go.AI.AS) (K : Go.Value → Go.AI.AS → Prop),
 Go.AI.fl Go.Proofs.Tryz.prog Go.AI.hintsS T (128 : Nat) [Bool.true, Bool.true, Bool.true, Bool.true, Bool.false, Bool.true, Bool.false] [] K X
 [((0 : Nat), Option.some (Go.Value.pointer (Option.some (Go.Addr.mk m (0 : Nat) Option.none)))), ((1 : Nat), Option.some (Go.Value.int Go.IntKind.u32 addr)),
 ((2 : Nat), Option.some (Go.Value.int Go.IntKind.i64 n)), ((9 : Nat), Option.some (Go.Value.slice ba bn be)), ((10 : Nat), Option.some (Go.Value.int Go.IntKind.i64 i))]
 σ =
 Go.AI.bmatch (Decidable.decide (i < n))
 (Go.AI.ldc σ (Go.Addr.mk m (0 : Nat) Option.none) fun (v0 : Go.Value) ↦
 Go.AI.tL (1 : Nat) v0 fun (s1 : Go.AI.Sl) ↦
 Go.AI.req ((0 : Int) ≤ i)
 (Go.AI.req (i < (↑bn : Int))
 (Go.AI.pSome ba fun (a2 : Go.Addr) ↦
 Go.AI.req (be = Go.AI.szOf Go.Proofs.Tryz.prog (5 : Nat))
 (Go.AI.ldc σ (Go.AI.aadd a2 (Int.toNat i * Go.AI.szOf Go.Proofs.Tryz.prog (5 : Nat))) fun (v3 : Go.Value) ↦
 Go.AI.tI Go.IntKind.u8 v3 fun (n4 : Int) ↦
 Go.AI.req ((0 : Int) ≤ Go.IntKind.wrap Go.IntKind.i64 (Go.IntKind.wrap Go.IntKind.i64 addr + i))
 (Go.AI.req (Go.IntKind.wrap Go.IntKind.i64 (Go.IntKind.wrap Go.IntKind.i64 addr + i) < (↑(Go.AI.Sl.n s1) : Int))
 (Go.AI.pSome (Go.AI.Sl.a s1) fun (a5 : Go.Addr) ↦
 Go.AI.put1 σ (Go.AI.aadd a5 (Int.toNat (Go.IntKind.wrap Go.IntKind.i64 (Go.IntKind.wrap Go.IntKind.i64 addr + i)) * Go.AI.szOf Go.Proofs.Tryz.prog (5 : Nat)))
 (Go.Value.int Go.IntKind.u8 n4) fun (σ6 : Go.AI.AS) ↦
 X
 [((0 : Nat), Option.some (Go.Value.pointer (Option.some (Go.Addr.mk m (0 : Nat) Option.none)))), ((1 : Nat), Option.some (Go.Value.int Go.IntKind.u32 addr)),
 ((2 : Nat), Option.some (Go.Value.int Go.IntKind.i64 n)), ((9 : Nat), Option.some (Go.Value.slice ba bn be)),
 ((10 : Nat), Option.some (Go.Value.int Go.IntKind.i64 (Go.IntKind.wrap Go.IntKind.i64 (i + (1 : Int)))))]
 σ6))))))
 (K (Go.Value.int Go.IntKind.i64 (0 : Int)) σ) := by
 intros
 kernel_rfl

theorem s190 : ∀ (T : Go.AI.Ct) (m : Nat) (x : Int) (σ : Go.AI.AS) (K : Go.Value → Go.AI.AS → Prop),
 Go.AI.fw Go.Proofs.Tryz.prog Go.AI.hintsS T (190 : Nat) [Go.Value.pointer (Option.some (Go.Addr.mk m (0 : Nat) Option.none)), Go.Value.int Go.IntKind.u32 x] σ K =
 Go.AI.ldc σ (Go.Addr.mk m ((0 : Nat) + (4 : Nat)) Option.none) fun (v0 : Go.Value) ↦
 Go.AI.tP v0 fun (b1 : Option Go.Addr) ↦
 Go.AI.ptrEq σ b1 Option.none fun (r2 : Bool) ↦
 Go.AI.bmatch (!r2)
 (Go.AI.ldc σ (Go.Addr.mk m ((0 : Nat) + (4 : Nat)) Option.none) fun (v3 : Go.Value) ↦
 Go.AI.tP v3 fun (b4 : Option Go.Addr) ↦
 T (201 : Nat) [Go.Value.pointer b4, Go.Value.int Go.IntKind.u32 x] σ fun (v5 : Go.Value) (σ6 : Go.AI.AS) ↦ Go.AI.tI Go.IntKind.i64 v5 fun (n7 : Int) ↦ K (Go.Value.int Go.IntKind.i64 n7) σ6)
 (Go.AI.ldc σ (Go.Addr.mk m ((0 : Nat) + (1 : Nat)) Option.none) fun (v8 : Go.Value) ↦
 Go.AI.tL (1 : Nat) v8 fun (s9 : Go.AI.Sl) ↦
 Go.AI.ldc σ (Go.Addr.mk m ((0 : Nat) + (2 : Nat)) Option.none) fun (v10 : Go.Value) ↦
 Go.AI.tI Go.IntKind.i64 v10 fun (n11 : Int) ↦
 Go.AI.bmatch (Decidable.decide ((↑(Go.AI.Sl.n s9) : Int) ≥ n11)) (K (Go.Value.int Go.IntKind.i64 (100 : Int)) σ)
 (Go.AI.ldc σ (Go.Addr.mk m ((0 : Nat) + (1 : Nat)) Option.none) fun (v12 : Go.Value) ↦
 Go.AI.tL (1 : Nat) v12 fun (s13 : Go.AI.Sl) ↦
 Go.AI.newAt σ (Go.AI.AObj.row Go.AI.RK.rw [Go.Value.int Go.IntKind.u32 x]) fun (i14 : Nat) (σ15 : Go.AI.AS) ↦
 Go.AI.lds σ15 (Go.Addr.mk i14 (0 : Nat) Option.none) (1 : Nat) fun (l16 : List Go.Value) ↦
 Go.AI.appendTo σ15 (1 : Nat) (4 : Nat) (Go.AI.Sl.mk (Go.AI.Sl.a s13) (Go.AI.Sl.n s13)) l16 (1 : Nat) fun (s17 : Go.AI.Sl) (σ18 : Go.AI.AS) ↦
 Go.AI.put1 σ18 (Go.Addr.mk m ((0 : Nat) + (1 : Nat)) Option.none) (Go.Value.slice (Go.AI.Sl.a s17) (Go.AI.Sl.n s17) (1 : Nat)) fun (σ19 : Go.AI.AS) ↦
 K (Go.Value.int Go.IntKind.i64 (0 : Int)) σ19)) := by
 intros
 kernel_rfl

end Go.AI
end
section
/- The conditions ahead of the calls of the program's functions, reckoned as far as they go (equations that the kernel checks); no condition. -/
set_option maxRecDepth 1000000
set_option linter.unusedVariables false
namespace Go.AI
open Go.Proofs
theorem s18 : ∀ (T : Go.AI.Ct) (aa : Option Go.Addr) (an : Nat) (ba : Option Go.Addr) (bn : Nat) (σ : Go.AI.AS) (K : Go.Value → Go.AI.AS → Prop),
 Go.AI.fw Go.Proofs.Tryz.prog Go.AI.hintsS T (18 : Nat) [Go.Value.slice aa an (1 : Nat), Go.Value.slice ba bn (1 : Nat)] σ K =
 Go.AI.bmatch ((↑an : Int) != (↑bn : Int)) (K (Go.Value.bool Bool.false) σ)
 (Go.AI.ALoop (Go.AI.fl Go.Proofs.Tryz.prog Go.AI.hintsS T (18 : Nat) [Bool.true, Bool.true, Bool.false, Bool.true, Bool.false] [] K)
 [((0 : Nat), Option.some (Go.Value.slice aa an (1 : Nat))), ((1 : Nat), Option.some (Go.Value.slice ba bn (1 : Nat))), ((5 : Nat), Option.some (Go.Value.int Go.IntKind.i64 (0 : Int)))] σ) := by
 intros
 kernel_rfl

theorem s18l : ∀ (T : Go.AI.Ct) (aa : Option Go.Addr) (an ae : Nat) (ba : Option Go.Addr) (bn be : Nat) (i : Int) (X : Go.AI.Regs → Go.AI.AS → Prop) (σ : Go.AI.AS) (K : Go.Value → Go.AI.AS → Prop),
 Go.AI.fl Go.Proofs.Tryz.prog Go.AI.hintsS T (18 : Nat) [Bool.true, Bool.true, Bool.false, Bool.true, Bool.false] [] K X
 [((0 : Nat), Option.some (Go.Value.slice aa an ae)), ((1 : Nat), Option.some (Go.Value.slice ba bn be)), ((5 : Nat), Option.some (Go.Value.int Go.IntKind.i64 i))] σ =
 Go.AI.bmatch (Decidable.decide (i < (↑an : Int)))
 (Go.AI.req ((0 : Int) ≤ i)
 (Go.AI.req (i < (↑an : Int))
 (Go.AI.pSome aa fun (a0 : Go.Addr) ↦
 Go.AI.req (ae = Go.AI.szOf Go.Proofs.Tryz.prog (32 : Nat))
 (Go.AI.ldc σ (Go.AI.aadd a0 (Int.toNat i * Go.AI.szOf Go.Proofs.Tryz.prog (32 : Nat))) fun (v1 : Go.Value) ↦
 Go.AI.tI Go.IntKind.u32 v1 fun (n2 : Int) ↦
 Go.AI.req ((0 : Int) ≤ i)
 (Go.AI.req (i < (↑bn : Int))
 (Go.AI.pSome ba fun (a3 : Go.Addr) ↦
 Go.AI.req (be = Go.AI.szOf Go.Proofs.Tryz.prog (32 : Nat))
 (Go.AI.ldc σ (Go.AI.aadd a3 (Int.toNat i * Go.AI.szOf Go.Proofs.Tryz.prog (32 : Nat))) fun (v4 : Go.Value) ↦
 Go.AI.tI Go.IntKind.u32 v4 fun (n5 : Int) ↦
 Go.AI.bmatch (n2 != n5) (K (Go.Value.bool Bool.false) σ)
 (X
 [((0 : Nat), Option.some (Go.Value.slice aa an ae)), ((1 : Nat), Option.some (Go.Value.slice ba bn be)),
 ((5 : Nat), Option.some (Go.Value.int Go.IntKind.i64 (Go.IntKind.wrap Go.IntKind.i64 (i + (1 : Int)))))]
 σ))))))))
 (K (Go.Value.bool Bool.true) σ) := by
 intros
 kernel_rfl

theorem s20 : ∀ (T : Go.AI.Ct) (ba : Option Go.Addr) (bn : Nat) (r1_1 n : Int) (σ : Go.AI.AS) (K : Go.Value → Go.AI.AS → Prop),
 Go.AI.fw Go.Proofs.Tryz.prog Go.AI.hintsS T (20 : Nat) [Go.Value.slice ba bn (1 : Nat), Go.Value.int Go.IntKind.i64 r1_1, Go.Value.int Go.IntKind.i64 n] σ K =
 Go.AI.bmatch (n != (1 : Int))
 (Go.AI.bmatch (n != (2 : Int))
 (Go.AI.bmatch (n != (4 : Int)) (K (Go.Value.tuple (Array.mk [Go.Value.int Go.IntKind.u32 (0 : Int), Go.Value.int Go.IntKind.i64 (1 : Int)])) σ)
 (Go.AI.bmatch (Decidable.decide (r1_1 < (0 : Int))) (K (Go.Value.tuple (Array.mk [Go.Value.int Go.IntKind.u32 (0 : Int), Go.Value.int Go.IntKind.i64 (1 : Int)])) σ)
 (Go.AI.ALoop (Go.AI.fl Go.Proofs.Tryz.prog Go.AI.hintsS T (20 : Nat) [Bool.true, Bool.true, Bool.true, Bool.false, Bool.true, Bool.false] [] K)
 [((0 : Nat), Option.some (Go.Value.slice ba bn (1 : Nat))), ((1 : Nat), Option.some (Go.Value.int Go.IntKind.i64 r1_1)), ((2 : Nat), Option.some (Go.Value.int Go.IntKind.i64 n)),
 ((8 : Nat), Option.some (Go.Value.int Go.IntKind.i64 (0 : Int))), ((9 : Nat), Option.some (Go.Value.int Go.IntKind.i64 (0 : Int)))]
 σ)))
 (Go.AI.bmatch (Decidable.decide (r1_1 < (0 : Int))) (K (Go.Value.tuple (Array.mk [Go.Value.int Go.IntKind.u32 (0 : Int), Go.Value.int Go.IntKind.i64 (1 : Int)])) σ)
 (Go.AI.ALoop (Go.AI.fl Go.Proofs.Tryz.prog Go.AI.hintsS T (20 : Nat) [Bool.true, Bool.true, Bool.true, Bool.false, Bool.true, Bool.false] [] K)
 [((0 : Nat), Option.some (Go.Value.slice ba bn (1 : Nat))), ((1 : Nat), Option.some (Go.Value.int Go.IntKind.i64 r1_1)), ((2 : Nat), Option.some (Go.Value.int Go.IntKind.i64 n)),
 ((8 : Nat), Option.some (Go.Value.int Go.IntKind.i64 (0 : Int))), ((9 : Nat), Option.some (Go.Value.int Go.IntKind.i64 (0 : Int)))]
 σ)))
 (Go.AI.bmatch (Decidable.decide (r1_1 < (0 : Int))) (K (Go.Value.tuple (Array.mk [Go.Value.int Go.IntKind.u32 (0 : Int), Go.Value.int Go.IntKind.i64 (1 : Int)])) σ)
 (Go.AI.ALoop (Go.AI.fl Go.Proofs.Tryz.prog Go.AI.hintsS T (20 : Nat) [Bool.true, Bool.true, Bool.true, Bool.false, Bool.true, Bool.false] [] K)
 [((0 : Nat), Option.some (Go.Value.slice ba bn (1 : Nat))), ((1 : Nat), Option.some (Go.Value.int Go.IntKind.i64 r1_1)), ((2 : Nat), Option.some (Go.Value.int Go.IntKind.i64 n)),
 ((8 : Nat), Option.some (Go.Value.int Go.IntKind.i64 (0 : Int))), ((9 : Nat), Option.some (Go.Value.int Go.IntKind.i64 (0 : Int)))]
 σ)) := by
 intros
 kernel_rfl

theorem s20l : ∀ (T : Go.AI.Ct) (ba : Option Go.Addr) (bn be : Nat) (r1_1 n x i : Int) (X : Go.AI.Regs → Go.AI.AS → Prop) (σ : Go.AI.AS) (K : Go.Value → Go.AI.AS → Prop),
 Go.AI.fl Go.Proofs.Tryz.prog Go.AI.hintsS T (20 : Nat) [Bool.true, Bool.true, Bool.true, Bool.false, Bool.true, Bool.false] [] K X
 [((0 : Nat), Option.some (Go.Value.slice ba bn be)), ((1 : Nat), Option.some (Go.Value.int Go.IntKind.i64 r1_1)), ((2 : Nat), Option.some (Go.Value.int Go.IntKind.i64 n)),
 ((8 : Nat), Option.some (Go.Value.int Go.IntKind.i64 x)), ((9 : Nat), Option.some (Go.Value.int Go.IntKind.i64 i))]
 σ =
 Go.AI.bmatch (Decidable.decide (i < n))
 (Go.AI.bmatch (Decidable.decide (r1_1 ≥ Go.IntKind.wrap Go.IntKind.i64 ((↑bn : Int) - i))) (K (Go.Value.tuple (Array.mk [Go.Value.int Go.IntKind.u32 (0 : Int), Go.Value.int Go.IntKind.i64 (2 : Int)])) σ)
 (Go.AI.req ((0 : Int) ≤ Go.IntKind.wrap Go.IntKind.i64 (r1_1 + i))
 (Go.AI.req (Go.IntKind.wrap Go.IntKind.i64 (r1_1 + i) < (↑bn : Int))
 (Go.AI.pSome ba fun (a0 : Go.Addr) ↦
 Go.AI.req (be = Go.AI.szOf Go.Proofs.Tryz.prog (5 : Nat))
 (Go.AI.ldc σ (Go.AI.aadd a0 (Int.toNat (Go.IntKind.wrap Go.IntKind.i64 (r1_1 + i)) * Go.AI.szOf Go.Proofs.Tryz.prog (5 : Nat))) fun (v1 : Go.Value) ↦
 Go.AI.tI Go.IntKind.u8 v1 fun (n2 : Int) ↦
 X
 [((0 : Nat), Option.some (Go.Value.slice ba bn be)), ((1 : Nat), Option.some (Go.Value.int Go.IntKind.i64 r1_1)), ((2 : Nat), Option.some (Go.Value.int Go.IntKind.i64 n)),
 ((8 : Nat), Option.some (Go.Value.int Go.IntKind.i64 (Go.IntKind.wrap Go.IntKind.i64 (Go.IntKind.wrap Go.IntKind.i64 ((256 : Int) * x) + Go.IntKind.wrap Go.IntKind.i64 n2)))),
 ((9 : Nat), Option.some (Go.Value.int Go.IntKind.i64 (Go.IntKind.wrap Go.IntKind.i64 (i + (1 : Int)))))]
 σ)))))
 (K (Go.Value.tuple (Array.mk [Go.Value.int Go.IntKind.u32 (Go.IntKind.wrap Go.IntKind.u32 x), Go.Value.int Go.IntKind.i64 (0 : Int)])) σ) := by
 intros
 kernel_rfl

theorem s140 : ∀ (T : Go.AI.Ct) (x n : Int) (σ : Go.AI.AS) (K : Go.Value → Go.AI.AS → Prop),
 Go.AI.fw Go.Proofs.Tryz.prog Go.AI.hintsS T (140 : Nat) [Go.Value.int Go.IntKind.u32 x, Go.Value.int Go.IntKind.i64 n] σ K =
 Go.AI.bmatch (n != (1 : Int))
 (Go.AI.bmatch (n != (2 : Int))
 (Go.AI.bmatch (n != (4 : Int)) (K (Go.Value.slice Option.none (0 : Nat) (0 : Nat)) σ)
 (Go.AI.ALoop (Go.AI.fl Go.Proofs.Tryz.prog Go.AI.hintsS T (140 : Nat) [Bool.true, Bool.true, Bool.true, Bool.true, Bool.false, Bool.true, Bool.false] [] K)
 [((0 : Nat), Option.some (Go.Value.int Go.IntKind.u32 x)), ((1 : Nat), Option.some (Go.Value.int Go.IntKind.i64 n)), ((5 : Nat), Option.some (Go.Value.slice Option.none (0 : Nat) (0 : Nat))),
 ((6 : Nat), Option.some (Go.Value.int Go.IntKind.i64 (1 : Int))), ((7 : Nat), Option.some (Go.Value.int Go.IntKind.i64 (1 : Int)))]
 σ))
 (Go.AI.ALoop (Go.AI.fl Go.Proofs.Tryz.prog Go.AI.hintsS T (140 : Nat) [Bool.true, Bool.true, Bool.true, Bool.true, Bool.false, Bool.true, Bool.false] [] K)
 [((0 : Nat), Option.some (Go.Value.int Go.IntKind.u32 x)), ((1 : Nat), Option.some (Go.Value.int Go.IntKind.i64 n)), ((5 : Nat), Option.some (Go.Value.slice Option.none (0 : Nat) (0 : Nat))),
 ((6 : Nat), Option.some (Go.Value.int Go.IntKind.i64 (1 : Int))), ((7 : Nat), Option.some (Go.Value.int Go.IntKind.i64 (1 : Int)))]
 σ))
 (Go.AI.ALoop (Go.AI.fl Go.Proofs.Tryz.prog Go.AI.hintsS T (140 : Nat) [Bool.true, Bool.true, Bool.true, Bool.true, Bool.false, Bool.true, Bool.false] [] K)
 [((0 : Nat), Option.some (Go.Value.int Go.IntKind.u32 x)), ((1 : Nat), Option.some (Go.Value.int Go.IntKind.i64 n)), ((5 : Nat), Option.some (Go.Value.slice Option.none (0 : Nat) (0 : Nat))),
 ((6 : Nat), Option.some (Go.Value.int Go.IntKind.i64 (1 : Int))), ((7 : Nat), Option.some (Go.Value.int Go.IntKind.i64 (1 : Int)))]
 σ) := by
 intros
 kernel_rfl

theorem s140l : ∀ (T : Go.AI.Ct) (x n : Int) (outa : Option Go.Addr) (outn oute : Nat) (p i : Int) (X : Go.AI.Regs → Go.AI.AS → Prop) (σ : Go.AI.AS) (K : Go.Value → Go.AI.AS → Prop),
 Go.AI.fl Go.Proofs.Tryz.prog Go.AI.hintsS T (140 : Nat) [Bool.true, Bool.true, Bool.true, Bool.true, Bool.false, Bool.true, Bool.false] [] K X
 [((0 : Nat), Option.some (Go.Value.int Go.IntKind.u32 x)), ((1 : Nat), Option.some (Go.Value.int Go.IntKind.i64 n)), ((5 : Nat), Option.some (Go.Value.slice outa outn oute)),
 ((6 : Nat), Option.some (Go.Value.int Go.IntKind.i64 p)), ((7 : Nat), Option.some (Go.Value.int Go.IntKind.i64 i))]
 σ =
 Go.AI.bmatch (Decidable.decide (i < n))
 (X
 [((0 : Nat), Option.some (Go.Value.int Go.IntKind.u32 x)), ((1 : Nat), Option.some (Go.Value.int Go.IntKind.i64 n)), ((5 : Nat), Option.some (Go.Value.slice outa outn oute)),
 ((6 : Nat), Option.some (Go.Value.int Go.IntKind.i64 (Go.IntKind.wrap Go.IntKind.i64 ((256 : Int) * p)))),
 ((7 : Nat), Option.some (Go.Value.int Go.IntKind.i64 (Go.IntKind.wrap Go.IntKind.i64 (i + (1 : Int)))))]
 σ)
 (Go.AI.ALoop (Go.AI.fl Go.Proofs.Tryz.prog Go.AI.hintsS T (140 : Nat) [Bool.true, Bool.true, Bool.true, Bool.true, Bool.true, Bool.false, Bool.true, Bool.false] [] K)
 [((0 : Nat), Option.some (Go.Value.int Go.IntKind.u32 x)), ((1 : Nat), Option.some (Go.Value.int Go.IntKind.i64 n)), ((5 : Nat), Option.some (Go.Value.slice outa outn oute)),
 ((6 : Nat), Option.some (Go.Value.int Go.IntKind.i64 p)), ((8 : Nat), Option.some (Go.Value.int Go.IntKind.i64 (0 : Int)))]
 σ) := by
 intros
 kernel_rfl

theorem s140l1 : ∀ (T : Go.AI.Ct) (x n : Int) (outa : Option Go.Addr) (outn oute : Nat) (p i : Int) (X : Go.AI.Regs → Go.AI.AS → Prop) (σ : Go.AI.AS) (K : Go.Value → Go.AI.AS → Prop),
 Go.AI.fl Go.Proofs.Tryz.prog Go.AI.hintsS T (140 : Nat) [Bool.true, Bool.true, Bool.true, Bool.true, Bool.true, Bool.false, Bool.true, Bool.false] [] K X
 [((0 : Nat), Option.some (Go.Value.int Go.IntKind.u32 x)), ((1 : Nat), Option.some (Go.Value.int Go.IntKind.i64 n)), ((5 : Nat), Option.some (Go.Value.slice outa outn oute)),
 ((6 : Nat), Option.some (Go.Value.int Go.IntKind.i64 p)), ((8 : Nat), Option.some (Go.Value.int Go.IntKind.i64 i))]
 σ =
 Go.AI.bmatch (Decidable.decide (i < n))
 (Go.AI.req (p ≠ (0 : Int))
 (Go.AI.newAt σ
 (Go.AI.AObj.row Go.AI.RK.rw [Go.Value.int Go.IntKind.u8 (Go.IntKind.wrap Go.IntKind.u8 (Int.tmod (Go.IntKind.wrap Go.IntKind.i64 (Int.tdiv (Go.IntKind.wrap Go.IntKind.i64 x) p)) (256 : Int)))])
 fun (i0 : Nat) (σ1 : Go.AI.AS) ↦
 Go.AI.chk (Go.AI.nilOr outa oute (Go.AI.szOf Go.Proofs.Tryz.prog (5 : Nat)))
 (Go.AI.lds σ1 (Go.Addr.mk i0 (0 : Nat) Option.none) (1 : Nat) fun (l2 : List Go.Value) ↦
 Go.AI.appendTo σ1 (1 : Nat) (1 : Nat) (Go.AI.Sl.mk outa outn) l2 (1 : Nat) fun (s3 : Go.AI.Sl) (σ4 : Go.AI.AS) ↦
 X
 [((0 : Nat), Option.some (Go.Value.int Go.IntKind.u32 x)), ((1 : Nat), Option.some (Go.Value.int Go.IntKind.i64 n)),
 ((5 : Nat), Option.some (Go.Value.slice (Go.AI.Sl.a s3) (Go.AI.Sl.n s3) (1 : Nat))), ((6 : Nat), Option.some (Go.Value.int Go.IntKind.i64 (Go.IntKind.wrap Go.IntKind.i64 (Int.tdiv p (256 : Int))))),
 ((8 : Nat), Option.some (Go.Value.int Go.IntKind.i64 (Go.IntKind.wrap Go.IntKind.i64 (i + (1 : Int)))))]
 σ4)))
 (K (Go.Value.slice outa outn oute) σ) := by
 intros
 kernel_rfl

theorem s160 : ∀ (T : Go.AI.Ct) (s : Nat) (n : Int) (σ : Go.AI.AS) (K : Go.Value → Go.AI.AS → Prop),
 Go.AI.fw Go.Proofs.Tryz.prog Go.AI.hintsS T (160 : Nat) [Go.Value.pointer (Option.some (Go.Addr.mk s (0 : Nat) Option.none)), Go.Value.int Go.IntKind.i64 n] σ K =
 T (135 : Nat) [Go.Value.pointer (Option.some (Go.Addr.mk s (0 : Nat) Option.none)), Go.Value.int Go.IntKind.i64 n] σ fun (v0 : Go.Value) (σ1 : Go.AI.AS) ↦
 Go.AI.tTup v0 fun (l2 : List Go.Value) ↦
 Go.AI.pSome l2[(0 : Nat)]? fun (u3 : Go.Value) ↦
 Go.AI.tP u3 fun (b4 : Option Go.Addr) ↦
 Go.AI.tTup v0 fun (l5 : List Go.Value) ↦
 Go.AI.pSome l5[(1 : Nat)]? fun (u6 : Go.Value) ↦
 Go.AI.tI Go.IntKind.i64 u6 fun (n7 : Int) ↦
 Go.AI.newAt σ1 (Go.AI.AObj.row Go.AI.RK.plain [Go.Value.pointer Option.none]) fun (i8 : Nat) (σ9 : Go.AI.AS) ↦
 Go.AI.put1 σ9 (Go.Addr.mk i8 (0 : Nat) Option.none) (Go.Value.pointer b4) fun (σ10 : Go.AI.AS) ↦
 Go.AI.bmatch (n7 != (0 : Int))
 (K (Go.Value.tuple (Array.mk [Go.Value.int Go.IntKind.u32 (0 : Int), Go.Value.int Go.IntKind.u32 (0 : Int), Go.Value.slice Option.none (0 : Nat) (0 : Nat), Go.Value.int Go.IntKind.i64 n7])) σ10)
 (Go.AI.ldc σ10 (Go.Addr.mk s ((0 : Nat) + (3 : Nat)) Option.none) fun (v11 : Go.Value) ↦
 Go.AI.tM v11 fun (b12 : Option Nat) ↦
 Go.AI.pSome b12 fun (i13 : Nat) ↦
 Go.AI.mdel σ10 (Go.TypeDesc.int Go.IntKind.i64) i13 (Go.Value.int Go.IntKind.i64 n) fun (σ14 : Go.AI.AS) ↦
 Go.AI.ldc σ14 (Go.Addr.mk i8 (0 : Nat) Option.none) fun (v15 : Go.Value) ↦
 Go.AI.tP v15 fun (b16 : Option Go.Addr) ↦
 Go.AI.pSome b16 fun (a17 : Go.Addr) ↦
 Go.AI.ldc σ14 (Go.Addr.add a17 (0 : Nat)) fun (v18 : Go.Value) ↦
 Go.AI.tIf v18
 (fun (t19 : Nat) (u20 : Go.Value) ↦
 Go.AI.tyAs (Go.Value.iface t19 u20) (270 : Nat) fun (o21 : Option Go.Value) ↦
 Go.AI.tP (Option.getD o21 (Go.Value.pointer Option.none)) fun (b22 : Option Go.Addr) ↦
 Go.AI.bmatch (Option.isSome o21)
 (Go.AI.ldc σ14 (Go.Addr.mk i8 (0 : Nat) Option.none) fun (v23 : Go.Value) ↦
 Go.AI.tP v23 fun (b24 : Option Go.Addr) ↦
 Go.AI.pSome b24 fun (a25 : Go.Addr) ↦
 Go.AI.ldc σ14 (Go.Addr.mk (Go.Addr.block a25) (Go.Addr.off a25 + (4 : Nat)) Option.none) fun (v26 : Go.Value) ↦
 Go.AI.tI Go.IntKind.u32 v26 fun (n27 : Int) ↦
 Go.AI.ldc σ14 (Go.Addr.mk i8 (0 : Nat) Option.none) fun (v28 : Go.Value) ↦
 Go.AI.tP v28 fun (b29 : Option Go.Addr) ↦
 Go.AI.pSome b29 fun (a30 : Go.Addr) ↦
 Go.AI.ldc σ14 (Go.Addr.mk (Go.Addr.block a30) (Go.Addr.off a30 + (5 : Nat)) Option.none) fun (v31 : Go.Value) ↦
 Go.AI.tI Go.IntKind.u32 v31 fun (n32 : Int) ↦
 Go.AI.pSome b22 fun (a33 : Go.Addr) ↦
 Go.AI.ldc σ14 (Go.Addr.add a33 (0 : Nat)) fun (v34 : Go.Value) ↦
 Go.AI.tL (1 : Nat) v34 fun (s35 : Go.AI.Sl) ↦
 K
 (Go.Value.tuple
 (Array.mk
 [Go.Value.int Go.IntKind.u32 n27, Go.Value.int Go.IntKind.u32 n32, Go.Value.slice (Go.AI.Sl.a s35) (Go.AI.Sl.n s35) (1 : Nat),
 Go.Value.int Go.IntKind.i64 (0 : Int)]))
 σ14)
 (Go.AI.ldc σ14 (Go.Addr.mk i8 (0 : Nat) Option.none) fun (v36 : Go.Value) ↦
 Go.AI.tP v36 fun (b37 : Option Go.Addr) ↦
 Go.AI.pSome b37 fun (a38 : Go.Addr) ↦
 Go.AI.ldc σ14 (Go.Addr.mk (Go.Addr.block a38) (Go.Addr.off a38 + (1 : Nat)) Option.none) fun (v39 : Go.Value) ↦
 Go.AI.tP v39 fun (b40 : Option Go.Addr) ↦
 Go.AI.ldc σ14 (Go.Addr.mk i8 (0 : Nat) Option.none) fun (v41 : Go.Value) ↦
 Go.AI.tP v41 fun (b42 : Option Go.Addr) ↦
 Go.AI.pSome b42 fun (a43 : Go.Addr) ↦
 Go.AI.ldc σ14 (Go.Addr.mk (Go.Addr.block a43) (Go.Addr.off a43 + (1 : Nat)) Option.none) fun (v44 : Go.Value) ↦
 Go.AI.tP v44 fun (b45 : Option Go.Addr) ↦
 Go.AI.pSome b45 fun (a46 : Go.Addr) ↦
 Go.AI.ldc σ14 (Go.Addr.mk (Go.Addr.block a46) (Go.Addr.off a46 + (1 : Nat)) Option.none) fun (v47 : Go.Value) ↦
 Go.AI.tL (1 : Nat) v47 fun (s48 : Go.AI.Sl) ↦
 T (188 : Nat)
 [Go.Value.slice (Go.AI.Sl.a s48) (Go.AI.Sl.n s48) (1 : Nat),
 Go.Value.func (Go.Fn.func (189 : Nat)) (Array.mk []) (Array.mk [Go.Value.pointer (Option.some (Go.Addr.mk i8 (0 : Nat) Option.none))])]
 σ14 fun (v49 : Go.Value) (σ50 : Go.AI.AS) ↦
 Go.AI.tL (1 : Nat) v49 fun (s51 : Go.AI.Sl) ↦
 Go.AI.ldc σ50 (Go.Addr.mk (Go.Addr.block a38) (Go.Addr.off a38 + (1 : Nat)) Option.none) fun (v52 : Go.Value) ↦
 Go.AI.tP v52 fun (b53 : Option Go.Addr) ↦
 Go.Value.pointer b40 = Go.Value.pointer b53 ∧
 Go.AI.ldc σ50 (Go.Addr.mk i8 (0 : Nat) Option.none) fun (v54 : Go.Value) ↦
 Go.AI.tP v54 fun (b55 : Option Go.Addr) ↦
 Go.Value.pointer b37 = Go.Value.pointer b55 ∧
 Go.AI.pSome b40 fun (a56 : Go.Addr) ↦
 Go.AI.put1 σ50 (Go.Addr.mk (Go.Addr.block a56) (Go.Addr.off a56 + (1 : Nat)) Option.none)
 (Go.Value.slice (Go.AI.Sl.a s51) (Go.AI.Sl.n s51) (1 : Nat)) fun (σ57 : Go.AI.AS) ↦
 Go.AI.ldc σ57 (Go.Addr.mk i8 (0 : Nat) Option.none) fun (v58 : Go.Value) ↦
 Go.AI.tP v58 fun (b59 : Option Go.Addr) ↦
 Go.AI.pSome b59 fun (a60 : Go.Addr) ↦
 Go.AI.ldc σ57 (Go.Addr.mk (Go.Addr.block a60) (Go.Addr.off a60 + (4 : Nat)) Option.none) fun (v61 : Go.Value) ↦
 Go.AI.tI Go.IntKind.u32 v61 fun (n62 : Int) ↦
 Go.AI.ldc σ57 (Go.Addr.mk i8 (0 : Nat) Option.none) fun (v63 : Go.Value) ↦
 Go.AI.tP v63 fun (b64 : Option Go.Addr) ↦
 Go.AI.pSome b64 fun (a65 : Go.Addr) ↦
 Go.AI.ldc σ57 (Go.Addr.mk (Go.Addr.block a65) (Go.Addr.off a65 + (5 : Nat)) Option.none)
 fun (v66 : Go.Value) ↦
 Go.AI.tI Go.IntKind.u32 v66 fun (n67 : Int) ↦
 K
 (Go.Value.tuple
 (Array.mk
 [Go.Value.int Go.IntKind.u32 n62, Go.Value.int Go.IntKind.u32 n67,
 Go.Value.slice Option.none (0 : Nat) (0 : Nat), Go.Value.int Go.IntKind.i64 (0 : Int)]))
 σ57))
 (Go.AI.ldc σ14 (Go.Addr.mk i8 (0 : Nat) Option.none) fun (v68 : Go.Value) ↦
 Go.AI.tP v68 fun (b69 : Option Go.Addr) ↦
 Go.AI.pSome b69 fun (a70 : Go.Addr) ↦
 Go.AI.ldc σ14 (Go.Addr.mk (Go.Addr.block a70) (Go.Addr.off a70 + (1 : Nat)) Option.none) fun (v71 : Go.Value) ↦
 Go.AI.tP v71 fun (b72 : Option Go.Addr) ↦
 Go.AI.ldc σ14 (Go.Addr.mk i8 (0 : Nat) Option.none) fun (v73 : Go.Value) ↦
 Go.AI.tP v73 fun (b74 : Option Go.Addr) ↦
 Go.AI.pSome b74 fun (a75 : Go.Addr) ↦
 Go.AI.ldc σ14 (Go.Addr.mk (Go.Addr.block a75) (Go.Addr.off a75 + (1 : Nat)) Option.none) fun (v76 : Go.Value) ↦
 Go.AI.tP v76 fun (b77 : Option Go.Addr) ↦
 Go.AI.pSome b77 fun (a78 : Go.Addr) ↦
 Go.AI.ldc σ14 (Go.Addr.mk (Go.Addr.block a78) (Go.Addr.off a78 + (1 : Nat)) Option.none) fun (v79 : Go.Value) ↦
 Go.AI.tL (1 : Nat) v79 fun (s80 : Go.AI.Sl) ↦
 T (188 : Nat)
 [Go.Value.slice (Go.AI.Sl.a s80) (Go.AI.Sl.n s80) (1 : Nat),
 Go.Value.func (Go.Fn.func (189 : Nat)) (Array.mk []) (Array.mk [Go.Value.pointer (Option.some (Go.Addr.mk i8 (0 : Nat) Option.none))])]
 σ14 fun (v81 : Go.Value) (σ82 : Go.AI.AS) ↦
 Go.AI.tL (1 : Nat) v81 fun (s83 : Go.AI.Sl) ↦
 Go.AI.ldc σ82 (Go.Addr.mk (Go.Addr.block a70) (Go.Addr.off a70 + (1 : Nat)) Option.none) fun (v84 : Go.Value) ↦
 Go.AI.tP v84 fun (b85 : Option Go.Addr) ↦
 Go.Value.pointer b72 = Go.Value.pointer b85 ∧
 Go.AI.ldc σ82 (Go.Addr.mk i8 (0 : Nat) Option.none) fun (v86 : Go.Value) ↦
 Go.AI.tP v86 fun (b87 : Option Go.Addr) ↦
 Go.Value.pointer b69 = Go.Value.pointer b87 ∧
 Go.AI.pSome b72 fun (a88 : Go.Addr) ↦
 Go.AI.put1 σ82 (Go.Addr.mk (Go.Addr.block a88) (Go.Addr.off a88 + (1 : Nat)) Option.none)
 (Go.Value.slice (Go.AI.Sl.a s83) (Go.AI.Sl.n s83) (1 : Nat)) fun (σ89 : Go.AI.AS) ↦
 Go.AI.ldc σ89 (Go.Addr.mk i8 (0 : Nat) Option.none) fun (v90 : Go.Value) ↦
 Go.AI.tP v90 fun (b91 : Option Go.Addr) ↦
 Go.AI.pSome b91 fun (a92 : Go.Addr) ↦
 Go.AI.ldc σ89 (Go.Addr.mk (Go.Addr.block a92) (Go.Addr.off a92 + (4 : Nat)) Option.none) fun (v93 : Go.Value) ↦
 Go.AI.tI Go.IntKind.u32 v93 fun (n94 : Int) ↦
 Go.AI.ldc σ89 (Go.Addr.mk i8 (0 : Nat) Option.none) fun (v95 : Go.Value) ↦
 Go.AI.tP v95 fun (b96 : Option Go.Addr) ↦
 Go.AI.pSome b96 fun (a97 : Go.Addr) ↦
 Go.AI.ldc σ89 (Go.Addr.mk (Go.Addr.block a97) (Go.Addr.off a97 + (5 : Nat)) Option.none) fun (v98 : Go.Value) ↦
 Go.AI.tI Go.IntKind.u32 v98 fun (n99 : Int) ↦
 K
 (Go.Value.tuple
 (Array.mk
 [Go.Value.int Go.IntKind.u32 n94, Go.Value.int Go.IntKind.u32 n99,
 Go.Value.slice Option.none (0 : Nat) (0 : Nat), Go.Value.int Go.IntKind.i64 (0 : Int)]))
 σ89)) := by
 intros
 kernel_rfl

end Go.AI
end
section
/- The conditions ahead of the calls of the program's functions, reckoned as far as they go (equations that the kernel checks); no condition. -/
set_option maxRecDepth 1000000
set_option linter.unusedVariables false
namespace Go.AI
open Go.Proofs
theorem s4 : ∀ (T : Go.AI.Ct) (ba : Option Go.Addr) (bn : Nat) (n : Int) (la : Option Go.Addr) (ln : Nat) (r3_1 : Bool) (σ : Go.AI.AS) (K : Go.Value → Go.AI.AS → Prop),
 Go.AI.fw Go.Proofs.Tryz.prog Go.AI.hintsS T (4 : Nat) [Go.Value.slice ba bn (1 : Nat), Go.Value.int Go.IntKind.u8 n, Go.Value.slice la ln (1 : Nat), Go.Value.bool r3_1] σ K =
 Go.AI.bmatch (Decidable.decide ((↑bn : Int) > (400 : Int))) (T (12 : Nat) [] σ fun (v0 : Go.Value) (σ1 : Go.AI.AS) ↦ Go.AI.tB v0 fun (b2 : Bool) ↦ K (Go.Value.bool b2) σ1)
 (Go.AI.bmatch (Decidable.decide ((↑ln : Int) > (400 : Int))) (T (12 : Nat) [] σ fun (v3 : Go.Value) (σ4 : Go.AI.AS) ↦ Go.AI.tB v3 fun (b5 : Bool) ↦ K (Go.Value.bool b5) σ4)
 (T (13 : Nat) [Go.Value.int Go.IntKind.i64 (20 : Int), Go.Value.int Go.IntKind.i64 (10 : Int), Go.Value.slice Option.none (0 : Nat) (0 : Nat)] σ fun (v6 : Go.Value) (σ7 : Go.AI.AS) ↦
 Go.AI.tTup v6 fun (l8 : List Go.Value) ↦
 Go.AI.pSome l8[(0 : Nat)]? fun (u9 : Go.Value) ↦
 Go.AI.tP u9 fun (b10 : Option Go.Addr) ↦
 Go.AI.tTup v6 fun (l11 : List Go.Value) ↦
 Go.AI.pSome l11[(1 : Nat)]? fun (u12 : Go.Value) ↦
 Go.AI.tI Go.IntKind.i64 u12 fun (n13 : Int) ↦
 T (14 : Nat) [] σ7 fun (v14 : Go.Value) (σ15 : Go.AI.AS) ↦
 Go.AI.tP v14 fun (b16 : Option Go.Addr) ↦
 T (15 : Nat) [Go.Value.int Go.IntKind.i64 n13] σ15 fun (v17 : Go.Value) (σ18 : Go.AI.AS) ↦
 Go.AI.tI Go.IntKind.i64 v17 fun (n19 : Int) ↦
 Go.AI.bmatch (n19 != (0 : Int)) (K (Go.Value.bool Bool.false) σ18)
 (Go.AI.ptrEq σ18 b10 Option.none fun (r20 : Bool) ↦
 Go.AI.bmatch r20 (K (Go.Value.bool Bool.false) σ18)
 (Go.AI.pSome b16 fun (a21 : Go.Addr) ↦
 Go.AI.ldc σ18 (Go.Addr.add a21 (0 : Nat)) fun (v22 : Go.Value) ↦
 Go.AI.tL (1 : Nat) v22 fun (s23 : Go.AI.Sl) ↦
 Go.AI.req ((100 : Int) ≤ (↑(Go.AI.Sl.n s23) : Int))
 (Go.AI.req ((↑(Go.AI.Sl.n s23) : Int) ≤ (↑(Go.AI.capLo σ18 (Go.AI.Sl.a s23) (Go.AI.szOf Go.Proofs.Tryz.prog (5 : Nat)) (Go.AI.Sl.n s23)) : Int))
 (Go.AI.srcCells σ18 (1 : Nat) (Option.some (Go.Value.slice ba bn (1 : Nat))) fun (m24 : Nat) (l25 : List Go.Value) ↦
 Go.AI.copyTo σ18 (1 : Nat) (Option.map (fun (x : Go.Addr) ↦ Go.AI.aadd x (Int.toNat (100 : Int) * Go.AI.szOf Go.Proofs.Tryz.prog (5 : Nat))) (Go.AI.Sl.a s23))
 (Int.toNat ((↑(Go.AI.Sl.n s23) : Int) - (100 : Int))) m24 l25 fun (r26 : Int) (σ27 : Go.AI.AS) ↦
 Go.AI.pSome b16 fun (a28 : Go.Addr) ↦
 Go.AI.ldc σ27 (Go.Addr.add a28 (0 : Nat)) fun (v29 : Go.Value) ↦
 Go.AI.tL (1 : Nat) v29 fun (s30 : Go.AI.Sl) ↦
 Go.AI.bts σ27 (Go.AI.Sl.mk (Go.AI.Sl.a s30) (Go.AI.Sl.n s30)) fun (l31 : List UInt8) ↦
 Go.AI.bmatch r3_1
 (Go.AI.newAt σ27
 (Go.AI.AObj.row Go.AI.RK.rw
 [Go.Value.int Go.IntKind.u32 (100 : Int),
 Go.Value.int Go.IntKind.u32 (Go.IntKind.wrap Go.IntKind.u32 (Int.tmod (Go.IntKind.wrap Go.IntKind.i64 n) (100 : Int))),
 Go.Value.int Go.IntKind.u32 (1 : Int), Go.Value.int Go.IntKind.u32 (5 : Int)])
 fun (i32 : Nat) (σ33 : Go.AI.AS) ↦
 T (16 : Nat)
 [Go.Value.pointer b10, Go.Value.iface (29 : Nat) (Go.Value.pointer b16), Go.Value.int Go.IntKind.u32 (313 : Int),
 Go.Value.slice (Option.some (Go.Addr.mk i32 (0 : Nat) Option.none)) (4 : Nat) (1 : Nat)]
 σ33 fun (v34 : Go.Value) (σ35 : Go.AI.AS) ↦
 Go.AI.tTup v34 fun (l36 : List Go.Value) ↦
 Go.AI.pSome l36[(0 : Nat)]? fun (u37 : Go.Value) ↦
 Go.AI.tI Go.IntKind.u32 u37 fun (n38 : Int) ↦
 Go.AI.tTup v34 fun (l39 : List Go.Value) ↦
 Go.AI.pSome l39[(1 : Nat)]? fun (u40 : Go.Value) ↦
 Go.AI.tI Go.IntKind.i64 u40 fun (n41 : Int) ↦
 Go.AI.ALoop
 (Go.AI.fl Go.Proofs.Tryz.prog Go.AI.hintsS T (4 : Nat)
 [Bool.true, Bool.true, Bool.true, Bool.true, Bool.true, Bool.true, Bool.true, Bool.true, Bool.true, Bool.true, Bool.true, Bool.false,
 Bool.true, Bool.false]
 [] K)
 [((2 : Nat), Option.some (Go.Value.slice la ln (1 : Nat))), ((9 : Nat), Option.some (Go.Value.pointer b10)),
 ((11 : Nat), Option.some (Go.Value.pointer b16)), ((12 : Nat), Option.some (Go.Value.string (ByteArray.mk (List.toArray l31)))),
 ((14 : Nat), Option.some (Go.Value.int Go.IntKind.i64 (4 : Int))),
 ((15 : Nat), Option.some (Go.Value.int Go.IntKind.u32 (4294967295 : Int))),
 ((16 : Nat), Option.some (Go.Value.int Go.IntKind.i64 (Int.tmod (Go.IntKind.wrap Go.IntKind.i64 n) (100 : Int)))),
 ((17 : Nat), Option.some (Go.Value.int Go.IntKind.u32 n38)), ((18 : Nat), Option.some (Go.Value.int Go.IntKind.i64 n41)),
 ((19 : Nat), Option.some (Go.Value.int Go.IntKind.i64 (0 : Int)))]
 σ35)
 (Go.AI.newAt σ27
 (Go.AI.AObj.row Go.AI.RK.rw
 [Go.Value.int Go.IntKind.u32 (100 : Int),
 Go.Value.int Go.IntKind.u32 (Go.IntKind.wrap Go.IntKind.u32 (Int.tmod (Go.IntKind.wrap Go.IntKind.i64 n) (100 : Int))),
 Go.Value.int Go.IntKind.u32 (1 : Int), Go.Value.int Go.IntKind.u32 (5 : Int)])
 fun (i42 : Nat) (σ43 : Go.AI.AS) ↦
 T (16 : Nat)
 [Go.Value.pointer b10, Go.Value.iface (29 : Nat) (Go.Value.pointer b16), Go.Value.int Go.IntKind.u32 (67 : Int),
 Go.Value.slice (Option.some (Go.Addr.mk i42 (0 : Nat) Option.none)) (4 : Nat) (1 : Nat)]
 σ43 fun (v44 : Go.Value) (σ45 : Go.AI.AS) ↦
 Go.AI.tTup v44 fun (l46 : List Go.Value) ↦
 Go.AI.pSome l46[(0 : Nat)]? fun (u47 : Go.Value) ↦
 Go.AI.tI Go.IntKind.u32 u47 fun (n48 : Int) ↦
 Go.AI.tTup v44 fun (l49 : List Go.Value) ↦
 Go.AI.pSome l49[(1 : Nat)]? fun (u50 : Go.Value) ↦
 Go.AI.tI Go.IntKind.i64 u50 fun (n51 : Int) ↦
 Go.AI.ALoop
 (Go.AI.fl Go.Proofs.Tryz.prog Go.AI.hintsS T (4 : Nat)
 [Bool.true, Bool.true, Bool.true, Bool.true, Bool.true, Bool.true, Bool.true, Bool.true, Bool.true, Bool.true, Bool.true, Bool.false,
 Bool.true, Bool.false]
 [] K)
 [((2 : Nat), Option.some (Go.Value.slice la ln (1 : Nat))), ((9 : Nat), Option.some (Go.Value.pointer b10)),
 ((11 : Nat), Option.some (Go.Value.pointer b16)), ((12 : Nat), Option.some (Go.Value.string (ByteArray.mk (List.toArray l31)))),
 ((14 : Nat), Option.some (Go.Value.int Go.IntKind.i64 (1 : Int))), ((15 : Nat), Option.some (Go.Value.int Go.IntKind.u32 (255 : Int))),
 ((16 : Nat), Option.some (Go.Value.int Go.IntKind.i64 (Int.tmod (Go.IntKind.wrap Go.IntKind.i64 n) (100 : Int)))),
 ((17 : Nat), Option.some (Go.Value.int Go.IntKind.u32 n48)), ((18 : Nat), Option.some (Go.Value.int Go.IntKind.i64 n51)),
 ((19 : Nat), Option.some (Go.Value.int Go.IntKind.i64 (0 : Int)))]
 σ45))))))) := by
 intros
 kernel_rfl

theorem s4l : ∀ (T : Go.AI.Ct) (la : Option Go.Addr) (ln le g m : Nat) (was : ByteArray) (unit most k s f i : Int) (X : Go.AI.Regs → Go.AI.AS → Prop) (σ : Go.AI.AS) (K : Go.Value → Go.AI.AS → Prop),
 Go.AI.fl Go.Proofs.Tryz.prog Go.AI.hintsS T (4 : Nat) [Bool.true, Bool.true, Bool.true, Bool.true, Bool.true, Bool.true, Bool.true, Bool.true, Bool.true, Bool.true, Bool.true, Bool.false, Bool.true, Bool.false] []
 K X
 [((2 : Nat), Option.some (Go.Value.slice la ln le)), ((9 : Nat), Option.some (Go.Value.pointer (Option.some (Go.Addr.mk g (0 : Nat) Option.none)))),
 ((11 : Nat), Option.some (Go.Value.pointer (Option.some (Go.Addr.mk m (0 : Nat) Option.none)))), ((12 : Nat), Option.some (Go.Value.string was)),
 ((14 : Nat), Option.some (Go.Value.int Go.IntKind.i64 unit)), ((15 : Nat), Option.some (Go.Value.int Go.IntKind.u32 most)), ((16 : Nat), Option.some (Go.Value.int Go.IntKind.i64 k)),
 ((17 : Nat), Option.some (Go.Value.int Go.IntKind.u32 s)), ((18 : Nat), Option.some (Go.Value.int Go.IntKind.i64 f)), ((19 : Nat), Option.some (Go.Value.int Go.IntKind.i64 i))]
 σ =
 Go.AI.bmatch (Decidable.decide (i < (↑ln : Int)))
 (Go.AI.req ((0 : Int) ≤ i)
 (Go.AI.req (i < (↑ln : Int))
 (Go.AI.pSome la fun (a0 : Go.Addr) ↦
 Go.AI.req (le = Go.AI.szOf Go.Proofs.Tryz.prog (32 : Nat))
 (Go.AI.ldc σ (Go.AI.aadd a0 (Int.toNat i * Go.AI.szOf Go.Proofs.Tryz.prog (32 : Nat))) fun (v1 : Go.Value) ↦
 Go.AI.tI Go.IntKind.u32 v1 fun (n2 : Int) ↦
 Go.AI.newAt σ (Go.AI.AObj.row Go.AI.RK.rw [Go.Value.int Go.IntKind.u32 s, Go.Value.int Go.IntKind.u32 n2]) fun (i3 : Nat) (σ4 : Go.AI.AS) ↦
 T (16 : Nat)
 [Go.Value.pointer (Option.some (Go.Addr.mk g (0 : Nat) Option.none)), Go.Value.iface (29 : Nat) (Go.Value.pointer (Option.some (Go.Addr.mk m (0 : Nat) Option.none))),
 Go.Value.int Go.IntKind.u32 (299 : Int), Go.Value.slice (Option.some (Go.Addr.mk i3 (0 : Nat) Option.none)) (2 : Nat) (1 : Nat)]
 σ4 fun (v5 : Go.Value) (σ6 : Go.AI.AS) ↦
 X
 [((2 : Nat), Option.some (Go.Value.slice la ln le)), ((9 : Nat), Option.some (Go.Value.pointer (Option.some (Go.Addr.mk g (0 : Nat) Option.none)))),
 ((11 : Nat), Option.some (Go.Value.pointer (Option.some (Go.Addr.mk m (0 : Nat) Option.none)))), ((12 : Nat), Option.some (Go.Value.string was)),
 ((14 : Nat), Option.some (Go.Value.int Go.IntKind.i64 unit)), ((15 : Nat), Option.some (Go.Value.int Go.IntKind.u32 most)), ((16 : Nat), Option.some (Go.Value.int Go.IntKind.i64 k)),
 ((17 : Nat), Option.some (Go.Value.int Go.IntKind.u32 s)), ((18 : Nat), Option.some (Go.Value.int Go.IntKind.i64 f)),
 ((19 : Nat), Option.some (Go.Value.int Go.IntKind.i64 (Go.IntKind.wrap Go.IntKind.i64 (i + (1 : Int)))))]
 σ6))))
 (T (15 : Nat) [Go.Value.int Go.IntKind.i64 f] σ fun (v7 : Go.Value) (σ8 : Go.AI.AS) ↦
 Go.AI.tI Go.IntKind.i64 v7 fun (n9 : Int) ↦
 Go.AI.bmatch (n9 != (0 : Int)) (K (Go.Value.bool Bool.false) σ8)
 (Go.AI.bmatch (s == (0 : Int)) (K (Go.Value.bool Bool.false) σ8)
 (Go.AI.ldc σ8 (Go.Addr.mk m (0 : Nat) Option.none) fun (v10 : Go.Value) ↦
 Go.AI.tL (1 : Nat) v10 fun (s11 : Go.AI.Sl) ↦
 Go.AI.bts σ8 (Go.AI.Sl.mk (Go.AI.Sl.a s11) (Go.AI.Sl.n s11)) fun (l12 : List UInt8) ↦
 Go.AI.bmatch (!Go.AI.strEq (ByteArray.mk (List.toArray l12)) was) (K (Go.Value.bool Bool.false) σ8)
 (Go.AI.newAt σ8 (Go.AI.AObj.row Go.AI.RK.rw [Go.Value.int Go.IntKind.u32 s, Go.Value.int Go.IntKind.u32 (4294967295 : Int)]) fun (i13 : Nat) (σ14 : Go.AI.AS) ↦
 T (16 : Nat)
 [Go.Value.pointer (Option.some (Go.Addr.mk g (0 : Nat) Option.none)), Go.Value.iface (29 : Nat) (Go.Value.pointer (Option.some (Go.Addr.mk m (0 : Nat) Option.none))),
 Go.Value.int Go.IntKind.u32 (68 : Int), Go.Value.slice (Option.some (Go.Addr.mk i13 (0 : Nat) Option.none)) (2 : Nat) (1 : Nat)]
 σ14 fun (v15 : Go.Value) (σ16 : Go.AI.AS) ↦
 Go.AI.ALoop
 (Go.AI.fl Go.Proofs.Tryz.prog Go.AI.hintsS T (4 : Nat)
 [Bool.true, Bool.true, Bool.true, Bool.true, Bool.true, Bool.true, Bool.true, Bool.true, Bool.true, Bool.true, Bool.true, Bool.true, Bool.true, Bool.true, Bool.false, Bool.true, Bool.false]
 [] K)
 [((2 : Nat), Option.some (Go.Value.slice la ln le)), ((11 : Nat), Option.some (Go.Value.pointer (Option.some (Go.Addr.mk m (0 : Nat) Option.none)))),
 ((12 : Nat), Option.some (Go.Value.string was)), ((14 : Nat), Option.some (Go.Value.int Go.IntKind.i64 unit)), ((15 : Nat), Option.some (Go.Value.int Go.IntKind.u32 most)),
 ((16 : Nat), Option.some (Go.Value.int Go.IntKind.i64 k)), ((20 : Nat), Option.some (Go.Value.int Go.IntKind.i64 (0 : Int)))]
 σ16)))) := by
 intros
 kernel_rfl

theorem s4l1 : ∀ (T : Go.AI.Ct) (la : Option Go.Addr) (ln le m : Nat) (was : ByteArray) (unit most k i : Int) (X : Go.AI.Regs → Go.AI.AS → Prop) (σ : Go.AI.AS) (K : Go.Value → Go.AI.AS → Prop),
 Go.AI.fl Go.Proofs.Tryz.prog Go.AI.hintsS T (4 : Nat)
 [Bool.true, Bool.true, Bool.true, Bool.true, Bool.true, Bool.true, Bool.true, Bool.true, Bool.true, Bool.true, Bool.true, Bool.true, Bool.true, Bool.true, Bool.false, Bool.true, Bool.false] [] K X
 [((2 : Nat), Option.some (Go.Value.slice la ln le)), ((11 : Nat), Option.some (Go.Value.pointer (Option.some (Go.Addr.mk m (0 : Nat) Option.none)))), ((12 : Nat), Option.some (Go.Value.string was)),
 ((14 : Nat), Option.some (Go.Value.int Go.IntKind.i64 unit)), ((15 : Nat), Option.some (Go.Value.int Go.IntKind.u32 most)), ((16 : Nat), Option.some (Go.Value.int Go.IntKind.i64 k)),
 ((20 : Nat), Option.some (Go.Value.int Go.IntKind.i64 i))]
 σ =
 Go.AI.bmatch (Decidable.decide (i < (↑ln : Int)))
 (Go.AI.bmatch (Decidable.decide (i < k))
 (Go.AI.ldc σ (Go.Addr.mk m (0 : Nat) Option.none) fun (v0 : Go.Value) ↦
 Go.AI.tL (1 : Nat) v0 fun (s1 : Go.AI.Sl) ↦
 T (20 : Nat)
 [Go.Value.slice (Go.AI.Sl.a s1) (Go.AI.Sl.n s1) (1 : Nat), Go.Value.int Go.IntKind.i64 (Go.IntKind.wrap Go.IntKind.i64 ((100 : Int) + Go.IntKind.wrap Go.IntKind.i64 (unit * i))),
 Go.Value.int Go.IntKind.i64 unit]
 σ fun (v2 : Go.Value) (σ3 : Go.AI.AS) ↦
 Go.AI.tTup v2 fun (l4 : List Go.Value) ↦
 Go.AI.pSome l4[(0 : Nat)]? fun (u5 : Go.Value) ↦
 Go.AI.tI Go.IntKind.u32 u5 fun (n6 : Int) ↦
 Go.AI.tTup v2 fun (l7 : List Go.Value) ↦
 Go.AI.pSome l7[(1 : Nat)]? fun (u8 : Go.Value) ↦
 Go.AI.tI Go.IntKind.i64 u8 fun (n9 : Int) ↦
 Go.AI.req ((0 : Int) ≤ i)
 (Go.AI.req (i < (↑ln : Int))
 (Go.AI.pSome la fun (a10 : Go.Addr) ↦
 Go.AI.req (le = Go.AI.szOf Go.Proofs.Tryz.prog (32 : Nat))
 (Go.AI.ldc σ3 (Go.AI.aadd a10 (Int.toNat i * Go.AI.szOf Go.Proofs.Tryz.prog (32 : Nat))) fun (v11 : Go.Value) ↦
 Go.AI.tI Go.IntKind.u32 v11 fun (n12 : Int) ↦
 Go.AI.bmatch (Decidable.decide (n12 > most))
 (Go.AI.bmatch (n6 != (63 : Int)) (K (Go.Value.bool Bool.false) σ3)
 (X
 [((2 : Nat), Option.some (Go.Value.slice la ln le)), ((11 : Nat), Option.some (Go.Value.pointer (Option.some (Go.Addr.mk m (0 : Nat) Option.none)))),
 ((12 : Nat), Option.some (Go.Value.string was)), ((14 : Nat), Option.some (Go.Value.int Go.IntKind.i64 unit)),
 ((15 : Nat), Option.some (Go.Value.int Go.IntKind.u32 most)), ((16 : Nat), Option.some (Go.Value.int Go.IntKind.i64 k)),
 ((20 : Nat), Option.some (Go.Value.int Go.IntKind.i64 (Go.IntKind.wrap Go.IntKind.i64 (i + (1 : Int)))))]
 σ3))
 (Go.AI.bmatch (n6 != n12) (K (Go.Value.bool Bool.false) σ3)
 (X
 [((2 : Nat), Option.some (Go.Value.slice la ln le)), ((11 : Nat), Option.some (Go.Value.pointer (Option.some (Go.Addr.mk m (0 : Nat) Option.none)))),
 ((12 : Nat), Option.some (Go.Value.string was)), ((14 : Nat), Option.some (Go.Value.int Go.IntKind.i64 unit)),
 ((15 : Nat), Option.some (Go.Value.int Go.IntKind.u32 most)), ((16 : Nat), Option.some (Go.Value.int Go.IntKind.i64 k)),
 ((20 : Nat), Option.some (Go.Value.int Go.IntKind.i64 (Go.IntKind.wrap Go.IntKind.i64 (i + (1 : Int)))))]
 σ3))))))
 (Go.AI.ldc σ (Go.Addr.mk m (0 : Nat) Option.none) fun (v13 : Go.Value) ↦
 Go.AI.tL (1 : Nat) v13 fun (s14 : Go.AI.Sl) ↦
 Go.AI.req ((100 : Int) ≤ (↑(Go.AI.capLo σ (Go.AI.Sl.a s14) (Go.AI.szOf Go.Proofs.Tryz.prog (5 : Nat)) (Go.AI.Sl.n s14)) : Int))
 (Go.AI.bts σ (Go.AI.Sl.mk (Option.map (fun (x : Go.Addr) ↦ Go.AI.aadd x (Int.toNat (0 : Int) * Go.AI.szOf Go.Proofs.Tryz.prog (5 : Nat))) (Go.AI.Sl.a s14)) (100 : Nat)) fun (l15 : List UInt8) ↦
 Go.AI.req ((100 : Int) ≤ (↑(ByteArray.size was) : Int))
 (Go.AI.bmatch (Go.AI.strEq (ByteArray.mk (List.toArray l15)) (ByteArray.extract was (Int.toNat (0 : Int)) (Int.toNat (100 : Int))))
 (Go.AI.ldc σ (Go.Addr.mk m (0 : Nat) Option.none) fun (v16 : Go.Value) ↦
 Go.AI.tL (1 : Nat) v16 fun (s17 : Go.AI.Sl) ↦
 Go.AI.req ((0 : Int) ≤ Go.IntKind.wrap Go.IntKind.i64 ((100 : Int) + Go.IntKind.wrap Go.IntKind.i64 (unit * Go.AI.imin (↑ln : Int) k)))
 (Go.AI.req (Go.IntKind.wrap Go.IntKind.i64 ((100 : Int) + Go.IntKind.wrap Go.IntKind.i64 (unit * Go.AI.imin (↑ln : Int) k)) ≤ (↑(Go.AI.Sl.n s17) : Int))
 (Go.AI.req ((↑(Go.AI.Sl.n s17) : Int) ≤ (↑(Go.AI.capLo σ (Go.AI.Sl.a s17) (Go.AI.szOf Go.Proofs.Tryz.prog (5 : Nat)) (Go.AI.Sl.n s17)) : Int))
 (Go.AI.bts σ
 (Go.AI.Sl.mk
 (Option.map
 (fun (x : Go.Addr) ↦
 Go.AI.aadd x
 (Int.toNat (Go.IntKind.wrap Go.IntKind.i64 ((100 : Int) + Go.IntKind.wrap Go.IntKind.i64 (unit * Go.AI.imin (↑ln : Int) k))) * Go.AI.szOf Go.Proofs.Tryz.prog (5 : Nat)))
 (Go.AI.Sl.a s17))
 (Int.toNat ((↑(Go.AI.Sl.n s17) : Int) - Go.IntKind.wrap Go.IntKind.i64 ((100 : Int) + Go.IntKind.wrap Go.IntKind.i64 (unit * Go.AI.imin (↑ln : Int) k)))))
 fun (l18 : List UInt8) ↦
 Go.AI.req ((0 : Int) ≤ Go.IntKind.wrap Go.IntKind.i64 ((100 : Int) + Go.IntKind.wrap Go.IntKind.i64 (unit * Go.AI.imin (↑ln : Int) k)))
 (Go.AI.req (Go.IntKind.wrap Go.IntKind.i64 ((100 : Int) + Go.IntKind.wrap Go.IntKind.i64 (unit * Go.AI.imin (↑ln : Int) k)) ≤ (↑(ByteArray.size was) : Int))
 (Go.AI.req ((↑(ByteArray.size was) : Int) ≤ (↑(ByteArray.size was) : Int))
 (Go.AI.bmatch
 (Go.AI.strEq (ByteArray.mk (List.toArray l18))
 (ByteArray.extract was (Int.toNat (Go.IntKind.wrap Go.IntKind.i64 ((100 : Int) + Go.IntKind.wrap Go.IntKind.i64 (unit * Go.AI.imin (↑ln : Int) k))))
 (Int.toNat (↑(ByteArray.size was) : Int))))
 (Go.AI.ldc σ (Go.Addr.mk m ((0 : Nat) + (1 : Nat)) Option.none) fun (v19 : Go.Value) ↦
 Go.AI.tL (1 : Nat) v19 fun (s20 : Go.AI.Sl) ↦
 Go.AI.newAt σ (Go.AI.AObj.row Go.AI.RK.rw [Go.Value.int Go.IntKind.u32 (0 : Int), Go.Value.int Go.IntKind.u32 (Go.IntKind.wrap Go.IntKind.u32 (↑ln : Int))])
 fun (i21 : Nat) (σ22 : Go.AI.AS) ↦
 Go.AI.ldc σ22 (Go.Addr.mk m ((0 : Nat) + (1 : Nat)) Option.none) fun (v23 : Go.Value) ↦
 Go.AI.tL (1 : Nat) v23 fun (s24 : Go.AI.Sl) ↦
 Go.Value.slice (Go.AI.Sl.a s20) (Go.AI.Sl.n s20) (Go.AI.szOf Go.Proofs.Tryz.prog (32 : Nat)) =
 Go.Value.slice (Go.AI.Sl.a s24) (Go.AI.Sl.n s24) (Go.AI.szOf Go.Proofs.Tryz.prog (32 : Nat)) ∧
 T (18 : Nat) [Go.Value.slice (Go.AI.Sl.a s20) (Go.AI.Sl.n s20) (1 : Nat), Go.Value.slice (Option.some (Go.Addr.mk i21 (0 : Nat) Option.none)) (2 : Nat) (1 : Nat)] σ22
 fun (v25 : Go.Value) (σ26 : Go.AI.AS) ↦
 Go.AI.tB v25 fun (b27 : Bool) ↦
 Go.AI.bmatch b27 (T (12 : Nat) [] σ26 fun (v28 : Go.Value) (σ29 : Go.AI.AS) ↦ Go.AI.tB v28 fun (b30 : Bool) ↦ K (Go.Value.bool b30) σ29)
 (K (Go.Value.bool Bool.false) σ26))
 (K (Go.Value.bool Bool.false) σ))))))))
 (K (Go.Value.bool Bool.false) σ)))))
 (Go.AI.ldc σ (Go.Addr.mk m (0 : Nat) Option.none) fun (v31 : Go.Value) ↦
 Go.AI.tL (1 : Nat) v31 fun (s32 : Go.AI.Sl) ↦
 Go.AI.req ((100 : Int) ≤ (↑(Go.AI.capLo σ (Go.AI.Sl.a s32) (Go.AI.szOf Go.Proofs.Tryz.prog (5 : Nat)) (Go.AI.Sl.n s32)) : Int))
 (Go.AI.bts σ (Go.AI.Sl.mk (Option.map (fun (x : Go.Addr) ↦ Go.AI.aadd x (Int.toNat (0 : Int) * Go.AI.szOf Go.Proofs.Tryz.prog (5 : Nat))) (Go.AI.Sl.a s32)) (100 : Nat)) fun (l33 : List UInt8) ↦
 Go.AI.req ((100 : Int) ≤ (↑(ByteArray.size was) : Int))
 (Go.AI.bmatch (Go.AI.strEq (ByteArray.mk (List.toArray l33)) (ByteArray.extract was (Int.toNat (0 : Int)) (Int.toNat (100 : Int))))
 (Go.AI.ldc σ (Go.Addr.mk m (0 : Nat) Option.none) fun (v34 : Go.Value) ↦
 Go.AI.tL (1 : Nat) v34 fun (s35 : Go.AI.Sl) ↦
 Go.AI.req ((0 : Int) ≤ Go.IntKind.wrap Go.IntKind.i64 ((100 : Int) + Go.IntKind.wrap Go.IntKind.i64 (unit * Go.AI.imin (↑ln : Int) k)))
 (Go.AI.req (Go.IntKind.wrap Go.IntKind.i64 ((100 : Int) + Go.IntKind.wrap Go.IntKind.i64 (unit * Go.AI.imin (↑ln : Int) k)) ≤ (↑(Go.AI.Sl.n s35) : Int))
 (Go.AI.req ((↑(Go.AI.Sl.n s35) : Int) ≤ (↑(Go.AI.capLo σ (Go.AI.Sl.a s35) (Go.AI.szOf Go.Proofs.Tryz.prog (5 : Nat)) (Go.AI.Sl.n s35)) : Int))
 (Go.AI.bts σ
 (Go.AI.Sl.mk
 (Option.map
 (fun (x : Go.Addr) ↦
 Go.AI.aadd x
 (Int.toNat (Go.IntKind.wrap Go.IntKind.i64 ((100 : Int) + Go.IntKind.wrap Go.IntKind.i64 (unit * Go.AI.imin (↑ln : Int) k))) * Go.AI.szOf Go.Proofs.Tryz.prog (5 : Nat)))
 (Go.AI.Sl.a s35))
 (Int.toNat ((↑(Go.AI.Sl.n s35) : Int) - Go.IntKind.wrap Go.IntKind.i64 ((100 : Int) + Go.IntKind.wrap Go.IntKind.i64 (unit * Go.AI.imin (↑ln : Int) k)))))
 fun (l36 : List UInt8) ↦
 Go.AI.req ((0 : Int) ≤ Go.IntKind.wrap Go.IntKind.i64 ((100 : Int) + Go.IntKind.wrap Go.IntKind.i64 (unit * Go.AI.imin (↑ln : Int) k)))
 (Go.AI.req (Go.IntKind.wrap Go.IntKind.i64 ((100 : Int) + Go.IntKind.wrap Go.IntKind.i64 (unit * Go.AI.imin (↑ln : Int) k)) ≤ (↑(ByteArray.size was) : Int))
 (Go.AI.req ((↑(ByteArray.size was) : Int) ≤ (↑(ByteArray.size was) : Int))
 (Go.AI.bmatch
 (Go.AI.strEq (ByteArray.mk (List.toArray l36))
 (ByteArray.extract was (Int.toNat (Go.IntKind.wrap Go.IntKind.i64 ((100 : Int) + Go.IntKind.wrap Go.IntKind.i64 (unit * Go.AI.imin (↑ln : Int) k))))
 (Int.toNat (↑(ByteArray.size was) : Int))))
 (Go.AI.ldc σ (Go.Addr.mk m ((0 : Nat) + (1 : Nat)) Option.none) fun (v37 : Go.Value) ↦
 Go.AI.tL (1 : Nat) v37 fun (s38 : Go.AI.Sl) ↦
 Go.AI.newAt σ (Go.AI.AObj.row Go.AI.RK.rw [Go.Value.int Go.IntKind.u32 (0 : Int), Go.Value.int Go.IntKind.u32 (Go.IntKind.wrap Go.IntKind.u32 (↑ln : Int))])
 fun (i39 : Nat) (σ40 : Go.AI.AS) ↦
 Go.AI.ldc σ40 (Go.Addr.mk m ((0 : Nat) + (1 : Nat)) Option.none) fun (v41 : Go.Value) ↦
 Go.AI.tL (1 : Nat) v41 fun (s42 : Go.AI.Sl) ↦
 Go.Value.slice (Go.AI.Sl.a s38) (Go.AI.Sl.n s38) (Go.AI.szOf Go.Proofs.Tryz.prog (32 : Nat)) =
 Go.Value.slice (Go.AI.Sl.a s42) (Go.AI.Sl.n s42) (Go.AI.szOf Go.Proofs.Tryz.prog (32 : Nat)) ∧
 T (18 : Nat) [Go.Value.slice (Go.AI.Sl.a s38) (Go.AI.Sl.n s38) (1 : Nat), Go.Value.slice (Option.some (Go.Addr.mk i39 (0 : Nat) Option.none)) (2 : Nat) (1 : Nat)] σ40
 fun (v43 : Go.Value) (σ44 : Go.AI.AS) ↦
 Go.AI.tB v43 fun (b45 : Bool) ↦
 Go.AI.bmatch b45 (T (12 : Nat) [] σ44 fun (v46 : Go.Value) (σ47 : Go.AI.AS) ↦ Go.AI.tB v46 fun (b48 : Bool) ↦ K (Go.Value.bool b48) σ47)
 (K (Go.Value.bool Bool.false) σ44))
 (K (Go.Value.bool Bool.false) σ))))))))
 (K (Go.Value.bool Bool.false) σ)))) := by
 intros
 kernel_rfl

theorem s97 : ∀ (T : Go.AI.Ct) (c : Nat) (unit : Int) (σ : Go.AI.AS) (K : Go.Value → Go.AI.AS → Prop),
 Go.AI.fw Go.Proofs.Tryz.prog Go.AI.hintsS T (97 : Nat) [Go.Value.pointer (Option.some (Go.Addr.mk c (0 : Nat) Option.none)), Go.Value.int Go.IntKind.i64 unit] σ K =
 Go.AI.ldc σ (Go.Addr.mk c ((0 : Nat) + (2 : Nat)) Option.none) fun (v0 : Go.Value) ↦
 Go.AI.tL (1 : Nat) v0 fun (s1 : Go.AI.Sl) ↦
 Go.AI.req ((0 : Int) < (↑(Go.AI.Sl.n s1) : Int))
 (Go.AI.pSome (Go.AI.Sl.a s1) fun (a2 : Go.Addr) ↦
 Go.AI.ldc σ (Go.AI.aadd a2 (Int.toNat (0 : Int) * Go.AI.szOf Go.Proofs.Tryz.prog (32 : Nat))) fun (v3 : Go.Value) ↦
 Go.AI.tI Go.IntKind.u32 v3 fun (n4 : Int) ↦
 Go.AI.ldc σ (Go.Addr.mk c ((0 : Nat) + (2 : Nat)) Option.none) fun (v5 : Go.Value) ↦
 Go.AI.tL (1 : Nat) v5 fun (s6 : Go.AI.Sl) ↦
 Go.AI.req ((1 : Int) < (↑(Go.AI.Sl.n s6) : Int))
 (Go.AI.pSome (Go.AI.Sl.a s6) fun (a7 : Go.Addr) ↦
 Go.AI.ldc σ (Go.AI.aadd a7 (Int.toNat (1 : Int) * Go.AI.szOf Go.Proofs.Tryz.prog (32 : Nat))) fun (v8 : Go.Value) ↦
 Go.AI.tI Go.IntKind.u32 v8 fun (n9 : Int) ↦
 Go.AI.ldc σ (Go.Addr.mk c ((0 : Nat) + (2 : Nat)) Option.none) fun (v10 : Go.Value) ↦
 Go.AI.tL (1 : Nat) v10 fun (s11 : Go.AI.Sl) ↦
 Go.AI.req ((2 : Int) < (↑(Go.AI.Sl.n s11) : Int))
 (Go.AI.pSome (Go.AI.Sl.a s11) fun (a12 : Go.Addr) ↦
 Go.AI.ldc σ (Go.AI.aadd a12 (Int.toNat (2 : Int) * Go.AI.szOf Go.Proofs.Tryz.prog (32 : Nat))) fun (v13 : Go.Value) ↦
 Go.AI.tI Go.IntKind.u32 v13 fun (n14 : Int) ↦
 Go.AI.bmatch (Decidable.decide (n9 > (4096 : Int))) (K (Go.Value.tuple (Array.mk [Go.Value.int Go.IntKind.u32 (0 : Int), Go.Value.int Go.IntKind.i64 (0 : Int)])) σ)
 (T (158 : Nat) [Go.Value.int Go.IntKind.u32 n4] σ fun (v15 : Go.Value) (σ16 : Go.AI.AS) ↦
 Go.AI.tB v15 fun (b17 : Bool) ↦
 Go.AI.bmatch b17
 (Go.AI.newAt σ16 (Go.AI.AObj.row Go.AI.RK.rw []) fun (i18 : Nat) (σ19 : Go.AI.AS) ↦
 Go.AI.ALoop (Go.AI.fl Go.Proofs.Tryz.prog Go.AI.hintsS T (97 : Nat) [Bool.true, Bool.true, Bool.true, Bool.true, Bool.true, Bool.false, Bool.true, Bool.false] [] K)
 [((0 : Nat), Option.some (Go.Value.pointer (Option.some (Go.Addr.mk c (0 : Nat) Option.none)))), ((1 : Nat), Option.some (Go.Value.int Go.IntKind.i64 unit)),
 ((6 : Nat), Option.some (Go.Value.int Go.IntKind.u32 n4)), ((8 : Nat), Option.some (Go.Value.int Go.IntKind.u32 n14)),
 ((9 : Nat), Option.some (Go.Value.slice (Option.some (Go.Addr.mk i18 (0 : Nat) Option.none)) (0 : Nat) (1 : Nat))),
 ((40 : Nat), Option.some (Go.Value.int Go.IntKind.i64 (0 : Int))), ((41 : Nat), Option.some (Go.Value.int Go.IntKind.i64 (0 : Int)))]
 σ19)
 (Go.AI.req ((0 : Int) ≤ n9)
 (Go.AI.req (n9 ≤ n9)
 (Go.AI.req (n9 * (↑(Go.AI.bytesOf Go.Proofs.Tryz.prog (32 : Nat)) : Int) ≤ (140737488355328 : Int))
 (Go.AI.newAt σ16 (Go.AI.AObj.row Go.AI.RK.rw (List.flatten (List.replicate (Int.toNat n9) (Go.AI.valCells (Go.Value.int Go.IntKind.u32 (0 : Int))))))
 fun (i20 : Nat) (σ21 : Go.AI.AS) ↦
 Go.AI.ALoop
 (Go.AI.fl Go.Proofs.Tryz.prog Go.AI.hintsS T (97 : Nat) [Bool.true, Bool.true, Bool.true, Bool.true, Bool.true, Bool.false, Bool.true, Bool.false] [] K)
 [((0 : Nat), Option.some (Go.Value.pointer (Option.some (Go.Addr.mk c (0 : Nat) Option.none)))), ((1 : Nat), Option.some (Go.Value.int Go.IntKind.i64 unit)),
 ((6 : Nat), Option.some (Go.Value.int Go.IntKind.u32 n4)), ((8 : Nat), Option.some (Go.Value.int Go.IntKind.u32 n14)),
 ((9 : Nat), Option.some (Go.Value.slice (Option.some (Go.Addr.mk i20 (0 : Nat) Option.none)) (Int.toNat n9) (1 : Nat))),
 ((40 : Nat), Option.some (Go.Value.int Go.IntKind.i64 (↑(Int.toNat n9) : Int))), ((41 : Nat), Option.some (Go.Value.int Go.IntKind.i64 (0 : Int)))]
 σ21)))))))) := by
 intros
 kernel_rfl

theorem s97l : ∀ (T : Go.AI.Ct) (c : Nat) (unit a mode : Int) (la : Option Go.Addr) (ln le : Nat) (r40_1 r41_1 : Int) (X : Go.AI.Regs → Go.AI.AS → Prop) (σ : Go.AI.AS) (K : Go.Value → Go.AI.AS → Prop),
 Go.AI.fl Go.Proofs.Tryz.prog Go.AI.hintsS T (97 : Nat) [Bool.true, Bool.true, Bool.true, Bool.true, Bool.true, Bool.false, Bool.true, Bool.false] [] K X
 [((0 : Nat), Option.some (Go.Value.pointer (Option.some (Go.Addr.mk c (0 : Nat) Option.none)))), ((1 : Nat), Option.some (Go.Value.int Go.IntKind.i64 unit)),
 ((6 : Nat), Option.some (Go.Value.int Go.IntKind.u32 a)), ((8 : Nat), Option.some (Go.Value.int Go.IntKind.u32 mode)), ((9 : Nat), Option.some (Go.Value.slice la ln le)),
 ((40 : Nat), Option.some (Go.Value.int Go.IntKind.i64 r40_1)), ((41 : Nat), Option.some (Go.Value.int Go.IntKind.i64 r41_1))]
 σ =
 Go.AI.bmatch (Decidable.decide (r41_1 < r40_1))
 (Go.AI.ldc σ (Go.Addr.mk c ((0 : Nat) + (1 : Nat)) Option.none) fun (v0 : Go.Value) ↦
 Go.AI.tIf v0
 (fun (t1 : Nat) (u2 : Go.Value) ↦
 Go.AI.pSome (Go.AI.methodOf Go.Proofs.Tryz.prog t1 "Get") fun (f3 : Go.FuncId) ↦
 T f3 [u2, Go.Value.int Go.IntKind.u32 (Go.IntKind.wrap Go.IntKind.u32 (a + Go.IntKind.wrap Go.IntKind.u32 (Go.IntKind.wrap Go.IntKind.i64 (r41_1 * unit)))), Go.Value.int Go.IntKind.i64 unit] σ
 fun (v4 : Go.Value) (σ5 : Go.AI.AS) ↦
 Go.AI.tTup v4 fun (l6 : List Go.Value) ↦
 Go.AI.pSome l6[(0 : Nat)]? fun (u7 : Go.Value) ↦
 Go.AI.tI Go.IntKind.u32 u7 fun (n8 : Int) ↦
 Go.AI.tTup v4 fun (l9 : List Go.Value) ↦
 Go.AI.pSome l9[(1 : Nat)]? fun (u10 : Go.Value) ↦
 Go.AI.tI Go.IntKind.i64 u10 fun (n11 : Int) ↦
 Go.AI.bmatch (n11 != (0 : Int)) (K (Go.Value.tuple (Array.mk [Go.Value.int Go.IntKind.u32 (0 : Int), Go.Value.int Go.IntKind.i64 n11])) σ5)
 (Go.AI.req ((0 : Int) ≤ r41_1)
 (Go.AI.req (r41_1 < (↑ln : Int))
 (Go.AI.pSome la fun (a12 : Go.Addr) ↦
 Go.AI.req (le = Go.AI.szOf Go.Proofs.Tryz.prog (32 : Nat))
 (Go.AI.put1 σ5 (Go.AI.aadd a12 (Int.toNat r41_1 * Go.AI.szOf Go.Proofs.Tryz.prog (32 : Nat))) (Go.Value.int Go.IntKind.u32 n8) fun (σ13 : Go.AI.AS) ↦
 X
 [((0 : Nat), Option.some (Go.Value.pointer (Option.some (Go.Addr.mk c (0 : Nat) Option.none)))), ((1 : Nat), Option.some (Go.Value.int Go.IntKind.i64 unit)),
 ((6 : Nat), Option.some (Go.Value.int Go.IntKind.u32 a)), ((8 : Nat), Option.some (Go.Value.int Go.IntKind.u32 mode)),
 ((9 : Nat), Option.some (Go.Value.slice la ln le)), ((40 : Nat), Option.some (Go.Value.int Go.IntKind.i64 r40_1)),
 ((41 : Nat), Option.some (Go.Value.int Go.IntKind.i64 (Go.IntKind.wrap Go.IntKind.i64 (r41_1 + (1 : Int)))))]
 σ13)))))
 False)
 (Go.AI.bmatch (Decidable.decide (mode > (3 : Int))) (K (Go.Value.tuple (Array.mk [Go.Value.int Go.IntKind.u32 (0 : Int), Go.Value.int Go.IntKind.i64 (0 : Int)])) σ)
 (Go.AI.ldc σ (Go.Addr.mk c (0 : Nat) Option.none) fun (v14 : Go.Value) ↦
 Go.AI.tP v14 fun (b15 : Option Go.Addr) ↦
 Go.AI.pSome b15 fun (a16 : Go.Addr) ↦
 Go.AI.ldc σ (Go.Addr.mk (Go.Addr.block a16) (Go.Addr.off a16 + (3 : Nat)) Option.none) fun (v17 : Go.Value) ↦
 Go.AI.tP v17 fun (b18 : Option Go.Addr) ↦
 T (159 : Nat) [Go.Value.pointer b18, Go.Value.slice la ln le, Go.Value.int Go.IntKind.i64 (Go.IntKind.wrap Go.IntKind.i64 mode), Go.Value.bool (unit == (4 : Int))] σ
 fun (v19 : Go.Value) (σ20 : Go.AI.AS) ↦
 Go.AI.tTup v19 fun (l21 : List Go.Value) ↦
 Go.AI.pSome l21[(0 : Nat)]? fun (u22 : Go.Value) ↦
 Go.AI.tI Go.IntKind.i64 u22 fun (n23 : Int) ↦
 Go.AI.tTup v19 fun (l24 : List Go.Value) ↦
 Go.AI.pSome l24[(1 : Nat)]? fun (u25 : Go.Value) ↦
 Go.AI.tI Go.IntKind.i64 u25 fun (n26 : Int) ↦
 Go.AI.bmatch (n26 != (0 : Int)) (K (Go.Value.tuple (Array.mk [Go.Value.int Go.IntKind.u32 (0 : Int), Go.Value.int Go.IntKind.i64 (0 : Int)])) σ20)
 (Go.AI.ldc σ20 (Go.Addr.mk c (0 : Nat) Option.none) fun (v27 : Go.Value) ↦
 Go.AI.tP v27 fun (b28 : Option Go.Addr) ↦
 Go.AI.ldc σ20 (Go.Addr.mk c ((0 : Nat) + (2 : Nat)) Option.none) fun (v29 : Go.Value) ↦
 Go.AI.tL (1 : Nat) v29 fun (s30 : Go.AI.Sl) ↦
 Go.AI.req ((3 : Int) < (↑(Go.AI.Sl.n s30) : Int))
 (Go.AI.pSome (Go.AI.Sl.a s30) fun (a31 : Go.Addr) ↦
 Go.AI.ldc σ20 (Go.AI.aadd a31 (Int.toNat (3 : Int) * Go.AI.szOf Go.Proofs.Tryz.prog (32 : Nat))) fun (v32 : Go.Value) ↦
 Go.AI.tI Go.IntKind.u32 v32 fun (n33 : Int) ↦
 Go.AI.newAt σ20
 (Go.AI.AObj.row Go.AI.RK.plain
 [Go.Value.int Go.IntKind.i64 (2 : Int), Go.Value.int Go.IntKind.u32 n33, Go.Value.int Go.IntKind.i64 (0 : Int), Go.Value.int Go.IntKind.u32 (0 : Int),
 Go.Value.int Go.IntKind.u32 (0 : Int), Go.Value.slice Option.none (0 : Nat) (0 : Nat), Go.Value.map Option.none, Go.Value.int Go.IntKind.u32 (0 : Int),
 Go.Value.int Go.IntKind.u32 (0 : Int), Go.Value.int Go.IntKind.i64 (0 : Int), Go.Value.int Go.IntKind.u32 (0 : Int), Go.Value.int Go.IntKind.u32 (0 : Int),
 Go.Value.int Go.IntKind.u32 (0 : Int), Go.Value.int Go.IntKind.i64 n23, Go.Value.int Go.IntKind.u32 a, Go.Value.int Go.IntKind.i64 unit,
 Go.Value.bool (mode != (2 : Int)), Go.Value.int Go.IntKind.u32 (0 : Int), Go.Value.string (ByteArray.mk #[])])
 fun (i34 : Nat) (σ35 : Go.AI.AS) ↦
 Go.AI.ldc σ35 (Go.Addr.mk c (0 : Nat) Option.none) fun (v36 : Go.Value) ↦
 Go.AI.tP v36 fun (b37 : Option Go.Addr) ↦
 Go.Value.pointer b28 = Go.Value.pointer b37 ∧
 T (157 : Nat) [Go.Value.pointer b28, Go.Value.pointer (Option.some (Go.Addr.mk i34 (0 : Nat) Option.none))] σ35 fun (v38 : Go.Value) (σ39 : Go.AI.AS) ↦
 Go.AI.tI Go.IntKind.u32 v38 fun (n40 : Int) ↦ K (Go.Value.tuple (Array.mk [Go.Value.int Go.IntKind.u32 n40, Go.Value.int Go.IntKind.i64 (0 : Int)])) σ39)))) := by
 intros
 kernel_rfl

theorem s100 : ∀ (T : Go.AI.Ct) (c s : Nat) (σ : Go.AI.AS) (K : Go.Value → Go.AI.AS → Prop),
 Go.AI.fw Go.Proofs.Tryz.prog Go.AI.hintsS T (100 : Nat) [Go.Value.pointer (Option.some (Go.Addr.mk c (0 : Nat) Option.none)), Go.Value.pointer (Option.some (Go.Addr.mk s (0 : Nat) Option.none))] σ K =
 Go.AI.ldc σ (Go.Addr.mk c (0 : Nat) Option.none) fun (v0 : Go.Value) ↦
 Go.AI.tP v0 fun (b1 : Option Go.Addr) ↦
 Go.AI.pSome b1 fun (a2 : Go.Addr) ↦
 Go.AI.ldc σ (Go.Addr.mk (Go.Addr.block a2) (Go.Addr.off a2 + (3 : Nat)) Option.none) fun (v3 : Go.Value) ↦
 Go.AI.tP v3 fun (b4 : Option Go.Addr) ↦
 Go.AI.ldc σ (Go.Addr.mk s ((0 : Nat) + (13 : Nat)) Option.none) fun (v5 : Go.Value) ↦
 Go.AI.tI Go.IntKind.i64 v5 fun (n6 : Int) ↦
 T (160 : Nat) [Go.Value.pointer b4, Go.Value.int Go.IntKind.i64 n6] σ fun (v7 : Go.Value) (σ8 : Go.AI.AS) ↦
 Go.AI.tTup v7 fun (l9 : List Go.Value) ↦
 Go.AI.pSome l9[(0 : Nat)]? fun (u10 : Go.Value) ↦
 Go.AI.tI Go.IntKind.u32 u10 fun (n11 : Int) ↦
 Go.AI.tTup v7 fun (l12 : List Go.Value) ↦
 Go.AI.pSome l12[(1 : Nat)]? fun (u13 : Go.Value) ↦
 Go.AI.tI Go.IntKind.u32 u13 fun (n14 : Int) ↦
 Go.AI.tTup v7 fun (l15 : List Go.Value) ↦
 Go.AI.pSome l15[(2 : Nat)]? fun (u16 : Go.Value) ↦
 Go.AI.tL (1 : Nat) u16 fun (s17 : Go.AI.Sl) ↦
 Go.AI.tTup v7 fun (l18 : List Go.Value) ↦
 Go.AI.pSome l18[(3 : Nat)]? fun (u19 : Go.Value) ↦
 Go.AI.tI Go.IntKind.i64 u19 fun (n20 : Int) ↦
 Go.AI.ldc σ8 (Go.Addr.mk c (0 : Nat) Option.none) fun (v21 : Go.Value) ↦
 Go.AI.tP v21 fun (b22 : Option Go.Addr) ↦
 Go.AI.pSome b22 fun (a23 : Go.Addr) ↦
 Go.AI.ldc σ8 (Go.Addr.mk (Go.Addr.block a23) (Go.Addr.off a23 + (1 : Nat)) Option.none) fun (v24 : Go.Value) ↦
 Go.AI.tM v24 fun (b25 : Option Nat) ↦
 Go.AI.ldc σ8 (Go.Addr.mk c ((0 : Nat) + (2 : Nat)) Option.none) fun (v26 : Go.Value) ↦
 Go.AI.tL (1 : Nat) v26 fun (s27 : Go.AI.Sl) ↦
 Go.AI.req ((0 : Int) < (↑(Go.AI.Sl.n s27) : Int))
 (Go.AI.pSome (Go.AI.Sl.a s27) fun (a28 : Go.Addr) ↦
 Go.AI.ldc σ8 (Go.AI.aadd a28 (Int.toNat (0 : Int) * Go.AI.szOf Go.Proofs.Tryz.prog (32 : Nat))) fun (v29 : Go.Value) ↦
 Go.AI.tI Go.IntKind.u32 v29 fun (n30 : Int) ↦
 Go.AI.pSome b25 fun (i31 : Nat) ↦
 Go.AI.mdel σ8 (Go.TypeDesc.int Go.IntKind.u32) i31 (Go.Value.int Go.IntKind.u32 n30) fun (σ32 : Go.AI.AS) ↦
 Go.AI.ldc σ32 (Go.Addr.mk c (0 : Nat) Option.none) fun (v33 : Go.Value) ↦
 Go.AI.tP v33 fun (b34 : Option Go.Addr) ↦
 Go.AI.pSome b34 fun (a35 : Go.Addr) ↦
 Go.AI.ldc σ32 (Go.Addr.mk (Go.Addr.block a35) (Go.Addr.off a35 + (6 : Nat)) Option.none) fun (v36 : Go.Value) ↦
 Go.AI.tI Go.IntKind.u32 v36 fun (n37 : Int) ↦
 Go.AI.ldc σ32 (Go.Addr.mk c ((0 : Nat) + (2 : Nat)) Option.none) fun (v38 : Go.Value) ↦
 Go.AI.tL (1 : Nat) v38 fun (s39 : Go.AI.Sl) ↦
 Go.AI.req ((0 : Int) < (↑(Go.AI.Sl.n s39) : Int))
 (Go.AI.pSome (Go.AI.Sl.a s39) fun (a40 : Go.Addr) ↦
 Go.AI.ldc σ32 (Go.AI.aadd a40 (Int.toNat (0 : Int) * Go.AI.szOf Go.Proofs.Tryz.prog (32 : Nat))) fun (v41 : Go.Value) ↦
 Go.AI.tI Go.IntKind.u32 v41 fun (n42 : Int) ↦
 Go.AI.bmatch (n37 == n42)
 (Go.AI.ldc σ32 (Go.Addr.mk c (0 : Nat) Option.none) fun (v43 : Go.Value) ↦
 Go.AI.tP v43 fun (b44 : Option Go.Addr) ↦
 Go.AI.pSome b44 fun (a45 : Go.Addr) ↦
 Go.AI.put1 σ32 (Go.Addr.mk (Go.Addr.block a45) (Go.Addr.off a45 + (6 : Nat)) Option.none)
 (Go.Value.int Go.IntKind.u32 (0 : Int)) fun (σ46 : Go.AI.AS) ↦
 Go.AI.ALoop
 (Go.AI.fl Go.Proofs.Tryz.prog Go.AI.hintsS T (100 : Nat)
 [Bool.true, Bool.true, Bool.true, Bool.true, Bool.false, Bool.true, Bool.false] [] K)
 [((0 : Nat), Option.some (Go.Value.pointer (Option.some (Go.Addr.mk c (0 : Nat) Option.none)))),
 ((1 : Nat), Option.some (Go.Value.pointer (Option.some (Go.Addr.mk s (0 : Nat) Option.none)))),
 ((6 : Nat), Option.some (Go.Value.int Go.IntKind.u32 n11)),
 ((7 : Nat), Option.some (Go.Value.int Go.IntKind.u32 n14)),
 ((63 : Nat), Option.some (Go.Value.slice (Go.AI.Sl.a s17) (Go.AI.Sl.n s17) (1 : Nat))),
 ((64 : Nat), Option.some (Go.Value.int Go.IntKind.i64 (↑(Go.AI.Sl.n s17) : Int))),
 ((65 : Nat), Option.some (Go.Value.int Go.IntKind.i64 (0 : Int)))]
 σ46)
 (Go.AI.ALoop
 (Go.AI.fl Go.Proofs.Tryz.prog Go.AI.hintsS T (100 : Nat)
 [Bool.true, Bool.true, Bool.true, Bool.true, Bool.false, Bool.true, Bool.false] [] K)
 [((0 : Nat), Option.some (Go.Value.pointer (Option.some (Go.Addr.mk c (0 : Nat) Option.none)))),
 ((1 : Nat), Option.some (Go.Value.pointer (Option.some (Go.Addr.mk s (0 : Nat) Option.none)))),
 ((6 : Nat), Option.some (Go.Value.int Go.IntKind.u32 n11)), ((7 : Nat), Option.some (Go.Value.int Go.IntKind.u32 n14)),
 ((63 : Nat), Option.some (Go.Value.slice (Go.AI.Sl.a s17) (Go.AI.Sl.n s17) (1 : Nat))),
 ((64 : Nat), Option.some (Go.Value.int Go.IntKind.i64 (↑(Go.AI.Sl.n s17) : Int))),
 ((65 : Nat), Option.some (Go.Value.int Go.IntKind.i64 (0 : Int)))]
 σ32))) := by
 intros
 kernel_rfl

theorem s100l : ∀ (T : Go.AI.Ct) (c s : Nat) (read written : Int) (r63a_1 : Option Go.Addr) (r63n_1 r63e_1 : Nat) (r64_1 r65_1 : Int) (X : Go.AI.Regs → Go.AI.AS → Prop) (σ : Go.AI.AS) (K : Go.Value → Go.AI.AS → Prop),
 Go.AI.fl Go.Proofs.Tryz.prog Go.AI.hintsS T (100 : Nat) [Bool.true, Bool.true, Bool.true, Bool.true, Bool.false, Bool.true, Bool.false] [] K X
 [((0 : Nat), Option.some (Go.Value.pointer (Option.some (Go.Addr.mk c (0 : Nat) Option.none)))), ((1 : Nat), Option.some (Go.Value.pointer (Option.some (Go.Addr.mk s (0 : Nat) Option.none)))),
 ((6 : Nat), Option.some (Go.Value.int Go.IntKind.u32 read)), ((7 : Nat), Option.some (Go.Value.int Go.IntKind.u32 written)), ((63 : Nat), Option.some (Go.Value.slice r63a_1 r63n_1 r63e_1)),
 ((64 : Nat), Option.some (Go.Value.int Go.IntKind.i64 r64_1)), ((65 : Nat), Option.some (Go.Value.int Go.IntKind.i64 r65_1))]
 σ =
 Go.AI.bmatch (Decidable.decide (r65_1 < r64_1))
 (Go.AI.req ((0 : Int) ≤ r65_1)
 (Go.AI.req (r65_1 < (↑r63n_1 : Int))
 (Go.AI.pSome r63a_1 fun (a0 : Go.Addr) ↦
 Go.AI.req (r63e_1 = Go.AI.szOf Go.Proofs.Tryz.prog (32 : Nat))
 (Go.AI.ldc σ (Go.AI.aadd a0 (Int.toNat r65_1 * Go.AI.szOf Go.Proofs.Tryz.prog (32 : Nat))) fun (v1 : Go.Value) ↦
 Go.AI.tI Go.IntKind.u32 v1 fun (n2 : Int) ↦
 Go.AI.ldc σ (Go.Addr.mk s ((0 : Nat) + (16 : Nat)) Option.none) fun (v3 : Go.Value) ↦
 Go.AI.tB v3 fun (b4 : Bool) ↦
 Go.AI.bmatch (!b4)
 (Go.AI.ldc σ (Go.Addr.mk c ((0 : Nat) + (2 : Nat)) Option.none) fun (v5 : Go.Value) ↦
 Go.AI.tL (1 : Nat) v5 fun (s6 : Go.AI.Sl) ↦
 Go.AI.req ((1 : Int) < (↑(Go.AI.Sl.n s6) : Int))
 (Go.AI.pSome (Go.AI.Sl.a s6) fun (a7 : Go.Addr) ↦
 Go.AI.ldc σ (Go.AI.aadd a7 (Int.toNat (1 : Int) * Go.AI.szOf Go.Proofs.Tryz.prog (32 : Nat))) fun (v8 : Go.Value) ↦
 Go.AI.tI Go.IntKind.u32 v8 fun (n9 : Int) ↦
 Go.AI.newAt σ (Go.AI.AObj.row Go.AI.RK.rw [Go.Value.int Go.IntKind.u32 read, Go.Value.int Go.IntKind.u32 written]) fun (i10 : Nat) (σ11 : Go.AI.AS) ↦
 T (92 : Nat)
 [Go.Value.pointer (Option.some (Go.Addr.mk c (0 : Nat) Option.none)), Go.Value.int Go.IntKind.u32 (0 : Int), Go.Value.int Go.IntKind.u32 n9,
 Go.Value.slice (Option.some (Go.Addr.mk i10 (0 : Nat) Option.none)) (2 : Nat) (1 : Nat)]
 σ11 fun (v12 : Go.Value) (σ13 : Go.AI.AS) ↦
 Go.AI.tTup v12 fun (l14 : List Go.Value) ↦
 Go.AI.pSome l14[(0 : Nat)]? fun (u15 : Go.Value) ↦
 Go.AI.tI Go.IntKind.u32 u15 fun (n16 : Int) ↦
 Go.AI.tTup v12 fun (l17 : List Go.Value) ↦
 Go.AI.pSome l17[(1 : Nat)]? fun (u18 : Go.Value) ↦
 Go.AI.tI Go.IntKind.i64 u18 fun (n19 : Int) ↦ K (Go.Value.tuple (Array.mk [Go.Value.int Go.IntKind.u32 n16, Go.Value.int Go.IntKind.i64 n19])) σ13))
 (Go.AI.ldc σ (Go.Addr.mk c ((0 : Nat) + (1 : Nat)) Option.none) fun (v20 : Go.Value) ↦
 Go.AI.tIf v20
 (fun (t21 : Nat) (u22 : Go.Value) ↦
 Go.AI.ldc σ (Go.Addr.mk s ((0 : Nat) + (14 : Nat)) Option.none) fun (v23 : Go.Value) ↦
 Go.AI.tI Go.IntKind.u32 v23 fun (n24 : Int) ↦
 Go.AI.ldc σ (Go.Addr.mk s ((0 : Nat) + (15 : Nat)) Option.none) fun (v25 : Go.Value) ↦
 Go.AI.tI Go.IntKind.i64 v25 fun (n26 : Int) ↦
 Go.AI.ldc σ (Go.Addr.mk s ((0 : Nat) + (15 : Nat)) Option.none) fun (v27 : Go.Value) ↦
 Go.AI.tI Go.IntKind.i64 v27 fun (n28 : Int) ↦
 Go.AI.pSome (Go.AI.methodOf Go.Proofs.Tryz.prog t21 "Set") fun (f29 : Go.FuncId) ↦
 T f29
 [u22, Go.Value.int Go.IntKind.u32 (Go.IntKind.wrap Go.IntKind.u32 (n24 + Go.IntKind.wrap Go.IntKind.u32 (Go.IntKind.wrap Go.IntKind.i64 (r65_1 * n26)))),
 Go.Value.int Go.IntKind.i64 n28, Go.Value.int Go.IntKind.u32 n2]
 σ fun (v30 : Go.Value) (σ31 : Go.AI.AS) ↦
 Go.AI.tI Go.IntKind.i64 v30 fun (n32 : Int) ↦
 Go.AI.bmatch (n32 != (0 : Int)) (K (Go.Value.tuple (Array.mk [Go.Value.int Go.IntKind.u32 (0 : Int), Go.Value.int Go.IntKind.i64 n32])) σ31)
 (X
 [((0 : Nat), Option.some (Go.Value.pointer (Option.some (Go.Addr.mk c (0 : Nat) Option.none)))),
 ((1 : Nat), Option.some (Go.Value.pointer (Option.some (Go.Addr.mk s (0 : Nat) Option.none)))), ((6 : Nat), Option.some (Go.Value.int Go.IntKind.u32 read)),
 ((7 : Nat), Option.some (Go.Value.int Go.IntKind.u32 written)), ((63 : Nat), Option.some (Go.Value.slice r63a_1 r63n_1 r63e_1)),
 ((64 : Nat), Option.some (Go.Value.int Go.IntKind.i64 r64_1)),
 ((65 : Nat), Option.some (Go.Value.int Go.IntKind.i64 (Go.IntKind.wrap Go.IntKind.i64 (r65_1 + (1 : Int)))))]
 σ31))
 (Go.AI.ldc σ (Go.Addr.mk s ((0 : Nat) + (14 : Nat)) Option.none) fun (v33 : Go.Value) ↦
 Go.AI.tI Go.IntKind.u32 v33 fun (n34 : Int) ↦
 Go.AI.ldc σ (Go.Addr.mk s ((0 : Nat) + (15 : Nat)) Option.none) fun (v35 : Go.Value) ↦
 Go.AI.tI Go.IntKind.i64 v35 fun (n36 : Int) ↦
 Go.AI.ldc σ (Go.Addr.mk s ((0 : Nat) + (15 : Nat)) Option.none) fun (v37 : Go.Value) ↦ Go.AI.tI Go.IntKind.i64 v37 fun (n38 : Int) ↦ False))))))
 (Go.AI.ldc σ (Go.Addr.mk c ((0 : Nat) + (2 : Nat)) Option.none) fun (v39 : Go.Value) ↦
 Go.AI.tL (1 : Nat) v39 fun (s40 : Go.AI.Sl) ↦
 Go.AI.req ((1 : Int) < (↑(Go.AI.Sl.n s40) : Int))
 (Go.AI.pSome (Go.AI.Sl.a s40) fun (a41 : Go.Addr) ↦
 Go.AI.ldc σ (Go.AI.aadd a41 (Int.toNat (1 : Int) * Go.AI.szOf Go.Proofs.Tryz.prog (32 : Nat))) fun (v42 : Go.Value) ↦
 Go.AI.tI Go.IntKind.u32 v42 fun (n43 : Int) ↦
 Go.AI.newAt σ (Go.AI.AObj.row Go.AI.RK.rw [Go.Value.int Go.IntKind.u32 read, Go.Value.int Go.IntKind.u32 written]) fun (i44 : Nat) (σ45 : Go.AI.AS) ↦
 T (92 : Nat)
 [Go.Value.pointer (Option.some (Go.Addr.mk c (0 : Nat) Option.none)), Go.Value.int Go.IntKind.u32 (0 : Int), Go.Value.int Go.IntKind.u32 n43,
 Go.Value.slice (Option.some (Go.Addr.mk i44 (0 : Nat) Option.none)) (2 : Nat) (1 : Nat)]
 σ45 fun (v46 : Go.Value) (σ47 : Go.AI.AS) ↦
 Go.AI.tTup v46 fun (l48 : List Go.Value) ↦
 Go.AI.pSome l48[(0 : Nat)]? fun (u49 : Go.Value) ↦
 Go.AI.tI Go.IntKind.u32 u49 fun (n50 : Int) ↦
 Go.AI.tTup v46 fun (l51 : List Go.Value) ↦
 Go.AI.pSome l51[(1 : Nat)]? fun (u52 : Go.Value) ↦
 Go.AI.tI Go.IntKind.i64 u52 fun (n53 : Int) ↦ K (Go.Value.tuple (Array.mk [Go.Value.int Go.IntKind.u32 n50, Go.Value.int Go.IntKind.i64 n53])) σ47)) := by
 intros
 kernel_rfl

end Go.AI
end
section
/- The conditions ahead of the calls of the program's functions, reckoned as far as they go (equations that the kernel checks); no condition. -/
set_option maxRecDepth 1000000
set_option linter.unusedVariables false
namespace Go.AI
open Go.Proofs
theorem s187 : ∀ (T : Go.AI.Ct) (x : Nat) (i c : Int) (σ : Go.AI.AS) (K : Go.Value → Go.AI.AS → Prop),
 Go.AI.fw Go.Proofs.Tryz.prog Go.AI.hintsS T (187 : Nat) [Go.Value.pointer (Option.some (Go.Addr.mk x (0 : Nat) Option.none)), Go.Value.int Go.IntKind.i64 i, Go.Value.int Go.IntKind.u32 c] σ K =
 Go.AI.ldc σ (Go.Addr.mk x ((0 : Nat) + (1 : Nat)) Option.none) fun (v0 : Go.Value) ↦
 Go.AI.tB v0 fun (b1 : Bool) ↦
 Go.AI.bmatch (!b1)
 (T (199 : Nat) [Go.Value.int Go.IntKind.u32 c] σ fun (v2 : Go.Value) (σ3 : Go.AI.AS) ↦
 Go.AI.tI Go.IntKind.u8 v2 fun (n4 : Int) ↦
 Go.AI.ldc σ3 (Go.Addr.mk x (0 : Nat) Option.none) fun (v5 : Go.Value) ↦
 Go.AI.tL (1 : Nat) v5 fun (s6 : Go.AI.Sl) ↦
 Go.AI.bmatch (Decidable.decide (i < (↑(Go.AI.Sl.n s6) : Int)))
 (Go.AI.ldc σ3 (Go.Addr.mk x (0 : Nat) Option.none) fun (v7 : Go.Value) ↦
 Go.AI.tL (1 : Nat) v7 fun (s8 : Go.AI.Sl) ↦
 Go.AI.req ((0 : Int) ≤ i)
 (Go.AI.req (i < (↑(Go.AI.Sl.n s8) : Int))
 (Go.AI.pSome (Go.AI.Sl.a s8) fun (a9 : Go.Addr) ↦
 Go.AI.put1 σ3 (Go.AI.aadd a9 (Int.toNat i * Go.AI.szOf Go.Proofs.Tryz.prog (32 : Nat))) (Go.Value.int Go.IntKind.u32 (Go.IntKind.wrap Go.IntKind.u32 n4)) fun (σ10 : Go.AI.AS) ↦
 K (Go.Value.tuple (Array.mk [])) σ10)))
 (K (Go.Value.tuple (Array.mk [])) σ3))
 (Go.AI.ldc σ (Go.Addr.mk x (0 : Nat) Option.none) fun (v11 : Go.Value) ↦
 Go.AI.tL (1 : Nat) v11 fun (s12 : Go.AI.Sl) ↦
 Go.AI.bmatch (Decidable.decide (i < (↑(Go.AI.Sl.n s12) : Int)))
 (Go.AI.ldc σ (Go.Addr.mk x (0 : Nat) Option.none) fun (v13 : Go.Value) ↦
 Go.AI.tL (1 : Nat) v13 fun (s14 : Go.AI.Sl) ↦
 Go.AI.req ((0 : Int) ≤ i)
 (Go.AI.req (i < (↑(Go.AI.Sl.n s14) : Int))
 (Go.AI.pSome (Go.AI.Sl.a s14) fun (a15 : Go.Addr) ↦
 Go.AI.put1 σ (Go.AI.aadd a15 (Int.toNat i * Go.AI.szOf Go.Proofs.Tryz.prog (32 : Nat))) (Go.Value.int Go.IntKind.u32 c) fun (σ16 : Go.AI.AS) ↦ K (Go.Value.tuple (Array.mk [])) σ16)))
 (K (Go.Value.tuple (Array.mk [])) σ)) := by
 intros
 kernel_rfl

theorem s185 : ∀ (T : Go.AI.Ct) (s x : Nat) (σ : Go.AI.AS) (K : Go.Value → Go.AI.AS → Prop),
 Go.AI.fw Go.Proofs.Tryz.prog Go.AI.hintsS T (185 : Nat) [Go.Value.pointer (Option.some (Go.Addr.mk s (0 : Nat) Option.none)), Go.Value.pointer (Option.some (Go.Addr.mk x (0 : Nat) Option.none))] σ K =
 Go.AI.ldc σ (Go.Addr.mk s ((0 : Nat) + (1 : Nat)) Option.none) fun (v0 : Go.Value) ↦
 Go.AI.tI Go.IntKind.i64 v0 fun (n1 : Int) ↦
 Go.AI.put1 σ (Go.Addr.mk s ((0 : Nat) + (1 : Nat)) Option.none) (Go.Value.int Go.IntKind.i64 (Go.IntKind.wrap Go.IntKind.i64 (n1 + (1 : Int)))) fun (σ2 : Go.AI.AS) ↦
 Go.AI.ldc σ2 (Go.Addr.mk s ((0 : Nat) + (3 : Nat)) Option.none) fun (v3 : Go.Value) ↦
 Go.AI.tM v3 fun (b4 : Option Nat) ↦
 Go.AI.ldc σ2 (Go.Addr.mk s ((0 : Nat) + (1 : Nat)) Option.none) fun (v5 : Go.Value) ↦
 Go.AI.tI Go.IntKind.i64 v5 fun (n6 : Int) ↦
 Go.AI.pSome b4 fun (i7 : Nat) ↦
 Go.AI.mset σ2 (Go.TypeDesc.int Go.IntKind.i64) i7 (Go.Value.int Go.IntKind.i64 n6) (Go.Value.pointer (Option.some (Go.Addr.mk x (0 : Nat) Option.none))) fun (σ8 : Go.AI.AS) ↦
 Go.AI.ldc σ8 (Go.Addr.mk s ((0 : Nat) + (1 : Nat)) Option.none) fun (v9 : Go.Value) ↦ Go.AI.tI Go.IntKind.i64 v9 fun (n10 : Int) ↦ K (Go.Value.int Go.IntKind.i64 n10) σ8 := by
 intros
 kernel_rfl

theorem s157 : ∀ (T : Go.AI.Ct) (g x : Nat) (σ : Go.AI.AS) (K : Go.Value → Go.AI.AS → Prop),
 Go.AI.fw Go.Proofs.Tryz.prog Go.AI.hintsS T (157 : Nat) [Go.Value.pointer (Option.some (Go.Addr.mk g (0 : Nat) Option.none)), Go.Value.pointer (Option.some (Go.Addr.mk x (0 : Nat) Option.none))] σ K =
 T (186 : Nat) [Go.Value.pointer (Option.some (Go.Addr.mk g (0 : Nat) Option.none)), Go.Value.int Go.IntKind.u32 (1 : Int)] σ fun (v0 : Go.Value) (σ1 : Go.AI.AS) ↦
 Go.AI.tI Go.IntKind.u32 v0 fun (n2 : Int) ↦
 Go.AI.ldc σ1 (Go.Addr.mk g ((0 : Nat) + (1 : Nat)) Option.none) fun (v3 : Go.Value) ↦
 Go.AI.tM v3 fun (b4 : Option Nat) ↦
 Go.AI.pSome b4 fun (i5 : Nat) ↦
 Go.AI.mset σ1 (Go.TypeDesc.int Go.IntKind.u32) i5 (Go.Value.int Go.IntKind.u32 n2) (Go.Value.pointer (Option.some (Go.Addr.mk x (0 : Nat) Option.none))) fun (σ6 : Go.AI.AS) ↦
 K (Go.Value.int Go.IntKind.u32 n2) σ6 := by
 intros
 kernel_rfl

theorem s158 : ∀ (T : Go.AI.Ct) (a : Int) (σ : Go.AI.AS) (K : Go.Value → Go.AI.AS → Prop),
 Go.AI.fw Go.Proofs.Tryz.prog Go.AI.hintsS T (158 : Nat) [Go.Value.int Go.IntKind.u32 a] σ K =
 Go.AI.bmatch (a == (0 : Int)) (K (Go.Value.bool Bool.true) σ) (K (Go.Value.bool (a == (4294967295 : Int))) σ) := by
 intros
 kernel_rfl

theorem s54 : ∀ (T : Go.AI.Ct) (g : Nat) (id sort : Int) (σ : Go.AI.AS) (K : Go.Value → Go.AI.AS → Prop),
 Go.AI.fw Go.Proofs.Tryz.prog Go.AI.hintsS T (54 : Nat) [Go.Value.pointer (Option.some (Go.Addr.mk g (0 : Nat) Option.none)), Go.Value.int Go.IntKind.u32 id, Go.Value.int Go.IntKind.i64 sort] σ K =
 Go.AI.ldc σ (Go.Addr.mk g ((0 : Nat) + (1 : Nat)) Option.none) fun (v0 : Go.Value) ↦
 Go.AI.tM v0 fun (b1 : Option Nat) ↦
 Go.AI.mget σ (Go.TypeDesc.int Go.IntKind.u32) b1 (Go.Value.int Go.IntKind.u32 id) fun (o2 : Option Go.Value) ↦
 Go.AI.tP (Option.getD o2 (Go.Value.pointer Option.none)) fun (b3 : Option Go.Addr) ↦
 Go.AI.ptrEq σ b3 Option.none fun (r4 : Bool) ↦
 Go.AI.bmatch (!r4)
 (Go.AI.pSome b3 fun (a5 : Go.Addr) ↦
 Go.AI.ldc σ (Go.Addr.add a5 (0 : Nat)) fun (v6 : Go.Value) ↦
 Go.AI.tI Go.IntKind.i64 v6 fun (n7 : Int) ↦ Go.AI.bmatch (n7 == sort) (K (Go.Value.pointer b3) σ) (K (Go.Value.pointer Option.none) σ))
 (K (Go.Value.pointer Option.none) σ) := by
 intros
 kernel_rfl

end Go.AI
end
section
/- The conditions ahead of the calls of the program's functions, reckoned as far as they go (equations that the kernel checks); no condition. -/
set_option maxRecDepth 1000000
set_option linter.unusedVariables false
namespace Go.AI
open Go.Proofs
theorem s16mem : ∀ (T : Go.AI.Ct) (g m ar : Nat) (σ : Go.AI.AS) (K : Go.Value → Go.AI.AS → Prop),
 Go.AI.fw Go.Proofs.Tryz.prog Go.AI.hintsS T (16 : Nat)
 [Go.Value.pointer (Option.some (Go.Addr.mk g (0 : Nat) Option.none)), Go.Value.iface (29 : Go.TypeId) (Go.Value.pointer (Option.some (Go.Addr.mk m (0 : Nat) Option.none))),
 Go.Value.int Go.IntKind.u32 (67 : Int), Go.Value.slice (Option.some (Go.Addr.mk ar (0 : Nat) Option.none)) (4 : Nat) (1 : Nat)]
 σ K =
 Go.AI.ldc σ (Go.Addr.mk g ((0 : Nat) + (7 : Nat)) Option.none) fun (v0 : Go.Value) ↦
 Go.AI.tB v0 fun (b1 : Bool) ↦
 Go.AI.bmatch b1 (K (Go.Value.tuple (Array.mk [Go.Value.int Go.IntKind.u32 (0 : Int), Go.Value.int Go.IntKind.i64 (160 : Int)])) σ)
 (T (46 : Nat) [Go.Value.int Go.IntKind.u32 (67 : Int)] σ fun (v2 : Go.Value) (σ3 : Go.AI.AS) ↦
 Go.AI.tI Go.IntKind.i64 v2 fun (n4 : Int) ↦
 Go.AI.bmatch (n4 != (↑(4 : Nat) : Int)) (K (Go.Value.tuple (Array.mk [Go.Value.int Go.IntKind.u32 (0 : Int), Go.Value.int Go.IntKind.i64 (162 : Int)])) σ3)
 (Go.AI.newAt σ3
 (Go.AI.AObj.row Go.AI.RK.plain
 [Go.Value.pointer (Option.some (Go.Addr.mk g (0 : Nat) Option.none)), Go.Value.iface (29 : Nat) (Go.Value.pointer (Option.some (Go.Addr.mk m (0 : Nat) Option.none))),
 Go.Value.slice (Option.some (Go.Addr.mk ar (0 : Nat) Option.none)) (4 : Nat) (1 : Nat)])
 fun (i5 : Nat) (σ6 : Go.AI.AS) ↦
 T (50 : Nat) [Go.Value.pointer (Option.some (Go.Addr.mk i5 (0 : Nat) Option.none)), Go.Value.int Go.IntKind.u32 (67 : Int)] σ6 fun (v7 : Go.Value) (σ8 : Go.AI.AS) ↦
 Go.AI.tTup v7 fun (l9 : List Go.Value) ↦
 Go.AI.pSome l9[(0 : Nat)]? fun (u10 : Go.Value) ↦
 Go.AI.tI Go.IntKind.u32 u10 fun (n11 : Int) ↦
 Go.AI.tTup v7 fun (l12 : List Go.Value) ↦
 Go.AI.pSome l12[(1 : Nat)]? fun (u13 : Go.Value) ↦
 Go.AI.tI Go.IntKind.i64 u13 fun (n14 : Int) ↦ K (Go.Value.tuple (Array.mk [Go.Value.int Go.IntKind.u32 n11, Go.Value.int Go.IntKind.i64 n14])) σ8)) := by
 intros
 kernel_rfl

theorem s16memw : ∀ (T : Go.AI.Ct) (g m ar : Nat) (σ : Go.AI.AS) (K : Go.Value → Go.AI.AS → Prop),
 Go.AI.fw Go.Proofs.Tryz.prog Go.AI.hintsS T (16 : Nat)
 [Go.Value.pointer (Option.some (Go.Addr.mk g (0 : Nat) Option.none)), Go.Value.iface (29 : Go.TypeId) (Go.Value.pointer (Option.some (Go.Addr.mk m (0 : Nat) Option.none))),
 Go.Value.int Go.IntKind.u32 (313 : Int), Go.Value.slice (Option.some (Go.Addr.mk ar (0 : Nat) Option.none)) (4 : Nat) (1 : Nat)]
 σ K =
 Go.AI.ldc σ (Go.Addr.mk g ((0 : Nat) + (7 : Nat)) Option.none) fun (v0 : Go.Value) ↦
 Go.AI.tB v0 fun (b1 : Bool) ↦
 Go.AI.bmatch b1 (K (Go.Value.tuple (Array.mk [Go.Value.int Go.IntKind.u32 (0 : Int), Go.Value.int Go.IntKind.i64 (160 : Int)])) σ)
 (T (46 : Nat) [Go.Value.int Go.IntKind.u32 (313 : Int)] σ fun (v2 : Go.Value) (σ3 : Go.AI.AS) ↦
 Go.AI.tI Go.IntKind.i64 v2 fun (n4 : Int) ↦
 Go.AI.bmatch (n4 != (↑(4 : Nat) : Int)) (K (Go.Value.tuple (Array.mk [Go.Value.int Go.IntKind.u32 (0 : Int), Go.Value.int Go.IntKind.i64 (162 : Int)])) σ3)
 (Go.AI.newAt σ3
 (Go.AI.AObj.row Go.AI.RK.plain
 [Go.Value.pointer (Option.some (Go.Addr.mk g (0 : Nat) Option.none)), Go.Value.iface (29 : Nat) (Go.Value.pointer (Option.some (Go.Addr.mk m (0 : Nat) Option.none))),
 Go.Value.slice (Option.some (Go.Addr.mk ar (0 : Nat) Option.none)) (4 : Nat) (1 : Nat)])
 fun (i5 : Nat) (σ6 : Go.AI.AS) ↦
 T (50 : Nat) [Go.Value.pointer (Option.some (Go.Addr.mk i5 (0 : Nat) Option.none)), Go.Value.int Go.IntKind.u32 (313 : Int)] σ6 fun (v7 : Go.Value) (σ8 : Go.AI.AS) ↦
 Go.AI.tTup v7 fun (l9 : List Go.Value) ↦
 Go.AI.pSome l9[(0 : Nat)]? fun (u10 : Go.Value) ↦
 Go.AI.tI Go.IntKind.u32 u10 fun (n11 : Int) ↦
 Go.AI.tTup v7 fun (l12 : List Go.Value) ↦
 Go.AI.pSome l12[(1 : Nat)]? fun (u13 : Go.Value) ↦
 Go.AI.tI Go.IntKind.i64 u13 fun (n14 : Int) ↦ K (Go.Value.tuple (Array.mk [Go.Value.int Go.IntKind.u32 n11, Go.Value.int Go.IntKind.i64 n14])) σ8)) := by
 intros
 kernel_rfl

theorem s16cl : ∀ (T : Go.AI.Ct) (g m ar : Nat) (σ : Go.AI.AS) (K : Go.Value → Go.AI.AS → Prop),
 Go.AI.fw Go.Proofs.Tryz.prog Go.AI.hintsS T (16 : Nat)
 [Go.Value.pointer (Option.some (Go.Addr.mk g (0 : Nat) Option.none)), Go.Value.iface (29 : Go.TypeId) (Go.Value.pointer (Option.some (Go.Addr.mk m (0 : Nat) Option.none))),
 Go.Value.int Go.IntKind.u32 (68 : Int), Go.Value.slice (Option.some (Go.Addr.mk ar (0 : Nat) Option.none)) (2 : Nat) (1 : Nat)]
 σ K =
 Go.AI.ldc σ (Go.Addr.mk g ((0 : Nat) + (7 : Nat)) Option.none) fun (v0 : Go.Value) ↦
 Go.AI.tB v0 fun (b1 : Bool) ↦
 Go.AI.bmatch b1 (K (Go.Value.tuple (Array.mk [Go.Value.int Go.IntKind.u32 (0 : Int), Go.Value.int Go.IntKind.i64 (160 : Int)])) σ)
 (T (46 : Nat) [Go.Value.int Go.IntKind.u32 (68 : Int)] σ fun (v2 : Go.Value) (σ3 : Go.AI.AS) ↦
 Go.AI.tI Go.IntKind.i64 v2 fun (n4 : Int) ↦
 Go.AI.bmatch (n4 != (↑(2 : Nat) : Int)) (K (Go.Value.tuple (Array.mk [Go.Value.int Go.IntKind.u32 (0 : Int), Go.Value.int Go.IntKind.i64 (162 : Int)])) σ3)
 (Go.AI.newAt σ3
 (Go.AI.AObj.row Go.AI.RK.plain
 [Go.Value.pointer (Option.some (Go.Addr.mk g (0 : Nat) Option.none)), Go.Value.iface (29 : Nat) (Go.Value.pointer (Option.some (Go.Addr.mk m (0 : Nat) Option.none))),
 Go.Value.slice (Option.some (Go.Addr.mk ar (0 : Nat) Option.none)) (2 : Nat) (1 : Nat)])
 fun (i5 : Nat) (σ6 : Go.AI.AS) ↦
 T (50 : Nat) [Go.Value.pointer (Option.some (Go.Addr.mk i5 (0 : Nat) Option.none)), Go.Value.int Go.IntKind.u32 (68 : Int)] σ6 fun (v7 : Go.Value) (σ8 : Go.AI.AS) ↦
 Go.AI.tTup v7 fun (l9 : List Go.Value) ↦
 Go.AI.pSome l9[(0 : Nat)]? fun (u10 : Go.Value) ↦
 Go.AI.tI Go.IntKind.u32 u10 fun (n11 : Int) ↦
 Go.AI.tTup v7 fun (l12 : List Go.Value) ↦
 Go.AI.pSome l12[(1 : Nat)]? fun (u13 : Go.Value) ↦
 Go.AI.tI Go.IntKind.i64 u13 fun (n14 : Int) ↦ K (Go.Value.tuple (Array.mk [Go.Value.int Go.IntKind.u32 n11, Go.Value.int Go.IntKind.i64 n14])) σ8)) := by
 intros
 kernel_rfl

theorem s50mem : ∀ (T : Go.AI.Ct) (c : Nat) (σ : Go.AI.AS) (K : Go.Value → Go.AI.AS → Prop),
 Go.AI.fw Go.Proofs.Tryz.prog Go.AI.hintsS T (50 : Nat) [Go.Value.pointer (Option.some (Go.Addr.mk c (0 : Nat) Option.none)), Go.Value.int Go.IntKind.u32 (67 : Int)] σ K =
 T (97 : Nat) [Go.Value.pointer (Option.some (Go.Addr.mk c (0 : Nat) Option.none)), Go.Value.int Go.IntKind.i64 (1 : Int)] σ fun (v0 : Go.Value) (σ1 : Go.AI.AS) ↦
 Go.AI.tTup v0 fun (l2 : List Go.Value) ↦
 Go.AI.pSome l2[(0 : Nat)]? fun (u3 : Go.Value) ↦
 Go.AI.tI Go.IntKind.u32 u3 fun (n4 : Int) ↦
 Go.AI.tTup v0 fun (l5 : List Go.Value) ↦
 Go.AI.pSome l5[(1 : Nat)]? fun (u6 : Go.Value) ↦ Go.AI.tI Go.IntKind.i64 u6 fun (n7 : Int) ↦ K (Go.Value.tuple (Array.mk [Go.Value.int Go.IntKind.u32 n4, Go.Value.int Go.IntKind.i64 n7])) σ1 := by
 intros
 kernel_rfl

theorem s50memw : ∀ (T : Go.AI.Ct) (c : Nat) (σ : Go.AI.AS) (K : Go.Value → Go.AI.AS → Prop),
 Go.AI.fw Go.Proofs.Tryz.prog Go.AI.hintsS T (50 : Nat) [Go.Value.pointer (Option.some (Go.Addr.mk c (0 : Nat) Option.none)), Go.Value.int Go.IntKind.u32 (313 : Int)] σ K =
 T (97 : Nat) [Go.Value.pointer (Option.some (Go.Addr.mk c (0 : Nat) Option.none)), Go.Value.int Go.IntKind.i64 (4 : Int)] σ fun (v0 : Go.Value) (σ1 : Go.AI.AS) ↦
 Go.AI.tTup v0 fun (l2 : List Go.Value) ↦
 Go.AI.pSome l2[(0 : Nat)]? fun (u3 : Go.Value) ↦
 Go.AI.tI Go.IntKind.u32 u3 fun (n4 : Int) ↦
 Go.AI.tTup v0 fun (l5 : List Go.Value) ↦
 Go.AI.pSome l5[(1 : Nat)]? fun (u6 : Go.Value) ↦ Go.AI.tI Go.IntKind.i64 u6 fun (n7 : Int) ↦ K (Go.Value.tuple (Array.mk [Go.Value.int Go.IntKind.u32 n4, Go.Value.int Go.IntKind.i64 n7])) σ1 := by
 intros
 kernel_rfl

theorem s50cl : ∀ (T : Go.AI.Ct) (c : Nat) (σ : Go.AI.AS) (K : Go.Value → Go.AI.AS → Prop),
 Go.AI.fw Go.Proofs.Tryz.prog Go.AI.hintsS T (50 : Nat) [Go.Value.pointer (Option.some (Go.Addr.mk c (0 : Nat) Option.none)), Go.Value.int Go.IntKind.u32 (68 : Int)] σ K =
 Go.AI.ldc σ (Go.Addr.mk c (0 : Nat) Option.none) fun (v0 : Go.Value) ↦
 Go.AI.tP v0 fun (b1 : Option Go.Addr) ↦
 Go.AI.ldc σ (Go.Addr.mk c ((0 : Nat) + (2 : Nat)) Option.none) fun (v2 : Go.Value) ↦
 Go.AI.tL (1 : Nat) v2 fun (s3 : Go.AI.Sl) ↦
 Go.AI.req ((0 : Int) < (↑(Go.AI.Sl.n s3) : Int))
 (Go.AI.pSome (Go.AI.Sl.a s3) fun (a4 : Go.Addr) ↦
 Go.AI.ldc σ (Go.AI.aadd a4 (Int.toNat (0 : Int) * Go.AI.szOf Go.Proofs.Tryz.prog (32 : Nat))) fun (v5 : Go.Value) ↦
 Go.AI.tI Go.IntKind.u32 v5 fun (n6 : Int) ↦
 T (54 : Nat) [Go.Value.pointer b1, Go.Value.int Go.IntKind.u32 n6, Go.Value.int Go.IntKind.i64 (2 : Int)] σ fun (v7 : Go.Value) (σ8 : Go.AI.AS) ↦
 Go.AI.tP v7 fun (b9 : Option Go.Addr) ↦
 Go.AI.ptrEq σ8 b9 Option.none fun (r10 : Bool) ↦
 Go.AI.bmatch r10 (K (Go.Value.tuple (Array.mk [Go.Value.int Go.IntKind.u32 (0 : Int), Go.Value.int Go.IntKind.i64 (0 : Int)])) σ8)
 (Go.AI.pSome b9 fun (a11 : Go.Addr) ↦
 Go.AI.ldc σ8 (Go.Addr.mk (Go.Addr.block a11) (Go.Addr.off a11 + (12 : Nat)) Option.none) fun (v12 : Go.Value) ↦
 Go.AI.tI Go.IntKind.u32 v12 fun (n13 : Int) ↦
 Go.AI.bmatch (n13 != (0 : Int)) (K (Go.Value.tuple (Array.mk [Go.Value.int Go.IntKind.u32 (0 : Int), Go.Value.int Go.IntKind.i64 (0 : Int)])) σ8)
 (T (100 : Nat) [Go.Value.pointer (Option.some (Go.Addr.mk c (0 : Nat) Option.none)), Go.Value.pointer b9] σ8 fun (v14 : Go.Value) (σ15 : Go.AI.AS) ↦
 Go.AI.tTup v14 fun (l16 : List Go.Value) ↦
 Go.AI.pSome l16[(0 : Nat)]? fun (u17 : Go.Value) ↦
 Go.AI.tI Go.IntKind.u32 u17 fun (n18 : Int) ↦
 Go.AI.tTup v14 fun (l19 : List Go.Value) ↦
 Go.AI.pSome l19[(1 : Nat)]? fun (u20 : Go.Value) ↦
 Go.AI.tI Go.IntKind.i64 u20 fun (n21 : Int) ↦ K (Go.Value.tuple (Array.mk [Go.Value.int Go.IntKind.u32 n18, Go.Value.int Go.IntKind.i64 n21])) σ15))) := by
 intros
 kernel_rfl

theorem s46mem : ∀ (T : Go.AI.Ct) (σ : Go.AI.AS) (K : Go.Value → Go.AI.AS → Prop),
 Go.AI.fw Go.Proofs.Tryz.prog Go.AI.hintsS T (46 : Nat) [Go.Value.int Go.IntKind.u32 (67 : Int)] σ K = K (Go.Value.int Go.IntKind.i64 (4 : Int)) σ := by
 intros
 kernel_rfl

end Go.AI
end
