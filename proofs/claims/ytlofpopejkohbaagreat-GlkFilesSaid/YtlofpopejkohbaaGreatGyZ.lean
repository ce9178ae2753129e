/- Lemmas of the abstract condition ahead of code (a part of the library that the claim's proof stands on); they hold with no condition but those that each names. -/
import Derived.Test.YtlofpopejkohbaaGreatGkZh
import Derived.Test.YtlofpopejkohbaaGreatAIJoin
section
/- The conditions ahead of the calls of the program's functions, reckoned as far as they go (equations that the kernel checks); no condition. -/
set_option maxRecDepth 1000000
set_option linter.unusedVariables false
namespace Go.AI
open Go.Proofs
theorem z187 : ∀ (T : Go.AI.Ct) (x : Nat) (i c : Int) (σ : Go.AI.AS) (K : Go.Value → Go.AI.AS → Prop),
 Go.AI.fw Go.Proofs.Tryz.prog Go.AI.hintsZ T (187 : Nat) [Go.Value.pointer (Option.some (Go.Addr.mk x (0 : Nat) Option.none)), Go.Value.int Go.IntKind.i64 i, Go.Value.int Go.IntKind.u32 c] σ K =
 Go.AI.ldc σ (Go.Addr.mk x ((0 : Nat) + (1 : Nat)) Option.none) fun (v0 : Go.Value) ↦
 Go.AI.tB v0 fun (b1 : Bool) ↦
 Go.AI.bmatch (!b1)
 (T (199 : Nat) [Go.Value.int Go.IntKind.u32 c] σ fun (v2 : Go.Value) (σ3 : Go.AI.AS) ↦
 Go.AI.tI Go.IntKind.u8 v2 fun (n4 : Int) ↦
 Go.AI.JoinS (Go.AI.jn Go.Proofs.Tryz.prog Go.AI.hintsZ T (187 : Nat) [] [] K)
 [((0 : Nat), Option.some (Go.Value.pointer (Option.some (Go.Addr.mk x (0 : Nat) Option.none)))), ((1 : Nat), Option.some (Go.Value.int Go.IntKind.i64 i)),
 ((2 : Nat), Option.some (Go.Value.int Go.IntKind.u32 (Go.IntKind.wrap Go.IntKind.u32 n4)))]
 σ3)
 (Go.AI.JoinS (Go.AI.jn Go.Proofs.Tryz.prog Go.AI.hintsZ T (187 : Nat) [] [] K)
 [((0 : Nat), Option.some (Go.Value.pointer (Option.some (Go.Addr.mk x (0 : Nat) Option.none)))), ((1 : Nat), Option.some (Go.Value.int Go.IntKind.i64 i)),
 ((2 : Nat), Option.some (Go.Value.int Go.IntKind.u32 c))]
 σ) := by
 intros
 kernel_rfl

theorem z187j : ∀ (T : Go.AI.Ct) (x : Nat) (i c : Int) (σ : Go.AI.AS) (K : Go.Value → Go.AI.AS → Prop),
 Go.AI.jn Go.Proofs.Tryz.prog Go.AI.hintsZ T (187 : Nat) [] [] K
 [((0 : Nat), Option.some (Go.Value.pointer (Option.some (Go.Addr.mk x (0 : Nat) Option.none)))), ((1 : Nat), Option.some (Go.Value.int Go.IntKind.i64 i)),
 ((2 : Nat), Option.some (Go.Value.int Go.IntKind.u32 c))]
 σ =
 Go.AI.ldc σ (Go.Addr.mk x (0 : Nat) Option.none) fun (v0 : Go.Value) ↦
 Go.AI.tL (1 : Nat) v0 fun (s1 : Go.AI.Sl) ↦
 Go.AI.bmatch (Decidable.decide (i < (↑(Go.AI.Sl.n s1) : Int)))
 (Go.AI.ldc σ (Go.Addr.mk x (0 : Nat) Option.none) fun (v2 : Go.Value) ↦
 Go.AI.tL (1 : Nat) v2 fun (s3 : Go.AI.Sl) ↦
 Go.AI.req ((0 : Int) ≤ i)
 (Go.AI.req (i < (↑(Go.AI.Sl.n s3) : Int))
 (Go.AI.pSome (Go.AI.Sl.a s3) fun (a4 : Go.Addr) ↦
 Go.AI.put1 σ (Go.AI.aadd a4 (Int.toNat i * Go.AI.szOf Go.Proofs.Tryz.prog (32 : Nat))) (Go.Value.int Go.IntKind.u32 c) fun (σ5 : Go.AI.AS) ↦ K (Go.Value.tuple (Array.mk [])) σ5)))
 (K (Go.Value.tuple (Array.mk [])) σ) := by
 intros
 kernel_rfl

theorem z265 : ∀ (T : Go.AI.Ct) (x : Nat) (σ : Go.AI.AS) (K : Go.Value → Go.AI.AS → Prop),
 Go.AI.fw Go.Proofs.Tryz.prog Go.AI.hintsZ T (265 : Nat) [Go.Value.pointer (Option.some (Go.Addr.mk x (0 : Nat) Option.none))] σ K =
 Go.AI.ldc σ (Go.Addr.mk x (0 : Nat) Option.none) fun (v0 : Go.Value) ↦ Go.AI.tL (1 : Nat) v0 fun (s1 : Go.AI.Sl) ↦ K (Go.Value.int Go.IntKind.i64 (↑(Go.AI.Sl.n s1) : Int)) σ := by
 intros
 kernel_rfl

theorem z263 : ∀ (T : Go.AI.Ct) (x : Nat) (i : Int) (σ : Go.AI.AS) (K : Go.Value → Go.AI.AS → Prop),
 Go.AI.fw Go.Proofs.Tryz.prog Go.AI.hintsZ T (263 : Nat) [Go.Value.pointer (Option.some (Go.Addr.mk x (0 : Nat) Option.none)), Go.Value.int Go.IntKind.i64 i] σ K =
 Go.AI.ldc σ (Go.Addr.mk x (0 : Nat) Option.none) fun (v0 : Go.Value) ↦
 Go.AI.tL (1 : Nat) v0 fun (s1 : Go.AI.Sl) ↦
 Go.AI.req ((0 : Int) ≤ i)
 (Go.AI.req (i < (↑(Go.AI.Sl.n s1) : Int))
 (Go.AI.pSome (Go.AI.Sl.a s1) fun (a2 : Go.Addr) ↦
 Go.AI.ldc σ (Go.AI.aadd a2 (Int.toNat i * Go.AI.szOf Go.Proofs.Tryz.prog (32 : Nat))) fun (v3 : Go.Value) ↦ Go.AI.tI Go.IntKind.u32 v3 fun (n4 : Int) ↦ K (Go.Value.int Go.IntKind.u32 n4) σ)) := by
 intros
 kernel_rfl

theorem z252 : ∀ (T : Go.AI.Ct) (xf : Nat) (i : Int) (σ : Go.AI.AS) (K : Go.Value → Go.AI.AS → Prop),
 Go.AI.fw Go.Proofs.Tryz.prog Go.AI.hintsZ T (252 : Nat) [Go.Value.agg (Array.mk [Go.Value.pointer (Option.some (Go.Addr.mk xf (0 : Nat) Option.none))]), Go.Value.int Go.IntKind.i64 i] σ K =
 Go.AI.newAt σ (Go.AI.AObj.row Go.AI.RK.plain [Go.Value.pointer (Option.some (Go.Addr.mk xf (0 : Nat) Option.none))]) fun (i0 : Nat) (σ1 : Go.AI.AS) ↦
 Go.AI.ldc σ1 (Go.Addr.mk i0 (0 : Nat) Option.none) fun (v2 : Go.Value) ↦
 Go.AI.tP v2 fun (b3 : Option Go.Addr) ↦
 Go.AI.pSome b3 fun (a4 : Go.Addr) ↦
 Go.AI.ldc σ1 (Go.Addr.add a4 (0 : Nat)) fun (v5 : Go.Value) ↦
 Go.AI.tL (1 : Nat) v5 fun (s6 : Go.AI.Sl) ↦
 Go.AI.req ((0 : Int) ≤ i)
 (Go.AI.req (i < (↑(Go.AI.Sl.n s6) : Int))
 (Go.AI.pSome (Go.AI.Sl.a s6) fun (a7 : Go.Addr) ↦
 Go.AI.ldc σ1 (Go.AI.aadd a7 (Int.toNat i * Go.AI.szOf Go.Proofs.Tryz.prog (5 : Nat))) fun (v8 : Go.Value) ↦
 Go.AI.tI Go.IntKind.u8 v8 fun (n9 : Int) ↦ K (Go.Value.int Go.IntKind.u32 (Go.IntKind.wrap Go.IntKind.u32 n9)) σ1)) := by
 intros
 kernel_rfl

theorem z253 : ∀ (T : Go.AI.Ct) (xf : Nat) (n : Int) (σ : Go.AI.AS) (K : Go.Value → Go.AI.AS → Prop),
 Go.AI.fw Go.Proofs.Tryz.prog Go.AI.hintsZ T (253 : Nat) [Go.Value.agg (Array.mk [Go.Value.pointer (Option.some (Go.Addr.mk xf (0 : Nat) Option.none))]), Go.Value.int Go.IntKind.i64 n] σ K =
 Go.AI.newAt σ (Go.AI.AObj.row Go.AI.RK.plain [Go.Value.pointer (Option.some (Go.Addr.mk xf (0 : Nat) Option.none))]) fun (i0 : Nat) (σ1 : Go.AI.AS) ↦
 Go.AI.ldc σ1 (Go.Addr.mk i0 (0 : Nat) Option.none) fun (v2 : Go.Value) ↦
 Go.AI.tP v2 fun (b3 : Option Go.Addr) ↦
 Go.AI.pSome b3 fun (a4 : Go.Addr) ↦
 Go.AI.ldc σ1 (Go.Addr.add a4 (0 : Nat)) fun (v5 : Go.Value) ↦
 Go.AI.tL (1 : Nat) v5 fun (s6 : Go.AI.Sl) ↦ K (Go.Value.int Go.IntKind.i64 (Go.AI.imax (0 : Int) (Go.IntKind.wrap Go.IntKind.i64 (n - (↑(Go.AI.Sl.n s6) : Int))))) σ1 := by
 intros
 kernel_rfl

theorem z254 : ∀ (T : Go.AI.Ct) (xf : Nat) (i c : Int) (σ : Go.AI.AS) (K : Go.Value → Go.AI.AS → Prop),
 Go.AI.fw Go.Proofs.Tryz.prog Go.AI.hintsZ T (254 : Nat)
 [Go.Value.agg (Array.mk [Go.Value.pointer (Option.some (Go.Addr.mk xf (0 : Nat) Option.none))]), Go.Value.int Go.IntKind.i64 i, Go.Value.int Go.IntKind.u32 c] σ K =
 Go.AI.newAt σ (Go.AI.AObj.row Go.AI.RK.plain [Go.Value.pointer (Option.some (Go.Addr.mk xf (0 : Nat) Option.none))]) fun (i0 : Nat) (σ1 : Go.AI.AS) ↦
 Go.AI.ldc σ1 (Go.Addr.mk i0 (0 : Nat) Option.none) fun (v2 : Go.Value) ↦
 Go.AI.tP v2 fun (b3 : Option Go.Addr) ↦
 Go.AI.pSome b3 fun (a4 : Go.Addr) ↦
 Go.AI.ldc σ1 (Go.Addr.add a4 (0 : Nat)) fun (v5 : Go.Value) ↦
 Go.AI.tL (1 : Nat) v5 fun (s6 : Go.AI.Sl) ↦
 Go.AI.bmatch (i == (↑(Go.AI.Sl.n s6) : Int))
 (Go.AI.ldc σ1 (Go.Addr.mk i0 (0 : Nat) Option.none) fun (v7 : Go.Value) ↦
 Go.AI.tP v7 fun (b8 : Option Go.Addr) ↦
 Go.AI.ldc σ1 (Go.Addr.mk i0 (0 : Nat) Option.none) fun (v9 : Go.Value) ↦
 Go.AI.tP v9 fun (b10 : Option Go.Addr) ↦
 Go.AI.pSome b10 fun (a11 : Go.Addr) ↦
 Go.AI.ldc σ1 (Go.Addr.add a11 (0 : Nat)) fun (v12 : Go.Value) ↦
 Go.AI.tL (1 : Nat) v12 fun (s13 : Go.AI.Sl) ↦
 Go.AI.newAt σ1 (Go.AI.AObj.row Go.AI.RK.rw [Go.Value.int Go.IntKind.u8 (0 : Int)]) fun (i14 : Nat) (σ15 : Go.AI.AS) ↦
 Go.AI.ldc σ15 (Go.Addr.add a11 (0 : Nat)) fun (v16 : Go.Value) ↦
 Go.AI.tL (1 : Nat) v16 fun (s17 : Go.AI.Sl) ↦
 Go.Value.slice (Go.AI.Sl.a s13) (Go.AI.Sl.n s13) (Go.AI.szOf Go.Proofs.Tryz.prog (5 : Nat)) =
 Go.Value.slice (Go.AI.Sl.a s17) (Go.AI.Sl.n s17) (Go.AI.szOf Go.Proofs.Tryz.prog (5 : Nat)) ∧
 Go.AI.ldc σ15 (Go.Addr.mk i0 (0 : Nat) Option.none) fun (v18 : Go.Value) ↦
 Go.AI.tP v18 fun (b19 : Option Go.Addr) ↦
 Go.Value.pointer b10 = Go.Value.pointer b19 ∧
 Go.AI.ldc σ15 (Go.Addr.mk i0 (0 : Nat) Option.none) fun (v20 : Go.Value) ↦
 Go.AI.tP v20 fun (b21 : Option Go.Addr) ↦
 Go.Value.pointer b8 = Go.Value.pointer b21 ∧
 Go.AI.lds σ15 (Go.Addr.mk i14 (0 : Nat) Option.none) (1 : Nat) fun (l22 : List Go.Value) ↦
 Go.AI.appendTo σ15 (1 : Nat) (1 : Nat) (Go.AI.Sl.mk (Go.AI.Sl.a s13) (Go.AI.Sl.n s13)) l22 (1 : Nat) fun (s23 : Go.AI.Sl) (σ24 : Go.AI.AS) ↦
 Go.AI.ldc σ24 (Go.Addr.mk i0 (0 : Nat) Option.none) fun (v25 : Go.Value) ↦
 Go.AI.tP v25 fun (b26 : Option Go.Addr) ↦
 Go.Value.pointer b8 = Go.Value.pointer b26 ∧
 Go.AI.pSome b8 fun (a27 : Go.Addr) ↦
 Go.AI.put1 σ24 (Go.Addr.add a27 (0 : Nat)) (Go.Value.slice (Go.AI.Sl.a s23) (Go.AI.Sl.n s23) (1 : Nat)) fun (σ28 : Go.AI.AS) ↦
 Go.AI.JoinS (Go.AI.jn Go.Proofs.Tryz.prog Go.AI.hintsZ T (254 : Nat) [Bool.true] [] K)
 [((1 : Nat), Option.some (Go.Value.int Go.IntKind.i64 i)), ((2 : Nat), Option.some (Go.Value.int Go.IntKind.u32 c)),
 ((3 : Nat), Option.some (Go.Value.pointer (Option.some (Go.Addr.mk i0 (0 : Nat) Option.none))))]
 σ28)
 (Go.AI.JoinS (Go.AI.jn Go.Proofs.Tryz.prog Go.AI.hintsZ T (254 : Nat) [Bool.true] [] K)
 [((1 : Nat), Option.some (Go.Value.int Go.IntKind.i64 i)), ((2 : Nat), Option.some (Go.Value.int Go.IntKind.u32 c)),
 ((3 : Nat), Option.some (Go.Value.pointer (Option.some (Go.Addr.mk i0 (0 : Nat) Option.none))))]
 σ1) := by
 intros
 kernel_rfl

theorem z254j : ∀ (T : Go.AI.Ct) (i c : Int) (x : Nat) (σ : Go.AI.AS) (K : Go.Value → Go.AI.AS → Prop),
 Go.AI.jn Go.Proofs.Tryz.prog Go.AI.hintsZ T (254 : Nat) [Bool.true] [] K
 [((1 : Nat), Option.some (Go.Value.int Go.IntKind.i64 i)), ((2 : Nat), Option.some (Go.Value.int Go.IntKind.u32 c)),
 ((3 : Nat), Option.some (Go.Value.pointer (Option.some (Go.Addr.mk x (0 : Nat) Option.none))))]
 σ =
 Go.AI.ldc σ (Go.Addr.mk x (0 : Nat) Option.none) fun (v0 : Go.Value) ↦
 Go.AI.tP v0 fun (b1 : Option Go.Addr) ↦
 Go.AI.pSome b1 fun (a2 : Go.Addr) ↦
 Go.AI.ldc σ (Go.Addr.add a2 (0 : Nat)) fun (v3 : Go.Value) ↦
 Go.AI.tL (1 : Nat) v3 fun (s4 : Go.AI.Sl) ↦
 T (199 : Nat) [Go.Value.int Go.IntKind.u32 c] σ fun (v5 : Go.Value) (σ6 : Go.AI.AS) ↦
 Go.AI.tI Go.IntKind.u8 v5 fun (n7 : Int) ↦
 Go.AI.ldc σ6 (Go.Addr.add a2 (0 : Nat)) fun (v8 : Go.Value) ↦
 Go.AI.tL (1 : Nat) v8 fun (s9 : Go.AI.Sl) ↦
 Go.Value.slice (Go.AI.Sl.a s4) (Go.AI.Sl.n s4) (Go.AI.szOf Go.Proofs.Tryz.prog (5 : Nat)) = Go.Value.slice (Go.AI.Sl.a s9) (Go.AI.Sl.n s9) (Go.AI.szOf Go.Proofs.Tryz.prog (5 : Nat)) ∧
 Go.AI.ldc σ6 (Go.Addr.mk x (0 : Nat) Option.none) fun (v10 : Go.Value) ↦
 Go.AI.tP v10 fun (b11 : Option Go.Addr) ↦
 Go.Value.pointer b1 = Go.Value.pointer b11 ∧
 Go.AI.req ((0 : Int) ≤ i)
 (Go.AI.req (i < (↑(Go.AI.Sl.n s4) : Int))
 (Go.AI.pSome (Go.AI.Sl.a s4) fun (a12 : Go.Addr) ↦
 Go.AI.put1 σ6 (Go.AI.aadd a12 (Int.toNat i * Go.AI.szOf Go.Proofs.Tryz.prog (5 : Nat))) (Go.Value.int Go.IntKind.u8 n7) fun (σ13 : Go.AI.AS) ↦
 K (Go.Value.tuple (Array.mk [])) σ13)) := by
 intros
 kernel_rfl

theorem z255 : ∀ (T : Go.AI.Ct) (xf : Nat) (σ : Go.AI.AS) (K : Go.Value → Go.AI.AS → Prop),
 Go.AI.fw Go.Proofs.Tryz.prog Go.AI.hintsZ T (255 : Nat) [Go.Value.agg (Array.mk [Go.Value.pointer (Option.some (Go.Addr.mk xf (0 : Nat) Option.none))])] σ K =
 Go.AI.newAt σ (Go.AI.AObj.row Go.AI.RK.plain [Go.Value.pointer (Option.some (Go.Addr.mk xf (0 : Nat) Option.none))]) fun (i0 : Nat) (σ1 : Go.AI.AS) ↦
 Go.AI.ldc σ1 (Go.Addr.mk i0 (0 : Nat) Option.none) fun (v2 : Go.Value) ↦
 Go.AI.tP v2 fun (b3 : Option Go.Addr) ↦
 Go.AI.pSome b3 fun (a4 : Go.Addr) ↦ Go.AI.ldc σ1 (Go.Addr.add a4 (0 : Nat)) fun (v5 : Go.Value) ↦ Go.AI.tL (1 : Nat) v5 fun (s6 : Go.AI.Sl) ↦ K (Go.Value.int Go.IntKind.i64 (↑(Go.AI.Sl.n s6) : Int)) σ1 := by
 intros
 kernel_rfl

theorem z256 : ∀ (T : Go.AI.Ct) (xf : Nat) (i : Int) (σ : Go.AI.AS) (K : Go.Value → Go.AI.AS → Prop),
 Go.AI.fw Go.Proofs.Tryz.prog Go.AI.hintsZ T (256 : Nat) [Go.Value.agg (Array.mk [Go.Value.pointer (Option.some (Go.Addr.mk xf (0 : Nat) Option.none))]), Go.Value.int Go.IntKind.i64 i] σ K =
 Go.AI.newAt σ (Go.AI.AObj.row Go.AI.RK.plain [Go.Value.pointer (Option.some (Go.Addr.mk xf (0 : Nat) Option.none))]) fun (i0 : Nat) (σ1 : Go.AI.AS) ↦
 Go.AI.ldc σ1 (Go.Addr.mk i0 (0 : Nat) Option.none) fun (v2 : Go.Value) ↦
 Go.AI.tP v2 fun (b3 : Option Go.Addr) ↦
 Go.AI.pSome b3 fun (a4 : Go.Addr) ↦
 Go.AI.ldc σ1 (Go.Addr.add a4 (0 : Nat)) fun (v5 : Go.Value) ↦
 Go.AI.tL (1 : Nat) v5 fun (s6 : Go.AI.Sl) ↦
 T (260 : Nat) [Go.Value.slice (Go.AI.Sl.a s6) (Go.AI.Sl.n s6) (1 : Nat), Go.Value.int Go.IntKind.i64 (Go.IntKind.wrap Go.IntKind.i64 ((4 : Int) * i)), Go.Value.int Go.IntKind.i64 (4 : Int)] σ1
 fun (v7 : Go.Value) (σ8 : Go.AI.AS) ↦
 Go.AI.tTup v7 fun (l9 : List Go.Value) ↦
 Go.AI.pSome l9[(0 : Nat)]? fun (u10 : Go.Value) ↦
 Go.AI.tI Go.IntKind.u32 u10 fun (n11 : Int) ↦
 Go.AI.tTup v7 fun (l12 : List Go.Value) ↦ Go.AI.pSome l12[(1 : Nat)]? fun (u13 : Go.Value) ↦ Go.AI.tI Go.IntKind.i64 u13 fun (n14 : Int) ↦ K (Go.Value.int Go.IntKind.u32 n11) σ8 := by
 intros
 kernel_rfl

theorem z257 : ∀ (T : Go.AI.Ct) (xf : Nat) (n : Int) (σ : Go.AI.AS) (K : Go.Value → Go.AI.AS → Prop),
 Go.AI.fw Go.Proofs.Tryz.prog Go.AI.hintsZ T (257 : Nat) [Go.Value.agg (Array.mk [Go.Value.pointer (Option.some (Go.Addr.mk xf (0 : Nat) Option.none))]), Go.Value.int Go.IntKind.i64 n] σ K =
 Go.AI.newAt σ (Go.AI.AObj.row Go.AI.RK.plain [Go.Value.pointer (Option.some (Go.Addr.mk xf (0 : Nat) Option.none))]) fun (i0 : Nat) (σ1 : Go.AI.AS) ↦
 Go.AI.ldc σ1 (Go.Addr.mk i0 (0 : Nat) Option.none) fun (v2 : Go.Value) ↦
 Go.AI.tP v2 fun (b3 : Option Go.Addr) ↦
 Go.AI.pSome b3 fun (a4 : Go.Addr) ↦
 Go.AI.ldc σ1 (Go.Addr.add a4 (0 : Nat)) fun (v5 : Go.Value) ↦
 Go.AI.tL (1 : Nat) v5 fun (s6 : Go.AI.Sl) ↦
 K (Go.Value.int Go.IntKind.i64 (Go.AI.imax (0 : Int) (Go.IntKind.wrap Go.IntKind.i64 (Go.IntKind.wrap Go.IntKind.i64 ((4 : Int) * n) - (↑(Go.AI.Sl.n s6) : Int))))) σ1 := by
 intros
 kernel_rfl

theorem z258 : ∀ (T : Go.AI.Ct) (xf : Nat) (i c : Int) (σ : Go.AI.AS) (K : Go.Value → Go.AI.AS → Prop),
 Go.AI.fw Go.Proofs.Tryz.prog Go.AI.hintsZ T (258 : Nat)
 [Go.Value.agg (Array.mk [Go.Value.pointer (Option.some (Go.Addr.mk xf (0 : Nat) Option.none))]), Go.Value.int Go.IntKind.i64 i, Go.Value.int Go.IntKind.u32 c] σ K =
 Go.AI.newAt σ (Go.AI.AObj.row Go.AI.RK.plain [Go.Value.pointer (Option.some (Go.Addr.mk xf (0 : Nat) Option.none))]) fun (i0 : Nat) (σ1 : Go.AI.AS) ↦
 Go.AI.ALoop (Go.AI.fl Go.Proofs.Tryz.prog Go.AI.hintsZ T (258 : Nat) [Bool.true, Bool.false, Bool.false] [] K)
 [((1 : Nat), Option.some (Go.Value.int Go.IntKind.i64 i)), ((2 : Nat), Option.some (Go.Value.int Go.IntKind.u32 c)),
 ((3 : Nat), Option.some (Go.Value.pointer (Option.some (Go.Addr.mk i0 (0 : Nat) Option.none))))]
 σ1 := by
 intros
 kernel_rfl

theorem z258l : ∀ (T : Go.AI.Ct) (i c : Int) (x : Nat) (X : Go.AI.Regs → Go.AI.AS → Prop) (σ : Go.AI.AS) (K : Go.Value → Go.AI.AS → Prop),
 Go.AI.fl Go.Proofs.Tryz.prog Go.AI.hintsZ T (258 : Nat) [Bool.true, Bool.false, Bool.false] [] K X
 [((1 : Nat), Option.some (Go.Value.int Go.IntKind.i64 i)), ((2 : Nat), Option.some (Go.Value.int Go.IntKind.u32 c)),
 ((3 : Nat), Option.some (Go.Value.pointer (Option.some (Go.Addr.mk x (0 : Nat) Option.none))))]
 σ =
 Go.AI.ldc σ (Go.Addr.mk x (0 : Nat) Option.none) fun (v0 : Go.Value) ↦
 Go.AI.tP v0 fun (b1 : Option Go.Addr) ↦
 Go.AI.pSome b1 fun (a2 : Go.Addr) ↦
 Go.AI.ldc σ (Go.Addr.add a2 (0 : Nat)) fun (v3 : Go.Value) ↦
 Go.AI.tL (1 : Nat) v3 fun (s4 : Go.AI.Sl) ↦
 Go.AI.bmatch (Decidable.decide ((↑(Go.AI.Sl.n s4) : Int) < Go.IntKind.wrap Go.IntKind.i64 (Go.IntKind.wrap Go.IntKind.i64 ((4 : Int) * i) + (4 : Int))))
 (Go.AI.ldc σ (Go.Addr.mk x (0 : Nat) Option.none) fun (v5 : Go.Value) ↦
 Go.AI.tP v5 fun (b6 : Option Go.Addr) ↦
 Go.AI.ldc σ (Go.Addr.mk x (0 : Nat) Option.none) fun (v7 : Go.Value) ↦
 Go.AI.tP v7 fun (b8 : Option Go.Addr) ↦
 Go.AI.pSome b8 fun (a9 : Go.Addr) ↦
 Go.AI.ldc σ (Go.Addr.add a9 (0 : Nat)) fun (v10 : Go.Value) ↦
 Go.AI.tL (1 : Nat) v10 fun (s11 : Go.AI.Sl) ↦
 Go.AI.newAt σ (Go.AI.AObj.row Go.AI.RK.rw [Go.Value.int Go.IntKind.u8 (0 : Int)]) fun (i12 : Nat) (σ13 : Go.AI.AS) ↦
 Go.AI.ldc σ13 (Go.Addr.add a9 (0 : Nat)) fun (v14 : Go.Value) ↦
 Go.AI.tL (1 : Nat) v14 fun (s15 : Go.AI.Sl) ↦
 Go.Value.slice (Go.AI.Sl.a s11) (Go.AI.Sl.n s11) (Go.AI.szOf Go.Proofs.Tryz.prog (5 : Nat)) =
 Go.Value.slice (Go.AI.Sl.a s15) (Go.AI.Sl.n s15) (Go.AI.szOf Go.Proofs.Tryz.prog (5 : Nat)) ∧
 Go.AI.ldc σ13 (Go.Addr.mk x (0 : Nat) Option.none) fun (v16 : Go.Value) ↦
 Go.AI.tP v16 fun (b17 : Option Go.Addr) ↦
 Go.Value.pointer b8 = Go.Value.pointer b17 ∧
 Go.AI.ldc σ13 (Go.Addr.mk x (0 : Nat) Option.none) fun (v18 : Go.Value) ↦
 Go.AI.tP v18 fun (b19 : Option Go.Addr) ↦
 Go.Value.pointer b6 = Go.Value.pointer b19 ∧
 Go.AI.lds σ13 (Go.Addr.mk i12 (0 : Nat) Option.none) (1 : Nat) fun (l20 : List Go.Value) ↦
 Go.AI.appendTo σ13 (1 : Nat) (1 : Nat) (Go.AI.Sl.mk (Go.AI.Sl.a s11) (Go.AI.Sl.n s11)) l20 (1 : Nat) fun (s21 : Go.AI.Sl) (σ22 : Go.AI.AS) ↦
 Go.AI.ldc σ22 (Go.Addr.mk x (0 : Nat) Option.none) fun (v23 : Go.Value) ↦
 Go.AI.tP v23 fun (b24 : Option Go.Addr) ↦
 Go.Value.pointer b6 = Go.Value.pointer b24 ∧
 Go.AI.pSome b6 fun (a25 : Go.Addr) ↦
 Go.AI.put1 σ22 (Go.Addr.add a25 (0 : Nat)) (Go.Value.slice (Go.AI.Sl.a s21) (Go.AI.Sl.n s21) (1 : Nat)) fun (σ26 : Go.AI.AS) ↦
 X
 [((1 : Nat), Option.some (Go.Value.int Go.IntKind.i64 i)), ((2 : Nat), Option.some (Go.Value.int Go.IntKind.u32 c)),
 ((3 : Nat), Option.some (Go.Value.pointer (Option.some (Go.Addr.mk x (0 : Nat) Option.none))))]
 σ26)
 (Go.AI.ldc σ (Go.Addr.mk x (0 : Nat) Option.none) fun (v27 : Go.Value) ↦
 Go.AI.tP v27 fun (b28 : Option Go.Addr) ↦
 Go.AI.pSome b28 fun (a29 : Go.Addr) ↦
 Go.AI.ldc σ (Go.Addr.add a29 (0 : Nat)) fun (v30 : Go.Value) ↦
 Go.AI.tL (1 : Nat) v30 fun (s31 : Go.AI.Sl) ↦
 Go.AI.req ((0 : Int) ≤ Go.IntKind.wrap Go.IntKind.i64 ((4 : Int) * i))
 (Go.AI.req (Go.IntKind.wrap Go.IntKind.i64 ((4 : Int) * i) ≤ (↑(Go.AI.Sl.n s31) : Int))
 (Go.AI.req ((↑(Go.AI.Sl.n s31) : Int) ≤ (↑(Go.AI.capLo σ (Go.AI.Sl.a s31) (Go.AI.szOf Go.Proofs.Tryz.prog (5 : Nat)) (Go.AI.Sl.n s31)) : Int))
 (T (261 : Nat) [Go.Value.int Go.IntKind.u32 c, Go.Value.int Go.IntKind.i64 (4 : Int)] σ fun (v32 : Go.Value) (σ33 : Go.AI.AS) ↦
 Go.AI.tL (1 : Nat) v32 fun (s34 : Go.AI.Sl) ↦
 Go.AI.req ((0 : Int) ≤ Go.IntKind.wrap Go.IntKind.i64 ((4 : Int) * i))
 (Go.AI.req (Go.IntKind.wrap Go.IntKind.i64 ((4 : Int) * i) ≤ (↑(Go.AI.Sl.n s31) : Int))
 (Go.AI.req ((↑(Go.AI.Sl.n s31) : Int) ≤ (↑(Go.AI.capLo σ33 (Go.AI.Sl.a s31) (Go.AI.szOf Go.Proofs.Tryz.prog (5 : Nat)) (Go.AI.Sl.n s31)) : Int))
 (Go.Value.slice
 (Option.map (fun (x_2 : Go.Addr) ↦ Go.AI.aadd x_2 (Int.toNat (Go.IntKind.wrap Go.IntKind.i64 ((4 : Int) * i)) * Go.AI.szOf Go.Proofs.Tryz.prog (5 : Nat)))
 (Go.AI.Sl.a s31))
 (Int.toNat ((↑(Go.AI.Sl.n s31) : Int) - Go.IntKind.wrap Go.IntKind.i64 ((4 : Int) * i))) (Go.AI.szOf Go.Proofs.Tryz.prog (5 : Nat)) =
 Go.Value.slice
 (Option.map (fun (x_2 : Go.Addr) ↦ Go.AI.aadd x_2 (Int.toNat (Go.IntKind.wrap Go.IntKind.i64 ((4 : Int) * i)) * Go.AI.szOf Go.Proofs.Tryz.prog (5 : Nat)))
 (Go.AI.Sl.a s31))
 (Int.toNat ((↑(Go.AI.Sl.n s31) : Int) - Go.IntKind.wrap Go.IntKind.i64 ((4 : Int) * i))) (Go.AI.szOf Go.Proofs.Tryz.prog (5 : Nat)) ∧
 Go.AI.ldc σ33 (Go.Addr.add a29 (0 : Nat)) fun (v35 : Go.Value) ↦
 Go.AI.tL (1 : Nat) v35 fun (s36 : Go.AI.Sl) ↦
 Go.Value.slice (Go.AI.Sl.a s31) (Go.AI.Sl.n s31) (Go.AI.szOf Go.Proofs.Tryz.prog (5 : Nat)) =
 Go.Value.slice (Go.AI.Sl.a s36) (Go.AI.Sl.n s36) (Go.AI.szOf Go.Proofs.Tryz.prog (5 : Nat)) ∧
 Go.AI.ldc σ33 (Go.Addr.mk x (0 : Nat) Option.none) fun (v37 : Go.Value) ↦
 Go.AI.tP v37 fun (b38 : Option Go.Addr) ↦
 Go.Value.pointer b28 = Go.Value.pointer b38 ∧
 Go.AI.srcCells σ33 (1 : Nat) (Option.some (Go.Value.slice (Go.AI.Sl.a s34) (Go.AI.Sl.n s34) (1 : Nat))) fun (m39 : Nat) (l40 : List Go.Value) ↦
 Go.AI.copyTo σ33 (1 : Nat)
 (Option.map (fun (x_2 : Go.Addr) ↦ Go.AI.aadd x_2 (Int.toNat (Go.IntKind.wrap Go.IntKind.i64 ((4 : Int) * i)) * Go.AI.szOf Go.Proofs.Tryz.prog (5 : Nat)))
 (Go.AI.Sl.a s31))
 (Int.toNat ((↑(Go.AI.Sl.n s31) : Int) - Go.IntKind.wrap Go.IntKind.i64 ((4 : Int) * i))) m39 l40 fun (r41 : Int) (σ42 : Go.AI.AS) ↦
 K (Go.Value.tuple (Array.mk [])) σ42))))))) := by
 intros
 kernel_rfl

theorem z259 : ∀ (T : Go.AI.Ct) (xf : Nat) (σ : Go.AI.AS) (K : Go.Value → Go.AI.AS → Prop),
 Go.AI.fw Go.Proofs.Tryz.prog Go.AI.hintsZ T (259 : Nat) [Go.Value.agg (Array.mk [Go.Value.pointer (Option.some (Go.Addr.mk xf (0 : Nat) Option.none))])] σ K =
 Go.AI.newAt σ (Go.AI.AObj.row Go.AI.RK.plain [Go.Value.pointer (Option.some (Go.Addr.mk xf (0 : Nat) Option.none))]) fun (i0 : Nat) (σ1 : Go.AI.AS) ↦
 Go.AI.ldc σ1 (Go.Addr.mk i0 (0 : Nat) Option.none) fun (v2 : Go.Value) ↦
 Go.AI.tP v2 fun (b3 : Option Go.Addr) ↦
 Go.AI.pSome b3 fun (a4 : Go.Addr) ↦
 Go.AI.ldc σ1 (Go.Addr.add a4 (0 : Nat)) fun (v5 : Go.Value) ↦
 Go.AI.tL (1 : Nat) v5 fun (s6 : Go.AI.Sl) ↦ K (Go.Value.int Go.IntKind.i64 (Go.IntKind.wrap Go.IntKind.i64 (Int.tdiv (↑(Go.AI.Sl.n s6) : Int) (4 : Int)))) σ1 := by
 intros
 kernel_rfl

theorem z260 : ∀ (T : Go.AI.Ct) (ba : Option Go.Addr) (bn : Nat) (r1_1 n : Int) (σ : Go.AI.AS) (K : Go.Value → Go.AI.AS → Prop),
 Go.AI.fw Go.Proofs.Tryz.prog Go.AI.hintsZ T (260 : Nat) [Go.Value.slice ba bn (1 : Nat), Go.Value.int Go.IntKind.i64 r1_1, Go.Value.int Go.IntKind.i64 n] σ K =
 T (262 : Nat) [Go.Value.int Go.IntKind.i64 n] σ fun (v0 : Go.Value) (σ1 : Go.AI.AS) ↦
 Go.AI.tB v0 fun (b2 : Bool) ↦
 Go.AI.bmatch (!b2) (K (Go.Value.tuple (Array.mk [Go.Value.int Go.IntKind.u32 (0 : Int), Go.Value.int Go.IntKind.i64 (1 : Int)])) σ1)
 (Go.AI.bmatch (Decidable.decide (r1_1 < (0 : Int))) (K (Go.Value.tuple (Array.mk [Go.Value.int Go.IntKind.u32 (0 : Int), Go.Value.int Go.IntKind.i64 (1 : Int)])) σ1)
 (Go.AI.bmatch (Decidable.decide (r1_1 > (↑bn : Int))) (K (Go.Value.tuple (Array.mk [Go.Value.int Go.IntKind.u32 (0 : Int), Go.Value.int Go.IntKind.i64 (2 : Int)])) σ1)
 (Go.AI.bmatch (Decidable.decide (Go.IntKind.wrap Go.IntKind.i64 ((↑bn : Int) - r1_1) < n))
 (K (Go.Value.tuple (Array.mk [Go.Value.int Go.IntKind.u32 (0 : Int), Go.Value.int Go.IntKind.i64 (2 : Int)])) σ1)
 (Go.AI.req ((0 : Int) ≤ r1_1)
 (Go.AI.req (r1_1 ≤ Go.IntKind.wrap Go.IntKind.i64 (r1_1 + n))
 (Go.AI.req (Go.IntKind.wrap Go.IntKind.i64 (r1_1 + n) ≤ (↑(Go.AI.capLo σ1 ba (1 : Nat) bn) : Int))
 (Go.AI.ALoop (Go.AI.fl Go.Proofs.Tryz.prog Go.AI.hintsZ T (260 : Nat) [Bool.true, Bool.true, Bool.true, Bool.false, Bool.true, Bool.false] [] K)
 [((8 : Nat), Option.some (Go.Value.int Go.IntKind.u32 (0 : Int))),
 ((37 : Nat),
 Option.some
 (Go.Value.slice (Option.map (fun (x : Go.Addr) ↦ Go.AI.aadd x (Int.toNat r1_1 * Go.AI.szOf Go.Proofs.Tryz.prog (5 : Nat))) ba)
 (Int.toNat (Go.IntKind.wrap Go.IntKind.i64 (r1_1 + n) - r1_1)) (1 : Nat))),
 ((38 : Nat), Option.some (Go.Value.int Go.IntKind.i64 (↑(Int.toNat (Go.IntKind.wrap Go.IntKind.i64 (r1_1 + n) - r1_1)) : Int))),
 ((39 : Nat), Option.some (Go.Value.int Go.IntKind.i64 (0 : Int)))]
 σ1))))))) := by
 intros
 kernel_rfl

theorem z260l : ∀ (T : Go.AI.Ct) (x : Int) (r37a_1 : Option Go.Addr) (r37n_1 r37e_1 : Nat) (r38_1 r39_1 : Int) (X : Go.AI.Regs → Go.AI.AS → Prop) (σ : Go.AI.AS) (K : Go.Value → Go.AI.AS → Prop),
 Go.AI.fl Go.Proofs.Tryz.prog Go.AI.hintsZ T (260 : Nat) [Bool.true, Bool.true, Bool.true, Bool.false, Bool.true, Bool.false] [] K X
 [((8 : Nat), Option.some (Go.Value.int Go.IntKind.u32 x)), ((37 : Nat), Option.some (Go.Value.slice r37a_1 r37n_1 r37e_1)), ((38 : Nat), Option.some (Go.Value.int Go.IntKind.i64 r38_1)),
 ((39 : Nat), Option.some (Go.Value.int Go.IntKind.i64 r39_1))]
 σ =
 Go.AI.bmatch (Decidable.decide (r39_1 < r38_1))
 (Go.AI.req ((0 : Int) ≤ r39_1)
 (Go.AI.req (r39_1 < (↑r37n_1 : Int))
 (Go.AI.pSome r37a_1 fun (a0 : Go.Addr) ↦
 Go.AI.req (r37e_1 = Go.AI.szOf Go.Proofs.Tryz.prog (5 : Nat))
 (Go.AI.ldc σ (Go.AI.aadd a0 (Int.toNat r39_1 * Go.AI.szOf Go.Proofs.Tryz.prog (5 : Nat))) fun (v1 : Go.Value) ↦
 Go.AI.tI Go.IntKind.u8 v1 fun (n2 : Int) ↦
 X
 [((8 : Nat), Option.some (Go.Value.int Go.IntKind.u32 (Go.AI.ior Go.IntKind.u32 (Go.AI.ishl Go.IntKind.u32 x (8 : Int)) (Go.IntKind.wrap Go.IntKind.u32 n2)))),
 ((37 : Nat), Option.some (Go.Value.slice r37a_1 r37n_1 r37e_1)), ((38 : Nat), Option.some (Go.Value.int Go.IntKind.i64 r38_1)),
 ((39 : Nat), Option.some (Go.Value.int Go.IntKind.i64 (Go.IntKind.wrap Go.IntKind.i64 (r39_1 + (1 : Int)))))]
 σ))))
 (K (Go.Value.tuple (Array.mk [Go.Value.int Go.IntKind.u32 x, Go.Value.int Go.IntKind.i64 (0 : Int)])) σ) := by
 intros
 kernel_rfl

theorem z261 : ∀ (T : Go.AI.Ct) (x n : Int) (σ : Go.AI.AS) (K : Go.Value → Go.AI.AS → Prop),
 Go.AI.fw Go.Proofs.Tryz.prog Go.AI.hintsZ T (261 : Nat) [Go.Value.int Go.IntKind.u32 x, Go.Value.int Go.IntKind.i64 n] σ K =
 T (262 : Nat) [Go.Value.int Go.IntKind.i64 n] σ fun (v0 : Go.Value) (σ1 : Go.AI.AS) ↦
 Go.AI.tB v0 fun (b2 : Bool) ↦
 Go.AI.bmatch (!b2) (K (Go.Value.slice Option.none (0 : Nat) (0 : Nat)) σ1)
 (Go.AI.req ((0 : Int) ≤ n)
 (Go.AI.req (n ≤ n)
 (Go.AI.req (n * (↑(Go.AI.bytesOf Go.Proofs.Tryz.prog (5 : Nat)) : Int) ≤ (140737488355328 : Int))
 (Go.AI.newAt σ1 (Go.AI.AObj.row Go.AI.RK.rw (List.flatten (List.replicate (Int.toNat n) (Go.AI.valCells (Go.Value.int Go.IntKind.u8 (0 : Int)))))) fun (i3 : Nat) (σ4 : Go.AI.AS) ↦
 Go.AI.ALoop (Go.AI.fl Go.Proofs.Tryz.prog Go.AI.hintsZ T (261 : Nat) [Bool.true, Bool.true, Bool.true, Bool.false, Bool.true, Bool.false] [] K)
 [((0 : Nat), Option.some (Go.Value.int Go.IntKind.u32 x)), ((5 : Nat), Option.some (Go.Value.slice (Option.some (Go.Addr.mk i3 (0 : Nat) Option.none)) (Int.toNat n) (1 : Nat))),
 ((6 : Nat), Option.some (Go.Value.int Go.IntKind.i64 (Go.IntKind.wrap Go.IntKind.i64 (n - (1 : Int)))))]
 σ4)))) := by
 intros
 kernel_rfl

theorem z261l : ∀ (T : Go.AI.Ct) (x : Int) (ba : Option Go.Addr) (bn be : Nat) (i : Int) (X : Go.AI.Regs → Go.AI.AS → Prop) (σ : Go.AI.AS) (K : Go.Value → Go.AI.AS → Prop),
 Go.AI.fl Go.Proofs.Tryz.prog Go.AI.hintsZ T (261 : Nat) [Bool.true, Bool.true, Bool.true, Bool.false, Bool.true, Bool.false] [] K X
 [((0 : Nat), Option.some (Go.Value.int Go.IntKind.u32 x)), ((5 : Nat), Option.some (Go.Value.slice ba bn be)), ((6 : Nat), Option.some (Go.Value.int Go.IntKind.i64 i))] σ =
 Go.AI.bmatch (Decidable.decide (i ≥ (0 : Int)))
 (Go.AI.req ((0 : Int) ≤ i)
 (Go.AI.req (i < (↑bn : Int))
 (Go.AI.pSome ba fun (a0 : Go.Addr) ↦
 Go.AI.req (be = Go.AI.szOf Go.Proofs.Tryz.prog (5 : Nat))
 (Go.AI.put1 σ (Go.AI.aadd a0 (Int.toNat i * Go.AI.szOf Go.Proofs.Tryz.prog (5 : Nat))) (Go.Value.int Go.IntKind.u8 (Go.IntKind.wrap Go.IntKind.u8 x)) fun (σ1 : Go.AI.AS) ↦
 X
 [((0 : Nat), Option.some (Go.Value.int Go.IntKind.u32 (Go.AI.ishr Go.IntKind.u32 x (8 : Int)))), ((5 : Nat), Option.some (Go.Value.slice ba bn be)),
 ((6 : Nat), Option.some (Go.Value.int Go.IntKind.i64 (Go.IntKind.wrap Go.IntKind.i64 (i - (1 : Int)))))]
 σ1))))
 (K (Go.Value.slice ba bn be) σ) := by
 intros
 kernel_rfl

theorem z262 : ∀ (T : Go.AI.Ct) (n : Int) (σ : Go.AI.AS) (K : Go.Value → Go.AI.AS → Prop),
 Go.AI.fw Go.Proofs.Tryz.prog Go.AI.hintsZ T (262 : Nat) [Go.Value.int Go.IntKind.i64 n] σ K =
 Go.AI.bmatch (n == (1 : Int)) (K (Go.Value.bool Bool.true) σ) (Go.AI.bmatch (n == (2 : Int)) (K (Go.Value.bool Bool.true) σ) (K (Go.Value.bool (n == (4 : Int))) σ)) := by
 intros
 kernel_rfl

end Go.AI
end
section
/- The conditions ahead of the calls of the program's functions, reckoned as far as they go (equations that the kernel checks); no condition. -/
set_option maxRecDepth 1000000
set_option linter.unusedVariables false
namespace Go.AI
open Go.Proofs
theorem z98 : ∀ (T : Go.AI.Ct) (s : Nat) (n : Int) (σ : Go.AI.AS) (K : Go.Value → Go.AI.AS → Prop),
 Go.AI.fw Go.Proofs.Tryz.prog Go.AI.hintsZ T (98 : Nat) [Go.Value.pointer (Option.some (Go.Addr.mk s (0 : Nat) Option.none)), Go.Value.int Go.IntKind.i64 n] σ K =
 T (135 : Nat) [Go.Value.pointer (Option.some (Go.Addr.mk s (0 : Nat) Option.none)), Go.Value.int Go.IntKind.i64 n] σ fun (v0 : Go.Value) (σ1 : Go.AI.AS) ↦
 Go.AI.tTup v0 fun (l2 : List Go.Value) ↦
 Go.AI.pSome l2[(0 : Nat)]? fun (u3 : Go.Value) ↦
 Go.AI.tP u3 fun (b4 : Option Go.Addr) ↦
 Go.AI.tTup v0 fun (l5 : List Go.Value) ↦
 Go.AI.pSome l5[(1 : Nat)]? fun (u6 : Go.Value) ↦
 Go.AI.tI Go.IntKind.i64 u6 fun (n7 : Int) ↦
 Go.AI.bmatch (n7 != (0 : Int)) (K (Go.Value.tuple (Array.mk [Go.Value.int Go.IntKind.i64 (0 : Int), Go.Value.int Go.IntKind.i64 (0 : Int), Go.Value.int Go.IntKind.i64 n7])) σ1)
 (Go.AI.pSome b4 fun (a8 : Go.Addr) ↦
 Go.AI.ldc σ1 (Go.Addr.mk (Go.Addr.block a8) (Go.Addr.off a8 + (3 : Nat)) Option.none) fun (v9 : Go.Value) ↦
 Go.AI.tI Go.IntKind.i64 v9 fun (n10 : Int) ↦
 Go.AI.pSome b4 fun (a11 : Go.Addr) ↦
 Go.AI.ldc σ1 (Go.Addr.add a11 (0 : Nat)) fun (v12 : Go.Value) ↦
 Go.AI.tIf v12
 (fun (t13 : Nat) (u14 : Go.Value) ↦
 Go.AI.pSome (Go.AI.methodOf Go.Proofs.Tryz.prog t13 "grotto/shelf.size") fun (f15 : Go.FuncId) ↦
 T f15 [u14] σ1 fun (v16 : Go.Value) (σ17 : Go.AI.AS) ↦
 Go.AI.tI Go.IntKind.i64 v16 fun (n18 : Int) ↦
 Go.AI.ldc σ17 (Go.Addr.mk (Go.Addr.block a8) (Go.Addr.off a8 + (3 : Nat)) Option.none) fun (v19 : Go.Value) ↦
 Go.AI.tI Go.IntKind.i64 v19 fun (n20 : Int) ↦
 Go.Value.int Go.IntKind.i64 n10 = Go.Value.int Go.IntKind.i64 n20 ∧
 K (Go.Value.tuple (Array.mk [Go.Value.int Go.IntKind.i64 n10, Go.Value.int Go.IntKind.i64 n18, Go.Value.int Go.IntKind.i64 (0 : Int)])) σ17)
 False) := by
 intros
 kernel_rfl

theorem z81 : ∀ (T : Go.AI.Ct) (s : Nat) (n : Int) (σ : Go.AI.AS) (K : Go.Value → Go.AI.AS → Prop),
 Go.AI.fw Go.Proofs.Tryz.prog Go.AI.hintsZ T (81 : Nat) [Go.Value.pointer (Option.some (Go.Addr.mk s (0 : Nat) Option.none)), Go.Value.int Go.IntKind.i64 n] σ K =
 T (142 : Nat) [Go.Value.pointer (Option.some (Go.Addr.mk s (0 : Nat) Option.none)), Go.Value.int Go.IntKind.i64 n] σ fun (v0 : Go.Value) (σ1 : Go.AI.AS) ↦
 Go.AI.tTup v0 fun (l2 : List Go.Value) ↦
 Go.AI.pSome l2[(0 : Nat)]? fun (u3 : Go.Value) ↦
 Go.AI.tP u3 fun (b4 : Option Go.Addr) ↦
 Go.AI.tTup v0 fun (l5 : List Go.Value) ↦
 Go.AI.pSome l5[(1 : Nat)]? fun (u6 : Go.Value) ↦
 Go.AI.tI Go.IntKind.i64 u6 fun (n7 : Int) ↦
 Go.AI.bmatch (n7 != (0 : Int))
 (Go.AI.JoinS (Go.AI.jn Go.Proofs.Tryz.prog Go.AI.hintsZ T (81 : Nat) [Bool.true, Bool.true, Bool.false] [] K)
 [((7 : Nat), Option.some (Go.Value.pointer b4)), ((8 : Nat), Option.some (Go.Value.int Go.IntKind.i64 n7)), ((28 : Nat), Option.some (Go.Value.bool Bool.true))] σ1)
 (Go.AI.pSome b4 fun (a8 : Go.Addr) ↦
 Go.AI.ldc σ1 (Go.Addr.mk (Go.Addr.block a8) (Go.Addr.off a8 + (3 : Nat)) Option.none) fun (v9 : Go.Value) ↦
 Go.AI.tI Go.IntKind.i64 v9 fun (n10 : Int) ↦
 Go.AI.pSome b4 fun (a11 : Go.Addr) ↦
 Go.AI.ldc σ1 (Go.Addr.add a11 (0 : Nat)) fun (v12 : Go.Value) ↦
 Go.AI.tIf v12
 (fun (t13 : Nat) (u14 : Go.Value) ↦
 Go.AI.pSome (Go.AI.methodOf Go.Proofs.Tryz.prog t13 "grotto/shelf.size") fun (f15 : Go.FuncId) ↦
 T f15 [u14] σ1 fun (v16 : Go.Value) (σ17 : Go.AI.AS) ↦
 Go.AI.tI Go.IntKind.i64 v16 fun (n18 : Int) ↦
 Go.AI.ldc σ17 (Go.Addr.mk (Go.Addr.block a8) (Go.Addr.off a8 + (3 : Nat)) Option.none) fun (v19 : Go.Value) ↦
 Go.AI.tI Go.IntKind.i64 v19 fun (n20 : Int) ↦
 Go.Value.int Go.IntKind.i64 n10 = Go.Value.int Go.IntKind.i64 n20 ∧
 Go.AI.JoinS (Go.AI.jn Go.Proofs.Tryz.prog Go.AI.hintsZ T (81 : Nat) [Bool.true, Bool.true, Bool.false] [] K)
 [((7 : Nat), Option.some (Go.Value.pointer b4)), ((8 : Nat), Option.some (Go.Value.int Go.IntKind.i64 n7)),
 ((28 : Nat), Option.some (Go.Value.bool (Decidable.decide (n10 ≥ n18))))]
 σ17)
 False) := by
 intros
 kernel_rfl

theorem z81j : ∀ (T : Go.AI.Ct) (x : Option Go.Addr) (e : Int) (r28_1 : Bool) (σ : Go.AI.AS) (K : Go.Value → Go.AI.AS → Prop),
 Go.AI.jn Go.Proofs.Tryz.prog Go.AI.hintsZ T (81 : Nat) [Bool.true, Bool.true, Bool.false] [] K
 [((7 : Nat), Option.some (Go.Value.pointer x)), ((8 : Nat), Option.some (Go.Value.int Go.IntKind.i64 e)), ((28 : Nat), Option.some (Go.Value.bool r28_1))] σ =
 Go.AI.bmatch r28_1 (K (Go.Value.tuple (Array.mk [Go.Value.int Go.IntKind.u32 (0 : Int), Go.Value.bool Bool.false, Go.Value.int Go.IntKind.i64 e])) σ)
 (Go.AI.pSome x fun (a0 : Go.Addr) ↦
 Go.AI.ldc σ (Go.Addr.mk (Go.Addr.block a0) (Go.Addr.off a0 + (3 : Nat)) Option.none) fun (v1 : Go.Value) ↦
 Go.AI.tI Go.IntKind.i64 v1 fun (n2 : Int) ↦
 Go.AI.pSome x fun (a3 : Go.Addr) ↦
 Go.AI.put1 σ (Go.Addr.mk (Go.Addr.block a3) (Go.Addr.off a3 + (3 : Nat)) Option.none) (Go.Value.int Go.IntKind.i64 (Go.IntKind.wrap Go.IntKind.i64 (n2 + (1 : Int)))) fun (σ4 : Go.AI.AS) ↦
 Go.AI.pSome x fun (a5 : Go.Addr) ↦
 Go.AI.ldc σ4 (Go.Addr.mk (Go.Addr.block a5) (Go.Addr.off a5 + (4 : Nat)) Option.none) fun (v6 : Go.Value) ↦
 Go.AI.tI Go.IntKind.u32 v6 fun (n7 : Int) ↦
 Go.AI.pSome x fun (a8 : Go.Addr) ↦
 Go.AI.put1 σ4 (Go.Addr.mk (Go.Addr.block a8) (Go.Addr.off a8 + (4 : Nat)) Option.none) (Go.Value.int Go.IntKind.u32 (Go.IntKind.wrap Go.IntKind.u32 (n7 + (1 : Int)))) fun (σ9 : Go.AI.AS) ↦
 Go.AI.pSome x fun (a10 : Go.Addr) ↦
 Go.AI.ldc σ9 (Go.Addr.add a10 (0 : Nat)) fun (v11 : Go.Value) ↦
 Go.AI.tIf v11
 (fun (t12 : Nat) (u13 : Go.Value) ↦
 Go.AI.pSome x fun (a14 : Go.Addr) ↦
 Go.AI.ldc σ9 (Go.Addr.mk (Go.Addr.block a14) (Go.Addr.off a14 + (3 : Nat)) Option.none) fun (v15 : Go.Value) ↦
 Go.AI.tI Go.IntKind.i64 v15 fun (n16 : Int) ↦
 Go.AI.pSome (Go.AI.methodOf Go.Proofs.Tryz.prog t12 "grotto/shelf.at") fun (f17 : Go.FuncId) ↦
 T f17 [u13, Go.Value.int Go.IntKind.i64 (Go.IntKind.wrap Go.IntKind.i64 (n16 - (1 : Int)))] σ9 fun (v18 : Go.Value) (σ19 : Go.AI.AS) ↦
 Go.AI.tI Go.IntKind.u32 v18 fun (n20 : Int) ↦
 K (Go.Value.tuple (Array.mk [Go.Value.int Go.IntKind.u32 n20, Go.Value.bool Bool.true, Go.Value.int Go.IntKind.i64 (0 : Int)])) σ19)
 (Go.AI.pSome x fun (a21 : Go.Addr) ↦
 Go.AI.ldc σ9 (Go.Addr.mk (Go.Addr.block a21) (Go.Addr.off a21 + (3 : Nat)) Option.none) fun (v22 : Go.Value) ↦ Go.AI.tI Go.IntKind.i64 v22 fun (n23 : Int) ↦ False)) := by
 intros
 kernel_rfl

theorem z135 : ∀ (T : Go.AI.Ct) (s : Nat) (n : Int) (σ : Go.AI.AS) (K : Go.Value → Go.AI.AS → Prop),
 Go.AI.fw Go.Proofs.Tryz.prog Go.AI.hintsZ T (135 : Nat) [Go.Value.pointer (Option.some (Go.Addr.mk s (0 : Nat) Option.none)), Go.Value.int Go.IntKind.i64 n] σ K =
 Go.AI.ldc σ (Go.Addr.mk s ((0 : Nat) + (3 : Nat)) Option.none) fun (v0 : Go.Value) ↦
 Go.AI.tM v0 fun (b1 : Option Nat) ↦
 Go.AI.mget σ (Go.TypeDesc.int Go.IntKind.i64) b1 (Go.Value.int Go.IntKind.i64 n) fun (o2 : Option Go.Value) ↦
 Go.AI.tP (Option.getD o2 (Go.Value.pointer Option.none)) fun (b3 : Option Go.Addr) ↦
 Go.AI.ptrEq σ b3 Option.none fun (r4 : Bool) ↦
 Go.AI.bmatch r4 (K (Go.Value.tuple (Array.mk [Go.Value.pointer Option.none, Go.Value.int Go.IntKind.i64 (5 : Int)])) σ)
 (K (Go.Value.tuple (Array.mk [Go.Value.pointer b3, Go.Value.int Go.IntKind.i64 (0 : Int)])) σ) := by
 intros
 kernel_rfl

theorem z136 : ∀ (T : Go.AI.Ct) (x : Nat) (σ : Go.AI.AS) (K : Go.Value → Go.AI.AS → Prop),
 Go.AI.fw Go.Proofs.Tryz.prog Go.AI.hintsZ T (136 : Nat) [Go.Value.pointer (Option.some (Go.Addr.mk x (0 : Nat) Option.none))] σ K =
 Go.AI.ldc σ (Go.Addr.mk x ((0 : Nat) + (2 : Nat)) Option.none) fun (v0 : Go.Value) ↦ Go.AI.tI Go.IntKind.i64 v0 fun (n1 : Int) ↦ K (Go.Value.bool (n1 != (2 : Int))) σ := by
 intros
 kernel_rfl

theorem z142 : ∀ (T : Go.AI.Ct) (s : Nat) (n : Int) (σ : Go.AI.AS) (K : Go.Value → Go.AI.AS → Prop),
 Go.AI.fw Go.Proofs.Tryz.prog Go.AI.hintsZ T (142 : Nat) [Go.Value.pointer (Option.some (Go.Addr.mk s (0 : Nat) Option.none)), Go.Value.int Go.IntKind.i64 n] σ K =
 T (135 : Nat) [Go.Value.pointer (Option.some (Go.Addr.mk s (0 : Nat) Option.none)), Go.Value.int Go.IntKind.i64 n] σ fun (v0 : Go.Value) (σ1 : Go.AI.AS) ↦
 Go.AI.tTup v0 fun (l2 : List Go.Value) ↦
 Go.AI.pSome l2[(0 : Nat)]? fun (u3 : Go.Value) ↦
 Go.AI.tP u3 fun (b4 : Option Go.Addr) ↦
 Go.AI.tTup v0 fun (l5 : List Go.Value) ↦
 Go.AI.pSome l5[(1 : Nat)]? fun (u6 : Go.Value) ↦
 Go.AI.tI Go.IntKind.i64 u6 fun (n7 : Int) ↦
 Go.AI.bmatch (n7 == (0 : Int))
 (T (179 : Nat) [Go.Value.pointer b4] σ1 fun (v8 : Go.Value) (σ9 : Go.AI.AS) ↦
 Go.AI.tB v8 fun (b10 : Bool) ↦
 Go.AI.JoinS (Go.AI.jn Go.Proofs.Tryz.prog Go.AI.hintsZ T (142 : Nat) [Bool.true, Bool.true, Bool.false] [] K)
 [((6 : Nat), Option.some (Go.Value.pointer b4)), ((7 : Nat), Option.some (Go.Value.int Go.IntKind.i64 n7)), ((20 : Nat), Option.some (Go.Value.bool !b10))] σ9)
 (Go.AI.JoinS (Go.AI.jn Go.Proofs.Tryz.prog Go.AI.hintsZ T (142 : Nat) [Bool.true, Bool.true, Bool.false] [] K)
 [((6 : Nat), Option.some (Go.Value.pointer b4)), ((7 : Nat), Option.some (Go.Value.int Go.IntKind.i64 n7)), ((20 : Nat), Option.some (Go.Value.bool Bool.false))] σ1) := by
 intros
 kernel_rfl

theorem z142j : ∀ (T : Go.AI.Ct) (x : Option Go.Addr) (e : Int) (r20_1 : Bool) (σ : Go.AI.AS) (K : Go.Value → Go.AI.AS → Prop),
 Go.AI.jn Go.Proofs.Tryz.prog Go.AI.hintsZ T (142 : Nat) [Bool.true, Bool.true, Bool.false] [] K
 [((6 : Nat), Option.some (Go.Value.pointer x)), ((7 : Nat), Option.some (Go.Value.int Go.IntKind.i64 e)), ((20 : Nat), Option.some (Go.Value.bool r20_1))] σ =
 Go.AI.bmatch r20_1 (K (Go.Value.tuple (Array.mk [Go.Value.pointer Option.none, Go.Value.int Go.IntKind.i64 (1 : Int)])) σ)
 (K (Go.Value.tuple (Array.mk [Go.Value.pointer x, Go.Value.int Go.IntKind.i64 e])) σ) := by
 intros
 kernel_rfl

theorem z179 : ∀ (T : Go.AI.Ct) (x : Nat) (σ : Go.AI.AS) (K : Go.Value → Go.AI.AS → Prop),
 Go.AI.fw Go.Proofs.Tryz.prog Go.AI.hintsZ T (179 : Nat) [Go.Value.pointer (Option.some (Go.Addr.mk x (0 : Nat) Option.none))] σ K =
 Go.AI.ldc σ (Go.Addr.mk x ((0 : Nat) + (2 : Nat)) Option.none) fun (v0 : Go.Value) ↦
 Go.AI.tI Go.IntKind.i64 v0 fun (n1 : Int) ↦
 Go.AI.bmatch (n1 == (2 : Int)) (K (Go.Value.bool Bool.true) σ)
 (Go.AI.ldc σ (Go.Addr.mk x ((0 : Nat) + (2 : Nat)) Option.none) fun (v2 : Go.Value) ↦ Go.AI.tI Go.IntKind.i64 v2 fun (n3 : Int) ↦ K (Go.Value.bool (n3 == (3 : Int))) σ) := by
 intros
 kernel_rfl

theorem z137 : ∀ (T : Go.AI.Ct) (s : Nat) (σ : Go.AI.AS) (K : Go.Value → Go.AI.AS → Prop),
 Go.AI.fw Go.Proofs.Tryz.prog Go.AI.hintsZ T (137 : Nat) [Go.Value.pointer (Option.some (Go.Addr.mk s (0 : Nat) Option.none))] σ K =
 Go.AI.ldc σ (Go.Addr.mk s ((0 : Nat) + (2 : Nat)) Option.none) fun (v0 : Go.Value) ↦
 Go.AI.tM v0 fun (b1 : Option Nat) ↦
 Go.AI.rngM σ b1 fun (j2 : Nat) (σ3 : Go.AI.AS) ↦
 Go.AI.ALoop (Go.AI.fl Go.Proofs.Tryz.prog Go.AI.hintsZ T (137 : Nat) [Bool.true, Bool.true, Bool.true, Bool.false, Bool.true, Bool.false] [] K)
 [((3 : Nat), Option.some (Go.Value.int Go.IntKind.i64 (0 : Int))), ((12 : Nat), Option.some (Go.Value.pointer (Option.some (Go.Addr.mk j2 (0 : Nat) Option.none))))] σ3 := by
 intros
 kernel_rfl

theorem z137l : ∀ (T : Go.AI.Ct) (n : Int) (r12_1 : Nat) (X : Go.AI.Regs → Go.AI.AS → Prop) (σ : Go.AI.AS) (K : Go.Value → Go.AI.AS → Prop),
 Go.AI.fl Go.Proofs.Tryz.prog Go.AI.hintsZ T (137 : Nat) [Bool.true, Bool.true, Bool.true, Bool.false, Bool.true, Bool.false] [] K X
 [((3 : Nat), Option.some (Go.Value.int Go.IntKind.i64 n)), ((12 : Nat), Option.some (Go.Value.pointer (Option.some (Go.Addr.mk r12_1 (0 : Nat) Option.none))))] σ =
 Go.AI.mnext σ r12_1 fun (r0 : Option (Go.Value × Go.Value)) (σ1 : Go.AI.AS) ↦
 Go.AI.onNx r0
 (fun (k2 v3 : Go.Value) ↦
 Go.AI.mentry σ1 r12_1 fun (k4 v5 : Go.Value) ↦
 Go.AI.tP v5 fun (b6 : Option Go.Addr) ↦
 Go.AI.pSome b6 fun (a7 : Go.Addr) ↦
 Go.AI.ldc σ1 (Go.Addr.add a7 (0 : Nat)) fun (v8 : Go.Value) ↦
 Go.AI.tL (1 : Nat) v8 fun (s9 : Go.AI.Sl) ↦
 X
 [((3 : Nat), Option.some (Go.Value.int Go.IntKind.i64 (Go.IntKind.wrap Go.IntKind.i64 (n + (↑(Go.AI.Sl.n s9) : Int))))),
 ((12 : Nat), Option.some (Go.Value.pointer (Option.some (Go.Addr.mk r12_1 (0 : Nat) Option.none))))]
 σ1)
 (K (Go.Value.int Go.IntKind.i64 n) σ1) := by
 intros
 kernel_rfl

theorem z99 : ∀ (T : Go.AI.Ct) (s : Nat) (n place r3_1 : Int) (σ : Go.AI.AS) (K : Go.Value → Go.AI.AS → Prop),
 Go.AI.fw Go.Proofs.Tryz.prog Go.AI.hintsZ T (99 : Nat)
 [Go.Value.pointer (Option.some (Go.Addr.mk s (0 : Nat) Option.none)), Go.Value.int Go.IntKind.i64 n, Go.Value.int Go.IntKind.i64 place, Go.Value.int Go.IntKind.i64 r3_1] σ K =
 T (135 : Nat) [Go.Value.pointer (Option.some (Go.Addr.mk s (0 : Nat) Option.none)), Go.Value.int Go.IntKind.i64 n] σ fun (v0 : Go.Value) (σ1 : Go.AI.AS) ↦
 Go.AI.tTup v0 fun (l2 : List Go.Value) ↦
 Go.AI.pSome l2[(0 : Nat)]? fun (u3 : Go.Value) ↦
 Go.AI.tP u3 fun (b4 : Option Go.Addr) ↦
 Go.AI.tTup v0 fun (l5 : List Go.Value) ↦
 Go.AI.pSome l5[(1 : Nat)]? fun (u6 : Go.Value) ↦
 Go.AI.tI Go.IntKind.i64 u6 fun (n7 : Int) ↦
 Go.AI.bmatch (n7 != (0 : Int)) (K (Go.Value.int Go.IntKind.i64 n7) σ1)
 (Go.AI.bmatch (r3_1 == (0 : Int))
 (Go.AI.JoinS (Go.AI.jn Go.Proofs.Tryz.prog Go.AI.hintsZ T (99 : Nat) [Bool.true, Bool.true, Bool.true, Bool.true] [] K)
 [((2 : Nat), Option.some (Go.Value.int Go.IntKind.i64 place)), ((9 : Nat), Option.some (Go.Value.pointer b4)), ((11 : Nat), Option.some (Go.Value.int Go.IntKind.i64 (0 : Int)))] σ1)
 (Go.AI.bmatch (r3_1 == (1 : Int))
 (Go.AI.pSome b4 fun (a8 : Go.Addr) ↦
 Go.AI.ldc σ1 (Go.Addr.mk (Go.Addr.block a8) (Go.Addr.off a8 + (3 : Nat)) Option.none) fun (v9 : Go.Value) ↦
 Go.AI.tI Go.IntKind.i64 v9 fun (n10 : Int) ↦
 Go.AI.JoinS (Go.AI.jn Go.Proofs.Tryz.prog Go.AI.hintsZ T (99 : Nat) [Bool.true, Bool.true, Bool.true, Bool.true] [] K)
 [((2 : Nat), Option.some (Go.Value.int Go.IntKind.i64 place)), ((9 : Nat), Option.some (Go.Value.pointer b4)), ((11 : Nat), Option.some (Go.Value.int Go.IntKind.i64 n10))] σ1)
 (Go.AI.bmatch (r3_1 == (2 : Int))
 (Go.AI.pSome b4 fun (a11 : Go.Addr) ↦
 Go.AI.ldc σ1 (Go.Addr.add a11 (0 : Nat)) fun (v12 : Go.Value) ↦
 Go.AI.tIf v12
 (fun (t13 : Nat) (u14 : Go.Value) ↦
 Go.AI.pSome (Go.AI.methodOf Go.Proofs.Tryz.prog t13 "grotto/shelf.size") fun (f15 : Go.FuncId) ↦
 T f15 [u14] σ1 fun (v16 : Go.Value) (σ17 : Go.AI.AS) ↦
 Go.AI.tI Go.IntKind.i64 v16 fun (n18 : Int) ↦
 Go.AI.JoinS (Go.AI.jn Go.Proofs.Tryz.prog Go.AI.hintsZ T (99 : Nat) [Bool.true, Bool.true, Bool.true, Bool.true] [] K)
 [((2 : Nat), Option.some (Go.Value.int Go.IntKind.i64 place)), ((9 : Nat), Option.some (Go.Value.pointer b4)), ((11 : Nat), Option.some (Go.Value.int Go.IntKind.i64 n18))] σ17)
 False)
 (K (Go.Value.int Go.IntKind.i64 (1 : Int)) σ1)))) := by
 intros
 kernel_rfl

theorem z99j : ∀ (T : Go.AI.Ct) (place : Int) (x : Nat) (base : Int) (σ : Go.AI.AS) (K : Go.Value → Go.AI.AS → Prop),
 Go.AI.jn Go.Proofs.Tryz.prog Go.AI.hintsZ T (99 : Nat) [Bool.true, Bool.true, Bool.true, Bool.true] [] K
 [((2 : Nat), Option.some (Go.Value.int Go.IntKind.i64 place)), ((9 : Nat), Option.some (Go.Value.pointer (Option.some (Go.Addr.mk x (0 : Nat) Option.none)))),
 ((11 : Nat), Option.some (Go.Value.int Go.IntKind.i64 base))]
 σ =
 Go.AI.ldc σ (Go.Addr.mk x (0 : Nat) Option.none) fun (v0 : Go.Value) ↦
 Go.AI.tIf v0
 (fun (t1 : Nat) (u2 : Go.Value) ↦
 Go.AI.pSome (Go.AI.methodOf Go.Proofs.Tryz.prog t1 "grotto/shelf.size") fun (f3 : Go.FuncId) ↦
 T f3 [u2] σ fun (v4 : Go.Value) (σ5 : Go.AI.AS) ↦
 Go.AI.tI Go.IntKind.i64 v4 fun (n6 : Int) ↦
 Go.AI.put1 σ5 (Go.Addr.mk x ((0 : Nat) + (3 : Nat)) Option.none)
 (Go.Value.int Go.IntKind.i64
 (Go.IntKind.wrap Go.IntKind.i64 (base + Go.AI.imax (Go.IntKind.wrap Go.IntKind.i64 ((0 : Int) - base)) (Go.AI.imin place (Go.IntKind.wrap Go.IntKind.i64 (n6 - base))))))
 fun (σ7 : Go.AI.AS) ↦ K (Go.Value.int Go.IntKind.i64 (0 : Int)) σ7)
 False := by
 intros
 kernel_rfl

theorem z162 : ∀ (T : Go.AI.Ct) (s : Nat) (n most : Int) (σ : Go.AI.AS) (K : Go.Value → Go.AI.AS → Prop),
 Go.AI.fw Go.Proofs.Tryz.prog Go.AI.hintsZ T (162 : Nat) [Go.Value.pointer (Option.some (Go.Addr.mk s (0 : Nat) Option.none)), Go.Value.int Go.IntKind.i64 n, Go.Value.int Go.IntKind.i64 most] σ K =
 T (142 : Nat) [Go.Value.pointer (Option.some (Go.Addr.mk s (0 : Nat) Option.none)), Go.Value.int Go.IntKind.i64 n] σ fun (v0 : Go.Value) (σ1 : Go.AI.AS) ↦
 Go.AI.tTup v0 fun (l2 : List Go.Value) ↦
 Go.AI.pSome l2[(0 : Nat)]? fun (u3 : Go.Value) ↦
 Go.AI.tP u3 fun (b4 : Option Go.Addr) ↦
 Go.AI.tTup v0 fun (l5 : List Go.Value) ↦
 Go.AI.pSome l5[(1 : Nat)]? fun (u6 : Go.Value) ↦
 Go.AI.tI Go.IntKind.i64 u6 fun (n7 : Int) ↦
 Go.AI.bmatch (n7 != (0 : Int)) (K (Go.Value.tuple (Array.mk [Go.Value.slice Option.none (0 : Nat) (0 : Nat), Go.Value.int Go.IntKind.i64 n7])) σ1)
 (Go.AI.ALoop (Go.AI.fl Go.Proofs.Tryz.prog Go.AI.hintsZ T (162 : Nat) [Bool.true, Bool.true, Bool.true, Bool.false, Bool.false] [] K)
 [((0 : Nat), Option.some (Go.Value.pointer (Option.some (Go.Addr.mk s (0 : Nat) Option.none)))), ((1 : Nat), Option.some (Go.Value.int Go.IntKind.i64 n)),
 ((2 : Nat), Option.some (Go.Value.int Go.IntKind.i64 most)), ((10 : Nat), Option.some (Go.Value.slice Option.none (0 : Nat) (0 : Nat)))]
 σ1) := by
 intros
 kernel_rfl

theorem z162j : ∀ (T : Go.AI.Ct) (la : Option Go.Addr) (ln le : Nat) (σ : Go.AI.AS) (K : Go.Value → Go.AI.AS → Prop),
 Go.AI.jn Go.Proofs.Tryz.prog Go.AI.hintsZ T (162 : Nat) [Bool.true, Bool.true, Bool.true] [] K [((10 : Nat), Option.some (Go.Value.slice la ln le))] σ =
 K (Go.Value.tuple (Array.mk [Go.Value.slice la ln le, Go.Value.int Go.IntKind.i64 (0 : Int)])) σ := by
 intros
 kernel_rfl

theorem z162l : ∀ (T : Go.AI.Ct) (s : Nat) (n most : Int) (la : Option Go.Addr) (ln le : Nat) (X : Go.AI.Regs → Go.AI.AS → Prop) (σ : Go.AI.AS) (K : Go.Value → Go.AI.AS → Prop),
 Go.AI.fl Go.Proofs.Tryz.prog Go.AI.hintsZ T (162 : Nat) [Bool.true, Bool.true, Bool.true, Bool.false, Bool.false] [] K X
 [((0 : Nat), Option.some (Go.Value.pointer (Option.some (Go.Addr.mk s (0 : Nat) Option.none)))), ((1 : Nat), Option.some (Go.Value.int Go.IntKind.i64 n)),
 ((2 : Nat), Option.some (Go.Value.int Go.IntKind.i64 most)), ((10 : Nat), Option.some (Go.Value.slice la ln le))]
 σ =
 Go.AI.bmatch (Decidable.decide ((↑ln : Int) < most))
 (T (81 : Nat) [Go.Value.pointer (Option.some (Go.Addr.mk s (0 : Nat) Option.none)), Go.Value.int Go.IntKind.i64 n] σ fun (v0 : Go.Value) (σ1 : Go.AI.AS) ↦
 Go.AI.tTup v0 fun (l2 : List Go.Value) ↦
 Go.AI.pSome l2[(0 : Nat)]? fun (u3 : Go.Value) ↦
 Go.AI.tI Go.IntKind.u32 u3 fun (n4 : Int) ↦
 Go.AI.tTup v0 fun (l5 : List Go.Value) ↦
 Go.AI.pSome l5[(1 : Nat)]? fun (u6 : Go.Value) ↦
 Go.AI.tB u6 fun (b7 : Bool) ↦
 Go.AI.tTup v0 fun (l8 : List Go.Value) ↦
 Go.AI.pSome l8[(2 : Nat)]? fun (u9 : Go.Value) ↦
 Go.AI.tI Go.IntKind.i64 u9 fun (n10 : Int) ↦
 Go.AI.bmatch (!b7)
 (Go.AI.JoinS (Go.AI.jn Go.Proofs.Tryz.prog Go.AI.hintsZ T (162 : Nat) [Bool.true, Bool.true, Bool.true] [] K) [((10 : Nat), Option.some (Go.Value.slice la ln le))] σ1)
 (Go.AI.newAt σ1 (Go.AI.AObj.row Go.AI.RK.rw [Go.Value.int Go.IntKind.u32 n4]) fun (i11 : Nat) (σ12 : Go.AI.AS) ↦
 Go.AI.chk (Go.AI.nilOr la le (Go.AI.szOf Go.Proofs.Tryz.prog (32 : Nat)))
 (Go.AI.lds σ12 (Go.Addr.mk i11 (0 : Nat) Option.none) (1 : Nat) fun (l13 : List Go.Value) ↦
 Go.AI.appendTo σ12 (1 : Nat) (4 : Nat) (Go.AI.Sl.mk la ln) l13 (1 : Nat) fun (s14 : Go.AI.Sl) (σ15 : Go.AI.AS) ↦
 Go.AI.bmatch (n4 == (10 : Int))
 (Go.AI.JoinS (Go.AI.jn Go.Proofs.Tryz.prog Go.AI.hintsZ T (162 : Nat) [Bool.true, Bool.true, Bool.true] [] K)
 [((10 : Nat), Option.some (Go.Value.slice (Go.AI.Sl.a s14) (Go.AI.Sl.n s14) (1 : Nat)))] σ15)
 (X
 [((0 : Nat), Option.some (Go.Value.pointer (Option.some (Go.Addr.mk s (0 : Nat) Option.none)))), ((1 : Nat), Option.some (Go.Value.int Go.IntKind.i64 n)),
 ((2 : Nat), Option.some (Go.Value.int Go.IntKind.i64 most)), ((10 : Nat), Option.some (Go.Value.slice (Go.AI.Sl.a s14) (Go.AI.Sl.n s14) (1 : Nat)))]
 σ15))))
 (Go.AI.JoinS (Go.AI.jn Go.Proofs.Tryz.prog Go.AI.hintsZ T (162 : Nat) [Bool.true, Bool.true, Bool.true] [] K) [((10 : Nat), Option.some (Go.Value.slice la ln le))] σ) := by
 intros
 kernel_rfl

end Go.AI
end
section
/- The conditions ahead of the calls of the program's functions, reckoned as far as they go (equations that the kernel checks); no condition. -/
set_option maxRecDepth 1000000
set_option linter.unusedVariables false
namespace Go.AI
open Go.Proofs
theorem z78 : ∀ (T : Go.AI.Ct) (s : Nat) (n : Int) (la : Option Go.Addr) (ln : Nat) (σ : Go.AI.AS) (K : Go.Value → Go.AI.AS → Prop),
 Go.AI.fw Go.Proofs.Tryz.prog Go.AI.hintsZ T (78 : Nat) [Go.Value.pointer (Option.some (Go.Addr.mk s (0 : Nat) Option.none)), Go.Value.int Go.IntKind.i64 n, Go.Value.slice la ln (1 : Nat)] σ K =
 T (135 : Nat) [Go.Value.pointer (Option.some (Go.Addr.mk s (0 : Nat) Option.none)), Go.Value.int Go.IntKind.i64 n] σ fun (v0 : Go.Value) (σ1 : Go.AI.AS) ↦
 Go.AI.tTup v0 fun (l2 : List Go.Value) ↦
 Go.AI.pSome l2[(0 : Nat)]? fun (u3 : Go.Value) ↦
 Go.AI.tP u3 fun (b4 : Option Go.Addr) ↦
 Go.AI.tTup v0 fun (l5 : List Go.Value) ↦
 Go.AI.pSome l5[(1 : Nat)]? fun (u6 : Go.Value) ↦
 Go.AI.tI Go.IntKind.i64 u6 fun (n7 : Int) ↦
 Go.AI.bmatch (n7 != (0 : Int)) (K (Go.Value.int Go.IntKind.i64 n7) σ1)
 (T (136 : Nat) [Go.Value.pointer b4] σ1 fun (v8 : Go.Value) (σ9 : Go.AI.AS) ↦
 Go.AI.tB v8 fun (b10 : Bool) ↦
 Go.AI.bmatch (!b10) (K (Go.Value.int Go.IntKind.i64 (1 : Int)) σ9)
 (Go.AI.bmatch (Decidable.decide ((↑ln : Int) > (0 : Int)))
 (Go.AI.pSome b4 fun (a11 : Go.Addr) ↦
 Go.AI.ldc σ9 (Go.Addr.mk (Go.Addr.block a11) (Go.Addr.off a11 + (1 : Nat)) Option.none) fun (v12 : Go.Value) ↦
 Go.AI.tP v12 fun (b13 : Option Go.Addr) ↦
 Go.AI.ptrEq σ9 b13 Option.none fun (r14 : Bool) ↦
 Go.AI.bmatch (!r14)
 (Go.AI.pSome b4 fun (a15 : Go.Addr) ↦
 Go.AI.ldc σ9 (Go.Addr.add a15 (0 : Nat)) fun (v16 : Go.Value) ↦
 Go.AI.tIf v16
 (fun (t17 : Nat) (u18 : Go.Value) ↦
 Go.AI.pSome b4 fun (a19 : Go.Addr) ↦
 Go.AI.ldc σ9 (Go.Addr.mk (Go.Addr.block a19) (Go.Addr.off a19 + (3 : Nat)) Option.none) fun (v20 : Go.Value) ↦
 Go.AI.tI Go.IntKind.i64 v20 fun (n21 : Int) ↦
 Go.AI.ldc σ9 (Go.Addr.mk s (0 : Nat) Option.none) fun (v22 : Go.Value) ↦
 Go.AI.tI Go.IntKind.i64 v22 fun (n23 : Int) ↦
 T (137 : Nat) [Go.Value.pointer (Option.some (Go.Addr.mk s (0 : Nat) Option.none))] σ9 fun (v24 : Go.Value) (σ25 : Go.AI.AS) ↦
 Go.AI.tI Go.IntKind.i64 v24 fun (n26 : Int) ↦
 Go.AI.ldc σ25 (Go.Addr.mk s (0 : Nat) Option.none) fun (v27 : Go.Value) ↦
 Go.AI.tI Go.IntKind.i64 v27 fun (n28 : Int) ↦
 Go.Value.int Go.IntKind.i64 n23 = Go.Value.int Go.IntKind.i64 n28 ∧
 Go.Value.int Go.IntKind.i64 (↑ln : Int) = Go.Value.int Go.IntKind.i64 (↑ln : Int) ∧
 Go.AI.ldc σ25 (Go.Addr.mk (Go.Addr.block a19) (Go.Addr.off a19 + (3 : Nat)) Option.none) fun (v29 : Go.Value) ↦
 Go.AI.tI Go.IntKind.i64 v29 fun (n30 : Int) ↦
 Go.Value.int Go.IntKind.i64 n21 = Go.Value.int Go.IntKind.i64 n30 ∧
 Go.AI.ldc σ25 (Go.Addr.add a15 (0 : Nat)) fun (v31 : Go.Value) ↦
 Go.AI.tIf v31
 (fun (t32 : Nat) (u33 : Go.Value) ↦
 Go.Value.iface t17 u18 = Go.Value.iface t32 u33 ∧
 Go.AI.pSome (Go.AI.methodOf Go.Proofs.Tryz.prog t17 "grotto/shelf.more") fun (f34 : Go.FuncId) ↦
 T f34 [u18, Go.Value.int Go.IntKind.i64 (Go.IntKind.wrap Go.IntKind.i64 (n21 + (↑ln : Int)))] σ25
 fun (v35 : Go.Value) (σ36 : Go.AI.AS) ↦
 Go.AI.tI Go.IntKind.i64 v35 fun (n37 : Int) ↦
 Go.AI.ldc σ36 (Go.Addr.mk s (0 : Nat) Option.none) fun (v38 : Go.Value) ↦
 Go.AI.tI Go.IntKind.i64 v38 fun (n39 : Int) ↦
 Go.Value.int Go.IntKind.i64 n23 = Go.Value.int Go.IntKind.i64 n39 ∧
 Go.AI.JoinS
 (Go.AI.jn Go.Proofs.Tryz.prog Go.AI.hintsZ T (78 : Nat)
 [Bool.true, Bool.true, Bool.false, Bool.false, Bool.true, Bool.true, Bool.true, Bool.true] [] K)
 [((2 : Nat), Option.some (Go.Value.slice la ln (1 : Nat))), ((7 : Nat), Option.some (Go.Value.pointer b4)),
 ((25 : Nat), Option.some (Go.Value.bool (Decidable.decide (Go.IntKind.wrap Go.IntKind.i64 (n26 + n37) > n23))))]
 σ36)
 (Go.Value.iface t17 u18 = Go.Value.nilIface ∧
 Go.AI.pSome (Go.AI.methodOf Go.Proofs.Tryz.prog t17 "grotto/shelf.more") fun (f40 : Go.FuncId) ↦
 T f40 [u18, Go.Value.int Go.IntKind.i64 (Go.IntKind.wrap Go.IntKind.i64 (n21 + (↑ln : Int)))] σ25
 fun (v41 : Go.Value) (σ42 : Go.AI.AS) ↦
 Go.AI.tI Go.IntKind.i64 v41 fun (n43 : Int) ↦
 Go.AI.ldc σ42 (Go.Addr.mk s (0 : Nat) Option.none) fun (v44 : Go.Value) ↦
 Go.AI.tI Go.IntKind.i64 v44 fun (n45 : Int) ↦
 Go.Value.int Go.IntKind.i64 n23 = Go.Value.int Go.IntKind.i64 n45 ∧
 Go.AI.JoinS
 (Go.AI.jn Go.Proofs.Tryz.prog Go.AI.hintsZ T (78 : Nat)
 [Bool.true, Bool.true, Bool.false, Bool.false, Bool.true, Bool.true, Bool.true, Bool.true] [] K)
 [((2 : Nat), Option.some (Go.Value.slice la ln (1 : Nat))), ((7 : Nat), Option.some (Go.Value.pointer b4)),
 ((25 : Nat), Option.some (Go.Value.bool (Decidable.decide (Go.IntKind.wrap Go.IntKind.i64 (n26 + n43) > n23))))]
 σ42))
 (Go.AI.pSome b4 fun (a46 : Go.Addr) ↦
 Go.AI.ldc σ9 (Go.Addr.mk (Go.Addr.block a46) (Go.Addr.off a46 + (3 : Nat)) Option.none) fun (v47 : Go.Value) ↦ Go.AI.tI Go.IntKind.i64 v47 fun (n48 : Int) ↦ False))
 (Go.AI.JoinS (Go.AI.jn Go.Proofs.Tryz.prog Go.AI.hintsZ T (78 : Nat) [Bool.true, Bool.true, Bool.false, Bool.false, Bool.true, Bool.true, Bool.true, Bool.true] [] K)
 [((2 : Nat), Option.some (Go.Value.slice la ln (1 : Nat))), ((7 : Nat), Option.some (Go.Value.pointer b4)), ((25 : Nat), Option.some (Go.Value.bool Bool.false))] σ9))
 (Go.AI.JoinS (Go.AI.jn Go.Proofs.Tryz.prog Go.AI.hintsZ T (78 : Nat) [Bool.true, Bool.true, Bool.false, Bool.false, Bool.true, Bool.true, Bool.true, Bool.true] [] K)
 [((2 : Nat), Option.some (Go.Value.slice la ln (1 : Nat))), ((7 : Nat), Option.some (Go.Value.pointer b4)), ((25 : Nat), Option.some (Go.Value.bool Bool.false))] σ9))) := by
 intros
 kernel_rfl

theorem z78j : ∀ (T : Go.AI.Ct) (la : Option Go.Addr) (ln le x : Nat) (r25_1 : Bool) (σ : Go.AI.AS) (K : Go.Value → Go.AI.AS → Prop),
 Go.AI.jn Go.Proofs.Tryz.prog Go.AI.hintsZ T (78 : Nat) [Bool.true, Bool.true, Bool.false, Bool.false, Bool.true, Bool.true, Bool.true, Bool.true] [] K
 [((2 : Nat), Option.some (Go.Value.slice la ln le)), ((7 : Nat), Option.some (Go.Value.pointer (Option.some (Go.Addr.mk x (0 : Nat) Option.none)))), ((25 : Nat), Option.some (Go.Value.bool r25_1))] σ =
 Go.AI.bmatch r25_1 (K (Go.Value.int Go.IntKind.i64 (7 : Int)) σ)
 (Go.AI.ALoop (Go.AI.fl Go.Proofs.Tryz.prog Go.AI.hintsZ T (78 : Nat) [Bool.true, Bool.true, Bool.true, Bool.false, Bool.true, Bool.false] [] K)
 [((2 : Nat), Option.some (Go.Value.slice la ln le)), ((7 : Nat), Option.some (Go.Value.pointer (Option.some (Go.Addr.mk x (0 : Nat) Option.none)))),
 ((60 : Nat), Option.some (Go.Value.slice la ln le)), ((61 : Nat), Option.some (Go.Value.int Go.IntKind.i64 (↑ln : Int))), ((62 : Nat), Option.some (Go.Value.int Go.IntKind.i64 (0 : Int)))]
 σ) := by
 intros
 kernel_rfl

theorem z78l : ∀ (T : Go.AI.Ct) (la : Option Go.Addr) (ln le x : Nat) (r60a_1 : Option Go.Addr) (r60n_1 r60e_1 : Nat) (r61_1 r62_1 : Int) (X : Go.AI.Regs → Go.AI.AS → Prop) (σ : Go.AI.AS)
 (K : Go.Value → Go.AI.AS → Prop),
 Go.AI.fl Go.Proofs.Tryz.prog Go.AI.hintsZ T (78 : Nat) [Bool.true, Bool.true, Bool.true, Bool.false, Bool.true, Bool.false] [] K X
 [((2 : Nat), Option.some (Go.Value.slice la ln le)), ((7 : Nat), Option.some (Go.Value.pointer (Option.some (Go.Addr.mk x (0 : Nat) Option.none)))),
 ((60 : Nat), Option.some (Go.Value.slice r60a_1 r60n_1 r60e_1)), ((61 : Nat), Option.some (Go.Value.int Go.IntKind.i64 r61_1)), ((62 : Nat), Option.some (Go.Value.int Go.IntKind.i64 r62_1))]
 σ =
 Go.AI.bmatch (Decidable.decide (r62_1 < r61_1))
 (Go.AI.req ((0 : Int) ≤ r62_1)
 (Go.AI.req (r62_1 < (↑r60n_1 : Int))
 (Go.AI.pSome r60a_1 fun (a0 : Go.Addr) ↦
 Go.AI.req (r60e_1 = Go.AI.szOf Go.Proofs.Tryz.prog (32 : Nat))
 (Go.AI.ldc σ (Go.AI.aadd a0 (Int.toNat r62_1 * Go.AI.szOf Go.Proofs.Tryz.prog (32 : Nat))) fun (v1 : Go.Value) ↦
 Go.AI.tI Go.IntKind.u32 v1 fun (n2 : Int) ↦
 Go.AI.ldc σ (Go.Addr.mk x (0 : Nat) Option.none) fun (v3 : Go.Value) ↦
 Go.AI.tIf v3
 (fun (t4 : Nat) (u5 : Go.Value) ↦
 Go.AI.ldc σ (Go.Addr.mk x ((0 : Nat) + (3 : Nat)) Option.none) fun (v6 : Go.Value) ↦
 Go.AI.tI Go.IntKind.i64 v6 fun (n7 : Int) ↦
 Go.AI.pSome (Go.AI.methodOf Go.Proofs.Tryz.prog t4 "grotto/shelf.put") fun (f8 : Go.FuncId) ↦
 T f8 [u5, Go.Value.int Go.IntKind.i64 n7, Go.Value.int Go.IntKind.u32 n2] σ fun (v9 : Go.Value) (σ10 : Go.AI.AS) ↦
 Go.AI.ldc σ10 (Go.Addr.mk x ((0 : Nat) + (3 : Nat)) Option.none) fun (v11 : Go.Value) ↦
 Go.AI.tI Go.IntKind.i64 v11 fun (n12 : Int) ↦
 Go.AI.ldc σ10 (Go.Addr.mk x (0 : Nat) Option.none) fun (v13 : Go.Value) ↦
 Go.AI.tIf v13
 (fun (t14 : Nat) (u15 : Go.Value) ↦
 Go.AI.pSome (Go.AI.methodOf Go.Proofs.Tryz.prog t14 "grotto/shelf.size") fun (f16 : Go.FuncId) ↦
 T f16 [u15] σ10 fun (v17 : Go.Value) (σ18 : Go.AI.AS) ↦
 Go.AI.tI Go.IntKind.i64 v17 fun (n19 : Int) ↦
 Go.AI.ldc σ18 (Go.Addr.mk x ((0 : Nat) + (3 : Nat)) Option.none) fun (v20 : Go.Value) ↦
 Go.AI.tI Go.IntKind.i64 v20 fun (n21 : Int) ↦
 Go.Value.int Go.IntKind.i64 n12 = Go.Value.int Go.IntKind.i64 n21 ∧
 Go.AI.put1 σ18 (Go.Addr.mk x ((0 : Nat) + (3 : Nat)) Option.none) (Go.Value.int Go.IntKind.i64 (Go.AI.imin (Go.IntKind.wrap Go.IntKind.i64 (n12 + (1 : Int))) n19))
 fun (σ22 : Go.AI.AS) ↦
 X
 [((2 : Nat), Option.some (Go.Value.slice la ln le)), ((7 : Nat), Option.some (Go.Value.pointer (Option.some (Go.Addr.mk x (0 : Nat) Option.none)))),
 ((60 : Nat), Option.some (Go.Value.slice r60a_1 r60n_1 r60e_1)), ((61 : Nat), Option.some (Go.Value.int Go.IntKind.i64 r61_1)),
 ((62 : Nat), Option.some (Go.Value.int Go.IntKind.i64 (Go.IntKind.wrap Go.IntKind.i64 (r62_1 + (1 : Int)))))]
 σ22)
 False)
 (Go.AI.ldc σ (Go.Addr.mk x ((0 : Nat) + (3 : Nat)) Option.none) fun (v23 : Go.Value) ↦ Go.AI.tI Go.IntKind.i64 v23 fun (n24 : Int) ↦ False)))))
 (Go.AI.ldc σ (Go.Addr.mk x ((0 : Nat) + (5 : Nat)) Option.none) fun (v25 : Go.Value) ↦
 Go.AI.tI Go.IntKind.u32 v25 fun (n26 : Int) ↦
 Go.AI.put1 σ (Go.Addr.mk x ((0 : Nat) + (5 : Nat)) Option.none) (Go.Value.int Go.IntKind.u32 (Go.IntKind.wrap Go.IntKind.u32 (n26 + Go.IntKind.wrap Go.IntKind.u32 (↑ln : Int)))) fun (σ27 : Go.AI.AS) ↦
 K (Go.Value.int Go.IntKind.i64 (0 : Int)) σ27) := by
 intros
 kernel_rfl

theorem z71 : ∀ (T : Go.AI.Ct) (s : Nat) (name : ByteArray) (σ : Go.AI.AS) (K : Go.Value → Go.AI.AS → Prop),
 Go.AI.fw Go.Proofs.Tryz.prog Go.AI.hintsZ T (71 : Nat) [Go.Value.pointer (Option.some (Go.Addr.mk s (0 : Nat) Option.none)), Go.Value.string name] σ K =
 Go.AI.ldc σ (Go.Addr.mk s ((0 : Nat) + (2 : Nat)) Option.none) fun (v0 : Go.Value) ↦
 Go.AI.tM v0 fun (b1 : Option Nat) ↦
 Go.AI.mget σ Go.TypeDesc.string b1 (Go.Value.string name) fun (o2 : Option Go.Value) ↦
 Go.AI.tP (Option.getD o2 (Go.Value.pointer Option.none)) fun (b3 : Option Go.Addr) ↦
 Go.AI.ptrEq σ b3 Option.none fun (r4 : Bool) ↦
 Go.AI.JoinS (Go.AI.jn Go.Proofs.Tryz.prog Go.AI.hintsZ T (71 : Nat) [Bool.true, Bool.false] [] K)
 [((0 : Nat), Option.some (Go.Value.pointer (Option.some (Go.Addr.mk s (0 : Nat) Option.none)))), ((1 : Nat), Option.some (Go.Value.string name)), ((16 : Nat), Option.some (Go.Value.bool r4))] σ := by
 intros
 kernel_rfl

theorem z71j : ∀ (T : Go.AI.Ct) (s : Nat) (name : ByteArray) (r16_1 : Bool) (σ : Go.AI.AS) (K : Go.Value → Go.AI.AS → Prop),
 Go.AI.jn Go.Proofs.Tryz.prog Go.AI.hintsZ T (71 : Nat) [Bool.true, Bool.false] [] K
 [((0 : Nat), Option.some (Go.Value.pointer (Option.some (Go.Addr.mk s (0 : Nat) Option.none)))), ((1 : Nat), Option.some (Go.Value.string name)), ((16 : Nat), Option.some (Go.Value.bool r16_1))] σ =
 Go.AI.bmatch r16_1 (K (Go.Value.tuple (Array.mk [Go.Value.slice Option.none (0 : Nat) (0 : Nat), Go.Value.bool Bool.false])) σ)
 (Go.AI.newAt σ (Go.AI.AObj.row Go.AI.RK.rw []) fun (i0 : Nat) (σ1 : Go.AI.AS) ↦
 Go.AI.ldc σ1 (Go.Addr.mk s ((0 : Nat) + (2 : Nat)) Option.none) fun (v2 : Go.Value) ↦
 Go.AI.tM v2 fun (b3 : Option Nat) ↦
 Go.AI.mget σ1 Go.TypeDesc.string b3 (Go.Value.string name) fun (o4 : Option Go.Value) ↦
 Go.AI.tP (Option.getD o4 (Go.Value.pointer Option.none)) fun (b5 : Option Go.Addr) ↦
 Go.AI.pSome b5 fun (a6 : Go.Addr) ↦
 Go.AI.ldc σ1 (Go.Addr.add a6 (0 : Nat)) fun (v7 : Go.Value) ↦
 Go.AI.tL (1 : Nat) v7 fun (s8 : Go.AI.Sl) ↦
 Go.AI.srcCells σ1 (1 : Nat) (Option.some (Go.Value.slice (Go.AI.Sl.a s8) (Go.AI.Sl.n s8) (1 : Nat))) fun (m9 : Nat) (new10 : List Go.Value) ↦
 Go.AI.appendTo σ1 (1 : Nat) (1 : Nat) (Go.AI.Sl.mk (Option.some (Go.Addr.mk i0 (0 : Nat) Option.none)) (0 : Nat)) new10 m9 fun (s11 : Go.AI.Sl) (σ12 : Go.AI.AS) ↦
 K (Go.Value.tuple (Array.mk [Go.Value.slice (Go.AI.Sl.a s11) (Go.AI.Sl.n s11) (1 : Nat), Go.Value.bool Bool.true])) σ12) := by
 intros
 kernel_rfl

theorem z102 : ∀ (T : Go.AI.Ct) (s : Nat) (name : ByteArray) (σ : Go.AI.AS) (K : Go.Value → Go.AI.AS → Prop),
 Go.AI.fw Go.Proofs.Tryz.prog Go.AI.hintsZ T (102 : Nat) [Go.Value.pointer (Option.some (Go.Addr.mk s (0 : Nat) Option.none)), Go.Value.string name] σ K =
 Go.AI.ldc σ (Go.Addr.mk s ((0 : Nat) + (2 : Nat)) Option.none) fun (v0 : Go.Value) ↦
 Go.AI.tM v0 fun (b1 : Option Nat) ↦
 Go.AI.mget σ Go.TypeDesc.string b1 (Go.Value.string name) fun (o2 : Option Go.Value) ↦
 Go.AI.tP (Option.getD o2 (Go.Value.pointer Option.none)) fun (b3 : Option Go.Addr) ↦
 Go.AI.ptrEq σ b3 Option.none fun (r4 : Bool) ↦
 Go.AI.bmatch r4
 (Go.AI.JoinS (Go.AI.jn Go.Proofs.Tryz.prog Go.AI.hintsZ T (102 : Nat) [Bool.true, Bool.false] [] K)
 [((0 : Nat), Option.some (Go.Value.pointer (Option.some (Go.Addr.mk s (0 : Nat) Option.none)))), ((1 : Nat), Option.some (Go.Value.string name)), ((28 : Nat), Option.some (Go.Value.bool Bool.true))]
 σ)
 (Go.AI.ldc σ (Go.Addr.mk s ((0 : Nat) + (2 : Nat)) Option.none) fun (v5 : Go.Value) ↦
 Go.AI.tM v5 fun (b6 : Option Nat) ↦
 Go.AI.mget σ Go.TypeDesc.string b6 (Go.Value.string name) fun (o7 : Option Go.Value) ↦
 Go.AI.tP (Option.getD o7 (Go.Value.pointer Option.none)) fun (b8 : Option Go.Addr) ↦
 Go.AI.pSome b8 fun (a9 : Go.Addr) ↦
 Go.AI.ldc σ (Go.Addr.mk (Go.Addr.block a9) (Go.Addr.off a9 + (1 : Nat)) Option.none) fun (v10 : Go.Value) ↦
 Go.AI.tL (1 : Nat) v10 fun (s11 : Go.AI.Sl) ↦
 Go.AI.JoinS (Go.AI.jn Go.Proofs.Tryz.prog Go.AI.hintsZ T (102 : Nat) [Bool.true, Bool.false] [] K)
 [((0 : Nat), Option.some (Go.Value.pointer (Option.some (Go.Addr.mk s (0 : Nat) Option.none)))), ((1 : Nat), Option.some (Go.Value.string name)),
 ((28 : Nat), Option.some (Go.Value.bool (Decidable.decide ((↑(Go.AI.Sl.n s11) : Int) > (0 : Int)))))]
 σ) := by
 intros
 kernel_rfl

theorem z102j : ∀ (T : Go.AI.Ct) (s : Nat) (name : ByteArray) (r28_1 : Bool) (σ : Go.AI.AS) (K : Go.Value → Go.AI.AS → Prop),
 Go.AI.jn Go.Proofs.Tryz.prog Go.AI.hintsZ T (102 : Nat) [Bool.true, Bool.false] [] K
 [((0 : Nat), Option.some (Go.Value.pointer (Option.some (Go.Addr.mk s (0 : Nat) Option.none)))), ((1 : Nat), Option.some (Go.Value.string name)), ((28 : Nat), Option.some (Go.Value.bool r28_1))] σ =
 Go.AI.bmatch r28_1 (K (Go.Value.bool Bool.false) σ)
 (Go.AI.ldc σ (Go.Addr.mk s ((0 : Nat) + (2 : Nat)) Option.none) fun (v0 : Go.Value) ↦
 Go.AI.tM v0 fun (b1 : Option Nat) ↦ Go.AI.pSome b1 fun (i2 : Nat) ↦ Go.AI.mdel σ Go.TypeDesc.string i2 (Go.Value.string name) fun (σ3 : Go.AI.AS) ↦ K (Go.Value.bool Bool.true) σ3) := by
 intros
 kernel_rfl

theorem z197 : ∀ (T : Go.AI.Ct) (name : ByteArray) (σ : Go.AI.AS) (K : Go.Value → Go.AI.AS → Prop),
 Go.AI.fw Go.Proofs.Tryz.prog Go.AI.hintsZ T (197 : Nat) [Go.Value.string name] σ K =
 Go.AI.bmatch (Decidable.decide ((↑(ByteArray.size name) : Int) ≥ (1 : Int))) (K (Go.Value.bool (Decidable.decide ((↑(ByteArray.size name) : Int) ≤ (32 : Int)))) σ) (K (Go.Value.bool Bool.false) σ) := by
 intros
 kernel_rfl

theorem z44 : ∀ (T : Go.AI.Ct) (most : Int) (σ : Go.AI.AS) (K : Go.Value → Go.AI.AS → Prop),
 Go.AI.fw Go.Proofs.Tryz.prog Go.AI.hintsZ T (44 : Nat) [Go.Value.int Go.IntKind.i64 most] σ K =
 Go.AI.bmatch (Decidable.decide (most < (0 : Int))) (K (Go.Value.tuple (Array.mk [Go.Value.pointer Option.none, Go.Value.int Go.IntKind.i64 (1 : Int)])) σ)
 (Go.AI.bmatch (Decidable.decide (most > (1048576 : Int))) (K (Go.Value.tuple (Array.mk [Go.Value.pointer Option.none, Go.Value.int Go.IntKind.i64 (1 : Int)])) σ)
 (Go.AI.newAt σ (Go.AI.AObj.map [] (0 : Nat)) fun (i0 : Nat) (σ1 : Go.AI.AS) ↦
 Go.AI.newAt σ1 (Go.AI.AObj.map [] (0 : Nat)) fun (i2 : Nat) (σ3 : Go.AI.AS) ↦
 Go.AI.newAt σ3 (Go.AI.AObj.row Go.AI.RK.plain [Go.Value.int Go.IntKind.i64 most, Go.Value.int Go.IntKind.i64 (0 : Int), Go.Value.map (Option.some i0), Go.Value.map (Option.some i2)])
 fun (i4 : Nat) (σ5 : Go.AI.AS) ↦ K (Go.Value.tuple (Array.mk [Go.Value.pointer (Option.some (Go.Addr.mk i4 (0 : Nat) Option.none)), Go.Value.int Go.IntKind.i64 (0 : Int)])) σ5)) := by
 intros
 kernel_rfl

theorem z185 : ∀ (T : Go.AI.Ct) (s x : Nat) (σ : Go.AI.AS) (K : Go.Value → Go.AI.AS → Prop),
 Go.AI.fw Go.Proofs.Tryz.prog Go.AI.hintsZ T (185 : Nat) [Go.Value.pointer (Option.some (Go.Addr.mk s (0 : Nat) Option.none)), Go.Value.pointer (Option.some (Go.Addr.mk x (0 : Nat) Option.none))] σ K =
 Go.AI.ldc σ (Go.Addr.mk s ((0 : Nat) + (1 : Nat)) Option.none) fun (v0 : Go.Value) ↦
 Go.AI.tI Go.IntKind.i64 v0 fun (n1 : Int) ↦
 Go.AI.put1 σ (Go.Addr.mk s ((0 : Nat) + (1 : Nat)) Option.none) (Go.Value.int Go.IntKind.i64 (Go.IntKind.wrap Go.IntKind.i64 (n1 + (1 : Int)))) fun (σ2 : Go.AI.AS) ↦
 Go.AI.ldc σ2 (Go.Addr.mk s ((0 : Nat) + (3 : Nat)) Option.none) fun (v3 : Go.Value) ↦
 Go.AI.tM v3 fun (b4 : Option Nat) ↦
 Go.AI.ldc σ2 (Go.Addr.mk s ((0 : Nat) + (1 : Nat)) Option.none) fun (v5 : Go.Value) ↦
 Go.AI.tI Go.IntKind.i64 v5 fun (n6 : Int) ↦
 Go.AI.pSome b4 fun (i7 : Nat) ↦
 Go.AI.mset σ2 (Go.TypeDesc.int Go.IntKind.i64) i7 (Go.Value.int Go.IntKind.i64 n6) (Go.Value.pointer (Option.some (Go.Addr.mk x (0 : Nat) Option.none))) fun (σ8 : Go.AI.AS) ↦
 Go.AI.ldc σ8 (Go.Addr.mk s ((0 : Nat) + (1 : Nat)) Option.none) fun (v9 : Go.Value) ↦ Go.AI.tI Go.IntKind.i64 v9 fun (n10 : Int) ↦ K (Go.Value.int Go.IntKind.i64 n10) σ8 := by
 intros
 kernel_rfl

theorem z184 : ∀ (T : Go.AI.Ct) (s : Nat) (name : ByteArray) (mode : Int) (σ : Go.AI.AS) (K : Go.Value → Go.AI.AS → Prop),
 Go.AI.fw Go.Proofs.Tryz.prog Go.AI.hintsZ T (184 : Nat) [Go.Value.pointer (Option.some (Go.Addr.mk s (0 : Nat) Option.none)), Go.Value.string name, Go.Value.int Go.IntKind.i64 mode] σ K =
 Go.AI.ldc σ (Go.Addr.mk s ((0 : Nat) + (2 : Nat)) Option.none) fun (v0 : Go.Value) ↦
 Go.AI.tM v0 fun (b1 : Option Nat) ↦
 Go.AI.mget σ Go.TypeDesc.string b1 (Go.Value.string name) fun (o2 : Option Go.Value) ↦
 Go.AI.tP (Option.getD o2 (Go.Value.pointer Option.none)) fun (b3 : Option Go.Addr) ↦
 T (197 : Nat) [Go.Value.string name] σ fun (v4 : Go.Value) (σ5 : Go.AI.AS) ↦
 Go.AI.tB v4 fun (b6 : Bool) ↦
 Go.AI.bmatch (!b6)
 (Go.AI.JoinS (Go.AI.jn Go.Proofs.Tryz.prog Go.AI.hintsZ T (184 : Nat) [Bool.true, Bool.true, Bool.false, Bool.false] [] K)
 [((0 : Nat), Option.some (Go.Value.pointer (Option.some (Go.Addr.mk s (0 : Nat) Option.none)))), ((2 : Nat), Option.some (Go.Value.int Go.IntKind.i64 mode)),
 ((7 : Nat), Option.some (Go.Value.pointer b3)), ((16 : Nat), Option.some (Go.Value.bool Bool.true))]
 σ5)
 (Go.AI.bmatch (Decidable.decide (mode < (1 : Int)))
 (Go.AI.JoinS (Go.AI.jn Go.Proofs.Tryz.prog Go.AI.hintsZ T (184 : Nat) [Bool.true, Bool.true, Bool.false, Bool.false] [] K)
 [((0 : Nat), Option.some (Go.Value.pointer (Option.some (Go.Addr.mk s (0 : Nat) Option.none)))), ((2 : Nat), Option.some (Go.Value.int Go.IntKind.i64 mode)),
 ((7 : Nat), Option.some (Go.Value.pointer b3)), ((16 : Nat), Option.some (Go.Value.bool Bool.true))]
 σ5)
 (Go.AI.bmatch (Decidable.decide (mode > (5 : Int)))
 (Go.AI.JoinS (Go.AI.jn Go.Proofs.Tryz.prog Go.AI.hintsZ T (184 : Nat) [Bool.true, Bool.true, Bool.false, Bool.false] [] K)
 [((0 : Nat), Option.some (Go.Value.pointer (Option.some (Go.Addr.mk s (0 : Nat) Option.none)))), ((2 : Nat), Option.some (Go.Value.int Go.IntKind.i64 mode)),
 ((7 : Nat), Option.some (Go.Value.pointer b3)), ((16 : Nat), Option.some (Go.Value.bool Bool.true))]
 σ5)
 (Go.AI.JoinS (Go.AI.jn Go.Proofs.Tryz.prog Go.AI.hintsZ T (184 : Nat) [Bool.true, Bool.true, Bool.false, Bool.false] [] K)
 [((0 : Nat), Option.some (Go.Value.pointer (Option.some (Go.Addr.mk s (0 : Nat) Option.none)))), ((2 : Nat), Option.some (Go.Value.int Go.IntKind.i64 mode)),
 ((7 : Nat), Option.some (Go.Value.pointer b3)), ((16 : Nat), Option.some (Go.Value.bool (mode == (4 : Int))))]
 σ5))) := by
 intros
 kernel_rfl

theorem z184j : ∀ (T : Go.AI.Ct) (s : Nat) (mode : Int) (f : Option Go.Addr) (r16_1 : Bool) (σ : Go.AI.AS) (K : Go.Value → Go.AI.AS → Prop),
 Go.AI.jn Go.Proofs.Tryz.prog Go.AI.hintsZ T (184 : Nat) [Bool.true, Bool.true, Bool.false, Bool.false] [] K
 [((0 : Nat), Option.some (Go.Value.pointer (Option.some (Go.Addr.mk s (0 : Nat) Option.none)))), ((2 : Nat), Option.some (Go.Value.int Go.IntKind.i64 mode)), ((7 : Nat), Option.some (Go.Value.pointer f)),
 ((16 : Nat), Option.some (Go.Value.bool r16_1))]
 σ =
 Go.AI.bmatch r16_1 (K (Go.Value.int Go.IntKind.i64 (1 : Int)) σ)
 (Go.AI.ldc σ (Go.Addr.mk s ((0 : Nat) + (3 : Nat)) Option.none) fun (v0 : Go.Value) ↦
 Go.AI.tM v0 fun (b1 : Option Nat) ↦
 Go.AI.mlen σ b1 fun (n2 : Int) ↦
 Go.AI.bmatch (n2 == (64 : Int)) (K (Go.Value.int Go.IntKind.i64 (4 : Int)) σ)
 (Go.AI.ptrEq σ f Option.none fun (r3 : Bool) ↦
 Go.AI.bmatch r3
 (Go.AI.JoinS (Go.AI.jn Go.Proofs.Tryz.prog Go.AI.hintsZ T (184 : Nat) [Bool.true, Bool.true, Bool.false, Bool.false, Bool.true, Bool.true, Bool.true, Bool.true] [] K)
 [((0 : Nat), Option.some (Go.Value.pointer (Option.some (Go.Addr.mk s (0 : Nat) Option.none)))), ((2 : Nat), Option.some (Go.Value.int Go.IntKind.i64 mode)),
 ((7 : Nat), Option.some (Go.Value.pointer f)), ((39 : Nat), Option.some (Go.Value.bool (mode == (2 : Int))))]
 σ)
 (Go.AI.JoinS (Go.AI.jn Go.Proofs.Tryz.prog Go.AI.hintsZ T (184 : Nat) [Bool.true, Bool.true, Bool.false, Bool.false, Bool.true, Bool.true, Bool.true, Bool.true] [] K)
 [((0 : Nat), Option.some (Go.Value.pointer (Option.some (Go.Addr.mk s (0 : Nat) Option.none)))), ((2 : Nat), Option.some (Go.Value.int Go.IntKind.i64 mode)),
 ((7 : Nat), Option.some (Go.Value.pointer f)), ((39 : Nat), Option.some (Go.Value.bool Bool.false))]
 σ))) := by
 intros
 kernel_rfl

theorem z184j1 : ∀ (T : Go.AI.Ct) (s : Nat) (mode : Int) (f : Option Go.Addr) (r39_1 : Bool) (σ : Go.AI.AS) (K : Go.Value → Go.AI.AS → Prop),
 Go.AI.jn Go.Proofs.Tryz.prog Go.AI.hintsZ T (184 : Nat) [Bool.true, Bool.true, Bool.false, Bool.false, Bool.true, Bool.true, Bool.true, Bool.true] [] K
 [((0 : Nat), Option.some (Go.Value.pointer (Option.some (Go.Addr.mk s (0 : Nat) Option.none)))), ((2 : Nat), Option.some (Go.Value.int Go.IntKind.i64 mode)), ((7 : Nat), Option.some (Go.Value.pointer f)),
 ((39 : Nat), Option.some (Go.Value.bool r39_1))]
 σ =
 Go.AI.bmatch r39_1 (K (Go.Value.int Go.IntKind.i64 (5 : Int)) σ)
 (Go.AI.ptrEq σ f Option.none fun (r0 : Bool) ↦
 Go.AI.bmatch r0
 (Go.AI.ldc σ (Go.Addr.mk s ((0 : Nat) + (2 : Nat)) Option.none) fun (v1 : Go.Value) ↦
 Go.AI.tM v1 fun (b2 : Option Nat) ↦
 Go.AI.mlen σ b2 fun (n3 : Int) ↦
 Go.AI.JoinS (Go.AI.jn Go.Proofs.Tryz.prog Go.AI.hintsZ T (184 : Nat) [Bool.true, Bool.true, Bool.false, Bool.false, Bool.true, Bool.true, Bool.true, Bool.true, Bool.true, Bool.true] [] K)
 [((2 : Nat), Option.some (Go.Value.int Go.IntKind.i64 mode)), ((7 : Nat), Option.some (Go.Value.pointer f)), ((46 : Nat), Option.some (Go.Value.bool (n3 == (64 : Int))))] σ)
 (Go.AI.JoinS (Go.AI.jn Go.Proofs.Tryz.prog Go.AI.hintsZ T (184 : Nat) [Bool.true, Bool.true, Bool.false, Bool.false, Bool.true, Bool.true, Bool.true, Bool.true, Bool.true, Bool.true] [] K)
 [((2 : Nat), Option.some (Go.Value.int Go.IntKind.i64 mode)), ((7 : Nat), Option.some (Go.Value.pointer f)), ((46 : Nat), Option.some (Go.Value.bool Bool.false))] σ)) := by
 intros
 kernel_rfl

theorem z184j2 : ∀ (T : Go.AI.Ct) (mode : Int) (f : Option Go.Addr) (r46_1 : Bool) (σ : Go.AI.AS) (K : Go.Value → Go.AI.AS → Prop),
 Go.AI.jn Go.Proofs.Tryz.prog Go.AI.hintsZ T (184 : Nat) [Bool.true, Bool.true, Bool.false, Bool.false, Bool.true, Bool.true, Bool.true, Bool.true, Bool.true, Bool.true] [] K
 [((2 : Nat), Option.some (Go.Value.int Go.IntKind.i64 mode)), ((7 : Nat), Option.some (Go.Value.pointer f)), ((46 : Nat), Option.some (Go.Value.bool r46_1))] σ =
 Go.AI.bmatch r46_1 (K (Go.Value.int Go.IntKind.i64 (4 : Int)) σ)
 (Go.AI.ptrEq σ f Option.none fun (r0 : Bool) ↦
 Go.AI.bmatch r0 (K (Go.Value.int Go.IntKind.i64 (0 : Int)) σ)
 (Go.AI.pSome f fun (a1 : Go.Addr) ↦
 Go.AI.ldc σ (Go.Addr.mk (Go.Addr.block a1) (Go.Addr.off a1 + (1 : Nat)) Option.none) fun (v2 : Go.Value) ↦
 Go.AI.tL (1 : Nat) v2 fun (s3 : Go.AI.Sl) ↦
 Go.AI.ALoop (Go.AI.fl Go.Proofs.Tryz.prog Go.AI.hintsZ T (184 : Nat) [Bool.true, Bool.true, Bool.true, Bool.false, Bool.true, Bool.false] [] K)
 [((2 : Nat), Option.some (Go.Value.int Go.IntKind.i64 mode)), ((63 : Nat), Option.some (Go.Value.slice (Go.AI.Sl.a s3) (Go.AI.Sl.n s3) (1 : Nat))),
 ((64 : Nat), Option.some (Go.Value.int Go.IntKind.i64 (↑(Go.AI.Sl.n s3) : Int))), ((65 : Nat), Option.some (Go.Value.int Go.IntKind.i64 (0 : Int)))]
 σ)) := by
 intros
 kernel_rfl

theorem z184l : ∀ (T : Go.AI.Ct) (mode : Int) (r63a_1 : Option Go.Addr) (r63n_1 r63e_1 : Nat) (r64_1 r65_1 : Int) (X : Go.AI.Regs → Go.AI.AS → Prop) (σ : Go.AI.AS) (K : Go.Value → Go.AI.AS → Prop),
 Go.AI.fl Go.Proofs.Tryz.prog Go.AI.hintsZ T (184 : Nat) [Bool.true, Bool.true, Bool.true, Bool.false, Bool.true, Bool.false] [] K X
 [((2 : Nat), Option.some (Go.Value.int Go.IntKind.i64 mode)), ((63 : Nat), Option.some (Go.Value.slice r63a_1 r63n_1 r63e_1)), ((64 : Nat), Option.some (Go.Value.int Go.IntKind.i64 r64_1)),
 ((65 : Nat), Option.some (Go.Value.int Go.IntKind.i64 r65_1))]
 σ =
 Go.AI.bmatch (Decidable.decide (r65_1 < r64_1))
 (Go.AI.req ((0 : Int) ≤ r65_1)
 (Go.AI.req (r65_1 < (↑r63n_1 : Int))
 (Go.AI.pSome r63a_1 fun (a0 : Go.Addr) ↦
 Go.AI.req (r63e_1 = Go.AI.szOf Go.Proofs.Tryz.prog (213 : Nat))
 (Go.AI.ldc σ (Go.AI.aadd a0 (Int.toNat r65_1 * Go.AI.szOf Go.Proofs.Tryz.prog (213 : Nat))) fun (v1 : Go.Value) ↦
 Go.AI.tP v1 fun (b2 : Option Go.Addr) ↦
 Go.AI.pSome b2 fun (a3 : Go.Addr) ↦
 Go.AI.ldc σ (Go.Addr.mk (Go.Addr.block a3) (Go.Addr.off a3 + (2 : Nat)) Option.none) fun (v4 : Go.Value) ↦
 Go.AI.tI Go.IntKind.i64 v4 fun (n5 : Int) ↦
 Go.AI.bmatch (n5 != (2 : Int))
 (Go.AI.JoinS
 (Go.AI.jn Go.Proofs.Tryz.prog Go.AI.hintsZ T (184 : Nat)
 [Bool.true, Bool.true, Bool.true, Bool.false, Bool.true, Bool.false, Bool.false, Bool.true, Bool.true, Bool.false, Bool.false, Bool.true] [X] K)
 [((2 : Nat), Option.some (Go.Value.int Go.IntKind.i64 mode)), ((63 : Nat), Option.some (Go.Value.slice r63a_1 r63n_1 r63e_1)), ((64 : Nat), Option.some (Go.Value.int Go.IntKind.i64 r64_1)),
 ((65 : Nat), Option.some (Go.Value.int Go.IntKind.i64 r65_1)), ((77 : Nat), Option.some (Go.Value.bool Bool.true))]
 σ)
 (Go.AI.JoinS
 (Go.AI.jn Go.Proofs.Tryz.prog Go.AI.hintsZ T (184 : Nat)
 [Bool.true, Bool.true, Bool.true, Bool.false, Bool.true, Bool.false, Bool.false, Bool.true, Bool.true, Bool.false, Bool.false, Bool.true] [X] K)
 [((2 : Nat), Option.some (Go.Value.int Go.IntKind.i64 mode)), ((63 : Nat), Option.some (Go.Value.slice r63a_1 r63n_1 r63e_1)), ((64 : Nat), Option.some (Go.Value.int Go.IntKind.i64 r64_1)),
 ((65 : Nat), Option.some (Go.Value.int Go.IntKind.i64 r65_1)), ((77 : Nat), Option.some (Go.Value.bool (mode != (2 : Int))))]
 σ)))))
 (K (Go.Value.int Go.IntKind.i64 (0 : Int)) σ) := by
 intros
 kernel_rfl

theorem z184j3 : ∀ (T : Go.AI.Ct) (mode : Int) (r63a_1 : Option Go.Addr) (r63n_1 r63e_1 : Nat) (r64_1 r65_1 : Int) (r77_1 : Bool) (X : Go.AI.Regs → Go.AI.AS → Prop) (σ : Go.AI.AS) (K : Go.Value → Go.AI.AS → Prop),
 Go.AI.jn Go.Proofs.Tryz.prog Go.AI.hintsZ T (184 : Nat) [Bool.true, Bool.true, Bool.true, Bool.false, Bool.true, Bool.false, Bool.false, Bool.true, Bool.true, Bool.false, Bool.false, Bool.true] [X] K
 [((2 : Nat), Option.some (Go.Value.int Go.IntKind.i64 mode)), ((63 : Nat), Option.some (Go.Value.slice r63a_1 r63n_1 r63e_1)), ((64 : Nat), Option.some (Go.Value.int Go.IntKind.i64 r64_1)),
 ((65 : Nat), Option.some (Go.Value.int Go.IntKind.i64 r65_1)), ((77 : Nat), Option.some (Go.Value.bool r77_1))]
 σ =
 Go.AI.bmatch r77_1 (K (Go.Value.int Go.IntKind.i64 (6 : Int)) σ)
 (X
 [((2 : Nat), Option.some (Go.Value.int Go.IntKind.i64 mode)), ((63 : Nat), Option.some (Go.Value.slice r63a_1 r63n_1 r63e_1)), ((64 : Nat), Option.some (Go.Value.int Go.IntKind.i64 r64_1)),
 ((65 : Nat), Option.some (Go.Value.int Go.IntKind.i64 (Go.IntKind.wrap Go.IntKind.i64 (r65_1 + (1 : Int)))))]
 σ) := by
 intros
 kernel_rfl

end Go.AI
end
section
/- The conditions ahead of the calls of the program's functions, reckoned as far as they go (equations that the kernel checks); no condition. -/
set_option maxRecDepth 1000000
set_option linter.unusedVariables false
namespace Go.AI
open Go.Proofs
theorem z156 : ∀ (T : Go.AI.Ct) (s : Nat) (name : ByteArray) (mode : Int) (w : Bool) (σ : Go.AI.AS) (K : Go.Value → Go.AI.AS → Prop),
 Go.AI.fw Go.Proofs.Tryz.prog Go.AI.hintsZ T (156 : Nat) [Go.Value.pointer (Option.some (Go.Addr.mk s (0 : Nat) Option.none)), Go.Value.string name, Go.Value.int Go.IntKind.i64 mode, Go.Value.bool w] σ K =
 T (184 : Nat) [Go.Value.pointer (Option.some (Go.Addr.mk s (0 : Nat) Option.none)), Go.Value.string name, Go.Value.int Go.IntKind.i64 mode] σ fun (v0 : Go.Value) (σ1 : Go.AI.AS) ↦
 Go.AI.tI Go.IntKind.i64 v0 fun (n2 : Int) ↦
 Go.AI.bmatch (n2 != (0 : Int)) (K (Go.Value.tuple (Array.mk [Go.Value.int Go.IntKind.i64 (0 : Int), Go.Value.int Go.IntKind.i64 n2])) σ1)
 (Go.AI.ldc σ1 (Go.Addr.mk s ((0 : Nat) + (2 : Nat)) Option.none) fun (v3 : Go.Value) ↦
 Go.AI.tM v3 fun (b4 : Option Nat) ↦
 Go.AI.mget σ1 Go.TypeDesc.string b4 (Go.Value.string name) fun (o5 : Option Go.Value) ↦
 Go.AI.tP (Option.getD o5 (Go.Value.pointer Option.none)) fun (b6 : Option Go.Addr) ↦
 Go.AI.ptrEq σ1 b6 Option.none fun (r7 : Bool) ↦
 Go.AI.bmatch r7
 (Go.AI.ldc σ1 (Go.Addr.mk s ((0 : Nat) + (2 : Nat)) Option.none) fun (v8 : Go.Value) ↦
 Go.AI.tM v8 fun (b9 : Option Nat) ↦
 Go.AI.newAt σ1 (Go.AI.AObj.row Go.AI.RK.plain [Go.Value.slice Option.none (0 : Nat) (0 : Nat), Go.Value.slice Option.none (0 : Nat) (0 : Nat)]) fun (i10 : Nat) (σ11 : Go.AI.AS) ↦
 Go.AI.pSome b9 fun (i12 : Nat) ↦
 Go.AI.mset σ11 Go.TypeDesc.string i12 (Go.Value.string name) (Go.Value.pointer (Option.some (Go.Addr.mk i10 (0 : Nat) Option.none))) fun (σ13 : Go.AI.AS) ↦
 Go.AI.JoinS (Go.AI.jn Go.Proofs.Tryz.prog Go.AI.hintsZ T (156 : Nat) [Bool.true, Bool.true, Bool.true] [] K)
 [((0 : Nat), Option.some (Go.Value.pointer (Option.some (Go.Addr.mk s (0 : Nat) Option.none)))), ((1 : Nat), Option.some (Go.Value.string name)),
 ((2 : Nat), Option.some (Go.Value.int Go.IntKind.i64 mode)), ((3 : Nat), Option.some (Go.Value.bool w))]
 σ13)
 (Go.AI.JoinS (Go.AI.jn Go.Proofs.Tryz.prog Go.AI.hintsZ T (156 : Nat) [Bool.true, Bool.true, Bool.true] [] K)
 [((0 : Nat), Option.some (Go.Value.pointer (Option.some (Go.Addr.mk s (0 : Nat) Option.none)))), ((1 : Nat), Option.some (Go.Value.string name)),
 ((2 : Nat), Option.some (Go.Value.int Go.IntKind.i64 mode)), ((3 : Nat), Option.some (Go.Value.bool w))]
 σ1)) := by
 intros
 kernel_rfl

theorem z156j : ∀ (T : Go.AI.Ct) (s : Nat) (name : ByteArray) (mode : Int) (w : Bool) (σ : Go.AI.AS) (K : Go.Value → Go.AI.AS → Prop),
 Go.AI.jn Go.Proofs.Tryz.prog Go.AI.hintsZ T (156 : Nat) [Bool.true, Bool.true, Bool.true] [] K
 [((0 : Nat), Option.some (Go.Value.pointer (Option.some (Go.Addr.mk s (0 : Nat) Option.none)))), ((1 : Nat), Option.some (Go.Value.string name)), ((2 : Nat), Option.some (Go.Value.int Go.IntKind.i64 mode)),
 ((3 : Nat), Option.some (Go.Value.bool w))]
 σ =
 Go.AI.ldc σ (Go.Addr.mk s ((0 : Nat) + (2 : Nat)) Option.none) fun (v0 : Go.Value) ↦
 Go.AI.tM v0 fun (b1 : Option Nat) ↦
 Go.AI.mget σ Go.TypeDesc.string b1 (Go.Value.string name) fun (o2 : Option Go.Value) ↦
 Go.AI.tP (Option.getD o2 (Go.Value.pointer Option.none)) fun (b3 : Option Go.Addr) ↦
 Go.AI.bmatch (mode == (1 : Int))
 (Go.AI.pSome b3 fun (a4 : Go.Addr) ↦
 Go.AI.put1 σ (Go.Addr.add a4 (0 : Nat)) (Go.Value.slice Option.none (0 : Nat) (0 : Nat)) fun (σ5 : Go.AI.AS) ↦
 Go.AI.JoinS (Go.AI.jn Go.Proofs.Tryz.prog Go.AI.hintsZ T (156 : Nat) [Bool.true, Bool.true, Bool.true, Bool.true, Bool.true] [] K)
 [((0 : Nat), Option.some (Go.Value.pointer (Option.some (Go.Addr.mk s (0 : Nat) Option.none)))), ((2 : Nat), Option.some (Go.Value.int Go.IntKind.i64 mode)),
 ((3 : Nat), Option.some (Go.Value.bool w)), ((11 : Nat), Option.some (Go.Value.pointer b3))]
 σ5)
 (Go.AI.JoinS (Go.AI.jn Go.Proofs.Tryz.prog Go.AI.hintsZ T (156 : Nat) [Bool.true, Bool.true, Bool.true, Bool.true, Bool.true] [] K)
 [((0 : Nat), Option.some (Go.Value.pointer (Option.some (Go.Addr.mk s (0 : Nat) Option.none)))), ((2 : Nat), Option.some (Go.Value.int Go.IntKind.i64 mode)),
 ((3 : Nat), Option.some (Go.Value.bool w)), ((11 : Nat), Option.some (Go.Value.pointer b3))]
 σ) := by
 intros
 kernel_rfl

theorem z156j1 : ∀ (T : Go.AI.Ct) (s : Nat) (mode : Int) (w : Bool) (f : Nat) (σ : Go.AI.AS) (K : Go.Value → Go.AI.AS → Prop),
 Go.AI.jn Go.Proofs.Tryz.prog Go.AI.hintsZ T (156 : Nat) [Bool.true, Bool.true, Bool.true, Bool.true, Bool.true] [] K
 [((0 : Nat), Option.some (Go.Value.pointer (Option.some (Go.Addr.mk s (0 : Nat) Option.none)))), ((2 : Nat), Option.some (Go.Value.int Go.IntKind.i64 mode)), ((3 : Nat), Option.some (Go.Value.bool w)),
 ((11 : Nat), Option.some (Go.Value.pointer (Option.some (Go.Addr.mk f (0 : Nat) Option.none))))]
 σ =
 Go.AI.newAt σ
 (Go.AI.AObj.row Go.AI.RK.plain
 [Go.Value.iface (267 : Nat) (Go.Value.agg (Array.mk [Go.Value.pointer (Option.some (Go.Addr.mk f (0 : Nat) Option.none))])), Go.Value.pointer (Option.some (Go.Addr.mk f (0 : Nat) Option.none)),
 Go.Value.int Go.IntKind.i64 mode, Go.Value.int Go.IntKind.i64 (0 : Int), Go.Value.int Go.IntKind.u32 (0 : Int), Go.Value.int Go.IntKind.u32 (0 : Int)])
 fun (i0 : Nat) (σ1 : Go.AI.AS) ↦
 Go.AI.bmatch w
 (Go.AI.put1 σ1 (Go.Addr.mk i0 (0 : Nat) Option.none) (Go.Value.iface (268 : Nat) (Go.Value.agg (Array.mk [Go.Value.pointer (Option.some (Go.Addr.mk f (0 : Nat) Option.none))]))) fun (σ2 : Go.AI.AS) ↦
 Go.AI.JoinS (Go.AI.jn Go.Proofs.Tryz.prog Go.AI.hintsZ T (156 : Nat) [Bool.true, Bool.true, Bool.true, Bool.true, Bool.true, Bool.true, Bool.true] [] K)
 [((0 : Nat), Option.some (Go.Value.pointer (Option.some (Go.Addr.mk s (0 : Nat) Option.none)))), ((2 : Nat), Option.some (Go.Value.int Go.IntKind.i64 mode)),
 ((11 : Nat), Option.some (Go.Value.pointer (Option.some (Go.Addr.mk f (0 : Nat) Option.none)))), ((12 : Nat), Option.some (Go.Value.pointer (Option.some (Go.Addr.mk i0 (0 : Nat) Option.none))))]
 σ2)
 (Go.AI.JoinS (Go.AI.jn Go.Proofs.Tryz.prog Go.AI.hintsZ T (156 : Nat) [Bool.true, Bool.true, Bool.true, Bool.true, Bool.true, Bool.true, Bool.true] [] K)
 [((0 : Nat), Option.some (Go.Value.pointer (Option.some (Go.Addr.mk s (0 : Nat) Option.none)))), ((2 : Nat), Option.some (Go.Value.int Go.IntKind.i64 mode)),
 ((11 : Nat), Option.some (Go.Value.pointer (Option.some (Go.Addr.mk f (0 : Nat) Option.none)))), ((12 : Nat), Option.some (Go.Value.pointer (Option.some (Go.Addr.mk i0 (0 : Nat) Option.none))))]
 σ1) := by
 intros
 kernel_rfl

theorem z156j2 : ∀ (T : Go.AI.Ct) (s : Nat) (mode : Int) (f x : Nat) (σ : Go.AI.AS) (K : Go.Value → Go.AI.AS → Prop),
 Go.AI.jn Go.Proofs.Tryz.prog Go.AI.hintsZ T (156 : Nat) [Bool.true, Bool.true, Bool.true, Bool.true, Bool.true, Bool.true, Bool.true] [] K
 [((0 : Nat), Option.some (Go.Value.pointer (Option.some (Go.Addr.mk s (0 : Nat) Option.none)))), ((2 : Nat), Option.some (Go.Value.int Go.IntKind.i64 mode)),
 ((11 : Nat), Option.some (Go.Value.pointer (Option.some (Go.Addr.mk f (0 : Nat) Option.none)))), ((12 : Nat), Option.some (Go.Value.pointer (Option.some (Go.Addr.mk x (0 : Nat) Option.none))))]
 σ =
 Go.AI.bmatch (mode == (5 : Int))
 (Go.AI.ldc σ (Go.Addr.mk x (0 : Nat) Option.none) fun (v0 : Go.Value) ↦
 Go.AI.tIf v0
 (fun (t1 : Nat) (u2 : Go.Value) ↦
 Go.AI.pSome (Go.AI.methodOf Go.Proofs.Tryz.prog t1 "grotto/shelf.size") fun (f3 : Go.FuncId) ↦
 T f3 [u2] σ fun (v4 : Go.Value) (σ5 : Go.AI.AS) ↦
 Go.AI.tI Go.IntKind.i64 v4 fun (n6 : Int) ↦
 Go.AI.put1 σ5 (Go.Addr.mk x ((0 : Nat) + (3 : Nat)) Option.none) (Go.Value.int Go.IntKind.i64 n6) fun (σ7 : Go.AI.AS) ↦
 Go.AI.JoinS (Go.AI.jn Go.Proofs.Tryz.prog Go.AI.hintsZ T (156 : Nat) [Bool.true, Bool.true, Bool.true, Bool.true, Bool.true, Bool.true, Bool.true, Bool.true] [] K)
 [((0 : Nat), Option.some (Go.Value.pointer (Option.some (Go.Addr.mk s (0 : Nat) Option.none)))), ((11 : Nat), Option.some (Go.Value.pointer (Option.some (Go.Addr.mk f (0 : Nat) Option.none)))),
 ((12 : Nat), Option.some (Go.Value.pointer (Option.some (Go.Addr.mk x (0 : Nat) Option.none))))]
 σ7)
 False)
 (Go.AI.JoinS (Go.AI.jn Go.Proofs.Tryz.prog Go.AI.hintsZ T (156 : Nat) [Bool.true, Bool.true, Bool.true, Bool.true, Bool.true, Bool.true, Bool.true, Bool.true] [] K)
 [((0 : Nat), Option.some (Go.Value.pointer (Option.some (Go.Addr.mk s (0 : Nat) Option.none)))), ((11 : Nat), Option.some (Go.Value.pointer (Option.some (Go.Addr.mk f (0 : Nat) Option.none)))),
 ((12 : Nat), Option.some (Go.Value.pointer (Option.some (Go.Addr.mk x (0 : Nat) Option.none))))]
 σ) := by
 intros
 kernel_rfl

theorem z156j3 : ∀ (T : Go.AI.Ct) (s f x : Nat) (σ : Go.AI.AS) (K : Go.Value → Go.AI.AS → Prop),
 Go.AI.jn Go.Proofs.Tryz.prog Go.AI.hintsZ T (156 : Nat) [Bool.true, Bool.true, Bool.true, Bool.true, Bool.true, Bool.true, Bool.true, Bool.true] [] K
 [((0 : Nat), Option.some (Go.Value.pointer (Option.some (Go.Addr.mk s (0 : Nat) Option.none)))), ((11 : Nat), Option.some (Go.Value.pointer (Option.some (Go.Addr.mk f (0 : Nat) Option.none)))),
 ((12 : Nat), Option.some (Go.Value.pointer (Option.some (Go.Addr.mk x (0 : Nat) Option.none))))]
 σ =
 Go.AI.ldc σ (Go.Addr.mk f ((0 : Nat) + (1 : Nat)) Option.none) fun (v0 : Go.Value) ↦
 Go.AI.tL (1 : Nat) v0 fun (s1 : Go.AI.Sl) ↦
 Go.AI.newAt σ (Go.AI.AObj.row Go.AI.RK.rw [Go.Value.pointer (Option.some (Go.Addr.mk x (0 : Nat) Option.none))]) fun (i2 : Nat) (σ3 : Go.AI.AS) ↦
 Go.AI.lds σ3 (Go.Addr.mk i2 (0 : Nat) Option.none) (1 : Nat) fun (l4 : List Go.Value) ↦
 Go.AI.appendTo σ3 (1 : Nat) (8 : Nat) (Go.AI.Sl.mk (Go.AI.Sl.a s1) (Go.AI.Sl.n s1)) l4 (1 : Nat) fun (s5 : Go.AI.Sl) (σ6 : Go.AI.AS) ↦
 Go.AI.put1 σ6 (Go.Addr.mk f ((0 : Nat) + (1 : Nat)) Option.none) (Go.Value.slice (Go.AI.Sl.a s5) (Go.AI.Sl.n s5) (1 : Nat)) fun (σ7 : Go.AI.AS) ↦
 T (185 : Nat) [Go.Value.pointer (Option.some (Go.Addr.mk s (0 : Nat) Option.none)), Go.Value.pointer (Option.some (Go.Addr.mk x (0 : Nat) Option.none))] σ7 fun (v8 : Go.Value) (σ9 : Go.AI.AS) ↦
 Go.AI.tI Go.IntKind.i64 v8 fun (n10 : Int) ↦ K (Go.Value.tuple (Array.mk [Go.Value.int Go.IntKind.i64 n10, Go.Value.int Go.IntKind.i64 (0 : Int)])) σ9 := by
 intros
 kernel_rfl

theorem z159 : ∀ (T : Go.AI.Ct) (s : Nat) (la : Option Go.Addr) (ln : Nat) (mode : Int) (w : Bool) (σ : Go.AI.AS) (K : Go.Value → Go.AI.AS → Prop),
 Go.AI.fw Go.Proofs.Tryz.prog Go.AI.hintsZ T (159 : Nat)
 [Go.Value.pointer (Option.some (Go.Addr.mk s (0 : Nat) Option.none)), Go.Value.slice la ln (1 : Nat), Go.Value.int Go.IntKind.i64 mode, Go.Value.bool w] σ K =
 Go.AI.bmatch (Decidable.decide (mode < (1 : Int)))
 (Go.AI.JoinS (Go.AI.jn Go.Proofs.Tryz.prog Go.AI.hintsZ T (159 : Nat) [Bool.true, Bool.false, Bool.false, Bool.true, Bool.true] [] K)
 [((0 : Nat), Option.some (Go.Value.pointer (Option.some (Go.Addr.mk s (0 : Nat) Option.none)))), ((1 : Nat), Option.some (Go.Value.slice la ln (1 : Nat))),
 ((2 : Nat), Option.some (Go.Value.int Go.IntKind.i64 mode)), ((3 : Nat), Option.some (Go.Value.bool w)), ((16 : Nat), Option.some (Go.Value.bool Bool.true))]
 σ)
 (Go.AI.bmatch (Decidable.decide (mode > (3 : Int)))
 (Go.AI.JoinS (Go.AI.jn Go.Proofs.Tryz.prog Go.AI.hintsZ T (159 : Nat) [Bool.true, Bool.false, Bool.false, Bool.true, Bool.true] [] K)
 [((0 : Nat), Option.some (Go.Value.pointer (Option.some (Go.Addr.mk s (0 : Nat) Option.none)))), ((1 : Nat), Option.some (Go.Value.slice la ln (1 : Nat))),
 ((2 : Nat), Option.some (Go.Value.int Go.IntKind.i64 mode)), ((3 : Nat), Option.some (Go.Value.bool w)), ((16 : Nat), Option.some (Go.Value.bool Bool.true))]
 σ)
 (Go.AI.JoinS (Go.AI.jn Go.Proofs.Tryz.prog Go.AI.hintsZ T (159 : Nat) [Bool.true, Bool.false, Bool.false, Bool.true, Bool.true] [] K)
 [((0 : Nat), Option.some (Go.Value.pointer (Option.some (Go.Addr.mk s (0 : Nat) Option.none)))), ((1 : Nat), Option.some (Go.Value.slice la ln (1 : Nat))),
 ((2 : Nat), Option.some (Go.Value.int Go.IntKind.i64 mode)), ((3 : Nat), Option.some (Go.Value.bool w)), ((16 : Nat), Option.some (Go.Value.bool (Decidable.decide ((↑ln : Int) > (4096 : Int)))))]
 σ)) := by
 intros
 kernel_rfl

theorem z159j : ∀ (T : Go.AI.Ct) (s : Nat) (la : Option Go.Addr) (ln le : Nat) (mode : Int) (w r16_1 : Bool) (σ : Go.AI.AS) (K : Go.Value → Go.AI.AS → Prop),
 Go.AI.jn Go.Proofs.Tryz.prog Go.AI.hintsZ T (159 : Nat) [Bool.true, Bool.false, Bool.false, Bool.true, Bool.true] [] K
 [((0 : Nat), Option.some (Go.Value.pointer (Option.some (Go.Addr.mk s (0 : Nat) Option.none)))), ((1 : Nat), Option.some (Go.Value.slice la ln le)),
 ((2 : Nat), Option.some (Go.Value.int Go.IntKind.i64 mode)), ((3 : Nat), Option.some (Go.Value.bool w)), ((16 : Nat), Option.some (Go.Value.bool r16_1))]
 σ =
 Go.AI.bmatch r16_1 (K (Go.Value.tuple (Array.mk [Go.Value.int Go.IntKind.i64 (0 : Int), Go.Value.int Go.IntKind.i64 (1 : Int)])) σ)
 (Go.AI.ldc σ (Go.Addr.mk s ((0 : Nat) + (3 : Nat)) Option.none) fun (v0 : Go.Value) ↦
 Go.AI.tM v0 fun (b1 : Option Nat) ↦
 Go.AI.mlen σ b1 fun (n2 : Int) ↦
 Go.AI.bmatch (n2 == (64 : Int)) (K (Go.Value.tuple (Array.mk [Go.Value.int Go.IntKind.i64 (0 : Int), Go.Value.int Go.IntKind.i64 (4 : Int)])) σ)
 (Go.AI.req ((0 : Int) ≤ (↑ln : Int))
 (Go.AI.req ((↑ln : Int) ≤ (↑ln : Int))
 (Go.AI.req ((↑ln : Int) * (↑(Go.AI.bytesOf Go.Proofs.Tryz.prog (32 : Nat)) : Int) ≤ (140737488355328 : Int))
 (Go.AI.newAt σ (Go.AI.AObj.row Go.AI.RK.rw (List.flatten (List.replicate (Int.toNat (↑ln : Int)) (Go.AI.valCells (Go.Value.int Go.IntKind.u32 (0 : Int)))))) fun (i3 : Nat) (σ4 : Go.AI.AS) ↦
 Go.AI.newAt σ4 (Go.AI.AObj.row Go.AI.RK.plain [Go.Value.slice (Option.some (Go.Addr.mk i3 (0 : Nat) Option.none)) (Int.toNat (↑ln : Int)) (1 : Nat), Go.Value.bool w])
 fun (i5 : Nat) (σ6 : Go.AI.AS) ↦
 Go.AI.ALoop (Go.AI.fl Go.Proofs.Tryz.prog Go.AI.hintsZ T (159 : Nat) [Bool.true, Bool.true, Bool.true, Bool.false, Bool.true, Bool.false] [] K)
 [((0 : Nat), Option.some (Go.Value.pointer (Option.some (Go.Addr.mk s (0 : Nat) Option.none)))), ((2 : Nat), Option.some (Go.Value.int Go.IntKind.i64 mode)),
 ((10 : Nat), Option.some (Go.Value.pointer (Option.some (Go.Addr.mk i5 (0 : Nat) Option.none)))), ((41 : Nat), Option.some (Go.Value.slice la ln le)),
 ((42 : Nat), Option.some (Go.Value.int Go.IntKind.i64 (↑ln : Int))), ((43 : Nat), Option.some (Go.Value.int Go.IntKind.i64 (0 : Int)))]
 σ6))))) := by
 intros
 kernel_rfl

theorem z159l : ∀ (T : Go.AI.Ct) (s : Nat) (mode : Int) (b : Nat) (r41a_1 : Option Go.Addr) (r41n_1 r41e_1 : Nat) (r42_1 r43_1 : Int) (X : Go.AI.Regs → Go.AI.AS → Prop) (σ : Go.AI.AS) (K : Go.Value → Go.AI.AS → Prop),
 Go.AI.fl Go.Proofs.Tryz.prog Go.AI.hintsZ T (159 : Nat) [Bool.true, Bool.true, Bool.true, Bool.false, Bool.true, Bool.false] [] K X
 [((0 : Nat), Option.some (Go.Value.pointer (Option.some (Go.Addr.mk s (0 : Nat) Option.none)))), ((2 : Nat), Option.some (Go.Value.int Go.IntKind.i64 mode)),
 ((10 : Nat), Option.some (Go.Value.pointer (Option.some (Go.Addr.mk b (0 : Nat) Option.none)))), ((41 : Nat), Option.some (Go.Value.slice r41a_1 r41n_1 r41e_1)),
 ((42 : Nat), Option.some (Go.Value.int Go.IntKind.i64 r42_1)), ((43 : Nat), Option.some (Go.Value.int Go.IntKind.i64 r43_1))]
 σ =
 Go.AI.bmatch (Decidable.decide (r43_1 < r42_1))
 (Go.AI.req ((0 : Int) ≤ r43_1)
 (Go.AI.req (r43_1 < (↑r41n_1 : Int))
 (Go.AI.pSome r41a_1 fun (a0 : Go.Addr) ↦
 Go.AI.req (r41e_1 = Go.AI.szOf Go.Proofs.Tryz.prog (32 : Nat))
 (Go.AI.ldc σ (Go.AI.aadd a0 (Int.toNat r43_1 * Go.AI.szOf Go.Proofs.Tryz.prog (32 : Nat))) fun (v1 : Go.Value) ↦
 Go.AI.tI Go.IntKind.u32 v1 fun (n2 : Int) ↦
 T (187 : Nat) [Go.Value.pointer (Option.some (Go.Addr.mk b (0 : Nat) Option.none)), Go.Value.int Go.IntKind.i64 r43_1, Go.Value.int Go.IntKind.u32 n2] σ fun (v3 : Go.Value) (σ4 : Go.AI.AS) ↦
 X
 [((0 : Nat), Option.some (Go.Value.pointer (Option.some (Go.Addr.mk s (0 : Nat) Option.none)))), ((2 : Nat), Option.some (Go.Value.int Go.IntKind.i64 mode)),
 ((10 : Nat), Option.some (Go.Value.pointer (Option.some (Go.Addr.mk b (0 : Nat) Option.none)))), ((41 : Nat), Option.some (Go.Value.slice r41a_1 r41n_1 r41e_1)),
 ((42 : Nat), Option.some (Go.Value.int Go.IntKind.i64 r42_1)), ((43 : Nat), Option.some (Go.Value.int Go.IntKind.i64 (Go.IntKind.wrap Go.IntKind.i64 (r43_1 + (1 : Int)))))]
 σ4))))
 (Go.AI.newAt σ
 (Go.AI.AObj.row Go.AI.RK.plain
 [Go.Value.iface (270 : Nat) (Go.Value.pointer (Option.some (Go.Addr.mk b (0 : Nat) Option.none))), Go.Value.pointer Option.none, Go.Value.int Go.IntKind.i64 mode, Go.Value.int Go.IntKind.i64 (0 : Int),
 Go.Value.int Go.IntKind.u32 (0 : Int), Go.Value.int Go.IntKind.u32 (0 : Int)])
 fun (i5 : Nat) (σ6 : Go.AI.AS) ↦
 T (185 : Nat) [Go.Value.pointer (Option.some (Go.Addr.mk s (0 : Nat) Option.none)), Go.Value.pointer (Option.some (Go.Addr.mk i5 (0 : Nat) Option.none))] σ6 fun (v7 : Go.Value) (σ8 : Go.AI.AS) ↦
 Go.AI.tI Go.IntKind.i64 v7 fun (n9 : Int) ↦ K (Go.Value.tuple (Array.mk [Go.Value.int Go.IntKind.i64 n9, Go.Value.int Go.IntKind.i64 (0 : Int)])) σ8) := by
 intros
 kernel_rfl

theorem z188 : ∀ (T : Go.AI.Ct) (sa : Option Go.Addr) (sn : Nat) (del : Go.Value) (σ : Go.AI.AS) (K : Go.Value → Go.AI.AS → Prop),
 Go.AI.fw Go.Proofs.Tryz.prog Go.AI.hintsZ T (188 : Nat) [Go.Value.slice sa sn (1 : Nat), del] σ K =
 T (200 : Nat) [Go.Value.slice sa sn (1 : Nat), del] σ fun (v0 : Go.Value) (σ1 : Go.AI.AS) ↦
 Go.AI.tI Go.IntKind.i64 v0 fun (n2 : Int) ↦
 Go.AI.bmatch (n2 == (-1 : Int)) (K (Go.Value.slice sa sn (1 : Nat)) σ1)
 (Go.AI.ALoop (Go.AI.fl Go.Proofs.Tryz.prog Go.AI.hintsZ T (188 : Nat) [Bool.true, Bool.true, Bool.true, Bool.false, Bool.true, Bool.false] [] K)
 [((0 : Nat), Option.some (Go.Value.slice sa sn (1 : Nat))), ((1 : Nat), Option.some del), ((5 : Nat), Option.some (Go.Value.int Go.IntKind.i64 n2)),
 ((6 : Nat), Option.some (Go.Value.int Go.IntKind.i64 (Go.IntKind.wrap Go.IntKind.i64 (n2 + (1 : Int)))))]
 σ1) := by
 intros
 kernel_rfl

theorem z188l : ∀ (T : Go.AI.Ct) (sa : Option Go.Addr) (sn se : Nat) (del : Go.Value) (i j : Int) (X : Go.AI.Regs → Go.AI.AS → Prop) (σ : Go.AI.AS) (K : Go.Value → Go.AI.AS → Prop),
 Go.AI.fl Go.Proofs.Tryz.prog Go.AI.hintsZ T (188 : Nat) [Bool.true, Bool.true, Bool.true, Bool.false, Bool.true, Bool.false] [] K X
 [((0 : Nat), Option.some (Go.Value.slice sa sn se)), ((1 : Nat), Option.some del), ((5 : Nat), Option.some (Go.Value.int Go.IntKind.i64 i)), ((6 : Nat), Option.some (Go.Value.int Go.IntKind.i64 j))]
 σ =
 Go.AI.bmatch (Decidable.decide (j < (↑sn : Int)))
 (Go.AI.req ((0 : Int) ≤ j)
 (Go.AI.req (j < (↑sn : Int))
 (Go.AI.pSome sa fun (a0 : Go.Addr) ↦
 Go.AI.req (se = Go.AI.szOf Go.Proofs.Tryz.prog (213 : Nat))
 (Go.AI.ldc σ (Go.AI.aadd a0 (Int.toNat j * Go.AI.szOf Go.Proofs.Tryz.prog (213 : Nat))) fun (v1 : Go.Value) ↦
 Go.AI.tP v1 fun (b2 : Option Go.Addr) ↦
 Go.AI.callV T del [Go.Value.pointer b2] σ fun (v3 : Go.Value) (σ4 : Go.AI.AS) ↦
 Go.AI.tB v3 fun (b5 : Bool) ↦
 Go.AI.bmatch (!b5)
 (Go.AI.req ((0 : Int) ≤ i)
 (Go.AI.req (i < (↑sn : Int))
 (Go.AI.pSome sa fun (a6 : Go.Addr) ↦
 Go.AI.req (se = Go.AI.szOf Go.Proofs.Tryz.prog (213 : Nat))
 (Go.AI.put1 σ4 (Go.AI.aadd a6 (Int.toNat i * Go.AI.szOf Go.Proofs.Tryz.prog (213 : Nat))) (Go.Value.pointer b2) fun (σ7 : Go.AI.AS) ↦
 X
 [((0 : Nat), Option.some (Go.Value.slice sa sn se)), ((1 : Nat), Option.some del),
 ((5 : Nat), Option.some (Go.Value.int Go.IntKind.i64 (Go.IntKind.wrap Go.IntKind.i64 (i + (1 : Int))))),
 ((6 : Nat), Option.some (Go.Value.int Go.IntKind.i64 (Go.IntKind.wrap Go.IntKind.i64 (j + (1 : Int)))))]
 σ7))))
 (X
 [((0 : Nat), Option.some (Go.Value.slice sa sn se)), ((1 : Nat), Option.some del), ((5 : Nat), Option.some (Go.Value.int Go.IntKind.i64 i)),
 ((6 : Nat), Option.some (Go.Value.int Go.IntKind.i64 (Go.IntKind.wrap Go.IntKind.i64 (j + (1 : Int)))))]
 σ4)))))
 (Go.AI.req ((0 : Int) ≤ i)
 (Go.AI.req (i ≤ (↑sn : Int))
 (Go.AI.req ((↑sn : Int) ≤ (↑(Go.AI.capLo σ sa se sn) : Int))
 (Go.AI.chk (Go.AI.nilOr sa se (Go.AI.szOf Go.Proofs.Tryz.prog (213 : Nat)))
 (Go.AI.clearTo σ (Option.map (fun (x : Go.Addr) ↦ Go.AI.aadd x (Int.toNat i * Go.AI.szOf Go.Proofs.Tryz.prog (213 : Nat))) sa) (Int.toNat ((↑sn : Int) - i)) [Go.Value.pointer Option.none]
 fun (σ8 : Go.AI.AS) ↦
 Go.AI.req ((0 : Int) ≤ i)
 (Go.AI.req (i ≤ (↑(Go.AI.capLo σ8 sa se sn) : Int))
 (Go.AI.chk (Go.AI.nilOr sa se (Go.AI.szOf Go.Proofs.Tryz.prog (213 : Nat)))
 (K (Go.Value.slice (Option.map (fun (x : Go.Addr) ↦ Go.AI.aadd x (Int.toNat (0 : Int) * Go.AI.szOf Go.Proofs.Tryz.prog (213 : Nat))) sa) (Int.toNat (i - (0 : Int))) (1 : Nat)) σ8)))))))) := by
 intros
 kernel_rfl

theorem z200 : ∀ (T : Go.AI.Ct) (sa : Option Go.Addr) (sn : Nat) (f : Go.Value) (σ : Go.AI.AS) (K : Go.Value → Go.AI.AS → Prop),
 Go.AI.fw Go.Proofs.Tryz.prog Go.AI.hintsZ T (200 : Nat) [Go.Value.slice sa sn (1 : Nat), f] σ K =
 Go.AI.ALoop (Go.AI.fl Go.Proofs.Tryz.prog Go.AI.hintsZ T (200 : Nat) [Bool.true, Bool.false, Bool.true, Bool.false] [] K)
 [((0 : Nat), Option.some (Go.Value.slice sa sn (1 : Nat))), ((1 : Nat), Option.some f), ((7 : Nat), Option.some (Go.Value.int Go.IntKind.i64 (↑sn : Int))),
 ((8 : Nat), Option.some (Go.Value.int Go.IntKind.i64 (0 : Int)))]
 σ := by
 intros
 kernel_rfl

theorem z200l : ∀ (T : Go.AI.Ct) (sa : Option Go.Addr) (sn se : Nat) (f : Go.Value) (r7_1 r8_1 : Int) (X : Go.AI.Regs → Go.AI.AS → Prop) (σ : Go.AI.AS) (K : Go.Value → Go.AI.AS → Prop),
 Go.AI.fl Go.Proofs.Tryz.prog Go.AI.hintsZ T (200 : Nat) [Bool.true, Bool.false, Bool.true, Bool.false] [] K X
 [((0 : Nat), Option.some (Go.Value.slice sa sn se)), ((1 : Nat), Option.some f), ((7 : Nat), Option.some (Go.Value.int Go.IntKind.i64 r7_1)), ((8 : Nat), Option.some (Go.Value.int Go.IntKind.i64 r8_1))]
 σ =
 Go.AI.bmatch (Decidable.decide (r8_1 < r7_1))
 (Go.AI.req ((0 : Int) ≤ r8_1)
 (Go.AI.req (r8_1 < (↑sn : Int))
 (Go.AI.pSome sa fun (a0 : Go.Addr) ↦
 Go.AI.req (se = Go.AI.szOf Go.Proofs.Tryz.prog (213 : Nat))
 (Go.AI.ldc σ (Go.AI.aadd a0 (Int.toNat r8_1 * Go.AI.szOf Go.Proofs.Tryz.prog (213 : Nat))) fun (v1 : Go.Value) ↦
 Go.AI.tP v1 fun (b2 : Option Go.Addr) ↦
 Go.AI.callV T f [Go.Value.pointer b2] σ fun (v3 : Go.Value) (σ4 : Go.AI.AS) ↦
 Go.AI.tB v3 fun (b5 : Bool) ↦
 Go.AI.bmatch b5 (K (Go.Value.int Go.IntKind.i64 r8_1) σ4)
 (X
 [((0 : Nat), Option.some (Go.Value.slice sa sn se)), ((1 : Nat), Option.some f), ((7 : Nat), Option.some (Go.Value.int Go.IntKind.i64 r7_1)),
 ((8 : Nat), Option.some (Go.Value.int Go.IntKind.i64 (Go.IntKind.wrap Go.IntKind.i64 (r8_1 + (1 : Int)))))]
 σ4)))))
 (K (Go.Value.int Go.IntKind.i64 (-1 : Int)) σ) := by
 intros
 kernel_rfl

theorem z160 : ∀ (T : Go.AI.Ct) (s : Nat) (n : Int) (σ : Go.AI.AS) (K : Go.Value → Go.AI.AS → Prop),
 Go.AI.fw Go.Proofs.Tryz.prog Go.AI.hintsZ T (160 : Nat) [Go.Value.pointer (Option.some (Go.Addr.mk s (0 : Nat) Option.none)), Go.Value.int Go.IntKind.i64 n] σ K =
 T (135 : Nat) [Go.Value.pointer (Option.some (Go.Addr.mk s (0 : Nat) Option.none)), Go.Value.int Go.IntKind.i64 n] σ fun (v0 : Go.Value) (σ1 : Go.AI.AS) ↦
 Go.AI.tTup v0 fun (l2 : List Go.Value) ↦
 Go.AI.pSome l2[(0 : Nat)]? fun (u3 : Go.Value) ↦
 Go.AI.tP u3 fun (b4 : Option Go.Addr) ↦
 Go.AI.tTup v0 fun (l5 : List Go.Value) ↦
 Go.AI.pSome l5[(1 : Nat)]? fun (u6 : Go.Value) ↦
 Go.AI.tI Go.IntKind.i64 u6 fun (n7 : Int) ↦
 Go.AI.newAt σ1 (Go.AI.AObj.row Go.AI.RK.plain [Go.Value.pointer Option.none]) fun (i8 : Nat) (σ9 : Go.AI.AS) ↦
 Go.AI.put1 σ9 (Go.Addr.mk i8 (0 : Nat) Option.none) (Go.Value.pointer b4) fun (σ10 : Go.AI.AS) ↦
 Go.AI.bmatch (n7 != (0 : Int))
 (K (Go.Value.tuple (Array.mk [Go.Value.int Go.IntKind.u32 (0 : Int), Go.Value.int Go.IntKind.u32 (0 : Int), Go.Value.slice Option.none (0 : Nat) (0 : Nat), Go.Value.int Go.IntKind.i64 n7])) σ10)
 (Go.AI.ldc σ10 (Go.Addr.mk s ((0 : Nat) + (3 : Nat)) Option.none) fun (v11 : Go.Value) ↦
 Go.AI.tM v11 fun (b12 : Option Nat) ↦
 Go.AI.pSome b12 fun (i13 : Nat) ↦
 Go.AI.mdel σ10 (Go.TypeDesc.int Go.IntKind.i64) i13 (Go.Value.int Go.IntKind.i64 n) fun (σ14 : Go.AI.AS) ↦
 Go.AI.ldc σ14 (Go.Addr.mk i8 (0 : Nat) Option.none) fun (v15 : Go.Value) ↦
 Go.AI.tP v15 fun (b16 : Option Go.Addr) ↦
 Go.AI.pSome b16 fun (a17 : Go.Addr) ↦
 Go.AI.ldc σ14 (Go.Addr.add a17 (0 : Nat)) fun (v18 : Go.Value) ↦
 Go.AI.tIf v18
 (fun (t19 : Nat) (u20 : Go.Value) ↦
 Go.AI.tyAs (Go.Value.iface t19 u20) (270 : Nat) fun (o21 : Option Go.Value) ↦
 Go.AI.tP (Option.getD o21 (Go.Value.pointer Option.none)) fun (b22 : Option Go.Addr) ↦
 Go.AI.bmatch (Option.isSome o21)
 (Go.AI.ldc σ14 (Go.Addr.mk i8 (0 : Nat) Option.none) fun (v23 : Go.Value) ↦
 Go.AI.tP v23 fun (b24 : Option Go.Addr) ↦
 Go.AI.pSome b24 fun (a25 : Go.Addr) ↦
 Go.AI.ldc σ14 (Go.Addr.mk (Go.Addr.block a25) (Go.Addr.off a25 + (4 : Nat)) Option.none) fun (v26 : Go.Value) ↦
 Go.AI.tI Go.IntKind.u32 v26 fun (n27 : Int) ↦
 Go.AI.ldc σ14 (Go.Addr.mk i8 (0 : Nat) Option.none) fun (v28 : Go.Value) ↦
 Go.AI.tP v28 fun (b29 : Option Go.Addr) ↦
 Go.AI.pSome b29 fun (a30 : Go.Addr) ↦
 Go.AI.ldc σ14 (Go.Addr.mk (Go.Addr.block a30) (Go.Addr.off a30 + (5 : Nat)) Option.none) fun (v31 : Go.Value) ↦
 Go.AI.tI Go.IntKind.u32 v31 fun (n32 : Int) ↦
 Go.AI.pSome b22 fun (a33 : Go.Addr) ↦
 Go.AI.ldc σ14 (Go.Addr.add a33 (0 : Nat)) fun (v34 : Go.Value) ↦
 Go.AI.tL (1 : Nat) v34 fun (s35 : Go.AI.Sl) ↦
 K
 (Go.Value.tuple
 (Array.mk
 [Go.Value.int Go.IntKind.u32 n27, Go.Value.int Go.IntKind.u32 n32, Go.Value.slice (Go.AI.Sl.a s35) (Go.AI.Sl.n s35) (1 : Nat),
 Go.Value.int Go.IntKind.i64 (0 : Int)]))
 σ14)
 (Go.AI.ldc σ14 (Go.Addr.mk i8 (0 : Nat) Option.none) fun (v36 : Go.Value) ↦
 Go.AI.tP v36 fun (b37 : Option Go.Addr) ↦
 Go.AI.pSome b37 fun (a38 : Go.Addr) ↦
 Go.AI.ldc σ14 (Go.Addr.mk (Go.Addr.block a38) (Go.Addr.off a38 + (1 : Nat)) Option.none) fun (v39 : Go.Value) ↦
 Go.AI.tP v39 fun (b40 : Option Go.Addr) ↦
 Go.AI.ldc σ14 (Go.Addr.mk i8 (0 : Nat) Option.none) fun (v41 : Go.Value) ↦
 Go.AI.tP v41 fun (b42 : Option Go.Addr) ↦
 Go.AI.pSome b42 fun (a43 : Go.Addr) ↦
 Go.AI.ldc σ14 (Go.Addr.mk (Go.Addr.block a43) (Go.Addr.off a43 + (1 : Nat)) Option.none) fun (v44 : Go.Value) ↦
 Go.AI.tP v44 fun (b45 : Option Go.Addr) ↦
 Go.AI.pSome b45 fun (a46 : Go.Addr) ↦
 Go.AI.ldc σ14 (Go.Addr.mk (Go.Addr.block a46) (Go.Addr.off a46 + (1 : Nat)) Option.none) fun (v47 : Go.Value) ↦
 Go.AI.tL (1 : Nat) v47 fun (s48 : Go.AI.Sl) ↦
 T (188 : Nat)
 [Go.Value.slice (Go.AI.Sl.a s48) (Go.AI.Sl.n s48) (1 : Nat),
 Go.Value.func (Go.Fn.func (189 : Nat)) (Array.mk []) (Array.mk [Go.Value.pointer (Option.some (Go.Addr.mk i8 (0 : Nat) Option.none))])]
 σ14 fun (v49 : Go.Value) (σ50 : Go.AI.AS) ↦
 Go.AI.tL (1 : Nat) v49 fun (s51 : Go.AI.Sl) ↦
 Go.AI.ldc σ50 (Go.Addr.mk (Go.Addr.block a38) (Go.Addr.off a38 + (1 : Nat)) Option.none) fun (v52 : Go.Value) ↦
 Go.AI.tP v52 fun (b53 : Option Go.Addr) ↦
 Go.Value.pointer b40 = Go.Value.pointer b53 ∧
 Go.AI.ldc σ50 (Go.Addr.mk i8 (0 : Nat) Option.none) fun (v54 : Go.Value) ↦
 Go.AI.tP v54 fun (b55 : Option Go.Addr) ↦
 Go.Value.pointer b37 = Go.Value.pointer b55 ∧
 Go.AI.pSome b40 fun (a56 : Go.Addr) ↦
 Go.AI.put1 σ50 (Go.Addr.mk (Go.Addr.block a56) (Go.Addr.off a56 + (1 : Nat)) Option.none)
 (Go.Value.slice (Go.AI.Sl.a s51) (Go.AI.Sl.n s51) (1 : Nat)) fun (σ57 : Go.AI.AS) ↦
 Go.AI.ldc σ57 (Go.Addr.mk i8 (0 : Nat) Option.none) fun (v58 : Go.Value) ↦
 Go.AI.tP v58 fun (b59 : Option Go.Addr) ↦
 Go.AI.pSome b59 fun (a60 : Go.Addr) ↦
 Go.AI.ldc σ57 (Go.Addr.mk (Go.Addr.block a60) (Go.Addr.off a60 + (4 : Nat)) Option.none) fun (v61 : Go.Value) ↦
 Go.AI.tI Go.IntKind.u32 v61 fun (n62 : Int) ↦
 Go.AI.ldc σ57 (Go.Addr.mk i8 (0 : Nat) Option.none) fun (v63 : Go.Value) ↦
 Go.AI.tP v63 fun (b64 : Option Go.Addr) ↦
 Go.AI.pSome b64 fun (a65 : Go.Addr) ↦
 Go.AI.ldc σ57 (Go.Addr.mk (Go.Addr.block a65) (Go.Addr.off a65 + (5 : Nat)) Option.none)
 fun (v66 : Go.Value) ↦
 Go.AI.tI Go.IntKind.u32 v66 fun (n67 : Int) ↦
 K
 (Go.Value.tuple
 (Array.mk
 [Go.Value.int Go.IntKind.u32 n62, Go.Value.int Go.IntKind.u32 n67,
 Go.Value.slice Option.none (0 : Nat) (0 : Nat), Go.Value.int Go.IntKind.i64 (0 : Int)]))
 σ57))
 (Go.AI.ldc σ14 (Go.Addr.mk i8 (0 : Nat) Option.none) fun (v68 : Go.Value) ↦
 Go.AI.tP v68 fun (b69 : Option Go.Addr) ↦
 Go.AI.pSome b69 fun (a70 : Go.Addr) ↦
 Go.AI.ldc σ14 (Go.Addr.mk (Go.Addr.block a70) (Go.Addr.off a70 + (1 : Nat)) Option.none) fun (v71 : Go.Value) ↦
 Go.AI.tP v71 fun (b72 : Option Go.Addr) ↦
 Go.AI.ldc σ14 (Go.Addr.mk i8 (0 : Nat) Option.none) fun (v73 : Go.Value) ↦
 Go.AI.tP v73 fun (b74 : Option Go.Addr) ↦
 Go.AI.pSome b74 fun (a75 : Go.Addr) ↦
 Go.AI.ldc σ14 (Go.Addr.mk (Go.Addr.block a75) (Go.Addr.off a75 + (1 : Nat)) Option.none) fun (v76 : Go.Value) ↦
 Go.AI.tP v76 fun (b77 : Option Go.Addr) ↦
 Go.AI.pSome b77 fun (a78 : Go.Addr) ↦
 Go.AI.ldc σ14 (Go.Addr.mk (Go.Addr.block a78) (Go.Addr.off a78 + (1 : Nat)) Option.none) fun (v79 : Go.Value) ↦
 Go.AI.tL (1 : Nat) v79 fun (s80 : Go.AI.Sl) ↦
 T (188 : Nat)
 [Go.Value.slice (Go.AI.Sl.a s80) (Go.AI.Sl.n s80) (1 : Nat),
 Go.Value.func (Go.Fn.func (189 : Nat)) (Array.mk []) (Array.mk [Go.Value.pointer (Option.some (Go.Addr.mk i8 (0 : Nat) Option.none))])]
 σ14 fun (v81 : Go.Value) (σ82 : Go.AI.AS) ↦
 Go.AI.tL (1 : Nat) v81 fun (s83 : Go.AI.Sl) ↦
 Go.AI.ldc σ82 (Go.Addr.mk (Go.Addr.block a70) (Go.Addr.off a70 + (1 : Nat)) Option.none) fun (v84 : Go.Value) ↦
 Go.AI.tP v84 fun (b85 : Option Go.Addr) ↦
 Go.Value.pointer b72 = Go.Value.pointer b85 ∧
 Go.AI.ldc σ82 (Go.Addr.mk i8 (0 : Nat) Option.none) fun (v86 : Go.Value) ↦
 Go.AI.tP v86 fun (b87 : Option Go.Addr) ↦
 Go.Value.pointer b69 = Go.Value.pointer b87 ∧
 Go.AI.pSome b72 fun (a88 : Go.Addr) ↦
 Go.AI.put1 σ82 (Go.Addr.mk (Go.Addr.block a88) (Go.Addr.off a88 + (1 : Nat)) Option.none)
 (Go.Value.slice (Go.AI.Sl.a s83) (Go.AI.Sl.n s83) (1 : Nat)) fun (σ89 : Go.AI.AS) ↦
 Go.AI.ldc σ89 (Go.Addr.mk i8 (0 : Nat) Option.none) fun (v90 : Go.Value) ↦
 Go.AI.tP v90 fun (b91 : Option Go.Addr) ↦
 Go.AI.pSome b91 fun (a92 : Go.Addr) ↦
 Go.AI.ldc σ89 (Go.Addr.mk (Go.Addr.block a92) (Go.Addr.off a92 + (4 : Nat)) Option.none) fun (v93 : Go.Value) ↦
 Go.AI.tI Go.IntKind.u32 v93 fun (n94 : Int) ↦
 Go.AI.ldc σ89 (Go.Addr.mk i8 (0 : Nat) Option.none) fun (v95 : Go.Value) ↦
 Go.AI.tP v95 fun (b96 : Option Go.Addr) ↦
 Go.AI.pSome b96 fun (a97 : Go.Addr) ↦
 Go.AI.ldc σ89 (Go.Addr.mk (Go.Addr.block a97) (Go.Addr.off a97 + (5 : Nat)) Option.none) fun (v98 : Go.Value) ↦
 Go.AI.tI Go.IntKind.u32 v98 fun (n99 : Int) ↦
 K
 (Go.Value.tuple
 (Array.mk
 [Go.Value.int Go.IntKind.u32 n94, Go.Value.int Go.IntKind.u32 n99,
 Go.Value.slice Option.none (0 : Nat) (0 : Nat), Go.Value.int Go.IntKind.i64 (0 : Int)]))
 σ89)) := by
 intros
 kernel_rfl

theorem z134 : ∀ (T : Go.AI.Ct) (s : Nat) (σ : Go.AI.AS) (K : Go.Value → Go.AI.AS → Prop),
 Go.AI.fw Go.Proofs.Tryz.prog Go.AI.hintsZ T (134 : Nat) [Go.Value.pointer (Option.some (Go.Addr.mk s (0 : Nat) Option.none))] σ K =
 Go.AI.ldc σ (Go.Addr.mk s ((0 : Nat) + (2 : Nat)) Option.none) fun (v0 : Go.Value) ↦
 Go.AI.tM v0 fun (b1 : Option Nat) ↦
 Go.AI.mlen σ b1 fun (n2 : Int) ↦
 Go.AI.req ((0 : Int) ≤ n2)
 (Go.AI.req (n2 * (↑(Go.AI.bytesOf Go.Proofs.Tryz.prog (9 : Nat)) : Int) ≤ (140737488355328 : Int))
 (Go.AI.newAt σ (Go.AI.AObj.row Go.AI.RK.rw []) fun (i3 : Nat) (σ4 : Go.AI.AS) ↦
 Go.AI.ldc σ4 (Go.Addr.mk s ((0 : Nat) + (2 : Nat)) Option.none) fun (v5 : Go.Value) ↦
 Go.AI.tM v5 fun (b6 : Option Nat) ↦
 Go.AI.rngM σ4 b6 fun (j7 : Nat) (σ8 : Go.AI.AS) ↦
 Go.AI.ALoop (Go.AI.fl Go.Proofs.Tryz.prog Go.AI.hintsZ T (134 : Nat) [Bool.true, Bool.true, Bool.true, Bool.false, Bool.true, Bool.false] [] K)
 [((3 : Nat), Option.some (Go.Value.slice (Option.some (Go.Addr.mk i3 (0 : Nat) Option.none)) (0 : Nat) (1 : Nat))),
 ((17 : Nat), Option.some (Go.Value.pointer (Option.some (Go.Addr.mk j7 (0 : Nat) Option.none))))]
 σ8)) := by
 intros
 kernel_rfl

theorem z134l : ∀ (T : Go.AI.Ct) (la : Option Go.Addr) (ln le r17_1 : Nat) (X : Go.AI.Regs → Go.AI.AS → Prop) (σ : Go.AI.AS) (K : Go.Value → Go.AI.AS → Prop),
 Go.AI.fl Go.Proofs.Tryz.prog Go.AI.hintsZ T (134 : Nat) [Bool.true, Bool.true, Bool.true, Bool.false, Bool.true, Bool.false] [] K X
 [((3 : Nat), Option.some (Go.Value.slice la ln le)), ((17 : Nat), Option.some (Go.Value.pointer (Option.some (Go.Addr.mk r17_1 (0 : Nat) Option.none))))] σ =
 Go.AI.mnext σ r17_1 fun (r0 : Option (Go.Value × Go.Value)) (σ1 : Go.AI.AS) ↦
 Go.AI.onNx r0
 (fun (k2 v3 : Go.Value) ↦
 Go.AI.mentry σ1 r17_1 fun (k4 v5 : Go.Value) ↦
 Go.AI.tS k4 fun (b6 : ByteArray) ↦
 Go.AI.newAt σ1 (Go.AI.AObj.row Go.AI.RK.rw [Go.Value.string b6]) fun (i7 : Nat) (σ8 : Go.AI.AS) ↦
 Go.AI.chk (Go.AI.nilOr la le (Go.AI.szOf Go.Proofs.Tryz.prog (9 : Nat)))
 (Go.AI.lds σ8 (Go.Addr.mk i7 (0 : Nat) Option.none) (1 : Nat) fun (l9 : List Go.Value) ↦
 Go.AI.appendTo σ8 (1 : Nat) (16 : Nat) (Go.AI.Sl.mk la ln) l9 (1 : Nat) fun (s10 : Go.AI.Sl) (σ11 : Go.AI.AS) ↦
 X [((3 : Nat), Option.some (Go.Value.slice (Go.AI.Sl.a s10) (Go.AI.Sl.n s10) (1 : Nat))), ((17 : Nat), Option.some (Go.Value.pointer (Option.some (Go.Addr.mk r17_1 (0 : Nat) Option.none))))] σ11))
 (T (178 : Nat) [Go.Value.slice la ln le] σ1 fun (v12 : Go.Value) (σ13 : Go.AI.AS) ↦ K (Go.Value.slice la ln le) σ13) := by
 intros
 kernel_rfl

theorem z199 : ∀ (T : Go.AI.Ct) (c : Int) (σ : Go.AI.AS) (K : Go.Value → Go.AI.AS → Prop),
 Go.AI.fw Go.Proofs.Tryz.prog Go.AI.hintsZ T (199 : Nat) [Go.Value.int Go.IntKind.u32 c] σ K =
 Go.AI.bmatch (Decidable.decide (c > (255 : Int))) (K (Go.Value.int Go.IntKind.u8 (63 : Int)) σ) (K (Go.Value.int Go.IntKind.u8 (Go.IntKind.wrap Go.IntKind.u8 c)) σ) := by
 intros
 kernel_rfl

theorem z189 : ∀ (T : Go.AI.Ct) (y : Option Go.Addr) (c : Nat) (σ : Go.AI.AS) (K : Go.Value → Go.AI.AS → Prop),
 Go.AI.fw Go.Proofs.Tryz.prog Go.AI.hintsZ T (189 : Nat) [Go.Value.pointer y, Go.Value.pointer (Option.some (Go.Addr.mk c (0 : Nat) Option.none))] σ K =
 Go.AI.ldc σ (Go.Addr.mk c (0 : Nat) Option.none) fun (v0 : Go.Value) ↦ Go.AI.tP v0 fun (b1 : Option Go.Addr) ↦ Go.AI.ptrEq σ b1 y fun (r2 : Bool) ↦ K (Go.Value.bool r2) σ := by
 intros
 kernel_rfl

end Go.AI
end
