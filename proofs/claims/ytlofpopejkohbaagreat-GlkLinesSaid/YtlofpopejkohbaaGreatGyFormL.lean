/- Lemmas of the abstract condition ahead of code (a part of the library that the claim's proof stands on); they hold with no condition but those that each names. -/
import Derived.Test.YtlofpopejkohbaaGreatGkSoft
import Derived.Test.YtlofpopejkohbaaGreatAIJoin
section
/- The conditions ahead of the calls of the program's functions, reckoned as far as they go (equations that the kernel checks); no condition. -/
set_option maxRecDepth 1000000
set_option linter.unusedVariables false
namespace Go.AI
open Go.Proofs
theorem s3 : ∀ (T : Go.AI.Ct) (la : Option Go.Addr) (ln : Nat) (turna : Option Go.Addr) (turnn : Nat) (σ : Go.AI.AS) (K : Go.Value → Go.AI.AS → Prop),
 Go.AI.fw Go.Proofs.Tryz.prog Go.AI.hintsS T (3 : Nat) [Go.Value.slice la ln (1 : Nat), Go.Value.slice turna turnn (1 : Nat)] σ K =
 Go.AI.bmatch (Decidable.decide ((↑ln : Int) > (400 : Int))) (T (12 : Nat) [] σ fun (v0 : Go.Value) (σ1 : Go.AI.AS) ↦ Go.AI.tB v0 fun (b2 : Bool) ↦ K (Go.Value.bool b2) σ1)
 (T (13 : Nat) [Go.Value.int Go.IntKind.i64 (20 : Int), Go.Value.int Go.IntKind.i64 (10 : Int), Go.Value.slice Option.none (0 : Nat) (0 : Nat)] σ fun (v3 : Go.Value) (σ4 : Go.AI.AS) ↦
 Go.AI.tTup v3 fun (l5 : List Go.Value) ↦
 Go.AI.pSome l5[(0 : Nat)]? fun (u6 : Go.Value) ↦
 Go.AI.tP u6 fun (b7 : Option Go.Addr) ↦
 Go.AI.tTup v3 fun (l8 : List Go.Value) ↦
 Go.AI.pSome l8[(1 : Nat)]? fun (u9 : Go.Value) ↦
 Go.AI.tI Go.IntKind.i64 u9 fun (n10 : Int) ↦
 T (14 : Nat) [] σ4 fun (v11 : Go.Value) (σ12 : Go.AI.AS) ↦
 Go.AI.tP v11 fun (b13 : Option Go.Addr) ↦
 T (15 : Nat) [Go.Value.int Go.IntKind.i64 n10] σ12 fun (v14 : Go.Value) (σ15 : Go.AI.AS) ↦
 Go.AI.tI Go.IntKind.i64 v14 fun (n16 : Int) ↦
 Go.AI.bmatch (n16 != (0 : Int)) (K (Go.Value.bool Bool.false) σ15)
 (Go.AI.ptrEq σ15 b7 Option.none fun (r17 : Bool) ↦
 Go.AI.bmatch r17 (K (Go.Value.bool Bool.false) σ15)
 (Go.AI.newAt σ15
 (Go.AI.AObj.row Go.AI.RK.rw
 [Go.Value.int Go.IntKind.u32 (0 : Int), Go.Value.int Go.IntKind.u32 (0 : Int), Go.Value.int Go.IntKind.u32 (0 : Int), Go.Value.int Go.IntKind.u32 (3 : Int),
 Go.Value.int Go.IntKind.u32 (0 : Int)])
 fun (i18 : Nat) (σ19 : Go.AI.AS) ↦
 T (16 : Nat)
 [Go.Value.pointer b7, Go.Value.iface (29 : Nat) (Go.Value.pointer b13), Go.Value.int Go.IntKind.u32 (35 : Int),
 Go.Value.slice (Option.some (Go.Addr.mk i18 (0 : Nat) Option.none)) (5 : Nat) (1 : Nat)]
 σ19 fun (v20 : Go.Value) (σ21 : Go.AI.AS) ↦
 Go.AI.tTup v20 fun (l22 : List Go.Value) ↦
 Go.AI.pSome l22[(0 : Nat)]? fun (u23 : Go.Value) ↦
 Go.AI.tI Go.IntKind.u32 u23 fun (n24 : Int) ↦
 Go.AI.tTup v20 fun (l25 : List Go.Value) ↦
 Go.AI.pSome l25[(1 : Nat)]? fun (u26 : Go.Value) ↦
 Go.AI.tI Go.IntKind.i64 u26 fun (n27 : Int) ↦
 Go.AI.newAt σ21
 (Go.AI.AObj.row Go.AI.RK.rw
 [Go.Value.int Go.IntKind.u32 n24, Go.Value.int Go.IntKind.u32 (35 : Int), Go.Value.int Go.IntKind.u32 (50 : Int), Go.Value.int Go.IntKind.u32 (3 : Int),
 Go.Value.int Go.IntKind.u32 (0 : Int)])
 fun (i28 : Nat) (σ29 : Go.AI.AS) ↦
 T (16 : Nat)
 [Go.Value.pointer b7, Go.Value.iface (29 : Nat) (Go.Value.pointer b13), Go.Value.int Go.IntKind.u32 (35 : Int),
 Go.Value.slice (Option.some (Go.Addr.mk i28 (0 : Nat) Option.none)) (5 : Nat) (1 : Nat)]
 σ29 fun (v30 : Go.Value) (σ31 : Go.AI.AS) ↦
 Go.AI.tTup v30 fun (l32 : List Go.Value) ↦
 Go.AI.pSome l32[(0 : Nat)]? fun (u33 : Go.Value) ↦
 Go.AI.tI Go.IntKind.u32 u33 fun (n34 : Int) ↦
 Go.AI.tTup v30 fun (l35 : List Go.Value) ↦
 Go.AI.pSome l35[(1 : Nat)]? fun (u36 : Go.Value) ↦
 Go.AI.tI Go.IntKind.i64 u36 fun (n37 : Int) ↦
 Go.AI.ALoop
 (Go.AI.fl Go.Proofs.Tryz.prog Go.AI.hintsS T (3 : Nat)
 [Bool.true, Bool.true, Bool.true, Bool.true, Bool.true, Bool.true, Bool.true, Bool.true, Bool.false, Bool.true, Bool.false] [] K)
 [((0 : Nat), Option.some (Go.Value.slice la ln (1 : Nat))), ((1 : Nat), Option.some (Go.Value.slice turna turnn (1 : Nat))),
 ((5 : Nat), Option.some (Go.Value.pointer b7)), ((7 : Nat), Option.some (Go.Value.pointer b13)),
 ((8 : Nat), Option.some (Go.Value.int Go.IntKind.u32 n24)), ((10 : Nat), Option.some (Go.Value.int Go.IntKind.u32 n34)),
 ((12 : Nat), Option.some (Go.Value.slice Option.none (0 : Nat) (0 : Nat))),
 ((13 : Nat), Option.some (Go.Value.slice Option.none (0 : Nat) (0 : Nat))),
 ((14 : Nat), Option.some (Go.Value.slice Option.none (0 : Nat) (0 : Nat))), ((15 : Nat), Option.some (Go.Value.int Go.IntKind.i64 (0 : Int)))]
 σ31))) := by
 intros
 kernel_rfl

theorem s3l : ∀ (T : Go.AI.Ct) (la : Option Go.Addr) (ln le : Nat) (turna : Option Go.Addr) (turnn turne g m : Nat) (a b : Int) (xa : Option Go.Addr) (xn xe : Nat) (ya : Option Go.Addr) (yn ye : Nat)
 (botha : Option Go.Addr) (bothn bothe : Nat) (i : Int) (X : Go.AI.Regs → Go.AI.AS → Prop) (σ : Go.AI.AS) (K : Go.Value → Go.AI.AS → Prop),
 Go.AI.fl Go.Proofs.Tryz.prog Go.AI.hintsS T (3 : Nat) [Bool.true, Bool.true, Bool.true, Bool.true, Bool.true, Bool.true, Bool.true, Bool.true, Bool.false, Bool.true, Bool.false] [] K X
 [((0 : Nat), Option.some (Go.Value.slice la ln le)), ((1 : Nat), Option.some (Go.Value.slice turna turnn turne)),
 ((5 : Nat), Option.some (Go.Value.pointer (Option.some (Go.Addr.mk g (0 : Nat) Option.none)))), ((7 : Nat), Option.some (Go.Value.pointer (Option.some (Go.Addr.mk m (0 : Nat) Option.none)))),
 ((8 : Nat), Option.some (Go.Value.int Go.IntKind.u32 a)), ((10 : Nat), Option.some (Go.Value.int Go.IntKind.u32 b)), ((12 : Nat), Option.some (Go.Value.slice xa xn xe)),
 ((13 : Nat), Option.some (Go.Value.slice ya yn ye)), ((14 : Nat), Option.some (Go.Value.slice botha bothn bothe)), ((15 : Nat), Option.some (Go.Value.int Go.IntKind.i64 i))]
 σ =
 Go.AI.bmatch (Decidable.decide (i < (↑ln : Int)))
 (Go.AI.bmatch (Decidable.decide (i < (↑turnn : Int)))
 (Go.AI.req ((0 : Int) ≤ i)
 (Go.AI.req (i < (↑turnn : Int))
 (Go.AI.pSome turna fun (a0 : Go.Addr) ↦
 Go.AI.req (turne = Go.AI.szOf Go.Proofs.Tryz.prog (4 : Nat))
 (Go.AI.ldc σ (Go.AI.aadd a0 (Int.toNat i * Go.AI.szOf Go.Proofs.Tryz.prog (4 : Nat))) fun (v1 : Go.Value) ↦
 Go.AI.tB v1 fun (b2 : Bool) ↦
 Go.AI.bmatch b2
 (Go.AI.req ((0 : Int) ≤ i)
 (Go.AI.req (i < (↑ln : Int))
 (Go.AI.pSome la fun (a3 : Go.Addr) ↦
 Go.AI.req (le = Go.AI.szOf Go.Proofs.Tryz.prog (32 : Nat))
 (Go.AI.ldc σ (Go.AI.aadd a3 (Int.toNat i * Go.AI.szOf Go.Proofs.Tryz.prog (32 : Nat))) fun (v4 : Go.Value) ↦
 Go.AI.tI Go.IntKind.u32 v4 fun (n5 : Int) ↦
 Go.AI.newAt σ (Go.AI.AObj.row Go.AI.RK.rw [Go.Value.int Go.IntKind.u32 n5]) fun (i6 : Nat) (σ7 : Go.AI.AS) ↦
 Go.AI.chk (Go.AI.nilOr ya ye (Go.AI.szOf Go.Proofs.Tryz.prog (32 : Nat)))
 (Go.AI.lds σ7 (Go.Addr.mk i6 (0 : Nat) Option.none) (1 : Nat) fun (l8 : List Go.Value) ↦
 Go.AI.appendTo σ7 (1 : Nat) (4 : Nat) (Go.AI.Sl.mk ya yn) l8 (1 : Nat) fun (s9 : Go.AI.Sl) (σ10 : Go.AI.AS) ↦
 Go.AI.req ((0 : Int) ≤ i)
 (Go.AI.req (i < (↑ln : Int))
 (Go.AI.pSome la fun (a11 : Go.Addr) ↦
 Go.AI.req (le = Go.AI.szOf Go.Proofs.Tryz.prog (32 : Nat))
 (Go.AI.ldc σ10 (Go.AI.aadd a11 (Int.toNat i * Go.AI.szOf Go.Proofs.Tryz.prog (32 : Nat))) fun (v12 : Go.Value) ↦
 Go.AI.tI Go.IntKind.u32 v12 fun (n13 : Int) ↦
 Go.AI.newAt σ10 (Go.AI.AObj.row Go.AI.RK.rw [Go.Value.int Go.IntKind.u32 n13]) fun (i14 : Nat) (σ15 : Go.AI.AS) ↦
 Go.AI.chk (Go.AI.nilOr botha bothe (Go.AI.szOf Go.Proofs.Tryz.prog (32 : Nat)))
 (Go.AI.lds σ15 (Go.Addr.mk i14 (0 : Nat) Option.none) (1 : Nat) fun (l16 : List Go.Value) ↦
 Go.AI.appendTo σ15 (1 : Nat) (4 : Nat) (Go.AI.Sl.mk botha bothn) l16 (1 : Nat) fun (s17 : Go.AI.Sl) (σ18 : Go.AI.AS) ↦
 Go.AI.newAt σ18 (Go.AI.AObj.row Go.AI.RK.rw [Go.Value.int Go.IntKind.u32 b]) fun (i19 : Nat) (σ20 : Go.AI.AS) ↦
 T (16 : Nat)
 [Go.Value.pointer (Option.some (Go.Addr.mk g (0 : Nat) Option.none)),
 Go.Value.iface (29 : Nat) (Go.Value.pointer (Option.some (Go.Addr.mk m (0 : Nat) Option.none))), Go.Value.int Go.IntKind.u32 (47 : Int),
 Go.Value.slice (Option.some (Go.Addr.mk i19 (0 : Nat) Option.none)) (1 : Nat) (1 : Nat)]
 σ20 fun (v21 : Go.Value) (σ22 : Go.AI.AS) ↦
 Go.AI.req ((0 : Int) ≤ i)
 (Go.AI.req (i < (↑ln : Int))
 (Go.AI.pSome la fun (a23 : Go.Addr) ↦
 Go.AI.req (le = Go.AI.szOf Go.Proofs.Tryz.prog (32 : Nat))
 (Go.AI.ldc σ22 (Go.AI.aadd a23 (Int.toNat i * Go.AI.szOf Go.Proofs.Tryz.prog (32 : Nat))) fun (v24 : Go.Value) ↦
 Go.AI.tI Go.IntKind.u32 v24 fun (n25 : Int) ↦
 Go.AI.newAt σ22 (Go.AI.AObj.row Go.AI.RK.rw [Go.Value.int Go.IntKind.u32 n25]) fun (i26 : Nat) (σ27 : Go.AI.AS) ↦
 T (16 : Nat)
 [Go.Value.pointer (Option.some (Go.Addr.mk g (0 : Nat) Option.none)),
 Go.Value.iface (29 : Nat) (Go.Value.pointer (Option.some (Go.Addr.mk m (0 : Nat) Option.none))),
 Go.Value.int Go.IntKind.u32 (296 : Int), Go.Value.slice (Option.some (Go.Addr.mk i26 (0 : Nat) Option.none)) (1 : Nat) (1 : Nat)]
 σ27 fun (v28 : Go.Value) (σ29 : Go.AI.AS) ↦
 X
 [((0 : Nat), Option.some (Go.Value.slice la ln le)), ((1 : Nat), Option.some (Go.Value.slice turna turnn turne)),
 ((5 : Nat), Option.some (Go.Value.pointer (Option.some (Go.Addr.mk g (0 : Nat) Option.none)))),
 ((7 : Nat), Option.some (Go.Value.pointer (Option.some (Go.Addr.mk m (0 : Nat) Option.none)))),
 ((8 : Nat), Option.some (Go.Value.int Go.IntKind.u32 a)), ((10 : Nat), Option.some (Go.Value.int Go.IntKind.u32 b)),
 ((12 : Nat), Option.some (Go.Value.slice xa xn xe)),
 ((13 : Nat), Option.some (Go.Value.slice (Go.AI.Sl.a s9) (Go.AI.Sl.n s9) (1 : Nat))),
 ((14 : Nat), Option.some (Go.Value.slice (Go.AI.Sl.a s17) (Go.AI.Sl.n s17) (1 : Nat))),
 ((15 : Nat), Option.some (Go.Value.int Go.IntKind.i64 (Go.IntKind.wrap Go.IntKind.i64 (i + (1 : Int)))))]
 σ29))))))))))))
 (Go.AI.req ((0 : Int) ≤ i)
 (Go.AI.req (i < (↑ln : Int))
 (Go.AI.pSome la fun (a30 : Go.Addr) ↦
 Go.AI.req (le = Go.AI.szOf Go.Proofs.Tryz.prog (32 : Nat))
 (Go.AI.ldc σ (Go.AI.aadd a30 (Int.toNat i * Go.AI.szOf Go.Proofs.Tryz.prog (32 : Nat))) fun (v31 : Go.Value) ↦
 Go.AI.tI Go.IntKind.u32 v31 fun (n32 : Int) ↦
 Go.AI.newAt σ (Go.AI.AObj.row Go.AI.RK.rw [Go.Value.int Go.IntKind.u32 n32]) fun (i33 : Nat) (σ34 : Go.AI.AS) ↦
 Go.AI.chk (Go.AI.nilOr xa xe (Go.AI.szOf Go.Proofs.Tryz.prog (32 : Nat)))
 (Go.AI.lds σ34 (Go.Addr.mk i33 (0 : Nat) Option.none) (1 : Nat) fun (l35 : List Go.Value) ↦
 Go.AI.appendTo σ34 (1 : Nat) (4 : Nat) (Go.AI.Sl.mk xa xn) l35 (1 : Nat) fun (s36 : Go.AI.Sl) (σ37 : Go.AI.AS) ↦
 Go.AI.req ((0 : Int) ≤ i)
 (Go.AI.req (i < (↑ln : Int))
 (Go.AI.pSome la fun (a38 : Go.Addr) ↦
 Go.AI.req (le = Go.AI.szOf Go.Proofs.Tryz.prog (32 : Nat))
 (Go.AI.ldc σ37 (Go.AI.aadd a38 (Int.toNat i * Go.AI.szOf Go.Proofs.Tryz.prog (32 : Nat))) fun (v39 : Go.Value) ↦
 Go.AI.tI Go.IntKind.u32 v39 fun (n40 : Int) ↦
 Go.AI.newAt σ37 (Go.AI.AObj.row Go.AI.RK.rw [Go.Value.int Go.IntKind.u32 n40]) fun (i41 : Nat) (σ42 : Go.AI.AS) ↦
 Go.AI.chk (Go.AI.nilOr botha bothe (Go.AI.szOf Go.Proofs.Tryz.prog (32 : Nat)))
 (Go.AI.lds σ42 (Go.Addr.mk i41 (0 : Nat) Option.none) (1 : Nat) fun (l43 : List Go.Value) ↦
 Go.AI.appendTo σ42 (1 : Nat) (4 : Nat) (Go.AI.Sl.mk botha bothn) l43 (1 : Nat) fun (s44 : Go.AI.Sl) (σ45 : Go.AI.AS) ↦
 Go.AI.newAt σ45 (Go.AI.AObj.row Go.AI.RK.rw [Go.Value.int Go.IntKind.u32 a]) fun (i46 : Nat) (σ47 : Go.AI.AS) ↦
 T (16 : Nat)
 [Go.Value.pointer (Option.some (Go.Addr.mk g (0 : Nat) Option.none)),
 Go.Value.iface (29 : Nat) (Go.Value.pointer (Option.some (Go.Addr.mk m (0 : Nat) Option.none))), Go.Value.int Go.IntKind.u32 (47 : Int),
 Go.Value.slice (Option.some (Go.Addr.mk i46 (0 : Nat) Option.none)) (1 : Nat) (1 : Nat)]
 σ47 fun (v48 : Go.Value) (σ49 : Go.AI.AS) ↦
 Go.AI.req ((0 : Int) ≤ i)
 (Go.AI.req (i < (↑ln : Int))
 (Go.AI.pSome la fun (a50 : Go.Addr) ↦
 Go.AI.req (le = Go.AI.szOf Go.Proofs.Tryz.prog (32 : Nat))
 (Go.AI.ldc σ49 (Go.AI.aadd a50 (Int.toNat i * Go.AI.szOf Go.Proofs.Tryz.prog (32 : Nat))) fun (v51 : Go.Value) ↦
 Go.AI.tI Go.IntKind.u32 v51 fun (n52 : Int) ↦
 Go.AI.newAt σ49 (Go.AI.AObj.row Go.AI.RK.rw [Go.Value.int Go.IntKind.u32 n52]) fun (i53 : Nat) (σ54 : Go.AI.AS) ↦
 T (16 : Nat)
 [Go.Value.pointer (Option.some (Go.Addr.mk g (0 : Nat) Option.none)),
 Go.Value.iface (29 : Nat) (Go.Value.pointer (Option.some (Go.Addr.mk m (0 : Nat) Option.none))),
 Go.Value.int Go.IntKind.u32 (296 : Int), Go.Value.slice (Option.some (Go.Addr.mk i53 (0 : Nat) Option.none)) (1 : Nat) (1 : Nat)]
 σ54 fun (v55 : Go.Value) (σ56 : Go.AI.AS) ↦
 X
 [((0 : Nat), Option.some (Go.Value.slice la ln le)), ((1 : Nat), Option.some (Go.Value.slice turna turnn turne)),
 ((5 : Nat), Option.some (Go.Value.pointer (Option.some (Go.Addr.mk g (0 : Nat) Option.none)))),
 ((7 : Nat), Option.some (Go.Value.pointer (Option.some (Go.Addr.mk m (0 : Nat) Option.none)))),
 ((8 : Nat), Option.some (Go.Value.int Go.IntKind.u32 a)), ((10 : Nat), Option.some (Go.Value.int Go.IntKind.u32 b)),
 ((12 : Nat), Option.some (Go.Value.slice (Go.AI.Sl.a s36) (Go.AI.Sl.n s36) (1 : Nat))),
 ((13 : Nat), Option.some (Go.Value.slice ya yn ye)),
 ((14 : Nat), Option.some (Go.Value.slice (Go.AI.Sl.a s44) (Go.AI.Sl.n s44) (1 : Nat))),
 ((15 : Nat), Option.some (Go.Value.int Go.IntKind.i64 (Go.IntKind.wrap Go.IntKind.i64 (i + (1 : Int)))))]
 σ56))))))))))))))))
 (Go.AI.req ((0 : Int) ≤ i)
 (Go.AI.req (i < (↑ln : Int))
 (Go.AI.pSome la fun (a57 : Go.Addr) ↦
 Go.AI.req (le = Go.AI.szOf Go.Proofs.Tryz.prog (32 : Nat))
 (Go.AI.ldc σ (Go.AI.aadd a57 (Int.toNat i * Go.AI.szOf Go.Proofs.Tryz.prog (32 : Nat))) fun (v58 : Go.Value) ↦
 Go.AI.tI Go.IntKind.u32 v58 fun (n59 : Int) ↦
 Go.AI.newAt σ (Go.AI.AObj.row Go.AI.RK.rw [Go.Value.int Go.IntKind.u32 n59]) fun (i60 : Nat) (σ61 : Go.AI.AS) ↦
 Go.AI.chk (Go.AI.nilOr xa xe (Go.AI.szOf Go.Proofs.Tryz.prog (32 : Nat)))
 (Go.AI.lds σ61 (Go.Addr.mk i60 (0 : Nat) Option.none) (1 : Nat) fun (l62 : List Go.Value) ↦
 Go.AI.appendTo σ61 (1 : Nat) (4 : Nat) (Go.AI.Sl.mk xa xn) l62 (1 : Nat) fun (s63 : Go.AI.Sl) (σ64 : Go.AI.AS) ↦
 Go.AI.req ((0 : Int) ≤ i)
 (Go.AI.req (i < (↑ln : Int))
 (Go.AI.pSome la fun (a65 : Go.Addr) ↦
 Go.AI.req (le = Go.AI.szOf Go.Proofs.Tryz.prog (32 : Nat))
 (Go.AI.ldc σ64 (Go.AI.aadd a65 (Int.toNat i * Go.AI.szOf Go.Proofs.Tryz.prog (32 : Nat))) fun (v66 : Go.Value) ↦
 Go.AI.tI Go.IntKind.u32 v66 fun (n67 : Int) ↦
 Go.AI.newAt σ64 (Go.AI.AObj.row Go.AI.RK.rw [Go.Value.int Go.IntKind.u32 n67]) fun (i68 : Nat) (σ69 : Go.AI.AS) ↦
 Go.AI.chk (Go.AI.nilOr botha bothe (Go.AI.szOf Go.Proofs.Tryz.prog (32 : Nat)))
 (Go.AI.lds σ69 (Go.Addr.mk i68 (0 : Nat) Option.none) (1 : Nat) fun (l70 : List Go.Value) ↦
 Go.AI.appendTo σ69 (1 : Nat) (4 : Nat) (Go.AI.Sl.mk botha bothn) l70 (1 : Nat) fun (s71 : Go.AI.Sl) (σ72 : Go.AI.AS) ↦
 Go.AI.newAt σ72 (Go.AI.AObj.row Go.AI.RK.rw [Go.Value.int Go.IntKind.u32 a]) fun (i73 : Nat) (σ74 : Go.AI.AS) ↦
 T (16 : Nat)
 [Go.Value.pointer (Option.some (Go.Addr.mk g (0 : Nat) Option.none)),
 Go.Value.iface (29 : Nat) (Go.Value.pointer (Option.some (Go.Addr.mk m (0 : Nat) Option.none))), Go.Value.int Go.IntKind.u32 (47 : Int),
 Go.Value.slice (Option.some (Go.Addr.mk i73 (0 : Nat) Option.none)) (1 : Nat) (1 : Nat)]
 σ74 fun (v75 : Go.Value) (σ76 : Go.AI.AS) ↦
 Go.AI.req ((0 : Int) ≤ i)
 (Go.AI.req (i < (↑ln : Int))
 (Go.AI.pSome la fun (a77 : Go.Addr) ↦
 Go.AI.req (le = Go.AI.szOf Go.Proofs.Tryz.prog (32 : Nat))
 (Go.AI.ldc σ76 (Go.AI.aadd a77 (Int.toNat i * Go.AI.szOf Go.Proofs.Tryz.prog (32 : Nat))) fun (v78 : Go.Value) ↦
 Go.AI.tI Go.IntKind.u32 v78 fun (n79 : Int) ↦
 Go.AI.newAt σ76 (Go.AI.AObj.row Go.AI.RK.rw [Go.Value.int Go.IntKind.u32 n79]) fun (i80 : Nat) (σ81 : Go.AI.AS) ↦
 T (16 : Nat)
 [Go.Value.pointer (Option.some (Go.Addr.mk g (0 : Nat) Option.none)),
 Go.Value.iface (29 : Nat) (Go.Value.pointer (Option.some (Go.Addr.mk m (0 : Nat) Option.none))), Go.Value.int Go.IntKind.u32 (296 : Int),
 Go.Value.slice (Option.some (Go.Addr.mk i80 (0 : Nat) Option.none)) (1 : Nat) (1 : Nat)]
 σ81 fun (v82 : Go.Value) (σ83 : Go.AI.AS) ↦
 X
 [((0 : Nat), Option.some (Go.Value.slice la ln le)), ((1 : Nat), Option.some (Go.Value.slice turna turnn turne)),
 ((5 : Nat), Option.some (Go.Value.pointer (Option.some (Go.Addr.mk g (0 : Nat) Option.none)))),
 ((7 : Nat), Option.some (Go.Value.pointer (Option.some (Go.Addr.mk m (0 : Nat) Option.none)))),
 ((8 : Nat), Option.some (Go.Value.int Go.IntKind.u32 a)), ((10 : Nat), Option.some (Go.Value.int Go.IntKind.u32 b)),
 ((12 : Nat), Option.some (Go.Value.slice (Go.AI.Sl.a s63) (Go.AI.Sl.n s63) (1 : Nat))), ((13 : Nat), Option.some (Go.Value.slice ya yn ye)),
 ((14 : Nat), Option.some (Go.Value.slice (Go.AI.Sl.a s71) (Go.AI.Sl.n s71) (1 : Nat))),
 ((15 : Nat), Option.some (Go.Value.int Go.IntKind.i64 (Go.IntKind.wrap Go.IntKind.i64 (i + (1 : Int)))))]
 σ83)))))))))))))
 (T (17 : Nat) [Go.Value.pointer (Option.some (Go.Addr.mk g (0 : Nat) Option.none))] σ fun (v84 : Go.Value) (σ85 : Go.AI.AS) ↦
 Go.AI.tL (2 : Nat) v84 fun (s86 : Go.AI.Sl) ↦
 Go.AI.ALoop
 (Go.AI.fl Go.Proofs.Tryz.prog Go.AI.hintsS T (3 : Nat)
 [Bool.true, Bool.true, Bool.true, Bool.true, Bool.true, Bool.true, Bool.true, Bool.true, Bool.true, Bool.true, Bool.true, Bool.false, Bool.true, Bool.false] [] K)
 [((5 : Nat), Option.some (Go.Value.pointer (Option.some (Go.Addr.mk g (0 : Nat) Option.none)))), ((7 : Nat), Option.some (Go.Value.pointer (Option.some (Go.Addr.mk m (0 : Nat) Option.none)))),
 ((8 : Nat), Option.some (Go.Value.int Go.IntKind.u32 a)), ((10 : Nat), Option.some (Go.Value.int Go.IntKind.u32 b)), ((12 : Nat), Option.some (Go.Value.slice xa xn xe)),
 ((13 : Nat), Option.some (Go.Value.slice ya yn ye)), ((14 : Nat), Option.some (Go.Value.slice botha bothn bothe)),
 ((17 : Nat), Option.some (Go.Value.slice (Go.AI.Sl.a s86) (Go.AI.Sl.n s86) (2 : Nat))), ((18 : Nat), Option.some (Go.Value.slice Option.none (0 : Nat) (0 : Nat))),
 ((19 : Nat), Option.some (Go.Value.int Go.IntKind.i64 (0 : Int)))]
 σ85) := by
 intros
 kernel_rfl

theorem s3j : ∀ (T : Go.AI.Ct) (la : Option Go.Addr) (ln le : Nat) (turna : Option Go.Addr) (turnn turne g m : Nat) (a b : Int) (xa : Option Go.Addr) (xn xe : Nat) (ya : Option Go.Addr) (yn ye : Nat)
 (botha : Option Go.Addr) (bothn bothe : Nat) (i to : Int) (X : Go.AI.Regs → Go.AI.AS → Prop) (σ : Go.AI.AS) (K : Go.Value → Go.AI.AS → Prop),
 Go.AI.jn Go.Proofs.Tryz.prog Go.AI.hintsS T (3 : Nat)
 [Bool.true, Bool.true, Bool.true, Bool.true, Bool.true, Bool.true, Bool.true, Bool.true, Bool.false, Bool.true, Bool.false, Bool.false, Bool.true, Bool.false, Bool.false, Bool.true] [X] K
 [((0 : Nat), Option.some (Go.Value.slice la ln le)), ((1 : Nat), Option.some (Go.Value.slice turna turnn turne)),
 ((5 : Nat), Option.some (Go.Value.pointer (Option.some (Go.Addr.mk g (0 : Nat) Option.none)))), ((7 : Nat), Option.some (Go.Value.pointer (Option.some (Go.Addr.mk m (0 : Nat) Option.none)))),
 ((8 : Nat), Option.some (Go.Value.int Go.IntKind.u32 a)), ((10 : Nat), Option.some (Go.Value.int Go.IntKind.u32 b)), ((12 : Nat), Option.some (Go.Value.slice xa xn xe)),
 ((13 : Nat), Option.some (Go.Value.slice ya yn ye)), ((14 : Nat), Option.some (Go.Value.slice botha bothn bothe)), ((15 : Nat), Option.some (Go.Value.int Go.IntKind.i64 i)),
 ((16 : Nat), Option.some (Go.Value.int Go.IntKind.u32 to))]
 σ =
 Go.AI.req ((0 : Int) ≤ i)
 (Go.AI.req (i < (↑ln : Int))
 (Go.AI.pSome la fun (a0 : Go.Addr) ↦
 Go.AI.req (le = Go.AI.szOf Go.Proofs.Tryz.prog (32 : Nat))
 (Go.AI.ldc σ (Go.AI.aadd a0 (Int.toNat i * Go.AI.szOf Go.Proofs.Tryz.prog (32 : Nat))) fun (v1 : Go.Value) ↦
 Go.AI.tI Go.IntKind.u32 v1 fun (n2 : Int) ↦
 Go.AI.newAt σ (Go.AI.AObj.row Go.AI.RK.rw [Go.Value.int Go.IntKind.u32 n2]) fun (i3 : Nat) (σ4 : Go.AI.AS) ↦
 Go.AI.chk (Go.AI.nilOr botha bothe (Go.AI.szOf Go.Proofs.Tryz.prog (32 : Nat)))
 (Go.AI.lds σ4 (Go.Addr.mk i3 (0 : Nat) Option.none) (1 : Nat) fun (l5 : List Go.Value) ↦
 Go.AI.appendTo σ4 (1 : Nat) (4 : Nat) (Go.AI.Sl.mk botha bothn) l5 (1 : Nat) fun (s6 : Go.AI.Sl) (σ7 : Go.AI.AS) ↦
 Go.AI.newAt σ7 (Go.AI.AObj.row Go.AI.RK.rw [Go.Value.int Go.IntKind.u32 to]) fun (i8 : Nat) (σ9 : Go.AI.AS) ↦
 T (16 : Nat)
 [Go.Value.pointer (Option.some (Go.Addr.mk g (0 : Nat) Option.none)), Go.Value.iface (29 : Nat) (Go.Value.pointer (Option.some (Go.Addr.mk m (0 : Nat) Option.none))),
 Go.Value.int Go.IntKind.u32 (47 : Int), Go.Value.slice (Option.some (Go.Addr.mk i8 (0 : Nat) Option.none)) (1 : Nat) (1 : Nat)]
 σ9 fun (v10 : Go.Value) (σ11 : Go.AI.AS) ↦
 Go.AI.req ((0 : Int) ≤ i)
 (Go.AI.req (i < (↑ln : Int))
 (Go.AI.pSome la fun (a12 : Go.Addr) ↦
 Go.AI.req (le = Go.AI.szOf Go.Proofs.Tryz.prog (32 : Nat))
 (Go.AI.ldc σ11 (Go.AI.aadd a12 (Int.toNat i * Go.AI.szOf Go.Proofs.Tryz.prog (32 : Nat))) fun (v13 : Go.Value) ↦
 Go.AI.tI Go.IntKind.u32 v13 fun (n14 : Int) ↦
 Go.AI.newAt σ11 (Go.AI.AObj.row Go.AI.RK.rw [Go.Value.int Go.IntKind.u32 n14]) fun (i15 : Nat) (σ16 : Go.AI.AS) ↦
 T (16 : Nat)
 [Go.Value.pointer (Option.some (Go.Addr.mk g (0 : Nat) Option.none)), Go.Value.iface (29 : Nat) (Go.Value.pointer (Option.some (Go.Addr.mk m (0 : Nat) Option.none))),
 Go.Value.int Go.IntKind.u32 (296 : Int), Go.Value.slice (Option.some (Go.Addr.mk i15 (0 : Nat) Option.none)) (1 : Nat) (1 : Nat)]
 σ16 fun (v17 : Go.Value) (σ18 : Go.AI.AS) ↦
 X
 [((0 : Nat), Option.some (Go.Value.slice la ln le)), ((1 : Nat), Option.some (Go.Value.slice turna turnn turne)),
 ((5 : Nat), Option.some (Go.Value.pointer (Option.some (Go.Addr.mk g (0 : Nat) Option.none)))),
 ((7 : Nat), Option.some (Go.Value.pointer (Option.some (Go.Addr.mk m (0 : Nat) Option.none)))), ((8 : Nat), Option.some (Go.Value.int Go.IntKind.u32 a)),
 ((10 : Nat), Option.some (Go.Value.int Go.IntKind.u32 b)), ((12 : Nat), Option.some (Go.Value.slice xa xn xe)),
 ((13 : Nat), Option.some (Go.Value.slice ya yn ye)), ((14 : Nat), Option.some (Go.Value.slice (Go.AI.Sl.a s6) (Go.AI.Sl.n s6) (1 : Nat))),
 ((15 : Nat), Option.some (Go.Value.int Go.IntKind.i64 (Go.IntKind.wrap Go.IntKind.i64 (i + (1 : Int)))))]
 σ18))))))) := by
 intros
 kernel_rfl

theorem s3l1 : ∀ (T : Go.AI.Ct) (g m : Nat) (a b : Int) (xa : Option Go.Addr) (xn xe : Nat) (ya : Option Go.Addr) (yn ye : Nat) (botha : Option Go.Addr) (bothn bothe : Nat) (saida : Option Go.Addr)
 (saidn saide : Nat) (alla : Option Go.Addr) (alln alle : Nat) (i : Int) (X : Go.AI.Regs → Go.AI.AS → Prop) (σ : Go.AI.AS) (K : Go.Value → Go.AI.AS → Prop),
 Go.AI.fl Go.Proofs.Tryz.prog Go.AI.hintsS T (3 : Nat) [Bool.true, Bool.true, Bool.true, Bool.true, Bool.true, Bool.true, Bool.true, Bool.true, Bool.true, Bool.true, Bool.true, Bool.false, Bool.true, Bool.false] []
 K X
 [((5 : Nat), Option.some (Go.Value.pointer (Option.some (Go.Addr.mk g (0 : Nat) Option.none)))), ((7 : Nat), Option.some (Go.Value.pointer (Option.some (Go.Addr.mk m (0 : Nat) Option.none)))),
 ((8 : Nat), Option.some (Go.Value.int Go.IntKind.u32 a)), ((10 : Nat), Option.some (Go.Value.int Go.IntKind.u32 b)), ((12 : Nat), Option.some (Go.Value.slice xa xn xe)),
 ((13 : Nat), Option.some (Go.Value.slice ya yn ye)), ((14 : Nat), Option.some (Go.Value.slice botha bothn bothe)), ((17 : Nat), Option.some (Go.Value.slice saida saidn saide)),
 ((18 : Nat), Option.some (Go.Value.slice alla alln alle)), ((19 : Nat), Option.some (Go.Value.int Go.IntKind.i64 i))]
 σ =
 Go.AI.bmatch (Decidable.decide (i < (↑saidn : Int)))
 (Go.AI.req ((0 : Int) ≤ i)
 (Go.AI.req (i < (↑saidn : Int))
 (Go.AI.pSome saida fun (a0 : Go.Addr) ↦
 Go.AI.req (saide = Go.AI.szOf Go.Proofs.Tryz.prog (38 : Nat))
 (Go.AI.ldc σ
 (Go.Addr.mk (Go.Addr.block (Go.AI.aadd a0 (Int.toNat i * Go.AI.szOf Go.Proofs.Tryz.prog (38 : Nat))))
 (Go.Addr.off (Go.AI.aadd a0 (Int.toNat i * Go.AI.szOf Go.Proofs.Tryz.prog (38 : Nat))) + (1 : Nat)) Option.none)
 fun (v1 : Go.Value) ↦
 Go.AI.tL (1 : Nat) v1 fun (s2 : Go.AI.Sl) ↦
 Go.AI.chk (Go.AI.nilOr alla alle (Go.AI.szOf Go.Proofs.Tryz.prog (32 : Nat)))
 (Go.AI.srcCells σ (1 : Nat) (Option.some (Go.Value.slice (Go.AI.Sl.a s2) (Go.AI.Sl.n s2) (1 : Nat))) fun (m3 : Nat) (new4 : List Go.Value) ↦
 Go.AI.appendTo σ (1 : Nat) (4 : Nat) (Go.AI.Sl.mk alla alln) new4 m3 fun (s5 : Go.AI.Sl) (σ6 : Go.AI.AS) ↦
 Go.AI.req ((0 : Int) ≤ i)
 (Go.AI.req (i < (↑saidn : Int))
 (Go.AI.pSome saida fun (a7 : Go.Addr) ↦
 Go.AI.req (saide = Go.AI.szOf Go.Proofs.Tryz.prog (38 : Nat))
 (Go.AI.ldc σ6
 (Go.Addr.mk (Go.Addr.block (Go.AI.aadd a7 (Int.toNat i * Go.AI.szOf Go.Proofs.Tryz.prog (38 : Nat))))
 (Go.Addr.off (Go.AI.aadd a7 (Int.toNat i * Go.AI.szOf Go.Proofs.Tryz.prog (38 : Nat))) + (1 : Nat)) Option.none)
 fun (v8 : Go.Value) ↦
 Go.AI.tL (1 : Nat) v8 fun (s9 : Go.AI.Sl) ↦
 Go.AI.bmatch ((↑(Go.AI.Sl.n s9) : Int) == (0 : Int)) (K (Go.Value.bool Bool.false) σ6)
 (Go.AI.bmatch (Decidable.decide (i > (0 : Int)))
 (Go.AI.req ((0 : Int) ≤ i)
 (Go.AI.req (i < (↑saidn : Int))
 (Go.AI.pSome saida fun (a10 : Go.Addr) ↦
 Go.AI.req (saide = Go.AI.szOf Go.Proofs.Tryz.prog (38 : Nat))
 (Go.AI.ldc σ6 (Go.Addr.add (Go.AI.aadd a10 (Int.toNat i * Go.AI.szOf Go.Proofs.Tryz.prog (38 : Nat))) (0 : Nat)) fun (v11 : Go.Value) ↦
 Go.AI.tI Go.IntKind.u32 v11 fun (n12 : Int) ↦
 Go.AI.req ((0 : Int) ≤ Go.IntKind.wrap Go.IntKind.i64 (i - (1 : Int)))
 (Go.AI.req (Go.IntKind.wrap Go.IntKind.i64 (i - (1 : Int)) < (↑saidn : Int))
 (Go.AI.pSome saida fun (a13 : Go.Addr) ↦
 Go.AI.req (saide = Go.AI.szOf Go.Proofs.Tryz.prog (38 : Nat))
 (Go.AI.ldc σ6
 (Go.Addr.add (Go.AI.aadd a13 (Int.toNat (Go.IntKind.wrap Go.IntKind.i64 (i - (1 : Int))) * Go.AI.szOf Go.Proofs.Tryz.prog (38 : Nat))) (0 : Nat))
 fun (v14 : Go.Value) ↦
 Go.AI.tI Go.IntKind.u32 v14 fun (n15 : Int) ↦
 Go.AI.bmatch (n12 == n15) (K (Go.Value.bool Bool.false) σ6)
 (Go.AI.req ((0 : Int) ≤ i)
 (Go.AI.req (i < (↑saidn : Int))
 (Go.AI.pSome saida fun (a16 : Go.Addr) ↦
 Go.AI.req (saide = Go.AI.szOf Go.Proofs.Tryz.prog (38 : Nat))
 (Go.AI.ldc σ6 (Go.Addr.add (Go.AI.aadd a16 (Int.toNat i * Go.AI.szOf Go.Proofs.Tryz.prog (38 : Nat))) (0 : Nat)) fun (v17 : Go.Value) ↦
 Go.AI.tI Go.IntKind.u32 v17 fun (n18 : Int) ↦
 Go.AI.bmatch (n18 != a)
 (Go.AI.req ((0 : Int) ≤ i)
 (Go.AI.req (i < (↑saidn : Int))
 (Go.AI.pSome saida fun (a19 : Go.Addr) ↦
 Go.AI.req (saide = Go.AI.szOf Go.Proofs.Tryz.prog (38 : Nat))
 (Go.AI.ldc σ6 (Go.Addr.add (Go.AI.aadd a19 (Int.toNat i * Go.AI.szOf Go.Proofs.Tryz.prog (38 : Nat))) (0 : Nat))
 fun (v20 : Go.Value) ↦
 Go.AI.tI Go.IntKind.u32 v20 fun (n21 : Int) ↦
 Go.AI.bmatch (n21 != b) (K (Go.Value.bool Bool.false) σ6)
 (X
 [((5 : Nat), Option.some (Go.Value.pointer (Option.some (Go.Addr.mk g (0 : Nat) Option.none)))),
 ((7 : Nat), Option.some (Go.Value.pointer (Option.some (Go.Addr.mk m (0 : Nat) Option.none)))),
 ((8 : Nat), Option.some (Go.Value.int Go.IntKind.u32 a)), ((10 : Nat), Option.some (Go.Value.int Go.IntKind.u32 b)),
 ((12 : Nat), Option.some (Go.Value.slice xa xn xe)), ((13 : Nat), Option.some (Go.Value.slice ya yn ye)),
 ((14 : Nat), Option.some (Go.Value.slice botha bothn bothe)),
 ((17 : Nat), Option.some (Go.Value.slice saida saidn saide)),
 ((18 : Nat), Option.some (Go.Value.slice (Go.AI.Sl.a s5) (Go.AI.Sl.n s5) (1 : Nat))),
 ((19 : Nat), Option.some (Go.Value.int Go.IntKind.i64 (Go.IntKind.wrap Go.IntKind.i64 (i + (1 : Int)))))]
 σ6)))))
 (X
 [((5 : Nat), Option.some (Go.Value.pointer (Option.some (Go.Addr.mk g (0 : Nat) Option.none)))),
 ((7 : Nat), Option.some (Go.Value.pointer (Option.some (Go.Addr.mk m (0 : Nat) Option.none)))),
 ((8 : Nat), Option.some (Go.Value.int Go.IntKind.u32 a)), ((10 : Nat), Option.some (Go.Value.int Go.IntKind.u32 b)),
 ((12 : Nat), Option.some (Go.Value.slice xa xn xe)), ((13 : Nat), Option.some (Go.Value.slice ya yn ye)),
 ((14 : Nat), Option.some (Go.Value.slice botha bothn bothe)), ((17 : Nat), Option.some (Go.Value.slice saida saidn saide)),
 ((18 : Nat), Option.some (Go.Value.slice (Go.AI.Sl.a s5) (Go.AI.Sl.n s5) (1 : Nat))),
 ((19 : Nat), Option.some (Go.Value.int Go.IntKind.i64 (Go.IntKind.wrap Go.IntKind.i64 (i + (1 : Int)))))]
 σ6))))))))))))
 (Go.AI.req ((0 : Int) ≤ i)
 (Go.AI.req (i < (↑saidn : Int))
 (Go.AI.pSome saida fun (a22 : Go.Addr) ↦
 Go.AI.req (saide = Go.AI.szOf Go.Proofs.Tryz.prog (38 : Nat))
 (Go.AI.ldc σ6 (Go.Addr.add (Go.AI.aadd a22 (Int.toNat i * Go.AI.szOf Go.Proofs.Tryz.prog (38 : Nat))) (0 : Nat)) fun (v23 : Go.Value) ↦
 Go.AI.tI Go.IntKind.u32 v23 fun (n24 : Int) ↦
 Go.AI.bmatch (n24 != a)
 (Go.AI.req ((0 : Int) ≤ i)
 (Go.AI.req (i < (↑saidn : Int))
 (Go.AI.pSome saida fun (a25 : Go.Addr) ↦
 Go.AI.req (saide = Go.AI.szOf Go.Proofs.Tryz.prog (38 : Nat))
 (Go.AI.ldc σ6 (Go.Addr.add (Go.AI.aadd a25 (Int.toNat i * Go.AI.szOf Go.Proofs.Tryz.prog (38 : Nat))) (0 : Nat)) fun (v26 : Go.Value) ↦
 Go.AI.tI Go.IntKind.u32 v26 fun (n27 : Int) ↦
 Go.AI.bmatch (n27 != b) (K (Go.Value.bool Bool.false) σ6)
 (X
 [((5 : Nat), Option.some (Go.Value.pointer (Option.some (Go.Addr.mk g (0 : Nat) Option.none)))),
 ((7 : Nat), Option.some (Go.Value.pointer (Option.some (Go.Addr.mk m (0 : Nat) Option.none)))),
 ((8 : Nat), Option.some (Go.Value.int Go.IntKind.u32 a)), ((10 : Nat), Option.some (Go.Value.int Go.IntKind.u32 b)),
 ((12 : Nat), Option.some (Go.Value.slice xa xn xe)), ((13 : Nat), Option.some (Go.Value.slice ya yn ye)),
 ((14 : Nat), Option.some (Go.Value.slice botha bothn bothe)), ((17 : Nat), Option.some (Go.Value.slice saida saidn saide)),
 ((18 : Nat), Option.some (Go.Value.slice (Go.AI.Sl.a s5) (Go.AI.Sl.n s5) (1 : Nat))),
 ((19 : Nat), Option.some (Go.Value.int Go.IntKind.i64 (Go.IntKind.wrap Go.IntKind.i64 (i + (1 : Int)))))]
 σ6)))))
 (X
 [((5 : Nat), Option.some (Go.Value.pointer (Option.some (Go.Addr.mk g (0 : Nat) Option.none)))),
 ((7 : Nat), Option.some (Go.Value.pointer (Option.some (Go.Addr.mk m (0 : Nat) Option.none)))), ((8 : Nat), Option.some (Go.Value.int Go.IntKind.u32 a)),
 ((10 : Nat), Option.some (Go.Value.int Go.IntKind.u32 b)), ((12 : Nat), Option.some (Go.Value.slice xa xn xe)),
 ((13 : Nat), Option.some (Go.Value.slice ya yn ye)), ((14 : Nat), Option.some (Go.Value.slice botha bothn bothe)),
 ((17 : Nat), Option.some (Go.Value.slice saida saidn saide)), ((18 : Nat), Option.some (Go.Value.slice (Go.AI.Sl.a s5) (Go.AI.Sl.n s5) (1 : Nat))),
 ((19 : Nat), Option.some (Go.Value.int Go.IntKind.i64 (Go.IntKind.wrap Go.IntKind.i64 (i + (1 : Int)))))]
 σ6))))))))))))))
 (Go.AI.newAt σ (Go.AI.AObj.row Go.AI.RK.rw [Go.Value.int Go.IntKind.u32 a]) fun (i28 : Nat) (σ29 : Go.AI.AS) ↦
 T (16 : Nat)
 [Go.Value.pointer (Option.some (Go.Addr.mk g (0 : Nat) Option.none)), Go.Value.iface (29 : Nat) (Go.Value.pointer (Option.some (Go.Addr.mk m (0 : Nat) Option.none))), Go.Value.int Go.IntKind.u32 (44 : Int),
 Go.Value.slice (Option.some (Go.Addr.mk i28 (0 : Nat) Option.none)) (1 : Nat) (1 : Nat)]
 σ29 fun (v30 : Go.Value) (σ31 : Go.AI.AS) ↦
 Go.AI.tTup v30 fun (l32 : List Go.Value) ↦
 Go.AI.pSome l32[(0 : Nat)]? fun (u33 : Go.Value) ↦
 Go.AI.tI Go.IntKind.u32 u33 fun (n34 : Int) ↦
 Go.AI.tTup v30 fun (l35 : List Go.Value) ↦
 Go.AI.pSome l35[(1 : Nat)]? fun (u36 : Go.Value) ↦
 Go.AI.tI Go.IntKind.i64 u36 fun (n37 : Int) ↦
 Go.AI.newAt σ31 (Go.AI.AObj.row Go.AI.RK.rw [Go.Value.int Go.IntKind.u32 n34]) fun (i38 : Nat) (σ39 : Go.AI.AS) ↦
 T (16 : Nat)
 [Go.Value.pointer (Option.some (Go.Addr.mk g (0 : Nat) Option.none)), Go.Value.iface (29 : Nat) (Go.Value.pointer (Option.some (Go.Addr.mk m (0 : Nat) Option.none))),
 Go.Value.int Go.IntKind.u32 (70 : Int), Go.Value.slice (Option.some (Go.Addr.mk i38 (0 : Nat) Option.none)) (1 : Nat) (1 : Nat)]
 σ39 fun (v40 : Go.Value) (σ41 : Go.AI.AS) ↦
 Go.AI.tTup v40 fun (l42 : List Go.Value) ↦
 Go.AI.pSome l42[(0 : Nat)]? fun (u43 : Go.Value) ↦
 Go.AI.tI Go.IntKind.u32 u43 fun (n44 : Int) ↦
 Go.AI.tTup v40 fun (l45 : List Go.Value) ↦
 Go.AI.pSome l45[(1 : Nat)]? fun (u46 : Go.Value) ↦
 Go.AI.tI Go.IntKind.i64 u46 fun (n47 : Int) ↦
 Go.AI.bmatch (a != b)
 (Go.AI.bmatch (Decidable.decide (b > (0 : Int)))
 (T (19 : Nat) [Go.Value.pointer (Option.some (Go.Addr.mk g (0 : Nat) Option.none)), Go.Value.int Go.IntKind.u32 a] σ41 fun (v48 : Go.Value) (σ49 : Go.AI.AS) ↦
 Go.AI.tL (1 : Nat) v48 fun (s50 : Go.AI.Sl) ↦
 T (18 : Nat) [Go.Value.slice (Go.AI.Sl.a s50) (Go.AI.Sl.n s50) (1 : Nat), Go.Value.slice xa xn xe] σ49 fun (v51 : Go.Value) (σ52 : Go.AI.AS) ↦
 Go.AI.tB v51 fun (b53 : Bool) ↦
 Go.AI.bmatch b53
 (T (19 : Nat) [Go.Value.pointer (Option.some (Go.Addr.mk g (0 : Nat) Option.none)), Go.Value.int Go.IntKind.u32 b] σ52 fun (v54 : Go.Value) (σ55 : Go.AI.AS) ↦
 Go.AI.tL (1 : Nat) v54 fun (s56 : Go.AI.Sl) ↦
 T (18 : Nat) [Go.Value.slice (Go.AI.Sl.a s56) (Go.AI.Sl.n s56) (1 : Nat), Go.Value.slice ya yn ye] σ55 fun (v57 : Go.Value) (σ58 : Go.AI.AS) ↦
 Go.AI.tB v57 fun (b59 : Bool) ↦
 Go.AI.bmatch b59
 (T (18 : Nat) [Go.Value.slice alla alln alle, Go.Value.slice botha bothn bothe] σ58 fun (v60 : Go.Value) (σ61 : Go.AI.AS) ↦
 Go.AI.tB v60 fun (b62 : Bool) ↦
 Go.AI.bmatch b62
 (Go.AI.bmatch (Go.IntKind.wrap Go.IntKind.i64 n44 == (↑xn : Int))
 (T (15 : Nat) [Go.Value.int Go.IntKind.i64 n47] σ61 fun (v63 : Go.Value) (σ64 : Go.AI.AS) ↦
 Go.AI.tI Go.IntKind.i64 v63 fun (n65 : Int) ↦
 Go.AI.bmatch (n65 == (0 : Int))
 (T (12 : Nat) [] σ64 fun (v66 : Go.Value) (σ67 : Go.AI.AS) ↦ Go.AI.tB v66 fun (b68 : Bool) ↦ K (Go.Value.bool b68) σ67)
 (K (Go.Value.bool Bool.false) σ64))
 (K (Go.Value.bool Bool.false) σ61))
 (K (Go.Value.bool Bool.false) σ61))
 (K (Go.Value.bool Bool.false) σ58))
 (K (Go.Value.bool Bool.false) σ52))
 (K (Go.Value.bool Bool.false) σ41))
 (K (Go.Value.bool Bool.false) σ41)) := by
 intros
 kernel_rfl

theorem s17 : ∀ (T : Go.AI.Ct) (g : Nat) (σ : Go.AI.AS) (K : Go.Value → Go.AI.AS → Prop),
 Go.AI.fw Go.Proofs.Tryz.prog Go.AI.hintsS T (17 : Nat) [Go.Value.pointer (Option.some (Go.Addr.mk g (0 : Nat) Option.none))] σ K =
 Go.AI.ldc σ (Go.Addr.mk g ((0 : Nat) + (5 : Nat)) Option.none) fun (v0 : Go.Value) ↦
 Go.AI.tL (2 : Nat) v0 fun (s1 : Go.AI.Sl) ↦
 Go.AI.ALoop (Go.AI.fl Go.Proofs.Tryz.prog Go.AI.hintsS T (17 : Nat) [Bool.true, Bool.true, Bool.true, Bool.false, Bool.true, Bool.false] [] K)
 [((3 : Nat), Option.some (Go.Value.slice Option.none (0 : Nat) (0 : Nat))), ((11 : Nat), Option.some (Go.Value.slice (Go.AI.Sl.a s1) (Go.AI.Sl.n s1) (2 : Nat))),
 ((12 : Nat), Option.some (Go.Value.int Go.IntKind.i64 (↑(Go.AI.Sl.n s1) : Int))), ((13 : Nat), Option.some (Go.Value.int Go.IntKind.i64 (0 : Int)))]
 σ := by
 intros
 kernel_rfl

theorem s17l : ∀ (T : Go.AI.Ct) (la : Option Go.Addr) (ln le : Nat) (r11a_1 : Option Go.Addr) (r11n_1 r11e_1 : Nat) (r12_1 r13_1 : Int) (X : Go.AI.Regs → Go.AI.AS → Prop) (σ : Go.AI.AS) (K : Go.Value → Go.AI.AS → Prop),
 Go.AI.fl Go.Proofs.Tryz.prog Go.AI.hintsS T (17 : Nat) [Bool.true, Bool.true, Bool.true, Bool.false, Bool.true, Bool.false] [] K X
 [((3 : Nat), Option.some (Go.Value.slice la ln le)), ((11 : Nat), Option.some (Go.Value.slice r11a_1 r11n_1 r11e_1)), ((12 : Nat), Option.some (Go.Value.int Go.IntKind.i64 r12_1)),
 ((13 : Nat), Option.some (Go.Value.int Go.IntKind.i64 r13_1))]
 σ =
 Go.AI.bmatch (Decidable.decide (r13_1 < r12_1))
 (Go.AI.req ((0 : Int) ≤ r13_1)
 (Go.AI.req (r13_1 < (↑r11n_1 : Int))
 (Go.AI.pSome r11a_1 fun (a0 : Go.Addr) ↦
 Go.AI.req (r11e_1 = Go.AI.szOf Go.Proofs.Tryz.prog (38 : Nat))
 (Go.AI.lds σ (Go.AI.aadd a0 (Int.toNat r13_1 * Go.AI.szOf Go.Proofs.Tryz.prog (38 : Nat))) (2 : Nat) fun (l1 : List Go.Value) ↦
 Go.AI.tCons l1 fun (v2 : Go.Value) (l3 : List Go.Value) ↦
 Go.AI.tI Go.IntKind.u32 v2 fun (n4 : Int) ↦
 Go.AI.tCons l3 fun (v5 : Go.Value) (l6 : List Go.Value) ↦
 Go.AI.tL (1 : Nat) v5 fun (s7 : Go.AI.Sl) ↦
 Go.AI.tNil l6
 (Go.AI.newAt σ (Go.AI.AObj.row Go.AI.RK.plain [Go.Value.int Go.IntKind.u32 (0 : Int), Go.Value.slice Option.none (0 : Nat) (0 : Nat)]) fun (i8 : Nat) (σ9 : Go.AI.AS) ↦
 Go.AI.puts σ9 (Go.Addr.mk i8 (0 : Nat) Option.none) [Go.Value.int Go.IntKind.u32 n4, Go.Value.slice (Go.AI.Sl.a s7) (Go.AI.Sl.n s7) (1 : Nat)] fun (σ10 : Go.AI.AS) ↦
 Go.AI.ldc σ10 (Go.Addr.mk i8 (0 : Nat) Option.none) fun (v11 : Go.Value) ↦
 Go.AI.tI Go.IntKind.u32 v11 fun (n12 : Int) ↦
 Go.AI.ldc σ10 (Go.Addr.mk i8 ((0 : Nat) + (1 : Nat)) Option.none) fun (v13 : Go.Value) ↦
 Go.AI.tL (1 : Nat) v13 fun (s14 : Go.AI.Sl) ↦
 T (45 : Nat) [Go.Value.slice (Go.AI.Sl.a s14) (Go.AI.Sl.n s14) (1 : Nat)] σ10 fun (v15 : Go.Value) (σ16 : Go.AI.AS) ↦
 Go.AI.tL (1 : Nat) v15 fun (s17 : Go.AI.Sl) ↦
 Go.AI.ldc σ16 (Go.Addr.mk i8 (0 : Nat) Option.none) fun (v18 : Go.Value) ↦
 Go.AI.tI Go.IntKind.u32 v18 fun (n19 : Int) ↦
 Go.Value.int Go.IntKind.u32 n12 = Go.Value.int Go.IntKind.u32 n19 ∧
 Go.AI.newAt σ16 (Go.AI.AObj.row Go.AI.RK.rw [Go.Value.int Go.IntKind.u32 n12, Go.Value.slice (Go.AI.Sl.a s17) (Go.AI.Sl.n s17) (1 : Nat)])
 fun (i20 : Nat) (σ21 : Go.AI.AS) ↦
 Go.AI.chk (Go.AI.nilOr la le (Go.AI.szOf Go.Proofs.Tryz.prog (38 : Nat)))
 (Go.AI.lds σ21 (Go.Addr.mk i20 (0 : Nat) Option.none) (2 : Nat) fun (l22 : List Go.Value) ↦
 Go.AI.appendTo σ21 (2 : Nat) (32 : Nat) (Go.AI.Sl.mk la ln) l22 (1 : Nat) fun (s23 : Go.AI.Sl) (σ24 : Go.AI.AS) ↦
 X
 [((3 : Nat), Option.some (Go.Value.slice (Go.AI.Sl.a s23) (Go.AI.Sl.n s23) (2 : Nat))), ((11 : Nat), Option.some (Go.Value.slice r11a_1 r11n_1 r11e_1)),
 ((12 : Nat), Option.some (Go.Value.int Go.IntKind.i64 r12_1)),
 ((13 : Nat), Option.some (Go.Value.int Go.IntKind.i64 (Go.IntKind.wrap Go.IntKind.i64 (r13_1 + (1 : Int)))))]
 σ24))))))
 (K (Go.Value.slice la ln le) σ) := by
 intros
 kernel_rfl

theorem s19 : ∀ (T : Go.AI.Ct) (g : Nat) (win : Int) (σ : Go.AI.AS) (K : Go.Value → Go.AI.AS → Prop),
 Go.AI.fw Go.Proofs.Tryz.prog Go.AI.hintsS T (19 : Nat) [Go.Value.pointer (Option.some (Go.Addr.mk g (0 : Nat) Option.none)), Go.Value.int Go.IntKind.u32 win] σ K =
 T (54 : Nat) [Go.Value.pointer (Option.some (Go.Addr.mk g (0 : Nat) Option.none)), Go.Value.int Go.IntKind.u32 win, Go.Value.int Go.IntKind.i64 (1 : Int)] σ fun (v0 : Go.Value) (σ1 : Go.AI.AS) ↦
 Go.AI.tP v0 fun (b2 : Option Go.Addr) ↦
 Go.AI.ptrEq σ1 b2 Option.none fun (r3 : Bool) ↦
 Go.AI.bmatch r3 (K (Go.Value.slice Option.none (0 : Nat) (0 : Nat)) σ1)
 (Go.AI.ldc σ1 (Go.Addr.mk g ((0 : Nat) + (1 : Nat)) Option.none) fun (v4 : Go.Value) ↦
 Go.AI.tM v4 fun (b5 : Option Nat) ↦
 Go.AI.mget σ1 (Go.TypeDesc.int Go.IntKind.u32) b5 (Go.Value.int Go.IntKind.u32 win) fun (o6 : Option Go.Value) ↦
 Go.AI.tP (Option.getD o6 (Go.Value.pointer Option.none)) fun (b7 : Option Go.Addr) ↦
 Go.AI.pSome b7 fun (a8 : Go.Addr) ↦
 Go.AI.ldc σ1 (Go.Addr.mk (Go.Addr.block a8) (Go.Addr.off a8 + (5 : Nat)) Option.none) fun (v9 : Go.Value) ↦
 Go.AI.tL (1 : Nat) v9 fun (s10 : Go.AI.Sl) ↦
 T (45 : Nat) [Go.Value.slice (Go.AI.Sl.a s10) (Go.AI.Sl.n s10) (1 : Nat)] σ1 fun (v11 : Go.Value) (σ12 : Go.AI.AS) ↦
 Go.AI.tL (1 : Nat) v11 fun (s13 : Go.AI.Sl) ↦ K (Go.Value.slice (Go.AI.Sl.a s13) (Go.AI.Sl.n s13) (1 : Nat)) σ12) := by
 intros
 kernel_rfl

theorem s132 : ∀ (T : Go.AI.Ct) (g : Nat) (id x : Int) (σ : Go.AI.AS) (K : Go.Value → Go.AI.AS → Prop),
 Go.AI.fw Go.Proofs.Tryz.prog Go.AI.hintsS T (132 : Nat) [Go.Value.pointer (Option.some (Go.Addr.mk g (0 : Nat) Option.none)), Go.Value.int Go.IntKind.u32 id, Go.Value.int Go.IntKind.u32 x] σ K =
 Go.AI.ldc σ (Go.Addr.mk g ((0 : Nat) + (1 : Nat)) Option.none) fun (v0 : Go.Value) ↦
 Go.AI.tM v0 fun (b1 : Option Nat) ↦
 Go.AI.mget σ (Go.TypeDesc.int Go.IntKind.u32) b1 (Go.Value.int Go.IntKind.u32 id) fun (o2 : Option Go.Value) ↦
 Go.AI.tP (Option.getD o2 (Go.Value.pointer Option.none)) fun (b3 : Option Go.Addr) ↦
 Go.AI.pSome b3 fun (a4 : Go.Addr) ↦
 Go.AI.ldc σ (Go.Addr.mk (Go.Addr.block a4) (Go.Addr.off a4 + (3 : Nat)) Option.none) fun (v5 : Go.Value) ↦
 Go.AI.tI Go.IntKind.u32 v5 fun (n6 : Int) ↦
 Go.AI.bmatch (n6 == (3 : Int))
 (Go.AI.pSome b3 fun (a7 : Go.Addr) ↦
 Go.AI.ldc σ (Go.Addr.mk (Go.Addr.block a7) (Go.Addr.off a7 + (5 : Nat)) Option.none) fun (v8 : Go.Value) ↦
 Go.AI.tL (1 : Nat) v8 fun (s9 : Go.AI.Sl) ↦
 Go.AI.newAt σ (Go.AI.AObj.row Go.AI.RK.rw [Go.Value.int Go.IntKind.u32 x]) fun (i10 : Nat) (σ11 : Go.AI.AS) ↦
 Go.AI.lds σ11 (Go.Addr.mk i10 (0 : Nat) Option.none) (1 : Nat) fun (l12 : List Go.Value) ↦
 Go.AI.appendTo σ11 (1 : Nat) (4 : Nat) (Go.AI.Sl.mk (Go.AI.Sl.a s9) (Go.AI.Sl.n s9)) l12 (1 : Nat) fun (s13 : Go.AI.Sl) (σ14 : Go.AI.AS) ↦
 Go.AI.pSome b3 fun (a15 : Go.Addr) ↦
 Go.AI.put1 σ14 (Go.Addr.mk (Go.Addr.block a15) (Go.Addr.off a15 + (5 : Nat)) Option.none) (Go.Value.slice (Go.AI.Sl.a s13) (Go.AI.Sl.n s13) (1 : Nat)) fun (σ16 : Go.AI.AS) ↦
 Go.AI.ldc σ16 (Go.Addr.mk g ((0 : Nat) + (5 : Nat)) Option.none) fun (v17 : Go.Value) ↦
 Go.AI.tL (2 : Nat) v17 fun (s18 : Go.AI.Sl) ↦
 Go.AI.bmatch (Decidable.decide ((↑(Go.AI.Sl.n s18) : Int) > (0 : Int)))
 (Go.AI.ldc σ16 (Go.Addr.mk g ((0 : Nat) + (5 : Nat)) Option.none) fun (v19 : Go.Value) ↦
 Go.AI.tL (2 : Nat) v19 fun (s20 : Go.AI.Sl) ↦
 Go.AI.req ((0 : Int) ≤ Go.IntKind.wrap Go.IntKind.i64 ((↑(Go.AI.Sl.n s18) : Int) - (1 : Int)))
 (Go.AI.req (Go.IntKind.wrap Go.IntKind.i64 ((↑(Go.AI.Sl.n s18) : Int) - (1 : Int)) < (↑(Go.AI.Sl.n s20) : Int))
 (Go.AI.pSome (Go.AI.Sl.a s20) fun (a21 : Go.Addr) ↦
 Go.AI.ldc σ16
 (Go.Addr.add (Go.AI.aadd a21 (Int.toNat (Go.IntKind.wrap Go.IntKind.i64 ((↑(Go.AI.Sl.n s18) : Int) - (1 : Int))) * Go.AI.szOf Go.Proofs.Tryz.prog (38 : Nat)))
 (0 : Nat))
 fun (v22 : Go.Value) ↦
 Go.AI.tI Go.IntKind.u32 v22 fun (n23 : Int) ↦
 Go.AI.bmatch (n23 == id)
 (Go.AI.ldc σ16 (Go.Addr.mk g ((0 : Nat) + (5 : Nat)) Option.none) fun (v24 : Go.Value) ↦
 Go.AI.tL (2 : Nat) v24 fun (s25 : Go.AI.Sl) ↦
 Go.AI.ldc σ16 (Go.Addr.mk g ((0 : Nat) + (5 : Nat)) Option.none) fun (v26 : Go.Value) ↦
 Go.AI.tL (2 : Nat) v26 fun (s27 : Go.AI.Sl) ↦
 Go.AI.req ((0 : Int) ≤ Go.IntKind.wrap Go.IntKind.i64 ((↑(Go.AI.Sl.n s18) : Int) - (1 : Int)))
 (Go.AI.req (Go.IntKind.wrap Go.IntKind.i64 ((↑(Go.AI.Sl.n s18) : Int) - (1 : Int)) < (↑(Go.AI.Sl.n s27) : Int))
 (Go.AI.pSome (Go.AI.Sl.a s27) fun (a28 : Go.Addr) ↦
 Go.AI.ldc σ16
 (Go.Addr.mk
 (Go.Addr.block
 (Go.AI.aadd a28
 (Int.toNat (Go.IntKind.wrap Go.IntKind.i64 ((↑(Go.AI.Sl.n s18) : Int) - (1 : Int))) * Go.AI.szOf Go.Proofs.Tryz.prog (38 : Nat))))
 (Go.Addr.off
 (Go.AI.aadd a28
 (Int.toNat (Go.IntKind.wrap Go.IntKind.i64 ((↑(Go.AI.Sl.n s18) : Int) - (1 : Int))) * Go.AI.szOf Go.Proofs.Tryz.prog (38 : Nat))) +
 (1 : Nat))
 Option.none)
 fun (v29 : Go.Value) ↦
 Go.AI.tL (1 : Nat) v29 fun (s30 : Go.AI.Sl) ↦
 Go.AI.newAt σ16 (Go.AI.AObj.row Go.AI.RK.rw [Go.Value.int Go.IntKind.u32 x]) fun (i31 : Nat) (σ32 : Go.AI.AS) ↦
 Go.AI.ldc σ32
 (Go.Addr.mk
 (Go.Addr.block
 (Go.AI.aadd a28
 (Int.toNat (Go.IntKind.wrap Go.IntKind.i64 ((↑(Go.AI.Sl.n s18) : Int) - (1 : Int))) * Go.AI.szOf Go.Proofs.Tryz.prog (38 : Nat))))
 (Go.Addr.off
 (Go.AI.aadd a28
 (Int.toNat (Go.IntKind.wrap Go.IntKind.i64 ((↑(Go.AI.Sl.n s18) : Int) - (1 : Int))) * Go.AI.szOf Go.Proofs.Tryz.prog (38 : Nat))) +
 (1 : Nat))
 Option.none)
 fun (v33 : Go.Value) ↦
 Go.AI.tL (1 : Nat) v33 fun (s34 : Go.AI.Sl) ↦
 Go.Value.slice (Go.AI.Sl.a s30) (Go.AI.Sl.n s30) (Go.AI.szOf Go.Proofs.Tryz.prog (32 : Nat)) =
 Go.Value.slice (Go.AI.Sl.a s34) (Go.AI.Sl.n s34) (Go.AI.szOf Go.Proofs.Tryz.prog (32 : Nat)) ∧
 Go.AI.ldc σ32 (Go.Addr.mk g ((0 : Nat) + (5 : Nat)) Option.none) fun (v35 : Go.Value) ↦
 Go.AI.tL (2 : Nat) v35 fun (s36 : Go.AI.Sl) ↦
 Go.Value.slice (Go.AI.Sl.a s27) (Go.AI.Sl.n s27) (Go.AI.szOf Go.Proofs.Tryz.prog (38 : Nat)) =
 Go.Value.slice (Go.AI.Sl.a s36) (Go.AI.Sl.n s36) (Go.AI.szOf Go.Proofs.Tryz.prog (38 : Nat)) ∧
 Go.AI.ldc σ32 (Go.Addr.mk g ((0 : Nat) + (5 : Nat)) Option.none) fun (v37 : Go.Value) ↦
 Go.AI.tL (2 : Nat) v37 fun (s38 : Go.AI.Sl) ↦
 Go.Value.slice (Go.AI.Sl.a s25) (Go.AI.Sl.n s25) (Go.AI.szOf Go.Proofs.Tryz.prog (38 : Nat)) =
 Go.Value.slice (Go.AI.Sl.a s38) (Go.AI.Sl.n s38) (Go.AI.szOf Go.Proofs.Tryz.prog (38 : Nat)) ∧
 Go.AI.lds σ32 (Go.Addr.mk i31 (0 : Nat) Option.none) (1 : Nat) fun (l39 : List Go.Value) ↦
 Go.AI.appendTo σ32 (1 : Nat) (4 : Nat) (Go.AI.Sl.mk (Go.AI.Sl.a s30) (Go.AI.Sl.n s30)) l39 (1 : Nat)
 fun (s40 : Go.AI.Sl) (σ41 : Go.AI.AS) ↦
 Go.AI.ldc σ41 (Go.Addr.mk g ((0 : Nat) + (5 : Nat)) Option.none) fun (v42 : Go.Value) ↦
 Go.AI.tL (2 : Nat) v42 fun (s43 : Go.AI.Sl) ↦
 Go.Value.slice (Go.AI.Sl.a s25) (Go.AI.Sl.n s25) (Go.AI.szOf Go.Proofs.Tryz.prog (38 : Nat)) =
 Go.Value.slice (Go.AI.Sl.a s43) (Go.AI.Sl.n s43) (Go.AI.szOf Go.Proofs.Tryz.prog (38 : Nat)) ∧
 Go.AI.req ((0 : Int) ≤ Go.IntKind.wrap Go.IntKind.i64 ((↑(Go.AI.Sl.n s18) : Int) - (1 : Int)))
 (Go.AI.req (Go.IntKind.wrap Go.IntKind.i64 ((↑(Go.AI.Sl.n s18) : Int) - (1 : Int)) < (↑(Go.AI.Sl.n s25) : Int))
 (Go.AI.pSome (Go.AI.Sl.a s25) fun (a44 : Go.Addr) ↦
 Go.AI.put1 σ41
 (Go.Addr.mk
 (Go.Addr.block
 (Go.AI.aadd a44
 (Int.toNat (Go.IntKind.wrap Go.IntKind.i64 ((↑(Go.AI.Sl.n s18) : Int) - (1 : Int))) *
 Go.AI.szOf Go.Proofs.Tryz.prog (38 : Nat))))
 (Go.Addr.off
 (Go.AI.aadd a44
 (Int.toNat (Go.IntKind.wrap Go.IntKind.i64 ((↑(Go.AI.Sl.n s18) : Int) - (1 : Int))) *
 Go.AI.szOf Go.Proofs.Tryz.prog (38 : Nat))) +
 (1 : Nat))
 Option.none)
 (Go.Value.slice (Go.AI.Sl.a s40) (Go.AI.Sl.n s40) (1 : Nat)) fun (σ45 : Go.AI.AS) ↦
 K (Go.Value.tuple (Array.mk [])) σ45)))))
 (Go.AI.ldc σ16 (Go.Addr.mk g ((0 : Nat) + (5 : Nat)) Option.none) fun (v46 : Go.Value) ↦
 Go.AI.tL (2 : Nat) v46 fun (s47 : Go.AI.Sl) ↦
 Go.AI.newAt σ16 (Go.AI.AObj.row Go.AI.RK.rw [Go.Value.int Go.IntKind.u32 x]) fun (i48 : Nat) (σ49 : Go.AI.AS) ↦
 Go.AI.newAt σ49
 (Go.AI.AObj.row Go.AI.RK.rw [Go.Value.int Go.IntKind.u32 id, Go.Value.slice (Option.some (Go.Addr.mk i48 (0 : Nat) Option.none)) (1 : Nat) (1 : Nat)])
 fun (i50 : Nat) (σ51 : Go.AI.AS) ↦
 Go.AI.lds σ51 (Go.Addr.mk i50 (0 : Nat) Option.none) (2 : Nat) fun (l52 : List Go.Value) ↦
 Go.AI.appendTo σ51 (2 : Nat) (32 : Nat) (Go.AI.Sl.mk (Go.AI.Sl.a s47) (Go.AI.Sl.n s47)) l52 (1 : Nat) fun (s53 : Go.AI.Sl) (σ54 : Go.AI.AS) ↦
 Go.AI.put1 σ54 (Go.Addr.mk g ((0 : Nat) + (5 : Nat)) Option.none) (Go.Value.slice (Go.AI.Sl.a s53) (Go.AI.Sl.n s53) (2 : Nat))
 fun (σ55 : Go.AI.AS) ↦ K (Go.Value.tuple (Array.mk [])) σ55))))
 (Go.AI.ldc σ16 (Go.Addr.mk g ((0 : Nat) + (5 : Nat)) Option.none) fun (v56 : Go.Value) ↦
 Go.AI.tL (2 : Nat) v56 fun (s57 : Go.AI.Sl) ↦
 Go.AI.newAt σ16 (Go.AI.AObj.row Go.AI.RK.rw [Go.Value.int Go.IntKind.u32 x]) fun (i58 : Nat) (σ59 : Go.AI.AS) ↦
 Go.AI.newAt σ59 (Go.AI.AObj.row Go.AI.RK.rw [Go.Value.int Go.IntKind.u32 id, Go.Value.slice (Option.some (Go.Addr.mk i58 (0 : Nat) Option.none)) (1 : Nat) (1 : Nat)])
 fun (i60 : Nat) (σ61 : Go.AI.AS) ↦
 Go.AI.lds σ61 (Go.Addr.mk i60 (0 : Nat) Option.none) (2 : Nat) fun (l62 : List Go.Value) ↦
 Go.AI.appendTo σ61 (2 : Nat) (32 : Nat) (Go.AI.Sl.mk (Go.AI.Sl.a s57) (Go.AI.Sl.n s57)) l62 (1 : Nat) fun (s63 : Go.AI.Sl) (σ64 : Go.AI.AS) ↦
 Go.AI.put1 σ64 (Go.Addr.mk g ((0 : Nat) + (5 : Nat)) Option.none) (Go.Value.slice (Go.AI.Sl.a s63) (Go.AI.Sl.n s63) (2 : Nat)) fun (σ65 : Go.AI.AS) ↦
 K (Go.Value.tuple (Array.mk [])) σ65))
 (Go.AI.bmatch (n6 == (4 : Int))
 (T (73 : Nat) [Go.Value.pointer (Option.some (Go.Addr.mk g (0 : Nat) Option.none)), Go.Value.pointer b3] σ fun (v66 : Go.Value) (σ67 : Go.AI.AS) ↦
 Go.AI.tAgg v66 fun (l68 : List Go.Value) ↦
 Go.AI.tCons l68 fun (v69 : Go.Value) (l70 : List Go.Value) ↦
 Go.AI.tI Go.IntKind.i64 v69 fun (n71 : Int) ↦
 Go.AI.tCons l70 fun (v72 : Go.Value) (l73 : List Go.Value) ↦
 Go.AI.tI Go.IntKind.i64 v72 fun (n74 : Int) ↦
 Go.AI.tCons l73 fun (v75 : Go.Value) (l76 : List Go.Value) ↦
 Go.AI.tI Go.IntKind.i64 v75 fun (n77 : Int) ↦
 Go.AI.tCons l76 fun (v78 : Go.Value) (l79 : List Go.Value) ↦
 Go.AI.tI Go.IntKind.i64 v78 fun (n80 : Int) ↦
 Go.AI.tNil l79
 (Go.AI.newAt σ67
 (Go.AI.AObj.row Go.AI.RK.plain
 [Go.Value.int Go.IntKind.i64 (0 : Int), Go.Value.int Go.IntKind.i64 (0 : Int), Go.Value.int Go.IntKind.i64 (0 : Int), Go.Value.int Go.IntKind.i64 (0 : Int)])
 fun (i81 : Nat) (σ82 : Go.AI.AS) ↦
 Go.AI.puts σ82 (Go.Addr.mk i81 (0 : Nat) Option.none)
 [Go.Value.int Go.IntKind.i64 n71, Go.Value.int Go.IntKind.i64 n74, Go.Value.int Go.IntKind.i64 n77, Go.Value.int Go.IntKind.i64 n80] fun (σ83 : Go.AI.AS) ↦
 Go.AI.bmatch (x == (10 : Int))
 (Go.AI.pSome b3 fun (a84 : Go.Addr) ↦
 Go.AI.ldc σ83 (Go.Addr.mk (Go.Addr.block a84) (Go.Addr.off a84 + (8 : Nat)) Option.none) fun (v85 : Go.Value) ↦
 Go.AI.tI Go.IntKind.u32 v85 fun (n86 : Int) ↦
 Go.AI.pSome b3 fun (a87 : Go.Addr) ↦
 Go.AI.put1 σ83 (Go.Addr.mk (Go.Addr.block a87) (Go.Addr.off a87 + (7 : Nat)) Option.none) (Go.Value.int Go.IntKind.u32 (0 : Int)) fun (σ88 : Go.AI.AS) ↦
 Go.AI.pSome b3 fun (a89 : Go.Addr) ↦
 Go.AI.put1 σ88 (Go.Addr.mk (Go.Addr.block a89) (Go.Addr.off a89 + (8 : Nat)) Option.none)
 (Go.Value.int Go.IntKind.u32 (Go.IntKind.wrap Go.IntKind.u32 (n86 + (1 : Int)))) fun (σ90 : Go.AI.AS) ↦ K (Go.Value.tuple (Array.mk [])) σ90)
 (Go.AI.pSome b3 fun (a91 : Go.Addr) ↦
 Go.AI.ldc σ83 (Go.Addr.mk (Go.Addr.block a91) (Go.Addr.off a91 + (7 : Nat)) Option.none) fun (v92 : Go.Value) ↦
 Go.AI.tI Go.IntKind.u32 v92 fun (n93 : Int) ↦
 Go.AI.ldc σ83 (Go.Addr.mk i81 ((0 : Nat) + (2 : Nat)) Option.none) fun (v94 : Go.Value) ↦
 Go.AI.tI Go.IntKind.i64 v94 fun (n95 : Int) ↦
 Go.AI.bmatch (Decidable.decide (n93 < Go.IntKind.wrap Go.IntKind.u32 n95))
 (Go.AI.pSome b3 fun (a96 : Go.Addr) ↦
 Go.AI.ldc σ83 (Go.Addr.mk (Go.Addr.block a96) (Go.Addr.off a96 + (8 : Nat)) Option.none) fun (v97 : Go.Value) ↦
 Go.AI.tI Go.IntKind.u32 v97 fun (n98 : Int) ↦
 Go.AI.ldc σ83 (Go.Addr.mk i81 ((0 : Nat) + (3 : Nat)) Option.none) fun (v99 : Go.Value) ↦
 Go.AI.tI Go.IntKind.i64 v99 fun (n100 : Int) ↦
 Go.AI.bmatch (Decidable.decide (n98 < Go.IntKind.wrap Go.IntKind.u32 n100))
 (Go.AI.pSome b3 fun (a101 : Go.Addr) ↦
 Go.AI.ldc σ83 (Go.Addr.mk (Go.Addr.block a101) (Go.Addr.off a101 + (6 : Nat)) Option.none) fun (v102 : Go.Value) ↦
 Go.AI.tM v102 fun (b103 : Option Nat) ↦
 Go.AI.bmatch (Option.isNone b103)
 (Go.AI.newAt σ83 (Go.AI.AObj.map [] (0 : Nat)) fun (i104 : Nat) (σ105 : Go.AI.AS) ↦
 Go.AI.pSome b3 fun (a106 : Go.Addr) ↦
 Go.AI.put1 σ105 (Go.Addr.mk (Go.Addr.block a106) (Go.Addr.off a106 + (6 : Nat)) Option.none) (Go.Value.map (Option.some i104))
 fun (σ107 : Go.AI.AS) ↦
 Go.AI.pSome b3 fun (a108 : Go.Addr) ↦
 Go.AI.ldc σ107 (Go.Addr.mk (Go.Addr.block a108) (Go.Addr.off a108 + (6 : Nat)) Option.none) fun (v109 : Go.Value) ↦
 Go.AI.tM v109 fun (b110 : Option Nat) ↦
 Go.AI.pSome b3 fun (a111 : Go.Addr) ↦
 Go.AI.ldc σ107 (Go.Addr.mk (Go.Addr.block a111) (Go.Addr.off a111 + (7 : Nat)) Option.none) fun (v112 : Go.Value) ↦
 Go.AI.tI Go.IntKind.u32 v112 fun (n113 : Int) ↦
 Go.AI.pSome b3 fun (a114 : Go.Addr) ↦
 Go.AI.ldc σ107 (Go.Addr.mk (Go.Addr.block a114) (Go.Addr.off a114 + (8 : Nat)) Option.none) fun (v115 : Go.Value) ↦
 Go.AI.tI Go.IntKind.u32 v115 fun (n116 : Int) ↦ False)
 (Go.AI.pSome b3 fun (a117 : Go.Addr) ↦
 Go.AI.ldc σ83 (Go.Addr.mk (Go.Addr.block a117) (Go.Addr.off a117 + (6 : Nat)) Option.none) fun (v118 : Go.Value) ↦
 Go.AI.tM v118 fun (b119 : Option Nat) ↦
 Go.AI.pSome b3 fun (a120 : Go.Addr) ↦
 Go.AI.ldc σ83 (Go.Addr.mk (Go.Addr.block a120) (Go.Addr.off a120 + (7 : Nat)) Option.none) fun (v121 : Go.Value) ↦
 Go.AI.tI Go.IntKind.u32 v121 fun (n122 : Int) ↦
 Go.AI.pSome b3 fun (a123 : Go.Addr) ↦
 Go.AI.ldc σ83 (Go.Addr.mk (Go.Addr.block a123) (Go.Addr.off a123 + (8 : Nat)) Option.none) fun (v124 : Go.Value) ↦
 Go.AI.tI Go.IntKind.u32 v124 fun (n125 : Int) ↦ False))
 (K (Go.Value.tuple (Array.mk [])) σ83))
 (K (Go.Value.tuple (Array.mk [])) σ83))))
 (K (Go.Value.tuple (Array.mk [])) σ)) := by
 intros
 kernel_rfl

end Go.AI
end
section
/- The conditions ahead of the calls of the program's functions, reckoned as far as they go (equations that the kernel checks); no condition. -/
set_option maxRecDepth 1000000
set_option linter.unusedVariables false
namespace Go.AI
open Go.Proofs
theorem s16set : ∀ (T : Go.AI.Ct) (g m ar : Nat) (σ : Go.AI.AS) (K : Go.Value → Go.AI.AS → Prop),
 Go.AI.fw Go.Proofs.Tryz.prog Go.AI.hintsS T (16 : Nat)
 [Go.Value.pointer (Option.some (Go.Addr.mk g (0 : Nat) Option.none)), Go.Value.iface (29 : Go.TypeId) (Go.Value.pointer (Option.some (Go.Addr.mk m (0 : Nat) Option.none))),
 Go.Value.int Go.IntKind.u32 (47 : Int), Go.Value.slice (Option.some (Go.Addr.mk ar (0 : Nat) Option.none)) (1 : Nat) (1 : Nat)]
 σ K =
 Go.AI.ldc σ (Go.Addr.mk g ((0 : Nat) + (7 : Nat)) Option.none) fun (v0 : Go.Value) ↦
 Go.AI.tB v0 fun (b1 : Bool) ↦
 Go.AI.bmatch b1 (K (Go.Value.tuple (Array.mk [Go.Value.int Go.IntKind.u32 (0 : Int), Go.Value.int Go.IntKind.i64 (160 : Int)])) σ)
 (T (46 : Nat) [Go.Value.int Go.IntKind.u32 (47 : Int)] σ fun (v2 : Go.Value) (σ3 : Go.AI.AS) ↦
 Go.AI.tI Go.IntKind.i64 v2 fun (n4 : Int) ↦
 Go.AI.bmatch (n4 != (↑(1 : Nat) : Int)) (K (Go.Value.tuple (Array.mk [Go.Value.int Go.IntKind.u32 (0 : Int), Go.Value.int Go.IntKind.i64 (162 : Int)])) σ3)
 (Go.AI.newAt σ3
 (Go.AI.AObj.row Go.AI.RK.plain
 [Go.Value.pointer (Option.some (Go.Addr.mk g (0 : Nat) Option.none)), Go.Value.iface (29 : Nat) (Go.Value.pointer (Option.some (Go.Addr.mk m (0 : Nat) Option.none))),
 Go.Value.slice (Option.some (Go.Addr.mk ar (0 : Nat) Option.none)) (1 : Nat) (1 : Nat)])
 fun (i5 : Nat) (σ6 : Go.AI.AS) ↦
 T (49 : Nat) [Go.Value.pointer (Option.some (Go.Addr.mk i5 (0 : Nat) Option.none)), Go.Value.int Go.IntKind.u32 (47 : Int)] σ6 fun (v7 : Go.Value) (σ8 : Go.AI.AS) ↦
 Go.AI.tTup v7 fun (l9 : List Go.Value) ↦
 Go.AI.pSome l9[(0 : Nat)]? fun (u10 : Go.Value) ↦
 Go.AI.tI Go.IntKind.u32 u10 fun (n11 : Int) ↦
 Go.AI.tTup v7 fun (l12 : List Go.Value) ↦
 Go.AI.pSome l12[(1 : Nat)]? fun (u13 : Go.Value) ↦
 Go.AI.tI Go.IntKind.i64 u13 fun (n14 : Int) ↦ K (Go.Value.tuple (Array.mk [Go.Value.int Go.IntKind.u32 n11, Go.Value.int Go.IntKind.i64 n14])) σ8)) := by
 intros
 kernel_rfl

theorem s16pw : ∀ (T : Go.AI.Ct) (g m ar : Nat) (σ : Go.AI.AS) (K : Go.Value → Go.AI.AS → Prop),
 Go.AI.fw Go.Proofs.Tryz.prog Go.AI.hintsS T (16 : Nat)
 [Go.Value.pointer (Option.some (Go.Addr.mk g (0 : Nat) Option.none)), Go.Value.iface (29 : Go.TypeId) (Go.Value.pointer (Option.some (Go.Addr.mk m (0 : Nat) Option.none))),
 Go.Value.int Go.IntKind.u32 (296 : Int), Go.Value.slice (Option.some (Go.Addr.mk ar (0 : Nat) Option.none)) (1 : Nat) (1 : Nat)]
 σ K =
 Go.AI.ldc σ (Go.Addr.mk g ((0 : Nat) + (7 : Nat)) Option.none) fun (v0 : Go.Value) ↦
 Go.AI.tB v0 fun (b1 : Bool) ↦
 Go.AI.bmatch b1 (K (Go.Value.tuple (Array.mk [Go.Value.int Go.IntKind.u32 (0 : Int), Go.Value.int Go.IntKind.i64 (160 : Int)])) σ)
 (T (46 : Nat) [Go.Value.int Go.IntKind.u32 (296 : Int)] σ fun (v2 : Go.Value) (σ3 : Go.AI.AS) ↦
 Go.AI.tI Go.IntKind.i64 v2 fun (n4 : Int) ↦
 Go.AI.bmatch (n4 != (↑(1 : Nat) : Int)) (K (Go.Value.tuple (Array.mk [Go.Value.int Go.IntKind.u32 (0 : Int), Go.Value.int Go.IntKind.i64 (162 : Int)])) σ3)
 (Go.AI.newAt σ3
 (Go.AI.AObj.row Go.AI.RK.plain
 [Go.Value.pointer (Option.some (Go.Addr.mk g (0 : Nat) Option.none)), Go.Value.iface (29 : Nat) (Go.Value.pointer (Option.some (Go.Addr.mk m (0 : Nat) Option.none))),
 Go.Value.slice (Option.some (Go.Addr.mk ar (0 : Nat) Option.none)) (1 : Nat) (1 : Nat)])
 fun (i5 : Nat) (σ6 : Go.AI.AS) ↦
 T (53 : Nat) [Go.Value.pointer (Option.some (Go.Addr.mk i5 (0 : Nat) Option.none)), Go.Value.int Go.IntKind.u32 (296 : Int)] σ6 fun (v7 : Go.Value) (σ8 : Go.AI.AS) ↦
 Go.AI.tTup v7 fun (l9 : List Go.Value) ↦
 Go.AI.pSome l9[(0 : Nat)]? fun (u10 : Go.Value) ↦
 Go.AI.tI Go.IntKind.u32 u10 fun (n11 : Int) ↦
 Go.AI.tTup v7 fun (l12 : List Go.Value) ↦
 Go.AI.pSome l12[(1 : Nat)]? fun (u13 : Go.Value) ↦
 Go.AI.tI Go.IntKind.i64 u13 fun (n14 : Int) ↦ K (Go.Value.tuple (Array.mk [Go.Value.int Go.IntKind.u32 n11, Go.Value.int Go.IntKind.i64 n14])) σ8)) := by
 intros
 kernel_rfl

theorem s16ws : ∀ (T : Go.AI.Ct) (g m ar : Nat) (σ : Go.AI.AS) (K : Go.Value → Go.AI.AS → Prop),
 Go.AI.fw Go.Proofs.Tryz.prog Go.AI.hintsS T (16 : Nat)
 [Go.Value.pointer (Option.some (Go.Addr.mk g (0 : Nat) Option.none)), Go.Value.iface (29 : Go.TypeId) (Go.Value.pointer (Option.some (Go.Addr.mk m (0 : Nat) Option.none))),
 Go.Value.int Go.IntKind.u32 (44 : Int), Go.Value.slice (Option.some (Go.Addr.mk ar (0 : Nat) Option.none)) (1 : Nat) (1 : Nat)]
 σ K =
 Go.AI.ldc σ (Go.Addr.mk g ((0 : Nat) + (7 : Nat)) Option.none) fun (v0 : Go.Value) ↦
 Go.AI.tB v0 fun (b1 : Bool) ↦
 Go.AI.bmatch b1 (K (Go.Value.tuple (Array.mk [Go.Value.int Go.IntKind.u32 (0 : Int), Go.Value.int Go.IntKind.i64 (160 : Int)])) σ)
 (T (46 : Nat) [Go.Value.int Go.IntKind.u32 (44 : Int)] σ fun (v2 : Go.Value) (σ3 : Go.AI.AS) ↦
 Go.AI.tI Go.IntKind.i64 v2 fun (n4 : Int) ↦
 Go.AI.bmatch (n4 != (↑(1 : Nat) : Int)) (K (Go.Value.tuple (Array.mk [Go.Value.int Go.IntKind.u32 (0 : Int), Go.Value.int Go.IntKind.i64 (162 : Int)])) σ3)
 (Go.AI.newAt σ3
 (Go.AI.AObj.row Go.AI.RK.plain
 [Go.Value.pointer (Option.some (Go.Addr.mk g (0 : Nat) Option.none)), Go.Value.iface (29 : Nat) (Go.Value.pointer (Option.some (Go.Addr.mk m (0 : Nat) Option.none))),
 Go.Value.slice (Option.some (Go.Addr.mk ar (0 : Nat) Option.none)) (1 : Nat) (1 : Nat)])
 fun (i5 : Nat) (σ6 : Go.AI.AS) ↦
 T (49 : Nat) [Go.Value.pointer (Option.some (Go.Addr.mk i5 (0 : Nat) Option.none)), Go.Value.int Go.IntKind.u32 (44 : Int)] σ6 fun (v7 : Go.Value) (σ8 : Go.AI.AS) ↦
 Go.AI.tTup v7 fun (l9 : List Go.Value) ↦
 Go.AI.pSome l9[(0 : Nat)]? fun (u10 : Go.Value) ↦
 Go.AI.tI Go.IntKind.u32 u10 fun (n11 : Int) ↦
 Go.AI.tTup v7 fun (l12 : List Go.Value) ↦
 Go.AI.pSome l12[(1 : Nat)]? fun (u13 : Go.Value) ↦
 Go.AI.tI Go.IntKind.i64 u13 fun (n14 : Int) ↦ K (Go.Value.tuple (Array.mk [Go.Value.int Go.IntKind.u32 n11, Go.Value.int Go.IntKind.i64 n14])) σ8)) := by
 intros
 kernel_rfl

theorem s16tl : ∀ (T : Go.AI.Ct) (g m ar : Nat) (σ : Go.AI.AS) (K : Go.Value → Go.AI.AS → Prop),
 Go.AI.fw Go.Proofs.Tryz.prog Go.AI.hintsS T (16 : Nat)
 [Go.Value.pointer (Option.some (Go.Addr.mk g (0 : Nat) Option.none)), Go.Value.iface (29 : Go.TypeId) (Go.Value.pointer (Option.some (Go.Addr.mk m (0 : Nat) Option.none))),
 Go.Value.int Go.IntKind.u32 (70 : Int), Go.Value.slice (Option.some (Go.Addr.mk ar (0 : Nat) Option.none)) (1 : Nat) (1 : Nat)]
 σ K =
 Go.AI.ldc σ (Go.Addr.mk g ((0 : Nat) + (7 : Nat)) Option.none) fun (v0 : Go.Value) ↦
 Go.AI.tB v0 fun (b1 : Bool) ↦
 Go.AI.bmatch b1 (K (Go.Value.tuple (Array.mk [Go.Value.int Go.IntKind.u32 (0 : Int), Go.Value.int Go.IntKind.i64 (160 : Int)])) σ)
 (T (46 : Nat) [Go.Value.int Go.IntKind.u32 (70 : Int)] σ fun (v2 : Go.Value) (σ3 : Go.AI.AS) ↦
 Go.AI.tI Go.IntKind.i64 v2 fun (n4 : Int) ↦
 Go.AI.bmatch (n4 != (↑(1 : Nat) : Int)) (K (Go.Value.tuple (Array.mk [Go.Value.int Go.IntKind.u32 (0 : Int), Go.Value.int Go.IntKind.i64 (162 : Int)])) σ3)
 (Go.AI.newAt σ3
 (Go.AI.AObj.row Go.AI.RK.plain
 [Go.Value.pointer (Option.some (Go.Addr.mk g (0 : Nat) Option.none)), Go.Value.iface (29 : Nat) (Go.Value.pointer (Option.some (Go.Addr.mk m (0 : Nat) Option.none))),
 Go.Value.slice (Option.some (Go.Addr.mk ar (0 : Nat) Option.none)) (1 : Nat) (1 : Nat)])
 fun (i5 : Nat) (σ6 : Go.AI.AS) ↦
 T (50 : Nat) [Go.Value.pointer (Option.some (Go.Addr.mk i5 (0 : Nat) Option.none)), Go.Value.int Go.IntKind.u32 (70 : Int)] σ6 fun (v7 : Go.Value) (σ8 : Go.AI.AS) ↦
 Go.AI.tTup v7 fun (l9 : List Go.Value) ↦
 Go.AI.pSome l9[(0 : Nat)]? fun (u10 : Go.Value) ↦
 Go.AI.tI Go.IntKind.u32 u10 fun (n11 : Int) ↦
 Go.AI.tTup v7 fun (l12 : List Go.Value) ↦
 Go.AI.pSome l12[(1 : Nat)]? fun (u13 : Go.Value) ↦
 Go.AI.tI Go.IntKind.i64 u13 fun (n14 : Int) ↦ K (Go.Value.tuple (Array.mk [Go.Value.int Go.IntKind.u32 n11, Go.Value.int Go.IntKind.i64 n14])) σ8)) := by
 intros
 kernel_rfl

theorem s49set : ∀ (T : Go.AI.Ct) (c : Nat) (σ : Go.AI.AS) (K : Go.Value → Go.AI.AS → Prop),
 Go.AI.fw Go.Proofs.Tryz.prog Go.AI.hintsS T (49 : Nat) [Go.Value.pointer (Option.some (Go.Addr.mk c (0 : Nat) Option.none)), Go.Value.int Go.IntKind.u32 (47 : Int)] σ K =
 Go.AI.ldc σ (Go.Addr.mk c ((0 : Nat) + (2 : Nat)) Option.none) fun (v0 : Go.Value) ↦
 Go.AI.tL (1 : Nat) v0 fun (s1 : Go.AI.Sl) ↦
 Go.AI.req ((0 : Int) < (↑(Go.AI.Sl.n s1) : Int))
 (Go.AI.pSome (Go.AI.Sl.a s1) fun (a2 : Go.Addr) ↦
 Go.AI.ldc σ (Go.AI.aadd a2 (Int.toNat (0 : Int) * Go.AI.szOf Go.Proofs.Tryz.prog (32 : Nat))) fun (v3 : Go.Value) ↦
 Go.AI.tI Go.IntKind.u32 v3 fun (n4 : Int) ↦
 Go.AI.bmatch (n4 == (0 : Int))
 (Go.AI.ldc σ (Go.Addr.mk c (0 : Nat) Option.none) fun (v5 : Go.Value) ↦
 Go.AI.tP v5 fun (b6 : Option Go.Addr) ↦
 Go.AI.pSome b6 fun (a7 : Go.Addr) ↦
 Go.AI.put1 σ (Go.Addr.mk (Go.Addr.block a7) (Go.Addr.off a7 + (6 : Nat)) Option.none) (Go.Value.int Go.IntKind.u32 (0 : Int)) fun (σ8 : Go.AI.AS) ↦
 Go.AI.ldc σ8 (Go.Addr.mk c (0 : Nat) Option.none) fun (v9 : Go.Value) ↦
 Go.AI.tP v9 fun (b10 : Option Go.Addr) ↦
 Go.AI.ldc σ8 (Go.Addr.mk c ((0 : Nat) + (2 : Nat)) Option.none) fun (v11 : Go.Value) ↦
 Go.AI.tL (1 : Nat) v11 fun (s12 : Go.AI.Sl) ↦
 Go.AI.req ((0 : Int) < (↑(Go.AI.Sl.n s12) : Int))
 (Go.AI.pSome (Go.AI.Sl.a s12) fun (a13 : Go.Addr) ↦
 Go.AI.ldc σ8 (Go.AI.aadd a13 (Int.toNat (0 : Int) * Go.AI.szOf Go.Proofs.Tryz.prog (32 : Nat))) fun (v14 : Go.Value) ↦
 Go.AI.tI Go.IntKind.u32 v14 fun (n15 : Int) ↦
 T (54 : Nat) [Go.Value.pointer b10, Go.Value.int Go.IntKind.u32 n15, Go.Value.int Go.IntKind.i64 (1 : Int)] σ8 fun (v16 : Go.Value) (σ17 : Go.AI.AS) ↦
 Go.AI.tP v16 fun (b18 : Option Go.Addr) ↦
 Go.AI.ptrEq σ17 b18 Option.none fun (r19 : Bool) ↦
 Go.AI.bmatch r19 (K (Go.Value.tuple (Array.mk [Go.Value.int Go.IntKind.u32 (0 : Int), Go.Value.int Go.IntKind.i64 (0 : Int)])) σ17)
 (Go.AI.ldc σ17 (Go.Addr.mk c (0 : Nat) Option.none) fun (v20 : Go.Value) ↦
 Go.AI.tP v20 fun (b21 : Option Go.Addr) ↦
 Go.AI.pSome b18 fun (a22 : Go.Addr) ↦
 Go.AI.ldc σ17 (Go.Addr.mk (Go.Addr.block a22) (Go.Addr.off a22 + (4 : Nat)) Option.none) fun (v23 : Go.Value) ↦
 Go.AI.tI Go.IntKind.u32 v23 fun (n24 : Int) ↦
 Go.AI.pSome b21 fun (a25 : Go.Addr) ↦
 Go.AI.put1 σ17 (Go.Addr.mk (Go.Addr.block a25) (Go.Addr.off a25 + (6 : Nat)) Option.none) (Go.Value.int Go.IntKind.u32 n24) fun (σ26 : Go.AI.AS) ↦
 K (Go.Value.tuple (Array.mk [Go.Value.int Go.IntKind.u32 (0 : Int), Go.Value.int Go.IntKind.i64 (0 : Int)])) σ26)))
 (Go.AI.ldc σ (Go.Addr.mk c (0 : Nat) Option.none) fun (v27 : Go.Value) ↦
 Go.AI.tP v27 fun (b28 : Option Go.Addr) ↦
 Go.AI.ldc σ (Go.Addr.mk c ((0 : Nat) + (2 : Nat)) Option.none) fun (v29 : Go.Value) ↦
 Go.AI.tL (1 : Nat) v29 fun (s30 : Go.AI.Sl) ↦
 Go.AI.req ((0 : Int) < (↑(Go.AI.Sl.n s30) : Int))
 (Go.AI.pSome (Go.AI.Sl.a s30) fun (a31 : Go.Addr) ↦
 Go.AI.ldc σ (Go.AI.aadd a31 (Int.toNat (0 : Int) * Go.AI.szOf Go.Proofs.Tryz.prog (32 : Nat))) fun (v32 : Go.Value) ↦
 Go.AI.tI Go.IntKind.u32 v32 fun (n33 : Int) ↦
 T (54 : Nat) [Go.Value.pointer b28, Go.Value.int Go.IntKind.u32 n33, Go.Value.int Go.IntKind.i64 (1 : Int)] σ fun (v34 : Go.Value) (σ35 : Go.AI.AS) ↦
 Go.AI.tP v34 fun (b36 : Option Go.Addr) ↦
 Go.AI.ptrEq σ35 b36 Option.none fun (r37 : Bool) ↦
 Go.AI.bmatch r37 (K (Go.Value.tuple (Array.mk [Go.Value.int Go.IntKind.u32 (0 : Int), Go.Value.int Go.IntKind.i64 (0 : Int)])) σ35)
 (Go.AI.ldc σ35 (Go.Addr.mk c (0 : Nat) Option.none) fun (v38 : Go.Value) ↦
 Go.AI.tP v38 fun (b39 : Option Go.Addr) ↦
 Go.AI.pSome b36 fun (a40 : Go.Addr) ↦
 Go.AI.ldc σ35 (Go.Addr.mk (Go.Addr.block a40) (Go.Addr.off a40 + (4 : Nat)) Option.none) fun (v41 : Go.Value) ↦
 Go.AI.tI Go.IntKind.u32 v41 fun (n42 : Int) ↦
 Go.AI.pSome b39 fun (a43 : Go.Addr) ↦
 Go.AI.put1 σ35 (Go.Addr.mk (Go.Addr.block a43) (Go.Addr.off a43 + (6 : Nat)) Option.none) (Go.Value.int Go.IntKind.u32 n42) fun (σ44 : Go.AI.AS) ↦
 K (Go.Value.tuple (Array.mk [Go.Value.int Go.IntKind.u32 (0 : Int), Go.Value.int Go.IntKind.i64 (0 : Int)])) σ44)))) := by
 intros
 kernel_rfl

theorem s49ws : ∀ (T : Go.AI.Ct) (c : Nat) (σ : Go.AI.AS) (K : Go.Value → Go.AI.AS → Prop),
 Go.AI.fw Go.Proofs.Tryz.prog Go.AI.hintsS T (49 : Nat) [Go.Value.pointer (Option.some (Go.Addr.mk c (0 : Nat) Option.none)), Go.Value.int Go.IntKind.u32 (44 : Int)] σ K =
 Go.AI.ldc σ (Go.Addr.mk c (0 : Nat) Option.none) fun (v0 : Go.Value) ↦
 Go.AI.tP v0 fun (b1 : Option Go.Addr) ↦
 Go.AI.ldc σ (Go.Addr.mk c ((0 : Nat) + (2 : Nat)) Option.none) fun (v2 : Go.Value) ↦
 Go.AI.tL (1 : Nat) v2 fun (s3 : Go.AI.Sl) ↦
 Go.AI.req ((0 : Int) < (↑(Go.AI.Sl.n s3) : Int))
 (Go.AI.pSome (Go.AI.Sl.a s3) fun (a4 : Go.Addr) ↦
 Go.AI.ldc σ (Go.AI.aadd a4 (Int.toNat (0 : Int) * Go.AI.szOf Go.Proofs.Tryz.prog (32 : Nat))) fun (v5 : Go.Value) ↦
 Go.AI.tI Go.IntKind.u32 v5 fun (n6 : Int) ↦
 T (54 : Nat) [Go.Value.pointer b1, Go.Value.int Go.IntKind.u32 n6, Go.Value.int Go.IntKind.i64 (1 : Int)] σ fun (v7 : Go.Value) (σ8 : Go.AI.AS) ↦
 Go.AI.tP v7 fun (b9 : Option Go.Addr) ↦
 Go.AI.ptrEq σ8 b9 Option.none fun (r10 : Bool) ↦
 Go.AI.bmatch r10 (K (Go.Value.tuple (Array.mk [Go.Value.int Go.IntKind.u32 (0 : Int), Go.Value.int Go.IntKind.i64 (0 : Int)])) σ8)
 (Go.AI.pSome b9 fun (a11 : Go.Addr) ↦
 Go.AI.ldc σ8 (Go.Addr.mk (Go.Addr.block a11) (Go.Addr.off a11 + (4 : Nat)) Option.none) fun (v12 : Go.Value) ↦
 Go.AI.tI Go.IntKind.u32 v12 fun (n13 : Int) ↦ K (Go.Value.tuple (Array.mk [Go.Value.int Go.IntKind.u32 n13, Go.Value.int Go.IntKind.i64 (0 : Int)])) σ8)) := by
 intros
 kernel_rfl

theorem s53pw : ∀ (T : Go.AI.Ct) (c : Nat) (σ : Go.AI.AS) (K : Go.Value → Go.AI.AS → Prop),
 Go.AI.fw Go.Proofs.Tryz.prog Go.AI.hintsS T (53 : Nat) [Go.Value.pointer (Option.some (Go.Addr.mk c (0 : Nat) Option.none)), Go.Value.int Go.IntKind.u32 (296 : Int)] σ K =
 Go.AI.ldc σ (Go.Addr.mk c (0 : Nat) Option.none) fun (v0 : Go.Value) ↦
 Go.AI.tP v0 fun (b1 : Option Go.Addr) ↦
 Go.AI.ldc σ (Go.Addr.mk c (0 : Nat) Option.none) fun (v2 : Go.Value) ↦
 Go.AI.tP v2 fun (b3 : Option Go.Addr) ↦
 Go.AI.pSome b3 fun (a4 : Go.Addr) ↦
 Go.AI.ldc σ (Go.Addr.mk (Go.Addr.block a4) (Go.Addr.off a4 + (6 : Nat)) Option.none) fun (v5 : Go.Value) ↦
 Go.AI.tI Go.IntKind.u32 v5 fun (n6 : Int) ↦
 Go.AI.ldc σ (Go.Addr.mk c ((0 : Nat) + (2 : Nat)) Option.none) fun (v7 : Go.Value) ↦
 Go.AI.tL (1 : Nat) v7 fun (s8 : Go.AI.Sl) ↦
 Go.AI.req ((0 : Int) < (↑(Go.AI.Sl.n s8) : Int))
 (Go.AI.pSome (Go.AI.Sl.a s8) fun (a9 : Go.Addr) ↦
 Go.AI.ldc σ (Go.AI.aadd a9 (Int.toNat (0 : Int) * Go.AI.szOf Go.Proofs.Tryz.prog (32 : Nat))) fun (v10 : Go.Value) ↦
 Go.AI.tI Go.IntKind.u32 v10 fun (n11 : Int) ↦
 T (72 : Nat) [Go.Value.pointer b1, Go.Value.int Go.IntKind.u32 n6, Go.Value.int Go.IntKind.u32 n11] σ fun (v12 : Go.Value) (σ13 : Go.AI.AS) ↦
 K (Go.Value.tuple (Array.mk [Go.Value.int Go.IntKind.u32 (0 : Int), Go.Value.int Go.IntKind.i64 (0 : Int)])) σ13) := by
 intros
 kernel_rfl

theorem s50tl : ∀ (T : Go.AI.Ct) (c : Nat) (σ : Go.AI.AS) (K : Go.Value → Go.AI.AS → Prop),
 Go.AI.fw Go.Proofs.Tryz.prog Go.AI.hintsS T (50 : Nat) [Go.Value.pointer (Option.some (Go.Addr.mk c (0 : Nat) Option.none)), Go.Value.int Go.IntKind.u32 (70 : Int)] σ K =
 Go.AI.ldc σ (Go.Addr.mk c (0 : Nat) Option.none) fun (v0 : Go.Value) ↦
 Go.AI.tP v0 fun (b1 : Option Go.Addr) ↦
 Go.AI.ldc σ (Go.Addr.mk c ((0 : Nat) + (2 : Nat)) Option.none) fun (v2 : Go.Value) ↦
 Go.AI.tL (1 : Nat) v2 fun (s3 : Go.AI.Sl) ↦
 Go.AI.req ((0 : Int) < (↑(Go.AI.Sl.n s3) : Int))
 (Go.AI.pSome (Go.AI.Sl.a s3) fun (a4 : Go.Addr) ↦
 Go.AI.ldc σ (Go.AI.aadd a4 (Int.toNat (0 : Int) * Go.AI.szOf Go.Proofs.Tryz.prog (32 : Nat))) fun (v5 : Go.Value) ↦
 Go.AI.tI Go.IntKind.u32 v5 fun (n6 : Int) ↦
 T (54 : Nat) [Go.Value.pointer b1, Go.Value.int Go.IntKind.u32 n6, Go.Value.int Go.IntKind.i64 (2 : Int)] σ fun (v7 : Go.Value) (σ8 : Go.AI.AS) ↦
 Go.AI.tP v7 fun (b9 : Option Go.Addr) ↦
 Go.AI.ptrEq σ8 b9 Option.none fun (r10 : Bool) ↦
 Go.AI.bmatch r10 (K (Go.Value.tuple (Array.mk [Go.Value.int Go.IntKind.u32 (0 : Int), Go.Value.int Go.IntKind.i64 (0 : Int)])) σ8)
 (Go.AI.pSome b9 fun (a11 : Go.Addr) ↦
 Go.AI.ldc σ8 (Go.Addr.mk (Go.Addr.block a11) (Go.Addr.off a11 + (12 : Nat)) Option.none) fun (v12 : Go.Value) ↦
 Go.AI.tI Go.IntKind.u32 v12 fun (n13 : Int) ↦
 Go.AI.bmatch (n13 != (0 : Int))
 (Go.AI.pSome b9 fun (a14 : Go.Addr) ↦
 Go.AI.ldc σ8 (Go.Addr.mk (Go.Addr.block a14) (Go.Addr.off a14 + (17 : Nat)) Option.none) fun (v15 : Go.Value) ↦
 Go.AI.tI Go.IntKind.u32 v15 fun (n16 : Int) ↦ K (Go.Value.tuple (Array.mk [Go.Value.int Go.IntKind.u32 n16, Go.Value.int Go.IntKind.i64 (0 : Int)])) σ8)
 (Go.AI.pSome b9 fun (a17 : Go.Addr) ↦
 Go.AI.ldc σ8 (Go.Addr.mk (Go.Addr.block a17) (Go.Addr.off a17 + (12 : Nat)) Option.none) fun (v18 : Go.Value) ↦
 Go.AI.tI Go.IntKind.u32 v18 fun (n19 : Int) ↦
 Go.AI.bmatch (n19 != (0 : Int)) (K (Go.Value.tuple (Array.mk [Go.Value.int Go.IntKind.u32 (0 : Int), Go.Value.int Go.IntKind.i64 (0 : Int)])) σ8)
 (Go.AI.ldc σ8 (Go.Addr.mk c (0 : Nat) Option.none) fun (v20 : Go.Value) ↦
 Go.AI.tP v20 fun (b21 : Option Go.Addr) ↦
 Go.AI.pSome b21 fun (a22 : Go.Addr) ↦
 Go.AI.ldc σ8 (Go.Addr.mk (Go.Addr.block a22) (Go.Addr.off a22 + (3 : Nat)) Option.none) fun (v23 : Go.Value) ↦
 Go.AI.tP v23 fun (b24 : Option Go.Addr) ↦
 Go.AI.pSome b9 fun (a25 : Go.Addr) ↦
 Go.AI.ldc σ8 (Go.Addr.mk (Go.Addr.block a25) (Go.Addr.off a25 + (13 : Nat)) Option.none) fun (v26 : Go.Value) ↦
 Go.AI.tI Go.IntKind.i64 v26 fun (n27 : Int) ↦
 T (98 : Nat) [Go.Value.pointer b24, Go.Value.int Go.IntKind.i64 n27] σ8 fun (v28 : Go.Value) (σ29 : Go.AI.AS) ↦
 Go.AI.tTup v28 fun (l30 : List Go.Value) ↦
 Go.AI.pSome l30[(0 : Nat)]? fun (u31 : Go.Value) ↦
 Go.AI.tI Go.IntKind.i64 u31 fun (n32 : Int) ↦
 Go.AI.tTup v28 fun (l33 : List Go.Value) ↦
 Go.AI.pSome l33[(1 : Nat)]? fun (u34 : Go.Value) ↦
 Go.AI.tI Go.IntKind.i64 u34 fun (n35 : Int) ↦
 Go.AI.tTup v28 fun (l36 : List Go.Value) ↦
 Go.AI.pSome l36[(2 : Nat)]? fun (u37 : Go.Value) ↦
 Go.AI.tI Go.IntKind.i64 u37 fun (n38 : Int) ↦
 K (Go.Value.tuple (Array.mk [Go.Value.int Go.IntKind.u32 (Go.IntKind.wrap Go.IntKind.u32 n32), Go.Value.int Go.IntKind.i64 (0 : Int)]))
 σ29)))) := by
 intros
 kernel_rfl

theorem s72 : ∀ (T : Go.AI.Ct) (g : Nat) (id x : Int) (σ : Go.AI.AS) (K : Go.Value → Go.AI.AS → Prop),
 Go.AI.fw Go.Proofs.Tryz.prog Go.AI.hintsS T (72 : Nat) [Go.Value.pointer (Option.some (Go.Addr.mk g (0 : Nat) Option.none)), Go.Value.int Go.IntKind.u32 id, Go.Value.int Go.IntKind.u32 x] σ K =
 T (54 : Nat) [Go.Value.pointer (Option.some (Go.Addr.mk g (0 : Nat) Option.none)), Go.Value.int Go.IntKind.u32 id, Go.Value.int Go.IntKind.i64 (2 : Int)] σ fun (v0 : Go.Value) (σ1 : Go.AI.AS) ↦
 Go.AI.tP v0 fun (b2 : Option Go.Addr) ↦
 Go.AI.ptrEq σ1 b2 Option.none fun (r3 : Bool) ↦
 Go.AI.bmatch r3 (K (Go.Value.tuple (Array.mk [])) σ1)
 (Go.AI.pSome b2 fun (a4 : Go.Addr) ↦
 Go.AI.ldc σ1 (Go.Addr.mk (Go.Addr.block a4) (Go.Addr.off a4 + (12 : Nat)) Option.none) fun (v5 : Go.Value) ↦
 Go.AI.tI Go.IntKind.u32 v5 fun (n6 : Int) ↦
 Go.AI.bmatch (n6 != (0 : Int))
 (Go.AI.pSome b2 fun (a7 : Go.Addr) ↦
 Go.AI.ldc σ1 (Go.Addr.mk (Go.Addr.block a7) (Go.Addr.off a7 + (17 : Nat)) Option.none) fun (v8 : Go.Value) ↦
 Go.AI.tI Go.IntKind.u32 v8 fun (n9 : Int) ↦
 Go.AI.pSome b2 fun (a10 : Go.Addr) ↦
 Go.AI.put1 σ1 (Go.Addr.mk (Go.Addr.block a10) (Go.Addr.off a10 + (17 : Nat)) Option.none) (Go.Value.int Go.IntKind.u32 (Go.IntKind.wrap Go.IntKind.u32 (n9 + (1 : Int)))) fun (σ11 : Go.AI.AS) ↦
 Go.AI.pSome b2 fun (a12 : Go.Addr) ↦
 Go.AI.ldc σ11 (Go.Addr.mk (Go.Addr.block a12) (Go.Addr.off a12 + (12 : Nat)) Option.none) fun (v13 : Go.Value) ↦
 Go.AI.tI Go.IntKind.u32 v13 fun (n14 : Int) ↦
 T (132 : Nat) [Go.Value.pointer (Option.some (Go.Addr.mk g (0 : Nat) Option.none)), Go.Value.int Go.IntKind.u32 n14, Go.Value.int Go.IntKind.u32 x] σ11
 fun (v15 : Go.Value) (σ16 : Go.AI.AS) ↦ K (Go.Value.tuple (Array.mk [])) σ16)
 (Go.AI.ldc σ1 (Go.Addr.mk g ((0 : Nat) + (3 : Nat)) Option.none) fun (v17 : Go.Value) ↦
 Go.AI.tP v17 fun (b18 : Option Go.Addr) ↦
 Go.AI.pSome b2 fun (a19 : Go.Addr) ↦
 Go.AI.ldc σ1 (Go.Addr.mk (Go.Addr.block a19) (Go.Addr.off a19 + (13 : Nat)) Option.none) fun (v20 : Go.Value) ↦
 Go.AI.tI Go.IntKind.i64 v20 fun (n21 : Int) ↦
 Go.AI.newAt σ1 (Go.AI.AObj.row Go.AI.RK.rw [Go.Value.int Go.IntKind.u32 x]) fun (i22 : Nat) (σ23 : Go.AI.AS) ↦
 Go.AI.ldc σ23 (Go.Addr.mk (Go.Addr.block a19) (Go.Addr.off a19 + (13 : Nat)) Option.none) fun (v24 : Go.Value) ↦
 Go.AI.tI Go.IntKind.i64 v24 fun (n25 : Int) ↦
 Go.Value.int Go.IntKind.i64 n21 = Go.Value.int Go.IntKind.i64 n25 ∧
 Go.AI.ldc σ23 (Go.Addr.mk g ((0 : Nat) + (3 : Nat)) Option.none) fun (v26 : Go.Value) ↦
 Go.AI.tP v26 fun (b27 : Option Go.Addr) ↦
 Go.Value.pointer b18 = Go.Value.pointer b27 ∧
 T (78 : Nat) [Go.Value.pointer b18, Go.Value.int Go.IntKind.i64 n21, Go.Value.slice (Option.some (Go.Addr.mk i22 (0 : Nat) Option.none)) (1 : Nat) (1 : Nat)] σ23
 fun (v28 : Go.Value) (σ29 : Go.AI.AS) ↦ Go.AI.tI Go.IntKind.i64 v28 fun (n30 : Int) ↦ K (Go.Value.tuple (Array.mk [])) σ29)) := by
 intros
 kernel_rfl

theorem s45 : ∀ (T : Go.AI.Ct) (sa : Option Go.Addr) (sn : Nat) (σ : Go.AI.AS) (K : Go.Value → Go.AI.AS → Prop),
 Go.AI.fw Go.Proofs.Tryz.prog Go.AI.hintsS T (45 : Nat) [Go.Value.slice sa sn (1 : Nat)] σ K =
 Go.AI.bmatch (Option.isNone sa) (K (Go.Value.slice Option.none (0 : Nat) (0 : Nat)) σ)
 (Go.AI.newAt σ (Go.AI.AObj.row Go.AI.RK.rw []) fun (i0 : Nat) (σ1 : Go.AI.AS) ↦
 Go.AI.srcCells σ1 (1 : Nat) (Option.some (Go.Value.slice sa sn (1 : Nat))) fun (m2 : Nat) (new3 : List Go.Value) ↦
 Go.AI.appendTo σ1 (1 : Nat) (4 : Nat) (Go.AI.Sl.mk (Option.some (Go.Addr.mk i0 (0 : Nat) Option.none)) (0 : Nat)) new3 m2 fun (s4 : Go.AI.Sl) (σ5 : Go.AI.AS) ↦
 K (Go.Value.slice (Go.AI.Sl.a s4) (Go.AI.Sl.n s4) (1 : Nat)) σ5) := by
 intros
 kernel_rfl

end Go.AI
end
section
/- The conditions ahead of the calls of the program's functions, reckoned as far as they go (equations that the kernel checks); no condition. -/
set_option maxRecDepth 1000000
set_option linter.unusedVariables false
namespace Go.AI
open Go.Proofs
theorem s18g : ∀ (T : Go.AI.Ct) (aa : Option Go.Addr) (an ae : Nat) (ba : Option Go.Addr) (bn be : Nat) (σ : Go.AI.AS) (K : Go.Value → Go.AI.AS → Prop),
 Go.AI.fw Go.Proofs.Tryz.prog Go.AI.hintsS T (18 : Nat) [Go.Value.slice aa an ae, Go.Value.slice ba bn be] σ K =
 Go.AI.bmatch ((↑an : Int) != (↑bn : Int)) (K (Go.Value.bool Bool.false) σ)
 (Go.AI.ALoop (Go.AI.fl Go.Proofs.Tryz.prog Go.AI.hintsS T (18 : Nat) [Bool.true, Bool.true, Bool.false, Bool.true, Bool.false] [] K)
 [((0 : Nat), Option.some (Go.Value.slice aa an ae)), ((1 : Nat), Option.some (Go.Value.slice ba bn be)), ((5 : Nat), Option.some (Go.Value.int Go.IntKind.i64 (0 : Int)))] σ) := by
 intros
 kernel_rfl

end Go.AI
end
section
/- The conditions ahead of the calls of the program's functions, reckoned as far as they go (equations that the kernel checks); no condition. -/
set_option maxRecDepth 1000000
set_option linter.unusedVariables false
namespace Go.AI
open Go.Proofs
theorem s161 : ∀ (T : Go.AI.Ct) (g : Nat) (asks : Int) (σ : Go.AI.AS) (K : Go.Value → Go.AI.AS → Prop),
 Go.AI.fw Go.Proofs.Tryz.prog Go.AI.hintsS T (161 : Nat) [Go.Value.pointer (Option.some (Go.Addr.mk g (0 : Nat) Option.none)), Go.Value.int Go.IntKind.i64 asks] σ K =
 Go.AI.ldc σ (Go.Addr.mk g ((0 : Nat) + (1 : Nat)) Option.none) fun (v0 : Go.Value) ↦
 Go.AI.tM v0 fun (b1 : Option Nat) ↦
 Go.AI.rngM σ b1 fun (j2 : Nat) (σ3 : Go.AI.AS) ↦
 Go.AI.ALoop (Go.AI.fl Go.Proofs.Tryz.prog Go.AI.hintsS T (161 : Nat) [Bool.true, Bool.true, Bool.false, Bool.true, Bool.false] [] K)
 [((1 : Nat), Option.some (Go.Value.int Go.IntKind.i64 asks)), ((5 : Nat), Option.some (Go.Value.int Go.IntKind.u32 (0 : Int))),
 ((12 : Nat), Option.some (Go.Value.pointer (Option.some (Go.Addr.mk j2 (0 : Nat) Option.none))))]
 σ3 := by
 intros
 kernel_rfl

theorem s161l : ∀ (T : Go.AI.Ct) (asks best : Int) (r12_1 : Nat) (X : Go.AI.Regs → Go.AI.AS → Prop) (σ : Go.AI.AS) (K : Go.Value → Go.AI.AS → Prop),
 Go.AI.fl Go.Proofs.Tryz.prog Go.AI.hintsS T (161 : Nat) [Bool.true, Bool.true, Bool.false, Bool.true, Bool.false] [] K X
 [((1 : Nat), Option.some (Go.Value.int Go.IntKind.i64 asks)), ((5 : Nat), Option.some (Go.Value.int Go.IntKind.u32 best)),
 ((12 : Nat), Option.some (Go.Value.pointer (Option.some (Go.Addr.mk r12_1 (0 : Nat) Option.none))))]
 σ =
 Go.AI.mnext σ r12_1 fun (r0 : Option (Go.Value × Go.Value)) (σ1 : Go.AI.AS) ↦
 Go.AI.onNx r0
 (fun (k2 v3 : Go.Value) ↦
 Go.AI.mentry σ1 r12_1 fun (k4 v5 : Go.Value) ↦
 Go.AI.tI Go.IntKind.u32 k4 fun (n6 : Int) ↦
 Go.AI.tP v5 fun (b7 : Option Go.Addr) ↦
 Go.AI.pSome b7 fun (a8 : Go.Addr) ↦
 Go.AI.ldc σ1 (Go.Addr.add a8 (0 : Nat)) fun (v9 : Go.Value) ↦
 Go.AI.tI Go.IntKind.i64 v9 fun (n10 : Int) ↦
 Go.AI.bmatch (n10 == (1 : Int))
 (Go.AI.pSome b7 fun (a11 : Go.Addr) ↦
 Go.AI.ldc σ1 (Go.Addr.mk (Go.Addr.block a11) (Go.Addr.off a11 + (9 : Nat)) Option.none) fun (v12 : Go.Value) ↦
 Go.AI.tI Go.IntKind.i64 v12 fun (n13 : Int) ↦
 Go.AI.bmatch (n13 == asks)
 (Go.AI.bmatch (best == (0 : Int))
 (X
 [((1 : Nat), Option.some (Go.Value.int Go.IntKind.i64 asks)), ((5 : Nat), Option.some (Go.Value.int Go.IntKind.u32 n6)),
 ((12 : Nat), Option.some (Go.Value.pointer (Option.some (Go.Addr.mk r12_1 (0 : Nat) Option.none))))]
 σ1)
 (Go.AI.bmatch (Decidable.decide (n6 < best))
 (X
 [((1 : Nat), Option.some (Go.Value.int Go.IntKind.i64 asks)), ((5 : Nat), Option.some (Go.Value.int Go.IntKind.u32 n6)),
 ((12 : Nat), Option.some (Go.Value.pointer (Option.some (Go.Addr.mk r12_1 (0 : Nat) Option.none))))]
 σ1)
 (X
 [((1 : Nat), Option.some (Go.Value.int Go.IntKind.i64 asks)), ((5 : Nat), Option.some (Go.Value.int Go.IntKind.u32 best)),
 ((12 : Nat), Option.some (Go.Value.pointer (Option.some (Go.Addr.mk r12_1 (0 : Nat) Option.none))))]
 σ1)))
 (X
 [((1 : Nat), Option.some (Go.Value.int Go.IntKind.i64 asks)), ((5 : Nat), Option.some (Go.Value.int Go.IntKind.u32 best)),
 ((12 : Nat), Option.some (Go.Value.pointer (Option.some (Go.Addr.mk r12_1 (0 : Nat) Option.none))))]
 σ1))
 (X
 [((1 : Nat), Option.some (Go.Value.int Go.IntKind.i64 asks)), ((5 : Nat), Option.some (Go.Value.int Go.IntKind.u32 best)),
 ((12 : Nat), Option.some (Go.Value.pointer (Option.some (Go.Addr.mk r12_1 (0 : Nat) Option.none))))]
 σ1))
 (K (Go.Value.int Go.IntKind.u32 best) σ1) := by
 intros
 kernel_rfl

theorem s28 : ∀ (T : Go.AI.Ct) (g : Nat) (σ : Go.AI.AS) (K : Go.Value → Go.AI.AS → Prop),
 Go.AI.fw Go.Proofs.Tryz.prog Go.AI.hintsS T (28 : Nat) [Go.Value.pointer (Option.some (Go.Addr.mk g (0 : Nat) Option.none))] σ K =
 Go.AI.ldc σ (Go.Addr.mk g ((0 : Nat) + (4 : Nat)) Option.none) fun (v0 : Go.Value) ↦ Go.AI.tL (2 : Nat) v0 fun (s1 : Go.AI.Sl) ↦ K (Go.Value.int Go.IntKind.i64 (↑(Go.AI.Sl.n s1) : Int)) σ := by
 intros
 kernel_rfl

theorem s103 : ∀ (T : Go.AI.Ct) (c : Nat) (σ : Go.AI.AS) (K : Go.Value → Go.AI.AS → Prop),
 Go.AI.fw Go.Proofs.Tryz.prog Go.AI.hintsS T (103 : Nat) [Go.Value.pointer (Option.some (Go.Addr.mk c (0 : Nat) Option.none))] σ K =
 Go.AI.ALoop (Go.AI.fl Go.Proofs.Tryz.prog Go.AI.hintsS T (103 : Nat) [Bool.true, Bool.false, Bool.false] [] K) [((0 : Nat), Option.some (Go.Value.pointer (Option.some (Go.Addr.mk c (0 : Nat) Option.none))))]
 σ := by
 intros
 kernel_rfl

theorem s103l : ∀ (T : Go.AI.Ct) (c : Nat) (X : Go.AI.Regs → Go.AI.AS → Prop) (σ : Go.AI.AS) (K : Go.Value → Go.AI.AS → Prop),
 Go.AI.fl Go.Proofs.Tryz.prog Go.AI.hintsS T (103 : Nat) [Bool.true, Bool.false, Bool.false] [] K X [((0 : Nat), Option.some (Go.Value.pointer (Option.some (Go.Addr.mk c (0 : Nat) Option.none))))] σ =
 Go.AI.ldc σ (Go.Addr.mk c (0 : Nat) Option.none) fun (v0 : Go.Value) ↦
 Go.AI.tP v0 fun (b1 : Option Go.Addr) ↦
 Go.AI.pSome b1 fun (a2 : Go.Addr) ↦
 Go.AI.ldc σ (Go.Addr.mk (Go.Addr.block a2) (Go.Addr.off a2 + (4 : Nat)) Option.none) fun (v3 : Go.Value) ↦
 Go.AI.tL (2 : Nat) v3 fun (s4 : Go.AI.Sl) ↦
 Go.AI.bmatch (Decidable.decide ((↑(Go.AI.Sl.n s4) : Int) > (0 : Int)))
 (Go.AI.ldc σ (Go.Addr.mk c (0 : Nat) Option.none) fun (v5 : Go.Value) ↦
 Go.AI.tP v5 fun (b6 : Option Go.Addr) ↦
 Go.AI.pSome b6 fun (a7 : Go.Addr) ↦
 Go.AI.ldc σ (Go.Addr.mk (Go.Addr.block a7) (Go.Addr.off a7 + (4 : Nat)) Option.none) fun (v8 : Go.Value) ↦
 Go.AI.tL (2 : Nat) v8 fun (s9 : Go.AI.Sl) ↦
 Go.AI.req ((0 : Int) < (↑(Go.AI.Sl.n s9) : Int))
 (Go.AI.pSome (Go.AI.Sl.a s9) fun (a10 : Go.Addr) ↦
 Go.AI.lds σ (Go.AI.aadd a10 (Int.toNat (0 : Int) * Go.AI.szOf Go.Proofs.Tryz.prog (70 : Nat))) (2 : Nat) fun (l11 : List Go.Value) ↦
 Go.AI.tCons l11 fun (v12 : Go.Value) (l13 : List Go.Value) ↦
 Go.AI.tB v12 fun (b14 : Bool) ↦
 Go.AI.tCons l13 fun (v15 : Go.Value) (l16 : List Go.Value) ↦
 Go.AI.tL (1 : Nat) v15 fun (s17 : Go.AI.Sl) ↦
 Go.AI.tNil l16
 (Go.AI.newAt σ (Go.AI.AObj.row Go.AI.RK.plain [Go.Value.bool Bool.false, Go.Value.slice Option.none (0 : Nat) (0 : Nat)]) fun (i18 : Nat) (σ19 : Go.AI.AS) ↦
 Go.AI.puts σ19 (Go.Addr.mk i18 (0 : Nat) Option.none) [Go.Value.bool b14, Go.Value.slice (Go.AI.Sl.a s17) (Go.AI.Sl.n s17) (1 : Nat)] fun (σ20 : Go.AI.AS) ↦
 Go.AI.ldc σ20 (Go.Addr.mk c (0 : Nat) Option.none) fun (v21 : Go.Value) ↦
 Go.AI.tP v21 fun (b22 : Option Go.Addr) ↦
 Go.AI.ldc σ20 (Go.Addr.mk c (0 : Nat) Option.none) fun (v23 : Go.Value) ↦
 Go.AI.tP v23 fun (b24 : Option Go.Addr) ↦
 Go.AI.pSome b24 fun (a25 : Go.Addr) ↦
 Go.AI.ldc σ20 (Go.Addr.mk (Go.Addr.block a25) (Go.Addr.off a25 + (4 : Nat)) Option.none) fun (v26 : Go.Value) ↦
 Go.AI.tL (2 : Nat) v26 fun (s27 : Go.AI.Sl) ↦
 Go.AI.req ((1 : Int) ≤ (↑(Go.AI.Sl.n s27) : Int))
 (Go.AI.req ((↑(Go.AI.Sl.n s27) : Int) ≤ (↑(Go.AI.capLo σ20 (Go.AI.Sl.a s27) (Go.AI.szOf Go.Proofs.Tryz.prog (70 : Nat)) (Go.AI.Sl.n s27)) : Int))
 (Go.AI.pSome b22 fun (a28 : Go.Addr) ↦
 Go.AI.put1 σ20 (Go.Addr.mk (Go.Addr.block a28) (Go.Addr.off a28 + (4 : Nat)) Option.none)
 (Go.Value.slice (Option.map (fun (x : Go.Addr) ↦ Go.AI.aadd x (Int.toNat (1 : Int) * Go.AI.szOf Go.Proofs.Tryz.prog (70 : Nat))) (Go.AI.Sl.a s27))
 (Int.toNat ((↑(Go.AI.Sl.n s27) : Int) - (1 : Int))) (2 : Nat))
 fun (σ29 : Go.AI.AS) ↦
 Go.AI.ldc σ29 (Go.Addr.mk i18 (0 : Nat) Option.none) fun (v30 : Go.Value) ↦
 Go.AI.tB v30 fun (b31 : Bool) ↦
 Go.AI.bmatch b31
 (Go.AI.ldc σ29 (Go.Addr.mk c (0 : Nat) Option.none) fun (v32 : Go.Value) ↦
 Go.AI.tP v32 fun (b33 : Option Go.Addr) ↦
 T (161 : Nat) [Go.Value.pointer b33, Go.Value.int Go.IntKind.i64 (1 : Int)] σ29 fun (v34 : Go.Value) (σ35 : Go.AI.AS) ↦
 Go.AI.tI Go.IntKind.u32 v34 fun (n36 : Int) ↦
 Go.AI.bmatch (n36 == (0 : Int))
 (X [((0 : Nat), Option.some (Go.Value.pointer (Option.some (Go.Addr.mk c (0 : Nat) Option.none))))] σ35)
 (Go.AI.ldc σ35 (Go.Addr.mk c (0 : Nat) Option.none) fun (v37 : Go.Value) ↦
 Go.AI.tP v37 fun (b38 : Option Go.Addr) ↦
 Go.AI.pSome b38 fun (a39 : Go.Addr) ↦
 Go.AI.ldc σ35 (Go.Addr.mk (Go.Addr.block a39) (Go.Addr.off a39 + (1 : Nat)) Option.none) fun (v40 : Go.Value) ↦
 Go.AI.tM v40 fun (b41 : Option Nat) ↦
 Go.AI.mget σ35 (Go.TypeDesc.int Go.IntKind.u32) b41 (Go.Value.int Go.IntKind.u32 n36) fun (o42 : Option Go.Value) ↦
 Go.AI.tP (Option.getD o42 (Go.Value.pointer Option.none)) fun (b43 : Option Go.Addr) ↦
 Go.AI.pSome b43 fun (a44 : Go.Addr) ↦
 Go.AI.put1 σ35 (Go.Addr.mk (Go.Addr.block a44) (Go.Addr.off a44 + (9 : Nat)) Option.none)
 (Go.Value.int Go.IntKind.i64 (0 : Int)) fun (σ45 : Go.AI.AS) ↦
 Go.AI.ldc σ45 (Go.Addr.mk i18 (0 : Nat) Option.none) fun (v46 : Go.Value) ↦
 Go.AI.tB v46 fun (b47 : Bool) ↦
 Go.AI.bmatch (!b47)
 (Go.AI.ldc σ45 (Go.Addr.mk i18 ((0 : Nat) + (1 : Nat)) Option.none) fun (v48 : Go.Value) ↦
 Go.AI.tL (1 : Nat) v48 fun (s49 : Go.AI.Sl) ↦
 Go.AI.bmatch (Decidable.decide ((↑(Go.AI.Sl.n s49) : Int) > (0 : Int)))
 (Go.AI.ldc σ45 (Go.Addr.mk i18 ((0 : Nat) + (1 : Nat)) Option.none) fun (v50 : Go.Value) ↦
 Go.AI.tL (1 : Nat) v50 fun (s51 : Go.AI.Sl) ↦
 Go.AI.req ((0 : Int) < (↑(Go.AI.Sl.n s51) : Int))
 (Go.AI.pSome (Go.AI.Sl.a s51) fun (a52 : Go.Addr) ↦
 Go.AI.ldc σ45 (Go.AI.aadd a52 (Int.toNat (0 : Int) * Go.AI.szOf Go.Proofs.Tryz.prog (32 : Nat)))
 fun (v53 : Go.Value) ↦
 Go.AI.tI Go.IntKind.u32 v53 fun (n54 : Int) ↦
 Go.AI.ldc σ45 (Go.Addr.mk c ((0 : Nat) + (2 : Nat)) Option.none) fun (v55 : Go.Value) ↦
 Go.AI.tL (1 : Nat) v55 fun (s56 : Go.AI.Sl) ↦
 Go.AI.req ((0 : Int) < (↑(Go.AI.Sl.n s56) : Int))
 (Go.AI.pSome (Go.AI.Sl.a s56) fun (a57 : Go.Addr) ↦
 Go.AI.ldc σ45
 (Go.AI.aadd a57 (Int.toNat (0 : Int) * Go.AI.szOf Go.Proofs.Tryz.prog (32 : Nat)))
 fun (v58 : Go.Value) ↦
 Go.AI.tI Go.IntKind.u32 v58 fun (n59 : Int) ↦
 Go.AI.newAt σ45
 (Go.AI.AObj.row Go.AI.RK.rw
 [Go.Value.int Go.IntKind.u32 (2 : Int), Go.Value.int Go.IntKind.u32 n36,
 Go.Value.int Go.IntKind.u32 n54, Go.Value.int Go.IntKind.u32 (0 : Int)])
 fun (i60 : Nat) (σ61 : Go.AI.AS) ↦
 T (92 : Nat)
 [Go.Value.pointer (Option.some (Go.Addr.mk c (0 : Nat) Option.none)),
 Go.Value.int Go.IntKind.u32 (0 : Int), Go.Value.int Go.IntKind.u32 n59,
 Go.Value.slice (Option.some (Go.Addr.mk i60 (0 : Nat) Option.none))
 (4 : Nat) (1 : Nat)]
 σ61 fun (v62 : Go.Value) (σ63 : Go.AI.AS) ↦
 Go.AI.tTup v62 fun (l64 : List Go.Value) ↦
 Go.AI.pSome l64[(0 : Nat)]? fun (u65 : Go.Value) ↦
 Go.AI.tI Go.IntKind.u32 u65 fun (n66 : Int) ↦
 Go.AI.tTup v62 fun (l67 : List Go.Value) ↦
 Go.AI.pSome l67[(1 : Nat)]? fun (u68 : Go.Value) ↦
 Go.AI.tI Go.IntKind.i64 u68 fun (n69 : Int) ↦
 K
 (Go.Value.tuple
 (Array.mk
 [Go.Value.int Go.IntKind.u32 n66,
 Go.Value.int Go.IntKind.i64 n69]))
 σ63)))
 (Go.AI.ldc σ45 (Go.Addr.mk c ((0 : Nat) + (2 : Nat)) Option.none) fun (v70 : Go.Value) ↦
 Go.AI.tL (1 : Nat) v70 fun (s71 : Go.AI.Sl) ↦
 Go.AI.req ((0 : Int) < (↑(Go.AI.Sl.n s71) : Int))
 (Go.AI.pSome (Go.AI.Sl.a s71) fun (a72 : Go.Addr) ↦
 Go.AI.ldc σ45 (Go.AI.aadd a72 (Int.toNat (0 : Int) * Go.AI.szOf Go.Proofs.Tryz.prog (32 : Nat)))
 fun (v73 : Go.Value) ↦
 Go.AI.tI Go.IntKind.u32 v73 fun (n74 : Int) ↦
 Go.AI.newAt σ45
 (Go.AI.AObj.row Go.AI.RK.rw
 [Go.Value.int Go.IntKind.u32 (2 : Int), Go.Value.int Go.IntKind.u32 n36,
 Go.Value.int Go.IntKind.u32 (0 : Int), Go.Value.int Go.IntKind.u32 (0 : Int)])
 fun (i75 : Nat) (σ76 : Go.AI.AS) ↦
 T (92 : Nat)
 [Go.Value.pointer (Option.some (Go.Addr.mk c (0 : Nat) Option.none)),
 Go.Value.int Go.IntKind.u32 (0 : Int), Go.Value.int Go.IntKind.u32 n74,
 Go.Value.slice (Option.some (Go.Addr.mk i75 (0 : Nat) Option.none)) (4 : Nat) (1 : Nat)]
 σ76 fun (v77 : Go.Value) (σ78 : Go.AI.AS) ↦
 Go.AI.tTup v77 fun (l79 : List Go.Value) ↦
 Go.AI.pSome l79[(0 : Nat)]? fun (u80 : Go.Value) ↦
 Go.AI.tI Go.IntKind.u32 u80 fun (n81 : Int) ↦
 Go.AI.tTup v77 fun (l82 : List Go.Value) ↦
 Go.AI.pSome l82[(1 : Nat)]? fun (u83 : Go.Value) ↦
 Go.AI.tI Go.IntKind.i64 u83 fun (n84 : Int) ↦
 K
 (Go.Value.tuple
 (Array.mk
 [Go.Value.int Go.IntKind.u32 n81, Go.Value.int Go.IntKind.i64 n84]))
 σ78)))
 (Go.AI.ldc σ45 (Go.Addr.mk i18 ((0 : Nat) + (1 : Nat)) Option.none) fun (v85 : Go.Value) ↦
 Go.AI.tL (1 : Nat) v85 fun (s86 : Go.AI.Sl) ↦
 Go.AI.ldc σ45 (Go.Addr.mk i18 ((0 : Nat) + (1 : Nat)) Option.none) fun (v87 : Go.Value) ↦
 Go.AI.tL (1 : Nat) v87 fun (s88 : Go.AI.Sl) ↦
 Go.AI.pSome b43 fun (a89 : Go.Addr) ↦
 Go.AI.ldc σ45 (Go.Addr.mk (Go.Addr.block a89) (Go.Addr.off a89 + (11 : Nat)) Option.none)
 fun (v90 : Go.Value) ↦
 Go.AI.tI Go.IntKind.u32 v90 fun (n91 : Int) ↦
 Go.AI.req
 ((0 : Int) ≤
 Go.AI.imin (Go.IntKind.wrap Go.IntKind.u64 (↑(Go.AI.Sl.n s88) : Int))
 (Go.IntKind.wrap Go.IntKind.u64 n91))
 (Go.AI.req
 (Go.AI.imin (Go.IntKind.wrap Go.IntKind.u64 (↑(Go.AI.Sl.n s88) : Int))
 (Go.IntKind.wrap Go.IntKind.u64 n91) ≤
 (↑(Go.AI.capLo σ45 (Go.AI.Sl.a s86) (Go.AI.szOf Go.Proofs.Tryz.prog (32 : Nat))
 (Go.AI.Sl.n s86)) :
 Int))
 (Go.AI.ALoop
 (Go.AI.fl Go.Proofs.Tryz.prog Go.AI.hintsS T (103 : Nat)
 [Bool.true, Bool.false, Bool.false, Bool.false, Bool.true, Bool.false, Bool.true,
 Bool.true, Bool.true, Bool.true, Bool.true, Bool.true, Bool.true, Bool.true, Bool.true,
 Bool.true, Bool.false, Bool.true, Bool.false]
 [X] K)
 [((0 : Nat),
 Option.some (Go.Value.pointer (Option.some (Go.Addr.mk c (0 : Nat) Option.none)))),
 ((6 : Nat), Option.some (Go.Value.int Go.IntKind.u32 n36)),
 ((7 : Nat), Option.some (Go.Value.pointer b43)),
 ((9 : Nat),
 Option.some
 (Go.Value.slice
 (Option.map
 (fun (x : Go.Addr) ↦
 Go.AI.aadd x (Int.toNat (0 : Int) * Go.AI.szOf Go.Proofs.Tryz.prog (32 : Nat)))
 (Go.AI.Sl.a s86))
 (Int.toNat
 (Go.AI.imin (Go.IntKind.wrap Go.IntKind.u64 (↑(Go.AI.Sl.n s88) : Int))
 (Go.IntKind.wrap Go.IntKind.u64 n91) -
 (0 : Int)))
 (1 : Nat))),
 ((106 : Nat),
 Option.some
 (Go.Value.slice
 (Option.map
 (fun (x : Go.Addr) ↦
 Go.AI.aadd x (Int.toNat (0 : Int) * Go.AI.szOf Go.Proofs.Tryz.prog (32 : Nat)))
 (Go.AI.Sl.a s86))
 (Int.toNat
 (Go.AI.imin (Go.IntKind.wrap Go.IntKind.u64 (↑(Go.AI.Sl.n s88) : Int))
 (Go.IntKind.wrap Go.IntKind.u64 n91) -
 (0 : Int)))
 (1 : Nat))),
 ((107 : Nat),
 Option.some
 (Go.Value.int Go.IntKind.i64
 (↑(Int.toNat
 (Go.AI.imin (Go.IntKind.wrap Go.IntKind.u64 (↑(Go.AI.Sl.n s88) : Int))
 (Go.IntKind.wrap Go.IntKind.u64 n91) -
 (0 : Int))) :
 Int))),
 ((108 : Nat), Option.some (Go.Value.int Go.IntKind.i64 (0 : Int)))]
 σ45)))))
 (Go.AI.ldc σ29 (Go.Addr.mk c (0 : Nat) Option.none) fun (v92 : Go.Value) ↦
 Go.AI.tP v92 fun (b93 : Option Go.Addr) ↦
 T (161 : Nat) [Go.Value.pointer b93, Go.Value.int Go.IntKind.i64 (2 : Int)] σ29 fun (v94 : Go.Value) (σ95 : Go.AI.AS) ↦
 Go.AI.tI Go.IntKind.u32 v94 fun (n96 : Int) ↦
 Go.AI.bmatch (n96 == (0 : Int))
 (X [((0 : Nat), Option.some (Go.Value.pointer (Option.some (Go.Addr.mk c (0 : Nat) Option.none))))] σ95)
 (Go.AI.ldc σ95 (Go.Addr.mk c (0 : Nat) Option.none) fun (v97 : Go.Value) ↦
 Go.AI.tP v97 fun (b98 : Option Go.Addr) ↦
 Go.AI.pSome b98 fun (a99 : Go.Addr) ↦
 Go.AI.ldc σ95 (Go.Addr.mk (Go.Addr.block a99) (Go.Addr.off a99 + (1 : Nat)) Option.none) fun (v100 : Go.Value) ↦
 Go.AI.tM v100 fun (b101 : Option Nat) ↦
 Go.AI.mget σ95 (Go.TypeDesc.int Go.IntKind.u32) b101 (Go.Value.int Go.IntKind.u32 n96) fun (o102 : Option Go.Value) ↦
 Go.AI.tP (Option.getD o102 (Go.Value.pointer Option.none)) fun (b103 : Option Go.Addr) ↦
 Go.AI.pSome b103 fun (a104 : Go.Addr) ↦
 Go.AI.put1 σ95 (Go.Addr.mk (Go.Addr.block a104) (Go.Addr.off a104 + (9 : Nat)) Option.none)
 (Go.Value.int Go.IntKind.i64 (0 : Int)) fun (σ105 : Go.AI.AS) ↦
 Go.AI.ldc σ105 (Go.Addr.mk i18 (0 : Nat) Option.none) fun (v106 : Go.Value) ↦
 Go.AI.tB v106 fun (b107 : Bool) ↦
 Go.AI.bmatch (!b107)
 (Go.AI.ldc σ105 (Go.Addr.mk i18 ((0 : Nat) + (1 : Nat)) Option.none) fun (v108 : Go.Value) ↦
 Go.AI.tL (1 : Nat) v108 fun (s109 : Go.AI.Sl) ↦
 Go.AI.bmatch (Decidable.decide ((↑(Go.AI.Sl.n s109) : Int) > (0 : Int)))
 (Go.AI.ldc σ105 (Go.Addr.mk i18 ((0 : Nat) + (1 : Nat)) Option.none) fun (v110 : Go.Value) ↦
 Go.AI.tL (1 : Nat) v110 fun (s111 : Go.AI.Sl) ↦
 Go.AI.req ((0 : Int) < (↑(Go.AI.Sl.n s111) : Int))
 (Go.AI.pSome (Go.AI.Sl.a s111) fun (a112 : Go.Addr) ↦
 Go.AI.ldc σ105 (Go.AI.aadd a112 (Int.toNat (0 : Int) * Go.AI.szOf Go.Proofs.Tryz.prog (32 : Nat)))
 fun (v113 : Go.Value) ↦
 Go.AI.tI Go.IntKind.u32 v113 fun (n114 : Int) ↦
 Go.AI.ldc σ105 (Go.Addr.mk c ((0 : Nat) + (2 : Nat)) Option.none) fun (v115 : Go.Value) ↦
 Go.AI.tL (1 : Nat) v115 fun (s116 : Go.AI.Sl) ↦
 Go.AI.req ((0 : Int) < (↑(Go.AI.Sl.n s116) : Int))
 (Go.AI.pSome (Go.AI.Sl.a s116) fun (a117 : Go.Addr) ↦
 Go.AI.ldc σ105
 (Go.AI.aadd a117 (Int.toNat (0 : Int) * Go.AI.szOf Go.Proofs.Tryz.prog (32 : Nat)))
 fun (v118 : Go.Value) ↦
 Go.AI.tI Go.IntKind.u32 v118 fun (n119 : Int) ↦
 Go.AI.newAt σ105
 (Go.AI.AObj.row Go.AI.RK.rw
 [Go.Value.int Go.IntKind.u32 (2 : Int), Go.Value.int Go.IntKind.u32 n96,
 Go.Value.int Go.IntKind.u32 n114, Go.Value.int Go.IntKind.u32 (0 : Int)])
 fun (i120 : Nat) (σ121 : Go.AI.AS) ↦
 T (92 : Nat)
 [Go.Value.pointer (Option.some (Go.Addr.mk c (0 : Nat) Option.none)),
 Go.Value.int Go.IntKind.u32 (0 : Int), Go.Value.int Go.IntKind.u32 n119,
 Go.Value.slice (Option.some (Go.Addr.mk i120 (0 : Nat) Option.none))
 (4 : Nat) (1 : Nat)]
 σ121 fun (v122 : Go.Value) (σ123 : Go.AI.AS) ↦
 Go.AI.tTup v122 fun (l124 : List Go.Value) ↦
 Go.AI.pSome l124[(0 : Nat)]? fun (u125 : Go.Value) ↦
 Go.AI.tI Go.IntKind.u32 u125 fun (n126 : Int) ↦
 Go.AI.tTup v122 fun (l127 : List Go.Value) ↦
 Go.AI.pSome l127[(1 : Nat)]? fun (u128 : Go.Value) ↦
 Go.AI.tI Go.IntKind.i64 u128 fun (n129 : Int) ↦
 K
 (Go.Value.tuple
 (Array.mk
 [Go.Value.int Go.IntKind.u32 n126,
 Go.Value.int Go.IntKind.i64 n129]))
 σ123)))
 (Go.AI.ldc σ105 (Go.Addr.mk c ((0 : Nat) + (2 : Nat)) Option.none) fun (v130 : Go.Value) ↦
 Go.AI.tL (1 : Nat) v130 fun (s131 : Go.AI.Sl) ↦
 Go.AI.req ((0 : Int) < (↑(Go.AI.Sl.n s131) : Int))
 (Go.AI.pSome (Go.AI.Sl.a s131) fun (a132 : Go.Addr) ↦
 Go.AI.ldc σ105 (Go.AI.aadd a132 (Int.toNat (0 : Int) * Go.AI.szOf Go.Proofs.Tryz.prog (32 : Nat)))
 fun (v133 : Go.Value) ↦
 Go.AI.tI Go.IntKind.u32 v133 fun (n134 : Int) ↦
 Go.AI.newAt σ105
 (Go.AI.AObj.row Go.AI.RK.rw
 [Go.Value.int Go.IntKind.u32 (2 : Int), Go.Value.int Go.IntKind.u32 n96,
 Go.Value.int Go.IntKind.u32 (0 : Int), Go.Value.int Go.IntKind.u32 (0 : Int)])
 fun (i135 : Nat) (σ136 : Go.AI.AS) ↦
 T (92 : Nat)
 [Go.Value.pointer (Option.some (Go.Addr.mk c (0 : Nat) Option.none)),
 Go.Value.int Go.IntKind.u32 (0 : Int), Go.Value.int Go.IntKind.u32 n134,
 Go.Value.slice (Option.some (Go.Addr.mk i135 (0 : Nat) Option.none)) (4 : Nat)
 (1 : Nat)]
 σ136 fun (v137 : Go.Value) (σ138 : Go.AI.AS) ↦
 Go.AI.tTup v137 fun (l139 : List Go.Value) ↦
 Go.AI.pSome l139[(0 : Nat)]? fun (u140 : Go.Value) ↦
 Go.AI.tI Go.IntKind.u32 u140 fun (n141 : Int) ↦
 Go.AI.tTup v137 fun (l142 : List Go.Value) ↦
 Go.AI.pSome l142[(1 : Nat)]? fun (u143 : Go.Value) ↦
 Go.AI.tI Go.IntKind.i64 u143 fun (n144 : Int) ↦
 K
 (Go.Value.tuple
 (Array.mk
 [Go.Value.int Go.IntKind.u32 n141, Go.Value.int Go.IntKind.i64 n144]))
 σ138)))
 (Go.AI.ldc σ105 (Go.Addr.mk i18 ((0 : Nat) + (1 : Nat)) Option.none) fun (v145 : Go.Value) ↦
 Go.AI.tL (1 : Nat) v145 fun (s146 : Go.AI.Sl) ↦
 Go.AI.ldc σ105 (Go.Addr.mk i18 ((0 : Nat) + (1 : Nat)) Option.none) fun (v147 : Go.Value) ↦
 Go.AI.tL (1 : Nat) v147 fun (s148 : Go.AI.Sl) ↦
 Go.AI.pSome b103 fun (a149 : Go.Addr) ↦
 Go.AI.ldc σ105 (Go.Addr.mk (Go.Addr.block a149) (Go.Addr.off a149 + (11 : Nat)) Option.none)
 fun (v150 : Go.Value) ↦
 Go.AI.tI Go.IntKind.u32 v150 fun (n151 : Int) ↦
 Go.AI.req
 ((0 : Int) ≤
 Go.AI.imin (Go.IntKind.wrap Go.IntKind.u64 (↑(Go.AI.Sl.n s148) : Int))
 (Go.IntKind.wrap Go.IntKind.u64 n151))
 (Go.AI.req
 (Go.AI.imin (Go.IntKind.wrap Go.IntKind.u64 (↑(Go.AI.Sl.n s148) : Int))
 (Go.IntKind.wrap Go.IntKind.u64 n151) ≤
 (↑(Go.AI.capLo σ105 (Go.AI.Sl.a s146) (Go.AI.szOf Go.Proofs.Tryz.prog (32 : Nat))
 (Go.AI.Sl.n s146)) :
 Int))
 (Go.AI.ALoop
 (Go.AI.fl Go.Proofs.Tryz.prog Go.AI.hintsS T (103 : Nat)
 [Bool.true, Bool.false, Bool.false, Bool.false, Bool.true, Bool.false, Bool.true,
 Bool.true, Bool.true, Bool.true, Bool.true, Bool.true, Bool.true, Bool.true, Bool.true,
 Bool.true, Bool.false, Bool.true, Bool.false]
 [X] K)
 [((0 : Nat),
 Option.some (Go.Value.pointer (Option.some (Go.Addr.mk c (0 : Nat) Option.none)))),
 ((6 : Nat), Option.some (Go.Value.int Go.IntKind.u32 n96)),
 ((7 : Nat), Option.some (Go.Value.pointer b103)),
 ((9 : Nat),
 Option.some
 (Go.Value.slice
 (Option.map
 (fun (x : Go.Addr) ↦
 Go.AI.aadd x (Int.toNat (0 : Int) * Go.AI.szOf Go.Proofs.Tryz.prog (32 : Nat)))
 (Go.AI.Sl.a s146))
 (Int.toNat
 (Go.AI.imin (Go.IntKind.wrap Go.IntKind.u64 (↑(Go.AI.Sl.n s148) : Int))
 (Go.IntKind.wrap Go.IntKind.u64 n151) -
 (0 : Int)))
 (1 : Nat))),
 ((106 : Nat),
 Option.some
 (Go.Value.slice
 (Option.map
 (fun (x : Go.Addr) ↦
 Go.AI.aadd x (Int.toNat (0 : Int) * Go.AI.szOf Go.Proofs.Tryz.prog (32 : Nat)))
 (Go.AI.Sl.a s146))
 (Int.toNat
 (Go.AI.imin (Go.IntKind.wrap Go.IntKind.u64 (↑(Go.AI.Sl.n s148) : Int))
 (Go.IntKind.wrap Go.IntKind.u64 n151) -
 (0 : Int)))
 (1 : Nat))),
 ((107 : Nat),
 Option.some
 (Go.Value.int Go.IntKind.i64
 (↑(Int.toNat
 (Go.AI.imin (Go.IntKind.wrap Go.IntKind.u64 (↑(Go.AI.Sl.n s148) : Int))
 (Go.IntKind.wrap Go.IntKind.u64 n151) -
 (0 : Int))) :
 Int))),
 ((108 : Nat), Option.some (Go.Value.int Go.IntKind.i64 (0 : Int)))]
 σ105))))))))))
 (K (Go.Value.tuple (Array.mk [Go.Value.int Go.IntKind.u32 (0 : Int), Go.Value.int Go.IntKind.i64 (161 : Int)])) σ) := by
 intros
 kernel_rfl

theorem s103l1 : ∀ (T : Go.AI.Ct) (c : Nat) (id : Int) (w : Nat) (la : Option Go.Addr) (ln le : Nat) (r106a_1 : Option Go.Addr) (r106n_1 r106e_1 : Nat) (r107_1 r108_1 : Int) (X Y : Go.AI.Regs → Go.AI.AS → Prop)
 (σ : Go.AI.AS) (K : Go.Value → Go.AI.AS → Prop),
 Go.AI.fl Go.Proofs.Tryz.prog Go.AI.hintsS T (103 : Nat)
 [Bool.true, Bool.false, Bool.false, Bool.false, Bool.true, Bool.false, Bool.true, Bool.true, Bool.true, Bool.true, Bool.true, Bool.true, Bool.true, Bool.true, Bool.true, Bool.true, Bool.false, Bool.true,
 Bool.false]
 [X] K Y
 [((0 : Nat), Option.some (Go.Value.pointer (Option.some (Go.Addr.mk c (0 : Nat) Option.none)))), ((6 : Nat), Option.some (Go.Value.int Go.IntKind.u32 id)),
 ((7 : Nat), Option.some (Go.Value.pointer (Option.some (Go.Addr.mk w (0 : Nat) Option.none)))), ((9 : Nat), Option.some (Go.Value.slice la ln le)),
 ((106 : Nat), Option.some (Go.Value.slice r106a_1 r106n_1 r106e_1)), ((107 : Nat), Option.some (Go.Value.int Go.IntKind.i64 r107_1)), ((108 : Nat), Option.some (Go.Value.int Go.IntKind.i64 r108_1))]
 σ =
 Go.AI.bmatch (Decidable.decide (r108_1 < r107_1))
 (Go.AI.req ((0 : Int) ≤ r108_1)
 (Go.AI.req (r108_1 < (↑r106n_1 : Int))
 (Go.AI.pSome r106a_1 fun (a0 : Go.Addr) ↦
 Go.AI.req (r106e_1 = Go.AI.szOf Go.Proofs.Tryz.prog (32 : Nat))
 (Go.AI.ldc σ (Go.AI.aadd a0 (Int.toNat r108_1 * Go.AI.szOf Go.Proofs.Tryz.prog (32 : Nat))) fun (v1 : Go.Value) ↦
 Go.AI.tI Go.IntKind.u32 v1 fun (n2 : Int) ↦
 Go.AI.ldc σ (Go.Addr.mk w ((0 : Nat) + (10 : Nat)) Option.none) fun (v3 : Go.Value) ↦
 Go.AI.tI Go.IntKind.u32 v3 fun (n4 : Int) ↦
 T (158 : Nat) [Go.Value.int Go.IntKind.u32 n4] σ fun (v5 : Go.Value) (σ6 : Go.AI.AS) ↦
 Go.AI.tB v5 fun (b7 : Bool) ↦
 Go.AI.bmatch b7
 (Go.AI.ldc σ6 (Go.Addr.mk w ((0 : Nat) + (3 : Nat)) Option.none) fun (v8 : Go.Value) ↦
 Go.AI.tI Go.IntKind.u32 v8 fun (n9 : Int) ↦
 Go.AI.bmatch (n9 == (3 : Int))
 (Go.AI.ALoop
 (Go.AI.fl Go.Proofs.Tryz.prog Go.AI.hintsS T (103 : Nat)
 [Bool.true, Bool.false, Bool.false, Bool.false, Bool.true, Bool.false, Bool.true, Bool.true, Bool.true, Bool.true, Bool.true, Bool.true, Bool.true, Bool.true, Bool.true, Bool.true,
 Bool.true, Bool.false, Bool.true, Bool.false, Bool.false, Bool.true, Bool.false]
 [X] K)
 [((0 : Nat), Option.some (Go.Value.pointer (Option.some (Go.Addr.mk c (0 : Nat) Option.none)))), ((6 : Nat), Option.some (Go.Value.int Go.IntKind.u32 id)),
 ((9 : Nat), Option.some (Go.Value.slice la ln le)), ((143 : Nat), Option.some (Go.Value.slice la ln le)),
 ((144 : Nat), Option.some (Go.Value.int Go.IntKind.i64 (↑ln : Int))), ((145 : Nat), Option.some (Go.Value.int Go.IntKind.i64 (0 : Int)))]
 σ6)
 (Go.AI.ldc σ6 (Go.Addr.mk c ((0 : Nat) + (2 : Nat)) Option.none) fun (v10 : Go.Value) ↦
 Go.AI.tL (1 : Nat) v10 fun (s11 : Go.AI.Sl) ↦
 Go.AI.req ((0 : Int) < (↑(Go.AI.Sl.n s11) : Int))
 (Go.AI.pSome (Go.AI.Sl.a s11) fun (a12 : Go.Addr) ↦
 Go.AI.ldc σ6 (Go.AI.aadd a12 (Int.toNat (0 : Int) * Go.AI.szOf Go.Proofs.Tryz.prog (32 : Nat))) fun (v13 : Go.Value) ↦
 Go.AI.tI Go.IntKind.u32 v13 fun (n14 : Int) ↦
 Go.AI.newAt σ6
 (Go.AI.AObj.row Go.AI.RK.rw
 [Go.Value.int Go.IntKind.u32 (3 : Int), Go.Value.int Go.IntKind.u32 id, Go.Value.int Go.IntKind.u32 (Go.IntKind.wrap Go.IntKind.u32 (↑ln : Int)),
 Go.Value.int Go.IntKind.u32 (0 : Int)])
 fun (i15 : Nat) (σ16 : Go.AI.AS) ↦
 T (92 : Nat)
 [Go.Value.pointer (Option.some (Go.Addr.mk c (0 : Nat) Option.none)), Go.Value.int Go.IntKind.u32 (0 : Int), Go.Value.int Go.IntKind.u32 n14,
 Go.Value.slice (Option.some (Go.Addr.mk i15 (0 : Nat) Option.none)) (4 : Nat) (1 : Nat)]
 σ16 fun (v17 : Go.Value) (σ18 : Go.AI.AS) ↦
 Go.AI.tTup v17 fun (l19 : List Go.Value) ↦
 Go.AI.pSome l19[(0 : Nat)]? fun (u20 : Go.Value) ↦
 Go.AI.tI Go.IntKind.u32 u20 fun (n21 : Int) ↦
 Go.AI.tTup v17 fun (l22 : List Go.Value) ↦
 Go.AI.pSome l22[(1 : Nat)]? fun (u23 : Go.Value) ↦
 Go.AI.tI Go.IntKind.i64 u23 fun (n24 : Int) ↦ K (Go.Value.tuple (Array.mk [Go.Value.int Go.IntKind.u32 n21, Go.Value.int Go.IntKind.i64 n24])) σ18)))
 (Go.AI.ldc σ6 (Go.Addr.mk c ((0 : Nat) + (1 : Nat)) Option.none) fun (v25 : Go.Value) ↦
 Go.AI.tIf v25
 (fun (t26 : Nat) (u27 : Go.Value) ↦
 Go.AI.ldc σ6 (Go.Addr.mk w ((0 : Nat) + (10 : Nat)) Option.none) fun (v28 : Go.Value) ↦
 Go.AI.tI Go.IntKind.u32 v28 fun (n29 : Int) ↦
 T (82 : Nat) [Go.Value.int Go.IntKind.u32 n2] σ6 fun (v30 : Go.Value) (σ31 : Go.AI.AS) ↦
 Go.AI.tI Go.IntKind.u32 v30 fun (n32 : Int) ↦
 Go.Value.int Go.IntKind.u32 (Go.IntKind.wrap Go.IntKind.u32 r108_1) = Go.Value.int Go.IntKind.u32 (Go.IntKind.wrap Go.IntKind.u32 r108_1) ∧
 Go.AI.ldc σ31 (Go.Addr.mk w ((0 : Nat) + (10 : Nat)) Option.none) fun (v33 : Go.Value) ↦
 Go.AI.tI Go.IntKind.u32 v33 fun (n34 : Int) ↦
 Go.Value.int Go.IntKind.u32 n29 = Go.Value.int Go.IntKind.u32 n34 ∧
 Go.AI.ldc σ31 (Go.Addr.mk c ((0 : Nat) + (1 : Nat)) Option.none) fun (v35 : Go.Value) ↦
 Go.AI.tIf v35
 (fun (t36 : Nat) (u37 : Go.Value) ↦
 Go.Value.iface t26 u27 = Go.Value.iface t36 u37 ∧
 Go.AI.pSome (Go.AI.methodOf Go.Proofs.Tryz.prog t26 "Set") fun (f38 : Go.FuncId) ↦
 T f38
 [u27, Go.Value.int Go.IntKind.u32 (Go.IntKind.wrap Go.IntKind.u32 (n29 + Go.IntKind.wrap Go.IntKind.u32 r108_1)), Go.Value.int Go.IntKind.i64 (1 : Int),
 Go.Value.int Go.IntKind.u32 n32]
 σ31 fun (v39 : Go.Value) (σ40 : Go.AI.AS) ↦
 Go.AI.tI Go.IntKind.i64 v39 fun (n41 : Int) ↦
 Go.AI.bmatch (n41 != (0 : Int)) (K (Go.Value.tuple (Array.mk [Go.Value.int Go.IntKind.u32 (0 : Int), Go.Value.int Go.IntKind.i64 n41])) σ40)
 (Y
 [((0 : Nat), Option.some (Go.Value.pointer (Option.some (Go.Addr.mk c (0 : Nat) Option.none)))),
 ((6 : Nat), Option.some (Go.Value.int Go.IntKind.u32 id)),
 ((7 : Nat), Option.some (Go.Value.pointer (Option.some (Go.Addr.mk w (0 : Nat) Option.none)))),
 ((9 : Nat), Option.some (Go.Value.slice la ln le)), ((106 : Nat), Option.some (Go.Value.slice r106a_1 r106n_1 r106e_1)),
 ((107 : Nat), Option.some (Go.Value.int Go.IntKind.i64 r107_1)),
 ((108 : Nat), Option.some (Go.Value.int Go.IntKind.i64 (Go.IntKind.wrap Go.IntKind.i64 (r108_1 + (1 : Int)))))]
 σ40))
 (Go.Value.iface t26 u27 = Go.Value.nilIface ∧
 Go.AI.pSome (Go.AI.methodOf Go.Proofs.Tryz.prog t26 "Set") fun (f42 : Go.FuncId) ↦
 T f42
 [u27, Go.Value.int Go.IntKind.u32 (Go.IntKind.wrap Go.IntKind.u32 (n29 + Go.IntKind.wrap Go.IntKind.u32 r108_1)), Go.Value.int Go.IntKind.i64 (1 : Int),
 Go.Value.int Go.IntKind.u32 n32]
 σ31 fun (v43 : Go.Value) (σ44 : Go.AI.AS) ↦
 Go.AI.tI Go.IntKind.i64 v43 fun (n45 : Int) ↦
 Go.AI.bmatch (n45 != (0 : Int)) (K (Go.Value.tuple (Array.mk [Go.Value.int Go.IntKind.u32 (0 : Int), Go.Value.int Go.IntKind.i64 n45])) σ44)
 (Y
 [((0 : Nat), Option.some (Go.Value.pointer (Option.some (Go.Addr.mk c (0 : Nat) Option.none)))),
 ((6 : Nat), Option.some (Go.Value.int Go.IntKind.u32 id)),
 ((7 : Nat), Option.some (Go.Value.pointer (Option.some (Go.Addr.mk w (0 : Nat) Option.none)))),
 ((9 : Nat), Option.some (Go.Value.slice la ln le)), ((106 : Nat), Option.some (Go.Value.slice r106a_1 r106n_1 r106e_1)),
 ((107 : Nat), Option.some (Go.Value.int Go.IntKind.i64 r107_1)),
 ((108 : Nat), Option.some (Go.Value.int Go.IntKind.i64 (Go.IntKind.wrap Go.IntKind.i64 (r108_1 + (1 : Int)))))]
 σ44)))
 (Go.AI.ldc σ6 (Go.Addr.mk w ((0 : Nat) + (10 : Nat)) Option.none) fun (v46 : Go.Value) ↦ Go.AI.tI Go.IntKind.u32 v46 fun (n47 : Int) ↦ False))))))
 (Go.AI.ldc σ (Go.Addr.mk w ((0 : Nat) + (3 : Nat)) Option.none) fun (v48 : Go.Value) ↦
 Go.AI.tI Go.IntKind.u32 v48 fun (n49 : Int) ↦
 Go.AI.bmatch (n49 == (3 : Int))
 (Go.AI.ALoop
 (Go.AI.fl Go.Proofs.Tryz.prog Go.AI.hintsS T (103 : Nat)
 [Bool.true, Bool.false, Bool.false, Bool.false, Bool.true, Bool.false, Bool.true, Bool.true, Bool.true, Bool.true, Bool.true, Bool.true, Bool.true, Bool.true, Bool.true, Bool.true, Bool.true, Bool.false,
 Bool.true, Bool.false, Bool.false, Bool.true, Bool.false]
 [X] K)
 [((0 : Nat), Option.some (Go.Value.pointer (Option.some (Go.Addr.mk c (0 : Nat) Option.none)))), ((6 : Nat), Option.some (Go.Value.int Go.IntKind.u32 id)),
 ((9 : Nat), Option.some (Go.Value.slice la ln le)), ((143 : Nat), Option.some (Go.Value.slice la ln le)), ((144 : Nat), Option.some (Go.Value.int Go.IntKind.i64 (↑ln : Int))),
 ((145 : Nat), Option.some (Go.Value.int Go.IntKind.i64 (0 : Int)))]
 σ)
 (Go.AI.ldc σ (Go.Addr.mk c ((0 : Nat) + (2 : Nat)) Option.none) fun (v50 : Go.Value) ↦
 Go.AI.tL (1 : Nat) v50 fun (s51 : Go.AI.Sl) ↦
 Go.AI.req ((0 : Int) < (↑(Go.AI.Sl.n s51) : Int))
 (Go.AI.pSome (Go.AI.Sl.a s51) fun (a52 : Go.Addr) ↦
 Go.AI.ldc σ (Go.AI.aadd a52 (Int.toNat (0 : Int) * Go.AI.szOf Go.Proofs.Tryz.prog (32 : Nat))) fun (v53 : Go.Value) ↦
 Go.AI.tI Go.IntKind.u32 v53 fun (n54 : Int) ↦
 Go.AI.newAt σ
 (Go.AI.AObj.row Go.AI.RK.rw
 [Go.Value.int Go.IntKind.u32 (3 : Int), Go.Value.int Go.IntKind.u32 id, Go.Value.int Go.IntKind.u32 (Go.IntKind.wrap Go.IntKind.u32 (↑ln : Int)), Go.Value.int Go.IntKind.u32 (0 : Int)])
 fun (i55 : Nat) (σ56 : Go.AI.AS) ↦
 T (92 : Nat)
 [Go.Value.pointer (Option.some (Go.Addr.mk c (0 : Nat) Option.none)), Go.Value.int Go.IntKind.u32 (0 : Int), Go.Value.int Go.IntKind.u32 n54,
 Go.Value.slice (Option.some (Go.Addr.mk i55 (0 : Nat) Option.none)) (4 : Nat) (1 : Nat)]
 σ56 fun (v57 : Go.Value) (σ58 : Go.AI.AS) ↦
 Go.AI.tTup v57 fun (l59 : List Go.Value) ↦
 Go.AI.pSome l59[(0 : Nat)]? fun (u60 : Go.Value) ↦
 Go.AI.tI Go.IntKind.u32 u60 fun (n61 : Int) ↦
 Go.AI.tTup v57 fun (l62 : List Go.Value) ↦
 Go.AI.pSome l62[(1 : Nat)]? fun (u63 : Go.Value) ↦
 Go.AI.tI Go.IntKind.i64 u63 fun (n64 : Int) ↦ K (Go.Value.tuple (Array.mk [Go.Value.int Go.IntKind.u32 n61, Go.Value.int Go.IntKind.i64 n64])) σ58))) := by
 intros
 kernel_rfl

theorem s103j : ∀ (T : Go.AI.Ct) (c : Nat) (id : Int) (la : Option Go.Addr) (ln le : Nat) (X : Go.AI.Regs → Go.AI.AS → Prop) (σ : Go.AI.AS) (K : Go.Value → Go.AI.AS → Prop),
 Go.AI.jn Go.Proofs.Tryz.prog Go.AI.hintsS T (103 : Nat)
 [Bool.true, Bool.false, Bool.false, Bool.false, Bool.true, Bool.false, Bool.true, Bool.true, Bool.true, Bool.true, Bool.true, Bool.true, Bool.true, Bool.true, Bool.true, Bool.true, Bool.true] [X] K
 [((0 : Nat), Option.some (Go.Value.pointer (Option.some (Go.Addr.mk c (0 : Nat) Option.none)))), ((6 : Nat), Option.some (Go.Value.int Go.IntKind.u32 id)),
 ((9 : Nat), Option.some (Go.Value.slice la ln le))]
 σ =
 Go.AI.ldc σ (Go.Addr.mk c ((0 : Nat) + (2 : Nat)) Option.none) fun (v0 : Go.Value) ↦
 Go.AI.tL (1 : Nat) v0 fun (s1 : Go.AI.Sl) ↦
 Go.AI.req ((0 : Int) < (↑(Go.AI.Sl.n s1) : Int))
 (Go.AI.pSome (Go.AI.Sl.a s1) fun (a2 : Go.Addr) ↦
 Go.AI.ldc σ (Go.AI.aadd a2 (Int.toNat (0 : Int) * Go.AI.szOf Go.Proofs.Tryz.prog (32 : Nat))) fun (v3 : Go.Value) ↦
 Go.AI.tI Go.IntKind.u32 v3 fun (n4 : Int) ↦
 Go.AI.newAt σ
 (Go.AI.AObj.row Go.AI.RK.rw
 [Go.Value.int Go.IntKind.u32 (3 : Int), Go.Value.int Go.IntKind.u32 id, Go.Value.int Go.IntKind.u32 (Go.IntKind.wrap Go.IntKind.u32 (↑ln : Int)), Go.Value.int Go.IntKind.u32 (0 : Int)])
 fun (i5 : Nat) (σ6 : Go.AI.AS) ↦
 T (92 : Nat)
 [Go.Value.pointer (Option.some (Go.Addr.mk c (0 : Nat) Option.none)), Go.Value.int Go.IntKind.u32 (0 : Int), Go.Value.int Go.IntKind.u32 n4,
 Go.Value.slice (Option.some (Go.Addr.mk i5 (0 : Nat) Option.none)) (4 : Nat) (1 : Nat)]
 σ6 fun (v7 : Go.Value) (σ8 : Go.AI.AS) ↦
 Go.AI.tTup v7 fun (l9 : List Go.Value) ↦
 Go.AI.pSome l9[(0 : Nat)]? fun (u10 : Go.Value) ↦
 Go.AI.tI Go.IntKind.u32 u10 fun (n11 : Int) ↦
 Go.AI.tTup v7 fun (l12 : List Go.Value) ↦
 Go.AI.pSome l12[(1 : Nat)]? fun (u13 : Go.Value) ↦
 Go.AI.tI Go.IntKind.i64 u13 fun (n14 : Int) ↦ K (Go.Value.tuple (Array.mk [Go.Value.int Go.IntKind.u32 n11, Go.Value.int Go.IntKind.i64 n14])) σ8) := by
 intros
 kernel_rfl

theorem s103l2 : ∀ (T : Go.AI.Ct) (c : Nat) (id : Int) (la : Option Go.Addr) (ln le : Nat) (r143a_1 : Option Go.Addr) (r143n_1 r143e_1 : Nat) (r144_1 r145_1 : Int) (X Y : Go.AI.Regs → Go.AI.AS → Prop) (σ : Go.AI.AS)
 (K : Go.Value → Go.AI.AS → Prop),
 Go.AI.fl Go.Proofs.Tryz.prog Go.AI.hintsS T (103 : Nat)
 [Bool.true, Bool.false, Bool.false, Bool.false, Bool.true, Bool.false, Bool.true, Bool.true, Bool.true, Bool.true, Bool.true, Bool.true, Bool.true, Bool.true, Bool.true, Bool.true, Bool.true, Bool.false, Bool.true,
 Bool.false, Bool.false, Bool.true, Bool.false]
 [X] K Y
 [((0 : Nat), Option.some (Go.Value.pointer (Option.some (Go.Addr.mk c (0 : Nat) Option.none)))), ((6 : Nat), Option.some (Go.Value.int Go.IntKind.u32 id)),
 ((9 : Nat), Option.some (Go.Value.slice la ln le)), ((143 : Nat), Option.some (Go.Value.slice r143a_1 r143n_1 r143e_1)), ((144 : Nat), Option.some (Go.Value.int Go.IntKind.i64 r144_1)),
 ((145 : Nat), Option.some (Go.Value.int Go.IntKind.i64 r145_1))]
 σ =
 Go.AI.bmatch (Decidable.decide (r145_1 < r144_1))
 (Go.AI.req ((0 : Int) ≤ r145_1)
 (Go.AI.req (r145_1 < (↑r143n_1 : Int))
 (Go.AI.pSome r143a_1 fun (a0 : Go.Addr) ↦
 Go.AI.req (r143e_1 = Go.AI.szOf Go.Proofs.Tryz.prog (32 : Nat))
 (Go.AI.ldc σ (Go.AI.aadd a0 (Int.toNat r145_1 * Go.AI.szOf Go.Proofs.Tryz.prog (32 : Nat))) fun (v1 : Go.Value) ↦
 Go.AI.tI Go.IntKind.u32 v1 fun (n2 : Int) ↦
 Go.AI.ldc σ (Go.Addr.mk c (0 : Nat) Option.none) fun (v3 : Go.Value) ↦
 Go.AI.tP v3 fun (b4 : Option Go.Addr) ↦
 T (82 : Nat) [Go.Value.int Go.IntKind.u32 n2] σ fun (v5 : Go.Value) (σ6 : Go.AI.AS) ↦
 Go.AI.tI Go.IntKind.u32 v5 fun (n7 : Int) ↦
 Go.AI.ldc σ6 (Go.Addr.mk c (0 : Nat) Option.none) fun (v8 : Go.Value) ↦
 Go.AI.tP v8 fun (b9 : Option Go.Addr) ↦
 Go.Value.pointer b4 = Go.Value.pointer b9 ∧
 T (132 : Nat) [Go.Value.pointer b4, Go.Value.int Go.IntKind.u32 id, Go.Value.int Go.IntKind.u32 n7] σ6 fun (v10 : Go.Value) (σ11 : Go.AI.AS) ↦
 Y
 [((0 : Nat), Option.some (Go.Value.pointer (Option.some (Go.Addr.mk c (0 : Nat) Option.none)))), ((6 : Nat), Option.some (Go.Value.int Go.IntKind.u32 id)),
 ((9 : Nat), Option.some (Go.Value.slice la ln le)), ((143 : Nat), Option.some (Go.Value.slice r143a_1 r143n_1 r143e_1)),
 ((144 : Nat), Option.some (Go.Value.int Go.IntKind.i64 r144_1)), ((145 : Nat), Option.some (Go.Value.int Go.IntKind.i64 (Go.IntKind.wrap Go.IntKind.i64 (r145_1 + (1 : Int)))))]
 σ11))))
 (Go.AI.ldc σ (Go.Addr.mk c (0 : Nat) Option.none) fun (v12 : Go.Value) ↦
 Go.AI.tP v12 fun (b13 : Option Go.Addr) ↦
 T (132 : Nat) [Go.Value.pointer b13, Go.Value.int Go.IntKind.u32 id, Go.Value.int Go.IntKind.u32 (10 : Int)] σ fun (v14 : Go.Value) (σ15 : Go.AI.AS) ↦
 Go.AI.ldc σ15 (Go.Addr.mk c ((0 : Nat) + (2 : Nat)) Option.none) fun (v16 : Go.Value) ↦
 Go.AI.tL (1 : Nat) v16 fun (s17 : Go.AI.Sl) ↦
 Go.AI.req ((0 : Int) < (↑(Go.AI.Sl.n s17) : Int))
 (Go.AI.pSome (Go.AI.Sl.a s17) fun (a18 : Go.Addr) ↦
 Go.AI.ldc σ15 (Go.AI.aadd a18 (Int.toNat (0 : Int) * Go.AI.szOf Go.Proofs.Tryz.prog (32 : Nat))) fun (v19 : Go.Value) ↦
 Go.AI.tI Go.IntKind.u32 v19 fun (n20 : Int) ↦
 Go.AI.newAt σ15
 (Go.AI.AObj.row Go.AI.RK.rw
 [Go.Value.int Go.IntKind.u32 (3 : Int), Go.Value.int Go.IntKind.u32 id, Go.Value.int Go.IntKind.u32 (Go.IntKind.wrap Go.IntKind.u32 (↑ln : Int)), Go.Value.int Go.IntKind.u32 (0 : Int)])
 fun (i21 : Nat) (σ22 : Go.AI.AS) ↦
 T (92 : Nat)
 [Go.Value.pointer (Option.some (Go.Addr.mk c (0 : Nat) Option.none)), Go.Value.int Go.IntKind.u32 (0 : Int), Go.Value.int Go.IntKind.u32 n20,
 Go.Value.slice (Option.some (Go.Addr.mk i21 (0 : Nat) Option.none)) (4 : Nat) (1 : Nat)]
 σ22 fun (v23 : Go.Value) (σ24 : Go.AI.AS) ↦
 Go.AI.tTup v23 fun (l25 : List Go.Value) ↦
 Go.AI.pSome l25[(0 : Nat)]? fun (u26 : Go.Value) ↦
 Go.AI.tI Go.IntKind.u32 u26 fun (n27 : Int) ↦
 Go.AI.tTup v23 fun (l28 : List Go.Value) ↦
 Go.AI.pSome l28[(1 : Nat)]? fun (u29 : Go.Value) ↦
 Go.AI.tI Go.IntKind.i64 u29 fun (n30 : Int) ↦ K (Go.Value.tuple (Array.mk [Go.Value.int Go.IntKind.u32 n27, Go.Value.int Go.IntKind.i64 n30])) σ24)) := by
 intros
 kernel_rfl

end Go.AI
end
section
/- The conditions ahead of the calls of the program's functions, reckoned as far as they go (equations that the kernel checks); no condition. -/
set_option maxRecDepth 1000000
set_option linter.unusedVariables false
namespace Go.AI
open Go.Proofs
theorem s7 : ∀ (T : Go.AI.Ct) (r0a_1 : Option Go.Addr) (r0n_1 : Nat) (most : Int) (σ : Go.AI.AS) (K : Go.Value → Go.AI.AS → Prop),
 Go.AI.fw Go.Proofs.Tryz.prog Go.AI.hintsS T (7 : Nat) [Go.Value.slice r0a_1 r0n_1 (2 : Nat), Go.Value.int Go.IntKind.u8 most] σ K =
 T (27 : Nat) [Go.Value.slice r0a_1 r0n_1 (2 : Nat)] σ fun (v0 : Go.Value) (σ1 : Go.AI.AS) ↦
 Go.AI.tB v0 fun (b2 : Bool) ↦
 Go.AI.bmatch b2 (T (12 : Nat) [] σ1 fun (v3 : Go.Value) (σ4 : Go.AI.AS) ↦ Go.AI.tB v3 fun (b5 : Bool) ↦ K (Go.Value.bool b5) σ4)
 (T (13 : Nat) [Go.Value.int Go.IntKind.i64 (20 : Int), Go.Value.int Go.IntKind.i64 (10 : Int), Go.Value.slice r0a_1 r0n_1 (2 : Nat)] σ1 fun (v6 : Go.Value) (σ7 : Go.AI.AS) ↦
 Go.AI.tTup v6 fun (l8 : List Go.Value) ↦
 Go.AI.pSome l8[(0 : Nat)]? fun (u9 : Go.Value) ↦
 Go.AI.tP u9 fun (b10 : Option Go.Addr) ↦
 Go.AI.tTup v6 fun (l11 : List Go.Value) ↦
 Go.AI.pSome l11[(1 : Nat)]? fun (u12 : Go.Value) ↦
 Go.AI.tI Go.IntKind.i64 u12 fun (n13 : Int) ↦
 T (15 : Nat) [Go.Value.int Go.IntKind.i64 n13] σ7 fun (v14 : Go.Value) (σ15 : Go.AI.AS) ↦
 Go.AI.tI Go.IntKind.i64 v14 fun (n16 : Int) ↦
 Go.AI.bmatch (n16 != (0 : Int)) (K (Go.Value.bool Bool.false) σ15)
 (Go.AI.ptrEq σ15 b10 Option.none fun (r17 : Bool) ↦
 Go.AI.bmatch r17 (K (Go.Value.bool Bool.false) σ15)
 (T (14 : Nat) [] σ15 fun (v18 : Go.Value) (σ19 : Go.AI.AS) ↦
 Go.AI.tP v18 fun (b20 : Option Go.Addr) ↦
 Go.AI.newAt σ19
 (Go.AI.AObj.row Go.AI.RK.rw
 [Go.Value.int Go.IntKind.u32 (0 : Int), Go.Value.int Go.IntKind.u32 (0 : Int), Go.Value.int Go.IntKind.u32 (0 : Int), Go.Value.int Go.IntKind.u32 (3 : Int),
 Go.Value.int Go.IntKind.u32 (0 : Int)])
 fun (i21 : Nat) (σ22 : Go.AI.AS) ↦
 T (16 : Nat)
 [Go.Value.pointer b10, Go.Value.iface (29 : Nat) (Go.Value.pointer b20), Go.Value.int Go.IntKind.u32 (35 : Int),
 Go.Value.slice (Option.some (Go.Addr.mk i21 (0 : Nat) Option.none)) (5 : Nat) (1 : Nat)]
 σ22 fun (v23 : Go.Value) (σ24 : Go.AI.AS) ↦
 Go.AI.tTup v23 fun (l25 : List Go.Value) ↦
 Go.AI.pSome l25[(0 : Nat)]? fun (u26 : Go.Value) ↦
 Go.AI.tI Go.IntKind.u32 u26 fun (n27 : Int) ↦
 Go.AI.tTup v23 fun (l28 : List Go.Value) ↦
 Go.AI.pSome l28[(1 : Nat)]? fun (u29 : Go.Value) ↦
 Go.AI.tI Go.IntKind.i64 u29 fun (n30 : Int) ↦
 Go.AI.ALoop
 (Go.AI.fl Go.Proofs.Tryz.prog Go.AI.hintsS T (7 : Nat)
 [Bool.true, Bool.true, Bool.true, Bool.true, Bool.true, Bool.true, Bool.true, Bool.false, Bool.true, Bool.false] [] K)
 [((0 : Nat), Option.some (Go.Value.slice r0a_1 r0n_1 (2 : Nat))), ((1 : Nat), Option.some (Go.Value.int Go.IntKind.u8 most)),
 ((5 : Nat), Option.some (Go.Value.pointer b10)), ((7 : Nat), Option.some (Go.Value.pointer b20)), ((8 : Nat), Option.some (Go.Value.int Go.IntKind.u32 n27)),
 ((10 : Nat), Option.some (Go.Value.slice Option.none (0 : Nat) (0 : Nat))), ((11 : Nat), Option.some (Go.Value.int Go.IntKind.i64 (0 : Int)))]
 σ24))) := by
 intros
 kernel_rfl

theorem s7l : ∀ (T : Go.AI.Ct) (r0a_1 : Option Go.Addr) (r0n_1 r0e_1 : Nat) (most : Int) (g m : Nat) (w : Int) (seena : Option Go.Addr) (seenn seene : Nat) (i : Int) (X : Go.AI.Regs → Go.AI.AS → Prop)
 (σ : Go.AI.AS) (K : Go.Value → Go.AI.AS → Prop),
 Go.AI.fl Go.Proofs.Tryz.prog Go.AI.hintsS T (7 : Nat) [Bool.true, Bool.true, Bool.true, Bool.true, Bool.true, Bool.true, Bool.true, Bool.false, Bool.true, Bool.false] [] K X
 [((0 : Nat), Option.some (Go.Value.slice r0a_1 r0n_1 r0e_1)), ((1 : Nat), Option.some (Go.Value.int Go.IntKind.u8 most)),
 ((5 : Nat), Option.some (Go.Value.pointer (Option.some (Go.Addr.mk g (0 : Nat) Option.none)))), ((7 : Nat), Option.some (Go.Value.pointer (Option.some (Go.Addr.mk m (0 : Nat) Option.none)))),
 ((8 : Nat), Option.some (Go.Value.int Go.IntKind.u32 w)), ((10 : Nat), Option.some (Go.Value.slice seena seenn seene)), ((11 : Nat), Option.some (Go.Value.int Go.IntKind.i64 i))]
 σ =
 Go.AI.bmatch (Decidable.decide (i < (↑r0n_1 : Int)))
 (Go.AI.req ((0 : Int) ≤ i)
 (Go.AI.req (i < (↑r0n_1 : Int))
 (Go.AI.pSome r0a_1 fun (a0 : Go.Addr) ↦
 Go.AI.req (r0e_1 = Go.AI.szOf Go.Proofs.Tryz.prog (70 : Nat))
 (Go.AI.ldc σ (Go.Addr.add (Go.AI.aadd a0 (Int.toNat i * Go.AI.szOf Go.Proofs.Tryz.prog (70 : Nat))) (0 : Nat)) fun (v1 : Go.Value) ↦
 Go.AI.tB v1 fun (b2 : Bool) ↦
 Go.AI.bmatch (!b2)
 (X
 [((0 : Nat), Option.some (Go.Value.slice r0a_1 r0n_1 r0e_1)), ((1 : Nat), Option.some (Go.Value.int Go.IntKind.u8 most)),
 ((5 : Nat), Option.some (Go.Value.pointer (Option.some (Go.Addr.mk g (0 : Nat) Option.none)))), ((7 : Nat), Option.some (Go.Value.pointer (Option.some (Go.Addr.mk m (0 : Nat) Option.none)))),
 ((8 : Nat), Option.some (Go.Value.int Go.IntKind.u32 w)), ((10 : Nat), Option.some (Go.Value.slice seena seenn seene)),
 ((11 : Nat), Option.some (Go.Value.int Go.IntKind.i64 (Go.IntKind.wrap Go.IntKind.i64 (i + (1 : Int)))))]
 σ)
 (Go.AI.req ((0 : Int) ≤ i)
 (Go.AI.req (i < (↑r0n_1 : Int))
 (Go.AI.pSome r0a_1 fun (a3 : Go.Addr) ↦
 Go.AI.req (r0e_1 = Go.AI.szOf Go.Proofs.Tryz.prog (70 : Nat))
 (Go.AI.ldc σ
 (Go.Addr.mk (Go.Addr.block (Go.AI.aadd a3 (Int.toNat i * Go.AI.szOf Go.Proofs.Tryz.prog (70 : Nat))))
 (Go.Addr.off (Go.AI.aadd a3 (Int.toNat i * Go.AI.szOf Go.Proofs.Tryz.prog (70 : Nat))) + (1 : Nat)) Option.none)
 fun (v4 : Go.Value) ↦
 Go.AI.tL (1 : Nat) v4 fun (s5 : Go.AI.Sl) ↦
 Go.AI.put1 σ (Go.Addr.mk m ((0 : Nat) + (1 : Nat)) Option.none) (Go.Value.slice Option.none (0 : Nat) (0 : Nat)) fun (σ6 : Go.AI.AS) ↦
 Go.AI.newAt σ6
 (Go.AI.AObj.row Go.AI.RK.rw
 [Go.Value.int Go.IntKind.u32 w, Go.Value.int Go.IntKind.u32 (200 : Int), Go.Value.int Go.IntKind.u32 (Go.IntKind.wrap Go.IntKind.u32 most),
 Go.Value.int Go.IntKind.u32 (0 : Int)])
 fun (i7 : Nat) (σ8 : Go.AI.AS) ↦
 T (16 : Nat)
 [Go.Value.pointer (Option.some (Go.Addr.mk g (0 : Nat) Option.none)), Go.Value.iface (29 : Nat) (Go.Value.pointer (Option.some (Go.Addr.mk m (0 : Nat) Option.none))),
 Go.Value.int Go.IntKind.u32 (208 : Int), Go.Value.slice (Option.some (Go.Addr.mk i7 (0 : Nat) Option.none)) (4 : Nat) (1 : Nat)]
 σ8 fun (v9 : Go.Value) (σ10 : Go.AI.AS) ↦
 Go.AI.newAt σ10 (Go.AI.AObj.row Go.AI.RK.rw [Go.Value.int Go.IntKind.u32 (4294967295 : Int)]) fun (i11 : Nat) (σ12 : Go.AI.AS) ↦
 T (16 : Nat)
 [Go.Value.pointer (Option.some (Go.Addr.mk g (0 : Nat) Option.none)), Go.Value.iface (29 : Nat) (Go.Value.pointer (Option.some (Go.Addr.mk m (0 : Nat) Option.none))),
 Go.Value.int Go.IntKind.u32 (192 : Int), Go.Value.slice (Option.some (Go.Addr.mk i11 (0 : Nat) Option.none)) (1 : Nat) (1 : Nat)]
 σ12 fun (v13 : Go.Value) (σ14 : Go.AI.AS) ↦
 Go.AI.tTup v13 fun (l15 : List Go.Value) ↦
 Go.AI.pSome l15[(0 : Nat)]? fun (u16 : Go.Value) ↦
 Go.AI.tI Go.IntKind.u32 u16 fun (n17 : Int) ↦
 Go.AI.tTup v13 fun (l18 : List Go.Value) ↦
 Go.AI.pSome l18[(1 : Nat)]? fun (u19 : Go.Value) ↦
 Go.AI.tI Go.IntKind.i64 u19 fun (n20 : Int) ↦
 T (15 : Nat) [Go.Value.int Go.IntKind.i64 n20] σ14 fun (v21 : Go.Value) (σ22 : Go.AI.AS) ↦
 Go.AI.tI Go.IntKind.i64 v21 fun (n23 : Int) ↦
 Go.AI.bmatch (n23 != (0 : Int)) (K (Go.Value.bool Bool.false) σ22)
 (Go.AI.ldc σ22 (Go.Addr.mk m ((0 : Nat) + (1 : Nat)) Option.none) fun (v24 : Go.Value) ↦
 Go.AI.tL (1 : Nat) v24 fun (s25 : Go.AI.Sl) ↦
 Go.AI.newAt σ22
 (Go.AI.AObj.row Go.AI.RK.rw
 [Go.Value.int Go.IntKind.u32 (3 : Int), Go.Value.int Go.IntKind.u32 w,
 Go.Value.int Go.IntKind.u32 (Go.IntKind.wrap Go.IntKind.u32 (Go.AI.imin (↑(Go.AI.Sl.n s5) : Int) (Go.IntKind.wrap Go.IntKind.i64 most))),
 Go.Value.int Go.IntKind.u32 (0 : Int)])
 fun (i26 : Nat) (σ27 : Go.AI.AS) ↦
 T (18 : Nat)
 [Go.Value.slice (Go.AI.Sl.a s25) (Go.AI.Sl.n s25) (1 : Nat), Go.Value.slice (Option.some (Go.Addr.mk i26 (0 : Nat) Option.none)) (4 : Nat) (1 : Nat)]
 σ27 fun (v28 : Go.Value) (σ29 : Go.AI.AS) ↦
 Go.AI.tB v28 fun (b30 : Bool) ↦
 Go.AI.bmatch (!b30) (K (Go.Value.bool Bool.false) σ29)
 (T (28 : Nat) [Go.Value.pointer (Option.some (Go.Addr.mk g (0 : Nat) Option.none))] σ29 fun (v31 : Go.Value) (σ32 : Go.AI.AS) ↦
 Go.AI.tI Go.IntKind.i64 v31 fun (n33 : Int) ↦
 Go.AI.bmatch (n33 != Go.IntKind.wrap Go.IntKind.i64 (Go.IntKind.wrap Go.IntKind.i64 ((↑r0n_1 : Int) - i) - (1 : Int)))
 (K (Go.Value.bool Bool.false) σ32)
 (Go.AI.ALoop
 (Go.AI.fl Go.Proofs.Tryz.prog Go.AI.hintsS T (7 : Nat)
 [Bool.true, Bool.true, Bool.true, Bool.true, Bool.true, Bool.true, Bool.true, Bool.false, Bool.true, Bool.false, Bool.false, Bool.true,
 Bool.false, Bool.false, Bool.true, Bool.true, Bool.true, Bool.true, Bool.true, Bool.true, Bool.false, Bool.true, Bool.false]
 [X] K)
 [((0 : Nat), Option.some (Go.Value.slice r0a_1 r0n_1 r0e_1)), ((1 : Nat), Option.some (Go.Value.int Go.IntKind.u8 most)),
 ((5 : Nat), Option.some (Go.Value.pointer (Option.some (Go.Addr.mk g (0 : Nat) Option.none)))),
 ((7 : Nat), Option.some (Go.Value.pointer (Option.some (Go.Addr.mk m (0 : Nat) Option.none)))),
 ((8 : Nat), Option.some (Go.Value.int Go.IntKind.u32 w)), ((10 : Nat), Option.some (Go.Value.slice seena seenn seene)),
 ((11 : Nat), Option.some (Go.Value.int Go.IntKind.i64 i)),
 ((12 : Nat), Option.some (Go.Value.int Go.IntKind.i64 (Go.AI.imin (↑(Go.AI.Sl.n s5) : Int) (Go.IntKind.wrap Go.IntKind.i64 most)))),
 ((15 : Nat), Option.some (Go.Value.int Go.IntKind.i64 (0 : Int)))]
 σ32)))))))))))
 (Go.AI.newAt σ
 (Go.AI.AObj.row Go.AI.RK.rw [Go.Value.int Go.IntKind.u32 w, Go.Value.int Go.IntKind.u32 (200 : Int), Go.Value.int Go.IntKind.u32 (Go.IntKind.wrap Go.IntKind.u32 most), Go.Value.int Go.IntKind.u32 (0 : Int)])
 fun (i34 : Nat) (σ35 : Go.AI.AS) ↦
 T (16 : Nat)
 [Go.Value.pointer (Option.some (Go.Addr.mk g (0 : Nat) Option.none)), Go.Value.iface (29 : Nat) (Go.Value.pointer (Option.some (Go.Addr.mk m (0 : Nat) Option.none))),
 Go.Value.int Go.IntKind.u32 (208 : Int), Go.Value.slice (Option.some (Go.Addr.mk i34 (0 : Nat) Option.none)) (4 : Nat) (1 : Nat)]
 σ35 fun (v36 : Go.Value) (σ37 : Go.AI.AS) ↦
 Go.AI.newAt σ37 (Go.AI.AObj.row Go.AI.RK.rw [Go.Value.int Go.IntKind.u32 (4294967295 : Int)]) fun (i38 : Nat) (σ39 : Go.AI.AS) ↦
 T (16 : Nat)
 [Go.Value.pointer (Option.some (Go.Addr.mk g (0 : Nat) Option.none)), Go.Value.iface (29 : Nat) (Go.Value.pointer (Option.some (Go.Addr.mk m (0 : Nat) Option.none))),
 Go.Value.int Go.IntKind.u32 (192 : Int), Go.Value.slice (Option.some (Go.Addr.mk i38 (0 : Nat) Option.none)) (1 : Nat) (1 : Nat)]
 σ39 fun (v40 : Go.Value) (σ41 : Go.AI.AS) ↦
 Go.AI.tTup v40 fun (l42 : List Go.Value) ↦
 Go.AI.pSome l42[(0 : Nat)]? fun (u43 : Go.Value) ↦
 Go.AI.tI Go.IntKind.u32 u43 fun (n44 : Int) ↦
 Go.AI.tTup v40 fun (l45 : List Go.Value) ↦
 Go.AI.pSome l45[(1 : Nat)]? fun (u46 : Go.Value) ↦
 Go.AI.tI Go.IntKind.i64 u46 fun (n47 : Int) ↦
 Go.AI.newAt σ41 (Go.AI.AObj.row Go.AI.RK.rw [Go.Value.int Go.IntKind.u32 w]) fun (i48 : Nat) (σ49 : Go.AI.AS) ↦
 T (16 : Nat)
 [Go.Value.pointer (Option.some (Go.Addr.mk g (0 : Nat) Option.none)), Go.Value.iface (29 : Nat) (Go.Value.pointer (Option.some (Go.Addr.mk m (0 : Nat) Option.none))),
 Go.Value.int Go.IntKind.u32 (44 : Int), Go.Value.slice (Option.some (Go.Addr.mk i48 (0 : Nat) Option.none)) (1 : Nat) (1 : Nat)]
 σ49 fun (v50 : Go.Value) (σ51 : Go.AI.AS) ↦
 Go.AI.tTup v50 fun (l52 : List Go.Value) ↦
 Go.AI.pSome l52[(0 : Nat)]? fun (u53 : Go.Value) ↦
 Go.AI.tI Go.IntKind.u32 u53 fun (n54 : Int) ↦
 Go.AI.tTup v50 fun (l55 : List Go.Value) ↦
 Go.AI.pSome l55[(1 : Nat)]? fun (u56 : Go.Value) ↦
 Go.AI.tI Go.IntKind.i64 u56 fun (n57 : Int) ↦
 Go.AI.newAt σ51 (Go.AI.AObj.row Go.AI.RK.rw [Go.Value.int Go.IntKind.u32 n54]) fun (i58 : Nat) (σ59 : Go.AI.AS) ↦
 T (16 : Nat)
 [Go.Value.pointer (Option.some (Go.Addr.mk g (0 : Nat) Option.none)), Go.Value.iface (29 : Nat) (Go.Value.pointer (Option.some (Go.Addr.mk m (0 : Nat) Option.none))),
 Go.Value.int Go.IntKind.u32 (70 : Int), Go.Value.slice (Option.some (Go.Addr.mk i58 (0 : Nat) Option.none)) (1 : Nat) (1 : Nat)]
 σ59 fun (v60 : Go.Value) (σ61 : Go.AI.AS) ↦
 Go.AI.tTup v60 fun (l62 : List Go.Value) ↦
 Go.AI.pSome l62[(0 : Nat)]? fun (u63 : Go.Value) ↦
 Go.AI.tI Go.IntKind.u32 u63 fun (n64 : Int) ↦
 Go.AI.tTup v60 fun (l65 : List Go.Value) ↦
 Go.AI.pSome l65[(1 : Nat)]? fun (u66 : Go.Value) ↦
 Go.AI.tI Go.IntKind.i64 u66 fun (n67 : Int) ↦
 T (15 : Nat) [Go.Value.int Go.IntKind.i64 n47] σ61 fun (v68 : Go.Value) (σ69 : Go.AI.AS) ↦
 Go.AI.tI Go.IntKind.i64 v68 fun (n70 : Int) ↦
 Go.AI.bmatch (n70 == (161 : Int))
 (T (28 : Nat) [Go.Value.pointer (Option.some (Go.Addr.mk g (0 : Nat) Option.none))] σ69 fun (v71 : Go.Value) (σ72 : Go.AI.AS) ↦
 Go.AI.tI Go.IntKind.i64 v71 fun (n73 : Int) ↦
 Go.AI.bmatch (n73 == (0 : Int))
 (T (19 : Nat) [Go.Value.pointer (Option.some (Go.Addr.mk g (0 : Nat) Option.none)), Go.Value.int Go.IntKind.u32 w] σ72
 fun (v74 : Go.Value) (σ75 : Go.AI.AS) ↦
 Go.AI.tL (1 : Nat) v74 fun (s76 : Go.AI.Sl) ↦
 T (18 : Nat) [Go.Value.slice (Go.AI.Sl.a s76) (Go.AI.Sl.n s76) (1 : Nat), Go.Value.slice seena seenn seene] σ75
 fun (v77 : Go.Value) (σ78 : Go.AI.AS) ↦
 Go.AI.tB v77 fun (b79 : Bool) ↦
 Go.AI.bmatch b79
 (Go.AI.bmatch (n64 == (0 : Int))
 (T (12 : Nat) [] σ78 fun (v80 : Go.Value) (σ81 : Go.AI.AS) ↦ Go.AI.tB v80 fun (b82 : Bool) ↦ K (Go.Value.bool b82) σ81)
 (K (Go.Value.bool Bool.false) σ78))
 (K (Go.Value.bool Bool.false) σ78))
 (K (Go.Value.bool Bool.false) σ72))
 (K (Go.Value.bool Bool.false) σ69)) := by
 intros
 kernel_rfl

theorem s7l1 : ∀ (T : Go.AI.Ct) (r0a_1 : Option Go.Addr) (r0n_1 r0e_1 : Nat) (most : Int) (g m : Nat) (w : Int) (seena : Option Go.Addr) (seenn seene : Nat) (i n k : Int) (X Y : Go.AI.Regs → Go.AI.AS → Prop)
 (σ : Go.AI.AS) (K : Go.Value → Go.AI.AS → Prop),
 Go.AI.fl Go.Proofs.Tryz.prog Go.AI.hintsS T (7 : Nat)
 [Bool.true, Bool.true, Bool.true, Bool.true, Bool.true, Bool.true, Bool.true, Bool.false, Bool.true, Bool.false, Bool.false, Bool.true, Bool.false, Bool.false, Bool.true, Bool.true, Bool.true, Bool.true, Bool.true,
 Bool.true, Bool.false, Bool.true, Bool.false]
 [X] K Y
 [((0 : Nat), Option.some (Go.Value.slice r0a_1 r0n_1 r0e_1)), ((1 : Nat), Option.some (Go.Value.int Go.IntKind.u8 most)),
 ((5 : Nat), Option.some (Go.Value.pointer (Option.some (Go.Addr.mk g (0 : Nat) Option.none)))), ((7 : Nat), Option.some (Go.Value.pointer (Option.some (Go.Addr.mk m (0 : Nat) Option.none)))),
 ((8 : Nat), Option.some (Go.Value.int Go.IntKind.u32 w)), ((10 : Nat), Option.some (Go.Value.slice seena seenn seene)), ((11 : Nat), Option.some (Go.Value.int Go.IntKind.i64 i)),
 ((12 : Nat), Option.some (Go.Value.int Go.IntKind.i64 n)), ((15 : Nat), Option.some (Go.Value.int Go.IntKind.i64 k))]
 σ =
 Go.AI.bmatch (Decidable.decide (k < n))
 (Go.AI.req ((0 : Int) ≤ i)
 (Go.AI.req (i < (↑r0n_1 : Int))
 (Go.AI.pSome r0a_1 fun (a0 : Go.Addr) ↦
 Go.AI.req (r0e_1 = Go.AI.szOf Go.Proofs.Tryz.prog (70 : Nat))
 (Go.AI.ldc σ
 (Go.Addr.mk (Go.Addr.block (Go.AI.aadd a0 (Int.toNat i * Go.AI.szOf Go.Proofs.Tryz.prog (70 : Nat))))
 (Go.Addr.off (Go.AI.aadd a0 (Int.toNat i * Go.AI.szOf Go.Proofs.Tryz.prog (70 : Nat))) + (1 : Nat)) Option.none)
 fun (v1 : Go.Value) ↦
 Go.AI.tL (1 : Nat) v1 fun (s2 : Go.AI.Sl) ↦
 Go.AI.req ((0 : Int) ≤ k)
 (Go.AI.req (k < (↑(Go.AI.Sl.n s2) : Int))
 (Go.AI.pSome (Go.AI.Sl.a s2) fun (a3 : Go.Addr) ↦
 Go.AI.ldc σ (Go.AI.aadd a3 (Int.toNat k * Go.AI.szOf Go.Proofs.Tryz.prog (32 : Nat))) fun (v4 : Go.Value) ↦
 Go.AI.tI Go.IntKind.u32 v4 fun (n5 : Int) ↦
 Go.AI.bmatch (Decidable.decide (n5 > (255 : Int)))
 (Go.AI.ldc σ (Go.Addr.mk m (0 : Nat) Option.none) fun (v6 : Go.Value) ↦
 Go.AI.tL (1 : Nat) v6 fun (s7 : Go.AI.Sl) ↦
 Go.AI.req ((0 : Int) ≤ Go.IntKind.wrap Go.IntKind.i64 ((200 : Int) + k))
 (Go.AI.req (Go.IntKind.wrap Go.IntKind.i64 ((200 : Int) + k) < (↑(Go.AI.Sl.n s7) : Int))
 (Go.AI.pSome (Go.AI.Sl.a s7) fun (a8 : Go.Addr) ↦
 Go.AI.ldc σ (Go.AI.aadd a8 (Int.toNat (Go.IntKind.wrap Go.IntKind.i64 ((200 : Int) + k)) * Go.AI.szOf Go.Proofs.Tryz.prog (5 : Nat))) fun (v9 : Go.Value) ↦
 Go.AI.tI Go.IntKind.u8 v9 fun (n10 : Int) ↦
 Go.AI.bmatch (Go.IntKind.wrap Go.IntKind.u32 n10 != (63 : Int)) (K (Go.Value.bool Bool.false) σ)
 (Go.AI.newAt σ (Go.AI.AObj.row Go.AI.RK.rw [Go.Value.int Go.IntKind.u32 (63 : Int)]) fun (i11 : Nat) (σ12 : Go.AI.AS) ↦
 Go.AI.chk (Go.AI.nilOr seena seene (Go.AI.szOf Go.Proofs.Tryz.prog (32 : Nat)))
 (Go.AI.lds σ12 (Go.Addr.mk i11 (0 : Nat) Option.none) (1 : Nat) fun (l13 : List Go.Value) ↦
 Go.AI.appendTo σ12 (1 : Nat) (4 : Nat) (Go.AI.Sl.mk seena seenn) l13 (1 : Nat) fun (s14 : Go.AI.Sl) (σ15 : Go.AI.AS) ↦
 Y
 [((0 : Nat), Option.some (Go.Value.slice r0a_1 r0n_1 r0e_1)), ((1 : Nat), Option.some (Go.Value.int Go.IntKind.u8 most)),
 ((5 : Nat), Option.some (Go.Value.pointer (Option.some (Go.Addr.mk g (0 : Nat) Option.none)))),
 ((7 : Nat), Option.some (Go.Value.pointer (Option.some (Go.Addr.mk m (0 : Nat) Option.none)))), ((8 : Nat), Option.some (Go.Value.int Go.IntKind.u32 w)),
 ((10 : Nat), Option.some (Go.Value.slice (Go.AI.Sl.a s14) (Go.AI.Sl.n s14) (1 : Nat))), ((11 : Nat), Option.some (Go.Value.int Go.IntKind.i64 i)),
 ((12 : Nat), Option.some (Go.Value.int Go.IntKind.i64 n)),
 ((15 : Nat), Option.some (Go.Value.int Go.IntKind.i64 (Go.IntKind.wrap Go.IntKind.i64 (k + (1 : Int)))))]
 σ15)))))
 (Go.AI.ldc σ (Go.Addr.mk m (0 : Nat) Option.none) fun (v16 : Go.Value) ↦
 Go.AI.tL (1 : Nat) v16 fun (s17 : Go.AI.Sl) ↦
 Go.AI.req ((0 : Int) ≤ Go.IntKind.wrap Go.IntKind.i64 ((200 : Int) + k))
 (Go.AI.req (Go.IntKind.wrap Go.IntKind.i64 ((200 : Int) + k) < (↑(Go.AI.Sl.n s17) : Int))
 (Go.AI.pSome (Go.AI.Sl.a s17) fun (a18 : Go.Addr) ↦
 Go.AI.ldc σ (Go.AI.aadd a18 (Int.toNat (Go.IntKind.wrap Go.IntKind.i64 ((200 : Int) + k)) * Go.AI.szOf Go.Proofs.Tryz.prog (5 : Nat))) fun (v19 : Go.Value) ↦
 Go.AI.tI Go.IntKind.u8 v19 fun (n20 : Int) ↦
 Go.AI.bmatch (Go.IntKind.wrap Go.IntKind.u32 n20 != n5) (K (Go.Value.bool Bool.false) σ)
 (Go.AI.newAt σ (Go.AI.AObj.row Go.AI.RK.rw [Go.Value.int Go.IntKind.u32 n5]) fun (i21 : Nat) (σ22 : Go.AI.AS) ↦
 Go.AI.chk (Go.AI.nilOr seena seene (Go.AI.szOf Go.Proofs.Tryz.prog (32 : Nat)))
 (Go.AI.lds σ22 (Go.Addr.mk i21 (0 : Nat) Option.none) (1 : Nat) fun (l23 : List Go.Value) ↦
 Go.AI.appendTo σ22 (1 : Nat) (4 : Nat) (Go.AI.Sl.mk seena seenn) l23 (1 : Nat) fun (s24 : Go.AI.Sl) (σ25 : Go.AI.AS) ↦
 Y
 [((0 : Nat), Option.some (Go.Value.slice r0a_1 r0n_1 r0e_1)), ((1 : Nat), Option.some (Go.Value.int Go.IntKind.u8 most)),
 ((5 : Nat), Option.some (Go.Value.pointer (Option.some (Go.Addr.mk g (0 : Nat) Option.none)))),
 ((7 : Nat), Option.some (Go.Value.pointer (Option.some (Go.Addr.mk m (0 : Nat) Option.none)))), ((8 : Nat), Option.some (Go.Value.int Go.IntKind.u32 w)),
 ((10 : Nat), Option.some (Go.Value.slice (Go.AI.Sl.a s24) (Go.AI.Sl.n s24) (1 : Nat))), ((11 : Nat), Option.some (Go.Value.int Go.IntKind.i64 i)),
 ((12 : Nat), Option.some (Go.Value.int Go.IntKind.i64 n)),
 ((15 : Nat), Option.some (Go.Value.int Go.IntKind.i64 (Go.IntKind.wrap Go.IntKind.i64 (k + (1 : Int)))))]
 σ25)))))))))))
 (Go.AI.newAt σ (Go.AI.AObj.row Go.AI.RK.rw [Go.Value.int Go.IntKind.u32 (10 : Int)]) fun (i26 : Nat) (σ27 : Go.AI.AS) ↦
 Go.AI.chk (Go.AI.nilOr seena seene (Go.AI.szOf Go.Proofs.Tryz.prog (32 : Nat)))
 (Go.AI.lds σ27 (Go.Addr.mk i26 (0 : Nat) Option.none) (1 : Nat) fun (l28 : List Go.Value) ↦
 Go.AI.appendTo σ27 (1 : Nat) (4 : Nat) (Go.AI.Sl.mk seena seenn) l28 (1 : Nat) fun (s29 : Go.AI.Sl) (σ30 : Go.AI.AS) ↦
 X
 [((0 : Nat), Option.some (Go.Value.slice r0a_1 r0n_1 r0e_1)), ((1 : Nat), Option.some (Go.Value.int Go.IntKind.u8 most)),
 ((5 : Nat), Option.some (Go.Value.pointer (Option.some (Go.Addr.mk g (0 : Nat) Option.none)))), ((7 : Nat), Option.some (Go.Value.pointer (Option.some (Go.Addr.mk m (0 : Nat) Option.none)))),
 ((8 : Nat), Option.some (Go.Value.int Go.IntKind.u32 w)), ((10 : Nat), Option.some (Go.Value.slice (Go.AI.Sl.a s29) (Go.AI.Sl.n s29) (1 : Nat))),
 ((11 : Nat), Option.some (Go.Value.int Go.IntKind.i64 (Go.IntKind.wrap Go.IntKind.i64 (i + (1 : Int)))))]
 σ30)) := by
 intros
 kernel_rfl

theorem s13 : ∀ (T : Go.AI.Ct) (w h : Int) (inputsa : Option Go.Addr) (inputsn : Nat) (σ : Go.AI.AS) (K : Go.Value → Go.AI.AS → Prop),
 Go.AI.fw Go.Proofs.Tryz.prog Go.AI.hintsS T (13 : Nat) [Go.Value.int Go.IntKind.i64 w, Go.Value.int Go.IntKind.i64 h, Go.Value.slice inputsa inputsn (2 : Nat)] σ K =
 T (43 : Nat) [Go.Value.int Go.IntKind.i64 w, Go.Value.int Go.IntKind.i64 h] σ fun (v0 : Go.Value) (σ1 : Go.AI.AS) ↦
 Go.AI.tTup v0 fun (l2 : List Go.Value) ↦
 Go.AI.pSome l2[(0 : Nat)]? fun (u3 : Go.Value) ↦
 Go.AI.tP u3 fun (b4 : Option Go.Addr) ↦
 Go.AI.tTup v0 fun (l5 : List Go.Value) ↦
 Go.AI.pSome l5[(1 : Nat)]? fun (u6 : Go.Value) ↦
 Go.AI.tI Go.IntKind.i64 u6 fun (n7 : Int) ↦
 Go.AI.bmatch (n7 != (0 : Int)) (K (Go.Value.tuple (Array.mk [Go.Value.pointer Option.none, Go.Value.int Go.IntKind.i64 n7])) σ1)
 (T (44 : Nat) [Go.Value.int Go.IntKind.i64 (1048576 : Int)] σ1 fun (v8 : Go.Value) (σ9 : Go.AI.AS) ↦
 Go.AI.tTup v8 fun (l10 : List Go.Value) ↦
 Go.AI.pSome l10[(0 : Nat)]? fun (u11 : Go.Value) ↦
 Go.AI.tP u11 fun (b12 : Option Go.Addr) ↦
 Go.AI.tTup v8 fun (l13 : List Go.Value) ↦
 Go.AI.pSome l13[(1 : Nat)]? fun (u14 : Go.Value) ↦
 Go.AI.tI Go.IntKind.i64 u14 fun (n15 : Int) ↦
 Go.AI.newAt σ9 (Go.AI.AObj.map [] (0 : Nat)) fun (i16 : Nat) (σ17 : Go.AI.AS) ↦
 Go.AI.newAt σ17
 (Go.AI.AObj.row Go.AI.RK.plain
 [Go.Value.int Go.IntKind.u32 (0 : Int), Go.Value.map (Option.some i16), Go.Value.pointer b4, Go.Value.pointer b12, Go.Value.slice Option.none (0 : Nat) (0 : Nat),
 Go.Value.slice Option.none (0 : Nat) (0 : Nat), Go.Value.int Go.IntKind.u32 (0 : Int), Go.Value.bool Bool.false])
 fun (i18 : Nat) (σ19 : Go.AI.AS) ↦
 Go.AI.ALoop (Go.AI.fl Go.Proofs.Tryz.prog Go.AI.hintsS T (13 : Nat) [Bool.true, Bool.true, Bool.true, Bool.true, Bool.true, Bool.false, Bool.true, Bool.false] [] K)
 [((12 : Nat), Option.some (Go.Value.pointer (Option.some (Go.Addr.mk i18 (0 : Nat) Option.none)))), ((33 : Nat), Option.some (Go.Value.slice inputsa inputsn (2 : Nat))),
 ((34 : Nat), Option.some (Go.Value.int Go.IntKind.i64 (↑inputsn : Int))), ((35 : Nat), Option.some (Go.Value.int Go.IntKind.i64 (0 : Int)))]
 σ19) := by
 intros
 kernel_rfl

theorem s13l : ∀ (T : Go.AI.Ct) (g : Nat) (r33a_1 : Option Go.Addr) (r33n_1 r33e_1 : Nat) (r34_1 r35_1 : Int) (X : Go.AI.Regs → Go.AI.AS → Prop) (σ : Go.AI.AS) (K : Go.Value → Go.AI.AS → Prop),
 Go.AI.fl Go.Proofs.Tryz.prog Go.AI.hintsS T (13 : Nat) [Bool.true, Bool.true, Bool.true, Bool.true, Bool.true, Bool.false, Bool.true, Bool.false] [] K X
 [((12 : Nat), Option.some (Go.Value.pointer (Option.some (Go.Addr.mk g (0 : Nat) Option.none)))), ((33 : Nat), Option.some (Go.Value.slice r33a_1 r33n_1 r33e_1)),
 ((34 : Nat), Option.some (Go.Value.int Go.IntKind.i64 r34_1)), ((35 : Nat), Option.some (Go.Value.int Go.IntKind.i64 r35_1))]
 σ =
 Go.AI.bmatch (Decidable.decide (r35_1 < r34_1))
 (Go.AI.req ((0 : Int) ≤ r35_1)
 (Go.AI.req (r35_1 < (↑r33n_1 : Int))
 (Go.AI.pSome r33a_1 fun (a0 : Go.Addr) ↦
 Go.AI.req (r33e_1 = Go.AI.szOf Go.Proofs.Tryz.prog (70 : Nat))
 (Go.AI.lds σ (Go.AI.aadd a0 (Int.toNat r35_1 * Go.AI.szOf Go.Proofs.Tryz.prog (70 : Nat))) (2 : Nat) fun (l1 : List Go.Value) ↦
 Go.AI.tCons l1 fun (v2 : Go.Value) (l3 : List Go.Value) ↦
 Go.AI.tB v2 fun (b4 : Bool) ↦
 Go.AI.tCons l3 fun (v5 : Go.Value) (l6 : List Go.Value) ↦
 Go.AI.tL (1 : Nat) v5 fun (s7 : Go.AI.Sl) ↦
 Go.AI.tNil l6
 (Go.AI.newAt σ (Go.AI.AObj.row Go.AI.RK.plain [Go.Value.bool Bool.false, Go.Value.slice Option.none (0 : Nat) (0 : Nat)]) fun (i8 : Nat) (σ9 : Go.AI.AS) ↦
 Go.AI.puts σ9 (Go.Addr.mk i8 (0 : Nat) Option.none) [Go.Value.bool b4, Go.Value.slice (Go.AI.Sl.a s7) (Go.AI.Sl.n s7) (1 : Nat)] fun (σ10 : Go.AI.AS) ↦
 Go.AI.ldc σ10 (Go.Addr.mk g ((0 : Nat) + (4 : Nat)) Option.none) fun (v11 : Go.Value) ↦
 Go.AI.tL (2 : Nat) v11 fun (s12 : Go.AI.Sl) ↦
 Go.AI.ldc σ10 (Go.Addr.mk i8 (0 : Nat) Option.none) fun (v13 : Go.Value) ↦
 Go.AI.tB v13 fun (b14 : Bool) ↦
 Go.AI.ldc σ10 (Go.Addr.mk i8 ((0 : Nat) + (1 : Nat)) Option.none) fun (v15 : Go.Value) ↦
 Go.AI.tL (1 : Nat) v15 fun (s16 : Go.AI.Sl) ↦
 T (45 : Nat) [Go.Value.slice (Go.AI.Sl.a s16) (Go.AI.Sl.n s16) (1 : Nat)] σ10 fun (v17 : Go.Value) (σ18 : Go.AI.AS) ↦
 Go.AI.tL (1 : Nat) v17 fun (s19 : Go.AI.Sl) ↦
 Go.AI.ldc σ18 (Go.Addr.mk i8 (0 : Nat) Option.none) fun (v20 : Go.Value) ↦
 Go.AI.tB v20 fun (b21 : Bool) ↦
 Go.Value.bool b14 = Go.Value.bool b21 ∧
 Go.AI.ldc σ18 (Go.Addr.mk g ((0 : Nat) + (4 : Nat)) Option.none) fun (v22 : Go.Value) ↦
 Go.AI.tL (2 : Nat) v22 fun (s23 : Go.AI.Sl) ↦
 Go.Value.slice (Go.AI.Sl.a s12) (Go.AI.Sl.n s12) (Go.AI.szOf Go.Proofs.Tryz.prog (70 : Nat)) =
 Go.Value.slice (Go.AI.Sl.a s23) (Go.AI.Sl.n s23) (Go.AI.szOf Go.Proofs.Tryz.prog (70 : Nat)) ∧
 Go.AI.newAt σ18 (Go.AI.AObj.row Go.AI.RK.rw [Go.Value.bool b14, Go.Value.slice (Go.AI.Sl.a s19) (Go.AI.Sl.n s19) (1 : Nat)]) fun (i24 : Nat) (σ25 : Go.AI.AS) ↦
 Go.AI.ldc σ25 (Go.Addr.mk g ((0 : Nat) + (4 : Nat)) Option.none) fun (v26 : Go.Value) ↦
 Go.AI.tL (2 : Nat) v26 fun (s27 : Go.AI.Sl) ↦
 Go.Value.slice (Go.AI.Sl.a s12) (Go.AI.Sl.n s12) (Go.AI.szOf Go.Proofs.Tryz.prog (70 : Nat)) =
 Go.Value.slice (Go.AI.Sl.a s27) (Go.AI.Sl.n s27) (Go.AI.szOf Go.Proofs.Tryz.prog (70 : Nat)) ∧
 Go.AI.lds σ25 (Go.Addr.mk i24 (0 : Nat) Option.none) (2 : Nat) fun (l28 : List Go.Value) ↦
 Go.AI.appendTo σ25 (2 : Nat) (32 : Nat) (Go.AI.Sl.mk (Go.AI.Sl.a s12) (Go.AI.Sl.n s12)) l28 (1 : Nat) fun (s29 : Go.AI.Sl) (σ30 : Go.AI.AS) ↦
 Go.AI.put1 σ30 (Go.Addr.mk g ((0 : Nat) + (4 : Nat)) Option.none) (Go.Value.slice (Go.AI.Sl.a s29) (Go.AI.Sl.n s29) (2 : Nat))
 fun (σ31 : Go.AI.AS) ↦
 X
 [((12 : Nat), Option.some (Go.Value.pointer (Option.some (Go.Addr.mk g (0 : Nat) Option.none)))),
 ((33 : Nat), Option.some (Go.Value.slice r33a_1 r33n_1 r33e_1)), ((34 : Nat), Option.some (Go.Value.int Go.IntKind.i64 r34_1)),
 ((35 : Nat), Option.some (Go.Value.int Go.IntKind.i64 (Go.IntKind.wrap Go.IntKind.i64 (r35_1 + (1 : Int)))))]
 σ31)))))
 (K (Go.Value.tuple (Array.mk [Go.Value.pointer (Option.some (Go.Addr.mk g (0 : Nat) Option.none)), Go.Value.int Go.IntKind.i64 (0 : Int)])) σ) := by
 intros
 kernel_rfl

theorem s27 : ∀ (T : Go.AI.Ct) (la : Option Go.Addr) (ln : Nat) (σ : Go.AI.AS) (K : Go.Value → Go.AI.AS → Prop),
 Go.AI.fw Go.Proofs.Tryz.prog Go.AI.hintsS T (27 : Nat) [Go.Value.slice la ln (2 : Nat)] σ K =
 Go.AI.ALoop (Go.AI.fl Go.Proofs.Tryz.prog Go.AI.hintsS T (27 : Nat) [Bool.true, Bool.true, Bool.false, Bool.true, Bool.false] [] K)
 [((0 : Nat), Option.some (Go.Value.slice la ln (2 : Nat))), ((3 : Nat), Option.some (Go.Value.int Go.IntKind.i64 (0 : Int))), ((4 : Nat), Option.some (Go.Value.int Go.IntKind.i64 (0 : Int)))] σ := by
 intros
 kernel_rfl

theorem s27l : ∀ (T : Go.AI.Ct) (la : Option Go.Addr) (ln le : Nat) (n i : Int) (X : Go.AI.Regs → Go.AI.AS → Prop) (σ : Go.AI.AS) (K : Go.Value → Go.AI.AS → Prop),
 Go.AI.fl Go.Proofs.Tryz.prog Go.AI.hintsS T (27 : Nat) [Bool.true, Bool.true, Bool.false, Bool.true, Bool.false] [] K X
 [((0 : Nat), Option.some (Go.Value.slice la ln le)), ((3 : Nat), Option.some (Go.Value.int Go.IntKind.i64 n)), ((4 : Nat), Option.some (Go.Value.int Go.IntKind.i64 i))] σ =
 Go.AI.bmatch (Decidable.decide (i < (↑ln : Int)))
 (Go.AI.bmatch (Decidable.decide (i ≤ (80 : Int)))
 (Go.AI.req ((0 : Int) ≤ i)
 (Go.AI.req (i < (↑ln : Int))
 (Go.AI.pSome la fun (a0 : Go.Addr) ↦
 Go.AI.req (le = Go.AI.szOf Go.Proofs.Tryz.prog (70 : Nat))
 (Go.AI.ldc σ
 (Go.Addr.mk (Go.Addr.block (Go.AI.aadd a0 (Int.toNat i * Go.AI.szOf Go.Proofs.Tryz.prog (70 : Nat))))
 (Go.Addr.off (Go.AI.aadd a0 (Int.toNat i * Go.AI.szOf Go.Proofs.Tryz.prog (70 : Nat))) + (1 : Nat)) Option.none)
 fun (v1 : Go.Value) ↦
 Go.AI.tL (1 : Nat) v1 fun (s2 : Go.AI.Sl) ↦
 X
 [((0 : Nat), Option.some (Go.Value.slice la ln le)), ((3 : Nat), Option.some (Go.Value.int Go.IntKind.i64 (Go.IntKind.wrap Go.IntKind.i64 (n + (↑(Go.AI.Sl.n s2) : Int))))),
 ((4 : Nat), Option.some (Go.Value.int Go.IntKind.i64 (Go.IntKind.wrap Go.IntKind.i64 (i + (1 : Int)))))]
 σ))))
 (Go.AI.bmatch (Decidable.decide ((↑ln : Int) > (80 : Int))) (K (Go.Value.bool Bool.true) σ) (K (Go.Value.bool (Decidable.decide (n > (2000 : Int)))) σ)))
 (Go.AI.bmatch (Decidable.decide ((↑ln : Int) > (80 : Int))) (K (Go.Value.bool Bool.true) σ) (K (Go.Value.bool (Decidable.decide (n > (2000 : Int)))) σ)) := by
 intros
 kernel_rfl

end Go.AI
end
section
/- The conditions ahead of the calls of the program's functions, reckoned as far as they go (equations that the kernel checks); no condition. -/
set_option maxRecDepth 1000000
set_option linter.unusedVariables false
namespace Go.AI
open Go.Proofs
theorem s16la : ∀ (T : Go.AI.Ct) (g m ar : Nat) (σ : Go.AI.AS) (K : Go.Value → Go.AI.AS → Prop),
 Go.AI.fw Go.Proofs.Tryz.prog Go.AI.hintsS T (16 : Nat)
 [Go.Value.pointer (Option.some (Go.Addr.mk g (0 : Nat) Option.none)), Go.Value.iface (29 : Go.TypeId) (Go.Value.pointer (Option.some (Go.Addr.mk m (0 : Nat) Option.none))),
 Go.Value.int Go.IntKind.u32 (208 : Int), Go.Value.slice (Option.some (Go.Addr.mk ar (0 : Nat) Option.none)) (4 : Nat) (1 : Nat)]
 σ K =
 Go.AI.ldc σ (Go.Addr.mk g ((0 : Nat) + (7 : Nat)) Option.none) fun (v0 : Go.Value) ↦
 Go.AI.tB v0 fun (b1 : Bool) ↦
 Go.AI.bmatch b1 (K (Go.Value.tuple (Array.mk [Go.Value.int Go.IntKind.u32 (0 : Int), Go.Value.int Go.IntKind.i64 (160 : Int)])) σ)
 (T (46 : Nat) [Go.Value.int Go.IntKind.u32 (208 : Int)] σ fun (v2 : Go.Value) (σ3 : Go.AI.AS) ↦
 Go.AI.tI Go.IntKind.i64 v2 fun (n4 : Int) ↦
 Go.AI.bmatch (n4 != (↑(4 : Nat) : Int)) (K (Go.Value.tuple (Array.mk [Go.Value.int Go.IntKind.u32 (0 : Int), Go.Value.int Go.IntKind.i64 (162 : Int)])) σ3)
 (Go.AI.newAt σ3
 (Go.AI.AObj.row Go.AI.RK.plain
 [Go.Value.pointer (Option.some (Go.Addr.mk g (0 : Nat) Option.none)), Go.Value.iface (29 : Nat) (Go.Value.pointer (Option.some (Go.Addr.mk m (0 : Nat) Option.none))),
 Go.Value.slice (Option.some (Go.Addr.mk ar (0 : Nat) Option.none)) (4 : Nat) (1 : Nat)])
 fun (i5 : Nat) (σ6 : Go.AI.AS) ↦
 T (52 : Nat) [Go.Value.pointer (Option.some (Go.Addr.mk i5 (0 : Nat) Option.none)), Go.Value.int Go.IntKind.u32 (208 : Int)] σ6 fun (v7 : Go.Value) (σ8 : Go.AI.AS) ↦
 Go.AI.tTup v7 fun (l9 : List Go.Value) ↦
 Go.AI.pSome l9[(0 : Nat)]? fun (u10 : Go.Value) ↦
 Go.AI.tI Go.IntKind.u32 u10 fun (n11 : Int) ↦
 Go.AI.tTup v7 fun (l12 : List Go.Value) ↦
 Go.AI.pSome l12[(1 : Nat)]? fun (u13 : Go.Value) ↦
 Go.AI.tI Go.IntKind.i64 u13 fun (n14 : Int) ↦ K (Go.Value.tuple (Array.mk [Go.Value.int Go.IntKind.u32 n11, Go.Value.int Go.IntKind.i64 n14])) σ8)) := by
 intros
 kernel_rfl

theorem s16se : ∀ (T : Go.AI.Ct) (g m ar : Nat) (σ : Go.AI.AS) (K : Go.Value → Go.AI.AS → Prop),
 Go.AI.fw Go.Proofs.Tryz.prog Go.AI.hintsS T (16 : Nat)
 [Go.Value.pointer (Option.some (Go.Addr.mk g (0 : Nat) Option.none)), Go.Value.iface (29 : Go.TypeId) (Go.Value.pointer (Option.some (Go.Addr.mk m (0 : Nat) Option.none))),
 Go.Value.int Go.IntKind.u32 (192 : Int), Go.Value.slice (Option.some (Go.Addr.mk ar (0 : Nat) Option.none)) (1 : Nat) (1 : Nat)]
 σ K =
 Go.AI.ldc σ (Go.Addr.mk g ((0 : Nat) + (7 : Nat)) Option.none) fun (v0 : Go.Value) ↦
 Go.AI.tB v0 fun (b1 : Bool) ↦
 Go.AI.bmatch b1 (K (Go.Value.tuple (Array.mk [Go.Value.int Go.IntKind.u32 (0 : Int), Go.Value.int Go.IntKind.i64 (160 : Int)])) σ)
 (T (46 : Nat) [Go.Value.int Go.IntKind.u32 (192 : Int)] σ fun (v2 : Go.Value) (σ3 : Go.AI.AS) ↦
 Go.AI.tI Go.IntKind.i64 v2 fun (n4 : Int) ↦
 Go.AI.bmatch (n4 != (↑(1 : Nat) : Int)) (K (Go.Value.tuple (Array.mk [Go.Value.int Go.IntKind.u32 (0 : Int), Go.Value.int Go.IntKind.i64 (162 : Int)])) σ3)
 (Go.AI.newAt σ3
 (Go.AI.AObj.row Go.AI.RK.plain
 [Go.Value.pointer (Option.some (Go.Addr.mk g (0 : Nat) Option.none)), Go.Value.iface (29 : Nat) (Go.Value.pointer (Option.some (Go.Addr.mk m (0 : Nat) Option.none))),
 Go.Value.slice (Option.some (Go.Addr.mk ar (0 : Nat) Option.none)) (1 : Nat) (1 : Nat)])
 fun (i5 : Nat) (σ6 : Go.AI.AS) ↦
 T (52 : Nat) [Go.Value.pointer (Option.some (Go.Addr.mk i5 (0 : Nat) Option.none)), Go.Value.int Go.IntKind.u32 (192 : Int)] σ6 fun (v7 : Go.Value) (σ8 : Go.AI.AS) ↦
 Go.AI.tTup v7 fun (l9 : List Go.Value) ↦
 Go.AI.pSome l9[(0 : Nat)]? fun (u10 : Go.Value) ↦
 Go.AI.tI Go.IntKind.u32 u10 fun (n11 : Int) ↦
 Go.AI.tTup v7 fun (l12 : List Go.Value) ↦
 Go.AI.pSome l12[(1 : Nat)]? fun (u13 : Go.Value) ↦
 Go.AI.tI Go.IntKind.i64 u13 fun (n14 : Int) ↦ K (Go.Value.tuple (Array.mk [Go.Value.int Go.IntKind.u32 n11, Go.Value.int Go.IntKind.i64 n14])) σ8)) := by
 intros
 kernel_rfl

theorem s52la : ∀ (T : Go.AI.Ct) (c : Nat) (σ : Go.AI.AS) (K : Go.Value → Go.AI.AS → Prop),
 Go.AI.fw Go.Proofs.Tryz.prog Go.AI.hintsS T (52 : Nat) [Go.Value.pointer (Option.some (Go.Addr.mk c (0 : Nat) Option.none)), Go.Value.int Go.IntKind.u32 (208 : Int)] σ K =
 Go.AI.ldc σ (Go.Addr.mk c (0 : Nat) Option.none) fun (v0 : Go.Value) ↦
 Go.AI.tP v0 fun (b1 : Option Go.Addr) ↦
 Go.AI.ldc σ (Go.Addr.mk c ((0 : Nat) + (2 : Nat)) Option.none) fun (v2 : Go.Value) ↦
 Go.AI.tL (1 : Nat) v2 fun (s3 : Go.AI.Sl) ↦
 Go.AI.req ((0 : Int) < (↑(Go.AI.Sl.n s3) : Int))
 (Go.AI.pSome (Go.AI.Sl.a s3) fun (a4 : Go.Addr) ↦
 Go.AI.ldc σ (Go.AI.aadd a4 (Int.toNat (0 : Int) * Go.AI.szOf Go.Proofs.Tryz.prog (32 : Nat))) fun (v5 : Go.Value) ↦
 Go.AI.tI Go.IntKind.u32 v5 fun (n6 : Int) ↦
 T (54 : Nat) [Go.Value.pointer b1, Go.Value.int Go.IntKind.u32 n6, Go.Value.int Go.IntKind.i64 (1 : Int)] σ fun (v7 : Go.Value) (σ8 : Go.AI.AS) ↦
 Go.AI.tP v7 fun (b9 : Option Go.Addr) ↦
 Go.AI.ptrEq σ8 b9 Option.none fun (r10 : Bool) ↦
 Go.AI.bmatch r10 (K (Go.Value.tuple (Array.mk [Go.Value.int Go.IntKind.u32 (0 : Int), Go.Value.int Go.IntKind.i64 (0 : Int)])) σ8)
 (Go.AI.pSome b9 fun (a11 : Go.Addr) ↦
 Go.AI.ldc σ8 (Go.Addr.mk (Go.Addr.block a11) (Go.Addr.off a11 + (9 : Nat)) Option.none) fun (v12 : Go.Value) ↦
 Go.AI.tI Go.IntKind.i64 v12 fun (n13 : Int) ↦
 Go.AI.bmatch (n13 == (0 : Int))
 (Go.AI.pSome b9 fun (a14 : Go.Addr) ↦
 Go.AI.ldc σ8 (Go.Addr.mk (Go.Addr.block a14) (Go.Addr.off a14 + (3 : Nat)) Option.none) fun (v15 : Go.Value) ↦
 Go.AI.tI Go.IntKind.u32 v15 fun (n16 : Int) ↦
 Go.AI.bmatch (n16 == (3 : Int))
 (Go.AI.ldc σ8 (Go.Addr.mk c ((0 : Nat) + (2 : Nat)) Option.none) fun (v17 : Go.Value) ↦
 Go.AI.tL (1 : Nat) v17 fun (s18 : Go.AI.Sl) ↦
 Go.AI.req ((1 : Int) < (↑(Go.AI.Sl.n s18) : Int))
 (Go.AI.pSome (Go.AI.Sl.a s18) fun (a19 : Go.Addr) ↦
 Go.AI.ldc σ8 (Go.AI.aadd a19 (Int.toNat (1 : Int) * Go.AI.szOf Go.Proofs.Tryz.prog (32 : Nat))) fun (v20 : Go.Value) ↦
 Go.AI.tI Go.IntKind.u32 v20 fun (n21 : Int) ↦
 Go.AI.ldc σ8 (Go.Addr.mk c ((0 : Nat) + (2 : Nat)) Option.none) fun (v22 : Go.Value) ↦
 Go.AI.tL (1 : Nat) v22 fun (s23 : Go.AI.Sl) ↦
 Go.AI.req ((2 : Int) < (↑(Go.AI.Sl.n s23) : Int))
 (Go.AI.pSome (Go.AI.Sl.a s23) fun (a24 : Go.Addr) ↦
 Go.AI.ldc σ8 (Go.AI.aadd a24 (Int.toNat (2 : Int) * Go.AI.szOf Go.Proofs.Tryz.prog (32 : Nat))) fun (v25 : Go.Value) ↦
 Go.AI.tI Go.IntKind.u32 v25 fun (n26 : Int) ↦
 Go.AI.pSome b9 fun (a27 : Go.Addr) ↦
 Go.AI.put1 σ8 (Go.Addr.mk (Go.Addr.block a27) (Go.Addr.off a27 + (9 : Nat)) Option.none) (Go.Value.int Go.IntKind.i64 (1 : Int))
 fun (σ28 : Go.AI.AS) ↦
 Go.AI.pSome b9 fun (a29 : Go.Addr) ↦
 Go.AI.put1 σ28 (Go.Addr.mk (Go.Addr.block a29) (Go.Addr.off a29 + (10 : Nat)) Option.none) (Go.Value.int Go.IntKind.u32 n21)
 fun (σ30 : Go.AI.AS) ↦
 Go.AI.pSome b9 fun (a31 : Go.Addr) ↦
 Go.AI.put1 σ30 (Go.Addr.mk (Go.Addr.block a31) (Go.Addr.off a31 + (11 : Nat)) Option.none) (Go.Value.int Go.IntKind.u32 n26)
 fun (σ32 : Go.AI.AS) ↦ K (Go.Value.tuple (Array.mk [Go.Value.int Go.IntKind.u32 (0 : Int), Go.Value.int Go.IntKind.i64 (0 : Int)])) σ32)))
 (Go.AI.pSome b9 fun (a33 : Go.Addr) ↦
 Go.AI.ldc σ8 (Go.Addr.mk (Go.Addr.block a33) (Go.Addr.off a33 + (3 : Nat)) Option.none) fun (v34 : Go.Value) ↦
 Go.AI.tI Go.IntKind.u32 v34 fun (n35 : Int) ↦
 Go.AI.bmatch (n35 == (4 : Int))
 (Go.AI.ldc σ8 (Go.Addr.mk c ((0 : Nat) + (2 : Nat)) Option.none) fun (v36 : Go.Value) ↦
 Go.AI.tL (1 : Nat) v36 fun (s37 : Go.AI.Sl) ↦
 Go.AI.req ((1 : Int) < (↑(Go.AI.Sl.n s37) : Int))
 (Go.AI.pSome (Go.AI.Sl.a s37) fun (a38 : Go.Addr) ↦
 Go.AI.ldc σ8 (Go.AI.aadd a38 (Int.toNat (1 : Int) * Go.AI.szOf Go.Proofs.Tryz.prog (32 : Nat))) fun (v39 : Go.Value) ↦
 Go.AI.tI Go.IntKind.u32 v39 fun (n40 : Int) ↦
 Go.AI.ldc σ8 (Go.Addr.mk c ((0 : Nat) + (2 : Nat)) Option.none) fun (v41 : Go.Value) ↦
 Go.AI.tL (1 : Nat) v41 fun (s42 : Go.AI.Sl) ↦
 Go.AI.req ((2 : Int) < (↑(Go.AI.Sl.n s42) : Int))
 (Go.AI.pSome (Go.AI.Sl.a s42) fun (a43 : Go.Addr) ↦
 Go.AI.ldc σ8 (Go.AI.aadd a43 (Int.toNat (2 : Int) * Go.AI.szOf Go.Proofs.Tryz.prog (32 : Nat))) fun (v44 : Go.Value) ↦
 Go.AI.tI Go.IntKind.u32 v44 fun (n45 : Int) ↦
 Go.AI.pSome b9 fun (a46 : Go.Addr) ↦
 Go.AI.put1 σ8 (Go.Addr.mk (Go.Addr.block a46) (Go.Addr.off a46 + (9 : Nat)) Option.none) (Go.Value.int Go.IntKind.i64 (1 : Int))
 fun (σ47 : Go.AI.AS) ↦
 Go.AI.pSome b9 fun (a48 : Go.Addr) ↦
 Go.AI.put1 σ47 (Go.Addr.mk (Go.Addr.block a48) (Go.Addr.off a48 + (10 : Nat)) Option.none) (Go.Value.int Go.IntKind.u32 n40)
 fun (σ49 : Go.AI.AS) ↦
 Go.AI.pSome b9 fun (a50 : Go.Addr) ↦
 Go.AI.put1 σ49 (Go.Addr.mk (Go.Addr.block a50) (Go.Addr.off a50 + (11 : Nat)) Option.none) (Go.Value.int Go.IntKind.u32 n45)
 fun (σ51 : Go.AI.AS) ↦
 K (Go.Value.tuple (Array.mk [Go.Value.int Go.IntKind.u32 (0 : Int), Go.Value.int Go.IntKind.i64 (0 : Int)])) σ51)))
 (K (Go.Value.tuple (Array.mk [Go.Value.int Go.IntKind.u32 (0 : Int), Go.Value.int Go.IntKind.i64 (0 : Int)])) σ8)))
 (K (Go.Value.tuple (Array.mk [Go.Value.int Go.IntKind.u32 (0 : Int), Go.Value.int Go.IntKind.i64 (0 : Int)])) σ8))) := by
 intros
 kernel_rfl

theorem s52se : ∀ (T : Go.AI.Ct) (c : Nat) (σ : Go.AI.AS) (K : Go.Value → Go.AI.AS → Prop),
 Go.AI.fw Go.Proofs.Tryz.prog Go.AI.hintsS T (52 : Nat) [Go.Value.pointer (Option.some (Go.Addr.mk c (0 : Nat) Option.none)), Go.Value.int Go.IntKind.u32 (192 : Int)] σ K =
 T (103 : Nat) [Go.Value.pointer (Option.some (Go.Addr.mk c (0 : Nat) Option.none))] σ fun (v0 : Go.Value) (σ1 : Go.AI.AS) ↦
 Go.AI.tTup v0 fun (l2 : List Go.Value) ↦
 Go.AI.pSome l2[(0 : Nat)]? fun (u3 : Go.Value) ↦
 Go.AI.tI Go.IntKind.u32 u3 fun (n4 : Int) ↦
 Go.AI.tTup v0 fun (l5 : List Go.Value) ↦
 Go.AI.pSome l5[(1 : Nat)]? fun (u6 : Go.Value) ↦ Go.AI.tI Go.IntKind.i64 u6 fun (n7 : Int) ↦ K (Go.Value.tuple (Array.mk [Go.Value.int Go.IntKind.u32 n4, Go.Value.int Go.IntKind.i64 n7])) σ1 := by
 intros
 kernel_rfl

end Go.AI
end
