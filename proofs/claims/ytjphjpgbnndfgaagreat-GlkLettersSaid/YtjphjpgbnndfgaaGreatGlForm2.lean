/- The conditions ahead of the calls of the program's functions, reckoned as far as they go (equations that the kernel checks); no condition. -/
import Derived.Test.YtjphjpgbnndfgaaGreatGlSoft
import Derived.Test.YtjphjpgbnndfgaaGreatAISep
set_option maxRecDepth 1000000
set_option linter.unusedVariables false
namespace Go.AI
open Go.Proofs
theorem s3 : ∀ (T : Go.AI.Ct) (a c : Int) (σ : Go.AI.AS) (K : Go.Value → Go.AI.AS → Prop),
  Go.AI.fw Go.Proofs.Tryz.prog Go.AI.hintsS T (3 : Nat) [Go.Value.int Go.IntKind.u32 a, Go.Value.int Go.IntKind.u32 c] σ K =
    T (5 : Nat) [Go.Value.int Go.IntKind.i64 (1 : Int), Go.Value.int Go.IntKind.i64 (1 : Int), Go.Value.slice Option.none (0 : Nat) (0 : Nat)] σ fun (v0 : Go.Value) (σ1 : Go.AI.AS) ↦
      Go.AI.tTup v0 fun (l2 : List Go.Value) ↦
        Go.AI.pSome l2[(0 : Nat)]? fun (u3 : Go.Value) ↦
          Go.AI.tP u3 fun (b4 : Option Go.Addr) ↦
            Go.AI.tTup v0 fun (l5 : List Go.Value) ↦
              Go.AI.pSome l5[(1 : Nat)]? fun (u6 : Go.Value) ↦
                Go.AI.tI Go.IntKind.i64 u6 fun (n7 : Int) ↦
                  T (6 : Nat) [Go.Value.int Go.IntKind.i64 (1 : Int), Go.Value.int Go.IntKind.i64 (1 : Int), Go.Value.slice Option.none (0 : Nat) (0 : Nat)] σ1 fun (v8 : Go.Value) (σ9 : Go.AI.AS) ↦
                    Go.AI.tTup v8 fun (l10 : List Go.Value) ↦
                      Go.AI.pSome l10[(0 : Nat)]? fun (u11 : Go.Value) ↦
                        Go.AI.tP u11 fun (b12 : Option Go.Addr) ↦
                          Go.AI.tTup v8 fun (l13 : List Go.Value) ↦
                            Go.AI.pSome l13[(1 : Nat)]? fun (u14 : Go.Value) ↦
                              Go.AI.tI Go.IntKind.i64 u14 fun (n15 : Int) ↦
                                T (7 : Nat) [] σ9 fun (v16 : Go.Value) (σ17 : Go.AI.AS) ↦
                                  Go.AI.tP v16 fun (b18 : Option Go.Addr) ↦
                                    T (8 : Nat) [Go.Value.int Go.IntKind.i64 n7] σ17 fun (v19 : Go.Value) (σ20 : Go.AI.AS) ↦
                                      Go.AI.tI Go.IntKind.i64 v19 fun (n21 : Int) ↦
                                        Go.AI.bmatch (n21 != (0 : Int)) (K (Go.Value.bool Bool.false) σ20)
                                          (Go.AI.ptrEq σ20 b4 Option.none fun (r22 : Bool) ↦
                                            Go.AI.bmatch r22 (K (Go.Value.bool Bool.false) σ20)
                                              (Go.AI.newAt σ20 (Go.AI.AObj.row Go.AI.RK.rw [Go.Value.int Go.IntKind.u32 a, Go.Value.int Go.IntKind.u32 c]) fun (i23 : Nat) (σ24 : Go.AI.AS) ↦
                                                T (9 : Nat)
                                                  [Go.Value.pointer b4, Go.Value.iface (30 : Nat) (Go.Value.pointer b18), Go.Value.int Go.IntKind.u32 (4 : Int),
                                                    Go.Value.slice (Option.some (Go.Addr.mk i23 (0 : Nat) Option.none)) (2 : Nat) (1 : Nat)]
                                                  σ24 fun (v25 : Go.Value) (σ26 : Go.AI.AS) ↦
                                                  Go.AI.tTup v25 fun (l27 : List Go.Value) ↦
                                                    Go.AI.pSome l27[(0 : Nat)]? fun (u28 : Go.Value) ↦
                                                      Go.AI.tI Go.IntKind.u32 u28 fun (n29 : Int) ↦
                                                        Go.AI.tTup v25 fun (l30 : List Go.Value) ↦
                                                          Go.AI.pSome l30[(1 : Nat)]? fun (u31 : Go.Value) ↦
                                                            Go.AI.tI Go.IntKind.i64 u31 fun (n32 : Int) ↦
                                                              Go.AI.newAt σ26 (Go.AI.AObj.row Go.AI.RK.rw [Go.Value.int Go.IntKind.u32 a, Go.Value.int Go.IntKind.u32 c]) fun (i33 : Nat) (σ34 : Go.AI.AS) ↦
                                                                T (10 : Nat)
                                                                  [Go.Value.pointer b12, Go.Value.pointer b18, Go.Value.int Go.IntKind.u32 (4 : Int),
                                                                    Go.Value.slice (Option.some (Go.Addr.mk i33 (0 : Nat) Option.none)) (2 : Nat) (1 : Nat)]
                                                                  σ34 fun (v35 : Go.Value) (σ36 : Go.AI.AS) ↦
                                                                  Go.AI.tTup v35 fun (l37 : List Go.Value) ↦
                                                                    Go.AI.pSome l37[(0 : Nat)]? fun (u38 : Go.Value) ↦
                                                                      Go.AI.tI Go.IntKind.u32 u38 fun (n39 : Int) ↦
                                                                        Go.AI.tTup v35 fun (l40 : List Go.Value) ↦
                                                                          Go.AI.pSome l40[(1 : Nat)]? fun (u41 : Go.Value) ↦
                                                                            Go.AI.tI Go.IntKind.i64 u41 fun (n42 : Int) ↦
                                                                              Go.AI.newAt σ36 (Go.AI.AObj.row Go.AI.RK.rw [Go.Value.int Go.IntKind.u32 c]) fun (i43 : Nat) (σ44 : Go.AI.AS) ↦
                                                                                T (9 : Nat)
                                                                                  [Go.Value.pointer b4, Go.Value.iface (30 : Nat) (Go.Value.pointer b18), Go.Value.int Go.IntKind.u32 (160 : Int),
                                                                                    Go.Value.slice (Option.some (Go.Addr.mk i43 (0 : Nat) Option.none)) (1 : Nat) (1 : Nat)]
                                                                                  σ44 fun (v45 : Go.Value) (σ46 : Go.AI.AS) ↦
                                                                                  Go.AI.tTup v45 fun (l47 : List Go.Value) ↦
                                                                                    Go.AI.pSome l47[(0 : Nat)]? fun (u48 : Go.Value) ↦
                                                                                      Go.AI.tI Go.IntKind.u32 u48 fun (n49 : Int) ↦
                                                                                        Go.AI.tTup v45 fun (l50 : List Go.Value) ↦
                                                                                          Go.AI.pSome l50[(1 : Nat)]? fun (u51 : Go.Value) ↦
                                                                                            Go.AI.tI Go.IntKind.i64 u51 fun (n52 : Int) ↦
                                                                                              Go.AI.newAt σ46 (Go.AI.AObj.row Go.AI.RK.rw [Go.Value.int Go.IntKind.u32 c]) fun (i53 : Nat) (σ54 : Go.AI.AS) ↦
                                                                                                T (9 : Nat)
                                                                                                  [Go.Value.pointer b4, Go.Value.iface (30 : Nat) (Go.Value.pointer b18), Go.Value.int Go.IntKind.u32 (161 : Int),
                                                                                                    Go.Value.slice (Option.some (Go.Addr.mk i53 (0 : Nat) Option.none)) (1 : Nat) (1 : Nat)]
                                                                                                  σ54 fun (v55 : Go.Value) (σ56 : Go.AI.AS) ↦
                                                                                                  Go.AI.tTup v55 fun (l57 : List Go.Value) ↦
                                                                                                    Go.AI.pSome l57[(0 : Nat)]? fun (u58 : Go.Value) ↦
                                                                                                      Go.AI.tI Go.IntKind.u32 u58 fun (n59 : Int) ↦
                                                                                                        Go.AI.tTup v55 fun (l60 : List Go.Value) ↦
                                                                                                          Go.AI.pSome l60[(1 : Nat)]? fun (u61 : Go.Value) ↦
                                                                                                            Go.AI.tI Go.IntKind.i64 u61 fun (n62 : Int) ↦
                                                                                                              Go.AI.newAt σ56 (Go.AI.AObj.row Go.AI.RK.rw [Go.Value.int Go.IntKind.u32 c])
                                                                                                                fun (i63 : Nat) (σ64 : Go.AI.AS) ↦
                                                                                                                T (10 : Nat)
                                                                                                                  [Go.Value.pointer b12, Go.Value.pointer b18, Go.Value.int Go.IntKind.u32 (160 : Int),
                                                                                                                    Go.Value.slice (Option.some (Go.Addr.mk i63 (0 : Nat) Option.none)) (1 : Nat) (1 : Nat)]
                                                                                                                  σ64 fun (v65 : Go.Value) (σ66 : Go.AI.AS) ↦
                                                                                                                  Go.AI.tTup v65 fun (l67 : List Go.Value) ↦
                                                                                                                    Go.AI.pSome l67[(0 : Nat)]? fun (u68 : Go.Value) ↦
                                                                                                                      Go.AI.tI Go.IntKind.u32 u68 fun (n69 : Int) ↦
                                                                                                                        Go.AI.tTup v65 fun (l70 : List Go.Value) ↦
                                                                                                                          Go.AI.pSome l70[(1 : Nat)]? fun (u71 : Go.Value) ↦
                                                                                                                            Go.AI.tI Go.IntKind.i64 u71 fun (n72 : Int) ↦
                                                                                                                              Go.AI.newAt σ66 (Go.AI.AObj.row Go.AI.RK.rw [Go.Value.int Go.IntKind.u32 c])
                                                                                                                                fun (i73 : Nat) (σ74 : Go.AI.AS) ↦
                                                                                                                                T (10 : Nat)
                                                                                                                                  [Go.Value.pointer b12, Go.Value.pointer b18, Go.Value.int Go.IntKind.u32 (161 : Int),
                                                                                                                                    Go.Value.slice (Option.some (Go.Addr.mk i73 (0 : Nat) Option.none)) (1 : Nat) (1 : Nat)]
                                                                                                                                  σ74 fun (v75 : Go.Value) (σ76 : Go.AI.AS) ↦
                                                                                                                                  Go.AI.tTup v75 fun (l77 : List Go.Value) ↦
                                                                                                                                    Go.AI.pSome l77[(0 : Nat)]? fun (u78 : Go.Value) ↦
                                                                                                                                      Go.AI.tI Go.IntKind.u32 u78 fun (n79 : Int) ↦
                                                                                                                                        Go.AI.tTup v75 fun (l80 : List Go.Value) ↦
                                                                                                                                          Go.AI.pSome l80[(1 : Nat)]? fun (u81 : Go.Value) ↦
                                                                                                                                            Go.AI.tI Go.IntKind.i64 u81 fun (n82 : Int) ↦
                                                                                                                                              Go.AI.newAt σ76 (Go.AI.AObj.row Go.AI.RK.rw [Go.Value.int Go.IntKind.u32 n49])
                                                                                                                                                fun (i83 : Nat) (σ84 : Go.AI.AS) ↦
                                                                                                                                                T (9 : Nat)
                                                                                                                                                  [Go.Value.pointer b4, Go.Value.iface (30 : Nat) (Go.Value.pointer b18),
                                                                                                                                                    Go.Value.int Go.IntKind.u32 (161 : Int),
                                                                                                                                                    Go.Value.slice (Option.some (Go.Addr.mk i83 (0 : Nat) Option.none))
                                                                                                                                                      (1 : Nat) (1 : Nat)]
                                                                                                                                                  σ84 fun (v85 : Go.Value) (σ86 : Go.AI.AS) ↦
                                                                                                                                                  Go.AI.tTup v85 fun (l87 : List Go.Value) ↦
                                                                                                                                                    Go.AI.pSome l87[(0 : Nat)]? fun (u88 : Go.Value) ↦
                                                                                                                                                      Go.AI.tI Go.IntKind.u32 u88 fun (n89 : Int) ↦
                                                                                                                                                        Go.AI.tTup v85 fun (l90 : List Go.Value) ↦
                                                                                                                                                          Go.AI.pSome l90[(1 : Nat)]? fun (u91 : Go.Value) ↦
                                                                                                                                                            Go.AI.tI Go.IntKind.i64 u91 fun (n92 : Int) ↦
                                                                                                                                                              Go.AI.newAt σ86
                                                                                                                                                                (Go.AI.AObj.row Go.AI.RK.rw
                                                                                                                                                                  [Go.Value.int Go.IntKind.u32 n59])
                                                                                                                                                                fun (i93 : Nat) (σ94 : Go.AI.AS) ↦
                                                                                                                                                                T (9 : Nat)
                                                                                                                                                                  [Go.Value.pointer b4,
                                                                                                                                                                    Go.Value.iface (30 : Nat) (Go.Value.pointer b18),
                                                                                                                                                                    Go.Value.int Go.IntKind.u32 (160 : Int),
                                                                                                                                                                    Go.Value.slice
                                                                                                                                                                      (Option.some (Go.Addr.mk i93 (0 : Nat) Option.none))
                                                                                                                                                                      (1 : Nat) (1 : Nat)]
                                                                                                                                                                  σ94 fun (v95 : Go.Value) (σ96 : Go.AI.AS) ↦
                                                                                                                                                                  Go.AI.tTup v95 fun (l97 : List Go.Value) ↦
                                                                                                                                                                    Go.AI.pSome l97[(0 : Nat)]? fun (u98 : Go.Value) ↦
                                                                                                                                                                      Go.AI.tI Go.IntKind.u32 u98 fun (n99 : Int) ↦
                                                                                                                                                                        Go.AI.tTup v95 fun (l100 : List Go.Value) ↦
                                                                                                                                                                          Go.AI.pSome l100[(1 : Nat)]?
                                                                                                                                                                            fun (u101 : Go.Value) ↦
                                                                                                                                                                            Go.AI.tI Go.IntKind.i64 u101 fun (n102 : Int) ↦
                                                                                                                                                                              Go.AI.bmatch (n29 == n39)
                                                                                                                                                                                (Go.AI.bmatch (n49 == n69)
                                                                                                                                                                                  (Go.AI.bmatch (n59 == n79)
                                                                                                                                                                                    (Go.AI.bmatch (n49 == c)
                                                                                                                                                                                      (Go.AI.bmatch (n59 == c)
                                                                                                                                                                                        (Go.AI.bmatch (n49 == c)
                                                                                                                                                                                          (T (11 : Nat) [] σ96
                                                                                                                                                                                            fun (v103 : Go.Value)
                                                                                                                                                                                              (σ104 : Go.AI.AS) ↦
                                                                                                                                                                                            Go.AI.tB v103
                                                                                                                                                                                              fun (b105 : Bool) ↦
                                                                                                                                                                                              K (Go.Value.bool b105) σ104)
                                                                                                                                                                                          (Go.AI.bmatch (n59 == c)
                                                                                                                                                                                            (T (11 : Nat) [] σ96
                                                                                                                                                                                              fun (v106 : Go.Value)
                                                                                                                                                                                                (σ107 : Go.AI.AS) ↦
                                                                                                                                                                                              Go.AI.tB v106
                                                                                                                                                                                                fun (b108 : Bool) ↦
                                                                                                                                                                                                K (Go.Value.bool b108)
                                                                                                                                                                                                  σ107)
                                                                                                                                                                                            (K (Go.Value.bool Bool.false)
                                                                                                                                                                                              σ96)))
                                                                                                                                                                                        (Go.AI.bmatch (n99 == c)
                                                                                                                                                                                          (Go.AI.bmatch (n49 == c)
                                                                                                                                                                                            (T (11 : Nat) [] σ96
                                                                                                                                                                                              fun (v109 : Go.Value)
                                                                                                                                                                                                (σ110 : Go.AI.AS) ↦
                                                                                                                                                                                              Go.AI.tB v109
                                                                                                                                                                                                fun (b111 : Bool) ↦
                                                                                                                                                                                                K (Go.Value.bool b111)
                                                                                                                                                                                                  σ110)
                                                                                                                                                                                            (Go.AI.bmatch (n59 == c)
                                                                                                                                                                                              (T (11 : Nat) [] σ96
                                                                                                                                                                                                fun (v112 : Go.Value)
                                                                                                                                                                                                  (σ113 : Go.AI.AS) ↦
                                                                                                                                                                                                Go.AI.tB v112
                                                                                                                                                                                                  fun (b114 : Bool) ↦
                                                                                                                                                                                                  K (Go.Value.bool b114)
                                                                                                                                                                                                    σ113)
                                                                                                                                                                                              (K
                                                                                                                                                                                                (Go.Value.bool Bool.false)
                                                                                                                                                                                                σ96)))
                                                                                                                                                                                          (K (Go.Value.bool Bool.false)
                                                                                                                                                                                            σ96)))
                                                                                                                                                                                      (Go.AI.bmatch (n89 == c)
                                                                                                                                                                                        (Go.AI.bmatch (n59 == c)
                                                                                                                                                                                          (Go.AI.bmatch (n49 == c)
                                                                                                                                                                                            (T (11 : Nat) [] σ96
                                                                                                                                                                                              fun (v115 : Go.Value)
                                                                                                                                                                                                (σ116 : Go.AI.AS) ↦
                                                                                                                                                                                              Go.AI.tB v115
                                                                                                                                                                                                fun (b117 : Bool) ↦
                                                                                                                                                                                                K (Go.Value.bool b117)
                                                                                                                                                                                                  σ116)
                                                                                                                                                                                            (Go.AI.bmatch (n59 == c)
                                                                                                                                                                                              (T (11 : Nat) [] σ96
                                                                                                                                                                                                fun (v118 : Go.Value)
                                                                                                                                                                                                  (σ119 : Go.AI.AS) ↦
                                                                                                                                                                                                Go.AI.tB v118
                                                                                                                                                                                                  fun (b120 : Bool) ↦
                                                                                                                                                                                                  K (Go.Value.bool b120)
                                                                                                                                                                                                    σ119)
                                                                                                                                                                                              (K
                                                                                                                                                                                                (Go.Value.bool Bool.false)
                                                                                                                                                                                                σ96)))
                                                                                                                                                                                          (Go.AI.bmatch (n99 == c)
                                                                                                                                                                                            (Go.AI.bmatch (n49 == c)
                                                                                                                                                                                              (T (11 : Nat) [] σ96
                                                                                                                                                                                                fun (v121 : Go.Value)
                                                                                                                                                                                                  (σ122 : Go.AI.AS) ↦
                                                                                                                                                                                                Go.AI.tB v121
                                                                                                                                                                                                  fun (b123 : Bool) ↦
                                                                                                                                                                                                  K (Go.Value.bool b123)
                                                                                                                                                                                                    σ122)
                                                                                                                                                                                              (Go.AI.bmatch (n59 == c)
                                                                                                                                                                                                (T (11 : Nat) [] σ96
                                                                                                                                                                                                  fun (v124 : Go.Value)
                                                                                                                                                                                                    (σ125 : Go.AI.AS) ↦
                                                                                                                                                                                                  Go.AI.tB v124
                                                                                                                                                                                                    fun (b126 : Bool) ↦
                                                                                                                                                                                                    K (Go.Value.bool b126)
                                                                                                                                                                                                      σ125)
                                                                                                                                                                                                (K
                                                                                                                                                                                                  (Go.Value.bool Bool.false)
                                                                                                                                                                                                  σ96)))
                                                                                                                                                                                            (K (Go.Value.bool Bool.false)
                                                                                                                                                                                              σ96)))
                                                                                                                                                                                        (K (Go.Value.bool Bool.false)
                                                                                                                                                                                          σ96)))
                                                                                                                                                                                    (K (Go.Value.bool Bool.false) σ96))
                                                                                                                                                                                  (K (Go.Value.bool Bool.false) σ96))
                                                                                                                                                                                (K (Go.Value.bool Bool.false) σ96))) := by
  intros
  kernel_rfl

theorem s63 : ∀ (T : Go.AI.Ct) (c : Int) (σ : Go.AI.AS) (K : Go.Value → Go.AI.AS → Prop),
  Go.AI.fw Go.Proofs.Tryz.prog Go.AI.hintsS T (63 : Nat) [Go.Value.int Go.IntKind.u32 c] σ K =
    Go.AI.bmatch (Decidable.decide (c ≥ (32 : Int)))
      (Go.AI.bmatch (Decidable.decide (c ≤ (126 : Int))) (K (Go.Value.bool Bool.true) σ)
        (Go.AI.bmatch (Decidable.decide (c ≥ (160 : Int))) (K (Go.Value.bool (Decidable.decide (c ≤ (255 : Int)))) σ) (K (Go.Value.bool Bool.false) σ)))
      (Go.AI.bmatch (Decidable.decide (c ≥ (160 : Int))) (K (Go.Value.bool (Decidable.decide (c ≤ (255 : Int)))) σ) (K (Go.Value.bool Bool.false) σ)) := by
  intros
  kernel_rfl

theorem s82 : ∀ (T : Go.AI.Ct) (c : Int) (σ : Go.AI.AS) (K : Go.Value → Go.AI.AS → Prop),
  Go.AI.fw Go.Proofs.Tryz.prog Go.AI.hintsS T (82 : Nat) [Go.Value.int Go.IntKind.u32 c] σ K =
    Go.AI.bmatch (Decidable.decide (c ≥ (32 : Int)))
      (Go.AI.bmatch (Decidable.decide (c ≤ (126 : Int))) (K (Go.Value.bool Bool.true) σ)
        (Go.AI.bmatch (Decidable.decide (c ≥ (160 : Int))) (K (Go.Value.bool (Decidable.decide (c ≤ (255 : Int)))) σ) (K (Go.Value.bool Bool.false) σ)))
      (Go.AI.bmatch (Decidable.decide (c ≥ (160 : Int))) (K (Go.Value.bool (Decidable.decide (c ≤ (255 : Int)))) σ) (K (Go.Value.bool Bool.false) σ)) := by
  intros
  kernel_rfl

theorem s29 : ∀ (T : Go.AI.Ct) (a b : Int) (σ : Go.AI.AS) (K : Go.Value → Go.AI.AS → Prop),
  Go.AI.fw Go.Proofs.Tryz.prog Go.AI.hintsS T (29 : Nat) [Go.Value.int Go.IntKind.u32 a, Go.Value.int Go.IntKind.u32 b] σ K =
    Go.AI.bmatch (a == (0 : Int)) (K (Go.Value.int Go.IntKind.u32 (1797 : Int)) σ)
      (Go.AI.bmatch (a == (1 : Int))
        (Go.AI.bmatch (Decidable.decide (b ≥ (32 : Int)))
          (Go.AI.bmatch (Decidable.decide (b ≤ (126 : Int)))
            (Go.AI.bmatch (Decidable.decide (b ≤ (126 : Int))) (K (Go.Value.int Go.IntKind.u32 (1 : Int)) σ)
              (Go.AI.bmatch (a == (3 : Int))
                (T (63 : Nat) [Go.Value.int Go.IntKind.u32 b] σ fun (v0 : Go.Value) (σ1 : Go.AI.AS) ↦
                  Go.AI.tB v0 fun (b2 : Bool) ↦
                    Go.AI.bmatch b2 (K (Go.Value.int Go.IntKind.u32 (2 : Int)) σ1) (Go.AI.bmatch (b == (10 : Int)) (K (Go.Value.int Go.IntKind.u32 (2 : Int)) σ1) (K (Go.Value.int Go.IntKind.u32 (0 : Int)) σ1)))
                (K (Go.Value.int Go.IntKind.u32 (0 : Int)) σ)))
            (Go.AI.bmatch (a == (2 : Int))
              (T (63 : Nat) [Go.Value.int Go.IntKind.u32 b] σ fun (v3 : Go.Value) (σ4 : Go.AI.AS) ↦
                Go.AI.tB v3 fun (b5 : Bool) ↦
                  Go.AI.bmatch b5 (K (Go.Value.int Go.IntKind.u32 (1 : Int)) σ4)
                    (Go.AI.bmatch (a == (3 : Int))
                      (T (63 : Nat) [Go.Value.int Go.IntKind.u32 b] σ4 fun (v6 : Go.Value) (σ7 : Go.AI.AS) ↦
                        Go.AI.tB v6 fun (b8 : Bool) ↦
                          Go.AI.bmatch b8 (K (Go.Value.int Go.IntKind.u32 (2 : Int)) σ7)
                            (Go.AI.bmatch (b == (10 : Int)) (K (Go.Value.int Go.IntKind.u32 (2 : Int)) σ7) (K (Go.Value.int Go.IntKind.u32 (0 : Int)) σ7)))
                      (K (Go.Value.int Go.IntKind.u32 (0 : Int)) σ4)))
              (Go.AI.bmatch (a == (3 : Int))
                (T (63 : Nat) [Go.Value.int Go.IntKind.u32 b] σ fun (v9 : Go.Value) (σ10 : Go.AI.AS) ↦
                  Go.AI.tB v9 fun (b11 : Bool) ↦
                    Go.AI.bmatch b11 (K (Go.Value.int Go.IntKind.u32 (2 : Int)) σ10)
                      (Go.AI.bmatch (b == (10 : Int)) (K (Go.Value.int Go.IntKind.u32 (2 : Int)) σ10) (K (Go.Value.int Go.IntKind.u32 (0 : Int)) σ10)))
                (K (Go.Value.int Go.IntKind.u32 (0 : Int)) σ))))
          (Go.AI.bmatch (a == (2 : Int))
            (T (63 : Nat) [Go.Value.int Go.IntKind.u32 b] σ fun (v12 : Go.Value) (σ13 : Go.AI.AS) ↦
              Go.AI.tB v12 fun (b14 : Bool) ↦
                Go.AI.bmatch b14 (K (Go.Value.int Go.IntKind.u32 (1 : Int)) σ13)
                  (Go.AI.bmatch (a == (3 : Int))
                    (T (63 : Nat) [Go.Value.int Go.IntKind.u32 b] σ13 fun (v15 : Go.Value) (σ16 : Go.AI.AS) ↦
                      Go.AI.tB v15 fun (b17 : Bool) ↦
                        Go.AI.bmatch b17 (K (Go.Value.int Go.IntKind.u32 (2 : Int)) σ16)
                          (Go.AI.bmatch (b == (10 : Int)) (K (Go.Value.int Go.IntKind.u32 (2 : Int)) σ16) (K (Go.Value.int Go.IntKind.u32 (0 : Int)) σ16)))
                    (K (Go.Value.int Go.IntKind.u32 (0 : Int)) σ13)))
            (Go.AI.bmatch (a == (3 : Int))
              (T (63 : Nat) [Go.Value.int Go.IntKind.u32 b] σ fun (v18 : Go.Value) (σ19 : Go.AI.AS) ↦
                Go.AI.tB v18 fun (b20 : Bool) ↦
                  Go.AI.bmatch b20 (K (Go.Value.int Go.IntKind.u32 (2 : Int)) σ19) (Go.AI.bmatch (b == (10 : Int)) (K (Go.Value.int Go.IntKind.u32 (2 : Int)) σ19) (K (Go.Value.int Go.IntKind.u32 (0 : Int)) σ19)))
              (K (Go.Value.int Go.IntKind.u32 (0 : Int)) σ))))
        (Go.AI.bmatch (a == (2 : Int))
          (T (63 : Nat) [Go.Value.int Go.IntKind.u32 b] σ fun (v21 : Go.Value) (σ22 : Go.AI.AS) ↦
            Go.AI.tB v21 fun (b23 : Bool) ↦
              Go.AI.bmatch b23 (K (Go.Value.int Go.IntKind.u32 (1 : Int)) σ22)
                (Go.AI.bmatch (a == (3 : Int))
                  (T (63 : Nat) [Go.Value.int Go.IntKind.u32 b] σ22 fun (v24 : Go.Value) (σ25 : Go.AI.AS) ↦
                    Go.AI.tB v24 fun (b26 : Bool) ↦
                      Go.AI.bmatch b26 (K (Go.Value.int Go.IntKind.u32 (2 : Int)) σ25)
                        (Go.AI.bmatch (b == (10 : Int)) (K (Go.Value.int Go.IntKind.u32 (2 : Int)) σ25) (K (Go.Value.int Go.IntKind.u32 (0 : Int)) σ25)))
                  (K (Go.Value.int Go.IntKind.u32 (0 : Int)) σ22)))
          (Go.AI.bmatch (a == (3 : Int))
            (T (63 : Nat) [Go.Value.int Go.IntKind.u32 b] σ fun (v27 : Go.Value) (σ28 : Go.AI.AS) ↦
              Go.AI.tB v27 fun (b29 : Bool) ↦
                Go.AI.bmatch b29 (K (Go.Value.int Go.IntKind.u32 (2 : Int)) σ28) (Go.AI.bmatch (b == (10 : Int)) (K (Go.Value.int Go.IntKind.u32 (2 : Int)) σ28) (K (Go.Value.int Go.IntKind.u32 (0 : Int)) σ28)))
            (K (Go.Value.int Go.IntKind.u32 (0 : Int)) σ)))) := by
  intros
  kernel_rfl

theorem s37 : ∀ (T : Go.AI.Ct) (a b : Int) (σ : Go.AI.AS) (K : Go.Value → Go.AI.AS → Prop),
  Go.AI.fw Go.Proofs.Tryz.prog Go.AI.hintsS T (37 : Nat) [Go.Value.int Go.IntKind.u32 a, Go.Value.int Go.IntKind.u32 b] σ K =
    Go.AI.bmatch (a == (0 : Int)) (K (Go.Value.int Go.IntKind.u32 (1797 : Int)) σ)
      (Go.AI.bmatch (a == (1 : Int))
        (Go.AI.bmatch (Decidable.decide (b ≥ (32 : Int)))
          (Go.AI.bmatch (Decidable.decide (b ≤ (126 : Int))) (K (Go.Value.int Go.IntKind.u32 (1 : Int)) σ)
            (Go.AI.bmatch (a == (2 : Int))
              (T (82 : Nat) [Go.Value.int Go.IntKind.u32 b] σ fun (v0 : Go.Value) (σ1 : Go.AI.AS) ↦
                Go.AI.tB v0 fun (b2 : Bool) ↦
                  Go.AI.bmatch b2 (K (Go.Value.int Go.IntKind.u32 (1 : Int)) σ1)
                    (Go.AI.bmatch (a == (3 : Int))
                      (T (82 : Nat) [Go.Value.int Go.IntKind.u32 b] σ1 fun (v3 : Go.Value) (σ4 : Go.AI.AS) ↦
                        Go.AI.tB v3 fun (b5 : Bool) ↦
                          Go.AI.bmatch b5 (K (Go.Value.int Go.IntKind.u32 (2 : Int)) σ4)
                            (Go.AI.bmatch (b == (10 : Int)) (K (Go.Value.int Go.IntKind.u32 (2 : Int)) σ4) (K (Go.Value.int Go.IntKind.u32 (0 : Int)) σ4)))
                      (K (Go.Value.int Go.IntKind.u32 (0 : Int)) σ1)))
              (Go.AI.bmatch (a == (3 : Int))
                (T (82 : Nat) [Go.Value.int Go.IntKind.u32 b] σ fun (v6 : Go.Value) (σ7 : Go.AI.AS) ↦
                  Go.AI.tB v6 fun (b8 : Bool) ↦
                    Go.AI.bmatch b8 (K (Go.Value.int Go.IntKind.u32 (2 : Int)) σ7) (Go.AI.bmatch (b == (10 : Int)) (K (Go.Value.int Go.IntKind.u32 (2 : Int)) σ7) (K (Go.Value.int Go.IntKind.u32 (0 : Int)) σ7)))
                (K (Go.Value.int Go.IntKind.u32 (0 : Int)) σ))))
          (Go.AI.bmatch (a == (2 : Int))
            (T (82 : Nat) [Go.Value.int Go.IntKind.u32 b] σ fun (v9 : Go.Value) (σ10 : Go.AI.AS) ↦
              Go.AI.tB v9 fun (b11 : Bool) ↦
                Go.AI.bmatch b11 (K (Go.Value.int Go.IntKind.u32 (1 : Int)) σ10)
                  (Go.AI.bmatch (a == (3 : Int))
                    (T (82 : Nat) [Go.Value.int Go.IntKind.u32 b] σ10 fun (v12 : Go.Value) (σ13 : Go.AI.AS) ↦
                      Go.AI.tB v12 fun (b14 : Bool) ↦
                        Go.AI.bmatch b14 (K (Go.Value.int Go.IntKind.u32 (2 : Int)) σ13)
                          (Go.AI.bmatch (b == (10 : Int)) (K (Go.Value.int Go.IntKind.u32 (2 : Int)) σ13) (K (Go.Value.int Go.IntKind.u32 (0 : Int)) σ13)))
                    (K (Go.Value.int Go.IntKind.u32 (0 : Int)) σ10)))
            (Go.AI.bmatch (a == (3 : Int))
              (T (82 : Nat) [Go.Value.int Go.IntKind.u32 b] σ fun (v15 : Go.Value) (σ16 : Go.AI.AS) ↦
                Go.AI.tB v15 fun (b17 : Bool) ↦
                  Go.AI.bmatch b17 (K (Go.Value.int Go.IntKind.u32 (2 : Int)) σ16) (Go.AI.bmatch (b == (10 : Int)) (K (Go.Value.int Go.IntKind.u32 (2 : Int)) σ16) (K (Go.Value.int Go.IntKind.u32 (0 : Int)) σ16)))
              (K (Go.Value.int Go.IntKind.u32 (0 : Int)) σ))))
        (Go.AI.bmatch (a == (2 : Int))
          (T (82 : Nat) [Go.Value.int Go.IntKind.u32 b] σ fun (v18 : Go.Value) (σ19 : Go.AI.AS) ↦
            Go.AI.tB v18 fun (b20 : Bool) ↦
              Go.AI.bmatch b20 (K (Go.Value.int Go.IntKind.u32 (1 : Int)) σ19)
                (Go.AI.bmatch (a == (3 : Int))
                  (T (82 : Nat) [Go.Value.int Go.IntKind.u32 b] σ19 fun (v21 : Go.Value) (σ22 : Go.AI.AS) ↦
                    Go.AI.tB v21 fun (b23 : Bool) ↦
                      Go.AI.bmatch b23 (K (Go.Value.int Go.IntKind.u32 (2 : Int)) σ22)
                        (Go.AI.bmatch (b == (10 : Int)) (K (Go.Value.int Go.IntKind.u32 (2 : Int)) σ22) (K (Go.Value.int Go.IntKind.u32 (0 : Int)) σ22)))
                  (K (Go.Value.int Go.IntKind.u32 (0 : Int)) σ19)))
          (Go.AI.bmatch (a == (3 : Int))
            (T (82 : Nat) [Go.Value.int Go.IntKind.u32 b] σ fun (v24 : Go.Value) (σ25 : Go.AI.AS) ↦
              Go.AI.tB v24 fun (b26 : Bool) ↦
                Go.AI.bmatch b26 (K (Go.Value.int Go.IntKind.u32 (2 : Int)) σ25) (Go.AI.bmatch (b == (10 : Int)) (K (Go.Value.int Go.IntKind.u32 (2 : Int)) σ25) (K (Go.Value.int Go.IntKind.u32 (0 : Int)) σ25)))
            (K (Go.Value.int Go.IntKind.u32 (0 : Int)) σ)))) := by
  intros
  kernel_rfl

theorem s30 : ∀ (T : Go.AI.Ct) (c : Int) (u : Bool) (σ : Go.AI.AS) (K : Go.Value → Go.AI.AS → Prop),
  Go.AI.fw Go.Proofs.Tryz.prog Go.AI.hintsS T (30 : Nat) [Go.Value.int Go.IntKind.u32 c, Go.Value.bool u] σ K =
    Go.AI.bmatch u
      (Go.AI.bmatch (Decidable.decide (Go.IntKind.wrap Go.IntKind.u32 (c - (32 : Int)) ≥ (65 : Int)))
        (Go.AI.bmatch (Decidable.decide (Go.IntKind.wrap Go.IntKind.u32 (c - (32 : Int)) ≤ (90 : Int))) (K (Go.Value.int Go.IntKind.u32 (Go.AI.ixor Go.IntKind.u32 c (32 : Int))) σ)
          (Go.AI.bmatch (Decidable.decide (Go.IntKind.wrap Go.IntKind.u32 (c - (32 : Int)) ≥ (192 : Int)))
            (Go.AI.bmatch (Decidable.decide (Go.IntKind.wrap Go.IntKind.u32 (c - (32 : Int)) ≤ (222 : Int)))
              (Go.AI.bmatch (Go.IntKind.wrap Go.IntKind.u32 (c - (32 : Int)) != (215 : Int)) (K (Go.Value.int Go.IntKind.u32 (Go.AI.ixor Go.IntKind.u32 c (32 : Int))) σ)
                (K (Go.Value.int Go.IntKind.u32 c) σ))
              (K (Go.Value.int Go.IntKind.u32 c) σ))
            (K (Go.Value.int Go.IntKind.u32 c) σ)))
        (Go.AI.bmatch (Decidable.decide (Go.IntKind.wrap Go.IntKind.u32 (c - (32 : Int)) ≥ (192 : Int)))
          (Go.AI.bmatch (Decidable.decide (Go.IntKind.wrap Go.IntKind.u32 (c - (32 : Int)) ≤ (222 : Int)))
            (Go.AI.bmatch (Go.IntKind.wrap Go.IntKind.u32 (c - (32 : Int)) != (215 : Int)) (K (Go.Value.int Go.IntKind.u32 (Go.AI.ixor Go.IntKind.u32 c (32 : Int))) σ) (K (Go.Value.int Go.IntKind.u32 c) σ))
            (K (Go.Value.int Go.IntKind.u32 c) σ))
          (K (Go.Value.int Go.IntKind.u32 c) σ)))
      (Go.AI.bmatch (Decidable.decide (c ≥ (65 : Int)))
        (Go.AI.bmatch (Decidable.decide (c ≤ (90 : Int))) (K (Go.Value.int Go.IntKind.u32 (Go.AI.ixor Go.IntKind.u32 c (32 : Int))) σ)
          (Go.AI.bmatch (Decidable.decide (c ≥ (192 : Int)))
            (Go.AI.bmatch (Decidable.decide (c ≤ (222 : Int)))
              (Go.AI.bmatch (c != (215 : Int)) (K (Go.Value.int Go.IntKind.u32 (Go.AI.ixor Go.IntKind.u32 c (32 : Int))) σ) (K (Go.Value.int Go.IntKind.u32 c) σ))
              (K (Go.Value.int Go.IntKind.u32 c) σ))
            (K (Go.Value.int Go.IntKind.u32 c) σ)))
        (Go.AI.bmatch (Decidable.decide (c ≥ (192 : Int)))
          (Go.AI.bmatch (Decidable.decide (c ≤ (222 : Int)))
            (Go.AI.bmatch (c != (215 : Int)) (K (Go.Value.int Go.IntKind.u32 (Go.AI.ixor Go.IntKind.u32 c (32 : Int))) σ) (K (Go.Value.int Go.IntKind.u32 c) σ)) (K (Go.Value.int Go.IntKind.u32 c) σ))
          (K (Go.Value.int Go.IntKind.u32 c) σ))) := by
  intros
  kernel_rfl

theorem s38 : ∀ (T : Go.AI.Ct) (c : Int) (u : Bool) (σ : Go.AI.AS) (K : Go.Value → Go.AI.AS → Prop),
  Go.AI.fw Go.Proofs.Tryz.prog Go.AI.hintsS T (38 : Nat) [Go.Value.int Go.IntKind.u32 c, Go.Value.bool u] σ K =
    Go.AI.bmatch (!u)
      (T (83 : Nat) [Go.Value.int Go.IntKind.u32 c] σ fun (v0 : Go.Value) (σ1 : Go.AI.AS) ↦
        Go.AI.tB v0 fun (b2 : Bool) ↦
          Go.AI.bmatch b2 (K (Go.Value.int Go.IntKind.u32 (Go.IntKind.wrap Go.IntKind.u32 (c + (32 : Int)))) σ1)
            (Go.AI.bmatch u
              (Go.AI.bmatch (Decidable.decide (c ≥ (32 : Int)))
                (T (83 : Nat) [Go.Value.int Go.IntKind.u32 (Go.IntKind.wrap Go.IntKind.u32 (c - (32 : Int)))] σ1 fun (v3 : Go.Value) (σ4 : Go.AI.AS) ↦
                  Go.AI.tB v3 fun (b5 : Bool) ↦ Go.AI.bmatch b5 (K (Go.Value.int Go.IntKind.u32 (Go.IntKind.wrap Go.IntKind.u32 (c - (32 : Int)))) σ4) (K (Go.Value.int Go.IntKind.u32 c) σ4))
                (K (Go.Value.int Go.IntKind.u32 c) σ1))
              (K (Go.Value.int Go.IntKind.u32 c) σ1)))
      (Go.AI.bmatch u
        (Go.AI.bmatch (Decidable.decide (c ≥ (32 : Int)))
          (T (83 : Nat) [Go.Value.int Go.IntKind.u32 (Go.IntKind.wrap Go.IntKind.u32 (c - (32 : Int)))] σ fun (v6 : Go.Value) (σ7 : Go.AI.AS) ↦
            Go.AI.tB v6 fun (b8 : Bool) ↦ Go.AI.bmatch b8 (K (Go.Value.int Go.IntKind.u32 (Go.IntKind.wrap Go.IntKind.u32 (c - (32 : Int)))) σ7) (K (Go.Value.int Go.IntKind.u32 c) σ7))
          (K (Go.Value.int Go.IntKind.u32 c) σ))
        (K (Go.Value.int Go.IntKind.u32 c) σ)) := by
  intros
  kernel_rfl

theorem s83 : ∀ (T : Go.AI.Ct) (c : Int) (σ : Go.AI.AS) (K : Go.Value → Go.AI.AS → Prop),
  Go.AI.fw Go.Proofs.Tryz.prog Go.AI.hintsS T (83 : Nat) [Go.Value.int Go.IntKind.u32 c] σ K =
    Go.AI.bmatch (Decidable.decide (c ≥ (65 : Int)))
      (Go.AI.bmatch (Decidable.decide (c ≤ (90 : Int))) (K (Go.Value.bool Bool.true) σ)
        (Go.AI.bmatch (Decidable.decide (c ≥ (192 : Int)))
          (Go.AI.bmatch (Decidable.decide (c ≤ (214 : Int))) (K (Go.Value.bool Bool.true) σ)
            (Go.AI.bmatch (Decidable.decide (c ≥ (216 : Int))) (K (Go.Value.bool (Decidable.decide (c ≤ (222 : Int)))) σ) (K (Go.Value.bool Bool.false) σ)))
          (Go.AI.bmatch (Decidable.decide (c ≥ (216 : Int))) (K (Go.Value.bool (Decidable.decide (c ≤ (222 : Int)))) σ) (K (Go.Value.bool Bool.false) σ))))
      (Go.AI.bmatch (Decidable.decide (c ≥ (192 : Int)))
        (Go.AI.bmatch (Decidable.decide (c ≤ (214 : Int))) (K (Go.Value.bool Bool.true) σ)
          (Go.AI.bmatch (Decidable.decide (c ≥ (216 : Int))) (K (Go.Value.bool (Decidable.decide (c ≤ (222 : Int)))) σ) (K (Go.Value.bool Bool.false) σ)))
        (Go.AI.bmatch (Decidable.decide (c ≥ (216 : Int))) (K (Go.Value.bool (Decidable.decide (c ≤ (222 : Int)))) σ) (K (Go.Value.bool Bool.false) σ))) := by
  intros
  kernel_rfl

end Go.AI
