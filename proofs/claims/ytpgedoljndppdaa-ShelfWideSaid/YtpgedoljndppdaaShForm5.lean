/- The conditions ahead of the calls of the program's functions, reckoned as far as they go (equations that the kernel checks); no condition. -/
import Derived.Test.YtpgedoljndppdaaShSoft
import Derived.Test.YtpgedoljndppdaaAISep
set_option maxRecDepth 1000000
set_option linter.unusedVariables false
namespace Go.AI
open Go.Proofs
theorem s6 : ∀ (T : Go.AI.Ct) (a : Option Go.Addr) (m : Nat) (σ : Go.AI.AS) (K : Go.Value → Go.AI.AS → Prop),
  Go.AI.fw Go.Proofs.Try.prog Go.AI.hintsS T (6 : Nat) [Go.Value.slice a m (4 : Nat)] σ K =
    Go.AI.bmatch (Decidable.decide ((↑m : Int) > (400 : Int))) (T (11 : Nat) [] σ fun (v0 : Go.Value) (σ1 : Go.AI.AS) ↦ Go.AI.tB v0 fun (b2 : Bool) ↦ K (Go.Value.bool b2) σ1)
      (T (9 : Nat) [Go.Value.int Go.IntKind.i64 (1048576 : Int)] σ fun (v3 : Go.Value) (σ4 : Go.AI.AS) ↦
        Go.AI.tTup v3 fun (l5 : List Go.Value) ↦
          Go.AI.pSome l5[(0 : Nat)]? fun (u6 : Go.Value) ↦
            Go.AI.tP u6 fun (b7 : Option Go.Addr) ↦
              Go.AI.tTup v3 fun (l8 : List Go.Value) ↦
                Go.AI.pSome l8[(1 : Nat)]? fun (u9 : Go.Value) ↦
                  Go.AI.tI Go.IntKind.i64 u9 fun (n10 : Int) ↦
                    T (10 : Nat) [Go.Value.int Go.IntKind.i64 n10] σ4 fun (v11 : Go.Value) (σ12 : Go.AI.AS) ↦
                      Go.AI.tI Go.IntKind.i64 v11 fun (n13 : Int) ↦
                        Go.AI.bmatch (n13 != (0 : Int)) (K (Go.Value.bool Bool.false) σ12)
                          (Go.AI.ptrEq σ12 b7 Option.none fun (r14 : Bool) ↦
                            Go.AI.bmatch r14 (K (Go.Value.bool Bool.false) σ12)
                              (T (12 : Nat) [Go.Value.pointer b7, Go.Value.string (ByteArray.mk #[(102 : UInt8)]), Go.Value.int Go.IntKind.i64 (3 : Int), Go.Value.bool Bool.true] σ12
                                fun (v15 : Go.Value) (σ16 : Go.AI.AS) ↦
                                Go.AI.tTup v15 fun (l17 : List Go.Value) ↦
                                  Go.AI.pSome l17[(0 : Nat)]? fun (u18 : Go.Value) ↦
                                    Go.AI.tI Go.IntKind.i64 u18 fun (n19 : Int) ↦
                                      Go.AI.tTup v15 fun (l20 : List Go.Value) ↦
                                        Go.AI.pSome l20[(1 : Nat)]? fun (u21 : Go.Value) ↦
                                          Go.AI.tI Go.IntKind.i64 u21 fun (n22 : Int) ↦
                                            T (10 : Nat) [Go.Value.int Go.IntKind.i64 n22] σ16 fun (v23 : Go.Value) (σ24 : Go.AI.AS) ↦
                                              Go.AI.tI Go.IntKind.i64 v23 fun (n25 : Int) ↦
                                                Go.AI.bmatch (n25 != (0 : Int)) (K (Go.Value.bool Bool.false) σ24)
                                                  (Go.AI.ALoop
                                                    (Go.AI.fl Go.Proofs.Try.prog Go.AI.hintsS T (6 : Nat)
                                                      [Bool.true, Bool.true, Bool.true, Bool.true, Bool.true, Bool.true, Bool.true, Bool.true, Bool.false, Bool.true, Bool.false] [] K)
                                                    [((0 : Nat), Option.some (Go.Value.slice a m (4 : Nat))), ((3 : Nat), Option.some (Go.Value.pointer b7)),
                                                      ((5 : Nat), Option.some (Go.Value.int Go.IntKind.i64 n19)), ((7 : Nat), Option.some (Go.Value.slice Option.none (0 : Nat) (0 : Nat))),
                                                      ((8 : Nat), Option.some (Go.Value.int Go.IntKind.i64 (0 : Int))), ((9 : Nat), Option.some (Go.Value.int Go.IntKind.i64 (0 : Int)))]
                                                    σ24)))) := by
  intros
  kernel_rfl

theorem s6l : ∀ (T : Go.AI.Ct) (a : Option Go.Addr) (m s : Nat) (n at__1 i : Int) (c : Option Go.Addr) (cn ce : Nat) (X : Go.AI.Regs → Go.AI.AS → Prop) (σ : Go.AI.AS) (K : Go.Value → Go.AI.AS → Prop),
  Go.AI.fl Go.Proofs.Try.prog Go.AI.hintsS T (6 : Nat) [Bool.true, Bool.true, Bool.true, Bool.true, Bool.true, Bool.true, Bool.true, Bool.true, Bool.false, Bool.true, Bool.false] [] K X
      [((0 : Nat), Option.some (Go.Value.slice a m (4 : Nat))), ((3 : Nat), Option.some (Go.Value.pointer (Option.some (Go.Addr.mk s (0 : Nat) Option.none)))),
        ((5 : Nat), Option.some (Go.Value.int Go.IntKind.i64 n)), ((7 : Nat), Option.some (Go.Value.slice c cn ce)), ((8 : Nat), Option.some (Go.Value.int Go.IntKind.i64 at__1)),
        ((9 : Nat), Option.some (Go.Value.int Go.IntKind.i64 i))]
      σ =
    Go.AI.bmatch (Decidable.decide (i < (↑m : Int)))
      (Go.AI.req ((0 : Int) ≤ i)
        (Go.AI.req (i < (↑m : Int))
          (Go.AI.pSome a fun (a0 : Go.Addr) ↦
            Go.AI.lds σ (Go.Addr.add a0 (Int.toNat i * Go.AI.szOf Go.Proofs.Try.prog (49 : Nat))) (4 : Nat) fun (l1 : List Go.Value) ↦
              Go.AI.tCons l1 fun (v2 : Go.Value) (l3 : List Go.Value) ↦
                Go.AI.tI Go.IntKind.i64 v2 fun (n4 : Int) ↦
                  Go.AI.tCons l3 fun (v5 : Go.Value) (l6 : List Go.Value) ↦
                    Go.AI.tI Go.IntKind.u32 v5 fun (n7 : Int) ↦
                      Go.AI.tCons l6 fun (v8 : Go.Value) (l9 : List Go.Value) ↦
                        Go.AI.tI Go.IntKind.i64 v8 fun (n10 : Int) ↦
                          Go.AI.tCons l9 fun (v11 : Go.Value) (l12 : List Go.Value) ↦
                            Go.AI.tI Go.IntKind.i64 v11 fun (n13 : Int) ↦
                              Go.AI.tNil l12
                                (Go.AI.newAt σ
                                  (Go.AI.AObj.row Go.AI.RK.plain
                                    [Go.Value.int Go.IntKind.i64 (0 : Int), Go.Value.int Go.IntKind.u32 (0 : Int), Go.Value.int Go.IntKind.i64 (0 : Int), Go.Value.int Go.IntKind.i64 (0 : Int)])
                                  fun (i14 : Nat) (σ15 : Go.AI.AS) ↦
                                  Go.AI.puts σ15 (Go.Addr.mk i14 (0 : Nat) Option.none) [Go.Value.int Go.IntKind.i64 n4, Go.Value.int Go.IntKind.u32 n7, Go.Value.int Go.IntKind.i64 n10, Go.Value.int Go.IntKind.i64 n13]
                                    fun (σ16 : Go.AI.AS) ↦
                                    Go.AI.ldc σ16 (Go.Addr.mk i14 (0 : Nat) Option.none) fun (v17 : Go.Value) ↦
                                      Go.AI.tI Go.IntKind.i64 v17 fun (n18 : Int) ↦
                                        Go.AI.bmatch (n18 == (0 : Int))
                                          (Go.AI.ldc σ16 (Go.Addr.mk i14 ((0 : Nat) + (1 : Nat)) Option.none) fun (v19 : Go.Value) ↦
                                            Go.AI.tI Go.IntKind.u32 v19 fun (n20 : Int) ↦
                                              Go.AI.newAt σ16 (Go.AI.AObj.row Go.AI.RK.rw [Go.Value.int Go.IntKind.u32 n20]) fun (i21 : Nat) (σ22 : Go.AI.AS) ↦
                                                T (14 : Nat)
                                                  [Go.Value.pointer (Option.some (Go.Addr.mk s (0 : Nat) Option.none)), Go.Value.int Go.IntKind.i64 n,
                                                    Go.Value.slice (Option.some (Go.Addr.mk i21 (0 : Nat) Option.none)) (1 : Nat) (1 : Nat)]
                                                  σ22 fun (v23 : Go.Value) (σ24 : Go.AI.AS) ↦
                                                  Go.AI.tI Go.IntKind.i64 v23 fun (n25 : Int) ↦
                                                    T (10 : Nat) [Go.Value.int Go.IntKind.i64 n25] σ24 fun (v26 : Go.Value) (σ27 : Go.AI.AS) ↦
                                                      Go.AI.tI Go.IntKind.i64 v26 fun (n28 : Int) ↦
                                                        Go.AI.bmatch (n28 != (0 : Int)) (K (Go.Value.bool Bool.false) σ27)
                                                          (Go.AI.bmatch (at__1 == (↑cn : Int))
                                                            (Go.AI.newAt σ27 (Go.AI.AObj.row Go.AI.RK.rw [Go.Value.int Go.IntKind.u32 (0 : Int)]) fun (i29 : Nat) (σ30 : Go.AI.AS) ↦
                                                              Go.AI.chk (Go.AI.nilOr c ce (Go.AI.szOf Go.Proofs.Try.prog (32 : Nat)))
                                                                (Go.AI.lds σ30 (Go.Addr.mk i29 (0 : Nat) Option.none) (1 : Nat) fun (l31 : List Go.Value) ↦
                                                                  Go.AI.appendTo σ30 (1 : Nat) (4 : Nat) (Go.AI.Sl.mk c cn) l31 (1 : Nat) fun (s32 : Go.AI.Sl) (σ33 : Go.AI.AS) ↦
                                                                    Go.AI.ldc σ33 (Go.Addr.mk i14 ((0 : Nat) + (1 : Nat)) Option.none) fun (v34 : Go.Value) ↦
                                                                      Go.AI.tI Go.IntKind.u32 v34 fun (n35 : Int) ↦
                                                                        Go.AI.req ((0 : Int) ≤ at__1)
                                                                          (Go.AI.req (at__1 < (↑(Go.AI.Sl.n s32) : Int))
                                                                            (Go.AI.pSome (Go.AI.Sl.a s32) fun (a36 : Go.Addr) ↦
                                                                              Go.AI.put1 σ33 (Go.Addr.add a36 (Int.toNat at__1 * Go.AI.szOf Go.Proofs.Try.prog (32 : Nat))) (Go.Value.int Go.IntKind.u32 n35)
                                                                                fun (σ37 : Go.AI.AS) ↦
                                                                                T (15 : Nat) [Go.Value.pointer (Option.some (Go.Addr.mk s (0 : Nat) Option.none)), Go.Value.int Go.IntKind.i64 n] σ37
                                                                                  fun (v38 : Go.Value) (σ39 : Go.AI.AS) ↦
                                                                                  Go.AI.tTup v38 fun (l40 : List Go.Value) ↦
                                                                                    Go.AI.pSome l40[(0 : Nat)]? fun (u41 : Go.Value) ↦
                                                                                      Go.AI.tI Go.IntKind.i64 u41 fun (n42 : Int) ↦
                                                                                        Go.AI.tTup v38 fun (l43 : List Go.Value) ↦
                                                                                          Go.AI.pSome l43[(1 : Nat)]? fun (u44 : Go.Value) ↦
                                                                                            Go.AI.tI Go.IntKind.i64 u44 fun (n45 : Int) ↦
                                                                                              Go.AI.tTup v38 fun (l46 : List Go.Value) ↦
                                                                                                Go.AI.pSome l46[(2 : Nat)]? fun (u47 : Go.Value) ↦
                                                                                                  Go.AI.tI Go.IntKind.i64 u47 fun (n48 : Int) ↦
                                                                                                    Go.AI.bmatch (n42 != Go.IntKind.wrap Go.IntKind.i64 (at__1 + (1 : Int))) (K (Go.Value.bool Bool.false) σ39)
                                                                                                      (Go.AI.bmatch (n45 != (↑(Go.AI.Sl.n s32) : Int)) (K (Go.Value.bool Bool.false) σ39)
                                                                                                        (X
                                                                                                          [((0 : Nat), Option.some (Go.Value.slice a m (4 : Nat))),
                                                                                                            ((3 : Nat), Option.some (Go.Value.pointer (Option.some (Go.Addr.mk s (0 : Nat) Option.none)))),
                                                                                                            ((5 : Nat), Option.some (Go.Value.int Go.IntKind.i64 n)),
                                                                                                            ((7 : Nat), Option.some (Go.Value.slice (Go.AI.Sl.a s32) (Go.AI.Sl.n s32) (1 : Nat))),
                                                                                                            ((8 : Nat), Option.some (Go.Value.int Go.IntKind.i64 (Go.IntKind.wrap Go.IntKind.i64 (at__1 + (1 : Int))))),
                                                                                                            ((9 : Nat), Option.some (Go.Value.int Go.IntKind.i64 (Go.IntKind.wrap Go.IntKind.i64 (i + (1 : Int)))))]
                                                                                                          σ39))))))
                                                            (Go.AI.ldc σ27 (Go.Addr.mk i14 ((0 : Nat) + (1 : Nat)) Option.none) fun (v49 : Go.Value) ↦
                                                              Go.AI.tI Go.IntKind.u32 v49 fun (n50 : Int) ↦
                                                                Go.AI.req ((0 : Int) ≤ at__1)
                                                                  (Go.AI.req (at__1 < (↑cn : Int))
                                                                    (Go.AI.pSome c fun (a51 : Go.Addr) ↦
                                                                      Go.AI.req (ce = Go.AI.szOf Go.Proofs.Try.prog (32 : Nat))
                                                                        (Go.AI.put1 σ27 (Go.Addr.add a51 (Int.toNat at__1 * Go.AI.szOf Go.Proofs.Try.prog (32 : Nat))) (Go.Value.int Go.IntKind.u32 n50)
                                                                          fun (σ52 : Go.AI.AS) ↦
                                                                          T (15 : Nat) [Go.Value.pointer (Option.some (Go.Addr.mk s (0 : Nat) Option.none)), Go.Value.int Go.IntKind.i64 n] σ52
                                                                            fun (v53 : Go.Value) (σ54 : Go.AI.AS) ↦
                                                                            Go.AI.tTup v53 fun (l55 : List Go.Value) ↦
                                                                              Go.AI.pSome l55[(0 : Nat)]? fun (u56 : Go.Value) ↦
                                                                                Go.AI.tI Go.IntKind.i64 u56 fun (n57 : Int) ↦
                                                                                  Go.AI.tTup v53 fun (l58 : List Go.Value) ↦
                                                                                    Go.AI.pSome l58[(1 : Nat)]? fun (u59 : Go.Value) ↦
                                                                                      Go.AI.tI Go.IntKind.i64 u59 fun (n60 : Int) ↦
                                                                                        Go.AI.tTup v53 fun (l61 : List Go.Value) ↦
                                                                                          Go.AI.pSome l61[(2 : Nat)]? fun (u62 : Go.Value) ↦
                                                                                            Go.AI.tI Go.IntKind.i64 u62 fun (n63 : Int) ↦
                                                                                              Go.AI.bmatch (n57 != Go.IntKind.wrap Go.IntKind.i64 (at__1 + (1 : Int))) (K (Go.Value.bool Bool.false) σ54)
                                                                                                (Go.AI.bmatch (n60 != (↑cn : Int)) (K (Go.Value.bool Bool.false) σ54)
                                                                                                  (X
                                                                                                    [((0 : Nat), Option.some (Go.Value.slice a m (4 : Nat))),
                                                                                                      ((3 : Nat), Option.some (Go.Value.pointer (Option.some (Go.Addr.mk s (0 : Nat) Option.none)))),
                                                                                                      ((5 : Nat), Option.some (Go.Value.int Go.IntKind.i64 n)), ((7 : Nat), Option.some (Go.Value.slice c cn ce)),
                                                                                                      ((8 : Nat), Option.some (Go.Value.int Go.IntKind.i64 (Go.IntKind.wrap Go.IntKind.i64 (at__1 + (1 : Int))))),
                                                                                                      ((9 : Nat), Option.some (Go.Value.int Go.IntKind.i64 (Go.IntKind.wrap Go.IntKind.i64 (i + (1 : Int)))))]
                                                                                                    σ54))))))))
                                          (Go.AI.bmatch (n18 == (1 : Int))
                                            (T (16 : Nat) [Go.Value.pointer (Option.some (Go.Addr.mk s (0 : Nat) Option.none)), Go.Value.int Go.IntKind.i64 n] σ16 fun (v64 : Go.Value) (σ65 : Go.AI.AS) ↦
                                              Go.AI.tTup v64 fun (l66 : List Go.Value) ↦
                                                Go.AI.pSome l66[(0 : Nat)]? fun (u67 : Go.Value) ↦
                                                  Go.AI.tI Go.IntKind.u32 u67 fun (n68 : Int) ↦
                                                    Go.AI.tTup v64 fun (l69 : List Go.Value) ↦
                                                      Go.AI.pSome l69[(1 : Nat)]? fun (u70 : Go.Value) ↦
                                                        Go.AI.tB u70 fun (b71 : Bool) ↦
                                                          Go.AI.tTup v64 fun (l72 : List Go.Value) ↦
                                                            Go.AI.pSome l72[(2 : Nat)]? fun (u73 : Go.Value) ↦
                                                              Go.AI.tI Go.IntKind.i64 u73 fun (n74 : Int) ↦
                                                                T (10 : Nat) [Go.Value.int Go.IntKind.i64 n74] σ65 fun (v75 : Go.Value) (σ76 : Go.AI.AS) ↦
                                                                  Go.AI.tI Go.IntKind.i64 v75 fun (n77 : Int) ↦
                                                                    Go.AI.bmatch (n77 != (0 : Int)) (K (Go.Value.bool Bool.false) σ76)
                                                                      (Go.AI.bmatch (!b71 == Decidable.decide (at__1 < (↑cn : Int))) (K (Go.Value.bool Bool.false) σ76)
                                                                        (Go.AI.bmatch b71
                                                                          (Go.AI.req ((0 : Int) ≤ at__1)
                                                                            (Go.AI.req (at__1 < (↑cn : Int))
                                                                              (Go.AI.pSome c fun (a78 : Go.Addr) ↦
                                                                                Go.AI.req (ce = Go.AI.szOf Go.Proofs.Try.prog (32 : Nat))
                                                                                  (Go.AI.ldc σ76 (Go.Addr.add a78 (Int.toNat at__1 * Go.AI.szOf Go.Proofs.Try.prog (32 : Nat))) fun (v79 : Go.Value) ↦
                                                                                    Go.AI.tI Go.IntKind.u32 v79 fun (n80 : Int) ↦
                                                                                      Go.AI.bmatch (n68 != n80) (K (Go.Value.bool Bool.false) σ76)
                                                                                        (Go.AI.bmatch b71
                                                                                          (T (15 : Nat) [Go.Value.pointer (Option.some (Go.Addr.mk s (0 : Nat) Option.none)), Go.Value.int Go.IntKind.i64 n] σ76
                                                                                            fun (v81 : Go.Value) (σ82 : Go.AI.AS) ↦
                                                                                            Go.AI.tTup v81 fun (l83 : List Go.Value) ↦
                                                                                              Go.AI.pSome l83[(0 : Nat)]? fun (u84 : Go.Value) ↦
                                                                                                Go.AI.tI Go.IntKind.i64 u84 fun (n85 : Int) ↦
                                                                                                  Go.AI.tTup v81 fun (l86 : List Go.Value) ↦
                                                                                                    Go.AI.pSome l86[(1 : Nat)]? fun (u87 : Go.Value) ↦
                                                                                                      Go.AI.tI Go.IntKind.i64 u87 fun (n88 : Int) ↦
                                                                                                        Go.AI.tTup v81 fun (l89 : List Go.Value) ↦
                                                                                                          Go.AI.pSome l89[(2 : Nat)]? fun (u90 : Go.Value) ↦
                                                                                                            Go.AI.tI Go.IntKind.i64 u90 fun (n91 : Int) ↦
                                                                                                              Go.AI.bmatch (n85 != Go.IntKind.wrap Go.IntKind.i64 (at__1 + (1 : Int))) (K (Go.Value.bool Bool.false) σ82)
                                                                                                                (Go.AI.bmatch (n88 != (↑cn : Int)) (K (Go.Value.bool Bool.false) σ82)
                                                                                                                  (X
                                                                                                                    [((0 : Nat), Option.some (Go.Value.slice a m (4 : Nat))),
                                                                                                                      ((3 : Nat), Option.some (Go.Value.pointer (Option.some (Go.Addr.mk s (0 : Nat) Option.none)))),
                                                                                                                      ((5 : Nat), Option.some (Go.Value.int Go.IntKind.i64 n)),
                                                                                                                      ((7 : Nat), Option.some (Go.Value.slice c cn ce)),
                                                                                                                      ((8 : Nat),
                                                                                                                        Option.some (Go.Value.int Go.IntKind.i64 (Go.IntKind.wrap Go.IntKind.i64 (at__1 + (1 : Int))))),
                                                                                                                      ((9 : Nat),
                                                                                                                        Option.some (Go.Value.int Go.IntKind.i64 (Go.IntKind.wrap Go.IntKind.i64 (i + (1 : Int)))))]
                                                                                                                    σ82)))
                                                                                          (T (15 : Nat) [Go.Value.pointer (Option.some (Go.Addr.mk s (0 : Nat) Option.none)), Go.Value.int Go.IntKind.i64 n] σ76
                                                                                            fun (v92 : Go.Value) (σ93 : Go.AI.AS) ↦
                                                                                            Go.AI.tTup v92 fun (l94 : List Go.Value) ↦
                                                                                              Go.AI.pSome l94[(0 : Nat)]? fun (u95 : Go.Value) ↦
                                                                                                Go.AI.tI Go.IntKind.i64 u95 fun (n96 : Int) ↦
                                                                                                  Go.AI.tTup v92 fun (l97 : List Go.Value) ↦
                                                                                                    Go.AI.pSome l97[(1 : Nat)]? fun (u98 : Go.Value) ↦
                                                                                                      Go.AI.tI Go.IntKind.i64 u98 fun (n99 : Int) ↦
                                                                                                        Go.AI.tTup v92 fun (l100 : List Go.Value) ↦
                                                                                                          Go.AI.pSome l100[(2 : Nat)]? fun (u101 : Go.Value) ↦
                                                                                                            Go.AI.tI Go.IntKind.i64 u101 fun (n102 : Int) ↦
                                                                                                              Go.AI.bmatch (n96 != at__1) (K (Go.Value.bool Bool.false) σ93)
                                                                                                                (Go.AI.bmatch (n99 != (↑cn : Int)) (K (Go.Value.bool Bool.false) σ93)
                                                                                                                  (X
                                                                                                                    [((0 : Nat), Option.some (Go.Value.slice a m (4 : Nat))),
                                                                                                                      ((3 : Nat), Option.some (Go.Value.pointer (Option.some (Go.Addr.mk s (0 : Nat) Option.none)))),
                                                                                                                      ((5 : Nat), Option.some (Go.Value.int Go.IntKind.i64 n)),
                                                                                                                      ((7 : Nat), Option.some (Go.Value.slice c cn ce)),
                                                                                                                      ((8 : Nat), Option.some (Go.Value.int Go.IntKind.i64 at__1)),
                                                                                                                      ((9 : Nat),
                                                                                                                        Option.some (Go.Value.int Go.IntKind.i64 (Go.IntKind.wrap Go.IntKind.i64 (i + (1 : Int)))))]
                                                                                                                    σ93))))))))
                                                                          (Go.AI.bmatch b71
                                                                            (T (15 : Nat) [Go.Value.pointer (Option.some (Go.Addr.mk s (0 : Nat) Option.none)), Go.Value.int Go.IntKind.i64 n] σ76
                                                                              fun (v103 : Go.Value) (σ104 : Go.AI.AS) ↦
                                                                              Go.AI.tTup v103 fun (l105 : List Go.Value) ↦
                                                                                Go.AI.pSome l105[(0 : Nat)]? fun (u106 : Go.Value) ↦
                                                                                  Go.AI.tI Go.IntKind.i64 u106 fun (n107 : Int) ↦
                                                                                    Go.AI.tTup v103 fun (l108 : List Go.Value) ↦
                                                                                      Go.AI.pSome l108[(1 : Nat)]? fun (u109 : Go.Value) ↦
                                                                                        Go.AI.tI Go.IntKind.i64 u109 fun (n110 : Int) ↦
                                                                                          Go.AI.tTup v103 fun (l111 : List Go.Value) ↦
                                                                                            Go.AI.pSome l111[(2 : Nat)]? fun (u112 : Go.Value) ↦
                                                                                              Go.AI.tI Go.IntKind.i64 u112 fun (n113 : Int) ↦
                                                                                                Go.AI.bmatch (n107 != Go.IntKind.wrap Go.IntKind.i64 (at__1 + (1 : Int))) (K (Go.Value.bool Bool.false) σ104)
                                                                                                  (Go.AI.bmatch (n110 != (↑cn : Int)) (K (Go.Value.bool Bool.false) σ104)
                                                                                                    (X
                                                                                                      [((0 : Nat), Option.some (Go.Value.slice a m (4 : Nat))),
                                                                                                        ((3 : Nat), Option.some (Go.Value.pointer (Option.some (Go.Addr.mk s (0 : Nat) Option.none)))),
                                                                                                        ((5 : Nat), Option.some (Go.Value.int Go.IntKind.i64 n)), ((7 : Nat), Option.some (Go.Value.slice c cn ce)),
                                                                                                        ((8 : Nat), Option.some (Go.Value.int Go.IntKind.i64 (Go.IntKind.wrap Go.IntKind.i64 (at__1 + (1 : Int))))),
                                                                                                        ((9 : Nat), Option.some (Go.Value.int Go.IntKind.i64 (Go.IntKind.wrap Go.IntKind.i64 (i + (1 : Int)))))]
                                                                                                      σ104)))
                                                                            (T (15 : Nat) [Go.Value.pointer (Option.some (Go.Addr.mk s (0 : Nat) Option.none)), Go.Value.int Go.IntKind.i64 n] σ76
                                                                              fun (v114 : Go.Value) (σ115 : Go.AI.AS) ↦
                                                                              Go.AI.tTup v114 fun (l116 : List Go.Value) ↦
                                                                                Go.AI.pSome l116[(0 : Nat)]? fun (u117 : Go.Value) ↦
                                                                                  Go.AI.tI Go.IntKind.i64 u117 fun (n118 : Int) ↦
                                                                                    Go.AI.tTup v114 fun (l119 : List Go.Value) ↦
                                                                                      Go.AI.pSome l119[(1 : Nat)]? fun (u120 : Go.Value) ↦
                                                                                        Go.AI.tI Go.IntKind.i64 u120 fun (n121 : Int) ↦
                                                                                          Go.AI.tTup v114 fun (l122 : List Go.Value) ↦
                                                                                            Go.AI.pSome l122[(2 : Nat)]? fun (u123 : Go.Value) ↦
                                                                                              Go.AI.tI Go.IntKind.i64 u123 fun (n124 : Int) ↦
                                                                                                Go.AI.bmatch (n118 != at__1) (K (Go.Value.bool Bool.false) σ115)
                                                                                                  (Go.AI.bmatch (n121 != (↑cn : Int)) (K (Go.Value.bool Bool.false) σ115)
                                                                                                    (X
                                                                                                      [((0 : Nat), Option.some (Go.Value.slice a m (4 : Nat))),
                                                                                                        ((3 : Nat), Option.some (Go.Value.pointer (Option.some (Go.Addr.mk s (0 : Nat) Option.none)))),
                                                                                                        ((5 : Nat), Option.some (Go.Value.int Go.IntKind.i64 n)), ((7 : Nat), Option.some (Go.Value.slice c cn ce)),
                                                                                                        ((8 : Nat), Option.some (Go.Value.int Go.IntKind.i64 at__1)),
                                                                                                        ((9 : Nat), Option.some (Go.Value.int Go.IntKind.i64 (Go.IntKind.wrap Go.IntKind.i64 (i + (1 : Int)))))]
                                                                                                      σ115)))))))
                                            (Go.AI.ldc σ16 (Go.Addr.mk i14 ((0 : Nat) + (2 : Nat)) Option.none) fun (v125 : Go.Value) ↦
                                              Go.AI.tI Go.IntKind.i64 v125 fun (n126 : Int) ↦
                                                Go.AI.ldc σ16 (Go.Addr.mk i14 ((0 : Nat) + (3 : Nat)) Option.none) fun (v127 : Go.Value) ↦
                                                  Go.AI.tI Go.IntKind.i64 v127 fun (n128 : Int) ↦
                                                    T (20 : Nat)
                                                      [Go.Value.pointer (Option.some (Go.Addr.mk s (0 : Nat) Option.none)), Go.Value.int Go.IntKind.i64 n,
                                                        Go.Value.int Go.IntKind.i64 (Go.AI.imin (Go.AI.imax n126 (-1000 : Int)) (1000 : Int)), Go.Value.int Go.IntKind.i64 n128]
                                                      σ16 fun (v129 : Go.Value) (σ130 : Go.AI.AS) ↦
                                                      Go.AI.tI Go.IntKind.i64 v129 fun (n131 : Int) ↦
                                                        T (10 : Nat) [Go.Value.int Go.IntKind.i64 n131] σ130 fun (v132 : Go.Value) (σ133 : Go.AI.AS) ↦
                                                          Go.AI.tI Go.IntKind.i64 v132 fun (n134 : Int) ↦
                                                            Go.AI.bmatch (n134 != (0 : Int))
                                                              (Go.AI.bmatch (Decidable.decide (n128 ≥ (0 : Int)))
                                                                (Go.AI.bmatch (Decidable.decide (n128 ≤ (2 : Int))) (K (Go.Value.bool Bool.false) σ133)
                                                                  (X
                                                                    [((0 : Nat), Option.some (Go.Value.slice a m (4 : Nat))),
                                                                      ((3 : Nat), Option.some (Go.Value.pointer (Option.some (Go.Addr.mk s (0 : Nat) Option.none)))),
                                                                      ((5 : Nat), Option.some (Go.Value.int Go.IntKind.i64 n)), ((7 : Nat), Option.some (Go.Value.slice c cn ce)),
                                                                      ((8 : Nat), Option.some (Go.Value.int Go.IntKind.i64 at__1)),
                                                                      ((9 : Nat), Option.some (Go.Value.int Go.IntKind.i64 (Go.IntKind.wrap Go.IntKind.i64 (i + (1 : Int)))))]
                                                                    σ133))
                                                                (X
                                                                  [((0 : Nat), Option.some (Go.Value.slice a m (4 : Nat))),
                                                                    ((3 : Nat), Option.some (Go.Value.pointer (Option.some (Go.Addr.mk s (0 : Nat) Option.none)))),
                                                                    ((5 : Nat), Option.some (Go.Value.int Go.IntKind.i64 n)), ((7 : Nat), Option.some (Go.Value.slice c cn ce)),
                                                                    ((8 : Nat), Option.some (Go.Value.int Go.IntKind.i64 at__1)),
                                                                    ((9 : Nat), Option.some (Go.Value.int Go.IntKind.i64 (Go.IntKind.wrap Go.IntKind.i64 (i + (1 : Int)))))]
                                                                  σ133))
                                                              (Go.AI.newAt σ133
                                                                (Go.AI.AObj.row Go.AI.RK.rw [Go.Value.int Go.IntKind.i64 (0 : Int), Go.Value.int Go.IntKind.i64 at__1, Go.Value.int Go.IntKind.i64 (↑cn : Int)])
                                                                fun (i135 : Nat) (σ136 : Go.AI.AS) ↦
                                                                Go.AI.req ((0 : Int) ≤ n128)
                                                                  (Go.AI.req (n128 < (↑(3 : Nat) : Int))
                                                                    (Go.AI.ldc σ136 (Go.Addr.add (Go.Addr.mk i135 (0 : Nat) Option.none) (Int.toNat n128 * Go.AI.szOf Go.Proofs.Try.prog (3 : Nat))) fun (v137 : Go.Value) ↦
                                                                      Go.AI.tI Go.IntKind.i64 v137 fun (n138 : Int) ↦
                                                                        T (15 : Nat) [Go.Value.pointer (Option.some (Go.Addr.mk s (0 : Nat) Option.none)), Go.Value.int Go.IntKind.i64 n] σ136
                                                                          fun (v139 : Go.Value) (σ140 : Go.AI.AS) ↦
                                                                          Go.AI.tTup v139 fun (l141 : List Go.Value) ↦
                                                                            Go.AI.pSome l141[(0 : Nat)]? fun (u142 : Go.Value) ↦
                                                                              Go.AI.tI Go.IntKind.i64 u142 fun (n143 : Int) ↦
                                                                                Go.AI.tTup v139 fun (l144 : List Go.Value) ↦
                                                                                  Go.AI.pSome l144[(1 : Nat)]? fun (u145 : Go.Value) ↦
                                                                                    Go.AI.tI Go.IntKind.i64 u145 fun (n146 : Int) ↦
                                                                                      Go.AI.tTup v139 fun (l147 : List Go.Value) ↦
                                                                                        Go.AI.pSome l147[(2 : Nat)]? fun (u148 : Go.Value) ↦
                                                                                          Go.AI.tI Go.IntKind.i64 u148 fun (n149 : Int) ↦
                                                                                            Go.AI.bmatch
                                                                                              (n143 !=
                                                                                                Go.AI.imin
                                                                                                  (Go.AI.imax (Go.IntKind.wrap Go.IntKind.i64 (n138 + Go.AI.imin (Go.AI.imax n126 (-1000 : Int)) (1000 : Int))) (0 : Int))
                                                                                                  (↑cn : Int))
                                                                                              (K (Go.Value.bool Bool.false) σ140)
                                                                                              (Go.AI.bmatch (n146 != (↑cn : Int)) (K (Go.Value.bool Bool.false) σ140)
                                                                                                (X
                                                                                                  [((0 : Nat), Option.some (Go.Value.slice a m (4 : Nat))),
                                                                                                    ((3 : Nat), Option.some (Go.Value.pointer (Option.some (Go.Addr.mk s (0 : Nat) Option.none)))),
                                                                                                    ((5 : Nat), Option.some (Go.Value.int Go.IntKind.i64 n)), ((7 : Nat), Option.some (Go.Value.slice c cn ce)),
                                                                                                    ((8 : Nat),
                                                                                                      Option.some
                                                                                                        (Go.Value.int Go.IntKind.i64
                                                                                                          (Go.AI.imin
                                                                                                            (Go.AI.imax (Go.IntKind.wrap Go.IntKind.i64 (n138 + Go.AI.imin (Go.AI.imax n126 (-1000 : Int)) (1000 : Int)))
                                                                                                              (0 : Int))
                                                                                                            (↑cn : Int)))),
                                                                                                    ((9 : Nat), Option.some (Go.Value.int Go.IntKind.i64 (Go.IntKind.wrap Go.IntKind.i64 (i + (1 : Int)))))]
                                                                                                  σ140)))))))))))
      (T (21 : Nat) [Go.Value.pointer (Option.some (Go.Addr.mk s (0 : Nat) Option.none)), Go.Value.string (ByteArray.mk #[(102 : UInt8)])] σ fun (v150 : Go.Value) (σ151 : Go.AI.AS) ↦
        Go.AI.tTup v150 fun (l152 : List Go.Value) ↦
          Go.AI.pSome l152[(0 : Nat)]? fun (u153 : Go.Value) ↦
            Go.AI.tL (1 : Nat) u153 fun (s154 : Go.AI.Sl) ↦
              Go.AI.tTup v150 fun (l155 : List Go.Value) ↦
                Go.AI.pSome l155[(1 : Nat)]? fun (u156 : Go.Value) ↦
                  Go.AI.tB u156 fun (b157 : Bool) ↦
                    Go.AI.bmatch b157
                      (Go.AI.bmatch ((↑(Go.AI.Sl.n s154) : Int) == Go.IntKind.wrap Go.IntKind.i64 ((4 : Int) * (↑cn : Int)))
                        (T (11 : Nat) [] σ151 fun (v158 : Go.Value) (σ159 : Go.AI.AS) ↦ Go.AI.tB v158 fun (b160 : Bool) ↦ K (Go.Value.bool b160) σ159) (K (Go.Value.bool Bool.false) σ151))
                      (K (Go.Value.bool Bool.false) σ151)) := by
  intros
  kernel_rfl

end Go.AI
