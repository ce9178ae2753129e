/- The conditions ahead of the calls of the program's functions, reckoned as far as they go (equations that the kernel checks); no condition. -/
import Derived.Test.YtfjbhgldbgamhaaTxSoft
import Derived.Test.YtfjbhgldbgamhaaAISep
set_option maxRecDepth 1000000
set_option linter.unusedVariables false
namespace Go.AI
open Go.Proofs
theorem s6 : ∀ (T : Ct) (t x mo mr : Int) (a : Option Addr) (m : Nat) (σ : AS) (K : Value → AS → Prop),
  fw Proofs.Try.prog hintsS T (6 : Nat)
      [Value.slice a m (1 : Nat), Value.int IntKind.u32 t, Value.int IntKind.u32 x, Value.int IntKind.i64 mo, Value.int IntKind.i64 mr] σ K =
    bmatch (Decidable.decide ((↑m : Int) > (16384 : Int))) (T (9 : Nat) [] σ fun (v0 : Value) (σ1 : AS) ↦ tB v0 fun (b2 : Bool) ↦ K (Value.bool b2) σ1)
      (bmatch (Decidable.decide (mo < (0 : Int))) (T (9 : Nat) [] σ fun (v3 : Value) (σ4 : AS) ↦ tB v3 fun (b5 : Bool) ↦ K (Value.bool b5) σ4)
        (bmatch (Decidable.decide (mo > (300 : Int))) (T (9 : Nat) [] σ fun (v6 : Value) (σ7 : AS) ↦ tB v6 fun (b8 : Bool) ↦ K (Value.bool b8) σ7)
          (bmatch (Decidable.decide (mr < (0 : Int))) (T (9 : Nat) [] σ fun (v9 : Value) (σ10 : AS) ↦ tB v9 fun (b11 : Bool) ↦ K (Value.bool b11) σ10)
            (bmatch (Decidable.decide (mr > (300 : Int))) (T (9 : Nat) [] σ fun (v12 : Value) (σ13 : AS) ↦ tB v12 fun (b14 : Bool) ↦ K (Value.bool b14) σ13)
              (T (18 : Nat) [Value.slice a m (1 : Nat), Value.int IntKind.u32 t, Value.int IntKind.u32 x, Value.int IntKind.i64 mo] σ fun (v15 : Value) (σ16 : AS) ↦
                tTup v15 fun (l17 : List Value) ↦
                  pSome l17[(0 : Nat)]? fun (u18 : Value) ↦
                    tL (1 : Nat) u18 fun (s19 : Sl) ↦
                      tTup v15 fun (l20 : List Value) ↦
                        pSome l20[(1 : Nat)]? fun (u21 : Value) ↦
                          tB u21 fun (b22 : Bool) ↦
                            tTup v15 fun (l23 : List Value) ↦
                              pSome l23[(2 : Nat)]? fun (u24 : Value) ↦
                                tI IntKind.i64 u24 fun (n25 : Int) ↦
                                  T (18 : Nat)
                                    [Value.slice a m (1 : Nat), Value.int IntKind.u32 t, Value.int IntKind.u32 x, Value.int IntKind.i64 (IntKind.wrap IntKind.i64 (mo + mr))] σ16
                                    fun (v26 : Value) (σ27 : AS) ↦
                                    tTup v26 fun (l28 : List Value) ↦
                                      pSome l28[(0 : Nat)]? fun (u29 : Value) ↦
                                        tL (1 : Nat) u29 fun (s30 : Sl) ↦
                                          tTup v26 fun (l31 : List Value) ↦
                                            pSome l31[(1 : Nat)]? fun (u32 : Value) ↦
                                              tB u32 fun (b33 : Bool) ↦
                                                tTup v26 fun (l34 : List Value) ↦
                                                  pSome l34[(2 : Nat)]? fun (u35 : Value) ↦
                                                    tI IntKind.i64 u35 fun (n36 : Int) ↦
                                                      T (15 : Nat) [Value.int IntKind.i64 n25] σ27 fun (v37 : Value) (σ38 : AS) ↦
                                                        tI IntKind.i64 v37 fun (n39 : Int) ↦
                                                          bmatch (n39 != (0 : Int))
                                                            (bmatch ((↑(Sl.n s19) : Int) == (0 : Int))
                                                              (bmatch (!b22)
                                                                (bmatch (n25 == n36) (T (9 : Nat) [] σ38 fun (v40 : Value) (σ41 : AS) ↦ tB v40 fun (b42 : Bool) ↦ K (Value.bool b42) σ41)
                                                                  (K (Value.bool Bool.false) σ38))
                                                                (K (Value.bool Bool.false) σ38))
                                                              (K (Value.bool Bool.false) σ38))
                                                            (T (15 : Nat) [Value.int IntKind.i64 n36] σ38 fun (v43 : Value) (σ44 : AS) ↦
                                                              tI IntKind.i64 v43 fun (n45 : Int) ↦
                                                                bmatch (n45 == (0 : Int))
                                                                  (bmatch (Decidable.decide ((↑(Sl.n s30) : Int) < (↑(Sl.n s19) : Int))) (K (Value.bool Bool.false) σ44)
                                                                    (req ((0 : Int) ≤ (↑(Sl.n s19) : Int))
                                                                      (req ((↑(Sl.n s19) : Int) ≤ (↑(Sl.n s30) : Int))
                                                                        (T (16 : Nat)
                                                                          [Value.slice
                                                                              (Option.map (fun (x_2 : Addr) ↦ Addr.add x_2 (Int.toNat (0 : Int) * szOf Proofs.Try.prog (22 : Nat))) (Sl.a s30))
                                                                              (Int.toNat ((↑(Sl.n s19) : Int) - (0 : Int))) (1 : Nat),
                                                                            Value.slice (Sl.a s19) (Sl.n s19) (1 : Nat)]
                                                                          σ44 fun (v46 : Value) (σ47 : AS) ↦
                                                                          tB v46 fun (b48 : Bool) ↦
                                                                            bmatch (!b48) (K (Value.bool Bool.false) σ47)
                                                                              (bmatch b22
                                                                                (bmatch (!b33) (K (Value.bool Bool.false) σ47)
                                                                                  (bmatch ((↑(Sl.n s30) : Int) != (↑(Sl.n s19) : Int)) (K (Value.bool Bool.false) σ47)
                                                                                    (T (20 : Nat) [Value.slice a m (1 : Nat), Value.int IntKind.u32 x] σ47 fun (v49 : Value) (σ50 : AS) ↦
                                                                                      tTup v49 fun (l51 : List Value) ↦
                                                                                        pSome l51[(0 : Nat)]? fun (u52 : Value) ↦
                                                                                          tAgg u52 fun (l53 : List Value) ↦
                                                                                            tCons l53 fun (v54 : Value) (l55 : List Value) ↦
                                                                                              tI IntKind.i64 v54 fun (n56 : Int) ↦
                                                                                                tCons l55 fun (v57 : Value) (l58 : List Value) ↦
                                                                                                  tI IntKind.u32 v57 fun (n59 : Int) ↦
                                                                                                    tCons l58 fun (v60 : Value) (l61 : List Value) ↦
                                                                                                      tI IntKind.u32 v60 fun (n62 : Int) ↦
                                                                                                        tNil l61
                                                                                                          (tTup v49 fun (l63 : List Value) ↦
                                                                                                            pSome l63[(1 : Nat)]? fun (u64 : Value) ↦
                                                                                                              tI IntKind.i64 u64 fun (n65 : Int) ↦
                                                                                                                newAt σ50
                                                                                                                  (AObj.row RK.plain
                                                                                                                    [Value.int IntKind.i64 (0 : Int), Value.int IntKind.u32 (0 : Int),
                                                                                                                      Value.int IntKind.u32 (0 : Int)])
                                                                                                                  fun (i66 : Nat) (σ67 : AS) ↦
                                                                                                                  puts σ67 (Addr.mk i66 (0 : Nat) Option.none)
                                                                                                                    [Value.int IntKind.i64 n56, Value.int IntKind.u32 n59, Value.int IntKind.u32 n62]
                                                                                                                    fun (σ68 : AS) ↦
                                                                                                                    ALoop
                                                                                                                      (fl Proofs.Try.prog hintsS T (6 : Nat)
                                                                                                                        [Bool.true, Bool.true, Bool.true, Bool.true, Bool.true, Bool.true, Bool.true, Bool.true, Bool.false,
                                                                                                                          Bool.true, Bool.false]
                                                                                                                        [] K)
                                                                                                                      [((0 : Nat), Option.some (Value.slice a m (1 : Nat))),
                                                                                                                        ((1 : Nat), Option.some (Value.int IntKind.u32 t)),
                                                                                                                        ((11 : Nat), Option.some (Value.slice (Sl.a s19) (Sl.n s19) (1 : Nat))),
                                                                                                                        ((17 : Nat), Option.some (Value.pointer (Option.some (Addr.mk i66 (0 : Nat) Option.none)))),
                                                                                                                        ((18 : Nat), Option.some (Value.int IntKind.i64 n65)),
                                                                                                                        ((19 : Nat), Option.some (Value.int IntKind.i64 (0 : Int))),
                                                                                                                        ((20 : Nat), Option.some (Value.int IntKind.i64 (0 : Int)))]
                                                                                                                      σ68))))
                                                                                (T (20 : Nat) [Value.slice a m (1 : Nat), Value.int IntKind.u32 x] σ47 fun (v69 : Value) (σ70 : AS) ↦
                                                                                  tTup v69 fun (l71 : List Value) ↦
                                                                                    pSome l71[(0 : Nat)]? fun (u72 : Value) ↦
                                                                                      tAgg u72 fun (l73 : List Value) ↦
                                                                                        tCons l73 fun (v74 : Value) (l75 : List Value) ↦
                                                                                          tI IntKind.i64 v74 fun (n76 : Int) ↦
                                                                                            tCons l75 fun (v77 : Value) (l78 : List Value) ↦
                                                                                              tI IntKind.u32 v77 fun (n79 : Int) ↦
                                                                                                tCons l78 fun (v80 : Value) (l81 : List Value) ↦
                                                                                                  tI IntKind.u32 v80 fun (n82 : Int) ↦
                                                                                                    tNil l81
                                                                                                      (tTup v69 fun (l83 : List Value) ↦
                                                                                                        pSome l83[(1 : Nat)]? fun (u84 : Value) ↦
                                                                                                          tI IntKind.i64 u84 fun (n85 : Int) ↦
                                                                                                            newAt σ70
                                                                                                              (AObj.row RK.plain
                                                                                                                [Value.int IntKind.i64 (0 : Int), Value.int IntKind.u32 (0 : Int),
                                                                                                                  Value.int IntKind.u32 (0 : Int)])
                                                                                                              fun (i86 : Nat) (σ87 : AS) ↦
                                                                                                              puts σ87 (Addr.mk i86 (0 : Nat) Option.none)
                                                                                                                [Value.int IntKind.i64 n76, Value.int IntKind.u32 n79, Value.int IntKind.u32 n82]
                                                                                                                fun (σ88 : AS) ↦
                                                                                                                ALoop
                                                                                                                  (fl Proofs.Try.prog hintsS T (6 : Nat)
                                                                                                                    [Bool.true, Bool.true, Bool.true, Bool.true, Bool.true, Bool.true, Bool.true, Bool.true, Bool.false,
                                                                                                                      Bool.true, Bool.false]
                                                                                                                    [] K)
                                                                                                                  [((0 : Nat), Option.some (Value.slice a m (1 : Nat))),
                                                                                                                    ((1 : Nat), Option.some (Value.int IntKind.u32 t)),
                                                                                                                    ((11 : Nat), Option.some (Value.slice (Sl.a s19) (Sl.n s19) (1 : Nat))),
                                                                                                                    ((17 : Nat), Option.some (Value.pointer (Option.some (Addr.mk i86 (0 : Nat) Option.none)))),
                                                                                                                    ((18 : Nat), Option.some (Value.int IntKind.i64 n85)),
                                                                                                                    ((19 : Nat), Option.some (Value.int IntKind.i64 (0 : Int))),
                                                                                                                    ((20 : Nat), Option.some (Value.int IntKind.i64 (0 : Int)))]
                                                                                                                  σ88)))))))
                                                                  (T (20 : Nat) [Value.slice a m (1 : Nat), Value.int IntKind.u32 x] σ44 fun (v89 : Value) (σ90 : AS) ↦
                                                                    tTup v89 fun (l91 : List Value) ↦
                                                                      pSome l91[(0 : Nat)]? fun (u92 : Value) ↦
                                                                        tAgg u92 fun (l93 : List Value) ↦
                                                                          tCons l93 fun (v94 : Value) (l95 : List Value) ↦
                                                                            tI IntKind.i64 v94 fun (n96 : Int) ↦
                                                                              tCons l95 fun (v97 : Value) (l98 : List Value) ↦
                                                                                tI IntKind.u32 v97 fun (n99 : Int) ↦
                                                                                  tCons l98 fun (v100 : Value) (l101 : List Value) ↦
                                                                                    tI IntKind.u32 v100 fun (n102 : Int) ↦
                                                                                      tNil l101
                                                                                        (tTup v89 fun (l103 : List Value) ↦
                                                                                          pSome l103[(1 : Nat)]? fun (u104 : Value) ↦
                                                                                            tI IntKind.i64 u104 fun (n105 : Int) ↦
                                                                                              newAt σ90
                                                                                                (AObj.row RK.plain
                                                                                                  [Value.int IntKind.i64 (0 : Int), Value.int IntKind.u32 (0 : Int), Value.int IntKind.u32 (0 : Int)])
                                                                                                fun (i106 : Nat) (σ107 : AS) ↦
                                                                                                puts σ107 (Addr.mk i106 (0 : Nat) Option.none)
                                                                                                  [Value.int IntKind.i64 n96, Value.int IntKind.u32 n99, Value.int IntKind.u32 n102]
                                                                                                  fun (σ108 : AS) ↦
                                                                                                  ALoop
                                                                                                    (fl Proofs.Try.prog hintsS T (6 : Nat)
                                                                                                      [Bool.true, Bool.true, Bool.true, Bool.true, Bool.true, Bool.true, Bool.true, Bool.true, Bool.false, Bool.true,
                                                                                                        Bool.false]
                                                                                                      [] K)
                                                                                                    [((0 : Nat), Option.some (Value.slice a m (1 : Nat))),
                                                                                                      ((1 : Nat), Option.some (Value.int IntKind.u32 t)),
                                                                                                      ((11 : Nat), Option.some (Value.slice (Sl.a s19) (Sl.n s19) (1 : Nat))),
                                                                                                      ((17 : Nat), Option.some (Value.pointer (Option.some (Addr.mk i106 (0 : Nat) Option.none)))),
                                                                                                      ((18 : Nat), Option.some (Value.int IntKind.i64 n105)),
                                                                                                      ((19 : Nat), Option.some (Value.int IntKind.i64 (0 : Int))),
                                                                                                      ((20 : Nat), Option.some (Value.int IntKind.i64 (0 : Int)))]
                                                                                                    σ108)))))))) := by
  intros
  kernel_rfl

theorem s6l : ∀ (T : Ct) (t n i : Int) (a la : Option Addr) (m lm le c : Nat) (g : Int) (X : Regs → AS → Prop) (σ : AS) (K : Value → AS → Prop),
  fl Proofs.Try.prog hintsS T (6 : Nat) [Bool.true, Bool.true, Bool.true, Bool.true, Bool.true, Bool.true, Bool.true, Bool.true, Bool.false, Bool.true, Bool.false] [] K X
      [((0 : Nat), Option.some (Value.slice a m (1 : Nat))), ((1 : Nat), Option.some (Value.int IntKind.u32 t)), ((11 : Nat), Option.some (Value.slice la lm le)),
        ((17 : Nat), Option.some (Value.pointer (Option.some (Addr.mk c (0 : Nat) Option.none)))), ((18 : Nat), Option.some (Value.int IntKind.i64 g)),
        ((19 : Nat), Option.some (Value.int IntKind.i64 n)), ((20 : Nat), Option.some (Value.int IntKind.i64 i))]
      σ =
    bmatch (Decidable.decide (i < (77312 : Int)))
      (bmatch (Decidable.decide (n < (↑lm : Int)))
        (lds σ (Addr.mk c (0 : Nat) Option.none) (3 : Nat) fun (l0 : List Value) ↦
          tCons l0 fun (v1 : Value) (l2 : List Value) ↦
            tI IntKind.i64 v1 fun (n3 : Int) ↦
              tCons l2 fun (v4 : Value) (l5 : List Value) ↦
                tI IntKind.u32 v4 fun (n6 : Int) ↦
                  tCons l5 fun (v7 : Value) (l8 : List Value) ↦
                    tI IntKind.u32 v7 fun (n9 : Int) ↦
                      tNil l8
                        (T (21 : Nat)
                          [Value.slice a m (1 : Nat), Value.int IntKind.u32 t, Value.agg (Array.mk [Value.int IntKind.i64 n3, Value.int IntKind.u32 n6, Value.int IntKind.u32 n9])] σ
                          fun (v10 : Value) (σ11 : AS) ↦
                          tTup v10 fun (l12 : List Value) ↦
                            pSome l12[(0 : Nat)]? fun (u13 : Value) ↦
                              tAgg u13 fun (l14 : List Value) ↦
                                tCons l14 fun (v15 : Value) (l16 : List Value) ↦
                                  tI IntKind.i64 v15 fun (n17 : Int) ↦
                                    tCons l16 fun (v18 : Value) (l19 : List Value) ↦
                                      tL (1 : Nat) v18 fun (s20 : Sl) ↦
                                        tCons l19 fun (v21 : Value) (l22 : List Value) ↦
                                          tI IntKind.u32 v21 fun (n23 : Int) ↦
                                            tCons l22 fun (v24 : Value) (l25 : List Value) ↦
                                              tL (1 : Nat) v24 fun (s26 : Sl) ↦
                                                tNil l25
                                                  (tTup v10 fun (l27 : List Value) ↦
                                                    pSome l27[(1 : Nat)]? fun (u28 : Value) ↦
                                                      tAgg u28 fun (l29 : List Value) ↦
                                                        tCons l29 fun (v30 : Value) (l31 : List Value) ↦
                                                          tI IntKind.i64 v30 fun (n32 : Int) ↦
                                                            tCons l31 fun (v33 : Value) (l34 : List Value) ↦
                                                              tI IntKind.u32 v33 fun (n35 : Int) ↦
                                                                tCons l34 fun (v36 : Value) (l37 : List Value) ↦
                                                                  tI IntKind.u32 v36 fun (n38 : Int) ↦
                                                                    tNil l37
                                                                      (tTup v10 fun (l39 : List Value) ↦
                                                                        pSome l39[(2 : Nat)]? fun (u40 : Value) ↦
                                                                          tI IntKind.i64 u40 fun (n41 : Int) ↦
                                                                            newAt σ11
                                                                              (AObj.row RK.plain
                                                                                [Value.int IntKind.i64 (0 : Int), Value.slice Option.none (0 : Nat) (0 : Nat), Value.int IntKind.u32 (0 : Int),
                                                                                  Value.slice Option.none (0 : Nat) (0 : Nat)])
                                                                              fun (i42 : Nat) (σ43 : AS) ↦
                                                                              newAt σ43
                                                                                (AObj.row RK.plain
                                                                                  [Value.int IntKind.i64 (0 : Int), Value.int IntKind.u32 (0 : Int), Value.int IntKind.u32 (0 : Int)])
                                                                                fun (i44 : Nat) (σ45 : AS) ↦
                                                                                puts σ45 (Addr.mk i42 (0 : Nat) Option.none)
                                                                                  [Value.int IntKind.i64 n17, Value.slice (Sl.a s20) (Sl.n s20) (1 : Nat), Value.int IntKind.u32 n23,
                                                                                    Value.slice (Sl.a s26) (Sl.n s26) (1 : Nat)]
                                                                                  fun (σ46 : AS) ↦
                                                                                  puts σ46 (Addr.mk i44 (0 : Nat) Option.none)
                                                                                    [Value.int IntKind.i64 n32, Value.int IntKind.u32 n35, Value.int IntKind.u32 n38] fun (σ47 : AS) ↦
                                                                                    T (15 : Nat) [Value.int IntKind.i64 g] σ47 fun (v48 : Value) (σ49 : AS) ↦
                                                                                      tI IntKind.i64 v48 fun (n50 : Int) ↦
                                                                                        T (15 : Nat) [Value.int IntKind.i64 n41] σ49 fun (v51 : Value) (σ52 : AS) ↦
                                                                                          tI IntKind.i64 v51 fun (n53 : Int) ↦
                                                                                            bmatch (IntKind.wrap IntKind.i64 (n50 + n53) != (0 : Int)) (K (Value.bool Bool.false) σ52)
                                                                                              (ldc σ52 (Addr.mk i42 (0 : Nat) Option.none) fun (v54 : Value) ↦
                                                                                                tI IntKind.i64 v54 fun (n55 : Int) ↦
                                                                                                  bmatch (n55 != (2 : Int)) (K (Value.bool Bool.false) σ52)
                                                                                                    (ldc σ52 (Addr.mk i42 ((0 : Nat) + (1 : Nat)) Option.none) fun (v56 : Value) ↦
                                                                                                      tL (1 : Nat) v56 fun (s57 : Sl) ↦
                                                                                                        ldc σ52 (Addr.mk i42 ((0 : Nat) + (1 : Nat)) Option.none) fun (v58 : Value) ↦
                                                                                                          tL (1 : Nat) v58 fun (s59 : Sl) ↦
                                                                                                            req
                                                                                                              ((0 : Int) ≤ imin (↑(Sl.n s57) : Int) (IntKind.wrap IntKind.i64 ((↑lm : Int) - n)))
                                                                                                              (req
                                                                                                                (imin (↑(Sl.n s57) : Int) (IntKind.wrap IntKind.i64 ((↑lm : Int) - n)) ≤
                                                                                                                  (↑(Sl.n s59) : Int))
                                                                                                                (req ((0 : Int) ≤ n)
                                                                                                                  (req
                                                                                                                    (n ≤
                                                                                                                      IntKind.wrap IntKind.i64
                                                                                                                        (n + imin (↑(Sl.n s57) : Int) (IntKind.wrap IntKind.i64 ((↑lm : Int) - n))))
                                                                                                                    (req
                                                                                                                      (IntKind.wrap IntKind.i64
                                                                                                                          (n +
                                                                                                                            imin (↑(Sl.n s57) : Int) (IntKind.wrap IntKind.i64 ((↑lm : Int) - n))) ≤
                                                                                                                        (↑lm : Int))
                                                                                                                      (chk (nilOr la le (szOf Proofs.Try.prog (22 : Nat)))
                                                                                                                        (T (16 : Nat)
                                                                                                                          [Value.slice
                                                                                                                              (Option.map
                                                                                                                                (fun (x : Addr) ↦
                                                                                                                                  Addr.add x (Int.toNat (0 : Int) * szOf Proofs.Try.prog (22 : Nat)))
                                                                                                                                (Sl.a s59))
                                                                                                                              (Int.toNat
                                                                                                                                (imin (↑(Sl.n s57) : Int)
                                                                                                                                    (IntKind.wrap IntKind.i64 ((↑lm : Int) - n)) -
                                                                                                                                  (0 : Int)))
                                                                                                                              (1 : Nat),
                                                                                                                            Value.slice
                                                                                                                              (Option.map
                                                                                                                                (fun (x : Addr) ↦
                                                                                                                                  Addr.add x (Int.toNat n * szOf Proofs.Try.prog (22 : Nat)))
                                                                                                                                la)
                                                                                                                              (Int.toNat
                                                                                                                                (IntKind.wrap IntKind.i64
                                                                                                                                    (n +
                                                                                                                                      imin (↑(Sl.n s57) : Int)
                                                                                                                                        (IntKind.wrap IntKind.i64 ((↑lm : Int) - n))) -
                                                                                                                                  n))
                                                                                                                              (1 : Nat)]
                                                                                                                          σ52 fun (v60 : Value) (σ61 : AS) ↦
                                                                                                                          tB v60 fun (b62 : Bool) ↦
                                                                                                                            bmatch (!b62) (K (Value.bool Bool.false) σ61)
                                                                                                                              (lds σ61 (Addr.mk i44 (0 : Nat) Option.none) (3 : Nat) fun (l63 : List Value) ↦
                                                                                                                                tCons l63 fun (v64 : Value) (l65 : List Value) ↦
                                                                                                                                  tI IntKind.i64 v64 fun (n66 : Int) ↦
                                                                                                                                    tCons l65 fun (v67 : Value) (l68 : List Value) ↦
                                                                                                                                      tI IntKind.u32 v67 fun (n69 : Int) ↦
                                                                                                                                        tCons l68 fun (v70 : Value) (l71 : List Value) ↦
                                                                                                                                          tI IntKind.u32 v70 fun (n72 : Int) ↦
                                                                                                                                            tNil l71
                                                                                                                                              (puts σ61 (Addr.mk c (0 : Nat) Option.none)
                                                                                                                                                [Value.int IntKind.i64 n66, Value.int IntKind.u32 n69,
                                                                                                                                                  Value.int IntKind.u32 n72]
                                                                                                                                                fun (σ73 : AS) ↦
                                                                                                                                                X
                                                                                                                                                  [((0 : Nat), Option.some (Value.slice a m (1 : Nat))),
                                                                                                                                                    ((1 : Nat), Option.some (Value.int IntKind.u32 t)),
                                                                                                                                                    ((11 : Nat), Option.some (Value.slice la lm le)),
                                                                                                                                                    ((17 : Nat),
                                                                                                                                                      Option.some
                                                                                                                                                        (Value.pointer
                                                                                                                                                          (Option.some (Addr.mk c (0 : Nat) Option.none)))),
                                                                                                                                                    ((18 : Nat), Option.some (Value.int IntKind.i64 g)),
                                                                                                                                                    ((19 : Nat),
                                                                                                                                                      Option.some
                                                                                                                                                        (Value.int IntKind.i64
                                                                                                                                                          (IntKind.wrap IntKind.i64
                                                                                                                                                            (n +
                                                                                                                                                              imin (↑(Sl.n s57) : Int)
                                                                                                                                                                (IntKind.wrap IntKind.i64 ((↑lm : Int) - n)))))),
                                                                                                                                                    ((20 : Nat),
                                                                                                                                                      Option.some
                                                                                                                                                        (Value.int IntKind.i64
                                                                                                                                                          (IntKind.wrap IntKind.i64 (i + (1 : Int)))))]
                                                                                                                                                  σ73))))))))))))))
        (bmatch (n == (↑lm : Int)) (T (9 : Nat) [] σ fun (v74 : Value) (σ75 : AS) ↦ tB v74 fun (b76 : Bool) ↦ K (Value.bool b76) σ75) (K (Value.bool Bool.false) σ)))
      (bmatch (n == (↑lm : Int)) (T (9 : Nat) [] σ fun (v77 : Value) (σ78 : AS) ↦ tB v77 fun (b79 : Bool) ↦ K (Value.bool b79) σ78) (K (Value.bool Bool.false) σ)) := by
  intros
  kernel_rfl

end Go.AI
