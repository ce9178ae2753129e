/- The conditions ahead of the calls of the program's functions, reckoned as far as they go (equations that the kernel checks); no condition. -/
import Derived.Test.YtfjbhgldbgamhaaTxSoft
import Derived.Test.YtfjbhgldbgamhaaAISep
set_option maxRecDepth 1000000
set_option linter.unusedVariables false
namespace Go.AI
open Go.Proofs
theorem s41 : ∀ (T : Ct) (n : Int) (σ : AS) (K : Value → AS → Prop),
  fw Proofs.Try.prog hintsS T (41 : Nat) [Value.int IntKind.i64 n] σ K =
    bmatch (n == (1 : Int)) (K (Value.bool Bool.true) σ) (bmatch (n == (2 : Int)) (K (Value.bool Bool.true) σ) (K (Value.bool (n == (4 : Int))) σ)) := by
  intros
  kernel_rfl

theorem s42 : ∀ (T : Ct) (a : Option Addr) (m : Nat) (at__1 n : Int) (σ : AS) (K : Value → AS → Prop),
  fw Proofs.Try.prog hintsS T (42 : Nat) [Value.slice a m (1 : Nat), Value.int IntKind.i64 at__1, Value.int IntKind.i64 n] σ K =
    T (41 : Nat) [Value.int IntKind.i64 n] σ fun (v0 : Value) (σ1 : AS) ↦
      tB v0 fun (b2 : Bool) ↦
        bmatch (!b2) (K (Value.tuple (Array.mk [Value.int IntKind.u32 (0 : Int), Value.int IntKind.i64 (1 : Int)])) σ1)
          (bmatch (Decidable.decide (at__1 < (0 : Int))) (K (Value.tuple (Array.mk [Value.int IntKind.u32 (0 : Int), Value.int IntKind.i64 (1 : Int)])) σ1)
            (bmatch (Decidable.decide (at__1 > (↑m : Int))) (K (Value.tuple (Array.mk [Value.int IntKind.u32 (0 : Int), Value.int IntKind.i64 (2 : Int)])) σ1)
              (bmatch (Decidable.decide (IntKind.wrap IntKind.i64 ((↑m : Int) - at__1) < n))
                (K (Value.tuple (Array.mk [Value.int IntKind.u32 (0 : Int), Value.int IntKind.i64 (2 : Int)])) σ1)
                (req ((0 : Int) ≤ at__1)
                  (req (at__1 ≤ IntKind.wrap IntKind.i64 (at__1 + n))
                    (req (IntKind.wrap IntKind.i64 (at__1 + n) ≤ (↑m : Int))
                      (ALoop (fl Proofs.Try.prog hintsS T (42 : Nat) [Bool.true, Bool.true, Bool.true, Bool.false, Bool.true, Bool.false] [] K)
                        [((8 : Nat), Option.some (Value.int IntKind.u32 (0 : Int))),
                          ((37 : Nat),
                            Option.some
                              (Value.slice (Option.map (fun (x : Addr) ↦ Addr.add x (Int.toNat at__1 * szOf Proofs.Try.prog (5 : Nat))) a)
                                (Int.toNat (IntKind.wrap IntKind.i64 (at__1 + n) - at__1)) (1 : Nat))),
                          ((38 : Nat), Option.some (Value.int IntKind.i64 (↑(Int.toNat (IntKind.wrap IntKind.i64 (at__1 + n) - at__1)) : Int))),
                          ((39 : Nat), Option.some (Value.int IntKind.i64 (0 : Int)))]
                        σ1))))))) := by
  intros
  kernel_rfl

theorem s42l : ∀ (T : Ct) (x : Int) (a : Option Addr) (m : Nat) (len i : Int) (X : Regs → AS → Prop) (σ : AS) (K : Value → AS → Prop),
  fl Proofs.Try.prog hintsS T (42 : Nat) [Bool.true, Bool.true, Bool.true, Bool.false, Bool.true, Bool.false] [] K X
      [((8 : Nat), Option.some (Value.int IntKind.u32 x)), ((37 : Nat), Option.some (Value.slice a m (1 : Nat))), ((38 : Nat), Option.some (Value.int IntKind.i64 len)),
        ((39 : Nat), Option.some (Value.int IntKind.i64 i))]
      σ =
    bmatch (Decidable.decide (i < len))
      (req ((0 : Int) ≤ i)
        (req (i < (↑m : Int))
          (pSome a fun (a0 : Addr) ↦
            ldc σ (Addr.add a0 (Int.toNat i * szOf Proofs.Try.prog (5 : Nat))) fun (v1 : Value) ↦
              tI IntKind.u8 v1 fun (n2 : Int) ↦
                X
                  [((8 : Nat), Option.some (Value.int IntKind.u32 (ior IntKind.u32 (ishl IntKind.u32 x (8 : Int)) (IntKind.wrap IntKind.u32 n2)))),
                    ((37 : Nat), Option.some (Value.slice a m (1 : Nat))), ((38 : Nat), Option.some (Value.int IntKind.i64 len)),
                    ((39 : Nat), Option.some (Value.int IntKind.i64 (IntKind.wrap IntKind.i64 (i + (1 : Int)))))]
                  σ)))
      (K (Value.tuple (Array.mk [Value.int IntKind.u32 x, Value.int IntKind.i64 (0 : Int)])) σ) := by
  intros
  kernel_rfl

theorem s33 : ∀ (T : Ct) (a : Option Addr) (m : Nat) (x n : Int) (σ : AS) (K : Value → AS → Prop),
  fw Proofs.Try.prog hintsS T (33 : Nat) [Value.slice a m (1 : Nat), Value.int IntKind.u32 x, Value.int IntKind.i64 n] σ K =
    T (42 : Nat) [Value.slice a m (1 : Nat), Value.int IntKind.i64 (IntKind.wrap IntKind.i64 x), Value.int IntKind.i64 n] σ fun (v0 : Value) (σ1 : AS) ↦
      tTup v0 fun (l2 : List Value) ↦
        pSome l2[(0 : Nat)]? fun (u3 : Value) ↦
          tI IntKind.u32 u3 fun (n4 : Int) ↦
            tTup v0 fun (l5 : List Value) ↦
              pSome l5[(1 : Nat)]? fun (u6 : Value) ↦
                tI IntKind.i64 u6 fun (n7 : Int) ↦
                  bmatch (n7 != (0 : Int)) (K (Value.tuple (Array.mk [Value.int IntKind.u32 (0 : Int), Value.int IntKind.i64 (90 : Int)])) σ1)
                    (K (Value.tuple (Array.mk [Value.int IntKind.u32 n4, Value.int IntKind.i64 (0 : Int)])) σ1) := by
  intros
  kernel_rfl

theorem s20 : ∀ (T : Ct) (a : Option Addr) (m : Nat) (x : Int) (σ : AS) (K : Value → AS → Prop),
  fw Proofs.Try.prog hintsS T (20 : Nat) [Value.slice a m (1 : Nat), Value.int IntKind.u32 x] σ K =
    newAt σ (AObj.row RK.plain [Value.int IntKind.i64 (0 : Int), Value.int IntKind.u32 (0 : Int), Value.int IntKind.u32 (0 : Int)]) fun (i0 : Nat) (σ1 : AS) ↦
      T (33 : Nat) [Value.slice a m (1 : Nat), Value.int IntKind.u32 x, Value.int IntKind.i64 (1 : Int)] σ1 fun (v2 : Value) (σ3 : AS) ↦
        tTup v2 fun (l4 : List Value) ↦
          pSome l4[(0 : Nat)]? fun (u5 : Value) ↦
            tI IntKind.u32 u5 fun (n6 : Int) ↦
              tTup v2 fun (l7 : List Value) ↦
                pSome l7[(1 : Nat)]? fun (u8 : Value) ↦
                  tI IntKind.i64 u8 fun (n9 : Int) ↦
                    bmatch (n9 != (0 : Int))
                      (puts σ3 (Addr.mk i0 (0 : Nat) Option.none) [Value.int IntKind.i64 (0 : Int), Value.int IntKind.u32 (0 : Int), Value.int IntKind.u32 (0 : Int)] fun (σ10 : AS) ↦
                        lds σ10 (Addr.mk i0 (0 : Nat) Option.none) (3 : Nat) fun (l11 : List Value) ↦
                          tCons l11 fun (v12 : Value) (l13 : List Value) ↦
                            tI IntKind.i64 v12 fun (n14 : Int) ↦
                              tCons l13 fun (v15 : Value) (l16 : List Value) ↦
                                tI IntKind.u32 v15 fun (n17 : Int) ↦
                                  tCons l16 fun (v18 : Value) (l19 : List Value) ↦
                                    tI IntKind.u32 v18 fun (n20 : Int) ↦
                                      tNil l19
                                        (K
                                          (Value.tuple
                                            (Array.mk [Value.agg (Array.mk [Value.int IntKind.i64 n14, Value.int IntKind.u32 n17, Value.int IntKind.u32 n20]), Value.int IntKind.i64 n9]))
                                          σ10))
                      (bmatch (n6 == (224 : Int))
                        (bmatch (n6 == (224 : Int))
                          (puts σ3 (Addr.mk i0 (0 : Nat) Option.none)
                            [Value.int IntKind.i64 (IntKind.wrap IntKind.i64 n6), Value.int IntKind.u32 (IntKind.wrap IntKind.u32 (x + (1 : Int))), Value.int IntKind.u32 (0 : Int)]
                            fun (σ21 : AS) ↦
                            lds σ21 (Addr.mk i0 (0 : Nat) Option.none) (3 : Nat) fun (l22 : List Value) ↦
                              tCons l22 fun (v23 : Value) (l24 : List Value) ↦
                                tI IntKind.i64 v23 fun (n25 : Int) ↦
                                  tCons l24 fun (v26 : Value) (l27 : List Value) ↦
                                    tI IntKind.u32 v26 fun (n28 : Int) ↦
                                      tCons l27 fun (v29 : Value) (l30 : List Value) ↦
                                        tI IntKind.u32 v29 fun (n31 : Int) ↦
                                          tNil l30
                                            (K
                                              (Value.tuple
                                                (Array.mk
                                                  [Value.agg (Array.mk [Value.int IntKind.i64 n25, Value.int IntKind.u32 n28, Value.int IntKind.u32 n31]), Value.int IntKind.i64 (0 : Int)]))
                                              σ21))
                          (bmatch (n6 == (226 : Int))
                            (puts σ3 (Addr.mk i0 (0 : Nat) Option.none)
                              [Value.int IntKind.i64 (IntKind.wrap IntKind.i64 n6), Value.int IntKind.u32 (IntKind.wrap IntKind.u32 (x + (4 : Int))), Value.int IntKind.u32 (0 : Int)]
                              fun (σ32 : AS) ↦
                              lds σ32 (Addr.mk i0 (0 : Nat) Option.none) (3 : Nat) fun (l33 : List Value) ↦
                                tCons l33 fun (v34 : Value) (l35 : List Value) ↦
                                  tI IntKind.i64 v34 fun (n36 : Int) ↦
                                    tCons l35 fun (v37 : Value) (l38 : List Value) ↦
                                      tI IntKind.u32 v37 fun (n39 : Int) ↦
                                        tCons l38 fun (v40 : Value) (l41 : List Value) ↦
                                          tI IntKind.u32 v40 fun (n42 : Int) ↦
                                            tNil l41
                                              (K
                                                (Value.tuple
                                                  (Array.mk
                                                    [Value.agg (Array.mk [Value.int IntKind.i64 n36, Value.int IntKind.u32 n39, Value.int IntKind.u32 n42]), Value.int IntKind.i64 (0 : Int)]))
                                                σ32))
                            (puts σ3 (Addr.mk i0 (0 : Nat) Option.none) [Value.int IntKind.i64 (0 : Int), Value.int IntKind.u32 (0 : Int), Value.int IntKind.u32 (0 : Int)]
                              fun (σ43 : AS) ↦
                              lds σ43 (Addr.mk i0 (0 : Nat) Option.none) (3 : Nat) fun (l44 : List Value) ↦
                                tCons l44 fun (v45 : Value) (l46 : List Value) ↦
                                  tI IntKind.i64 v45 fun (n47 : Int) ↦
                                    tCons l46 fun (v48 : Value) (l49 : List Value) ↦
                                      tI IntKind.u32 v48 fun (n50 : Int) ↦
                                        tCons l49 fun (v51 : Value) (l52 : List Value) ↦
                                          tI IntKind.u32 v51 fun (n53 : Int) ↦
                                            tNil l52
                                              (K
                                                (Value.tuple
                                                  (Array.mk
                                                    [Value.agg (Array.mk [Value.int IntKind.i64 n47, Value.int IntKind.u32 n50, Value.int IntKind.u32 n53]), Value.int IntKind.i64 (120 : Int)]))
                                                σ43))))
                        (bmatch (n6 == (225 : Int))
                          (puts σ3 (Addr.mk i0 (0 : Nat) Option.none)
                            [Value.int IntKind.i64 (IntKind.wrap IntKind.i64 n6), Value.int IntKind.u32 (IntKind.wrap IntKind.u32 (x + (1 : Int))), Value.int IntKind.u32 (0 : Int)]
                            fun (σ54 : AS) ↦
                            lds σ54 (Addr.mk i0 (0 : Nat) Option.none) (3 : Nat) fun (l55 : List Value) ↦
                              tCons l55 fun (v56 : Value) (l57 : List Value) ↦
                                tI IntKind.i64 v56 fun (n58 : Int) ↦
                                  tCons l57 fun (v59 : Value) (l60 : List Value) ↦
                                    tI IntKind.u32 v59 fun (n61 : Int) ↦
                                      tCons l60 fun (v62 : Value) (l63 : List Value) ↦
                                        tI IntKind.u32 v62 fun (n64 : Int) ↦
                                          tNil l63
                                            (K
                                              (Value.tuple
                                                (Array.mk
                                                  [Value.agg (Array.mk [Value.int IntKind.i64 n58, Value.int IntKind.u32 n61, Value.int IntKind.u32 n64]), Value.int IntKind.i64 (0 : Int)]))
                                              σ54))
                          (bmatch (n6 == (226 : Int))
                            (puts σ3 (Addr.mk i0 (0 : Nat) Option.none)
                              [Value.int IntKind.i64 (IntKind.wrap IntKind.i64 n6), Value.int IntKind.u32 (IntKind.wrap IntKind.u32 (x + (4 : Int))), Value.int IntKind.u32 (0 : Int)]
                              fun (σ65 : AS) ↦
                              lds σ65 (Addr.mk i0 (0 : Nat) Option.none) (3 : Nat) fun (l66 : List Value) ↦
                                tCons l66 fun (v67 : Value) (l68 : List Value) ↦
                                  tI IntKind.i64 v67 fun (n69 : Int) ↦
                                    tCons l68 fun (v70 : Value) (l71 : List Value) ↦
                                      tI IntKind.u32 v70 fun (n72 : Int) ↦
                                        tCons l71 fun (v73 : Value) (l74 : List Value) ↦
                                          tI IntKind.u32 v73 fun (n75 : Int) ↦
                                            tNil l74
                                              (K
                                                (Value.tuple
                                                  (Array.mk
                                                    [Value.agg (Array.mk [Value.int IntKind.i64 n69, Value.int IntKind.u32 n72, Value.int IntKind.u32 n75]), Value.int IntKind.i64 (0 : Int)]))
                                                σ65))
                            (puts σ3 (Addr.mk i0 (0 : Nat) Option.none) [Value.int IntKind.i64 (0 : Int), Value.int IntKind.u32 (0 : Int), Value.int IntKind.u32 (0 : Int)]
                              fun (σ76 : AS) ↦
                              lds σ76 (Addr.mk i0 (0 : Nat) Option.none) (3 : Nat) fun (l77 : List Value) ↦
                                tCons l77 fun (v78 : Value) (l79 : List Value) ↦
                                  tI IntKind.i64 v78 fun (n80 : Int) ↦
                                    tCons l79 fun (v81 : Value) (l82 : List Value) ↦
                                      tI IntKind.u32 v81 fun (n83 : Int) ↦
                                        tCons l82 fun (v84 : Value) (l85 : List Value) ↦
                                          tI IntKind.u32 v84 fun (n86 : Int) ↦
                                            tNil l85
                                              (K
                                                (Value.tuple
                                                  (Array.mk
                                                    [Value.agg (Array.mk [Value.int IntKind.i64 n80, Value.int IntKind.u32 n83, Value.int IntKind.u32 n86]), Value.int IntKind.i64 (120 : Int)]))
                                                σ76))))) := by
  intros
  kernel_rfl

theorem s36 : ∀ (T : Ct) (c : Int) (σ : AS) (K : Value → AS → Prop),
  fw Proofs.Try.prog hintsS T (36 : Nat) [Value.int IntKind.u32 c] σ K =
    newAt σ
      (AObj.row RK.plain [Value.int IntKind.i64 (0 : Int), Value.slice Option.none (0 : Nat) (0 : Nat), Value.int IntKind.u32 (0 : Int), Value.slice Option.none (0 : Nat) (0 : Nat)])
      fun (i0 : Nat) (σ1 : AS) ↦
      bmatch (c == (0 : Int))
        (puts σ1 (Addr.mk i0 (0 : Nat) Option.none)
          [Value.int IntKind.i64 (1 : Int), Value.slice Option.none (0 : Nat) (0 : Nat), Value.int IntKind.u32 (0 : Int), Value.slice Option.none (0 : Nat) (0 : Nat)] fun (σ2 : AS) ↦
          lds σ2 (Addr.mk i0 (0 : Nat) Option.none) (4 : Nat) fun (l3 : List Value) ↦
            tCons l3 fun (v4 : Value) (l5 : List Value) ↦
              tI IntKind.i64 v4 fun (n6 : Int) ↦
                tCons l5 fun (v7 : Value) (l8 : List Value) ↦
                  tL (1 : Nat) v7 fun (s9 : Sl) ↦
                    tCons l8 fun (v10 : Value) (l11 : List Value) ↦
                      tI IntKind.u32 v10 fun (n12 : Int) ↦
                        tCons l11 fun (v13 : Value) (l14 : List Value) ↦
                          tL (1 : Nat) v13 fun (s15 : Sl) ↦
                            tNil l14
                              (K
                                (Value.agg
                                  (Array.mk
                                    [Value.int IntKind.i64 n6, Value.slice (Sl.a s9) (Sl.n s9) (1 : Nat), Value.int IntKind.u32 n12,
                                      Value.slice (Sl.a s15) (Sl.n s15) (1 : Nat)]))
                                σ2))
        (newAt σ1 (AObj.row RK.rw [Value.int IntKind.u32 c]) fun (i16 : Nat) (σ17 : AS) ↦
          puts σ17 (Addr.mk i0 (0 : Nat) Option.none)
            [Value.int IntKind.i64 (2 : Int), Value.slice (Option.some (Addr.mk i16 (0 : Nat) Option.none)) (1 : Nat) (1 : Nat), Value.int IntKind.u32 (0 : Int),
              Value.slice Option.none (0 : Nat) (0 : Nat)]
            fun (σ18 : AS) ↦
            lds σ18 (Addr.mk i0 (0 : Nat) Option.none) (4 : Nat) fun (l19 : List Value) ↦
              tCons l19 fun (v20 : Value) (l21 : List Value) ↦
                tI IntKind.i64 v20 fun (n22 : Int) ↦
                  tCons l21 fun (v23 : Value) (l24 : List Value) ↦
                    tL (1 : Nat) v23 fun (s25 : Sl) ↦
                      tCons l24 fun (v26 : Value) (l27 : List Value) ↦
                        tI IntKind.u32 v26 fun (n28 : Int) ↦
                          tCons l27 fun (v29 : Value) (l30 : List Value) ↦
                            tL (1 : Nat) v29 fun (s31 : Sl) ↦
                              tNil l30
                                (K
                                  (Value.agg
                                    (Array.mk
                                      [Value.int IntKind.i64 n22, Value.slice (Sl.a s25) (Sl.n s25) (1 : Nat), Value.int IntKind.u32 n28,
                                        Value.slice (Sl.a s31) (Sl.n s31) (1 : Nat)]))
                                  σ18)) := by
  intros
  kernel_rfl

theorem s18 : ∀ (T : Ct) (a : Option Addr) (m : Nat) (t x most : Int) (σ : AS) (K : Value → AS → Prop),
  fw Proofs.Try.prog hintsS T (18 : Nat) [Value.slice a m (1 : Nat), Value.int IntKind.u32 t, Value.int IntKind.u32 x, Value.int IntKind.i64 most] σ K =
    T (20 : Nat) [Value.slice a m (1 : Nat), Value.int IntKind.u32 x] σ fun (v0 : Value) (σ1 : AS) ↦
      tTup v0 fun (l2 : List Value) ↦
        pSome l2[(0 : Nat)]? fun (u3 : Value) ↦
          tAgg u3 fun (l4 : List Value) ↦
            tCons l4 fun (v5 : Value) (l6 : List Value) ↦
              tI IntKind.i64 v5 fun (n7 : Int) ↦
                tCons l6 fun (v8 : Value) (l9 : List Value) ↦
                  tI IntKind.u32 v8 fun (n10 : Int) ↦
                    tCons l9 fun (v11 : Value) (l12 : List Value) ↦
                      tI IntKind.u32 v11 fun (n13 : Int) ↦
                        tNil l12
                          (tTup v0 fun (l14 : List Value) ↦
                            pSome l14[(1 : Nat)]? fun (u15 : Value) ↦
                              tI IntKind.i64 u15 fun (n16 : Int) ↦
                                newAt σ1 (AObj.row RK.plain [Value.int IntKind.i64 (0 : Int), Value.int IntKind.u32 (0 : Int), Value.int IntKind.u32 (0 : Int)])
                                  fun (i17 : Nat) (σ18 : AS) ↦
                                  puts σ18 (Addr.mk i17 (0 : Nat) Option.none) [Value.int IntKind.i64 n7, Value.int IntKind.u32 n10, Value.int IntKind.u32 n13] fun (σ19 : AS) ↦
                                    bmatch (n16 != (0 : Int)) (K (Value.tuple (Array.mk [Value.slice Option.none (0 : Nat) (0 : Nat), Value.bool Bool.false, Value.int IntKind.i64 n16])) σ19)
                                      (ALoop (fl Proofs.Try.prog hintsS T (18 : Nat) [Bool.true, Bool.true, Bool.true, Bool.true, Bool.false, Bool.true, Bool.false] [] K)
                                        [((0 : Nat), Option.some (Value.slice a m (1 : Nat))), ((1 : Nat), Option.some (Value.int IntKind.u32 t)),
                                          ((3 : Nat), Option.some (Value.int IntKind.i64 (imax most (0 : Int)))), ((8 : Nat), Option.some (Value.slice Option.none (0 : Nat) (0 : Nat))),
                                          ((11 : Nat), Option.some (Value.pointer (Option.some (Addr.mk i17 (0 : Nat) Option.none)))), ((12 : Nat), Option.some (Value.int IntKind.i64 (0 : Int)))]
                                        σ19)) := by
  intros
  kernel_rfl

theorem s18l : ∀ (T : Ct) (a : Option Addr) (m : Nat) (t most : Int) (la : Option Addr) (ln le at__1 : Nat) (idle : Int) (X : Regs → AS → Prop) (σ : AS)
  (K : Value → AS → Prop),
  fl Proofs.Try.prog hintsS T (18 : Nat) [Bool.true, Bool.true, Bool.true, Bool.true, Bool.false, Bool.true, Bool.false] [] K X
      [((0 : Nat), Option.some (Value.slice a m (1 : Nat))), ((1 : Nat), Option.some (Value.int IntKind.u32 t)), ((3 : Nat), Option.some (Value.int IntKind.i64 most)),
        ((8 : Nat), Option.some (Value.slice la ln le)), ((11 : Nat), Option.some (Value.pointer (Option.some (Addr.mk at__1 (0 : Nat) Option.none)))),
        ((12 : Nat), Option.some (Value.int IntKind.i64 idle))]
      σ =
    bmatch (Decidable.decide (idle < (256 : Int)))
      (lds σ (Addr.mk at__1 (0 : Nat) Option.none) (3 : Nat) fun (l0 : List Value) ↦
        tCons l0 fun (v1 : Value) (l2 : List Value) ↦
          tI IntKind.i64 v1 fun (n3 : Int) ↦
            tCons l2 fun (v4 : Value) (l5 : List Value) ↦
              tI IntKind.u32 v4 fun (n6 : Int) ↦
                tCons l5 fun (v7 : Value) (l8 : List Value) ↦
                  tI IntKind.u32 v7 fun (n9 : Int) ↦
                    tNil l8
                      (T (21 : Nat)
                        [Value.slice a m (1 : Nat), Value.int IntKind.u32 t, Value.agg (Array.mk [Value.int IntKind.i64 n3, Value.int IntKind.u32 n6, Value.int IntKind.u32 n9])] σ
                        fun (v10 : Value) (σ11 : AS) ↦
                        tTup v10 fun (l12 : List Value) ↦
                          pSome l12[(0 : Nat)]? fun (u13 : Value) ↦
                            tAgg u13 fun (l14 : List Value) ↦
                              tCons l14 fun (v15 : Value) (l16 : List Value) ↦
                                tI IntKind.i64 v15 fun (n17 : Int) ↦
                                  tCons l16 fun (v18 : Value) (l19 : List Value) ↦
                                    tL (1 : Nat) v18 fun (s20 : Sl) ↦
                                      tCons l19 fun (v21 : Value) (l22 : List Value) ↦
                                        tI IntKind.u32 v21 fun (n23 : Int) ↦
                                          tCons l22 fun (v24 : Value) (l25 : List Value) ↦
                                            tL (1 : Nat) v24 fun (s26 : Sl) ↦
                                              tNil l25
                                                (tTup v10 fun (l27 : List Value) ↦
                                                  pSome l27[(1 : Nat)]? fun (u28 : Value) ↦
                                                    tAgg u28 fun (l29 : List Value) ↦
                                                      tCons l29 fun (v30 : Value) (l31 : List Value) ↦
                                                        tI IntKind.i64 v30 fun (n32 : Int) ↦
                                                          tCons l31 fun (v33 : Value) (l34 : List Value) ↦
                                                            tI IntKind.u32 v33 fun (n35 : Int) ↦
                                                              tCons l34 fun (v36 : Value) (l37 : List Value) ↦
                                                                tI IntKind.u32 v36 fun (n38 : Int) ↦
                                                                  tNil l37
                                                                    (tTup v10 fun (l39 : List Value) ↦
                                                                      pSome l39[(2 : Nat)]? fun (u40 : Value) ↦
                                                                        tI IntKind.i64 u40 fun (n41 : Int) ↦
                                                                          newAt σ11
                                                                            (AObj.row RK.plain
                                                                              [Value.int IntKind.i64 (0 : Int), Value.slice Option.none (0 : Nat) (0 : Nat), Value.int IntKind.u32 (0 : Int),
                                                                                Value.slice Option.none (0 : Nat) (0 : Nat)])
                                                                            fun (i42 : Nat) (σ43 : AS) ↦
                                                                            newAt σ43
                                                                              (AObj.row RK.plain
                                                                                [Value.int IntKind.i64 (0 : Int), Value.int IntKind.u32 (0 : Int), Value.int IntKind.u32 (0 : Int)])
                                                                              fun (i44 : Nat) (σ45 : AS) ↦
                                                                              puts σ45 (Addr.mk i42 (0 : Nat) Option.none)
                                                                                [Value.int IntKind.i64 n17, Value.slice (Sl.a s20) (Sl.n s20) (1 : Nat), Value.int IntKind.u32 n23,
                                                                                  Value.slice (Sl.a s26) (Sl.n s26) (1 : Nat)]
                                                                                fun (σ46 : AS) ↦
                                                                                puts σ46 (Addr.mk i44 (0 : Nat) Option.none)
                                                                                  [Value.int IntKind.i64 n32, Value.int IntKind.u32 n35, Value.int IntKind.u32 n38] fun (σ47 : AS) ↦
                                                                                  bmatch (n41 != (0 : Int))
                                                                                    (K
                                                                                      (Value.tuple
                                                                                        (Array.mk [Value.slice Option.none (0 : Nat) (0 : Nat), Value.bool Bool.false, Value.int IntKind.i64 n41]))
                                                                                      σ47)
                                                                                    (ldc σ47 (Addr.mk i42 (0 : Nat) Option.none) fun (v48 : Value) ↦
                                                                                      tI IntKind.i64 v48 fun (n49 : Int) ↦
                                                                                        bmatch (n49 == (1 : Int))
                                                                                          (K (Value.tuple (Array.mk [Value.slice la ln le, Value.bool Bool.true, Value.int IntKind.i64 (0 : Int)]))
                                                                                            σ47)
                                                                                          (bmatch (n49 == (3 : Int))
                                                                                            (K
                                                                                              (Value.tuple
                                                                                                (Array.mk
                                                                                                  [Value.slice Option.none (0 : Nat) (0 : Nat), Value.bool Bool.false, Value.int IntKind.i64 (5 : Int)]))
                                                                                              σ47)
                                                                                            (ldc σ47 (Addr.mk i42 ((0 : Nat) + (1 : Nat)) Option.none) fun (v50 : Value) ↦
                                                                                              tL (1 : Nat) v50 fun (s51 : Sl) ↦
                                                                                                bmatch (Decidable.decide (IntKind.wrap IntKind.i64 ((↑ln : Int) + (↑(Sl.n s51) : Int)) > most))
                                                                                                  (ldc σ47 (Addr.mk i42 ((0 : Nat) + (1 : Nat)) Option.none) fun (v52 : Value) ↦
                                                                                                    tL (1 : Nat) v52 fun (s53 : Sl) ↦
                                                                                                      req ((0 : Int) ≤ IntKind.wrap IntKind.i64 (most - (↑ln : Int)))
                                                                                                        (req (IntKind.wrap IntKind.i64 (most - (↑ln : Int)) ≤ (↑(Sl.n s53) : Int))
                                                                                                          (chk (nilOr la le (szOf Proofs.Try.prog (22 : Nat)))
                                                                                                            (srcCells σ47 (1 : Nat)
                                                                                                              (Option.some
                                                                                                                (Value.slice
                                                                                                                  (Option.map
                                                                                                                    (fun (x : Addr) ↦ Addr.add x (Int.toNat (0 : Int) * szOf Proofs.Try.prog (22 : Nat)))
                                                                                                                    (Sl.a s53))
                                                                                                                  (Int.toNat (IntKind.wrap IntKind.i64 (most - (↑ln : Int)) - (0 : Int))) (1 : Nat)))
                                                                                                              fun (m54 : Nat) (new55 : List Value) ↦
                                                                                                              appendTo σ47 (1 : Nat) (4 : Nat) (Sl.mk la ln) new55 m54
                                                                                                                fun (s56 : Sl) (σ57 : AS) ↦
                                                                                                                K
                                                                                                                  (Value.tuple
                                                                                                                    (Array.mk
                                                                                                                      [Value.slice (Sl.a s56) (Sl.n s56) (1 : Nat), Value.bool Bool.false,
                                                                                                                        Value.int IntKind.i64 (0 : Int)]))
                                                                                                                  σ57))))
                                                                                                  (ldc σ47 (Addr.mk i42 ((0 : Nat) + (1 : Nat)) Option.none) fun (v58 : Value) ↦
                                                                                                    tL (1 : Nat) v58 fun (s59 : Sl) ↦
                                                                                                      chk (nilOr la le (szOf Proofs.Try.prog (22 : Nat)))
                                                                                                        (srcCells σ47 (1 : Nat) (Option.some (Value.slice (Sl.a s59) (Sl.n s59) (1 : Nat)))
                                                                                                          fun (m60 : Nat) (new61 : List Value) ↦
                                                                                                          appendTo σ47 (1 : Nat) (4 : Nat) (Sl.mk la ln) new61 m60 fun (s62 : Sl) (σ63 : AS) ↦
                                                                                                            lds σ63 (Addr.mk i44 (0 : Nat) Option.none) (3 : Nat) fun (l64 : List Value) ↦
                                                                                                              tCons l64 fun (v65 : Value) (l66 : List Value) ↦
                                                                                                                tI IntKind.i64 v65 fun (n67 : Int) ↦
                                                                                                                  tCons l66 fun (v68 : Value) (l69 : List Value) ↦
                                                                                                                    tI IntKind.u32 v68 fun (n70 : Int) ↦
                                                                                                                      tCons l69 fun (v71 : Value) (l72 : List Value) ↦
                                                                                                                        tI IntKind.u32 v71 fun (n73 : Int) ↦
                                                                                                                          tNil l72
                                                                                                                            (puts σ63 (Addr.mk at__1 (0 : Nat) Option.none)
                                                                                                                              [Value.int IntKind.i64 n67, Value.int IntKind.u32 n70,
                                                                                                                                Value.int IntKind.u32 n73]
                                                                                                                              fun (σ74 : AS) ↦
                                                                                                                              ldc σ74 (Addr.mk i42 ((0 : Nat) + (1 : Nat)) Option.none) fun (v75 : Value) ↦
                                                                                                                                tL (1 : Nat) v75 fun (s76 : Sl) ↦
                                                                                                                                  bmatch (Decidable.decide ((↑(Sl.n s76) : Int) > (0 : Int)))
                                                                                                                                    (X
                                                                                                                                      [((0 : Nat), Option.some (Value.slice a m (1 : Nat))),
                                                                                                                                        ((1 : Nat), Option.some (Value.int IntKind.u32 t)),
                                                                                                                                        ((3 : Nat), Option.some (Value.int IntKind.i64 most)),
                                                                                                                                        ((8 : Nat),
                                                                                                                                          Option.some (Value.slice (Sl.a s62) (Sl.n s62) (1 : Nat))),
                                                                                                                                        ((11 : Nat),
                                                                                                                                          Option.some
                                                                                                                                            (Value.pointer (Option.some (Addr.mk at__1 (0 : Nat) Option.none)))),
                                                                                                                                        ((12 : Nat), Option.some (Value.int IntKind.i64 (0 : Int)))]
                                                                                                                                      σ74)
                                                                                                                                    (X
                                                                                                                                      [((0 : Nat), Option.some (Value.slice a m (1 : Nat))),
                                                                                                                                        ((1 : Nat), Option.some (Value.int IntKind.u32 t)),
                                                                                                                                        ((3 : Nat), Option.some (Value.int IntKind.i64 most)),
                                                                                                                                        ((8 : Nat),
                                                                                                                                          Option.some (Value.slice (Sl.a s62) (Sl.n s62) (1 : Nat))),
                                                                                                                                        ((11 : Nat),
                                                                                                                                          Option.some
                                                                                                                                            (Value.pointer (Option.some (Addr.mk at__1 (0 : Nat) Option.none)))),
                                                                                                                                        ((12 : Nat),
                                                                                                                                          Option.some
                                                                                                                                            (Value.int IntKind.i64
                                                                                                                                              (IntKind.wrap IntKind.i64 (idle + (1 : Int)))))]
                                                                                                                                      σ74)))))))))))
      (K (Value.tuple (Array.mk [Value.slice la ln le, Value.bool Bool.false, Value.int IntKind.i64 (0 : Int)])) σ) := by
  intros
  kernel_rfl

end Go.AI
