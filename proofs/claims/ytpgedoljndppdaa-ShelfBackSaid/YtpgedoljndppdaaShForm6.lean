/- The conditions ahead of the calls of the program's functions, reckoned as far as they go (equations that the kernel checks); no condition. -/
import Derived.Test.YtpgedoljndppdaaShSoft
import Derived.Test.YtpgedoljndppdaaAISep
set_option maxRecDepth 1000000
set_option linter.unusedVariables false
namespace Go.AI
open Go.Proofs
theorem s30l : ∀ (T : Go.AI.Ct) (a : Option Go.Addr) (m c : Nat) (i j : Int) (X : Go.AI.Regs → Go.AI.AS → Prop) (σ : Go.AI.AS) (K : Go.Value → Go.AI.AS → Prop),
  Go.AI.fl Go.Proofs.Try.prog Go.AI.hintsS T (30 : Nat) [Bool.true, Bool.true, Bool.true, Bool.false, Bool.true, Bool.false] [] K X
      [((0 : Nat), Option.some (Go.Value.slice a m (1 : Nat))), ((1 : Nat), Option.some (Go.Value.func (Go.Fn.func (31 : Go.FuncId)) #[] #[Go.Value.pointer (Option.some (Go.Addr.mk c (0 : Nat) Option.none))])),
        ((5 : Nat), Option.some (Go.Value.int Go.IntKind.i64 i)), ((6 : Nat), Option.some (Go.Value.int Go.IntKind.i64 j))]
      σ =
    Go.AI.bmatch (Decidable.decide (j < (↑m : Int)))
      (Go.AI.req ((0 : Int) ≤ j)
        (Go.AI.req (j < (↑m : Int))
          (Go.AI.pSome a fun (a0 : Go.Addr) ↦
            Go.AI.ldc σ (Go.Addr.add a0 (Int.toNat j * Go.AI.szOf Go.Proofs.Try.prog (76 : Nat))) fun (v1 : Go.Value) ↦
              Go.AI.tP v1 fun (b2 : Option Go.Addr) ↦
                T (31 : Nat) [Go.Value.pointer b2, Go.Value.pointer (Option.some (Go.Addr.mk c (0 : Nat) Option.none))] σ fun (v3 : Go.Value) (σ4 : Go.AI.AS) ↦
                  Go.AI.tB v3 fun (b5 : Bool) ↦
                    Go.AI.bmatch (!b5)
                      (Go.AI.req ((0 : Int) ≤ i)
                        (Go.AI.req (i < (↑m : Int))
                          (Go.AI.pSome a fun (a6 : Go.Addr) ↦
                            Go.AI.put1 σ4 (Go.Addr.add a6 (Int.toNat i * Go.AI.szOf Go.Proofs.Try.prog (76 : Nat))) (Go.Value.pointer b2) fun (σ7 : Go.AI.AS) ↦
                              X
                                [((0 : Nat), Option.some (Go.Value.slice a m (1 : Nat))),
                                  ((1 : Nat), Option.some (Go.Value.func (Go.Fn.func (31 : Go.FuncId)) (Array.mk []) (Array.mk [Go.Value.pointer (Option.some (Go.Addr.mk c (0 : Nat) Option.none))]))),
                                  ((5 : Nat), Option.some (Go.Value.int Go.IntKind.i64 (Go.IntKind.wrap Go.IntKind.i64 (i + (1 : Int))))),
                                  ((6 : Nat), Option.some (Go.Value.int Go.IntKind.i64 (Go.IntKind.wrap Go.IntKind.i64 (j + (1 : Int)))))]
                                σ7)))
                      (X
                        [((0 : Nat), Option.some (Go.Value.slice a m (1 : Nat))),
                          ((1 : Nat), Option.some (Go.Value.func (Go.Fn.func (31 : Go.FuncId)) (Array.mk []) (Array.mk [Go.Value.pointer (Option.some (Go.Addr.mk c (0 : Nat) Option.none))]))),
                          ((5 : Nat), Option.some (Go.Value.int Go.IntKind.i64 i)), ((6 : Nat), Option.some (Go.Value.int Go.IntKind.i64 (Go.IntKind.wrap Go.IntKind.i64 (j + (1 : Int)))))]
                        σ4))))
      (Go.AI.req ((0 : Int) ≤ i)
        (Go.AI.req (i ≤ (↑m : Int))
          (Go.AI.req ((↑m : Int) ≤ (↑m : Int))
            (Go.AI.clearTo σ (Option.map (fun (x : Go.Addr) ↦ Go.Addr.add x (Int.toNat i * Go.AI.szOf Go.Proofs.Try.prog (76 : Nat))) a) (Int.toNat ((↑m : Int) - i)) [Go.Value.pointer Option.none]
              fun (σ8 : Go.AI.AS) ↦
              Go.AI.req ((0 : Int) ≤ i)
                (Go.AI.req (i ≤ (↑m : Int))
                  (K (Go.Value.slice (Option.map (fun (x : Go.Addr) ↦ Go.Addr.add x (Int.toNat (0 : Int) * Go.AI.szOf Go.Proofs.Try.prog (76 : Nat))) a) (Int.toNat (i - (0 : Int))) (1 : Nat)) σ8)))))) := by
  intros
  kernel_rfl

theorem s3 : ∀ (T : Go.AI.Ct) (a : Option Go.Addr) (m : Nat) (w more : Bool) (σ : Go.AI.AS) (K : Go.Value → Go.AI.AS → Prop),
  Go.AI.fw Go.Proofs.Try.prog Go.AI.hintsS T (3 : Nat) [Go.Value.slice a m (1 : Nat), Go.Value.bool w, Go.Value.bool more] σ K =
    T (9 : Nat) [Go.Value.int Go.IntKind.i64 (1048576 : Int)] σ fun (v0 : Go.Value) (σ1 : Go.AI.AS) ↦
      Go.AI.tTup v0 fun (l2 : List Go.Value) ↦
        Go.AI.pSome l2[(0 : Nat)]? fun (u3 : Go.Value) ↦
          Go.AI.tP u3 fun (b4 : Option Go.Addr) ↦
            Go.AI.tTup v0 fun (l5 : List Go.Value) ↦
              Go.AI.pSome l5[(1 : Nat)]? fun (u6 : Go.Value) ↦
                Go.AI.tI Go.IntKind.i64 u6 fun (n7 : Int) ↦
                  T (10 : Nat) [Go.Value.int Go.IntKind.i64 n7] σ1 fun (v8 : Go.Value) (σ9 : Go.AI.AS) ↦
                    Go.AI.tI Go.IntKind.i64 v8 fun (n10 : Int) ↦
                      Go.AI.bmatch (n10 != (0 : Int))
                        (T (10 : Nat) [Go.Value.int Go.IntKind.i64 n7] σ9 fun (v11 : Go.Value) (σ12 : Go.AI.AS) ↦
                          Go.AI.tI Go.IntKind.i64 v11 fun (n13 : Int) ↦
                            Go.AI.bmatch (n13 == (0 : Int))
                              (Go.AI.ptrEq σ12 b4 Option.none fun (r14 : Bool) ↦
                                Go.AI.bmatch (!r14) (T (11 : Nat) [] σ12 fun (v15 : Go.Value) (σ16 : Go.AI.AS) ↦ Go.AI.tB v15 fun (b17 : Bool) ↦ K (Go.Value.bool b17) σ16) (K (Go.Value.bool Bool.false) σ12))
                              (K (Go.Value.bool Bool.false) σ12))
                        (Go.AI.ptrEq σ9 b4 Option.none fun (r18 : Bool) ↦
                          Go.AI.bmatch r18
                            (T (10 : Nat) [Go.Value.int Go.IntKind.i64 n7] σ9 fun (v19 : Go.Value) (σ20 : Go.AI.AS) ↦
                              Go.AI.tI Go.IntKind.i64 v19 fun (n21 : Int) ↦
                                Go.AI.bmatch (n21 == (0 : Int))
                                  (Go.AI.ptrEq σ20 b4 Option.none fun (r22 : Bool) ↦
                                    Go.AI.bmatch (!r22) (T (11 : Nat) [] σ20 fun (v23 : Go.Value) (σ24 : Go.AI.AS) ↦ Go.AI.tB v23 fun (b25 : Bool) ↦ K (Go.Value.bool b25) σ24) (K (Go.Value.bool Bool.false) σ20))
                                  (K (Go.Value.bool Bool.false) σ20))
                            (Go.AI.bmatch (Decidable.decide ((↑m : Int) > (100 : Int)))
                              (T (10 : Nat) [Go.Value.int Go.IntKind.i64 n7] σ9 fun (v26 : Go.Value) (σ27 : Go.AI.AS) ↦
                                Go.AI.tI Go.IntKind.i64 v26 fun (n28 : Int) ↦
                                  Go.AI.bmatch (n28 == (0 : Int))
                                    (Go.AI.ptrEq σ27 b4 Option.none fun (r29 : Bool) ↦
                                      Go.AI.bmatch (!r29) (T (11 : Nat) [] σ27 fun (v30 : Go.Value) (σ31 : Go.AI.AS) ↦ Go.AI.tB v30 fun (b32 : Bool) ↦ K (Go.Value.bool b32) σ31) (K (Go.Value.bool Bool.false) σ27))
                                    (K (Go.Value.bool Bool.false) σ27))
                              (T (12 : Nat) [Go.Value.pointer b4, Go.Value.string (ByteArray.mk #[(102 : UInt8)]), Go.Value.int Go.IntKind.i64 (1 : Int), Go.Value.bool w] σ9 fun (v33 : Go.Value) (σ34 : Go.AI.AS) ↦
                                Go.AI.tTup v33 fun (l35 : List Go.Value) ↦
                                  Go.AI.pSome l35[(0 : Nat)]? fun (u36 : Go.Value) ↦
                                    Go.AI.tI Go.IntKind.i64 u36 fun (n37 : Int) ↦
                                      Go.AI.tTup v33 fun (l38 : List Go.Value) ↦
                                        Go.AI.pSome l38[(1 : Nat)]? fun (u39 : Go.Value) ↦
                                          Go.AI.tI Go.IntKind.i64 u39 fun (n40 : Int) ↦
                                            T (10 : Nat) [Go.Value.int Go.IntKind.i64 n40] σ34 fun (v41 : Go.Value) (σ42 : Go.AI.AS) ↦
                                              Go.AI.tI Go.IntKind.i64 v41 fun (n43 : Int) ↦
                                                Go.AI.bmatch (n43 != (0 : Int)) (K (Go.Value.bool Bool.false) σ42)
                                                  (Go.AI.ALoop
                                                    (Go.AI.fl Go.Proofs.Try.prog Go.AI.hintsS T (3 : Nat) [Bool.true, Bool.true, Bool.true, Bool.true, Bool.true, Bool.true, Bool.false, Bool.true, Bool.false] [] K)
                                                    [((0 : Nat), Option.some (Go.Value.slice a m (1 : Nat))), ((1 : Nat), Option.some (Go.Value.bool w)), ((2 : Nat), Option.some (Go.Value.bool more)),
                                                      ((7 : Nat), Option.some (Go.Value.slice Option.none (0 : Nat) (0 : Nat))), ((8 : Nat), Option.some (Go.Value.pointer b4)),
                                                      ((10 : Nat), Option.some (Go.Value.int Go.IntKind.i64 n37)), ((12 : Nat), Option.some (Go.Value.int Go.IntKind.i64 (0 : Int)))]
                                                    σ42)))) := by
  intros
  kernel_rfl

theorem s3l : ∀ (T : Go.AI.Ct) (a : Option Go.Addr) (m s : Nat) (w more : Bool) (n i : Int) (c : Option Go.Addr) (cn ce : Nat) (X : Go.AI.Regs → Go.AI.AS → Prop) (σ : Go.AI.AS)
  (K : Go.Value → Go.AI.AS → Prop),
  Go.AI.fl Go.Proofs.Try.prog Go.AI.hintsS T (3 : Nat) [Bool.true, Bool.true, Bool.true, Bool.true, Bool.true, Bool.true, Bool.false, Bool.true, Bool.false] [] K X
      [((0 : Nat), Option.some (Go.Value.slice a m (1 : Nat))), ((1 : Nat), Option.some (Go.Value.bool w)), ((2 : Nat), Option.some (Go.Value.bool more)), ((7 : Nat), Option.some (Go.Value.slice c cn ce)),
        ((8 : Nat), Option.some (Go.Value.pointer (Option.some (Go.Addr.mk s (0 : Nat) Option.none)))), ((10 : Nat), Option.some (Go.Value.int Go.IntKind.i64 n)),
        ((12 : Nat), Option.some (Go.Value.int Go.IntKind.i64 i))]
      σ =
    Go.AI.bmatch (Decidable.decide (i < (↑m : Int)))
      (Go.AI.req ((0 : Int) ≤ i)
        (Go.AI.req (i < (↑m : Int))
          (Go.AI.pSome a fun (a0 : Go.Addr) ↦
            Go.AI.ldc σ (Go.Addr.add a0 (Int.toNat i * Go.AI.szOf Go.Proofs.Try.prog (23 : Nat))) fun (v1 : Go.Value) ↦
              Go.AI.tL (1 : Nat) v1 fun (s2 : Go.AI.Sl) ↦
                Go.AI.bmatch (Decidable.decide ((↑(Go.AI.Sl.n s2) : Int) > (1000 : Int))) (T (11 : Nat) [] σ fun (v3 : Go.Value) (σ4 : Go.AI.AS) ↦ Go.AI.tB v3 fun (b5 : Bool) ↦ K (Go.Value.bool b5) σ4)
                  (Go.AI.bmatch more
                    (Go.AI.bmatch (i == Go.IntKind.wrap Go.IntKind.i64 (Int.tdiv (↑m : Int) (2 : Int)))
                      (T (13 : Nat) [Go.Value.pointer (Option.some (Go.Addr.mk s (0 : Nat) Option.none)), Go.Value.int Go.IntKind.i64 n] σ fun (v6 : Go.Value) (σ7 : Go.AI.AS) ↦
                        Go.AI.tTup v6 fun (l8 : List Go.Value) ↦
                          Go.AI.pSome l8[(0 : Nat)]? fun (u9 : Go.Value) ↦
                            Go.AI.tI Go.IntKind.u32 u9 fun (n10 : Int) ↦
                              Go.AI.tTup v6 fun (l11 : List Go.Value) ↦
                                Go.AI.pSome l11[(1 : Nat)]? fun (u12 : Go.Value) ↦
                                  Go.AI.tI Go.IntKind.u32 u12 fun (n13 : Int) ↦
                                    Go.AI.tTup v6 fun (l14 : List Go.Value) ↦
                                      Go.AI.pSome l14[(2 : Nat)]? fun (u15 : Go.Value) ↦
                                        Go.AI.tL (1 : Nat) u15 fun (s16 : Go.AI.Sl) ↦
                                          Go.AI.tTup v6 fun (l17 : List Go.Value) ↦
                                            Go.AI.pSome l17[(3 : Nat)]? fun (u18 : Go.Value) ↦
                                              Go.AI.tI Go.IntKind.i64 u18 fun (n19 : Int) ↦
                                                T (12 : Nat)
                                                  [Go.Value.pointer (Option.some (Go.Addr.mk s (0 : Nat) Option.none)), Go.Value.string (ByteArray.mk #[(102 : UInt8)]), Go.Value.int Go.IntKind.i64 (5 : Int),
                                                    Go.Value.bool w]
                                                  σ7 fun (v20 : Go.Value) (σ21 : Go.AI.AS) ↦
                                                  Go.AI.tTup v20 fun (l22 : List Go.Value) ↦
                                                    Go.AI.pSome l22[(0 : Nat)]? fun (u23 : Go.Value) ↦
                                                      Go.AI.tI Go.IntKind.i64 u23 fun (n24 : Int) ↦
                                                        Go.AI.tTup v20 fun (l25 : List Go.Value) ↦
                                                          Go.AI.pSome l25[(1 : Nat)]? fun (u26 : Go.Value) ↦
                                                            Go.AI.tI Go.IntKind.i64 u26 fun (n27 : Int) ↦
                                                              T (10 : Nat) [Go.Value.int Go.IntKind.i64 n19] σ21 fun (v28 : Go.Value) (σ29 : Go.AI.AS) ↦
                                                                Go.AI.tI Go.IntKind.i64 v28 fun (n30 : Int) ↦
                                                                  T (10 : Nat) [Go.Value.int Go.IntKind.i64 n27] σ29 fun (v31 : Go.Value) (σ32 : Go.AI.AS) ↦
                                                                    Go.AI.tI Go.IntKind.i64 v31 fun (n33 : Int) ↦
                                                                      Go.AI.bmatch (Go.IntKind.wrap Go.IntKind.i64 (n30 + n33) != (0 : Int)) (K (Go.Value.bool Bool.false) σ32)
                                                                        (Go.AI.req ((0 : Int) ≤ i)
                                                                          (Go.AI.req (i < (↑m : Int))
                                                                            (Go.AI.pSome a fun (a34 : Go.Addr) ↦
                                                                              Go.AI.ldc σ32 (Go.Addr.add a34 (Int.toNat i * Go.AI.szOf Go.Proofs.Try.prog (23 : Nat))) fun (v35 : Go.Value) ↦
                                                                                Go.AI.tL (1 : Nat) v35 fun (s36 : Go.AI.Sl) ↦
                                                                                  T (14 : Nat)
                                                                                    [Go.Value.pointer (Option.some (Go.Addr.mk s (0 : Nat) Option.none)), Go.Value.int Go.IntKind.i64 n24,
                                                                                      Go.Value.slice (Go.AI.Sl.a s36) (Go.AI.Sl.n s36) (1 : Nat)]
                                                                                    σ32 fun (v37 : Go.Value) (σ38 : Go.AI.AS) ↦
                                                                                    Go.AI.tI Go.IntKind.i64 v37 fun (n39 : Int) ↦
                                                                                      T (10 : Nat) [Go.Value.int Go.IntKind.i64 n39] σ38 fun (v40 : Go.Value) (σ41 : Go.AI.AS) ↦
                                                                                        Go.AI.tI Go.IntKind.i64 v40 fun (n42 : Int) ↦
                                                                                          Go.AI.bmatch (n42 != (0 : Int)) (K (Go.Value.bool Bool.false) σ41)
                                                                                            (Go.AI.req ((0 : Int) ≤ i)
                                                                                              (Go.AI.req (i < (↑m : Int))
                                                                                                (Go.AI.pSome a fun (a43 : Go.Addr) ↦
                                                                                                  Go.AI.ldc σ41 (Go.Addr.add a43 (Int.toNat i * Go.AI.szOf Go.Proofs.Try.prog (23 : Nat))) fun (v44 : Go.Value) ↦
                                                                                                    Go.AI.tL (1 : Nat) v44 fun (s45 : Go.AI.Sl) ↦
                                                                                                      Go.AI.chk (Go.AI.nilOr c ce (Go.AI.szOf Go.Proofs.Try.prog (32 : Nat)))
                                                                                                        (Go.AI.srcCells σ41 (1 : Nat) (Option.some (Go.Value.slice (Go.AI.Sl.a s45) (Go.AI.Sl.n s45) (1 : Nat)))
                                                                                                          fun (m46 : Nat) (new47 : List Go.Value) ↦
                                                                                                          Go.AI.appendTo σ41 (1 : Nat) (4 : Nat) (Go.AI.Sl.mk c cn) new47 m46 fun (s48 : Go.AI.Sl) (σ49 : Go.AI.AS) ↦
                                                                                                            X
                                                                                                              [((0 : Nat), Option.some (Go.Value.slice a m (1 : Nat))), ((1 : Nat), Option.some (Go.Value.bool w)),
                                                                                                                ((2 : Nat), Option.some (Go.Value.bool more)),
                                                                                                                ((7 : Nat), Option.some (Go.Value.slice (Go.AI.Sl.a s48) (Go.AI.Sl.n s48) (1 : Nat))),
                                                                                                                ((8 : Nat), Option.some (Go.Value.pointer (Option.some (Go.Addr.mk s (0 : Nat) Option.none)))),
                                                                                                                ((10 : Nat), Option.some (Go.Value.int Go.IntKind.i64 n24)),
                                                                                                                ((12 : Nat), Option.some (Go.Value.int Go.IntKind.i64 (Go.IntKind.wrap Go.IntKind.i64 (i + (1 : Int)))))]
                                                                                                              σ49))))))))
                      (Go.AI.req ((0 : Int) ≤ i)
                        (Go.AI.req (i < (↑m : Int))
                          (Go.AI.pSome a fun (a50 : Go.Addr) ↦
                            Go.AI.ldc σ (Go.Addr.add a50 (Int.toNat i * Go.AI.szOf Go.Proofs.Try.prog (23 : Nat))) fun (v51 : Go.Value) ↦
                              Go.AI.tL (1 : Nat) v51 fun (s52 : Go.AI.Sl) ↦
                                T (14 : Nat) [Go.Value.pointer (Option.some (Go.Addr.mk s (0 : Nat) Option.none)), Go.Value.int Go.IntKind.i64 n, Go.Value.slice (Go.AI.Sl.a s52) (Go.AI.Sl.n s52) (1 : Nat)] σ
                                  fun (v53 : Go.Value) (σ54 : Go.AI.AS) ↦
                                  Go.AI.tI Go.IntKind.i64 v53 fun (n55 : Int) ↦
                                    T (10 : Nat) [Go.Value.int Go.IntKind.i64 n55] σ54 fun (v56 : Go.Value) (σ57 : Go.AI.AS) ↦
                                      Go.AI.tI Go.IntKind.i64 v56 fun (n58 : Int) ↦
                                        Go.AI.bmatch (n58 != (0 : Int)) (K (Go.Value.bool Bool.false) σ57)
                                          (Go.AI.req ((0 : Int) ≤ i)
                                            (Go.AI.req (i < (↑m : Int))
                                              (Go.AI.pSome a fun (a59 : Go.Addr) ↦
                                                Go.AI.ldc σ57 (Go.Addr.add a59 (Int.toNat i * Go.AI.szOf Go.Proofs.Try.prog (23 : Nat))) fun (v60 : Go.Value) ↦
                                                  Go.AI.tL (1 : Nat) v60 fun (s61 : Go.AI.Sl) ↦
                                                    Go.AI.chk (Go.AI.nilOr c ce (Go.AI.szOf Go.Proofs.Try.prog (32 : Nat)))
                                                      (Go.AI.srcCells σ57 (1 : Nat) (Option.some (Go.Value.slice (Go.AI.Sl.a s61) (Go.AI.Sl.n s61) (1 : Nat))) fun (m62 : Nat) (new63 : List Go.Value) ↦
                                                        Go.AI.appendTo σ57 (1 : Nat) (4 : Nat) (Go.AI.Sl.mk c cn) new63 m62 fun (s64 : Go.AI.Sl) (σ65 : Go.AI.AS) ↦
                                                          X
                                                            [((0 : Nat), Option.some (Go.Value.slice a m (1 : Nat))), ((1 : Nat), Option.some (Go.Value.bool w)), ((2 : Nat), Option.some (Go.Value.bool more)),
                                                              ((7 : Nat), Option.some (Go.Value.slice (Go.AI.Sl.a s64) (Go.AI.Sl.n s64) (1 : Nat))),
                                                              ((8 : Nat), Option.some (Go.Value.pointer (Option.some (Go.Addr.mk s (0 : Nat) Option.none)))), ((10 : Nat), Option.some (Go.Value.int Go.IntKind.i64 n)),
                                                              ((12 : Nat), Option.some (Go.Value.int Go.IntKind.i64 (Go.IntKind.wrap Go.IntKind.i64 (i + (1 : Int)))))]
                                                            σ65))))))))
                    (Go.AI.req ((0 : Int) ≤ i)
                      (Go.AI.req (i < (↑m : Int))
                        (Go.AI.pSome a fun (a66 : Go.Addr) ↦
                          Go.AI.ldc σ (Go.Addr.add a66 (Int.toNat i * Go.AI.szOf Go.Proofs.Try.prog (23 : Nat))) fun (v67 : Go.Value) ↦
                            Go.AI.tL (1 : Nat) v67 fun (s68 : Go.AI.Sl) ↦
                              T (14 : Nat) [Go.Value.pointer (Option.some (Go.Addr.mk s (0 : Nat) Option.none)), Go.Value.int Go.IntKind.i64 n, Go.Value.slice (Go.AI.Sl.a s68) (Go.AI.Sl.n s68) (1 : Nat)] σ
                                fun (v69 : Go.Value) (σ70 : Go.AI.AS) ↦
                                Go.AI.tI Go.IntKind.i64 v69 fun (n71 : Int) ↦
                                  T (10 : Nat) [Go.Value.int Go.IntKind.i64 n71] σ70 fun (v72 : Go.Value) (σ73 : Go.AI.AS) ↦
                                    Go.AI.tI Go.IntKind.i64 v72 fun (n74 : Int) ↦
                                      Go.AI.bmatch (n74 != (0 : Int)) (K (Go.Value.bool Bool.false) σ73)
                                        (Go.AI.req ((0 : Int) ≤ i)
                                          (Go.AI.req (i < (↑m : Int))
                                            (Go.AI.pSome a fun (a75 : Go.Addr) ↦
                                              Go.AI.ldc σ73 (Go.Addr.add a75 (Int.toNat i * Go.AI.szOf Go.Proofs.Try.prog (23 : Nat))) fun (v76 : Go.Value) ↦
                                                Go.AI.tL (1 : Nat) v76 fun (s77 : Go.AI.Sl) ↦
                                                  Go.AI.chk (Go.AI.nilOr c ce (Go.AI.szOf Go.Proofs.Try.prog (32 : Nat)))
                                                    (Go.AI.srcCells σ73 (1 : Nat) (Option.some (Go.Value.slice (Go.AI.Sl.a s77) (Go.AI.Sl.n s77) (1 : Nat))) fun (m78 : Nat) (new79 : List Go.Value) ↦
                                                      Go.AI.appendTo σ73 (1 : Nat) (4 : Nat) (Go.AI.Sl.mk c cn) new79 m78 fun (s80 : Go.AI.Sl) (σ81 : Go.AI.AS) ↦
                                                        X
                                                          [((0 : Nat), Option.some (Go.Value.slice a m (1 : Nat))), ((1 : Nat), Option.some (Go.Value.bool w)), ((2 : Nat), Option.some (Go.Value.bool more)),
                                                            ((7 : Nat), Option.some (Go.Value.slice (Go.AI.Sl.a s80) (Go.AI.Sl.n s80) (1 : Nat))),
                                                            ((8 : Nat), Option.some (Go.Value.pointer (Option.some (Go.Addr.mk s (0 : Nat) Option.none)))), ((10 : Nat), Option.some (Go.Value.int Go.IntKind.i64 n)),
                                                            ((12 : Nat), Option.some (Go.Value.int Go.IntKind.i64 (Go.IntKind.wrap Go.IntKind.i64 (i + (1 : Int)))))]
                                                          σ81)))))))))))
      (T (15 : Nat) [Go.Value.pointer (Option.some (Go.Addr.mk s (0 : Nat) Option.none)), Go.Value.int Go.IntKind.i64 n] σ fun (v82 : Go.Value) (σ83 : Go.AI.AS) ↦
        Go.AI.tTup v82 fun (l84 : List Go.Value) ↦
          Go.AI.pSome l84[(0 : Nat)]? fun (u85 : Go.Value) ↦
            Go.AI.tI Go.IntKind.i64 u85 fun (n86 : Int) ↦
              Go.AI.tTup v82 fun (l87 : List Go.Value) ↦
                Go.AI.pSome l87[(1 : Nat)]? fun (u88 : Go.Value) ↦
                  Go.AI.tI Go.IntKind.i64 u88 fun (n89 : Int) ↦
                    Go.AI.tTup v82 fun (l90 : List Go.Value) ↦
                      Go.AI.pSome l90[(2 : Nat)]? fun (u91 : Go.Value) ↦
                        Go.AI.tI Go.IntKind.i64 u91 fun (n92 : Int) ↦
                          T (13 : Nat) [Go.Value.pointer (Option.some (Go.Addr.mk s (0 : Nat) Option.none)), Go.Value.int Go.IntKind.i64 n] σ83 fun (v93 : Go.Value) (σ94 : Go.AI.AS) ↦
                            Go.AI.tTup v93 fun (l95 : List Go.Value) ↦
                              Go.AI.pSome l95[(0 : Nat)]? fun (u96 : Go.Value) ↦
                                Go.AI.tI Go.IntKind.u32 u96 fun (n97 : Int) ↦
                                  Go.AI.tTup v93 fun (l98 : List Go.Value) ↦
                                    Go.AI.pSome l98[(1 : Nat)]? fun (u99 : Go.Value) ↦
                                      Go.AI.tI Go.IntKind.u32 u99 fun (n100 : Int) ↦
                                        Go.AI.tTup v93 fun (l101 : List Go.Value) ↦
                                          Go.AI.pSome l101[(2 : Nat)]? fun (u102 : Go.Value) ↦
                                            Go.AI.tL (1 : Nat) u102 fun (s103 : Go.AI.Sl) ↦
                                              Go.AI.tTup v93 fun (l104 : List Go.Value) ↦
                                                Go.AI.pSome l104[(3 : Nat)]? fun (u105 : Go.Value) ↦
                                                  Go.AI.tI Go.IntKind.i64 u105 fun (n106 : Int) ↦
                                                    T (12 : Nat)
                                                      [Go.Value.pointer (Option.some (Go.Addr.mk s (0 : Nat) Option.none)), Go.Value.string (ByteArray.mk #[(102 : UInt8)]), Go.Value.int Go.IntKind.i64 (2 : Int),
                                                        Go.Value.bool w]
                                                      σ94 fun (v107 : Go.Value) (σ108 : Go.AI.AS) ↦
                                                      Go.AI.tTup v107 fun (l109 : List Go.Value) ↦
                                                        Go.AI.pSome l109[(0 : Nat)]? fun (u110 : Go.Value) ↦
                                                          Go.AI.tI Go.IntKind.i64 u110 fun (n111 : Int) ↦
                                                            Go.AI.tTup v107 fun (l112 : List Go.Value) ↦
                                                              Go.AI.pSome l112[(1 : Nat)]? fun (u113 : Go.Value) ↦
                                                                Go.AI.tI Go.IntKind.i64 u113 fun (n114 : Int) ↦
                                                                  T (10 : Nat) [Go.Value.int Go.IntKind.i64 n114] σ108 fun (v115 : Go.Value) (σ116 : Go.AI.AS) ↦
                                                                    Go.AI.tI Go.IntKind.i64 v115 fun (n117 : Int) ↦
                                                                      Go.AI.bmatch (n117 != (0 : Int)) (K (Go.Value.bool Bool.false) σ116)
                                                                        (Go.AI.bmatch (n86 != (↑cn : Int)) (K (Go.Value.bool Bool.false) σ116)
                                                                          (Go.AI.bmatch (n89 != (↑cn : Int)) (K (Go.Value.bool Bool.false) σ116)
                                                                            (Go.AI.bmatch ((↑(Go.AI.Sl.n s103) : Int) != (0 : Int)) (K (Go.Value.bool Bool.false) σ116)
                                                                              (Go.AI.ALoop
                                                                                (Go.AI.fl Go.Proofs.Try.prog Go.AI.hintsS T (3 : Nat)
                                                                                  [Bool.true, Bool.true, Bool.true, Bool.true, Bool.true, Bool.true, Bool.true, Bool.true, Bool.true, Bool.true, Bool.true, Bool.false,
                                                                                    Bool.true, Bool.false]
                                                                                  [] K)
                                                                                [((1 : Nat), Option.some (Go.Value.bool w)), ((7 : Nat), Option.some (Go.Value.slice c cn ce)),
                                                                                  ((8 : Nat), Option.some (Go.Value.pointer (Option.some (Go.Addr.mk s (0 : Nat) Option.none)))),
                                                                                  ((26 : Nat), Option.some (Go.Value.int Go.IntKind.i64 n111)), ((28 : Nat), Option.some (Go.Value.int Go.IntKind.i64 (0 : Int)))]
                                                                                σ116))))) := by
  intros
  kernel_rfl

theorem s3k : ∀ (T : Go.AI.Ct) (s : Nat) (w : Bool) (n i : Int) (c : Option Go.Addr) (cn ce : Nat) (X : Go.AI.Regs → Go.AI.AS → Prop) (σ : Go.AI.AS) (K : Go.Value → Go.AI.AS → Prop),
  Go.AI.fl Go.Proofs.Try.prog Go.AI.hintsS T (3 : Nat) [Bool.true, Bool.true, Bool.true, Bool.true, Bool.true, Bool.true, Bool.true, Bool.true, Bool.true, Bool.true, Bool.true, Bool.false, Bool.true, Bool.false] [] K
      X
      [((1 : Nat), Option.some (Go.Value.bool w)), ((7 : Nat), Option.some (Go.Value.slice c cn ce)), ((8 : Nat), Option.some (Go.Value.pointer (Option.some (Go.Addr.mk s (0 : Nat) Option.none)))),
        ((26 : Nat), Option.some (Go.Value.int Go.IntKind.i64 n)), ((28 : Nat), Option.some (Go.Value.int Go.IntKind.i64 i))]
      σ =
    Go.AI.bmatch (Decidable.decide (i < (↑cn : Int)))
      (Go.AI.req ((0 : Int) ≤ i)
        (Go.AI.req (i < (↑cn : Int))
          (Go.AI.pSome c fun (a0 : Go.Addr) ↦
            Go.AI.req (ce = Go.AI.szOf Go.Proofs.Try.prog (32 : Nat))
              (Go.AI.ldc σ (Go.Addr.add a0 (Int.toNat i * Go.AI.szOf Go.Proofs.Try.prog (32 : Nat))) fun (v1 : Go.Value) ↦
                Go.AI.tI Go.IntKind.u32 v1 fun (n2 : Int) ↦
                  Go.AI.bmatch (!w)
                    (Go.AI.bmatch (Decidable.decide (n2 > (255 : Int)))
                      (T (16 : Nat) [Go.Value.pointer (Option.some (Go.Addr.mk s (0 : Nat) Option.none)), Go.Value.int Go.IntKind.i64 n] σ fun (v3 : Go.Value) (σ4 : Go.AI.AS) ↦
                        Go.AI.tTup v3 fun (l5 : List Go.Value) ↦
                          Go.AI.pSome l5[(0 : Nat)]? fun (u6 : Go.Value) ↦
                            Go.AI.tI Go.IntKind.u32 u6 fun (n7 : Int) ↦
                              Go.AI.tTup v3 fun (l8 : List Go.Value) ↦
                                Go.AI.pSome l8[(1 : Nat)]? fun (u9 : Go.Value) ↦
                                  Go.AI.tB u9 fun (b10 : Bool) ↦
                                    Go.AI.tTup v3 fun (l11 : List Go.Value) ↦
                                      Go.AI.pSome l11[(2 : Nat)]? fun (u12 : Go.Value) ↦
                                        Go.AI.tI Go.IntKind.i64 u12 fun (n13 : Int) ↦
                                          Go.AI.bmatch (n7 != (63 : Int)) (K (Go.Value.bool Bool.false) σ4)
                                            (Go.AI.bmatch (!b10) (K (Go.Value.bool Bool.false) σ4)
                                              (T (10 : Nat) [Go.Value.int Go.IntKind.i64 n13] σ4 fun (v14 : Go.Value) (σ15 : Go.AI.AS) ↦
                                                Go.AI.tI Go.IntKind.i64 v14 fun (n16 : Int) ↦
                                                  Go.AI.bmatch (n16 != (0 : Int)) (K (Go.Value.bool Bool.false) σ15)
                                                    (X
                                                      [((1 : Nat), Option.some (Go.Value.bool w)), ((7 : Nat), Option.some (Go.Value.slice c cn ce)),
                                                        ((8 : Nat), Option.some (Go.Value.pointer (Option.some (Go.Addr.mk s (0 : Nat) Option.none)))), ((26 : Nat), Option.some (Go.Value.int Go.IntKind.i64 n)),
                                                        ((28 : Nat), Option.some (Go.Value.int Go.IntKind.i64 (Go.IntKind.wrap Go.IntKind.i64 (i + (1 : Int)))))]
                                                      σ15))))
                      (T (16 : Nat) [Go.Value.pointer (Option.some (Go.Addr.mk s (0 : Nat) Option.none)), Go.Value.int Go.IntKind.i64 n] σ fun (v17 : Go.Value) (σ18 : Go.AI.AS) ↦
                        Go.AI.tTup v17 fun (l19 : List Go.Value) ↦
                          Go.AI.pSome l19[(0 : Nat)]? fun (u20 : Go.Value) ↦
                            Go.AI.tI Go.IntKind.u32 u20 fun (n21 : Int) ↦
                              Go.AI.tTup v17 fun (l22 : List Go.Value) ↦
                                Go.AI.pSome l22[(1 : Nat)]? fun (u23 : Go.Value) ↦
                                  Go.AI.tB u23 fun (b24 : Bool) ↦
                                    Go.AI.tTup v17 fun (l25 : List Go.Value) ↦
                                      Go.AI.pSome l25[(2 : Nat)]? fun (u26 : Go.Value) ↦
                                        Go.AI.tI Go.IntKind.i64 u26 fun (n27 : Int) ↦
                                          Go.AI.bmatch (n21 != n2) (K (Go.Value.bool Bool.false) σ18)
                                            (Go.AI.bmatch (!b24) (K (Go.Value.bool Bool.false) σ18)
                                              (T (10 : Nat) [Go.Value.int Go.IntKind.i64 n27] σ18 fun (v28 : Go.Value) (σ29 : Go.AI.AS) ↦
                                                Go.AI.tI Go.IntKind.i64 v28 fun (n30 : Int) ↦
                                                  Go.AI.bmatch (n30 != (0 : Int)) (K (Go.Value.bool Bool.false) σ29)
                                                    (X
                                                      [((1 : Nat), Option.some (Go.Value.bool w)), ((7 : Nat), Option.some (Go.Value.slice c cn ce)),
                                                        ((8 : Nat), Option.some (Go.Value.pointer (Option.some (Go.Addr.mk s (0 : Nat) Option.none)))), ((26 : Nat), Option.some (Go.Value.int Go.IntKind.i64 n)),
                                                        ((28 : Nat), Option.some (Go.Value.int Go.IntKind.i64 (Go.IntKind.wrap Go.IntKind.i64 (i + (1 : Int)))))]
                                                      σ29)))))
                    (T (16 : Nat) [Go.Value.pointer (Option.some (Go.Addr.mk s (0 : Nat) Option.none)), Go.Value.int Go.IntKind.i64 n] σ fun (v31 : Go.Value) (σ32 : Go.AI.AS) ↦
                      Go.AI.tTup v31 fun (l33 : List Go.Value) ↦
                        Go.AI.pSome l33[(0 : Nat)]? fun (u34 : Go.Value) ↦
                          Go.AI.tI Go.IntKind.u32 u34 fun (n35 : Int) ↦
                            Go.AI.tTup v31 fun (l36 : List Go.Value) ↦
                              Go.AI.pSome l36[(1 : Nat)]? fun (u37 : Go.Value) ↦
                                Go.AI.tB u37 fun (b38 : Bool) ↦
                                  Go.AI.tTup v31 fun (l39 : List Go.Value) ↦
                                    Go.AI.pSome l39[(2 : Nat)]? fun (u40 : Go.Value) ↦
                                      Go.AI.tI Go.IntKind.i64 u40 fun (n41 : Int) ↦
                                        Go.AI.bmatch (n35 != n2) (K (Go.Value.bool Bool.false) σ32)
                                          (Go.AI.bmatch (!b38) (K (Go.Value.bool Bool.false) σ32)
                                            (T (10 : Nat) [Go.Value.int Go.IntKind.i64 n41] σ32 fun (v42 : Go.Value) (σ43 : Go.AI.AS) ↦
                                              Go.AI.tI Go.IntKind.i64 v42 fun (n44 : Int) ↦
                                                Go.AI.bmatch (n44 != (0 : Int)) (K (Go.Value.bool Bool.false) σ43)
                                                  (X
                                                    [((1 : Nat), Option.some (Go.Value.bool w)), ((7 : Nat), Option.some (Go.Value.slice c cn ce)),
                                                      ((8 : Nat), Option.some (Go.Value.pointer (Option.some (Go.Addr.mk s (0 : Nat) Option.none)))), ((26 : Nat), Option.some (Go.Value.int Go.IntKind.i64 n)),
                                                      ((28 : Nat), Option.some (Go.Value.int Go.IntKind.i64 (Go.IntKind.wrap Go.IntKind.i64 (i + (1 : Int)))))]
                                                    σ43))))))))
      (T (16 : Nat) [Go.Value.pointer (Option.some (Go.Addr.mk s (0 : Nat) Option.none)), Go.Value.int Go.IntKind.i64 n] σ fun (v45 : Go.Value) (σ46 : Go.AI.AS) ↦
        Go.AI.tTup v45 fun (l47 : List Go.Value) ↦
          Go.AI.pSome l47[(0 : Nat)]? fun (u48 : Go.Value) ↦
            Go.AI.tI Go.IntKind.u32 u48 fun (n49 : Int) ↦
              Go.AI.tTup v45 fun (l50 : List Go.Value) ↦
                Go.AI.pSome l50[(1 : Nat)]? fun (u51 : Go.Value) ↦
                  Go.AI.tB u51 fun (b52 : Bool) ↦
                    Go.AI.tTup v45 fun (l53 : List Go.Value) ↦
                      Go.AI.pSome l53[(2 : Nat)]? fun (u54 : Go.Value) ↦
                        Go.AI.tI Go.IntKind.i64 u54 fun (n55 : Int) ↦
                          T (13 : Nat) [Go.Value.pointer (Option.some (Go.Addr.mk s (0 : Nat) Option.none)), Go.Value.int Go.IntKind.i64 n] σ46 fun (v56 : Go.Value) (σ57 : Go.AI.AS) ↦
                            Go.AI.tTup v56 fun (l58 : List Go.Value) ↦
                              Go.AI.pSome l58[(0 : Nat)]? fun (u59 : Go.Value) ↦
                                Go.AI.tI Go.IntKind.u32 u59 fun (n60 : Int) ↦
                                  Go.AI.tTup v56 fun (l61 : List Go.Value) ↦
                                    Go.AI.pSome l61[(1 : Nat)]? fun (u62 : Go.Value) ↦
                                      Go.AI.tI Go.IntKind.u32 u62 fun (n63 : Int) ↦
                                        Go.AI.tTup v56 fun (l64 : List Go.Value) ↦
                                          Go.AI.pSome l64[(2 : Nat)]? fun (u65 : Go.Value) ↦
                                            Go.AI.tL (1 : Nat) u65 fun (s66 : Go.AI.Sl) ↦
                                              Go.AI.tTup v56 fun (l67 : List Go.Value) ↦
                                                Go.AI.pSome l67[(3 : Nat)]? fun (u68 : Go.Value) ↦
                                                  Go.AI.tI Go.IntKind.i64 u68 fun (n69 : Int) ↦
                                                    Go.AI.bmatch (!b52)
                                                      (T (10 : Nat) [Go.Value.int Go.IntKind.i64 n55] σ57 fun (v70 : Go.Value) (σ71 : Go.AI.AS) ↦
                                                        Go.AI.tI Go.IntKind.i64 v70 fun (n72 : Int) ↦
                                                          T (10 : Nat) [Go.Value.int Go.IntKind.i64 n69] σ71 fun (v73 : Go.Value) (σ74 : Go.AI.AS) ↦
                                                            Go.AI.tI Go.IntKind.i64 v73 fun (n75 : Int) ↦
                                                              Go.AI.bmatch (Go.IntKind.wrap Go.IntKind.i64 (n72 + n75) == (0 : Int))
                                                                (Go.AI.bmatch (Go.IntKind.wrap Go.IntKind.i64 n60 == (↑cn : Int))
                                                                  (Go.AI.bmatch (n63 == (0 : Int))
                                                                    (T (11 : Nat) [] σ74 fun (v76 : Go.Value) (σ77 : Go.AI.AS) ↦ Go.AI.tB v76 fun (b78 : Bool) ↦ K (Go.Value.bool b78) σ77)
                                                                    (K (Go.Value.bool Bool.false) σ74))
                                                                  (K (Go.Value.bool Bool.false) σ74))
                                                                (K (Go.Value.bool Bool.false) σ74))
                                                      (K (Go.Value.bool Bool.false) σ57)) := by
  intros
  kernel_rfl

end Go.AI
