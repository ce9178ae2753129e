/- The conditions ahead of the calls of the program's functions, reckoned as far as they go (equations that the kernel checks); no condition. -/
import Derived.Test.YtpgedoljndppdaaShSoft
import Derived.Test.YtpgedoljndppdaaAISep
set_option maxRecDepth 1000000
set_option linter.unusedVariables false
namespace Go.AI
open Go.Proofs
theorem s13 : ∀ (T : Go.AI.Ct) (s : Nat) (n : Int) (σ : Go.AI.AS) (K : Go.Value → Go.AI.AS → Prop),
  Go.AI.fw Go.Proofs.Try.prog Go.AI.hintsS T (13 : Nat) [Go.Value.pointer (Option.some (Go.Addr.mk s (0 : Nat) Option.none)), Go.Value.int Go.IntKind.i64 n] σ K =
    T (29 : Nat) [Go.Value.pointer (Option.some (Go.Addr.mk s (0 : Nat) Option.none)), Go.Value.int Go.IntKind.i64 n] σ fun (v0 : Go.Value) (σ1 : Go.AI.AS) ↦
      Go.AI.tTup v0 fun (l2 : List Go.Value) ↦
        Go.AI.pSome l2[(0 : Nat)]? fun (u3 : Go.Value) ↦
          Go.AI.tP u3 fun (b4 : Option Go.Addr) ↦
            Go.AI.tTup v0 fun (l5 : List Go.Value) ↦
              Go.AI.pSome l5[(1 : Nat)]? fun (u6 : Go.Value) ↦
                Go.AI.tI Go.IntKind.i64 u6 fun (n7 : Int) ↦
                  Go.AI.newAt σ1 (Go.AI.AObj.row Go.AI.RK.plain [Go.Value.pointer Option.none]) fun (i8 : Nat) (σ9 : Go.AI.AS) ↦
                    Go.AI.put1 σ9 (Go.Addr.mk i8 (0 : Nat) Option.none) (Go.Value.pointer b4) fun (σ10 : Go.AI.AS) ↦
                      Go.AI.bmatch (n7 != (0 : Int))
                        (K (Go.Value.tuple (Array.mk [Go.Value.int Go.IntKind.u32 (0 : Int), Go.Value.int Go.IntKind.u32 (0 : Int), Go.Value.slice Option.none (0 : Nat) (0 : Nat), Go.Value.int Go.IntKind.i64 n7])) σ10)
                        (Go.AI.ldc σ10 (Go.Addr.mk s ((0 : Nat) + (3 : Nat)) Option.none) fun (v11 : Go.Value) ↦
                          Go.AI.tM v11 fun (b12 : Option Nat) ↦
                            Go.AI.pSome b12 fun (i13 : Nat) ↦
                              Go.AI.mdel σ10 (Go.TypeDesc.int Go.IntKind.i64) i13 (Go.Value.int Go.IntKind.i64 n) fun (σ14 : Go.AI.AS) ↦
                                Go.AI.ldc σ14 (Go.Addr.mk i8 (0 : Nat) Option.none) fun (v15 : Go.Value) ↦
                                  Go.AI.tP v15 fun (b16 : Option Go.Addr) ↦
                                    Go.AI.pSome b16 fun (a17 : Go.Addr) ↦
                                      Go.AI.ldc σ14 (Go.Addr.add a17 (0 : Nat)) fun (v18 : Go.Value) ↦
                                        Go.AI.tIf v18
                                          (fun (t19 : Nat) (u20 : Go.Value) ↦
                                            Go.AI.tyAs (Go.Value.iface t19 u20) (87 : Nat) fun (o21 : Option Go.Value) ↦
                                              Go.AI.tP (Option.getD o21 (Go.Value.pointer Option.none)) fun (b22 : Option Go.Addr) ↦
                                                Go.AI.bmatch (Option.isSome o21)
                                                  (Go.AI.ldc σ14 (Go.Addr.mk i8 (0 : Nat) Option.none) fun (v23 : Go.Value) ↦
                                                    Go.AI.tP v23 fun (b24 : Option Go.Addr) ↦
                                                      Go.AI.pSome b24 fun (a25 : Go.Addr) ↦
                                                        Go.AI.ldc σ14 (Go.Addr.mk (Go.Addr.block a25) (Go.Addr.off a25 + (4 : Nat)) Option.none) fun (v26 : Go.Value) ↦
                                                          Go.AI.tI Go.IntKind.u32 v26 fun (n27 : Int) ↦
                                                            Go.AI.ldc σ14 (Go.Addr.mk i8 (0 : Nat) Option.none) fun (v28 : Go.Value) ↦
                                                              Go.AI.tP v28 fun (b29 : Option Go.Addr) ↦
                                                                Go.AI.pSome b29 fun (a30 : Go.Addr) ↦
                                                                  Go.AI.ldc σ14 (Go.Addr.mk (Go.Addr.block a30) (Go.Addr.off a30 + (5 : Nat)) Option.none) fun (v31 : Go.Value) ↦
                                                                    Go.AI.tI Go.IntKind.u32 v31 fun (n32 : Int) ↦
                                                                      Go.AI.pSome b22 fun (a33 : Go.Addr) ↦
                                                                        Go.AI.ldc σ14 (Go.Addr.add a33 (0 : Nat)) fun (v34 : Go.Value) ↦
                                                                          Go.AI.tL (1 : Nat) v34 fun (s35 : Go.AI.Sl) ↦
                                                                            K
                                                                              (Go.Value.tuple
                                                                                (Array.mk
                                                                                  [Go.Value.int Go.IntKind.u32 n27, Go.Value.int Go.IntKind.u32 n32, Go.Value.slice (Go.AI.Sl.a s35) (Go.AI.Sl.n s35) (1 : Nat),
                                                                                    Go.Value.int Go.IntKind.i64 (0 : Int)]))
                                                                              σ14)
                                                  (Go.AI.ldc σ14 (Go.Addr.mk i8 (0 : Nat) Option.none) fun (v36 : Go.Value) ↦
                                                    Go.AI.tP v36 fun (b37 : Option Go.Addr) ↦
                                                      Go.AI.pSome b37 fun (a38 : Go.Addr) ↦
                                                        Go.AI.ldc σ14 (Go.Addr.mk (Go.Addr.block a38) (Go.Addr.off a38 + (1 : Nat)) Option.none) fun (v39 : Go.Value) ↦
                                                          Go.AI.tP v39 fun (b40 : Option Go.Addr) ↦
                                                            Go.AI.ldc σ14 (Go.Addr.mk i8 (0 : Nat) Option.none) fun (v41 : Go.Value) ↦
                                                              Go.AI.tP v41 fun (b42 : Option Go.Addr) ↦
                                                                Go.AI.pSome b42 fun (a43 : Go.Addr) ↦
                                                                  Go.AI.ldc σ14 (Go.Addr.mk (Go.Addr.block a43) (Go.Addr.off a43 + (1 : Nat)) Option.none) fun (v44 : Go.Value) ↦
                                                                    Go.AI.tP v44 fun (b45 : Option Go.Addr) ↦
                                                                      Go.AI.pSome b45 fun (a46 : Go.Addr) ↦
                                                                        Go.AI.ldc σ14 (Go.Addr.mk (Go.Addr.block a46) (Go.Addr.off a46 + (1 : Nat)) Option.none) fun (v47 : Go.Value) ↦
                                                                          Go.AI.tL (1 : Nat) v47 fun (s48 : Go.AI.Sl) ↦
                                                                            T (30 : Nat)
                                                                              [Go.Value.slice (Go.AI.Sl.a s48) (Go.AI.Sl.n s48) (1 : Nat),
                                                                                Go.Value.func (Go.Fn.func (31 : Nat)) (Array.mk []) (Array.mk [Go.Value.pointer (Option.some (Go.Addr.mk i8 (0 : Nat) Option.none))])]
                                                                              σ14 fun (v49 : Go.Value) (σ50 : Go.AI.AS) ↦
                                                                              Go.AI.tL (1 : Nat) v49 fun (s51 : Go.AI.Sl) ↦
                                                                                Go.AI.ldc σ50 (Go.Addr.mk (Go.Addr.block a38) (Go.Addr.off a38 + (1 : Nat)) Option.none) fun (v52 : Go.Value) ↦
                                                                                  Go.AI.tP v52 fun (b53 : Option Go.Addr) ↦
                                                                                    Go.Value.pointer b40 = Go.Value.pointer b53 ∧
                                                                                      Go.AI.ldc σ50 (Go.Addr.mk i8 (0 : Nat) Option.none) fun (v54 : Go.Value) ↦
                                                                                        Go.AI.tP v54 fun (b55 : Option Go.Addr) ↦
                                                                                          Go.Value.pointer b37 = Go.Value.pointer b55 ∧
                                                                                            Go.AI.pSome b40 fun (a56 : Go.Addr) ↦
                                                                                              Go.AI.put1 σ50 (Go.Addr.mk (Go.Addr.block a56) (Go.Addr.off a56 + (1 : Nat)) Option.none)
                                                                                                (Go.Value.slice (Go.AI.Sl.a s51) (Go.AI.Sl.n s51) (1 : Nat)) fun (σ57 : Go.AI.AS) ↦
                                                                                                Go.AI.ldc σ57 (Go.Addr.mk i8 (0 : Nat) Option.none) fun (v58 : Go.Value) ↦
                                                                                                  Go.AI.tP v58 fun (b59 : Option Go.Addr) ↦
                                                                                                    Go.AI.pSome b59 fun (a60 : Go.Addr) ↦
                                                                                                      Go.AI.ldc σ57 (Go.Addr.mk (Go.Addr.block a60) (Go.Addr.off a60 + (4 : Nat)) Option.none) fun (v61 : Go.Value) ↦
                                                                                                        Go.AI.tI Go.IntKind.u32 v61 fun (n62 : Int) ↦
                                                                                                          Go.AI.ldc σ57 (Go.Addr.mk i8 (0 : Nat) Option.none) fun (v63 : Go.Value) ↦
                                                                                                            Go.AI.tP v63 fun (b64 : Option Go.Addr) ↦
                                                                                                              Go.AI.pSome b64 fun (a65 : Go.Addr) ↦
                                                                                                                Go.AI.ldc σ57 (Go.Addr.mk (Go.Addr.block a65) (Go.Addr.off a65 + (5 : Nat)) Option.none)
                                                                                                                  fun (v66 : Go.Value) ↦
                                                                                                                  Go.AI.tI Go.IntKind.u32 v66 fun (n67 : Int) ↦
                                                                                                                    K
                                                                                                                      (Go.Value.tuple
                                                                                                                        (Array.mk
                                                                                                                          [Go.Value.int Go.IntKind.u32 n62, Go.Value.int Go.IntKind.u32 n67,
                                                                                                                            Go.Value.slice Option.none (0 : Nat) (0 : Nat), Go.Value.int Go.IntKind.i64 (0 : Int)]))
                                                                                                                      σ57))
                                          (Go.AI.ldc σ14 (Go.Addr.mk i8 (0 : Nat) Option.none) fun (v68 : Go.Value) ↦
                                            Go.AI.tP v68 fun (b69 : Option Go.Addr) ↦
                                              Go.AI.pSome b69 fun (a70 : Go.Addr) ↦
                                                Go.AI.ldc σ14 (Go.Addr.mk (Go.Addr.block a70) (Go.Addr.off a70 + (1 : Nat)) Option.none) fun (v71 : Go.Value) ↦
                                                  Go.AI.tP v71 fun (b72 : Option Go.Addr) ↦
                                                    Go.AI.ldc σ14 (Go.Addr.mk i8 (0 : Nat) Option.none) fun (v73 : Go.Value) ↦
                                                      Go.AI.tP v73 fun (b74 : Option Go.Addr) ↦
                                                        Go.AI.pSome b74 fun (a75 : Go.Addr) ↦
                                                          Go.AI.ldc σ14 (Go.Addr.mk (Go.Addr.block a75) (Go.Addr.off a75 + (1 : Nat)) Option.none) fun (v76 : Go.Value) ↦
                                                            Go.AI.tP v76 fun (b77 : Option Go.Addr) ↦
                                                              Go.AI.pSome b77 fun (a78 : Go.Addr) ↦
                                                                Go.AI.ldc σ14 (Go.Addr.mk (Go.Addr.block a78) (Go.Addr.off a78 + (1 : Nat)) Option.none) fun (v79 : Go.Value) ↦
                                                                  Go.AI.tL (1 : Nat) v79 fun (s80 : Go.AI.Sl) ↦
                                                                    T (30 : Nat)
                                                                      [Go.Value.slice (Go.AI.Sl.a s80) (Go.AI.Sl.n s80) (1 : Nat),
                                                                        Go.Value.func (Go.Fn.func (31 : Nat)) (Array.mk []) (Array.mk [Go.Value.pointer (Option.some (Go.Addr.mk i8 (0 : Nat) Option.none))])]
                                                                      σ14 fun (v81 : Go.Value) (σ82 : Go.AI.AS) ↦
                                                                      Go.AI.tL (1 : Nat) v81 fun (s83 : Go.AI.Sl) ↦
                                                                        Go.AI.ldc σ82 (Go.Addr.mk (Go.Addr.block a70) (Go.Addr.off a70 + (1 : Nat)) Option.none) fun (v84 : Go.Value) ↦
                                                                          Go.AI.tP v84 fun (b85 : Option Go.Addr) ↦
                                                                            Go.Value.pointer b72 = Go.Value.pointer b85 ∧
                                                                              Go.AI.ldc σ82 (Go.Addr.mk i8 (0 : Nat) Option.none) fun (v86 : Go.Value) ↦
                                                                                Go.AI.tP v86 fun (b87 : Option Go.Addr) ↦
                                                                                  Go.Value.pointer b69 = Go.Value.pointer b87 ∧
                                                                                    Go.AI.pSome b72 fun (a88 : Go.Addr) ↦
                                                                                      Go.AI.put1 σ82 (Go.Addr.mk (Go.Addr.block a88) (Go.Addr.off a88 + (1 : Nat)) Option.none)
                                                                                        (Go.Value.slice (Go.AI.Sl.a s83) (Go.AI.Sl.n s83) (1 : Nat)) fun (σ89 : Go.AI.AS) ↦
                                                                                        Go.AI.ldc σ89 (Go.Addr.mk i8 (0 : Nat) Option.none) fun (v90 : Go.Value) ↦
                                                                                          Go.AI.tP v90 fun (b91 : Option Go.Addr) ↦
                                                                                            Go.AI.pSome b91 fun (a92 : Go.Addr) ↦
                                                                                              Go.AI.ldc σ89 (Go.Addr.mk (Go.Addr.block a92) (Go.Addr.off a92 + (4 : Nat)) Option.none) fun (v93 : Go.Value) ↦
                                                                                                Go.AI.tI Go.IntKind.u32 v93 fun (n94 : Int) ↦
                                                                                                  Go.AI.ldc σ89 (Go.Addr.mk i8 (0 : Nat) Option.none) fun (v95 : Go.Value) ↦
                                                                                                    Go.AI.tP v95 fun (b96 : Option Go.Addr) ↦
                                                                                                      Go.AI.pSome b96 fun (a97 : Go.Addr) ↦
                                                                                                        Go.AI.ldc σ89 (Go.Addr.mk (Go.Addr.block a97) (Go.Addr.off a97 + (5 : Nat)) Option.none) fun (v98 : Go.Value) ↦
                                                                                                          Go.AI.tI Go.IntKind.u32 v98 fun (n99 : Int) ↦
                                                                                                            K
                                                                                                              (Go.Value.tuple
                                                                                                                (Array.mk
                                                                                                                  [Go.Value.int Go.IntKind.u32 n94, Go.Value.int Go.IntKind.u32 n99,
                                                                                                                    Go.Value.slice Option.none (0 : Nat) (0 : Nat), Go.Value.int Go.IntKind.i64 (0 : Int)]))
                                                                                                              σ89)) := by
  intros
  kernel_rfl

theorem s14 : ∀ (T : Go.AI.Ct) (s : Nat) (n : Int) (a : Option Go.Addr) (m : Nat) (σ : Go.AI.AS) (K : Go.Value → Go.AI.AS → Prop),
  Go.AI.fw Go.Proofs.Try.prog Go.AI.hintsS T (14 : Nat) [Go.Value.pointer (Option.some (Go.Addr.mk s (0 : Nat) Option.none)), Go.Value.int Go.IntKind.i64 n, Go.Value.slice a m (1 : Nat)] σ K =
    T (29 : Nat) [Go.Value.pointer (Option.some (Go.Addr.mk s (0 : Nat) Option.none)), Go.Value.int Go.IntKind.i64 n] σ fun (v0 : Go.Value) (σ1 : Go.AI.AS) ↦
      Go.AI.tTup v0 fun (l2 : List Go.Value) ↦
        Go.AI.pSome l2[(0 : Nat)]? fun (u3 : Go.Value) ↦
          Go.AI.tP u3 fun (b4 : Option Go.Addr) ↦
            Go.AI.tTup v0 fun (l5 : List Go.Value) ↦
              Go.AI.pSome l5[(1 : Nat)]? fun (u6 : Go.Value) ↦
                Go.AI.tI Go.IntKind.i64 u6 fun (n7 : Int) ↦
                  Go.AI.bmatch (n7 != (0 : Int)) (K (Go.Value.int Go.IntKind.i64 n7) σ1)
                    (T (32 : Nat) [Go.Value.pointer b4] σ1 fun (v8 : Go.Value) (σ9 : Go.AI.AS) ↦
                      Go.AI.tB v8 fun (b10 : Bool) ↦
                        Go.AI.bmatch (!b10) (K (Go.Value.int Go.IntKind.i64 (1 : Int)) σ9)
                          (Go.AI.bmatch (Decidable.decide ((↑m : Int) > (0 : Int)))
                            (Go.AI.pSome b4 fun (a11 : Go.Addr) ↦
                              Go.AI.ldc σ9 (Go.Addr.mk (Go.Addr.block a11) (Go.Addr.off a11 + (1 : Nat)) Option.none) fun (v12 : Go.Value) ↦
                                Go.AI.tP v12 fun (b13 : Option Go.Addr) ↦
                                  Go.AI.ptrEq σ9 b13 Option.none fun (r14 : Bool) ↦
                                    Go.AI.bmatch (!r14)
                                      (Go.AI.pSome b4 fun (a15 : Go.Addr) ↦
                                        Go.AI.ldc σ9 (Go.Addr.add a15 (0 : Nat)) fun (v16 : Go.Value) ↦
                                          Go.AI.tIf v16
                                            (fun (t17 : Nat) (u18 : Go.Value) ↦
                                              Go.AI.pSome b4 fun (a19 : Go.Addr) ↦
                                                Go.AI.ldc σ9 (Go.Addr.mk (Go.Addr.block a19) (Go.Addr.off a19 + (3 : Nat)) Option.none) fun (v20 : Go.Value) ↦
                                                  Go.AI.tI Go.IntKind.i64 v20 fun (n21 : Int) ↦
                                                    Go.AI.ldc σ9 (Go.Addr.mk s (0 : Nat) Option.none) fun (v22 : Go.Value) ↦
                                                      Go.AI.tI Go.IntKind.i64 v22 fun (n23 : Int) ↦
                                                        T (24 : Nat) [Go.Value.pointer (Option.some (Go.Addr.mk s (0 : Nat) Option.none))] σ9 fun (v24 : Go.Value) (σ25 : Go.AI.AS) ↦
                                                          Go.AI.tI Go.IntKind.i64 v24 fun (n26 : Int) ↦
                                                            Go.AI.ldc σ25 (Go.Addr.mk s (0 : Nat) Option.none) fun (v27 : Go.Value) ↦
                                                              Go.AI.tI Go.IntKind.i64 v27 fun (n28 : Int) ↦
                                                                Go.Value.int Go.IntKind.i64 n23 = Go.Value.int Go.IntKind.i64 n28 ∧
                                                                  Go.Value.int Go.IntKind.i64 (↑m : Int) = Go.Value.int Go.IntKind.i64 (↑m : Int) ∧
                                                                    Go.AI.ldc σ25 (Go.Addr.mk (Go.Addr.block a19) (Go.Addr.off a19 + (3 : Nat)) Option.none) fun (v29 : Go.Value) ↦
                                                                      Go.AI.tI Go.IntKind.i64 v29 fun (n30 : Int) ↦
                                                                        Go.Value.int Go.IntKind.i64 n21 = Go.Value.int Go.IntKind.i64 n30 ∧
                                                                          Go.AI.ldc σ25 (Go.Addr.add a15 (0 : Nat)) fun (v31 : Go.Value) ↦
                                                                            Go.AI.tIf v31
                                                                              (fun (t32 : Nat) (u33 : Go.Value) ↦
                                                                                Go.Value.iface t17 u18 = Go.Value.iface t32 u33 ∧
                                                                                  Go.AI.pSome (Go.AI.methodOf Go.Proofs.Try.prog t17 "grotto/shelf.more") fun (f34 : Go.FuncId) ↦
                                                                                    T f34 [u18, Go.Value.int Go.IntKind.i64 (Go.IntKind.wrap Go.IntKind.i64 (n21 + (↑m : Int)))] σ25
                                                                                      fun (v35 : Go.Value) (σ36 : Go.AI.AS) ↦
                                                                                      Go.AI.tI Go.IntKind.i64 v35 fun (n37 : Int) ↦
                                                                                        Go.AI.ldc σ36 (Go.Addr.mk s (0 : Nat) Option.none) fun (v38 : Go.Value) ↦
                                                                                          Go.AI.tI Go.IntKind.i64 v38 fun (n39 : Int) ↦
                                                                                            Go.Value.int Go.IntKind.i64 n23 = Go.Value.int Go.IntKind.i64 n39 ∧
                                                                                              Go.AI.bmatch (Decidable.decide (Go.IntKind.wrap Go.IntKind.i64 (n26 + n37) > n23))
                                                                                                (K (Go.Value.int Go.IntKind.i64 (7 : Int)) σ36)
                                                                                                (Go.AI.ALoop
                                                                                                  (Go.AI.fl Go.Proofs.Try.prog Go.AI.hintsS T (14 : Nat)
                                                                                                    [Bool.true, Bool.true, Bool.true, Bool.false, Bool.true, Bool.false] [] K)
                                                                                                  [((2 : Nat), Option.some (Go.Value.slice a m (1 : Nat))), ((7 : Nat), Option.some (Go.Value.pointer b4)),
                                                                                                    ((60 : Nat), Option.some (Go.Value.slice a m (1 : Nat))),
                                                                                                    ((61 : Nat), Option.some (Go.Value.int Go.IntKind.i64 (↑m : Int))),
                                                                                                    ((62 : Nat), Option.some (Go.Value.int Go.IntKind.i64 (0 : Int)))]
                                                                                                  σ36))
                                                                              (Go.Value.iface t17 u18 = Go.Value.nilIface ∧
                                                                                Go.AI.pSome (Go.AI.methodOf Go.Proofs.Try.prog t17 "grotto/shelf.more") fun (f40 : Go.FuncId) ↦
                                                                                  T f40 [u18, Go.Value.int Go.IntKind.i64 (Go.IntKind.wrap Go.IntKind.i64 (n21 + (↑m : Int)))] σ25
                                                                                    fun (v41 : Go.Value) (σ42 : Go.AI.AS) ↦
                                                                                    Go.AI.tI Go.IntKind.i64 v41 fun (n43 : Int) ↦
                                                                                      Go.AI.ldc σ42 (Go.Addr.mk s (0 : Nat) Option.none) fun (v44 : Go.Value) ↦
                                                                                        Go.AI.tI Go.IntKind.i64 v44 fun (n45 : Int) ↦
                                                                                          Go.Value.int Go.IntKind.i64 n23 = Go.Value.int Go.IntKind.i64 n45 ∧
                                                                                            Go.AI.bmatch (Decidable.decide (Go.IntKind.wrap Go.IntKind.i64 (n26 + n43) > n23))
                                                                                              (K (Go.Value.int Go.IntKind.i64 (7 : Int)) σ42)
                                                                                              (Go.AI.ALoop
                                                                                                (Go.AI.fl Go.Proofs.Try.prog Go.AI.hintsS T (14 : Nat)
                                                                                                  [Bool.true, Bool.true, Bool.true, Bool.false, Bool.true, Bool.false] [] K)
                                                                                                [((2 : Nat), Option.some (Go.Value.slice a m (1 : Nat))), ((7 : Nat), Option.some (Go.Value.pointer b4)),
                                                                                                  ((60 : Nat), Option.some (Go.Value.slice a m (1 : Nat))),
                                                                                                  ((61 : Nat), Option.some (Go.Value.int Go.IntKind.i64 (↑m : Int))),
                                                                                                  ((62 : Nat), Option.some (Go.Value.int Go.IntKind.i64 (0 : Int)))]
                                                                                                σ42)))
                                            (Go.AI.pSome b4 fun (a46 : Go.Addr) ↦
                                              Go.AI.ldc σ9 (Go.Addr.mk (Go.Addr.block a46) (Go.Addr.off a46 + (3 : Nat)) Option.none) fun (v47 : Go.Value) ↦ Go.AI.tI Go.IntKind.i64 v47 fun (n48 : Int) ↦ False))
                                      (Go.AI.ALoop (Go.AI.fl Go.Proofs.Try.prog Go.AI.hintsS T (14 : Nat) [Bool.true, Bool.true, Bool.true, Bool.false, Bool.true, Bool.false] [] K)
                                        [((2 : Nat), Option.some (Go.Value.slice a m (1 : Nat))), ((7 : Nat), Option.some (Go.Value.pointer b4)), ((60 : Nat), Option.some (Go.Value.slice a m (1 : Nat))),
                                          ((61 : Nat), Option.some (Go.Value.int Go.IntKind.i64 (↑m : Int))), ((62 : Nat), Option.some (Go.Value.int Go.IntKind.i64 (0 : Int)))]
                                        σ9))
                            (Go.AI.ALoop (Go.AI.fl Go.Proofs.Try.prog Go.AI.hintsS T (14 : Nat) [Bool.true, Bool.true, Bool.true, Bool.false, Bool.true, Bool.false] [] K)
                              [((2 : Nat), Option.some (Go.Value.slice a m (1 : Nat))), ((7 : Nat), Option.some (Go.Value.pointer b4)), ((60 : Nat), Option.some (Go.Value.slice a m (1 : Nat))),
                                ((61 : Nat), Option.some (Go.Value.int Go.IntKind.i64 (↑m : Int))), ((62 : Nat), Option.some (Go.Value.int Go.IntKind.i64 (0 : Int)))]
                              σ9))) := by
  intros
  kernel_rfl

theorem s14l : ∀ (T : Go.AI.Ct) (x : Nat) (a : Option Go.Addr) (m : Nat) (len i : Int) (X : Go.AI.Regs → Go.AI.AS → Prop) (σ : Go.AI.AS) (K : Go.Value → Go.AI.AS → Prop),
  Go.AI.fl Go.Proofs.Try.prog Go.AI.hintsS T (14 : Nat) [Bool.true, Bool.true, Bool.true, Bool.false, Bool.true, Bool.false] [] K X
      [((2 : Nat), Option.some (Go.Value.slice a m (1 : Nat))), ((7 : Nat), Option.some (Go.Value.pointer (Option.some (Go.Addr.mk x (0 : Nat) Option.none)))),
        ((60 : Nat), Option.some (Go.Value.slice a m (1 : Nat))), ((61 : Nat), Option.some (Go.Value.int Go.IntKind.i64 len)), ((62 : Nat), Option.some (Go.Value.int Go.IntKind.i64 i))]
      σ =
    Go.AI.bmatch (Decidable.decide (i < len))
      (Go.AI.req ((0 : Int) ≤ i)
        (Go.AI.req (i < (↑m : Int))
          (Go.AI.pSome a fun (a0 : Go.Addr) ↦
            Go.AI.ldc σ (Go.Addr.add a0 (Int.toNat i * Go.AI.szOf Go.Proofs.Try.prog (32 : Nat))) fun (v1 : Go.Value) ↦
              Go.AI.tI Go.IntKind.u32 v1 fun (n2 : Int) ↦
                Go.AI.ldc σ (Go.Addr.mk x (0 : Nat) Option.none) fun (v3 : Go.Value) ↦
                  Go.AI.tIf v3
                    (fun (t4 : Nat) (u5 : Go.Value) ↦
                      Go.AI.ldc σ (Go.Addr.mk x ((0 : Nat) + (3 : Nat)) Option.none) fun (v6 : Go.Value) ↦
                        Go.AI.tI Go.IntKind.i64 v6 fun (n7 : Int) ↦
                          Go.AI.pSome (Go.AI.methodOf Go.Proofs.Try.prog t4 "grotto/shelf.put") fun (f8 : Go.FuncId) ↦
                            T f8 [u5, Go.Value.int Go.IntKind.i64 n7, Go.Value.int Go.IntKind.u32 n2] σ fun (v9 : Go.Value) (σ10 : Go.AI.AS) ↦
                              Go.AI.ldc σ10 (Go.Addr.mk x ((0 : Nat) + (3 : Nat)) Option.none) fun (v11 : Go.Value) ↦
                                Go.AI.tI Go.IntKind.i64 v11 fun (n12 : Int) ↦
                                  Go.AI.ldc σ10 (Go.Addr.mk x (0 : Nat) Option.none) fun (v13 : Go.Value) ↦
                                    Go.AI.tIf v13
                                      (fun (t14 : Nat) (u15 : Go.Value) ↦
                                        Go.AI.pSome (Go.AI.methodOf Go.Proofs.Try.prog t14 "grotto/shelf.size") fun (f16 : Go.FuncId) ↦
                                          T f16 [u15] σ10 fun (v17 : Go.Value) (σ18 : Go.AI.AS) ↦
                                            Go.AI.tI Go.IntKind.i64 v17 fun (n19 : Int) ↦
                                              Go.AI.ldc σ18 (Go.Addr.mk x ((0 : Nat) + (3 : Nat)) Option.none) fun (v20 : Go.Value) ↦
                                                Go.AI.tI Go.IntKind.i64 v20 fun (n21 : Int) ↦
                                                  Go.Value.int Go.IntKind.i64 n12 = Go.Value.int Go.IntKind.i64 n21 ∧
                                                    Go.AI.put1 σ18 (Go.Addr.mk x ((0 : Nat) + (3 : Nat)) Option.none) (Go.Value.int Go.IntKind.i64 (Go.AI.imin (Go.IntKind.wrap Go.IntKind.i64 (n12 + (1 : Int))) n19))
                                                      fun (σ22 : Go.AI.AS) ↦
                                                      X
                                                        [((2 : Nat), Option.some (Go.Value.slice a m (1 : Nat))), ((7 : Nat), Option.some (Go.Value.pointer (Option.some (Go.Addr.mk x (0 : Nat) Option.none)))),
                                                          ((60 : Nat), Option.some (Go.Value.slice a m (1 : Nat))), ((61 : Nat), Option.some (Go.Value.int Go.IntKind.i64 len)),
                                                          ((62 : Nat), Option.some (Go.Value.int Go.IntKind.i64 (Go.IntKind.wrap Go.IntKind.i64 (i + (1 : Int)))))]
                                                        σ22)
                                      False)
                    (Go.AI.ldc σ (Go.Addr.mk x ((0 : Nat) + (3 : Nat)) Option.none) fun (v23 : Go.Value) ↦ Go.AI.tI Go.IntKind.i64 v23 fun (n24 : Int) ↦ False))))
      (Go.AI.ldc σ (Go.Addr.mk x ((0 : Nat) + (5 : Nat)) Option.none) fun (v25 : Go.Value) ↦
        Go.AI.tI Go.IntKind.u32 v25 fun (n26 : Int) ↦
          Go.AI.put1 σ (Go.Addr.mk x ((0 : Nat) + (5 : Nat)) Option.none) (Go.Value.int Go.IntKind.u32 (Go.IntKind.wrap Go.IntKind.u32 (n26 + Go.IntKind.wrap Go.IntKind.u32 (↑m : Int)))) fun (σ27 : Go.AI.AS) ↦
            K (Go.Value.int Go.IntKind.i64 (0 : Int)) σ27) := by
  intros
  kernel_rfl

theorem s4 : ∀ (T : Go.AI.Ct) (a : Option Go.Addr) (m : Nat) (b : Option Go.Addr) (k : Nat) (w : Bool) (σ : Go.AI.AS) (K : Go.Value → Go.AI.AS → Prop),
  Go.AI.fw Go.Proofs.Try.prog Go.AI.hintsS T (4 : Nat) [Go.Value.slice a m (1 : Nat), Go.Value.slice b k (1 : Nat), Go.Value.bool w] σ K =
    Go.AI.bmatch (Decidable.decide ((↑m : Int) > (4096 : Int))) (T (11 : Nat) [] σ fun (v0 : Go.Value) (σ1 : Go.AI.AS) ↦ Go.AI.tB v0 fun (b2 : Bool) ↦ K (Go.Value.bool b2) σ1)
      (Go.AI.bmatch (Decidable.decide ((↑k : Int) > (4096 : Int))) (T (11 : Nat) [] σ fun (v3 : Go.Value) (σ4 : Go.AI.AS) ↦ Go.AI.tB v3 fun (b5 : Bool) ↦ K (Go.Value.bool b5) σ4)
        (T (9 : Nat) [Go.Value.int Go.IntKind.i64 (0 : Int)] σ fun (v6 : Go.Value) (σ7 : Go.AI.AS) ↦
          Go.AI.tTup v6 fun (l8 : List Go.Value) ↦
            Go.AI.pSome l8[(0 : Nat)]? fun (u9 : Go.Value) ↦
              Go.AI.tP u9 fun (b10 : Option Go.Addr) ↦
                Go.AI.tTup v6 fun (l11 : List Go.Value) ↦
                  Go.AI.pSome l11[(1 : Nat)]? fun (u12 : Go.Value) ↦
                    Go.AI.tI Go.IntKind.i64 u12 fun (n13 : Int) ↦
                      T (10 : Nat) [Go.Value.int Go.IntKind.i64 n13] σ7 fun (v14 : Go.Value) (σ15 : Go.AI.AS) ↦
                        Go.AI.tI Go.IntKind.i64 v14 fun (n16 : Int) ↦
                          Go.AI.bmatch (n16 != (0 : Int)) (K (Go.Value.bool Bool.false) σ15)
                            (Go.AI.ptrEq σ15 b10 Option.none fun (r17 : Bool) ↦
                              Go.AI.bmatch r17 (K (Go.Value.bool Bool.false) σ15)
                                (T (17 : Nat) [Go.Value.pointer b10, Go.Value.slice a m (1 : Nat), Go.Value.int Go.IntKind.i64 (3 : Int), Go.Value.bool w] σ15 fun (v18 : Go.Value) (σ19 : Go.AI.AS) ↦
                                  Go.AI.tTup v18 fun (l20 : List Go.Value) ↦
                                    Go.AI.pSome l20[(0 : Nat)]? fun (u21 : Go.Value) ↦
                                      Go.AI.tI Go.IntKind.i64 u21 fun (n22 : Int) ↦
                                        Go.AI.tTup v18 fun (l23 : List Go.Value) ↦
                                          Go.AI.pSome l23[(1 : Nat)]? fun (u24 : Go.Value) ↦
                                            Go.AI.tI Go.IntKind.i64 u24 fun (n25 : Int) ↦
                                              T (10 : Nat) [Go.Value.int Go.IntKind.i64 n25] σ19 fun (v26 : Go.Value) (σ27 : Go.AI.AS) ↦
                                                Go.AI.tI Go.IntKind.i64 v26 fun (n28 : Int) ↦
                                                  Go.AI.bmatch (n28 != (0 : Int)) (K (Go.Value.bool Bool.false) σ27)
                                                    (T (14 : Nat) [Go.Value.pointer b10, Go.Value.int Go.IntKind.i64 n22, Go.Value.slice b k (1 : Nat)] σ27 fun (v29 : Go.Value) (σ30 : Go.AI.AS) ↦
                                                      Go.AI.tI Go.IntKind.i64 v29 fun (n31 : Int) ↦
                                                        T (10 : Nat) [Go.Value.int Go.IntKind.i64 n31] σ30 fun (v32 : Go.Value) (σ33 : Go.AI.AS) ↦
                                                          Go.AI.tI Go.IntKind.i64 v32 fun (n34 : Int) ↦
                                                            Go.AI.bmatch (n34 != (0 : Int)) (K (Go.Value.bool Bool.false) σ33)
                                                              (T (15 : Nat) [Go.Value.pointer b10, Go.Value.int Go.IntKind.i64 n22] σ33 fun (v35 : Go.Value) (σ36 : Go.AI.AS) ↦
                                                                Go.AI.tTup v35 fun (l37 : List Go.Value) ↦
                                                                  Go.AI.pSome l37[(0 : Nat)]? fun (u38 : Go.Value) ↦
                                                                    Go.AI.tI Go.IntKind.i64 u38 fun (n39 : Int) ↦
                                                                      Go.AI.tTup v35 fun (l40 : List Go.Value) ↦
                                                                        Go.AI.pSome l40[(1 : Nat)]? fun (u41 : Go.Value) ↦
                                                                          Go.AI.tI Go.IntKind.i64 u41 fun (n42 : Int) ↦
                                                                            Go.AI.tTup v35 fun (l43 : List Go.Value) ↦
                                                                              Go.AI.pSome l43[(2 : Nat)]? fun (u44 : Go.Value) ↦
                                                                                Go.AI.tI Go.IntKind.i64 u44 fun (n45 : Int) ↦
                                                                                  Go.AI.ALoop
                                                                                    (Go.AI.fl Go.Proofs.Try.prog Go.AI.hintsS T (4 : Nat)
                                                                                      [Bool.true, Bool.true, Bool.true, Bool.true, Bool.true, Bool.true, Bool.true, Bool.true, Bool.false, Bool.true, Bool.false] [] K)
                                                                                    [((0 : Nat), Option.some (Go.Value.slice a m (1 : Nat))), ((1 : Nat), Option.some (Go.Value.slice b k (1 : Nat))),
                                                                                      ((2 : Nat), Option.some (Go.Value.bool w)), ((7 : Nat), Option.some (Go.Value.pointer b10)),
                                                                                      ((9 : Nat), Option.some (Go.Value.int Go.IntKind.i64 n22)), ((11 : Nat), Option.some (Go.Value.int Go.IntKind.i64 n39)),
                                                                                      ((12 : Nat), Option.some (Go.Value.int Go.IntKind.i64 n42)),
                                                                                      ((14 : Nat), Option.some (Go.Value.slice Option.none (0 : Nat) (0 : Nat))),
                                                                                      ((15 : Nat), Option.some (Go.Value.int Go.IntKind.i64 (0 : Int)))]
                                                                                    σ36)))))) := by
  intros
  kernel_rfl

theorem s4l : ∀ (T : Go.AI.Ct) (a : Option Go.Addr) (m : Nat) (b : Option Go.Addr) (k s : Nat) (w : Bool) (n place size i : Int) (c : Option Go.Addr) (cn ce : Nat) (X : Go.AI.Regs → Go.AI.AS → Prop)
  (σ : Go.AI.AS) (K : Go.Value → Go.AI.AS → Prop),
  Go.AI.fl Go.Proofs.Try.prog Go.AI.hintsS T (4 : Nat) [Bool.true, Bool.true, Bool.true, Bool.true, Bool.true, Bool.true, Bool.true, Bool.true, Bool.false, Bool.true, Bool.false] [] K X
      [((0 : Nat), Option.some (Go.Value.slice a m (1 : Nat))), ((1 : Nat), Option.some (Go.Value.slice b k (1 : Nat))), ((2 : Nat), Option.some (Go.Value.bool w)),
        ((7 : Nat), Option.some (Go.Value.pointer (Option.some (Go.Addr.mk s (0 : Nat) Option.none)))), ((9 : Nat), Option.some (Go.Value.int Go.IntKind.i64 n)),
        ((11 : Nat), Option.some (Go.Value.int Go.IntKind.i64 place)), ((12 : Nat), Option.some (Go.Value.int Go.IntKind.i64 size)), ((14 : Nat), Option.some (Go.Value.slice c cn ce)),
        ((15 : Nat), Option.some (Go.Value.int Go.IntKind.i64 i))]
      σ =
    Go.AI.bmatch (Decidable.decide (i < (↑m : Int)))
      (Go.AI.req ((0 : Int) ≤ i)
        (Go.AI.req (i < (↑m : Int))
          (Go.AI.pSome a fun (a0 : Go.Addr) ↦
            Go.AI.ldc σ (Go.Addr.add a0 (Int.toNat i * Go.AI.szOf Go.Proofs.Try.prog (32 : Nat))) fun (v1 : Go.Value) ↦
              Go.AI.tI Go.IntKind.u32 v1 fun (n2 : Int) ↦
                Go.AI.bmatch (Decidable.decide (i < (↑k : Int)))
                  (Go.AI.req ((0 : Int) ≤ i)
                    (Go.AI.req (i < (↑k : Int))
                      (Go.AI.pSome b fun (a3 : Go.Addr) ↦
                        Go.AI.ldc σ (Go.Addr.add a3 (Int.toNat i * Go.AI.szOf Go.Proofs.Try.prog (32 : Nat))) fun (v4 : Go.Value) ↦
                          Go.AI.tI Go.IntKind.u32 v4 fun (n5 : Int) ↦
                            Go.AI.bmatch (!w)
                              (Go.AI.bmatch (Decidable.decide (n5 > (255 : Int)))
                                (Go.AI.newAt σ (Go.AI.AObj.row Go.AI.RK.rw [Go.Value.int Go.IntKind.u32 (63 : Int)]) fun (i6 : Nat) (σ7 : Go.AI.AS) ↦
                                  Go.AI.chk (Go.AI.nilOr c ce (Go.AI.szOf Go.Proofs.Try.prog (32 : Nat)))
                                    (Go.AI.lds σ7 (Go.Addr.mk i6 (0 : Nat) Option.none) (1 : Nat) fun (l8 : List Go.Value) ↦
                                      Go.AI.appendTo σ7 (1 : Nat) (4 : Nat) (Go.AI.Sl.mk c cn) l8 (1 : Nat) fun (s9 : Go.AI.Sl) (σ10 : Go.AI.AS) ↦
                                        X
                                          [((0 : Nat), Option.some (Go.Value.slice a m (1 : Nat))), ((1 : Nat), Option.some (Go.Value.slice b k (1 : Nat))), ((2 : Nat), Option.some (Go.Value.bool w)),
                                            ((7 : Nat), Option.some (Go.Value.pointer (Option.some (Go.Addr.mk s (0 : Nat) Option.none)))), ((9 : Nat), Option.some (Go.Value.int Go.IntKind.i64 n)),
                                            ((11 : Nat), Option.some (Go.Value.int Go.IntKind.i64 place)), ((12 : Nat), Option.some (Go.Value.int Go.IntKind.i64 size)),
                                            ((14 : Nat), Option.some (Go.Value.slice (Go.AI.Sl.a s9) (Go.AI.Sl.n s9) (1 : Nat))),
                                            ((15 : Nat), Option.some (Go.Value.int Go.IntKind.i64 (Go.IntKind.wrap Go.IntKind.i64 (i + (1 : Int)))))]
                                          σ10))
                                (Go.AI.newAt σ (Go.AI.AObj.row Go.AI.RK.rw [Go.Value.int Go.IntKind.u32 n5]) fun (i11 : Nat) (σ12 : Go.AI.AS) ↦
                                  Go.AI.chk (Go.AI.nilOr c ce (Go.AI.szOf Go.Proofs.Try.prog (32 : Nat)))
                                    (Go.AI.lds σ12 (Go.Addr.mk i11 (0 : Nat) Option.none) (1 : Nat) fun (l13 : List Go.Value) ↦
                                      Go.AI.appendTo σ12 (1 : Nat) (4 : Nat) (Go.AI.Sl.mk c cn) l13 (1 : Nat) fun (s14 : Go.AI.Sl) (σ15 : Go.AI.AS) ↦
                                        X
                                          [((0 : Nat), Option.some (Go.Value.slice a m (1 : Nat))), ((1 : Nat), Option.some (Go.Value.slice b k (1 : Nat))), ((2 : Nat), Option.some (Go.Value.bool w)),
                                            ((7 : Nat), Option.some (Go.Value.pointer (Option.some (Go.Addr.mk s (0 : Nat) Option.none)))), ((9 : Nat), Option.some (Go.Value.int Go.IntKind.i64 n)),
                                            ((11 : Nat), Option.some (Go.Value.int Go.IntKind.i64 place)), ((12 : Nat), Option.some (Go.Value.int Go.IntKind.i64 size)),
                                            ((14 : Nat), Option.some (Go.Value.slice (Go.AI.Sl.a s14) (Go.AI.Sl.n s14) (1 : Nat))),
                                            ((15 : Nat), Option.some (Go.Value.int Go.IntKind.i64 (Go.IntKind.wrap Go.IntKind.i64 (i + (1 : Int)))))]
                                          σ15)))
                              (Go.AI.newAt σ (Go.AI.AObj.row Go.AI.RK.rw [Go.Value.int Go.IntKind.u32 n5]) fun (i16 : Nat) (σ17 : Go.AI.AS) ↦
                                Go.AI.chk (Go.AI.nilOr c ce (Go.AI.szOf Go.Proofs.Try.prog (32 : Nat)))
                                  (Go.AI.lds σ17 (Go.Addr.mk i16 (0 : Nat) Option.none) (1 : Nat) fun (l18 : List Go.Value) ↦
                                    Go.AI.appendTo σ17 (1 : Nat) (4 : Nat) (Go.AI.Sl.mk c cn) l18 (1 : Nat) fun (s19 : Go.AI.Sl) (σ20 : Go.AI.AS) ↦
                                      X
                                        [((0 : Nat), Option.some (Go.Value.slice a m (1 : Nat))), ((1 : Nat), Option.some (Go.Value.slice b k (1 : Nat))), ((2 : Nat), Option.some (Go.Value.bool w)),
                                          ((7 : Nat), Option.some (Go.Value.pointer (Option.some (Go.Addr.mk s (0 : Nat) Option.none)))), ((9 : Nat), Option.some (Go.Value.int Go.IntKind.i64 n)),
                                          ((11 : Nat), Option.some (Go.Value.int Go.IntKind.i64 place)), ((12 : Nat), Option.some (Go.Value.int Go.IntKind.i64 size)),
                                          ((14 : Nat), Option.some (Go.Value.slice (Go.AI.Sl.a s19) (Go.AI.Sl.n s19) (1 : Nat))),
                                          ((15 : Nat), Option.some (Go.Value.int Go.IntKind.i64 (Go.IntKind.wrap Go.IntKind.i64 (i + (1 : Int)))))]
                                        σ20)))))
                  (Go.AI.bmatch (!w)
                    (Go.AI.bmatch (Decidable.decide (n2 > (255 : Int)))
                      (Go.AI.newAt σ (Go.AI.AObj.row Go.AI.RK.rw [Go.Value.int Go.IntKind.u32 (63 : Int)]) fun (i21 : Nat) (σ22 : Go.AI.AS) ↦
                        Go.AI.chk (Go.AI.nilOr c ce (Go.AI.szOf Go.Proofs.Try.prog (32 : Nat)))
                          (Go.AI.lds σ22 (Go.Addr.mk i21 (0 : Nat) Option.none) (1 : Nat) fun (l23 : List Go.Value) ↦
                            Go.AI.appendTo σ22 (1 : Nat) (4 : Nat) (Go.AI.Sl.mk c cn) l23 (1 : Nat) fun (s24 : Go.AI.Sl) (σ25 : Go.AI.AS) ↦
                              X
                                [((0 : Nat), Option.some (Go.Value.slice a m (1 : Nat))), ((1 : Nat), Option.some (Go.Value.slice b k (1 : Nat))), ((2 : Nat), Option.some (Go.Value.bool w)),
                                  ((7 : Nat), Option.some (Go.Value.pointer (Option.some (Go.Addr.mk s (0 : Nat) Option.none)))), ((9 : Nat), Option.some (Go.Value.int Go.IntKind.i64 n)),
                                  ((11 : Nat), Option.some (Go.Value.int Go.IntKind.i64 place)), ((12 : Nat), Option.some (Go.Value.int Go.IntKind.i64 size)),
                                  ((14 : Nat), Option.some (Go.Value.slice (Go.AI.Sl.a s24) (Go.AI.Sl.n s24) (1 : Nat))),
                                  ((15 : Nat), Option.some (Go.Value.int Go.IntKind.i64 (Go.IntKind.wrap Go.IntKind.i64 (i + (1 : Int)))))]
                                σ25))
                      (Go.AI.newAt σ (Go.AI.AObj.row Go.AI.RK.rw [Go.Value.int Go.IntKind.u32 n2]) fun (i26 : Nat) (σ27 : Go.AI.AS) ↦
                        Go.AI.chk (Go.AI.nilOr c ce (Go.AI.szOf Go.Proofs.Try.prog (32 : Nat)))
                          (Go.AI.lds σ27 (Go.Addr.mk i26 (0 : Nat) Option.none) (1 : Nat) fun (l28 : List Go.Value) ↦
                            Go.AI.appendTo σ27 (1 : Nat) (4 : Nat) (Go.AI.Sl.mk c cn) l28 (1 : Nat) fun (s29 : Go.AI.Sl) (σ30 : Go.AI.AS) ↦
                              X
                                [((0 : Nat), Option.some (Go.Value.slice a m (1 : Nat))), ((1 : Nat), Option.some (Go.Value.slice b k (1 : Nat))), ((2 : Nat), Option.some (Go.Value.bool w)),
                                  ((7 : Nat), Option.some (Go.Value.pointer (Option.some (Go.Addr.mk s (0 : Nat) Option.none)))), ((9 : Nat), Option.some (Go.Value.int Go.IntKind.i64 n)),
                                  ((11 : Nat), Option.some (Go.Value.int Go.IntKind.i64 place)), ((12 : Nat), Option.some (Go.Value.int Go.IntKind.i64 size)),
                                  ((14 : Nat), Option.some (Go.Value.slice (Go.AI.Sl.a s29) (Go.AI.Sl.n s29) (1 : Nat))),
                                  ((15 : Nat), Option.some (Go.Value.int Go.IntKind.i64 (Go.IntKind.wrap Go.IntKind.i64 (i + (1 : Int)))))]
                                σ30)))
                    (Go.AI.newAt σ (Go.AI.AObj.row Go.AI.RK.rw [Go.Value.int Go.IntKind.u32 n2]) fun (i31 : Nat) (σ32 : Go.AI.AS) ↦
                      Go.AI.chk (Go.AI.nilOr c ce (Go.AI.szOf Go.Proofs.Try.prog (32 : Nat)))
                        (Go.AI.lds σ32 (Go.Addr.mk i31 (0 : Nat) Option.none) (1 : Nat) fun (l33 : List Go.Value) ↦
                          Go.AI.appendTo σ32 (1 : Nat) (4 : Nat) (Go.AI.Sl.mk c cn) l33 (1 : Nat) fun (s34 : Go.AI.Sl) (σ35 : Go.AI.AS) ↦
                            X
                              [((0 : Nat), Option.some (Go.Value.slice a m (1 : Nat))), ((1 : Nat), Option.some (Go.Value.slice b k (1 : Nat))), ((2 : Nat), Option.some (Go.Value.bool w)),
                                ((7 : Nat), Option.some (Go.Value.pointer (Option.some (Go.Addr.mk s (0 : Nat) Option.none)))), ((9 : Nat), Option.some (Go.Value.int Go.IntKind.i64 n)),
                                ((11 : Nat), Option.some (Go.Value.int Go.IntKind.i64 place)), ((12 : Nat), Option.some (Go.Value.int Go.IntKind.i64 size)),
                                ((14 : Nat), Option.some (Go.Value.slice (Go.AI.Sl.a s34) (Go.AI.Sl.n s34) (1 : Nat))),
                                ((15 : Nat), Option.some (Go.Value.int Go.IntKind.i64 (Go.IntKind.wrap Go.IntKind.i64 (i + (1 : Int)))))]
                              σ35))))))
      (T (16 : Nat) [Go.Value.pointer (Option.some (Go.Addr.mk s (0 : Nat) Option.none)), Go.Value.int Go.IntKind.i64 n] σ fun (v36 : Go.Value) (σ37 : Go.AI.AS) ↦
        Go.AI.tTup v36 fun (l38 : List Go.Value) ↦
          Go.AI.pSome l38[(0 : Nat)]? fun (u39 : Go.Value) ↦
            Go.AI.tI Go.IntKind.u32 u39 fun (n40 : Int) ↦
              Go.AI.tTup v36 fun (l41 : List Go.Value) ↦
                Go.AI.pSome l41[(1 : Nat)]? fun (u42 : Go.Value) ↦
                  Go.AI.tB u42 fun (b43 : Bool) ↦
                    Go.AI.tTup v36 fun (l44 : List Go.Value) ↦
                      Go.AI.pSome l44[(2 : Nat)]? fun (u45 : Go.Value) ↦
                        Go.AI.tI Go.IntKind.i64 u45 fun (n46 : Int) ↦
                          Go.AI.bmatch (place != Go.AI.imin (↑m : Int) (↑k : Int)) (K (Go.Value.bool Bool.false) σ37)
                            (Go.AI.bmatch (size != (↑m : Int)) (K (Go.Value.bool Bool.false) σ37)
                              (Go.AI.bmatch (!b43 == Decidable.decide ((↑k : Int) < (↑m : Int))) (K (Go.Value.bool Bool.false) σ37)
                                (Go.AI.bmatch b43
                                  (Go.AI.req ((0 : Int) ≤ (↑k : Int))
                                    (Go.AI.req ((↑k : Int) < (↑cn : Int))
                                      (Go.AI.pSome c fun (a47 : Go.Addr) ↦
                                        Go.AI.req (ce = Go.AI.szOf Go.Proofs.Try.prog (32 : Nat))
                                          (Go.AI.ldc σ37 (Go.Addr.add a47 (Int.toNat (↑k : Int) * Go.AI.szOf Go.Proofs.Try.prog (32 : Nat))) fun (v48 : Go.Value) ↦
                                            Go.AI.tI Go.IntKind.u32 v48 fun (n49 : Int) ↦
                                              Go.AI.bmatch (n40 != n49) (K (Go.Value.bool Bool.false) σ37)
                                                (T (13 : Nat) [Go.Value.pointer (Option.some (Go.Addr.mk s (0 : Nat) Option.none)), Go.Value.int Go.IntKind.i64 n] σ37 fun (v50 : Go.Value) (σ51 : Go.AI.AS) ↦
                                                  Go.AI.tTup v50 fun (l52 : List Go.Value) ↦
                                                    Go.AI.pSome l52[(0 : Nat)]? fun (u53 : Go.Value) ↦
                                                      Go.AI.tI Go.IntKind.u32 u53 fun (n54 : Int) ↦
                                                        Go.AI.tTup v50 fun (l55 : List Go.Value) ↦
                                                          Go.AI.pSome l55[(1 : Nat)]? fun (u56 : Go.Value) ↦
                                                            Go.AI.tI Go.IntKind.u32 u56 fun (n57 : Int) ↦
                                                              Go.AI.tTup v50 fun (l58 : List Go.Value) ↦
                                                                Go.AI.pSome l58[(2 : Nat)]? fun (u59 : Go.Value) ↦
                                                                  Go.AI.tL (1 : Nat) u59 fun (s60 : Go.AI.Sl) ↦
                                                                    Go.AI.tTup v50 fun (l61 : List Go.Value) ↦
                                                                      Go.AI.pSome l61[(3 : Nat)]? fun (u62 : Go.Value) ↦
                                                                        Go.AI.tI Go.IntKind.i64 u62 fun (n63 : Int) ↦
                                                                          T (13 : Nat) [Go.Value.pointer (Option.some (Go.Addr.mk s (0 : Nat) Option.none)), Go.Value.int Go.IntKind.i64 n] σ51
                                                                            fun (v64 : Go.Value) (σ65 : Go.AI.AS) ↦
                                                                            Go.AI.tTup v64 fun (l66 : List Go.Value) ↦
                                                                              Go.AI.pSome l66[(0 : Nat)]? fun (u67 : Go.Value) ↦
                                                                                Go.AI.tI Go.IntKind.u32 u67 fun (n68 : Int) ↦
                                                                                  Go.AI.tTup v64 fun (l69 : List Go.Value) ↦
                                                                                    Go.AI.pSome l69[(1 : Nat)]? fun (u70 : Go.Value) ↦
                                                                                      Go.AI.tI Go.IntKind.u32 u70 fun (n71 : Int) ↦
                                                                                        Go.AI.tTup v64 fun (l72 : List Go.Value) ↦
                                                                                          Go.AI.pSome l72[(2 : Nat)]? fun (u73 : Go.Value) ↦
                                                                                            Go.AI.tL (1 : Nat) u73 fun (s74 : Go.AI.Sl) ↦
                                                                                              Go.AI.tTup v64 fun (l75 : List Go.Value) ↦
                                                                                                Go.AI.pSome l75[(3 : Nat)]? fun (u76 : Go.Value) ↦
                                                                                                  Go.AI.tI Go.IntKind.i64 u76 fun (n77 : Int) ↦
                                                                                                    T (10 : Nat) [Go.Value.int Go.IntKind.i64 n63] σ65 fun (v78 : Go.Value) (σ79 : Go.AI.AS) ↦
                                                                                                      Go.AI.tI Go.IntKind.i64 v78 fun (n80 : Int) ↦
                                                                                                        Go.AI.bmatch (n80 == (0 : Int))
                                                                                                          (T (10 : Nat) [Go.Value.int Go.IntKind.i64 n77] σ79 fun (v81 : Go.Value) (σ82 : Go.AI.AS) ↦
                                                                                                            Go.AI.tI Go.IntKind.i64 v81 fun (n83 : Int) ↦
                                                                                                              Go.AI.bmatch (n83 == (5 : Int))
                                                                                                                (Go.AI.bmatch (Go.IntKind.wrap Go.IntKind.i64 n57 == (↑k : Int))
                                                                                                                  (Go.AI.bmatch ((n54 == (1 : Int)) == b43)
                                                                                                                    (T (18 : Nat)
                                                                                                                      [Go.Value.slice (Go.AI.Sl.a s60) (Go.AI.Sl.n s60) (1 : Nat), Go.Value.slice c cn ce] σ82
                                                                                                                      fun (v84 : Go.Value) (σ85 : Go.AI.AS) ↦
                                                                                                                      Go.AI.tB v84 fun (b86 : Bool) ↦
                                                                                                                        Go.AI.bmatch b86
                                                                                                                          (T (11 : Nat) [] σ85 fun (v87 : Go.Value) (σ88 : Go.AI.AS) ↦
                                                                                                                            Go.AI.tB v87 fun (b89 : Bool) ↦ K (Go.Value.bool b89) σ88)
                                                                                                                          (K (Go.Value.bool Bool.false) σ85))
                                                                                                                    (K (Go.Value.bool Bool.false) σ82))
                                                                                                                  (K (Go.Value.bool Bool.false) σ82))
                                                                                                                (K (Go.Value.bool Bool.false) σ82))
                                                                                                          (K (Go.Value.bool Bool.false) σ79))))))
                                  (T (13 : Nat) [Go.Value.pointer (Option.some (Go.Addr.mk s (0 : Nat) Option.none)), Go.Value.int Go.IntKind.i64 n] σ37 fun (v90 : Go.Value) (σ91 : Go.AI.AS) ↦
                                    Go.AI.tTup v90 fun (l92 : List Go.Value) ↦
                                      Go.AI.pSome l92[(0 : Nat)]? fun (u93 : Go.Value) ↦
                                        Go.AI.tI Go.IntKind.u32 u93 fun (n94 : Int) ↦
                                          Go.AI.tTup v90 fun (l95 : List Go.Value) ↦
                                            Go.AI.pSome l95[(1 : Nat)]? fun (u96 : Go.Value) ↦
                                              Go.AI.tI Go.IntKind.u32 u96 fun (n97 : Int) ↦
                                                Go.AI.tTup v90 fun (l98 : List Go.Value) ↦
                                                  Go.AI.pSome l98[(2 : Nat)]? fun (u99 : Go.Value) ↦
                                                    Go.AI.tL (1 : Nat) u99 fun (s100 : Go.AI.Sl) ↦
                                                      Go.AI.tTup v90 fun (l101 : List Go.Value) ↦
                                                        Go.AI.pSome l101[(3 : Nat)]? fun (u102 : Go.Value) ↦
                                                          Go.AI.tI Go.IntKind.i64 u102 fun (n103 : Int) ↦
                                                            T (13 : Nat) [Go.Value.pointer (Option.some (Go.Addr.mk s (0 : Nat) Option.none)), Go.Value.int Go.IntKind.i64 n] σ91
                                                              fun (v104 : Go.Value) (σ105 : Go.AI.AS) ↦
                                                              Go.AI.tTup v104 fun (l106 : List Go.Value) ↦
                                                                Go.AI.pSome l106[(0 : Nat)]? fun (u107 : Go.Value) ↦
                                                                  Go.AI.tI Go.IntKind.u32 u107 fun (n108 : Int) ↦
                                                                    Go.AI.tTup v104 fun (l109 : List Go.Value) ↦
                                                                      Go.AI.pSome l109[(1 : Nat)]? fun (u110 : Go.Value) ↦
                                                                        Go.AI.tI Go.IntKind.u32 u110 fun (n111 : Int) ↦
                                                                          Go.AI.tTup v104 fun (l112 : List Go.Value) ↦
                                                                            Go.AI.pSome l112[(2 : Nat)]? fun (u113 : Go.Value) ↦
                                                                              Go.AI.tL (1 : Nat) u113 fun (s114 : Go.AI.Sl) ↦
                                                                                Go.AI.tTup v104 fun (l115 : List Go.Value) ↦
                                                                                  Go.AI.pSome l115[(3 : Nat)]? fun (u116 : Go.Value) ↦
                                                                                    Go.AI.tI Go.IntKind.i64 u116 fun (n117 : Int) ↦
                                                                                      T (10 : Nat) [Go.Value.int Go.IntKind.i64 n103] σ105 fun (v118 : Go.Value) (σ119 : Go.AI.AS) ↦
                                                                                        Go.AI.tI Go.IntKind.i64 v118 fun (n120 : Int) ↦
                                                                                          Go.AI.bmatch (n120 == (0 : Int))
                                                                                            (T (10 : Nat) [Go.Value.int Go.IntKind.i64 n117] σ119 fun (v121 : Go.Value) (σ122 : Go.AI.AS) ↦
                                                                                              Go.AI.tI Go.IntKind.i64 v121 fun (n123 : Int) ↦
                                                                                                Go.AI.bmatch (n123 == (5 : Int))
                                                                                                  (Go.AI.bmatch (Go.IntKind.wrap Go.IntKind.i64 n97 == (↑k : Int))
                                                                                                    (Go.AI.bmatch ((n94 == (1 : Int)) == b43)
                                                                                                      (T (18 : Nat) [Go.Value.slice (Go.AI.Sl.a s100) (Go.AI.Sl.n s100) (1 : Nat), Go.Value.slice c cn ce] σ122
                                                                                                        fun (v124 : Go.Value) (σ125 : Go.AI.AS) ↦
                                                                                                        Go.AI.tB v124 fun (b126 : Bool) ↦
                                                                                                          Go.AI.bmatch b126
                                                                                                            (T (11 : Nat) [] σ125 fun (v127 : Go.Value) (σ128 : Go.AI.AS) ↦
                                                                                                              Go.AI.tB v127 fun (b129 : Bool) ↦ K (Go.Value.bool b129) σ128)
                                                                                                            (K (Go.Value.bool Bool.false) σ125))
                                                                                                      (K (Go.Value.bool Bool.false) σ122))
                                                                                                    (K (Go.Value.bool Bool.false) σ122))
                                                                                                  (K (Go.Value.bool Bool.false) σ122))
                                                                                            (K (Go.Value.bool Bool.false) σ119)))))) := by
  intros
  kernel_rfl

end Go.AI
