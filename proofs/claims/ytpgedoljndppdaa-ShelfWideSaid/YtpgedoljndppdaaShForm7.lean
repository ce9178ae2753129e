/- The conditions ahead of the calls of the program's functions, reckoned as far as they go (equations that the kernel checks); no condition. -/
import Derived.Test.YtpgedoljndppdaaShSoft
import Derived.Test.YtpgedoljndppdaaAISep
set_option maxRecDepth 1000000
set_option linter.unusedVariables false
namespace Go.AI
open Go.Proofs
theorem s36 : ∀ (T : Go.AI.Ct) (a : Option Go.Addr) (m : Nat) (σ : Go.AI.AS) (K : Go.Value → Go.AI.AS → Prop),
  Go.AI.fw Go.Proofs.Try.prog Go.AI.hintsS T (36 : Nat) [Go.Value.slice a m (1 : Nat)] σ K =
    Go.AI.bmatch (Option.isNone a) (K (Go.Value.slice Option.none (0 : Nat) (0 : Nat)) σ)
      (Go.AI.newAt σ (Go.AI.AObj.row Go.AI.RK.rw []) fun (i0 : Nat) (σ1 : Go.AI.AS) ↦
        Go.AI.srcCells σ1 (1 : Nat) (Option.some (Go.Value.slice a m (1 : Nat))) fun (m2 : Nat) (new3 : List Go.Value) ↦
          Go.AI.appendTo σ1 (1 : Nat) (1 : Nat) (Go.AI.Sl.mk (Option.some (Go.Addr.mk i0 (0 : Nat) Option.none)) (0 : Nat)) new3 m2 fun (s4 : Go.AI.Sl) (σ5 : Go.AI.AS) ↦
            K (Go.Value.slice (Go.AI.Sl.a s4) (Go.AI.Sl.n s4) (1 : Nat)) σ5) := by
  intros
  kernel_rfl

theorem s22 : ∀ (T : Go.AI.Ct) (s : Nat) (name : ByteArray) (a : Option Go.Addr) (m : Nat) (σ : Go.AI.AS) (K : Go.Value → Go.AI.AS → Prop),
  Go.AI.fw Go.Proofs.Try.prog Go.AI.hintsS T (22 : Nat) [Go.Value.pointer (Option.some (Go.Addr.mk s (0 : Nat) Option.none)), Go.Value.string name, Go.Value.slice a m (1 : Nat)] σ K =
    Go.AI.ldc σ (Go.Addr.mk s ((0 : Nat) + (2 : Nat)) Option.none) fun (v0 : Go.Value) ↦
      Go.AI.tM v0 fun (b1 : Option Nat) ↦
        Go.AI.mget σ Go.TypeDesc.string b1 (Go.Value.string name) fun (o2 : Option Go.Value) ↦
          Go.AI.tP (Option.getD o2 (Go.Value.pointer Option.none)) fun (b3 : Option Go.Addr) ↦
            T (35 : Nat) [Go.Value.string name] σ fun (v4 : Go.Value) (σ5 : Go.AI.AS) ↦
              Go.AI.tB v4 fun (b6 : Bool) ↦
                Go.AI.bmatch (!b6) (K (Go.Value.int Go.IntKind.i64 (1 : Int)) σ5)
                  (Go.AI.ptrEq σ5 b3 Option.none fun (r7 : Bool) ↦
                    Go.AI.bmatch (!r7)
                      (Go.AI.pSome b3 fun (a8 : Go.Addr) ↦
                        Go.AI.ldc σ5 (Go.Addr.mk (Go.Addr.block a8) (Go.Addr.off a8 + (1 : Nat)) Option.none) fun (v9 : Go.Value) ↦
                          Go.AI.tL (1 : Nat) v9 fun (s10 : Go.AI.Sl) ↦
                            Go.AI.bmatch (Decidable.decide ((↑(Go.AI.Sl.n s10) : Int) > (0 : Int))) (K (Go.Value.int Go.IntKind.i64 (6 : Int)) σ5)
                              (Go.AI.ptrEq σ5 b3 Option.none fun (r11 : Bool) ↦
                                Go.AI.bmatch r11
                                  (Go.AI.ldc σ5 (Go.Addr.mk s ((0 : Nat) + (2 : Nat)) Option.none) fun (v12 : Go.Value) ↦
                                    Go.AI.tM v12 fun (b13 : Option Nat) ↦
                                      Go.AI.mlen σ5 b13 fun (n14 : Int) ↦
                                        Go.AI.bmatch (n14 == (64 : Int)) (K (Go.Value.int Go.IntKind.i64 (4 : Int)) σ5)
                                          (T (24 : Nat) [Go.Value.pointer (Option.some (Go.Addr.mk s (0 : Nat) Option.none))] σ5 fun (v15 : Go.Value) (σ16 : Go.AI.AS) ↦
                                            Go.AI.tI Go.IntKind.i64 v15 fun (n17 : Int) ↦
                                              Go.AI.ptrEq σ16 b3 Option.none fun (r18 : Bool) ↦
                                                Go.AI.bmatch (!r18)
                                                  (Go.AI.pSome b3 fun (a19 : Go.Addr) ↦
                                                    Go.AI.ldc σ16 (Go.Addr.add a19 (0 : Nat)) fun (v20 : Go.Value) ↦
                                                      Go.AI.tL (1 : Nat) v20 fun (s21 : Go.AI.Sl) ↦
                                                        Go.AI.ldc σ16 (Go.Addr.mk s (0 : Nat) Option.none) fun (v22 : Go.Value) ↦
                                                          Go.AI.tI Go.IntKind.i64 v22 fun (n23 : Int) ↦
                                                            Go.AI.bmatch (Decidable.decide (Go.IntKind.wrap Go.IntKind.i64 (Go.IntKind.wrap Go.IntKind.i64 (n17 + (↑m : Int)) - (↑(Go.AI.Sl.n s21) : Int)) > n23))
                                                              (K (Go.Value.int Go.IntKind.i64 (7 : Int)) σ16)
                                                              (Go.AI.ldc σ16 (Go.Addr.mk s ((0 : Nat) + (2 : Nat)) Option.none) fun (v24 : Go.Value) ↦
                                                                Go.AI.tM v24 fun (b25 : Option Nat) ↦
                                                                  T (36 : Nat) [Go.Value.slice a m (1 : Nat)] σ16 fun (v26 : Go.Value) (σ27 : Go.AI.AS) ↦
                                                                    Go.AI.tL (1 : Nat) v26 fun (s28 : Go.AI.Sl) ↦
                                                                      Go.AI.ldc σ27 (Go.Addr.mk s ((0 : Nat) + (2 : Nat)) Option.none) fun (v29 : Go.Value) ↦
                                                                        Go.AI.tM v29 fun (b30 : Option Nat) ↦
                                                                          Go.Value.map b25 = Go.Value.map b30 ∧
                                                                            Go.AI.newAt σ27
                                                                              (Go.AI.AObj.row Go.AI.RK.plain [Go.Value.slice (Go.AI.Sl.a s28) (Go.AI.Sl.n s28) (1 : Nat), Go.Value.slice Option.none (0 : Nat) (0 : Nat)])
                                                                              fun (i31 : Nat) (σ32 : Go.AI.AS) ↦
                                                                              Go.AI.ldc σ32 (Go.Addr.mk s ((0 : Nat) + (2 : Nat)) Option.none) fun (v33 : Go.Value) ↦
                                                                                Go.AI.tM v33 fun (b34 : Option Nat) ↦
                                                                                  Go.Value.map b25 = Go.Value.map b34 ∧
                                                                                    Go.AI.pSome b25 fun (i35 : Nat) ↦
                                                                                      Go.AI.mset σ32 Go.TypeDesc.string i35 (Go.Value.string name) (Go.Value.pointer (Option.some (Go.Addr.mk i31 (0 : Nat) Option.none)))
                                                                                        fun (σ36 : Go.AI.AS) ↦ K (Go.Value.int Go.IntKind.i64 (0 : Int)) σ36))
                                                  (Go.AI.ldc σ16 (Go.Addr.mk s (0 : Nat) Option.none) fun (v37 : Go.Value) ↦
                                                    Go.AI.tI Go.IntKind.i64 v37 fun (n38 : Int) ↦
                                                      Go.AI.bmatch (Decidable.decide (Go.IntKind.wrap Go.IntKind.i64 (n17 + (↑m : Int)) > n38)) (K (Go.Value.int Go.IntKind.i64 (7 : Int)) σ16)
                                                        (Go.AI.ldc σ16 (Go.Addr.mk s ((0 : Nat) + (2 : Nat)) Option.none) fun (v39 : Go.Value) ↦
                                                          Go.AI.tM v39 fun (b40 : Option Nat) ↦
                                                            T (36 : Nat) [Go.Value.slice a m (1 : Nat)] σ16 fun (v41 : Go.Value) (σ42 : Go.AI.AS) ↦
                                                              Go.AI.tL (1 : Nat) v41 fun (s43 : Go.AI.Sl) ↦
                                                                Go.AI.ldc σ42 (Go.Addr.mk s ((0 : Nat) + (2 : Nat)) Option.none) fun (v44 : Go.Value) ↦
                                                                  Go.AI.tM v44 fun (b45 : Option Nat) ↦
                                                                    Go.Value.map b40 = Go.Value.map b45 ∧
                                                                      Go.AI.newAt σ42
                                                                        (Go.AI.AObj.row Go.AI.RK.plain [Go.Value.slice (Go.AI.Sl.a s43) (Go.AI.Sl.n s43) (1 : Nat), Go.Value.slice Option.none (0 : Nat) (0 : Nat)])
                                                                        fun (i46 : Nat) (σ47 : Go.AI.AS) ↦
                                                                        Go.AI.ldc σ47 (Go.Addr.mk s ((0 : Nat) + (2 : Nat)) Option.none) fun (v48 : Go.Value) ↦
                                                                          Go.AI.tM v48 fun (b49 : Option Nat) ↦
                                                                            Go.Value.map b40 = Go.Value.map b49 ∧
                                                                              Go.AI.pSome b40 fun (i50 : Nat) ↦
                                                                                Go.AI.mset σ47 Go.TypeDesc.string i50 (Go.Value.string name) (Go.Value.pointer (Option.some (Go.Addr.mk i46 (0 : Nat) Option.none)))
                                                                                  fun (σ51 : Go.AI.AS) ↦ K (Go.Value.int Go.IntKind.i64 (0 : Int)) σ51))))
                                  (T (24 : Nat) [Go.Value.pointer (Option.some (Go.Addr.mk s (0 : Nat) Option.none))] σ5 fun (v52 : Go.Value) (σ53 : Go.AI.AS) ↦
                                    Go.AI.tI Go.IntKind.i64 v52 fun (n54 : Int) ↦
                                      Go.AI.ptrEq σ53 b3 Option.none fun (r55 : Bool) ↦
                                        Go.AI.bmatch (!r55)
                                          (Go.AI.pSome b3 fun (a56 : Go.Addr) ↦
                                            Go.AI.ldc σ53 (Go.Addr.add a56 (0 : Nat)) fun (v57 : Go.Value) ↦
                                              Go.AI.tL (1 : Nat) v57 fun (s58 : Go.AI.Sl) ↦
                                                Go.AI.ldc σ53 (Go.Addr.mk s (0 : Nat) Option.none) fun (v59 : Go.Value) ↦
                                                  Go.AI.tI Go.IntKind.i64 v59 fun (n60 : Int) ↦
                                                    Go.AI.bmatch (Decidable.decide (Go.IntKind.wrap Go.IntKind.i64 (Go.IntKind.wrap Go.IntKind.i64 (n54 + (↑m : Int)) - (↑(Go.AI.Sl.n s58) : Int)) > n60))
                                                      (K (Go.Value.int Go.IntKind.i64 (7 : Int)) σ53)
                                                      (Go.AI.ldc σ53 (Go.Addr.mk s ((0 : Nat) + (2 : Nat)) Option.none) fun (v61 : Go.Value) ↦
                                                        Go.AI.tM v61 fun (b62 : Option Nat) ↦
                                                          T (36 : Nat) [Go.Value.slice a m (1 : Nat)] σ53 fun (v63 : Go.Value) (σ64 : Go.AI.AS) ↦
                                                            Go.AI.tL (1 : Nat) v63 fun (s65 : Go.AI.Sl) ↦
                                                              Go.AI.ldc σ64 (Go.Addr.mk s ((0 : Nat) + (2 : Nat)) Option.none) fun (v66 : Go.Value) ↦
                                                                Go.AI.tM v66 fun (b67 : Option Nat) ↦
                                                                  Go.Value.map b62 = Go.Value.map b67 ∧
                                                                    Go.AI.newAt σ64
                                                                      (Go.AI.AObj.row Go.AI.RK.plain [Go.Value.slice (Go.AI.Sl.a s65) (Go.AI.Sl.n s65) (1 : Nat), Go.Value.slice Option.none (0 : Nat) (0 : Nat)])
                                                                      fun (i68 : Nat) (σ69 : Go.AI.AS) ↦
                                                                      Go.AI.ldc σ69 (Go.Addr.mk s ((0 : Nat) + (2 : Nat)) Option.none) fun (v70 : Go.Value) ↦
                                                                        Go.AI.tM v70 fun (b71 : Option Nat) ↦
                                                                          Go.Value.map b62 = Go.Value.map b71 ∧
                                                                            Go.AI.pSome b62 fun (i72 : Nat) ↦
                                                                              Go.AI.mset σ69 Go.TypeDesc.string i72 (Go.Value.string name) (Go.Value.pointer (Option.some (Go.Addr.mk i68 (0 : Nat) Option.none)))
                                                                                fun (σ73 : Go.AI.AS) ↦ K (Go.Value.int Go.IntKind.i64 (0 : Int)) σ73))
                                          (Go.AI.ldc σ53 (Go.Addr.mk s (0 : Nat) Option.none) fun (v74 : Go.Value) ↦
                                            Go.AI.tI Go.IntKind.i64 v74 fun (n75 : Int) ↦
                                              Go.AI.bmatch (Decidable.decide (Go.IntKind.wrap Go.IntKind.i64 (n54 + (↑m : Int)) > n75)) (K (Go.Value.int Go.IntKind.i64 (7 : Int)) σ53)
                                                (Go.AI.ldc σ53 (Go.Addr.mk s ((0 : Nat) + (2 : Nat)) Option.none) fun (v76 : Go.Value) ↦
                                                  Go.AI.tM v76 fun (b77 : Option Nat) ↦
                                                    T (36 : Nat) [Go.Value.slice a m (1 : Nat)] σ53 fun (v78 : Go.Value) (σ79 : Go.AI.AS) ↦
                                                      Go.AI.tL (1 : Nat) v78 fun (s80 : Go.AI.Sl) ↦
                                                        Go.AI.ldc σ79 (Go.Addr.mk s ((0 : Nat) + (2 : Nat)) Option.none) fun (v81 : Go.Value) ↦
                                                          Go.AI.tM v81 fun (b82 : Option Nat) ↦
                                                            Go.Value.map b77 = Go.Value.map b82 ∧
                                                              Go.AI.newAt σ79 (Go.AI.AObj.row Go.AI.RK.plain [Go.Value.slice (Go.AI.Sl.a s80) (Go.AI.Sl.n s80) (1 : Nat), Go.Value.slice Option.none (0 : Nat) (0 : Nat)])
                                                                fun (i83 : Nat) (σ84 : Go.AI.AS) ↦
                                                                Go.AI.ldc σ84 (Go.Addr.mk s ((0 : Nat) + (2 : Nat)) Option.none) fun (v85 : Go.Value) ↦
                                                                  Go.AI.tM v85 fun (b86 : Option Nat) ↦
                                                                    Go.Value.map b77 = Go.Value.map b86 ∧
                                                                      Go.AI.pSome b77 fun (i87 : Nat) ↦
                                                                        Go.AI.mset σ84 Go.TypeDesc.string i87 (Go.Value.string name) (Go.Value.pointer (Option.some (Go.Addr.mk i83 (0 : Nat) Option.none)))
                                                                          fun (σ88 : Go.AI.AS) ↦ K (Go.Value.int Go.IntKind.i64 (0 : Int)) σ88)))))
                      (Go.AI.ptrEq σ5 b3 Option.none fun (r89 : Bool) ↦
                        Go.AI.bmatch r89
                          (Go.AI.ldc σ5 (Go.Addr.mk s ((0 : Nat) + (2 : Nat)) Option.none) fun (v90 : Go.Value) ↦
                            Go.AI.tM v90 fun (b91 : Option Nat) ↦
                              Go.AI.mlen σ5 b91 fun (n92 : Int) ↦
                                Go.AI.bmatch (n92 == (64 : Int)) (K (Go.Value.int Go.IntKind.i64 (4 : Int)) σ5)
                                  (T (24 : Nat) [Go.Value.pointer (Option.some (Go.Addr.mk s (0 : Nat) Option.none))] σ5 fun (v93 : Go.Value) (σ94 : Go.AI.AS) ↦
                                    Go.AI.tI Go.IntKind.i64 v93 fun (n95 : Int) ↦
                                      Go.AI.ptrEq σ94 b3 Option.none fun (r96 : Bool) ↦
                                        Go.AI.bmatch (!r96)
                                          (Go.AI.pSome b3 fun (a97 : Go.Addr) ↦
                                            Go.AI.ldc σ94 (Go.Addr.add a97 (0 : Nat)) fun (v98 : Go.Value) ↦
                                              Go.AI.tL (1 : Nat) v98 fun (s99 : Go.AI.Sl) ↦
                                                Go.AI.ldc σ94 (Go.Addr.mk s (0 : Nat) Option.none) fun (v100 : Go.Value) ↦
                                                  Go.AI.tI Go.IntKind.i64 v100 fun (n101 : Int) ↦
                                                    Go.AI.bmatch (Decidable.decide (Go.IntKind.wrap Go.IntKind.i64 (Go.IntKind.wrap Go.IntKind.i64 (n95 + (↑m : Int)) - (↑(Go.AI.Sl.n s99) : Int)) > n101))
                                                      (K (Go.Value.int Go.IntKind.i64 (7 : Int)) σ94)
                                                      (Go.AI.ldc σ94 (Go.Addr.mk s ((0 : Nat) + (2 : Nat)) Option.none) fun (v102 : Go.Value) ↦
                                                        Go.AI.tM v102 fun (b103 : Option Nat) ↦
                                                          T (36 : Nat) [Go.Value.slice a m (1 : Nat)] σ94 fun (v104 : Go.Value) (σ105 : Go.AI.AS) ↦
                                                            Go.AI.tL (1 : Nat) v104 fun (s106 : Go.AI.Sl) ↦
                                                              Go.AI.ldc σ105 (Go.Addr.mk s ((0 : Nat) + (2 : Nat)) Option.none) fun (v107 : Go.Value) ↦
                                                                Go.AI.tM v107 fun (b108 : Option Nat) ↦
                                                                  Go.Value.map b103 = Go.Value.map b108 ∧
                                                                    Go.AI.newAt σ105
                                                                      (Go.AI.AObj.row Go.AI.RK.plain [Go.Value.slice (Go.AI.Sl.a s106) (Go.AI.Sl.n s106) (1 : Nat), Go.Value.slice Option.none (0 : Nat) (0 : Nat)])
                                                                      fun (i109 : Nat) (σ110 : Go.AI.AS) ↦
                                                                      Go.AI.ldc σ110 (Go.Addr.mk s ((0 : Nat) + (2 : Nat)) Option.none) fun (v111 : Go.Value) ↦
                                                                        Go.AI.tM v111 fun (b112 : Option Nat) ↦
                                                                          Go.Value.map b103 = Go.Value.map b112 ∧
                                                                            Go.AI.pSome b103 fun (i113 : Nat) ↦
                                                                              Go.AI.mset σ110 Go.TypeDesc.string i113 (Go.Value.string name) (Go.Value.pointer (Option.some (Go.Addr.mk i109 (0 : Nat) Option.none)))
                                                                                fun (σ114 : Go.AI.AS) ↦ K (Go.Value.int Go.IntKind.i64 (0 : Int)) σ114))
                                          (Go.AI.ldc σ94 (Go.Addr.mk s (0 : Nat) Option.none) fun (v115 : Go.Value) ↦
                                            Go.AI.tI Go.IntKind.i64 v115 fun (n116 : Int) ↦
                                              Go.AI.bmatch (Decidable.decide (Go.IntKind.wrap Go.IntKind.i64 (n95 + (↑m : Int)) > n116)) (K (Go.Value.int Go.IntKind.i64 (7 : Int)) σ94)
                                                (Go.AI.ldc σ94 (Go.Addr.mk s ((0 : Nat) + (2 : Nat)) Option.none) fun (v117 : Go.Value) ↦
                                                  Go.AI.tM v117 fun (b118 : Option Nat) ↦
                                                    T (36 : Nat) [Go.Value.slice a m (1 : Nat)] σ94 fun (v119 : Go.Value) (σ120 : Go.AI.AS) ↦
                                                      Go.AI.tL (1 : Nat) v119 fun (s121 : Go.AI.Sl) ↦
                                                        Go.AI.ldc σ120 (Go.Addr.mk s ((0 : Nat) + (2 : Nat)) Option.none) fun (v122 : Go.Value) ↦
                                                          Go.AI.tM v122 fun (b123 : Option Nat) ↦
                                                            Go.Value.map b118 = Go.Value.map b123 ∧
                                                              Go.AI.newAt σ120
                                                                (Go.AI.AObj.row Go.AI.RK.plain [Go.Value.slice (Go.AI.Sl.a s121) (Go.AI.Sl.n s121) (1 : Nat), Go.Value.slice Option.none (0 : Nat) (0 : Nat)])
                                                                fun (i124 : Nat) (σ125 : Go.AI.AS) ↦
                                                                Go.AI.ldc σ125 (Go.Addr.mk s ((0 : Nat) + (2 : Nat)) Option.none) fun (v126 : Go.Value) ↦
                                                                  Go.AI.tM v126 fun (b127 : Option Nat) ↦
                                                                    Go.Value.map b118 = Go.Value.map b127 ∧
                                                                      Go.AI.pSome b118 fun (i128 : Nat) ↦
                                                                        Go.AI.mset σ125 Go.TypeDesc.string i128 (Go.Value.string name) (Go.Value.pointer (Option.some (Go.Addr.mk i124 (0 : Nat) Option.none)))
                                                                          fun (σ129 : Go.AI.AS) ↦ K (Go.Value.int Go.IntKind.i64 (0 : Int)) σ129))))
                          (T (24 : Nat) [Go.Value.pointer (Option.some (Go.Addr.mk s (0 : Nat) Option.none))] σ5 fun (v130 : Go.Value) (σ131 : Go.AI.AS) ↦
                            Go.AI.tI Go.IntKind.i64 v130 fun (n132 : Int) ↦
                              Go.AI.ptrEq σ131 b3 Option.none fun (r133 : Bool) ↦
                                Go.AI.bmatch (!r133)
                                  (Go.AI.pSome b3 fun (a134 : Go.Addr) ↦
                                    Go.AI.ldc σ131 (Go.Addr.add a134 (0 : Nat)) fun (v135 : Go.Value) ↦
                                      Go.AI.tL (1 : Nat) v135 fun (s136 : Go.AI.Sl) ↦
                                        Go.AI.ldc σ131 (Go.Addr.mk s (0 : Nat) Option.none) fun (v137 : Go.Value) ↦
                                          Go.AI.tI Go.IntKind.i64 v137 fun (n138 : Int) ↦
                                            Go.AI.bmatch (Decidable.decide (Go.IntKind.wrap Go.IntKind.i64 (Go.IntKind.wrap Go.IntKind.i64 (n132 + (↑m : Int)) - (↑(Go.AI.Sl.n s136) : Int)) > n138))
                                              (K (Go.Value.int Go.IntKind.i64 (7 : Int)) σ131)
                                              (Go.AI.ldc σ131 (Go.Addr.mk s ((0 : Nat) + (2 : Nat)) Option.none) fun (v139 : Go.Value) ↦
                                                Go.AI.tM v139 fun (b140 : Option Nat) ↦
                                                  T (36 : Nat) [Go.Value.slice a m (1 : Nat)] σ131 fun (v141 : Go.Value) (σ142 : Go.AI.AS) ↦
                                                    Go.AI.tL (1 : Nat) v141 fun (s143 : Go.AI.Sl) ↦
                                                      Go.AI.ldc σ142 (Go.Addr.mk s ((0 : Nat) + (2 : Nat)) Option.none) fun (v144 : Go.Value) ↦
                                                        Go.AI.tM v144 fun (b145 : Option Nat) ↦
                                                          Go.Value.map b140 = Go.Value.map b145 ∧
                                                            Go.AI.newAt σ142 (Go.AI.AObj.row Go.AI.RK.plain [Go.Value.slice (Go.AI.Sl.a s143) (Go.AI.Sl.n s143) (1 : Nat), Go.Value.slice Option.none (0 : Nat) (0 : Nat)])
                                                              fun (i146 : Nat) (σ147 : Go.AI.AS) ↦
                                                              Go.AI.ldc σ147 (Go.Addr.mk s ((0 : Nat) + (2 : Nat)) Option.none) fun (v148 : Go.Value) ↦
                                                                Go.AI.tM v148 fun (b149 : Option Nat) ↦
                                                                  Go.Value.map b140 = Go.Value.map b149 ∧
                                                                    Go.AI.pSome b140 fun (i150 : Nat) ↦
                                                                      Go.AI.mset σ147 Go.TypeDesc.string i150 (Go.Value.string name) (Go.Value.pointer (Option.some (Go.Addr.mk i146 (0 : Nat) Option.none)))
                                                                        fun (σ151 : Go.AI.AS) ↦ K (Go.Value.int Go.IntKind.i64 (0 : Int)) σ151))
                                  (Go.AI.ldc σ131 (Go.Addr.mk s (0 : Nat) Option.none) fun (v152 : Go.Value) ↦
                                    Go.AI.tI Go.IntKind.i64 v152 fun (n153 : Int) ↦
                                      Go.AI.bmatch (Decidable.decide (Go.IntKind.wrap Go.IntKind.i64 (n132 + (↑m : Int)) > n153)) (K (Go.Value.int Go.IntKind.i64 (7 : Int)) σ131)
                                        (Go.AI.ldc σ131 (Go.Addr.mk s ((0 : Nat) + (2 : Nat)) Option.none) fun (v154 : Go.Value) ↦
                                          Go.AI.tM v154 fun (b155 : Option Nat) ↦
                                            T (36 : Nat) [Go.Value.slice a m (1 : Nat)] σ131 fun (v156 : Go.Value) (σ157 : Go.AI.AS) ↦
                                              Go.AI.tL (1 : Nat) v156 fun (s158 : Go.AI.Sl) ↦
                                                Go.AI.ldc σ157 (Go.Addr.mk s ((0 : Nat) + (2 : Nat)) Option.none) fun (v159 : Go.Value) ↦
                                                  Go.AI.tM v159 fun (b160 : Option Nat) ↦
                                                    Go.Value.map b155 = Go.Value.map b160 ∧
                                                      Go.AI.newAt σ157 (Go.AI.AObj.row Go.AI.RK.plain [Go.Value.slice (Go.AI.Sl.a s158) (Go.AI.Sl.n s158) (1 : Nat), Go.Value.slice Option.none (0 : Nat) (0 : Nat)])
                                                        fun (i161 : Nat) (σ162 : Go.AI.AS) ↦
                                                        Go.AI.ldc σ162 (Go.Addr.mk s ((0 : Nat) + (2 : Nat)) Option.none) fun (v163 : Go.Value) ↦
                                                          Go.AI.tM v163 fun (b164 : Option Nat) ↦
                                                            Go.Value.map b155 = Go.Value.map b164 ∧
                                                              Go.AI.pSome b155 fun (i165 : Nat) ↦
                                                                Go.AI.mset σ162 Go.TypeDesc.string i165 (Go.Value.string name) (Go.Value.pointer (Option.some (Go.Addr.mk i161 (0 : Nat) Option.none)))
                                                                  fun (σ166 : Go.AI.AS) ↦ K (Go.Value.int Go.IntKind.i64 (0 : Int)) σ166))))) := by
  intros
  kernel_rfl

theorem s23 : ∀ (T : Go.AI.Ct) (s : Nat) (name : ByteArray) (σ : Go.AI.AS) (K : Go.Value → Go.AI.AS → Prop),
  Go.AI.fw Go.Proofs.Try.prog Go.AI.hintsS T (23 : Nat) [Go.Value.pointer (Option.some (Go.Addr.mk s (0 : Nat) Option.none)), Go.Value.string name] σ K =
    Go.AI.ldc σ (Go.Addr.mk s ((0 : Nat) + (2 : Nat)) Option.none) fun (v0 : Go.Value) ↦
      Go.AI.tM v0 fun (b1 : Option Nat) ↦
        Go.AI.mget σ Go.TypeDesc.string b1 (Go.Value.string name) fun (o2 : Option Go.Value) ↦
          Go.AI.tP (Option.getD o2 (Go.Value.pointer Option.none)) fun (b3 : Option Go.Addr) ↦
            Go.AI.ptrEq σ b3 Option.none fun (r4 : Bool) ↦
              Go.AI.bmatch r4 (K (Go.Value.bool Bool.false) σ)
                (Go.AI.ldc σ (Go.Addr.mk s ((0 : Nat) + (2 : Nat)) Option.none) fun (v5 : Go.Value) ↦
                  Go.AI.tM v5 fun (b6 : Option Nat) ↦
                    Go.AI.mget σ Go.TypeDesc.string b6 (Go.Value.string name) fun (o7 : Option Go.Value) ↦
                      Go.AI.tP (Option.getD o7 (Go.Value.pointer Option.none)) fun (b8 : Option Go.Addr) ↦
                        Go.AI.pSome b8 fun (a9 : Go.Addr) ↦
                          Go.AI.ldc σ (Go.Addr.mk (Go.Addr.block a9) (Go.Addr.off a9 + (1 : Nat)) Option.none) fun (v10 : Go.Value) ↦
                            Go.AI.tL (1 : Nat) v10 fun (s11 : Go.AI.Sl) ↦
                              Go.AI.bmatch (Decidable.decide ((↑(Go.AI.Sl.n s11) : Int) > (0 : Int))) (K (Go.Value.bool Bool.false) σ)
                                (Go.AI.ldc σ (Go.Addr.mk s ((0 : Nat) + (2 : Nat)) Option.none) fun (v12 : Go.Value) ↦
                                  Go.AI.tM v12 fun (b13 : Option Nat) ↦
                                    Go.AI.pSome b13 fun (i14 : Nat) ↦ Go.AI.mdel σ Go.TypeDesc.string i14 (Go.Value.string name) fun (σ15 : Go.AI.AS) ↦ K (Go.Value.bool Bool.true) σ15)) := by
  intros
  kernel_rfl

theorem s7 : ∀ (T : Go.AI.Ct) (a : Option Go.Addr) (m : Nat) (σ : Go.AI.AS) (K : Go.Value → Go.AI.AS → Prop),
  Go.AI.fw Go.Proofs.Try.prog Go.AI.hintsS T (7 : Nat) [Go.Value.slice a m (1 : Nat)] σ K =
    Go.AI.bmatch (Decidable.decide ((↑m : Int) > (4096 : Int))) (T (11 : Nat) [] σ fun (v0 : Go.Value) (σ1 : Go.AI.AS) ↦ Go.AI.tB v0 fun (b2 : Bool) ↦ K (Go.Value.bool b2) σ1)
      (T (9 : Nat) [Go.Value.int Go.IntKind.i64 (4096 : Int)] σ fun (v3 : Go.Value) (σ4 : Go.AI.AS) ↦
        Go.AI.tTup v3 fun (l5 : List Go.Value) ↦
          Go.AI.pSome l5[(0 : Nat)]? fun (u6 : Go.Value) ↦
            Go.AI.tP u6 fun (b7 : Option Go.Addr) ↦
              Go.AI.tTup v3 fun (l8 : List Go.Value) ↦
                Go.AI.pSome l8[(1 : Nat)]? fun (u9 : Go.Value) ↦
                  Go.AI.tI Go.IntKind.i64 u9 fun (n10 : Int) ↦
                    T (10 : Nat) [Go.Value.int Go.IntKind.i64 n10] σ4 fun (v11 : Go.Value) (σ12 : Go.AI.AS) ↦
                      Go.AI.tI Go.IntKind.i64 v11 fun (n13 : Int) ↦
                        Go.AI.bmatch (n13 != (0 : Int)) (K (Go.Value.bool Bool.false) σ12)
                          (Go.AI.ptrEq σ12 b7 Option.none fun (r14 : Bool) ↦
                            Go.AI.bmatch r14 (K (Go.Value.bool Bool.false) σ12)
                              (T (22 : Nat) [Go.Value.pointer b7, Go.Value.string (ByteArray.mk #[(102 : UInt8)]), Go.Value.slice a m (1 : Nat)] σ12 fun (v15 : Go.Value) (σ16 : Go.AI.AS) ↦
                                Go.AI.tI Go.IntKind.i64 v15 fun (n17 : Int) ↦
                                  T (10 : Nat) [Go.Value.int Go.IntKind.i64 n17] σ16 fun (v18 : Go.Value) (σ19 : Go.AI.AS) ↦
                                    Go.AI.tI Go.IntKind.i64 v18 fun (n20 : Int) ↦
                                      Go.AI.bmatch (n20 != (0 : Int)) (K (Go.Value.bool Bool.false) σ19)
                                        (T (12 : Nat) [Go.Value.pointer b7, Go.Value.string (ByteArray.mk #[(102 : UInt8)]), Go.Value.int Go.IntKind.i64 (2 : Int), Go.Value.bool Bool.false] σ19
                                          fun (v21 : Go.Value) (σ22 : Go.AI.AS) ↦
                                          Go.AI.tTup v21 fun (l23 : List Go.Value) ↦
                                            Go.AI.pSome l23[(0 : Nat)]? fun (u24 : Go.Value) ↦
                                              Go.AI.tI Go.IntKind.i64 u24 fun (n25 : Int) ↦
                                                Go.AI.tTup v21 fun (l26 : List Go.Value) ↦
                                                  Go.AI.pSome l26[(1 : Nat)]? fun (u27 : Go.Value) ↦
                                                    Go.AI.tI Go.IntKind.i64 u27 fun (n28 : Int) ↦
                                                      T (12 : Nat) [Go.Value.pointer b7, Go.Value.string (ByteArray.mk #[(102 : UInt8)]), Go.Value.int Go.IntKind.i64 (2 : Int), Go.Value.bool Bool.true] σ22
                                                        fun (v29 : Go.Value) (σ30 : Go.AI.AS) ↦
                                                        Go.AI.tTup v29 fun (l31 : List Go.Value) ↦
                                                          Go.AI.pSome l31[(0 : Nat)]? fun (u32 : Go.Value) ↦
                                                            Go.AI.tI Go.IntKind.i64 u32 fun (n33 : Int) ↦
                                                              Go.AI.tTup v29 fun (l34 : List Go.Value) ↦
                                                                Go.AI.pSome l34[(1 : Nat)]? fun (u35 : Go.Value) ↦
                                                                  Go.AI.tI Go.IntKind.i64 u35 fun (n36 : Int) ↦
                                                                    T (15 : Nat) [Go.Value.pointer b7, Go.Value.int Go.IntKind.i64 n25] σ30 fun (v37 : Go.Value) (σ38 : Go.AI.AS) ↦
                                                                      Go.AI.tTup v37 fun (l39 : List Go.Value) ↦
                                                                        Go.AI.pSome l39[(0 : Nat)]? fun (u40 : Go.Value) ↦
                                                                          Go.AI.tI Go.IntKind.i64 u40 fun (n41 : Int) ↦
                                                                            Go.AI.tTup v37 fun (l42 : List Go.Value) ↦
                                                                              Go.AI.pSome l42[(1 : Nat)]? fun (u43 : Go.Value) ↦
                                                                                Go.AI.tI Go.IntKind.i64 u43 fun (n44 : Int) ↦
                                                                                  Go.AI.tTup v37 fun (l45 : List Go.Value) ↦
                                                                                    Go.AI.pSome l45[(2 : Nat)]? fun (u46 : Go.Value) ↦
                                                                                      Go.AI.tI Go.IntKind.i64 u46 fun (n47 : Int) ↦
                                                                                        T (15 : Nat) [Go.Value.pointer b7, Go.Value.int Go.IntKind.i64 n33] σ38 fun (v48 : Go.Value) (σ49 : Go.AI.AS) ↦
                                                                                          Go.AI.tTup v48 fun (l50 : List Go.Value) ↦
                                                                                            Go.AI.pSome l50[(0 : Nat)]? fun (u51 : Go.Value) ↦
                                                                                              Go.AI.tI Go.IntKind.i64 u51 fun (n52 : Int) ↦
                                                                                                Go.AI.tTup v48 fun (l53 : List Go.Value) ↦
                                                                                                  Go.AI.pSome l53[(1 : Nat)]? fun (u54 : Go.Value) ↦
                                                                                                    Go.AI.tI Go.IntKind.i64 u54 fun (n55 : Int) ↦
                                                                                                      Go.AI.tTup v48 fun (l56 : List Go.Value) ↦
                                                                                                        Go.AI.pSome l56[(2 : Nat)]? fun (u57 : Go.Value) ↦
                                                                                                          Go.AI.tI Go.IntKind.i64 u57 fun (n58 : Int) ↦
                                                                                                            T (10 : Nat) [Go.Value.int Go.IntKind.i64 n28] σ49 fun (v59 : Go.Value) (σ60 : Go.AI.AS) ↦
                                                                                                              Go.AI.tI Go.IntKind.i64 v59 fun (n61 : Int) ↦
                                                                                                                T (10 : Nat) [Go.Value.int Go.IntKind.i64 n36] σ60 fun (v62 : Go.Value) (σ63 : Go.AI.AS) ↦
                                                                                                                  Go.AI.tI Go.IntKind.i64 v62 fun (n64 : Int) ↦
                                                                                                                    Go.AI.bmatch (Go.IntKind.wrap Go.IntKind.i64 (n61 + n64) != (0 : Int))
                                                                                                                      (K (Go.Value.bool Bool.false) σ63)
                                                                                                                      (Go.AI.bmatch (n44 != (↑m : Int)) (K (Go.Value.bool Bool.false) σ63)
                                                                                                                        (Go.AI.bmatch (n55 != Go.IntKind.wrap Go.IntKind.i64 (Int.tdiv (↑m : Int) (4 : Int)))
                                                                                                                          (K (Go.Value.bool Bool.false) σ63)
                                                                                                                          (Go.AI.ALoop
                                                                                                                            (Go.AI.fl Go.Proofs.Try.prog Go.AI.hintsS T (7 : Nat)
                                                                                                                              [Bool.true, Bool.true, Bool.true, Bool.true, Bool.true, Bool.true, Bool.true, Bool.true,
                                                                                                                                Bool.true, Bool.false, Bool.true, Bool.false]
                                                                                                                              [] K)
                                                                                                                            [((0 : Nat), Option.some (Go.Value.slice a m (1 : Nat))),
                                                                                                                              ((3 : Nat), Option.some (Go.Value.pointer b7)),
                                                                                                                              ((5 : Nat), Option.some (Go.Value.int Go.IntKind.i64 n25)),
                                                                                                                              ((7 : Nat), Option.some (Go.Value.int Go.IntKind.i64 n33)),
                                                                                                                              ((15 : Nat), Option.some (Go.Value.int Go.IntKind.i64 (0 : Int)))]
                                                                                                                            σ63))))))) := by
  intros
  kernel_rfl

theorem s7l : ∀ (T : Go.AI.Ct) (a : Option Go.Addr) (m s : Nat) (x y i : Int) (X : Go.AI.Regs → Go.AI.AS → Prop) (σ : Go.AI.AS) (K : Go.Value → Go.AI.AS → Prop),
  Go.AI.fl Go.Proofs.Try.prog Go.AI.hintsS T (7 : Nat) [Bool.true, Bool.true, Bool.true, Bool.true, Bool.true, Bool.true, Bool.true, Bool.true, Bool.true, Bool.false, Bool.true, Bool.false] [] K X
      [((0 : Nat), Option.some (Go.Value.slice a m (1 : Nat))), ((3 : Nat), Option.some (Go.Value.pointer (Option.some (Go.Addr.mk s (0 : Nat) Option.none)))),
        ((5 : Nat), Option.some (Go.Value.int Go.IntKind.i64 x)), ((7 : Nat), Option.some (Go.Value.int Go.IntKind.i64 y)), ((15 : Nat), Option.some (Go.Value.int Go.IntKind.i64 i))]
      σ =
    Go.AI.bmatch (Decidable.decide (i < (↑m : Int)))
      (T (16 : Nat) [Go.Value.pointer (Option.some (Go.Addr.mk s (0 : Nat) Option.none)), Go.Value.int Go.IntKind.i64 x] σ fun (v0 : Go.Value) (σ1 : Go.AI.AS) ↦
        Go.AI.tTup v0 fun (l2 : List Go.Value) ↦
          Go.AI.pSome l2[(0 : Nat)]? fun (u3 : Go.Value) ↦
            Go.AI.tI Go.IntKind.u32 u3 fun (n4 : Int) ↦
              Go.AI.tTup v0 fun (l5 : List Go.Value) ↦
                Go.AI.pSome l5[(1 : Nat)]? fun (u6 : Go.Value) ↦
                  Go.AI.tB u6 fun (b7 : Bool) ↦
                    Go.AI.tTup v0 fun (l8 : List Go.Value) ↦
                      Go.AI.pSome l8[(2 : Nat)]? fun (u9 : Go.Value) ↦
                        Go.AI.tI Go.IntKind.i64 u9 fun (n10 : Int) ↦
                          Go.AI.bmatch (!b7) (K (Go.Value.bool Bool.false) σ1)
                            (Go.AI.req ((0 : Int) ≤ i)
                              (Go.AI.req (i < (↑m : Int))
                                (Go.AI.pSome a fun (a11 : Go.Addr) ↦
                                  Go.AI.ldc σ1 (Go.Addr.add a11 (Int.toNat i * Go.AI.szOf Go.Proofs.Try.prog (5 : Nat))) fun (v12 : Go.Value) ↦
                                    Go.AI.tI Go.IntKind.u8 v12 fun (n13 : Int) ↦
                                      Go.AI.bmatch (n4 != Go.IntKind.wrap Go.IntKind.u32 n13) (K (Go.Value.bool Bool.false) σ1)
                                        (Go.AI.bmatch (Int.tmod i (4 : Int) == (3 : Int))
                                          (T (16 : Nat) [Go.Value.pointer (Option.some (Go.Addr.mk s (0 : Nat) Option.none)), Go.Value.int Go.IntKind.i64 y] σ1 fun (v14 : Go.Value) (σ15 : Go.AI.AS) ↦
                                            Go.AI.tTup v14 fun (l16 : List Go.Value) ↦
                                              Go.AI.pSome l16[(0 : Nat)]? fun (u17 : Go.Value) ↦
                                                Go.AI.tI Go.IntKind.u32 u17 fun (n18 : Int) ↦
                                                  Go.AI.tTup v14 fun (l19 : List Go.Value) ↦
                                                    Go.AI.pSome l19[(1 : Nat)]? fun (u20 : Go.Value) ↦
                                                      Go.AI.tB u20 fun (b21 : Bool) ↦
                                                        Go.AI.tTup v14 fun (l22 : List Go.Value) ↦
                                                          Go.AI.pSome l22[(2 : Nat)]? fun (u23 : Go.Value) ↦
                                                            Go.AI.tI Go.IntKind.i64 u23 fun (n24 : Int) ↦
                                                              Go.AI.bmatch (!b21) (K (Go.Value.bool Bool.false) σ15)
                                                                (Go.AI.req ((0 : Int) ≤ Go.IntKind.wrap Go.IntKind.i64 (i - (3 : Int)))
                                                                  (Go.AI.req (Go.IntKind.wrap Go.IntKind.i64 (i - (3 : Int)) < (↑m : Int))
                                                                    (Go.AI.pSome a fun (a25 : Go.Addr) ↦
                                                                      Go.AI.ldc σ15 (Go.Addr.add a25 (Int.toNat (Go.IntKind.wrap Go.IntKind.i64 (i - (3 : Int))) * Go.AI.szOf Go.Proofs.Try.prog (5 : Nat)))
                                                                        fun (v26 : Go.Value) ↦
                                                                        Go.AI.tI Go.IntKind.u8 v26 fun (n27 : Int) ↦
                                                                          Go.AI.req ((0 : Int) ≤ Go.IntKind.wrap Go.IntKind.i64 (i - (2 : Int)))
                                                                            (Go.AI.req (Go.IntKind.wrap Go.IntKind.i64 (i - (2 : Int)) < (↑m : Int))
                                                                              (Go.AI.pSome a fun (a28 : Go.Addr) ↦
                                                                                Go.AI.ldc σ15 (Go.Addr.add a28 (Int.toNat (Go.IntKind.wrap Go.IntKind.i64 (i - (2 : Int))) * Go.AI.szOf Go.Proofs.Try.prog (5 : Nat)))
                                                                                  fun (v29 : Go.Value) ↦
                                                                                  Go.AI.tI Go.IntKind.u8 v29 fun (n30 : Int) ↦
                                                                                    Go.AI.req ((0 : Int) ≤ Go.IntKind.wrap Go.IntKind.i64 (i - (1 : Int)))
                                                                                      (Go.AI.req (Go.IntKind.wrap Go.IntKind.i64 (i - (1 : Int)) < (↑m : Int))
                                                                                        (Go.AI.pSome a fun (a31 : Go.Addr) ↦
                                                                                          Go.AI.ldc σ15
                                                                                            (Go.Addr.add a31 (Int.toNat (Go.IntKind.wrap Go.IntKind.i64 (i - (1 : Int))) * Go.AI.szOf Go.Proofs.Try.prog (5 : Nat)))
                                                                                            fun (v32 : Go.Value) ↦
                                                                                            Go.AI.tI Go.IntKind.u8 v32 fun (n33 : Int) ↦
                                                                                              Go.AI.bmatch
                                                                                                (n18 !=
                                                                                                  Go.IntKind.wrap Go.IntKind.u32
                                                                                                    (Go.IntKind.wrap Go.IntKind.u32
                                                                                                        (Go.IntKind.wrap Go.IntKind.u32
                                                                                                            (Go.AI.ishl Go.IntKind.u32 (Go.IntKind.wrap Go.IntKind.u32 n27) (24 : Int) +
                                                                                                              Go.AI.ishl Go.IntKind.u32 (Go.IntKind.wrap Go.IntKind.u32 n30) (16 : Int)) +
                                                                                                          Go.AI.ishl Go.IntKind.u32 (Go.IntKind.wrap Go.IntKind.u32 n33) (8 : Int)) +
                                                                                                      n4))
                                                                                                (K (Go.Value.bool Bool.false) σ15)
                                                                                                (X
                                                                                                  [((0 : Nat), Option.some (Go.Value.slice a m (1 : Nat))),
                                                                                                    ((3 : Nat), Option.some (Go.Value.pointer (Option.some (Go.Addr.mk s (0 : Nat) Option.none)))),
                                                                                                    ((5 : Nat), Option.some (Go.Value.int Go.IntKind.i64 x)), ((7 : Nat), Option.some (Go.Value.int Go.IntKind.i64 y)),
                                                                                                    ((15 : Nat), Option.some (Go.Value.int Go.IntKind.i64 (Go.IntKind.wrap Go.IntKind.i64 (i + (1 : Int)))))]
                                                                                                  σ15)))))))))
                                          (X
                                            [((0 : Nat), Option.some (Go.Value.slice a m (1 : Nat))), ((3 : Nat), Option.some (Go.Value.pointer (Option.some (Go.Addr.mk s (0 : Nat) Option.none)))),
                                              ((5 : Nat), Option.some (Go.Value.int Go.IntKind.i64 x)), ((7 : Nat), Option.some (Go.Value.int Go.IntKind.i64 y)),
                                              ((15 : Nat), Option.some (Go.Value.int Go.IntKind.i64 (Go.IntKind.wrap Go.IntKind.i64 (i + (1 : Int)))))]
                                            σ1))))))
      (T (16 : Nat) [Go.Value.pointer (Option.some (Go.Addr.mk s (0 : Nat) Option.none)), Go.Value.int Go.IntKind.i64 x] σ fun (v34 : Go.Value) (σ35 : Go.AI.AS) ↦
        Go.AI.tTup v34 fun (l36 : List Go.Value) ↦
          Go.AI.pSome l36[(0 : Nat)]? fun (u37 : Go.Value) ↦
            Go.AI.tI Go.IntKind.u32 u37 fun (n38 : Int) ↦
              Go.AI.tTup v34 fun (l39 : List Go.Value) ↦
                Go.AI.pSome l39[(1 : Nat)]? fun (u40 : Go.Value) ↦
                  Go.AI.tB u40 fun (b41 : Bool) ↦
                    Go.AI.tTup v34 fun (l42 : List Go.Value) ↦
                      Go.AI.pSome l42[(2 : Nat)]? fun (u43 : Go.Value) ↦
                        Go.AI.tI Go.IntKind.i64 u43 fun (n44 : Int) ↦
                          T (16 : Nat) [Go.Value.pointer (Option.some (Go.Addr.mk s (0 : Nat) Option.none)), Go.Value.int Go.IntKind.i64 y] σ35 fun (v45 : Go.Value) (σ46 : Go.AI.AS) ↦
                            Go.AI.tTup v45 fun (l47 : List Go.Value) ↦
                              Go.AI.pSome l47[(0 : Nat)]? fun (u48 : Go.Value) ↦
                                Go.AI.tI Go.IntKind.u32 u48 fun (n49 : Int) ↦
                                  Go.AI.tTup v45 fun (l50 : List Go.Value) ↦
                                    Go.AI.pSome l50[(1 : Nat)]? fun (u51 : Go.Value) ↦
                                      Go.AI.tB u51 fun (b52 : Bool) ↦
                                        Go.AI.tTup v45 fun (l53 : List Go.Value) ↦
                                          Go.AI.pSome l53[(2 : Nat)]? fun (u54 : Go.Value) ↦
                                            Go.AI.tI Go.IntKind.i64 u54 fun (n55 : Int) ↦
                                              T (12 : Nat)
                                                [Go.Value.pointer (Option.some (Go.Addr.mk s (0 : Nat) Option.none)), Go.Value.string (ByteArray.mk #[(102 : UInt8)]), Go.Value.int Go.IntKind.i64 (5 : Int),
                                                  Go.Value.bool Bool.false]
                                                σ46 fun (v56 : Go.Value) (σ57 : Go.AI.AS) ↦
                                                Go.AI.tTup v56 fun (l58 : List Go.Value) ↦
                                                  Go.AI.pSome l58[(0 : Nat)]? fun (u59 : Go.Value) ↦
                                                    Go.AI.tI Go.IntKind.i64 u59 fun (n60 : Int) ↦
                                                      Go.AI.tTup v56 fun (l61 : List Go.Value) ↦
                                                        Go.AI.pSome l61[(1 : Nat)]? fun (u62 : Go.Value) ↦
                                                          Go.AI.tI Go.IntKind.i64 u62 fun (n63 : Int) ↦
                                                            Go.AI.bmatch (!b41)
                                                              (Go.AI.bmatch (!b52)
                                                                (T (10 : Nat) [Go.Value.int Go.IntKind.i64 n63] σ57 fun (v64 : Go.Value) (σ65 : Go.AI.AS) ↦
                                                                  Go.AI.tI Go.IntKind.i64 v64 fun (n66 : Int) ↦
                                                                    Go.AI.bmatch (n66 == (6 : Int))
                                                                      (T (23 : Nat) [Go.Value.pointer (Option.some (Go.Addr.mk s (0 : Nat) Option.none)), Go.Value.string (ByteArray.mk #[(102 : UInt8)])] σ65
                                                                        fun (v67 : Go.Value) (σ68 : Go.AI.AS) ↦
                                                                        Go.AI.tB v67 fun (b69 : Bool) ↦
                                                                          Go.AI.bmatch (!b69) (T (11 : Nat) [] σ68 fun (v70 : Go.Value) (σ71 : Go.AI.AS) ↦ Go.AI.tB v70 fun (b72 : Bool) ↦ K (Go.Value.bool b72) σ71)
                                                                            (K (Go.Value.bool Bool.false) σ68))
                                                                      (K (Go.Value.bool Bool.false) σ65))
                                                                (K (Go.Value.bool Bool.false) σ57))
                                                              (K (Go.Value.bool Bool.false) σ57)) := by
  intros
  kernel_rfl

end Go.AI
