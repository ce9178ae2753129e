/- The conditions ahead of the calls of the program's functions, reckoned as far as they go (equations that the kernel checks); no condition. -/
import Derived.Test.YtpgedoljndppdaaShSoft
import Derived.Test.YtpgedoljndppdaaAISep
set_option maxRecDepth 1000000
set_option linter.unusedVariables false
namespace Go.AI
open Go.Proofs
theorem s35 : ∀ (T : Go.AI.Ct) (name : ByteArray) (σ : Go.AI.AS) (K : Go.Value → Go.AI.AS → Prop),
  Go.AI.fw Go.Proofs.Try.prog Go.AI.hintsS T (35 : Nat) [Go.Value.string name] σ K =
    Go.AI.bmatch (Decidable.decide ((↑(ByteArray.size name) : Int) ≥ (1 : Int))) (K (Go.Value.bool (Decidable.decide ((↑(ByteArray.size name) : Int) ≤ (32 : Int)))) σ) (K (Go.Value.bool Bool.false) σ) := by
  intros
  kernel_rfl

theorem s12w : ∀ (T : Go.AI.Ct) (s : Nat) (name : ByteArray) (w : Bool) (σ : Go.AI.AS) (K : Go.Value → Go.AI.AS → Prop),
  Go.AI.fw Go.Proofs.Try.prog Go.AI.hintsS T (12 : Nat) [Go.Value.pointer (Option.some (Go.Addr.mk s (0 : Nat) Option.none)), Go.Value.string name, Go.Value.int Go.IntKind.i64 (1 : Int), Go.Value.bool w] σ
      K =
    T (27 : Nat) [Go.Value.pointer (Option.some (Go.Addr.mk s (0 : Nat) Option.none)), Go.Value.string name, Go.Value.int Go.IntKind.i64 (1 : Int)] σ fun (v0 : Go.Value) (σ1 : Go.AI.AS) ↦
      Go.AI.tI Go.IntKind.i64 v0 fun (n2 : Int) ↦
        Go.AI.bmatch (n2 != (0 : Int)) (K (Go.Value.tuple (Array.mk [Go.Value.int Go.IntKind.i64 (0 : Int), Go.Value.int Go.IntKind.i64 n2])) σ1)
          (Go.AI.ldc σ1 (Go.Addr.mk s ((0 : Nat) + (2 : Nat)) Option.none) fun (v3 : Go.Value) ↦
            Go.AI.tM v3 fun (b4 : Option Nat) ↦
              Go.AI.mget σ1 Go.TypeDesc.string b4 (Go.Value.string name) fun (o5 : Option Go.Value) ↦
                Go.AI.tP (Option.getD o5 (Go.Value.pointer Option.none)) fun (b6 : Option Go.Addr) ↦
                  Go.AI.ptrEq σ1 b6 Option.none fun (r7 : Bool) ↦
                    Go.AI.bmatch r7
                      (Go.AI.ldc σ1 (Go.Addr.mk s ((0 : Nat) + (2 : Nat)) Option.none) fun (v8 : Go.Value) ↦
                        Go.AI.tM v8 fun (b9 : Option Nat) ↦
                          Go.AI.newAt σ1 (Go.AI.AObj.row Go.AI.RK.plain [Go.Value.slice Option.none (0 : Nat) (0 : Nat), Go.Value.slice Option.none (0 : Nat) (0 : Nat)]) fun (i10 : Nat) (σ11 : Go.AI.AS) ↦
                            Go.AI.pSome b9 fun (i12 : Nat) ↦
                              Go.AI.mset σ11 Go.TypeDesc.string i12 (Go.Value.string name) (Go.Value.pointer (Option.some (Go.Addr.mk i10 (0 : Nat) Option.none))) fun (σ13 : Go.AI.AS) ↦
                                Go.AI.ldc σ13 (Go.Addr.mk s ((0 : Nat) + (2 : Nat)) Option.none) fun (v14 : Go.Value) ↦
                                  Go.AI.tM v14 fun (b15 : Option Nat) ↦
                                    Go.AI.mget σ13 Go.TypeDesc.string b15 (Go.Value.string name) fun (o16 : Option Go.Value) ↦
                                      Go.AI.tP (Option.getD o16 (Go.Value.pointer Option.none)) fun (b17 : Option Go.Addr) ↦
                                        Go.AI.pSome b17 fun (a18 : Go.Addr) ↦
                                          Go.AI.put1 σ13 (Go.Addr.add a18 (0 : Nat)) (Go.Value.slice Option.none (0 : Nat) (0 : Nat)) fun (σ19 : Go.AI.AS) ↦
                                            Go.AI.newAt σ19
                                              (Go.AI.AObj.row Go.AI.RK.plain
                                                [Go.Value.iface (78 : Nat) (Go.Value.agg (Array.mk [Go.Value.pointer b17])), Go.Value.pointer b17, Go.Value.int Go.IntKind.i64 (1 : Int),
                                                  Go.Value.int Go.IntKind.i64 (0 : Int), Go.Value.int Go.IntKind.u32 (0 : Int), Go.Value.int Go.IntKind.u32 (0 : Int)])
                                              fun (i20 : Nat) (σ21 : Go.AI.AS) ↦
                                              Go.AI.bmatch w
                                                (Go.AI.put1 σ21 (Go.Addr.mk i20 (0 : Nat) Option.none) (Go.Value.iface (83 : Nat) (Go.Value.agg (Array.mk [Go.Value.pointer b17]))) fun (σ22 : Go.AI.AS) ↦
                                                  Go.AI.pSome b17 fun (a23 : Go.Addr) ↦
                                                    Go.AI.ldc σ22 (Go.Addr.mk (Go.Addr.block a23) (Go.Addr.off a23 + (1 : Nat)) Option.none) fun (v24 : Go.Value) ↦
                                                      Go.AI.tL (1 : Nat) v24 fun (s25 : Go.AI.Sl) ↦
                                                        Go.AI.newAt σ22 (Go.AI.AObj.row Go.AI.RK.rw [Go.Value.pointer (Option.some (Go.Addr.mk i20 (0 : Nat) Option.none))]) fun (i26 : Nat) (σ27 : Go.AI.AS) ↦
                                                          Go.AI.lds σ27 (Go.Addr.mk i26 (0 : Nat) Option.none) (1 : Nat) fun (l28 : List Go.Value) ↦
                                                            Go.AI.appendTo σ27 (1 : Nat) (8 : Nat) (Go.AI.Sl.mk (Go.AI.Sl.a s25) (Go.AI.Sl.n s25)) l28 (1 : Nat) fun (s29 : Go.AI.Sl) (σ30 : Go.AI.AS) ↦
                                                              Go.AI.pSome b17 fun (a31 : Go.Addr) ↦
                                                                Go.AI.put1 σ30 (Go.Addr.mk (Go.Addr.block a31) (Go.Addr.off a31 + (1 : Nat)) Option.none) (Go.Value.slice (Go.AI.Sl.a s29) (Go.AI.Sl.n s29) (1 : Nat))
                                                                  fun (σ32 : Go.AI.AS) ↦
                                                                  T (28 : Nat)
                                                                    [Go.Value.pointer (Option.some (Go.Addr.mk s (0 : Nat) Option.none)), Go.Value.pointer (Option.some (Go.Addr.mk i20 (0 : Nat) Option.none))] σ32
                                                                    fun (v33 : Go.Value) (σ34 : Go.AI.AS) ↦
                                                                    Go.AI.tI Go.IntKind.i64 v33 fun (n35 : Int) ↦
                                                                      K (Go.Value.tuple (Array.mk [Go.Value.int Go.IntKind.i64 n35, Go.Value.int Go.IntKind.i64 (0 : Int)])) σ34)
                                                (Go.AI.pSome b17 fun (a36 : Go.Addr) ↦
                                                  Go.AI.ldc σ21 (Go.Addr.mk (Go.Addr.block a36) (Go.Addr.off a36 + (1 : Nat)) Option.none) fun (v37 : Go.Value) ↦
                                                    Go.AI.tL (1 : Nat) v37 fun (s38 : Go.AI.Sl) ↦
                                                      Go.AI.newAt σ21 (Go.AI.AObj.row Go.AI.RK.rw [Go.Value.pointer (Option.some (Go.Addr.mk i20 (0 : Nat) Option.none))]) fun (i39 : Nat) (σ40 : Go.AI.AS) ↦
                                                        Go.AI.lds σ40 (Go.Addr.mk i39 (0 : Nat) Option.none) (1 : Nat) fun (l41 : List Go.Value) ↦
                                                          Go.AI.appendTo σ40 (1 : Nat) (8 : Nat) (Go.AI.Sl.mk (Go.AI.Sl.a s38) (Go.AI.Sl.n s38)) l41 (1 : Nat) fun (s42 : Go.AI.Sl) (σ43 : Go.AI.AS) ↦
                                                            Go.AI.pSome b17 fun (a44 : Go.Addr) ↦
                                                              Go.AI.put1 σ43 (Go.Addr.mk (Go.Addr.block a44) (Go.Addr.off a44 + (1 : Nat)) Option.none) (Go.Value.slice (Go.AI.Sl.a s42) (Go.AI.Sl.n s42) (1 : Nat))
                                                                fun (σ45 : Go.AI.AS) ↦
                                                                T (28 : Nat)
                                                                  [Go.Value.pointer (Option.some (Go.Addr.mk s (0 : Nat) Option.none)), Go.Value.pointer (Option.some (Go.Addr.mk i20 (0 : Nat) Option.none))] σ45
                                                                  fun (v46 : Go.Value) (σ47 : Go.AI.AS) ↦
                                                                  Go.AI.tI Go.IntKind.i64 v46 fun (n48 : Int) ↦
                                                                    K (Go.Value.tuple (Array.mk [Go.Value.int Go.IntKind.i64 n48, Go.Value.int Go.IntKind.i64 (0 : Int)])) σ47))
                      (Go.AI.ldc σ1 (Go.Addr.mk s ((0 : Nat) + (2 : Nat)) Option.none) fun (v49 : Go.Value) ↦
                        Go.AI.tM v49 fun (b50 : Option Nat) ↦
                          Go.AI.mget σ1 Go.TypeDesc.string b50 (Go.Value.string name) fun (o51 : Option Go.Value) ↦
                            Go.AI.tP (Option.getD o51 (Go.Value.pointer Option.none)) fun (b52 : Option Go.Addr) ↦
                              Go.AI.pSome b52 fun (a53 : Go.Addr) ↦
                                Go.AI.put1 σ1 (Go.Addr.add a53 (0 : Nat)) (Go.Value.slice Option.none (0 : Nat) (0 : Nat)) fun (σ54 : Go.AI.AS) ↦
                                  Go.AI.newAt σ54
                                    (Go.AI.AObj.row Go.AI.RK.plain
                                      [Go.Value.iface (78 : Nat) (Go.Value.agg (Array.mk [Go.Value.pointer b52])), Go.Value.pointer b52, Go.Value.int Go.IntKind.i64 (1 : Int), Go.Value.int Go.IntKind.i64 (0 : Int),
                                        Go.Value.int Go.IntKind.u32 (0 : Int), Go.Value.int Go.IntKind.u32 (0 : Int)])
                                    fun (i55 : Nat) (σ56 : Go.AI.AS) ↦
                                    Go.AI.bmatch w
                                      (Go.AI.put1 σ56 (Go.Addr.mk i55 (0 : Nat) Option.none) (Go.Value.iface (83 : Nat) (Go.Value.agg (Array.mk [Go.Value.pointer b52]))) fun (σ57 : Go.AI.AS) ↦
                                        Go.AI.pSome b52 fun (a58 : Go.Addr) ↦
                                          Go.AI.ldc σ57 (Go.Addr.mk (Go.Addr.block a58) (Go.Addr.off a58 + (1 : Nat)) Option.none) fun (v59 : Go.Value) ↦
                                            Go.AI.tL (1 : Nat) v59 fun (s60 : Go.AI.Sl) ↦
                                              Go.AI.newAt σ57 (Go.AI.AObj.row Go.AI.RK.rw [Go.Value.pointer (Option.some (Go.Addr.mk i55 (0 : Nat) Option.none))]) fun (i61 : Nat) (σ62 : Go.AI.AS) ↦
                                                Go.AI.lds σ62 (Go.Addr.mk i61 (0 : Nat) Option.none) (1 : Nat) fun (l63 : List Go.Value) ↦
                                                  Go.AI.appendTo σ62 (1 : Nat) (8 : Nat) (Go.AI.Sl.mk (Go.AI.Sl.a s60) (Go.AI.Sl.n s60)) l63 (1 : Nat) fun (s64 : Go.AI.Sl) (σ65 : Go.AI.AS) ↦
                                                    Go.AI.pSome b52 fun (a66 : Go.Addr) ↦
                                                      Go.AI.put1 σ65 (Go.Addr.mk (Go.Addr.block a66) (Go.Addr.off a66 + (1 : Nat)) Option.none) (Go.Value.slice (Go.AI.Sl.a s64) (Go.AI.Sl.n s64) (1 : Nat))
                                                        fun (σ67 : Go.AI.AS) ↦
                                                        T (28 : Nat) [Go.Value.pointer (Option.some (Go.Addr.mk s (0 : Nat) Option.none)), Go.Value.pointer (Option.some (Go.Addr.mk i55 (0 : Nat) Option.none))] σ67
                                                          fun (v68 : Go.Value) (σ69 : Go.AI.AS) ↦
                                                          Go.AI.tI Go.IntKind.i64 v68 fun (n70 : Int) ↦ K (Go.Value.tuple (Array.mk [Go.Value.int Go.IntKind.i64 n70, Go.Value.int Go.IntKind.i64 (0 : Int)])) σ69)
                                      (Go.AI.pSome b52 fun (a71 : Go.Addr) ↦
                                        Go.AI.ldc σ56 (Go.Addr.mk (Go.Addr.block a71) (Go.Addr.off a71 + (1 : Nat)) Option.none) fun (v72 : Go.Value) ↦
                                          Go.AI.tL (1 : Nat) v72 fun (s73 : Go.AI.Sl) ↦
                                            Go.AI.newAt σ56 (Go.AI.AObj.row Go.AI.RK.rw [Go.Value.pointer (Option.some (Go.Addr.mk i55 (0 : Nat) Option.none))]) fun (i74 : Nat) (σ75 : Go.AI.AS) ↦
                                              Go.AI.lds σ75 (Go.Addr.mk i74 (0 : Nat) Option.none) (1 : Nat) fun (l76 : List Go.Value) ↦
                                                Go.AI.appendTo σ75 (1 : Nat) (8 : Nat) (Go.AI.Sl.mk (Go.AI.Sl.a s73) (Go.AI.Sl.n s73)) l76 (1 : Nat) fun (s77 : Go.AI.Sl) (σ78 : Go.AI.AS) ↦
                                                  Go.AI.pSome b52 fun (a79 : Go.Addr) ↦
                                                    Go.AI.put1 σ78 (Go.Addr.mk (Go.Addr.block a79) (Go.Addr.off a79 + (1 : Nat)) Option.none) (Go.Value.slice (Go.AI.Sl.a s77) (Go.AI.Sl.n s77) (1 : Nat))
                                                      fun (σ80 : Go.AI.AS) ↦
                                                      T (28 : Nat) [Go.Value.pointer (Option.some (Go.Addr.mk s (0 : Nat) Option.none)), Go.Value.pointer (Option.some (Go.Addr.mk i55 (0 : Nat) Option.none))] σ80
                                                        fun (v81 : Go.Value) (σ82 : Go.AI.AS) ↦
                                                        Go.AI.tI Go.IntKind.i64 v81 fun (n83 : Int) ↦ K (Go.Value.tuple (Array.mk [Go.Value.int Go.IntKind.i64 n83, Go.Value.int Go.IntKind.i64 (0 : Int)])) σ82))) := by
  intros
  kernel_rfl

theorem s12r : ∀ (T : Go.AI.Ct) (s : Nat) (name : ByteArray) (w : Bool) (σ : Go.AI.AS) (K : Go.Value → Go.AI.AS → Prop),
  Go.AI.fw Go.Proofs.Try.prog Go.AI.hintsS T (12 : Nat) [Go.Value.pointer (Option.some (Go.Addr.mk s (0 : Nat) Option.none)), Go.Value.string name, Go.Value.int Go.IntKind.i64 (2 : Int), Go.Value.bool w] σ
      K =
    T (27 : Nat) [Go.Value.pointer (Option.some (Go.Addr.mk s (0 : Nat) Option.none)), Go.Value.string name, Go.Value.int Go.IntKind.i64 (2 : Int)] σ fun (v0 : Go.Value) (σ1 : Go.AI.AS) ↦
      Go.AI.tI Go.IntKind.i64 v0 fun (n2 : Int) ↦
        Go.AI.bmatch (n2 != (0 : Int)) (K (Go.Value.tuple (Array.mk [Go.Value.int Go.IntKind.i64 (0 : Int), Go.Value.int Go.IntKind.i64 n2])) σ1)
          (Go.AI.ldc σ1 (Go.Addr.mk s ((0 : Nat) + (2 : Nat)) Option.none) fun (v3 : Go.Value) ↦
            Go.AI.tM v3 fun (b4 : Option Nat) ↦
              Go.AI.mget σ1 Go.TypeDesc.string b4 (Go.Value.string name) fun (o5 : Option Go.Value) ↦
                Go.AI.tP (Option.getD o5 (Go.Value.pointer Option.none)) fun (b6 : Option Go.Addr) ↦
                  Go.AI.ptrEq σ1 b6 Option.none fun (r7 : Bool) ↦
                    Go.AI.bmatch r7
                      (Go.AI.ldc σ1 (Go.Addr.mk s ((0 : Nat) + (2 : Nat)) Option.none) fun (v8 : Go.Value) ↦
                        Go.AI.tM v8 fun (b9 : Option Nat) ↦
                          Go.AI.newAt σ1 (Go.AI.AObj.row Go.AI.RK.plain [Go.Value.slice Option.none (0 : Nat) (0 : Nat), Go.Value.slice Option.none (0 : Nat) (0 : Nat)]) fun (i10 : Nat) (σ11 : Go.AI.AS) ↦
                            Go.AI.pSome b9 fun (i12 : Nat) ↦
                              Go.AI.mset σ11 Go.TypeDesc.string i12 (Go.Value.string name) (Go.Value.pointer (Option.some (Go.Addr.mk i10 (0 : Nat) Option.none))) fun (σ13 : Go.AI.AS) ↦
                                Go.AI.ldc σ13 (Go.Addr.mk s ((0 : Nat) + (2 : Nat)) Option.none) fun (v14 : Go.Value) ↦
                                  Go.AI.tM v14 fun (b15 : Option Nat) ↦
                                    Go.AI.mget σ13 Go.TypeDesc.string b15 (Go.Value.string name) fun (o16 : Option Go.Value) ↦
                                      Go.AI.tP (Option.getD o16 (Go.Value.pointer Option.none)) fun (b17 : Option Go.Addr) ↦
                                        Go.AI.newAt σ13
                                          (Go.AI.AObj.row Go.AI.RK.plain
                                            [Go.Value.iface (78 : Nat) (Go.Value.agg (Array.mk [Go.Value.pointer b17])), Go.Value.pointer b17, Go.Value.int Go.IntKind.i64 (2 : Int), Go.Value.int Go.IntKind.i64 (0 : Int),
                                              Go.Value.int Go.IntKind.u32 (0 : Int), Go.Value.int Go.IntKind.u32 (0 : Int)])
                                          fun (i18 : Nat) (σ19 : Go.AI.AS) ↦
                                          Go.AI.bmatch w
                                            (Go.AI.put1 σ19 (Go.Addr.mk i18 (0 : Nat) Option.none) (Go.Value.iface (83 : Nat) (Go.Value.agg (Array.mk [Go.Value.pointer b17]))) fun (σ20 : Go.AI.AS) ↦
                                              Go.AI.pSome b17 fun (a21 : Go.Addr) ↦
                                                Go.AI.ldc σ20 (Go.Addr.mk (Go.Addr.block a21) (Go.Addr.off a21 + (1 : Nat)) Option.none) fun (v22 : Go.Value) ↦
                                                  Go.AI.tL (1 : Nat) v22 fun (s23 : Go.AI.Sl) ↦
                                                    Go.AI.newAt σ20 (Go.AI.AObj.row Go.AI.RK.rw [Go.Value.pointer (Option.some (Go.Addr.mk i18 (0 : Nat) Option.none))]) fun (i24 : Nat) (σ25 : Go.AI.AS) ↦
                                                      Go.AI.lds σ25 (Go.Addr.mk i24 (0 : Nat) Option.none) (1 : Nat) fun (l26 : List Go.Value) ↦
                                                        Go.AI.appendTo σ25 (1 : Nat) (8 : Nat) (Go.AI.Sl.mk (Go.AI.Sl.a s23) (Go.AI.Sl.n s23)) l26 (1 : Nat) fun (s27 : Go.AI.Sl) (σ28 : Go.AI.AS) ↦
                                                          Go.AI.pSome b17 fun (a29 : Go.Addr) ↦
                                                            Go.AI.put1 σ28 (Go.Addr.mk (Go.Addr.block a29) (Go.Addr.off a29 + (1 : Nat)) Option.none) (Go.Value.slice (Go.AI.Sl.a s27) (Go.AI.Sl.n s27) (1 : Nat))
                                                              fun (σ30 : Go.AI.AS) ↦
                                                              T (28 : Nat) [Go.Value.pointer (Option.some (Go.Addr.mk s (0 : Nat) Option.none)), Go.Value.pointer (Option.some (Go.Addr.mk i18 (0 : Nat) Option.none))]
                                                                σ30 fun (v31 : Go.Value) (σ32 : Go.AI.AS) ↦
                                                                Go.AI.tI Go.IntKind.i64 v31 fun (n33 : Int) ↦ K (Go.Value.tuple (Array.mk [Go.Value.int Go.IntKind.i64 n33, Go.Value.int Go.IntKind.i64 (0 : Int)])) σ32)
                                            (Go.AI.pSome b17 fun (a34 : Go.Addr) ↦
                                              Go.AI.ldc σ19 (Go.Addr.mk (Go.Addr.block a34) (Go.Addr.off a34 + (1 : Nat)) Option.none) fun (v35 : Go.Value) ↦
                                                Go.AI.tL (1 : Nat) v35 fun (s36 : Go.AI.Sl) ↦
                                                  Go.AI.newAt σ19 (Go.AI.AObj.row Go.AI.RK.rw [Go.Value.pointer (Option.some (Go.Addr.mk i18 (0 : Nat) Option.none))]) fun (i37 : Nat) (σ38 : Go.AI.AS) ↦
                                                    Go.AI.lds σ38 (Go.Addr.mk i37 (0 : Nat) Option.none) (1 : Nat) fun (l39 : List Go.Value) ↦
                                                      Go.AI.appendTo σ38 (1 : Nat) (8 : Nat) (Go.AI.Sl.mk (Go.AI.Sl.a s36) (Go.AI.Sl.n s36)) l39 (1 : Nat) fun (s40 : Go.AI.Sl) (σ41 : Go.AI.AS) ↦
                                                        Go.AI.pSome b17 fun (a42 : Go.Addr) ↦
                                                          Go.AI.put1 σ41 (Go.Addr.mk (Go.Addr.block a42) (Go.Addr.off a42 + (1 : Nat)) Option.none) (Go.Value.slice (Go.AI.Sl.a s40) (Go.AI.Sl.n s40) (1 : Nat))
                                                            fun (σ43 : Go.AI.AS) ↦
                                                            T (28 : Nat) [Go.Value.pointer (Option.some (Go.Addr.mk s (0 : Nat) Option.none)), Go.Value.pointer (Option.some (Go.Addr.mk i18 (0 : Nat) Option.none))]
                                                              σ43 fun (v44 : Go.Value) (σ45 : Go.AI.AS) ↦
                                                              Go.AI.tI Go.IntKind.i64 v44 fun (n46 : Int) ↦ K (Go.Value.tuple (Array.mk [Go.Value.int Go.IntKind.i64 n46, Go.Value.int Go.IntKind.i64 (0 : Int)])) σ45))
                      (Go.AI.ldc σ1 (Go.Addr.mk s ((0 : Nat) + (2 : Nat)) Option.none) fun (v47 : Go.Value) ↦
                        Go.AI.tM v47 fun (b48 : Option Nat) ↦
                          Go.AI.mget σ1 Go.TypeDesc.string b48 (Go.Value.string name) fun (o49 : Option Go.Value) ↦
                            Go.AI.tP (Option.getD o49 (Go.Value.pointer Option.none)) fun (b50 : Option Go.Addr) ↦
                              Go.AI.newAt σ1
                                (Go.AI.AObj.row Go.AI.RK.plain
                                  [Go.Value.iface (78 : Nat) (Go.Value.agg (Array.mk [Go.Value.pointer b50])), Go.Value.pointer b50, Go.Value.int Go.IntKind.i64 (2 : Int), Go.Value.int Go.IntKind.i64 (0 : Int),
                                    Go.Value.int Go.IntKind.u32 (0 : Int), Go.Value.int Go.IntKind.u32 (0 : Int)])
                                fun (i51 : Nat) (σ52 : Go.AI.AS) ↦
                                Go.AI.bmatch w
                                  (Go.AI.put1 σ52 (Go.Addr.mk i51 (0 : Nat) Option.none) (Go.Value.iface (83 : Nat) (Go.Value.agg (Array.mk [Go.Value.pointer b50]))) fun (σ53 : Go.AI.AS) ↦
                                    Go.AI.pSome b50 fun (a54 : Go.Addr) ↦
                                      Go.AI.ldc σ53 (Go.Addr.mk (Go.Addr.block a54) (Go.Addr.off a54 + (1 : Nat)) Option.none) fun (v55 : Go.Value) ↦
                                        Go.AI.tL (1 : Nat) v55 fun (s56 : Go.AI.Sl) ↦
                                          Go.AI.newAt σ53 (Go.AI.AObj.row Go.AI.RK.rw [Go.Value.pointer (Option.some (Go.Addr.mk i51 (0 : Nat) Option.none))]) fun (i57 : Nat) (σ58 : Go.AI.AS) ↦
                                            Go.AI.lds σ58 (Go.Addr.mk i57 (0 : Nat) Option.none) (1 : Nat) fun (l59 : List Go.Value) ↦
                                              Go.AI.appendTo σ58 (1 : Nat) (8 : Nat) (Go.AI.Sl.mk (Go.AI.Sl.a s56) (Go.AI.Sl.n s56)) l59 (1 : Nat) fun (s60 : Go.AI.Sl) (σ61 : Go.AI.AS) ↦
                                                Go.AI.pSome b50 fun (a62 : Go.Addr) ↦
                                                  Go.AI.put1 σ61 (Go.Addr.mk (Go.Addr.block a62) (Go.Addr.off a62 + (1 : Nat)) Option.none) (Go.Value.slice (Go.AI.Sl.a s60) (Go.AI.Sl.n s60) (1 : Nat))
                                                    fun (σ63 : Go.AI.AS) ↦
                                                    T (28 : Nat) [Go.Value.pointer (Option.some (Go.Addr.mk s (0 : Nat) Option.none)), Go.Value.pointer (Option.some (Go.Addr.mk i51 (0 : Nat) Option.none))] σ63
                                                      fun (v64 : Go.Value) (σ65 : Go.AI.AS) ↦
                                                      Go.AI.tI Go.IntKind.i64 v64 fun (n66 : Int) ↦ K (Go.Value.tuple (Array.mk [Go.Value.int Go.IntKind.i64 n66, Go.Value.int Go.IntKind.i64 (0 : Int)])) σ65)
                                  (Go.AI.pSome b50 fun (a67 : Go.Addr) ↦
                                    Go.AI.ldc σ52 (Go.Addr.mk (Go.Addr.block a67) (Go.Addr.off a67 + (1 : Nat)) Option.none) fun (v68 : Go.Value) ↦
                                      Go.AI.tL (1 : Nat) v68 fun (s69 : Go.AI.Sl) ↦
                                        Go.AI.newAt σ52 (Go.AI.AObj.row Go.AI.RK.rw [Go.Value.pointer (Option.some (Go.Addr.mk i51 (0 : Nat) Option.none))]) fun (i70 : Nat) (σ71 : Go.AI.AS) ↦
                                          Go.AI.lds σ71 (Go.Addr.mk i70 (0 : Nat) Option.none) (1 : Nat) fun (l72 : List Go.Value) ↦
                                            Go.AI.appendTo σ71 (1 : Nat) (8 : Nat) (Go.AI.Sl.mk (Go.AI.Sl.a s69) (Go.AI.Sl.n s69)) l72 (1 : Nat) fun (s73 : Go.AI.Sl) (σ74 : Go.AI.AS) ↦
                                              Go.AI.pSome b50 fun (a75 : Go.Addr) ↦
                                                Go.AI.put1 σ74 (Go.Addr.mk (Go.Addr.block a75) (Go.Addr.off a75 + (1 : Nat)) Option.none) (Go.Value.slice (Go.AI.Sl.a s73) (Go.AI.Sl.n s73) (1 : Nat))
                                                  fun (σ76 : Go.AI.AS) ↦
                                                  T (28 : Nat) [Go.Value.pointer (Option.some (Go.Addr.mk s (0 : Nat) Option.none)), Go.Value.pointer (Option.some (Go.Addr.mk i51 (0 : Nat) Option.none))] σ76
                                                    fun (v77 : Go.Value) (σ78 : Go.AI.AS) ↦
                                                    Go.AI.tI Go.IntKind.i64 v77 fun (n79 : Int) ↦ K (Go.Value.tuple (Array.mk [Go.Value.int Go.IntKind.i64 n79, Go.Value.int Go.IntKind.i64 (0 : Int)])) σ78))) := by
  intros
  kernel_rfl

theorem s12b : ∀ (T : Go.AI.Ct) (s : Nat) (name : ByteArray) (w : Bool) (σ : Go.AI.AS) (K : Go.Value → Go.AI.AS → Prop),
  Go.AI.fw Go.Proofs.Try.prog Go.AI.hintsS T (12 : Nat) [Go.Value.pointer (Option.some (Go.Addr.mk s (0 : Nat) Option.none)), Go.Value.string name, Go.Value.int Go.IntKind.i64 (3 : Int), Go.Value.bool w] σ
      K =
    T (27 : Nat) [Go.Value.pointer (Option.some (Go.Addr.mk s (0 : Nat) Option.none)), Go.Value.string name, Go.Value.int Go.IntKind.i64 (3 : Int)] σ fun (v0 : Go.Value) (σ1 : Go.AI.AS) ↦
      Go.AI.tI Go.IntKind.i64 v0 fun (n2 : Int) ↦
        Go.AI.bmatch (n2 != (0 : Int)) (K (Go.Value.tuple (Array.mk [Go.Value.int Go.IntKind.i64 (0 : Int), Go.Value.int Go.IntKind.i64 n2])) σ1)
          (Go.AI.ldc σ1 (Go.Addr.mk s ((0 : Nat) + (2 : Nat)) Option.none) fun (v3 : Go.Value) ↦
            Go.AI.tM v3 fun (b4 : Option Nat) ↦
              Go.AI.mget σ1 Go.TypeDesc.string b4 (Go.Value.string name) fun (o5 : Option Go.Value) ↦
                Go.AI.tP (Option.getD o5 (Go.Value.pointer Option.none)) fun (b6 : Option Go.Addr) ↦
                  Go.AI.ptrEq σ1 b6 Option.none fun (r7 : Bool) ↦
                    Go.AI.bmatch r7
                      (Go.AI.ldc σ1 (Go.Addr.mk s ((0 : Nat) + (2 : Nat)) Option.none) fun (v8 : Go.Value) ↦
                        Go.AI.tM v8 fun (b9 : Option Nat) ↦
                          Go.AI.newAt σ1 (Go.AI.AObj.row Go.AI.RK.plain [Go.Value.slice Option.none (0 : Nat) (0 : Nat), Go.Value.slice Option.none (0 : Nat) (0 : Nat)]) fun (i10 : Nat) (σ11 : Go.AI.AS) ↦
                            Go.AI.pSome b9 fun (i12 : Nat) ↦
                              Go.AI.mset σ11 Go.TypeDesc.string i12 (Go.Value.string name) (Go.Value.pointer (Option.some (Go.Addr.mk i10 (0 : Nat) Option.none))) fun (σ13 : Go.AI.AS) ↦
                                Go.AI.ldc σ13 (Go.Addr.mk s ((0 : Nat) + (2 : Nat)) Option.none) fun (v14 : Go.Value) ↦
                                  Go.AI.tM v14 fun (b15 : Option Nat) ↦
                                    Go.AI.mget σ13 Go.TypeDesc.string b15 (Go.Value.string name) fun (o16 : Option Go.Value) ↦
                                      Go.AI.tP (Option.getD o16 (Go.Value.pointer Option.none)) fun (b17 : Option Go.Addr) ↦
                                        Go.AI.newAt σ13
                                          (Go.AI.AObj.row Go.AI.RK.plain
                                            [Go.Value.iface (78 : Nat) (Go.Value.agg (Array.mk [Go.Value.pointer b17])), Go.Value.pointer b17, Go.Value.int Go.IntKind.i64 (3 : Int), Go.Value.int Go.IntKind.i64 (0 : Int),
                                              Go.Value.int Go.IntKind.u32 (0 : Int), Go.Value.int Go.IntKind.u32 (0 : Int)])
                                          fun (i18 : Nat) (σ19 : Go.AI.AS) ↦
                                          Go.AI.bmatch w
                                            (Go.AI.put1 σ19 (Go.Addr.mk i18 (0 : Nat) Option.none) (Go.Value.iface (83 : Nat) (Go.Value.agg (Array.mk [Go.Value.pointer b17]))) fun (σ20 : Go.AI.AS) ↦
                                              Go.AI.pSome b17 fun (a21 : Go.Addr) ↦
                                                Go.AI.ldc σ20 (Go.Addr.mk (Go.Addr.block a21) (Go.Addr.off a21 + (1 : Nat)) Option.none) fun (v22 : Go.Value) ↦
                                                  Go.AI.tL (1 : Nat) v22 fun (s23 : Go.AI.Sl) ↦
                                                    Go.AI.newAt σ20 (Go.AI.AObj.row Go.AI.RK.rw [Go.Value.pointer (Option.some (Go.Addr.mk i18 (0 : Nat) Option.none))]) fun (i24 : Nat) (σ25 : Go.AI.AS) ↦
                                                      Go.AI.lds σ25 (Go.Addr.mk i24 (0 : Nat) Option.none) (1 : Nat) fun (l26 : List Go.Value) ↦
                                                        Go.AI.appendTo σ25 (1 : Nat) (8 : Nat) (Go.AI.Sl.mk (Go.AI.Sl.a s23) (Go.AI.Sl.n s23)) l26 (1 : Nat) fun (s27 : Go.AI.Sl) (σ28 : Go.AI.AS) ↦
                                                          Go.AI.pSome b17 fun (a29 : Go.Addr) ↦
                                                            Go.AI.put1 σ28 (Go.Addr.mk (Go.Addr.block a29) (Go.Addr.off a29 + (1 : Nat)) Option.none) (Go.Value.slice (Go.AI.Sl.a s27) (Go.AI.Sl.n s27) (1 : Nat))
                                                              fun (σ30 : Go.AI.AS) ↦
                                                              T (28 : Nat) [Go.Value.pointer (Option.some (Go.Addr.mk s (0 : Nat) Option.none)), Go.Value.pointer (Option.some (Go.Addr.mk i18 (0 : Nat) Option.none))]
                                                                σ30 fun (v31 : Go.Value) (σ32 : Go.AI.AS) ↦
                                                                Go.AI.tI Go.IntKind.i64 v31 fun (n33 : Int) ↦ K (Go.Value.tuple (Array.mk [Go.Value.int Go.IntKind.i64 n33, Go.Value.int Go.IntKind.i64 (0 : Int)])) σ32)
                                            (Go.AI.pSome b17 fun (a34 : Go.Addr) ↦
                                              Go.AI.ldc σ19 (Go.Addr.mk (Go.Addr.block a34) (Go.Addr.off a34 + (1 : Nat)) Option.none) fun (v35 : Go.Value) ↦
                                                Go.AI.tL (1 : Nat) v35 fun (s36 : Go.AI.Sl) ↦
                                                  Go.AI.newAt σ19 (Go.AI.AObj.row Go.AI.RK.rw [Go.Value.pointer (Option.some (Go.Addr.mk i18 (0 : Nat) Option.none))]) fun (i37 : Nat) (σ38 : Go.AI.AS) ↦
                                                    Go.AI.lds σ38 (Go.Addr.mk i37 (0 : Nat) Option.none) (1 : Nat) fun (l39 : List Go.Value) ↦
                                                      Go.AI.appendTo σ38 (1 : Nat) (8 : Nat) (Go.AI.Sl.mk (Go.AI.Sl.a s36) (Go.AI.Sl.n s36)) l39 (1 : Nat) fun (s40 : Go.AI.Sl) (σ41 : Go.AI.AS) ↦
                                                        Go.AI.pSome b17 fun (a42 : Go.Addr) ↦
                                                          Go.AI.put1 σ41 (Go.Addr.mk (Go.Addr.block a42) (Go.Addr.off a42 + (1 : Nat)) Option.none) (Go.Value.slice (Go.AI.Sl.a s40) (Go.AI.Sl.n s40) (1 : Nat))
                                                            fun (σ43 : Go.AI.AS) ↦
                                                            T (28 : Nat) [Go.Value.pointer (Option.some (Go.Addr.mk s (0 : Nat) Option.none)), Go.Value.pointer (Option.some (Go.Addr.mk i18 (0 : Nat) Option.none))]
                                                              σ43 fun (v44 : Go.Value) (σ45 : Go.AI.AS) ↦
                                                              Go.AI.tI Go.IntKind.i64 v44 fun (n46 : Int) ↦ K (Go.Value.tuple (Array.mk [Go.Value.int Go.IntKind.i64 n46, Go.Value.int Go.IntKind.i64 (0 : Int)])) σ45))
                      (Go.AI.ldc σ1 (Go.Addr.mk s ((0 : Nat) + (2 : Nat)) Option.none) fun (v47 : Go.Value) ↦
                        Go.AI.tM v47 fun (b48 : Option Nat) ↦
                          Go.AI.mget σ1 Go.TypeDesc.string b48 (Go.Value.string name) fun (o49 : Option Go.Value) ↦
                            Go.AI.tP (Option.getD o49 (Go.Value.pointer Option.none)) fun (b50 : Option Go.Addr) ↦
                              Go.AI.newAt σ1
                                (Go.AI.AObj.row Go.AI.RK.plain
                                  [Go.Value.iface (78 : Nat) (Go.Value.agg (Array.mk [Go.Value.pointer b50])), Go.Value.pointer b50, Go.Value.int Go.IntKind.i64 (3 : Int), Go.Value.int Go.IntKind.i64 (0 : Int),
                                    Go.Value.int Go.IntKind.u32 (0 : Int), Go.Value.int Go.IntKind.u32 (0 : Int)])
                                fun (i51 : Nat) (σ52 : Go.AI.AS) ↦
                                Go.AI.bmatch w
                                  (Go.AI.put1 σ52 (Go.Addr.mk i51 (0 : Nat) Option.none) (Go.Value.iface (83 : Nat) (Go.Value.agg (Array.mk [Go.Value.pointer b50]))) fun (σ53 : Go.AI.AS) ↦
                                    Go.AI.pSome b50 fun (a54 : Go.Addr) ↦
                                      Go.AI.ldc σ53 (Go.Addr.mk (Go.Addr.block a54) (Go.Addr.off a54 + (1 : Nat)) Option.none) fun (v55 : Go.Value) ↦
                                        Go.AI.tL (1 : Nat) v55 fun (s56 : Go.AI.Sl) ↦
                                          Go.AI.newAt σ53 (Go.AI.AObj.row Go.AI.RK.rw [Go.Value.pointer (Option.some (Go.Addr.mk i51 (0 : Nat) Option.none))]) fun (i57 : Nat) (σ58 : Go.AI.AS) ↦
                                            Go.AI.lds σ58 (Go.Addr.mk i57 (0 : Nat) Option.none) (1 : Nat) fun (l59 : List Go.Value) ↦
                                              Go.AI.appendTo σ58 (1 : Nat) (8 : Nat) (Go.AI.Sl.mk (Go.AI.Sl.a s56) (Go.AI.Sl.n s56)) l59 (1 : Nat) fun (s60 : Go.AI.Sl) (σ61 : Go.AI.AS) ↦
                                                Go.AI.pSome b50 fun (a62 : Go.Addr) ↦
                                                  Go.AI.put1 σ61 (Go.Addr.mk (Go.Addr.block a62) (Go.Addr.off a62 + (1 : Nat)) Option.none) (Go.Value.slice (Go.AI.Sl.a s60) (Go.AI.Sl.n s60) (1 : Nat))
                                                    fun (σ63 : Go.AI.AS) ↦
                                                    T (28 : Nat) [Go.Value.pointer (Option.some (Go.Addr.mk s (0 : Nat) Option.none)), Go.Value.pointer (Option.some (Go.Addr.mk i51 (0 : Nat) Option.none))] σ63
                                                      fun (v64 : Go.Value) (σ65 : Go.AI.AS) ↦
                                                      Go.AI.tI Go.IntKind.i64 v64 fun (n66 : Int) ↦ K (Go.Value.tuple (Array.mk [Go.Value.int Go.IntKind.i64 n66, Go.Value.int Go.IntKind.i64 (0 : Int)])) σ65)
                                  (Go.AI.pSome b50 fun (a67 : Go.Addr) ↦
                                    Go.AI.ldc σ52 (Go.Addr.mk (Go.Addr.block a67) (Go.Addr.off a67 + (1 : Nat)) Option.none) fun (v68 : Go.Value) ↦
                                      Go.AI.tL (1 : Nat) v68 fun (s69 : Go.AI.Sl) ↦
                                        Go.AI.newAt σ52 (Go.AI.AObj.row Go.AI.RK.rw [Go.Value.pointer (Option.some (Go.Addr.mk i51 (0 : Nat) Option.none))]) fun (i70 : Nat) (σ71 : Go.AI.AS) ↦
                                          Go.AI.lds σ71 (Go.Addr.mk i70 (0 : Nat) Option.none) (1 : Nat) fun (l72 : List Go.Value) ↦
                                            Go.AI.appendTo σ71 (1 : Nat) (8 : Nat) (Go.AI.Sl.mk (Go.AI.Sl.a s69) (Go.AI.Sl.n s69)) l72 (1 : Nat) fun (s73 : Go.AI.Sl) (σ74 : Go.AI.AS) ↦
                                              Go.AI.pSome b50 fun (a75 : Go.Addr) ↦
                                                Go.AI.put1 σ74 (Go.Addr.mk (Go.Addr.block a75) (Go.Addr.off a75 + (1 : Nat)) Option.none) (Go.Value.slice (Go.AI.Sl.a s73) (Go.AI.Sl.n s73) (1 : Nat))
                                                  fun (σ76 : Go.AI.AS) ↦
                                                  T (28 : Nat) [Go.Value.pointer (Option.some (Go.Addr.mk s (0 : Nat) Option.none)), Go.Value.pointer (Option.some (Go.Addr.mk i51 (0 : Nat) Option.none))] σ76
                                                    fun (v77 : Go.Value) (σ78 : Go.AI.AS) ↦
                                                    Go.AI.tI Go.IntKind.i64 v77 fun (n79 : Int) ↦ K (Go.Value.tuple (Array.mk [Go.Value.int Go.IntKind.i64 n79, Go.Value.int Go.IntKind.i64 (0 : Int)])) σ78))) := by
  intros
  kernel_rfl

theorem s12a : ∀ (T : Go.AI.Ct) (s : Nat) (name : ByteArray) (w : Bool) (σ : Go.AI.AS) (K : Go.Value → Go.AI.AS → Prop),
  Go.AI.fw Go.Proofs.Try.prog Go.AI.hintsS T (12 : Nat) [Go.Value.pointer (Option.some (Go.Addr.mk s (0 : Nat) Option.none)), Go.Value.string name, Go.Value.int Go.IntKind.i64 (5 : Int), Go.Value.bool w] σ
      K =
    T (27 : Nat) [Go.Value.pointer (Option.some (Go.Addr.mk s (0 : Nat) Option.none)), Go.Value.string name, Go.Value.int Go.IntKind.i64 (5 : Int)] σ fun (v0 : Go.Value) (σ1 : Go.AI.AS) ↦
      Go.AI.tI Go.IntKind.i64 v0 fun (n2 : Int) ↦
        Go.AI.bmatch (n2 != (0 : Int)) (K (Go.Value.tuple (Array.mk [Go.Value.int Go.IntKind.i64 (0 : Int), Go.Value.int Go.IntKind.i64 n2])) σ1)
          (Go.AI.ldc σ1 (Go.Addr.mk s ((0 : Nat) + (2 : Nat)) Option.none) fun (v3 : Go.Value) ↦
            Go.AI.tM v3 fun (b4 : Option Nat) ↦
              Go.AI.mget σ1 Go.TypeDesc.string b4 (Go.Value.string name) fun (o5 : Option Go.Value) ↦
                Go.AI.tP (Option.getD o5 (Go.Value.pointer Option.none)) fun (b6 : Option Go.Addr) ↦
                  Go.AI.ptrEq σ1 b6 Option.none fun (r7 : Bool) ↦
                    Go.AI.bmatch r7
                      (Go.AI.ldc σ1 (Go.Addr.mk s ((0 : Nat) + (2 : Nat)) Option.none) fun (v8 : Go.Value) ↦
                        Go.AI.tM v8 fun (b9 : Option Nat) ↦
                          Go.AI.newAt σ1 (Go.AI.AObj.row Go.AI.RK.plain [Go.Value.slice Option.none (0 : Nat) (0 : Nat), Go.Value.slice Option.none (0 : Nat) (0 : Nat)]) fun (i10 : Nat) (σ11 : Go.AI.AS) ↦
                            Go.AI.pSome b9 fun (i12 : Nat) ↦
                              Go.AI.mset σ11 Go.TypeDesc.string i12 (Go.Value.string name) (Go.Value.pointer (Option.some (Go.Addr.mk i10 (0 : Nat) Option.none))) fun (σ13 : Go.AI.AS) ↦
                                Go.AI.ldc σ13 (Go.Addr.mk s ((0 : Nat) + (2 : Nat)) Option.none) fun (v14 : Go.Value) ↦
                                  Go.AI.tM v14 fun (b15 : Option Nat) ↦
                                    Go.AI.mget σ13 Go.TypeDesc.string b15 (Go.Value.string name) fun (o16 : Option Go.Value) ↦
                                      Go.AI.tP (Option.getD o16 (Go.Value.pointer Option.none)) fun (b17 : Option Go.Addr) ↦
                                        Go.AI.newAt σ13
                                          (Go.AI.AObj.row Go.AI.RK.plain
                                            [Go.Value.iface (78 : Nat) (Go.Value.agg (Array.mk [Go.Value.pointer b17])), Go.Value.pointer b17, Go.Value.int Go.IntKind.i64 (5 : Int), Go.Value.int Go.IntKind.i64 (0 : Int),
                                              Go.Value.int Go.IntKind.u32 (0 : Int), Go.Value.int Go.IntKind.u32 (0 : Int)])
                                          fun (i18 : Nat) (σ19 : Go.AI.AS) ↦
                                          Go.AI.bmatch w
                                            (Go.AI.put1 σ19 (Go.Addr.mk i18 (0 : Nat) Option.none) (Go.Value.iface (83 : Nat) (Go.Value.agg (Array.mk [Go.Value.pointer b17]))) fun (σ20 : Go.AI.AS) ↦
                                              Go.AI.ldc σ20 (Go.Addr.mk i18 (0 : Nat) Option.none) fun (v21 : Go.Value) ↦
                                                Go.AI.tIf v21
                                                  (fun (t22 : Nat) (u23 : Go.Value) ↦
                                                    Go.AI.pSome (Go.AI.methodOf Go.Proofs.Try.prog t22 "grotto/shelf.size") fun (f24 : Go.FuncId) ↦
                                                      T f24 [u23] σ20 fun (v25 : Go.Value) (σ26 : Go.AI.AS) ↦
                                                        Go.AI.tI Go.IntKind.i64 v25 fun (n27 : Int) ↦
                                                          Go.AI.put1 σ26 (Go.Addr.mk i18 ((0 : Nat) + (3 : Nat)) Option.none) (Go.Value.int Go.IntKind.i64 n27) fun (σ28 : Go.AI.AS) ↦
                                                            Go.AI.pSome b17 fun (a29 : Go.Addr) ↦
                                                              Go.AI.ldc σ28 (Go.Addr.mk (Go.Addr.block a29) (Go.Addr.off a29 + (1 : Nat)) Option.none) fun (v30 : Go.Value) ↦
                                                                Go.AI.tL (1 : Nat) v30 fun (s31 : Go.AI.Sl) ↦
                                                                  Go.AI.newAt σ28 (Go.AI.AObj.row Go.AI.RK.rw [Go.Value.pointer (Option.some (Go.Addr.mk i18 (0 : Nat) Option.none))]) fun (i32 : Nat) (σ33 : Go.AI.AS) ↦
                                                                    Go.AI.lds σ33 (Go.Addr.mk i32 (0 : Nat) Option.none) (1 : Nat) fun (l34 : List Go.Value) ↦
                                                                      Go.AI.appendTo σ33 (1 : Nat) (8 : Nat) (Go.AI.Sl.mk (Go.AI.Sl.a s31) (Go.AI.Sl.n s31)) l34 (1 : Nat) fun (s35 : Go.AI.Sl) (σ36 : Go.AI.AS) ↦
                                                                        Go.AI.pSome b17 fun (a37 : Go.Addr) ↦
                                                                          Go.AI.put1 σ36 (Go.Addr.mk (Go.Addr.block a37) (Go.Addr.off a37 + (1 : Nat)) Option.none)
                                                                            (Go.Value.slice (Go.AI.Sl.a s35) (Go.AI.Sl.n s35) (1 : Nat)) fun (σ38 : Go.AI.AS) ↦
                                                                            T (28 : Nat)
                                                                              [Go.Value.pointer (Option.some (Go.Addr.mk s (0 : Nat) Option.none)), Go.Value.pointer (Option.some (Go.Addr.mk i18 (0 : Nat) Option.none))]
                                                                              σ38 fun (v39 : Go.Value) (σ40 : Go.AI.AS) ↦
                                                                              Go.AI.tI Go.IntKind.i64 v39 fun (n41 : Int) ↦
                                                                                K (Go.Value.tuple (Array.mk [Go.Value.int Go.IntKind.i64 n41, Go.Value.int Go.IntKind.i64 (0 : Int)])) σ40)
                                                  False)
                                            (Go.AI.ldc σ19 (Go.Addr.mk i18 (0 : Nat) Option.none) fun (v42 : Go.Value) ↦
                                              Go.AI.tIf v42
                                                (fun (t43 : Nat) (u44 : Go.Value) ↦
                                                  Go.AI.pSome (Go.AI.methodOf Go.Proofs.Try.prog t43 "grotto/shelf.size") fun (f45 : Go.FuncId) ↦
                                                    T f45 [u44] σ19 fun (v46 : Go.Value) (σ47 : Go.AI.AS) ↦
                                                      Go.AI.tI Go.IntKind.i64 v46 fun (n48 : Int) ↦
                                                        Go.AI.put1 σ47 (Go.Addr.mk i18 ((0 : Nat) + (3 : Nat)) Option.none) (Go.Value.int Go.IntKind.i64 n48) fun (σ49 : Go.AI.AS) ↦
                                                          Go.AI.pSome b17 fun (a50 : Go.Addr) ↦
                                                            Go.AI.ldc σ49 (Go.Addr.mk (Go.Addr.block a50) (Go.Addr.off a50 + (1 : Nat)) Option.none) fun (v51 : Go.Value) ↦
                                                              Go.AI.tL (1 : Nat) v51 fun (s52 : Go.AI.Sl) ↦
                                                                Go.AI.newAt σ49 (Go.AI.AObj.row Go.AI.RK.rw [Go.Value.pointer (Option.some (Go.Addr.mk i18 (0 : Nat) Option.none))]) fun (i53 : Nat) (σ54 : Go.AI.AS) ↦
                                                                  Go.AI.lds σ54 (Go.Addr.mk i53 (0 : Nat) Option.none) (1 : Nat) fun (l55 : List Go.Value) ↦
                                                                    Go.AI.appendTo σ54 (1 : Nat) (8 : Nat) (Go.AI.Sl.mk (Go.AI.Sl.a s52) (Go.AI.Sl.n s52)) l55 (1 : Nat) fun (s56 : Go.AI.Sl) (σ57 : Go.AI.AS) ↦
                                                                      Go.AI.pSome b17 fun (a58 : Go.Addr) ↦
                                                                        Go.AI.put1 σ57 (Go.Addr.mk (Go.Addr.block a58) (Go.Addr.off a58 + (1 : Nat)) Option.none)
                                                                          (Go.Value.slice (Go.AI.Sl.a s56) (Go.AI.Sl.n s56) (1 : Nat)) fun (σ59 : Go.AI.AS) ↦
                                                                          T (28 : Nat)
                                                                            [Go.Value.pointer (Option.some (Go.Addr.mk s (0 : Nat) Option.none)), Go.Value.pointer (Option.some (Go.Addr.mk i18 (0 : Nat) Option.none))]
                                                                            σ59 fun (v60 : Go.Value) (σ61 : Go.AI.AS) ↦
                                                                            Go.AI.tI Go.IntKind.i64 v60 fun (n62 : Int) ↦
                                                                              K (Go.Value.tuple (Array.mk [Go.Value.int Go.IntKind.i64 n62, Go.Value.int Go.IntKind.i64 (0 : Int)])) σ61)
                                                False))
                      (Go.AI.ldc σ1 (Go.Addr.mk s ((0 : Nat) + (2 : Nat)) Option.none) fun (v63 : Go.Value) ↦
                        Go.AI.tM v63 fun (b64 : Option Nat) ↦
                          Go.AI.mget σ1 Go.TypeDesc.string b64 (Go.Value.string name) fun (o65 : Option Go.Value) ↦
                            Go.AI.tP (Option.getD o65 (Go.Value.pointer Option.none)) fun (b66 : Option Go.Addr) ↦
                              Go.AI.newAt σ1
                                (Go.AI.AObj.row Go.AI.RK.plain
                                  [Go.Value.iface (78 : Nat) (Go.Value.agg (Array.mk [Go.Value.pointer b66])), Go.Value.pointer b66, Go.Value.int Go.IntKind.i64 (5 : Int), Go.Value.int Go.IntKind.i64 (0 : Int),
                                    Go.Value.int Go.IntKind.u32 (0 : Int), Go.Value.int Go.IntKind.u32 (0 : Int)])
                                fun (i67 : Nat) (σ68 : Go.AI.AS) ↦
                                Go.AI.bmatch w
                                  (Go.AI.put1 σ68 (Go.Addr.mk i67 (0 : Nat) Option.none) (Go.Value.iface (83 : Nat) (Go.Value.agg (Array.mk [Go.Value.pointer b66]))) fun (σ69 : Go.AI.AS) ↦
                                    Go.AI.ldc σ69 (Go.Addr.mk i67 (0 : Nat) Option.none) fun (v70 : Go.Value) ↦
                                      Go.AI.tIf v70
                                        (fun (t71 : Nat) (u72 : Go.Value) ↦
                                          Go.AI.pSome (Go.AI.methodOf Go.Proofs.Try.prog t71 "grotto/shelf.size") fun (f73 : Go.FuncId) ↦
                                            T f73 [u72] σ69 fun (v74 : Go.Value) (σ75 : Go.AI.AS) ↦
                                              Go.AI.tI Go.IntKind.i64 v74 fun (n76 : Int) ↦
                                                Go.AI.put1 σ75 (Go.Addr.mk i67 ((0 : Nat) + (3 : Nat)) Option.none) (Go.Value.int Go.IntKind.i64 n76) fun (σ77 : Go.AI.AS) ↦
                                                  Go.AI.pSome b66 fun (a78 : Go.Addr) ↦
                                                    Go.AI.ldc σ77 (Go.Addr.mk (Go.Addr.block a78) (Go.Addr.off a78 + (1 : Nat)) Option.none) fun (v79 : Go.Value) ↦
                                                      Go.AI.tL (1 : Nat) v79 fun (s80 : Go.AI.Sl) ↦
                                                        Go.AI.newAt σ77 (Go.AI.AObj.row Go.AI.RK.rw [Go.Value.pointer (Option.some (Go.Addr.mk i67 (0 : Nat) Option.none))]) fun (i81 : Nat) (σ82 : Go.AI.AS) ↦
                                                          Go.AI.lds σ82 (Go.Addr.mk i81 (0 : Nat) Option.none) (1 : Nat) fun (l83 : List Go.Value) ↦
                                                            Go.AI.appendTo σ82 (1 : Nat) (8 : Nat) (Go.AI.Sl.mk (Go.AI.Sl.a s80) (Go.AI.Sl.n s80)) l83 (1 : Nat) fun (s84 : Go.AI.Sl) (σ85 : Go.AI.AS) ↦
                                                              Go.AI.pSome b66 fun (a86 : Go.Addr) ↦
                                                                Go.AI.put1 σ85 (Go.Addr.mk (Go.Addr.block a86) (Go.Addr.off a86 + (1 : Nat)) Option.none) (Go.Value.slice (Go.AI.Sl.a s84) (Go.AI.Sl.n s84) (1 : Nat))
                                                                  fun (σ87 : Go.AI.AS) ↦
                                                                  T (28 : Nat)
                                                                    [Go.Value.pointer (Option.some (Go.Addr.mk s (0 : Nat) Option.none)), Go.Value.pointer (Option.some (Go.Addr.mk i67 (0 : Nat) Option.none))] σ87
                                                                    fun (v88 : Go.Value) (σ89 : Go.AI.AS) ↦
                                                                    Go.AI.tI Go.IntKind.i64 v88 fun (n90 : Int) ↦
                                                                      K (Go.Value.tuple (Array.mk [Go.Value.int Go.IntKind.i64 n90, Go.Value.int Go.IntKind.i64 (0 : Int)])) σ89)
                                        False)
                                  (Go.AI.ldc σ68 (Go.Addr.mk i67 (0 : Nat) Option.none) fun (v91 : Go.Value) ↦
                                    Go.AI.tIf v91
                                      (fun (t92 : Nat) (u93 : Go.Value) ↦
                                        Go.AI.pSome (Go.AI.methodOf Go.Proofs.Try.prog t92 "grotto/shelf.size") fun (f94 : Go.FuncId) ↦
                                          T f94 [u93] σ68 fun (v95 : Go.Value) (σ96 : Go.AI.AS) ↦
                                            Go.AI.tI Go.IntKind.i64 v95 fun (n97 : Int) ↦
                                              Go.AI.put1 σ96 (Go.Addr.mk i67 ((0 : Nat) + (3 : Nat)) Option.none) (Go.Value.int Go.IntKind.i64 n97) fun (σ98 : Go.AI.AS) ↦
                                                Go.AI.pSome b66 fun (a99 : Go.Addr) ↦
                                                  Go.AI.ldc σ98 (Go.Addr.mk (Go.Addr.block a99) (Go.Addr.off a99 + (1 : Nat)) Option.none) fun (v100 : Go.Value) ↦
                                                    Go.AI.tL (1 : Nat) v100 fun (s101 : Go.AI.Sl) ↦
                                                      Go.AI.newAt σ98 (Go.AI.AObj.row Go.AI.RK.rw [Go.Value.pointer (Option.some (Go.Addr.mk i67 (0 : Nat) Option.none))]) fun (i102 : Nat) (σ103 : Go.AI.AS) ↦
                                                        Go.AI.lds σ103 (Go.Addr.mk i102 (0 : Nat) Option.none) (1 : Nat) fun (l104 : List Go.Value) ↦
                                                          Go.AI.appendTo σ103 (1 : Nat) (8 : Nat) (Go.AI.Sl.mk (Go.AI.Sl.a s101) (Go.AI.Sl.n s101)) l104 (1 : Nat) fun (s105 : Go.AI.Sl) (σ106 : Go.AI.AS) ↦
                                                            Go.AI.pSome b66 fun (a107 : Go.Addr) ↦
                                                              Go.AI.put1 σ106 (Go.Addr.mk (Go.Addr.block a107) (Go.Addr.off a107 + (1 : Nat)) Option.none) (Go.Value.slice (Go.AI.Sl.a s105) (Go.AI.Sl.n s105) (1 : Nat))
                                                                fun (σ108 : Go.AI.AS) ↦
                                                                T (28 : Nat)
                                                                  [Go.Value.pointer (Option.some (Go.Addr.mk s (0 : Nat) Option.none)), Go.Value.pointer (Option.some (Go.Addr.mk i67 (0 : Nat) Option.none))] σ108
                                                                  fun (v109 : Go.Value) (σ110 : Go.AI.AS) ↦
                                                                  Go.AI.tI Go.IntKind.i64 v109 fun (n111 : Int) ↦
                                                                    K (Go.Value.tuple (Array.mk [Go.Value.int Go.IntKind.i64 n111, Go.Value.int Go.IntKind.i64 (0 : Int)])) σ110)
                                      False))) := by
  intros
  kernel_rfl

theorem s27w : ∀ (T : Go.AI.Ct) (s : Nat) (name : ByteArray) (σ : Go.AI.AS) (K : Go.Value → Go.AI.AS → Prop),
  Go.AI.fw Go.Proofs.Try.prog Go.AI.hintsS T (27 : Nat) [Go.Value.pointer (Option.some (Go.Addr.mk s (0 : Nat) Option.none)), Go.Value.string name, Go.Value.int Go.IntKind.i64 (1 : Int)] σ K =
    Go.AI.ldc σ (Go.Addr.mk s ((0 : Nat) + (2 : Nat)) Option.none) fun (v0 : Go.Value) ↦
      Go.AI.tM v0 fun (b1 : Option Nat) ↦
        Go.AI.mget σ Go.TypeDesc.string b1 (Go.Value.string name) fun (o2 : Option Go.Value) ↦
          Go.AI.tP (Option.getD o2 (Go.Value.pointer Option.none)) fun (b3 : Option Go.Addr) ↦
            T (35 : Nat) [Go.Value.string name] σ fun (v4 : Go.Value) (σ5 : Go.AI.AS) ↦
              Go.AI.tB v4 fun (b6 : Bool) ↦
                Go.AI.bmatch (!b6) (K (Go.Value.int Go.IntKind.i64 (1 : Int)) σ5)
                  (Go.AI.ldc σ5 (Go.Addr.mk s ((0 : Nat) + (3 : Nat)) Option.none) fun (v7 : Go.Value) ↦
                    Go.AI.tM v7 fun (b8 : Option Nat) ↦
                      Go.AI.mlen σ5 b8 fun (n9 : Int) ↦
                        Go.AI.bmatch (n9 == (64 : Int)) (K (Go.Value.int Go.IntKind.i64 (4 : Int)) σ5)
                          (Go.AI.ptrEq σ5 b3 Option.none fun (r10 : Bool) ↦
                            Go.AI.bmatch r10
                              (Go.AI.ptrEq σ5 b3 Option.none fun (r11 : Bool) ↦
                                Go.AI.bmatch r11
                                  (Go.AI.ldc σ5 (Go.Addr.mk s ((0 : Nat) + (2 : Nat)) Option.none) fun (v12 : Go.Value) ↦
                                    Go.AI.tM v12 fun (b13 : Option Nat) ↦
                                      Go.AI.mlen σ5 b13 fun (n14 : Int) ↦
                                        Go.AI.bmatch (n14 == (64 : Int)) (K (Go.Value.int Go.IntKind.i64 (4 : Int)) σ5)
                                          (Go.AI.ptrEq σ5 b3 Option.none fun (r15 : Bool) ↦
                                            Go.AI.bmatch r15 (K (Go.Value.int Go.IntKind.i64 (0 : Int)) σ5)
                                              (Go.AI.pSome b3 fun (a16 : Go.Addr) ↦
                                                Go.AI.ldc σ5 (Go.Addr.mk (Go.Addr.block a16) (Go.Addr.off a16 + (1 : Nat)) Option.none) fun (v17 : Go.Value) ↦
                                                  Go.AI.tL (1 : Nat) v17 fun (s18 : Go.AI.Sl) ↦
                                                    Go.AI.ALoop (Go.AI.fl Go.Proofs.Try.prog Go.AI.hintsS T (27 : Nat) [Bool.true, Bool.true, Bool.true, Bool.false, Bool.true, Bool.false] [] K)
                                                      [((2 : Nat), Option.some (Go.Value.int Go.IntKind.i64 (1 : Int))), ((63 : Nat), Option.some (Go.Value.slice (Go.AI.Sl.a s18) (Go.AI.Sl.n s18) (1 : Nat))),
                                                        ((64 : Nat), Option.some (Go.Value.int Go.IntKind.i64 (↑(Go.AI.Sl.n s18) : Int))), ((65 : Nat), Option.some (Go.Value.int Go.IntKind.i64 (0 : Int)))]
                                                      σ5)))
                                  (Go.AI.ptrEq σ5 b3 Option.none fun (r19 : Bool) ↦
                                    Go.AI.bmatch r19 (K (Go.Value.int Go.IntKind.i64 (0 : Int)) σ5)
                                      (Go.AI.pSome b3 fun (a20 : Go.Addr) ↦
                                        Go.AI.ldc σ5 (Go.Addr.mk (Go.Addr.block a20) (Go.Addr.off a20 + (1 : Nat)) Option.none) fun (v21 : Go.Value) ↦
                                          Go.AI.tL (1 : Nat) v21 fun (s22 : Go.AI.Sl) ↦
                                            Go.AI.ALoop (Go.AI.fl Go.Proofs.Try.prog Go.AI.hintsS T (27 : Nat) [Bool.true, Bool.true, Bool.true, Bool.false, Bool.true, Bool.false] [] K)
                                              [((2 : Nat), Option.some (Go.Value.int Go.IntKind.i64 (1 : Int))), ((63 : Nat), Option.some (Go.Value.slice (Go.AI.Sl.a s22) (Go.AI.Sl.n s22) (1 : Nat))),
                                                ((64 : Nat), Option.some (Go.Value.int Go.IntKind.i64 (↑(Go.AI.Sl.n s22) : Int))), ((65 : Nat), Option.some (Go.Value.int Go.IntKind.i64 (0 : Int)))]
                                              σ5)))
                              (Go.AI.ptrEq σ5 b3 Option.none fun (r23 : Bool) ↦
                                Go.AI.bmatch r23
                                  (Go.AI.ldc σ5 (Go.Addr.mk s ((0 : Nat) + (2 : Nat)) Option.none) fun (v24 : Go.Value) ↦
                                    Go.AI.tM v24 fun (b25 : Option Nat) ↦
                                      Go.AI.mlen σ5 b25 fun (n26 : Int) ↦
                                        Go.AI.bmatch (n26 == (64 : Int)) (K (Go.Value.int Go.IntKind.i64 (4 : Int)) σ5)
                                          (Go.AI.ptrEq σ5 b3 Option.none fun (r27 : Bool) ↦
                                            Go.AI.bmatch r27 (K (Go.Value.int Go.IntKind.i64 (0 : Int)) σ5)
                                              (Go.AI.pSome b3 fun (a28 : Go.Addr) ↦
                                                Go.AI.ldc σ5 (Go.Addr.mk (Go.Addr.block a28) (Go.Addr.off a28 + (1 : Nat)) Option.none) fun (v29 : Go.Value) ↦
                                                  Go.AI.tL (1 : Nat) v29 fun (s30 : Go.AI.Sl) ↦
                                                    Go.AI.ALoop (Go.AI.fl Go.Proofs.Try.prog Go.AI.hintsS T (27 : Nat) [Bool.true, Bool.true, Bool.true, Bool.false, Bool.true, Bool.false] [] K)
                                                      [((2 : Nat), Option.some (Go.Value.int Go.IntKind.i64 (1 : Int))), ((63 : Nat), Option.some (Go.Value.slice (Go.AI.Sl.a s30) (Go.AI.Sl.n s30) (1 : Nat))),
                                                        ((64 : Nat), Option.some (Go.Value.int Go.IntKind.i64 (↑(Go.AI.Sl.n s30) : Int))), ((65 : Nat), Option.some (Go.Value.int Go.IntKind.i64 (0 : Int)))]
                                                      σ5)))
                                  (Go.AI.ptrEq σ5 b3 Option.none fun (r31 : Bool) ↦
                                    Go.AI.bmatch r31 (K (Go.Value.int Go.IntKind.i64 (0 : Int)) σ5)
                                      (Go.AI.pSome b3 fun (a32 : Go.Addr) ↦
                                        Go.AI.ldc σ5 (Go.Addr.mk (Go.Addr.block a32) (Go.Addr.off a32 + (1 : Nat)) Option.none) fun (v33 : Go.Value) ↦
                                          Go.AI.tL (1 : Nat) v33 fun (s34 : Go.AI.Sl) ↦
                                            Go.AI.ALoop (Go.AI.fl Go.Proofs.Try.prog Go.AI.hintsS T (27 : Nat) [Bool.true, Bool.true, Bool.true, Bool.false, Bool.true, Bool.false] [] K)
                                              [((2 : Nat), Option.some (Go.Value.int Go.IntKind.i64 (1 : Int))), ((63 : Nat), Option.some (Go.Value.slice (Go.AI.Sl.a s34) (Go.AI.Sl.n s34) (1 : Nat))),
                                                ((64 : Nat), Option.some (Go.Value.int Go.IntKind.i64 (↑(Go.AI.Sl.n s34) : Int))), ((65 : Nat), Option.some (Go.Value.int Go.IntKind.i64 (0 : Int)))]
                                              σ5))))) := by
  intros
  kernel_rfl

theorem s27r : ∀ (T : Go.AI.Ct) (s : Nat) (name : ByteArray) (σ : Go.AI.AS) (K : Go.Value → Go.AI.AS → Prop),
  Go.AI.fw Go.Proofs.Try.prog Go.AI.hintsS T (27 : Nat) [Go.Value.pointer (Option.some (Go.Addr.mk s (0 : Nat) Option.none)), Go.Value.string name, Go.Value.int Go.IntKind.i64 (2 : Int)] σ K =
    Go.AI.ldc σ (Go.Addr.mk s ((0 : Nat) + (2 : Nat)) Option.none) fun (v0 : Go.Value) ↦
      Go.AI.tM v0 fun (b1 : Option Nat) ↦
        Go.AI.mget σ Go.TypeDesc.string b1 (Go.Value.string name) fun (o2 : Option Go.Value) ↦
          Go.AI.tP (Option.getD o2 (Go.Value.pointer Option.none)) fun (b3 : Option Go.Addr) ↦
            T (35 : Nat) [Go.Value.string name] σ fun (v4 : Go.Value) (σ5 : Go.AI.AS) ↦
              Go.AI.tB v4 fun (b6 : Bool) ↦
                Go.AI.bmatch (!b6) (K (Go.Value.int Go.IntKind.i64 (1 : Int)) σ5)
                  (Go.AI.ldc σ5 (Go.Addr.mk s ((0 : Nat) + (3 : Nat)) Option.none) fun (v7 : Go.Value) ↦
                    Go.AI.tM v7 fun (b8 : Option Nat) ↦
                      Go.AI.mlen σ5 b8 fun (n9 : Int) ↦
                        Go.AI.bmatch (n9 == (64 : Int)) (K (Go.Value.int Go.IntKind.i64 (4 : Int)) σ5)
                          (Go.AI.ptrEq σ5 b3 Option.none fun (r10 : Bool) ↦
                            Go.AI.bmatch r10 (K (Go.Value.int Go.IntKind.i64 (5 : Int)) σ5)
                              (Go.AI.ptrEq σ5 b3 Option.none fun (r11 : Bool) ↦
                                Go.AI.bmatch r11
                                  (Go.AI.ldc σ5 (Go.Addr.mk s ((0 : Nat) + (2 : Nat)) Option.none) fun (v12 : Go.Value) ↦
                                    Go.AI.tM v12 fun (b13 : Option Nat) ↦
                                      Go.AI.mlen σ5 b13 fun (n14 : Int) ↦
                                        Go.AI.bmatch (n14 == (64 : Int)) (K (Go.Value.int Go.IntKind.i64 (4 : Int)) σ5)
                                          (Go.AI.ptrEq σ5 b3 Option.none fun (r15 : Bool) ↦
                                            Go.AI.bmatch r15 (K (Go.Value.int Go.IntKind.i64 (0 : Int)) σ5)
                                              (Go.AI.pSome b3 fun (a16 : Go.Addr) ↦
                                                Go.AI.ldc σ5 (Go.Addr.mk (Go.Addr.block a16) (Go.Addr.off a16 + (1 : Nat)) Option.none) fun (v17 : Go.Value) ↦
                                                  Go.AI.tL (1 : Nat) v17 fun (s18 : Go.AI.Sl) ↦
                                                    Go.AI.ALoop (Go.AI.fl Go.Proofs.Try.prog Go.AI.hintsS T (27 : Nat) [Bool.true, Bool.true, Bool.true, Bool.false, Bool.true, Bool.false] [] K)
                                                      [((2 : Nat), Option.some (Go.Value.int Go.IntKind.i64 (2 : Int))), ((63 : Nat), Option.some (Go.Value.slice (Go.AI.Sl.a s18) (Go.AI.Sl.n s18) (1 : Nat))),
                                                        ((64 : Nat), Option.some (Go.Value.int Go.IntKind.i64 (↑(Go.AI.Sl.n s18) : Int))), ((65 : Nat), Option.some (Go.Value.int Go.IntKind.i64 (0 : Int)))]
                                                      σ5)))
                                  (Go.AI.ptrEq σ5 b3 Option.none fun (r19 : Bool) ↦
                                    Go.AI.bmatch r19 (K (Go.Value.int Go.IntKind.i64 (0 : Int)) σ5)
                                      (Go.AI.pSome b3 fun (a20 : Go.Addr) ↦
                                        Go.AI.ldc σ5 (Go.Addr.mk (Go.Addr.block a20) (Go.Addr.off a20 + (1 : Nat)) Option.none) fun (v21 : Go.Value) ↦
                                          Go.AI.tL (1 : Nat) v21 fun (s22 : Go.AI.Sl) ↦
                                            Go.AI.ALoop (Go.AI.fl Go.Proofs.Try.prog Go.AI.hintsS T (27 : Nat) [Bool.true, Bool.true, Bool.true, Bool.false, Bool.true, Bool.false] [] K)
                                              [((2 : Nat), Option.some (Go.Value.int Go.IntKind.i64 (2 : Int))), ((63 : Nat), Option.some (Go.Value.slice (Go.AI.Sl.a s22) (Go.AI.Sl.n s22) (1 : Nat))),
                                                ((64 : Nat), Option.some (Go.Value.int Go.IntKind.i64 (↑(Go.AI.Sl.n s22) : Int))), ((65 : Nat), Option.some (Go.Value.int Go.IntKind.i64 (0 : Int)))]
                                              σ5))))) := by
  intros
  kernel_rfl

theorem s27b : ∀ (T : Go.AI.Ct) (s : Nat) (name : ByteArray) (σ : Go.AI.AS) (K : Go.Value → Go.AI.AS → Prop),
  Go.AI.fw Go.Proofs.Try.prog Go.AI.hintsS T (27 : Nat) [Go.Value.pointer (Option.some (Go.Addr.mk s (0 : Nat) Option.none)), Go.Value.string name, Go.Value.int Go.IntKind.i64 (3 : Int)] σ K =
    Go.AI.ldc σ (Go.Addr.mk s ((0 : Nat) + (2 : Nat)) Option.none) fun (v0 : Go.Value) ↦
      Go.AI.tM v0 fun (b1 : Option Nat) ↦
        Go.AI.mget σ Go.TypeDesc.string b1 (Go.Value.string name) fun (o2 : Option Go.Value) ↦
          Go.AI.tP (Option.getD o2 (Go.Value.pointer Option.none)) fun (b3 : Option Go.Addr) ↦
            T (35 : Nat) [Go.Value.string name] σ fun (v4 : Go.Value) (σ5 : Go.AI.AS) ↦
              Go.AI.tB v4 fun (b6 : Bool) ↦
                Go.AI.bmatch (!b6) (K (Go.Value.int Go.IntKind.i64 (1 : Int)) σ5)
                  (Go.AI.ldc σ5 (Go.Addr.mk s ((0 : Nat) + (3 : Nat)) Option.none) fun (v7 : Go.Value) ↦
                    Go.AI.tM v7 fun (b8 : Option Nat) ↦
                      Go.AI.mlen σ5 b8 fun (n9 : Int) ↦
                        Go.AI.bmatch (n9 == (64 : Int)) (K (Go.Value.int Go.IntKind.i64 (4 : Int)) σ5)
                          (Go.AI.ptrEq σ5 b3 Option.none fun (r10 : Bool) ↦
                            Go.AI.bmatch r10
                              (Go.AI.ptrEq σ5 b3 Option.none fun (r11 : Bool) ↦
                                Go.AI.bmatch r11
                                  (Go.AI.ldc σ5 (Go.Addr.mk s ((0 : Nat) + (2 : Nat)) Option.none) fun (v12 : Go.Value) ↦
                                    Go.AI.tM v12 fun (b13 : Option Nat) ↦
                                      Go.AI.mlen σ5 b13 fun (n14 : Int) ↦
                                        Go.AI.bmatch (n14 == (64 : Int)) (K (Go.Value.int Go.IntKind.i64 (4 : Int)) σ5)
                                          (Go.AI.ptrEq σ5 b3 Option.none fun (r15 : Bool) ↦
                                            Go.AI.bmatch r15 (K (Go.Value.int Go.IntKind.i64 (0 : Int)) σ5)
                                              (Go.AI.pSome b3 fun (a16 : Go.Addr) ↦
                                                Go.AI.ldc σ5 (Go.Addr.mk (Go.Addr.block a16) (Go.Addr.off a16 + (1 : Nat)) Option.none) fun (v17 : Go.Value) ↦
                                                  Go.AI.tL (1 : Nat) v17 fun (s18 : Go.AI.Sl) ↦
                                                    Go.AI.ALoop (Go.AI.fl Go.Proofs.Try.prog Go.AI.hintsS T (27 : Nat) [Bool.true, Bool.true, Bool.true, Bool.false, Bool.true, Bool.false] [] K)
                                                      [((2 : Nat), Option.some (Go.Value.int Go.IntKind.i64 (3 : Int))), ((63 : Nat), Option.some (Go.Value.slice (Go.AI.Sl.a s18) (Go.AI.Sl.n s18) (1 : Nat))),
                                                        ((64 : Nat), Option.some (Go.Value.int Go.IntKind.i64 (↑(Go.AI.Sl.n s18) : Int))), ((65 : Nat), Option.some (Go.Value.int Go.IntKind.i64 (0 : Int)))]
                                                      σ5)))
                                  (Go.AI.ptrEq σ5 b3 Option.none fun (r19 : Bool) ↦
                                    Go.AI.bmatch r19 (K (Go.Value.int Go.IntKind.i64 (0 : Int)) σ5)
                                      (Go.AI.pSome b3 fun (a20 : Go.Addr) ↦
                                        Go.AI.ldc σ5 (Go.Addr.mk (Go.Addr.block a20) (Go.Addr.off a20 + (1 : Nat)) Option.none) fun (v21 : Go.Value) ↦
                                          Go.AI.tL (1 : Nat) v21 fun (s22 : Go.AI.Sl) ↦
                                            Go.AI.ALoop (Go.AI.fl Go.Proofs.Try.prog Go.AI.hintsS T (27 : Nat) [Bool.true, Bool.true, Bool.true, Bool.false, Bool.true, Bool.false] [] K)
                                              [((2 : Nat), Option.some (Go.Value.int Go.IntKind.i64 (3 : Int))), ((63 : Nat), Option.some (Go.Value.slice (Go.AI.Sl.a s22) (Go.AI.Sl.n s22) (1 : Nat))),
                                                ((64 : Nat), Option.some (Go.Value.int Go.IntKind.i64 (↑(Go.AI.Sl.n s22) : Int))), ((65 : Nat), Option.some (Go.Value.int Go.IntKind.i64 (0 : Int)))]
                                              σ5)))
                              (Go.AI.ptrEq σ5 b3 Option.none fun (r23 : Bool) ↦
                                Go.AI.bmatch r23
                                  (Go.AI.ldc σ5 (Go.Addr.mk s ((0 : Nat) + (2 : Nat)) Option.none) fun (v24 : Go.Value) ↦
                                    Go.AI.tM v24 fun (b25 : Option Nat) ↦
                                      Go.AI.mlen σ5 b25 fun (n26 : Int) ↦
                                        Go.AI.bmatch (n26 == (64 : Int)) (K (Go.Value.int Go.IntKind.i64 (4 : Int)) σ5)
                                          (Go.AI.ptrEq σ5 b3 Option.none fun (r27 : Bool) ↦
                                            Go.AI.bmatch r27 (K (Go.Value.int Go.IntKind.i64 (0 : Int)) σ5)
                                              (Go.AI.pSome b3 fun (a28 : Go.Addr) ↦
                                                Go.AI.ldc σ5 (Go.Addr.mk (Go.Addr.block a28) (Go.Addr.off a28 + (1 : Nat)) Option.none) fun (v29 : Go.Value) ↦
                                                  Go.AI.tL (1 : Nat) v29 fun (s30 : Go.AI.Sl) ↦
                                                    Go.AI.ALoop (Go.AI.fl Go.Proofs.Try.prog Go.AI.hintsS T (27 : Nat) [Bool.true, Bool.true, Bool.true, Bool.false, Bool.true, Bool.false] [] K)
                                                      [((2 : Nat), Option.some (Go.Value.int Go.IntKind.i64 (3 : Int))), ((63 : Nat), Option.some (Go.Value.slice (Go.AI.Sl.a s30) (Go.AI.Sl.n s30) (1 : Nat))),
                                                        ((64 : Nat), Option.some (Go.Value.int Go.IntKind.i64 (↑(Go.AI.Sl.n s30) : Int))), ((65 : Nat), Option.some (Go.Value.int Go.IntKind.i64 (0 : Int)))]
                                                      σ5)))
                                  (Go.AI.ptrEq σ5 b3 Option.none fun (r31 : Bool) ↦
                                    Go.AI.bmatch r31 (K (Go.Value.int Go.IntKind.i64 (0 : Int)) σ5)
                                      (Go.AI.pSome b3 fun (a32 : Go.Addr) ↦
                                        Go.AI.ldc σ5 (Go.Addr.mk (Go.Addr.block a32) (Go.Addr.off a32 + (1 : Nat)) Option.none) fun (v33 : Go.Value) ↦
                                          Go.AI.tL (1 : Nat) v33 fun (s34 : Go.AI.Sl) ↦
                                            Go.AI.ALoop (Go.AI.fl Go.Proofs.Try.prog Go.AI.hintsS T (27 : Nat) [Bool.true, Bool.true, Bool.true, Bool.false, Bool.true, Bool.false] [] K)
                                              [((2 : Nat), Option.some (Go.Value.int Go.IntKind.i64 (3 : Int))), ((63 : Nat), Option.some (Go.Value.slice (Go.AI.Sl.a s34) (Go.AI.Sl.n s34) (1 : Nat))),
                                                ((64 : Nat), Option.some (Go.Value.int Go.IntKind.i64 (↑(Go.AI.Sl.n s34) : Int))), ((65 : Nat), Option.some (Go.Value.int Go.IntKind.i64 (0 : Int)))]
                                              σ5))))) := by
  intros
  kernel_rfl

theorem s27a : ∀ (T : Go.AI.Ct) (s : Nat) (name : ByteArray) (σ : Go.AI.AS) (K : Go.Value → Go.AI.AS → Prop),
  Go.AI.fw Go.Proofs.Try.prog Go.AI.hintsS T (27 : Nat) [Go.Value.pointer (Option.some (Go.Addr.mk s (0 : Nat) Option.none)), Go.Value.string name, Go.Value.int Go.IntKind.i64 (5 : Int)] σ K =
    Go.AI.ldc σ (Go.Addr.mk s ((0 : Nat) + (2 : Nat)) Option.none) fun (v0 : Go.Value) ↦
      Go.AI.tM v0 fun (b1 : Option Nat) ↦
        Go.AI.mget σ Go.TypeDesc.string b1 (Go.Value.string name) fun (o2 : Option Go.Value) ↦
          Go.AI.tP (Option.getD o2 (Go.Value.pointer Option.none)) fun (b3 : Option Go.Addr) ↦
            T (35 : Nat) [Go.Value.string name] σ fun (v4 : Go.Value) (σ5 : Go.AI.AS) ↦
              Go.AI.tB v4 fun (b6 : Bool) ↦
                Go.AI.bmatch (!b6) (K (Go.Value.int Go.IntKind.i64 (1 : Int)) σ5)
                  (Go.AI.ldc σ5 (Go.Addr.mk s ((0 : Nat) + (3 : Nat)) Option.none) fun (v7 : Go.Value) ↦
                    Go.AI.tM v7 fun (b8 : Option Nat) ↦
                      Go.AI.mlen σ5 b8 fun (n9 : Int) ↦
                        Go.AI.bmatch (n9 == (64 : Int)) (K (Go.Value.int Go.IntKind.i64 (4 : Int)) σ5)
                          (Go.AI.ptrEq σ5 b3 Option.none fun (r10 : Bool) ↦
                            Go.AI.bmatch r10
                              (Go.AI.ptrEq σ5 b3 Option.none fun (r11 : Bool) ↦
                                Go.AI.bmatch r11
                                  (Go.AI.ldc σ5 (Go.Addr.mk s ((0 : Nat) + (2 : Nat)) Option.none) fun (v12 : Go.Value) ↦
                                    Go.AI.tM v12 fun (b13 : Option Nat) ↦
                                      Go.AI.mlen σ5 b13 fun (n14 : Int) ↦
                                        Go.AI.bmatch (n14 == (64 : Int)) (K (Go.Value.int Go.IntKind.i64 (4 : Int)) σ5)
                                          (Go.AI.ptrEq σ5 b3 Option.none fun (r15 : Bool) ↦
                                            Go.AI.bmatch r15 (K (Go.Value.int Go.IntKind.i64 (0 : Int)) σ5)
                                              (Go.AI.pSome b3 fun (a16 : Go.Addr) ↦
                                                Go.AI.ldc σ5 (Go.Addr.mk (Go.Addr.block a16) (Go.Addr.off a16 + (1 : Nat)) Option.none) fun (v17 : Go.Value) ↦
                                                  Go.AI.tL (1 : Nat) v17 fun (s18 : Go.AI.Sl) ↦
                                                    Go.AI.ALoop (Go.AI.fl Go.Proofs.Try.prog Go.AI.hintsS T (27 : Nat) [Bool.true, Bool.true, Bool.true, Bool.false, Bool.true, Bool.false] [] K)
                                                      [((2 : Nat), Option.some (Go.Value.int Go.IntKind.i64 (5 : Int))), ((63 : Nat), Option.some (Go.Value.slice (Go.AI.Sl.a s18) (Go.AI.Sl.n s18) (1 : Nat))),
                                                        ((64 : Nat), Option.some (Go.Value.int Go.IntKind.i64 (↑(Go.AI.Sl.n s18) : Int))), ((65 : Nat), Option.some (Go.Value.int Go.IntKind.i64 (0 : Int)))]
                                                      σ5)))
                                  (Go.AI.ptrEq σ5 b3 Option.none fun (r19 : Bool) ↦
                                    Go.AI.bmatch r19 (K (Go.Value.int Go.IntKind.i64 (0 : Int)) σ5)
                                      (Go.AI.pSome b3 fun (a20 : Go.Addr) ↦
                                        Go.AI.ldc σ5 (Go.Addr.mk (Go.Addr.block a20) (Go.Addr.off a20 + (1 : Nat)) Option.none) fun (v21 : Go.Value) ↦
                                          Go.AI.tL (1 : Nat) v21 fun (s22 : Go.AI.Sl) ↦
                                            Go.AI.ALoop (Go.AI.fl Go.Proofs.Try.prog Go.AI.hintsS T (27 : Nat) [Bool.true, Bool.true, Bool.true, Bool.false, Bool.true, Bool.false] [] K)
                                              [((2 : Nat), Option.some (Go.Value.int Go.IntKind.i64 (5 : Int))), ((63 : Nat), Option.some (Go.Value.slice (Go.AI.Sl.a s22) (Go.AI.Sl.n s22) (1 : Nat))),
                                                ((64 : Nat), Option.some (Go.Value.int Go.IntKind.i64 (↑(Go.AI.Sl.n s22) : Int))), ((65 : Nat), Option.some (Go.Value.int Go.IntKind.i64 (0 : Int)))]
                                              σ5)))
                              (Go.AI.ptrEq σ5 b3 Option.none fun (r23 : Bool) ↦
                                Go.AI.bmatch r23
                                  (Go.AI.ldc σ5 (Go.Addr.mk s ((0 : Nat) + (2 : Nat)) Option.none) fun (v24 : Go.Value) ↦
                                    Go.AI.tM v24 fun (b25 : Option Nat) ↦
                                      Go.AI.mlen σ5 b25 fun (n26 : Int) ↦
                                        Go.AI.bmatch (n26 == (64 : Int)) (K (Go.Value.int Go.IntKind.i64 (4 : Int)) σ5)
                                          (Go.AI.ptrEq σ5 b3 Option.none fun (r27 : Bool) ↦
                                            Go.AI.bmatch r27 (K (Go.Value.int Go.IntKind.i64 (0 : Int)) σ5)
                                              (Go.AI.pSome b3 fun (a28 : Go.Addr) ↦
                                                Go.AI.ldc σ5 (Go.Addr.mk (Go.Addr.block a28) (Go.Addr.off a28 + (1 : Nat)) Option.none) fun (v29 : Go.Value) ↦
                                                  Go.AI.tL (1 : Nat) v29 fun (s30 : Go.AI.Sl) ↦
                                                    Go.AI.ALoop (Go.AI.fl Go.Proofs.Try.prog Go.AI.hintsS T (27 : Nat) [Bool.true, Bool.true, Bool.true, Bool.false, Bool.true, Bool.false] [] K)
                                                      [((2 : Nat), Option.some (Go.Value.int Go.IntKind.i64 (5 : Int))), ((63 : Nat), Option.some (Go.Value.slice (Go.AI.Sl.a s30) (Go.AI.Sl.n s30) (1 : Nat))),
                                                        ((64 : Nat), Option.some (Go.Value.int Go.IntKind.i64 (↑(Go.AI.Sl.n s30) : Int))), ((65 : Nat), Option.some (Go.Value.int Go.IntKind.i64 (0 : Int)))]
                                                      σ5)))
                                  (Go.AI.ptrEq σ5 b3 Option.none fun (r31 : Bool) ↦
                                    Go.AI.bmatch r31 (K (Go.Value.int Go.IntKind.i64 (0 : Int)) σ5)
                                      (Go.AI.pSome b3 fun (a32 : Go.Addr) ↦
                                        Go.AI.ldc σ5 (Go.Addr.mk (Go.Addr.block a32) (Go.Addr.off a32 + (1 : Nat)) Option.none) fun (v33 : Go.Value) ↦
                                          Go.AI.tL (1 : Nat) v33 fun (s34 : Go.AI.Sl) ↦
                                            Go.AI.ALoop (Go.AI.fl Go.Proofs.Try.prog Go.AI.hintsS T (27 : Nat) [Bool.true, Bool.true, Bool.true, Bool.false, Bool.true, Bool.false] [] K)
                                              [((2 : Nat), Option.some (Go.Value.int Go.IntKind.i64 (5 : Int))), ((63 : Nat), Option.some (Go.Value.slice (Go.AI.Sl.a s34) (Go.AI.Sl.n s34) (1 : Nat))),
                                                ((64 : Nat), Option.some (Go.Value.int Go.IntKind.i64 (↑(Go.AI.Sl.n s34) : Int))), ((65 : Nat), Option.some (Go.Value.int Go.IntKind.i64 (0 : Int)))]
                                              σ5))))) := by
  intros
  kernel_rfl

end Go.AI
