/- The conditions ahead of the calls of the program's functions, reckoned as far as they go (equations that the kernel checks); no condition. -/
import Derived.Test.YtpgedoljndppdaaShSoft
import Derived.Test.YtpgedoljndppdaaAISep
set_option maxRecDepth 1000000
set_option linter.unusedVariables false
namespace Go.AI
open Go.Proofs
theorem s95 : ∀ (T : Go.AI.Ct) (f : Nat) (σ : Go.AI.AS) (K : Go.Value → Go.AI.AS → Prop),
  Go.AI.fw Go.Proofs.Try.prog Go.AI.hintsS T (95 : Nat) [Go.Value.agg (Array.mk [Go.Value.pointer (Option.some (Go.Addr.mk f (0 : Nat) Option.none))])] σ K =
    Go.AI.newAt σ (Go.AI.AObj.row Go.AI.RK.plain [Go.Value.pointer (Option.some (Go.Addr.mk f (0 : Nat) Option.none))]) fun (i0 : Nat) (σ1 : Go.AI.AS) ↦
      Go.AI.ldc σ1 (Go.Addr.mk i0 (0 : Nat) Option.none) fun (v2 : Go.Value) ↦
        Go.AI.tP v2 fun (b3 : Option Go.Addr) ↦
          Go.AI.pSome b3 fun (a4 : Go.Addr) ↦ Go.AI.ldc σ1 (Go.Addr.add a4 (0 : Nat)) fun (v5 : Go.Value) ↦ Go.AI.tL (1 : Nat) v5 fun (s6 : Go.AI.Sl) ↦ K (Go.Value.int Go.IntKind.i64 (↑(Go.AI.Sl.n s6) : Int)) σ1 := by
  intros
  kernel_rfl

theorem s92 : ∀ (T : Go.AI.Ct) (f : Nat) (i : Int) (σ : Go.AI.AS) (K : Go.Value → Go.AI.AS → Prop),
  Go.AI.fw Go.Proofs.Try.prog Go.AI.hintsS T (92 : Nat) [Go.Value.agg (Array.mk [Go.Value.pointer (Option.some (Go.Addr.mk f (0 : Nat) Option.none))]), Go.Value.int Go.IntKind.i64 i] σ K =
    Go.AI.newAt σ (Go.AI.AObj.row Go.AI.RK.plain [Go.Value.pointer (Option.some (Go.Addr.mk f (0 : Nat) Option.none))]) fun (i0 : Nat) (σ1 : Go.AI.AS) ↦
      Go.AI.ldc σ1 (Go.Addr.mk i0 (0 : Nat) Option.none) fun (v2 : Go.Value) ↦
        Go.AI.tP v2 fun (b3 : Option Go.Addr) ↦
          Go.AI.pSome b3 fun (a4 : Go.Addr) ↦
            Go.AI.ldc σ1 (Go.Addr.add a4 (0 : Nat)) fun (v5 : Go.Value) ↦
              Go.AI.tL (1 : Nat) v5 fun (s6 : Go.AI.Sl) ↦
                Go.AI.req ((0 : Int) ≤ i)
                  (Go.AI.req (i < (↑(Go.AI.Sl.n s6) : Int))
                    (Go.AI.pSome (Go.AI.Sl.a s6) fun (a7 : Go.Addr) ↦
                      Go.AI.ldc σ1 (Go.Addr.add a7 (Int.toNat i * Go.AI.szOf Go.Proofs.Try.prog (5 : Nat))) fun (v8 : Go.Value) ↦
                        Go.AI.tI Go.IntKind.u8 v8 fun (n9 : Int) ↦ K (Go.Value.int Go.IntKind.u32 (Go.IntKind.wrap Go.IntKind.u32 n9)) σ1)) := by
  intros
  kernel_rfl

theorem s93 : ∀ (T : Go.AI.Ct) (f : Nat) (i : Int) (σ : Go.AI.AS) (K : Go.Value → Go.AI.AS → Prop),
  Go.AI.fw Go.Proofs.Try.prog Go.AI.hintsS T (93 : Nat) [Go.Value.agg (Array.mk [Go.Value.pointer (Option.some (Go.Addr.mk f (0 : Nat) Option.none))]), Go.Value.int Go.IntKind.i64 i] σ K =
    Go.AI.newAt σ (Go.AI.AObj.row Go.AI.RK.plain [Go.Value.pointer (Option.some (Go.Addr.mk f (0 : Nat) Option.none))]) fun (i0 : Nat) (σ1 : Go.AI.AS) ↦
      Go.AI.ldc σ1 (Go.Addr.mk i0 (0 : Nat) Option.none) fun (v2 : Go.Value) ↦
        Go.AI.tP v2 fun (b3 : Option Go.Addr) ↦
          Go.AI.pSome b3 fun (a4 : Go.Addr) ↦
            Go.AI.ldc σ1 (Go.Addr.add a4 (0 : Nat)) fun (v5 : Go.Value) ↦
              Go.AI.tL (1 : Nat) v5 fun (s6 : Go.AI.Sl) ↦ K (Go.Value.int Go.IntKind.i64 (Go.AI.imax (0 : Int) (Go.IntKind.wrap Go.IntKind.i64 (i - (↑(Go.AI.Sl.n s6) : Int))))) σ1 := by
  intros
  kernel_rfl

theorem s94 : ∀ (T : Go.AI.Ct) (f : Nat) (i c : Int) (σ : Go.AI.AS) (K : Go.Value → Go.AI.AS → Prop),
  Go.AI.fw Go.Proofs.Try.prog Go.AI.hintsS T (94 : Nat)
      [Go.Value.agg (Array.mk [Go.Value.pointer (Option.some (Go.Addr.mk f (0 : Nat) Option.none))]), Go.Value.int Go.IntKind.i64 i, Go.Value.int Go.IntKind.u32 c] σ K =
    Go.AI.newAt σ (Go.AI.AObj.row Go.AI.RK.plain [Go.Value.pointer (Option.some (Go.Addr.mk f (0 : Nat) Option.none))]) fun (i0 : Nat) (σ1 : Go.AI.AS) ↦
      Go.AI.ldc σ1 (Go.Addr.mk i0 (0 : Nat) Option.none) fun (v2 : Go.Value) ↦
        Go.AI.tP v2 fun (b3 : Option Go.Addr) ↦
          Go.AI.pSome b3 fun (a4 : Go.Addr) ↦
            Go.AI.ldc σ1 (Go.Addr.add a4 (0 : Nat)) fun (v5 : Go.Value) ↦
              Go.AI.tL (1 : Nat) v5 fun (s6 : Go.AI.Sl) ↦
                Go.AI.bmatch (i == (↑(Go.AI.Sl.n s6) : Int))
                  (Go.AI.ldc σ1 (Go.Addr.mk i0 (0 : Nat) Option.none) fun (v7 : Go.Value) ↦
                    Go.AI.tP v7 fun (b8 : Option Go.Addr) ↦
                      Go.AI.ldc σ1 (Go.Addr.mk i0 (0 : Nat) Option.none) fun (v9 : Go.Value) ↦
                        Go.AI.tP v9 fun (b10 : Option Go.Addr) ↦
                          Go.AI.pSome b10 fun (a11 : Go.Addr) ↦
                            Go.AI.ldc σ1 (Go.Addr.add a11 (0 : Nat)) fun (v12 : Go.Value) ↦
                              Go.AI.tL (1 : Nat) v12 fun (s13 : Go.AI.Sl) ↦
                                Go.AI.newAt σ1 (Go.AI.AObj.row Go.AI.RK.rw [Go.Value.int Go.IntKind.u8 (0 : Int)]) fun (i14 : Nat) (σ15 : Go.AI.AS) ↦
                                  Go.AI.ldc σ15 (Go.Addr.add a11 (0 : Nat)) fun (v16 : Go.Value) ↦
                                    Go.AI.tL (1 : Nat) v16 fun (s17 : Go.AI.Sl) ↦
                                      Go.Value.slice (Go.AI.Sl.a s13) (Go.AI.Sl.n s13) (Go.AI.szOf Go.Proofs.Try.prog (5 : Nat)) =
                                          Go.Value.slice (Go.AI.Sl.a s17) (Go.AI.Sl.n s17) (Go.AI.szOf Go.Proofs.Try.prog (5 : Nat)) ∧
                                        Go.AI.ldc σ15 (Go.Addr.mk i0 (0 : Nat) Option.none) fun (v18 : Go.Value) ↦
                                          Go.AI.tP v18 fun (b19 : Option Go.Addr) ↦
                                            Go.Value.pointer b10 = Go.Value.pointer b19 ∧
                                              Go.AI.ldc σ15 (Go.Addr.mk i0 (0 : Nat) Option.none) fun (v20 : Go.Value) ↦
                                                Go.AI.tP v20 fun (b21 : Option Go.Addr) ↦
                                                  Go.Value.pointer b8 = Go.Value.pointer b21 ∧
                                                    Go.AI.lds σ15 (Go.Addr.mk i14 (0 : Nat) Option.none) (1 : Nat) fun (l22 : List Go.Value) ↦
                                                      Go.AI.appendTo σ15 (1 : Nat) (1 : Nat) (Go.AI.Sl.mk (Go.AI.Sl.a s13) (Go.AI.Sl.n s13)) l22 (1 : Nat) fun (s23 : Go.AI.Sl) (σ24 : Go.AI.AS) ↦
                                                        Go.AI.ldc σ24 (Go.Addr.mk i0 (0 : Nat) Option.none) fun (v25 : Go.Value) ↦
                                                          Go.AI.tP v25 fun (b26 : Option Go.Addr) ↦
                                                            Go.Value.pointer b8 = Go.Value.pointer b26 ∧
                                                              Go.AI.pSome b8 fun (a27 : Go.Addr) ↦
                                                                Go.AI.put1 σ24 (Go.Addr.add a27 (0 : Nat)) (Go.Value.slice (Go.AI.Sl.a s23) (Go.AI.Sl.n s23) (1 : Nat)) fun (σ28 : Go.AI.AS) ↦
                                                                  Go.AI.ldc σ28 (Go.Addr.mk i0 (0 : Nat) Option.none) fun (v29 : Go.Value) ↦
                                                                    Go.AI.tP v29 fun (b30 : Option Go.Addr) ↦
                                                                      Go.AI.pSome b30 fun (a31 : Go.Addr) ↦
                                                                        Go.AI.ldc σ28 (Go.Addr.add a31 (0 : Nat)) fun (v32 : Go.Value) ↦
                                                                          Go.AI.tL (1 : Nat) v32 fun (s33 : Go.AI.Sl) ↦
                                                                            T (41 : Nat) [Go.Value.int Go.IntKind.u32 c] σ28 fun (v34 : Go.Value) (σ35 : Go.AI.AS) ↦
                                                                              Go.AI.tI Go.IntKind.u8 v34 fun (n36 : Int) ↦
                                                                                Go.AI.ldc σ35 (Go.Addr.add a31 (0 : Nat)) fun (v37 : Go.Value) ↦
                                                                                  Go.AI.tL (1 : Nat) v37 fun (s38 : Go.AI.Sl) ↦
                                                                                    Go.Value.slice (Go.AI.Sl.a s33) (Go.AI.Sl.n s33) (Go.AI.szOf Go.Proofs.Try.prog (5 : Nat)) =
                                                                                        Go.Value.slice (Go.AI.Sl.a s38) (Go.AI.Sl.n s38) (Go.AI.szOf Go.Proofs.Try.prog (5 : Nat)) ∧
                                                                                      Go.AI.ldc σ35 (Go.Addr.mk i0 (0 : Nat) Option.none) fun (v39 : Go.Value) ↦
                                                                                        Go.AI.tP v39 fun (b40 : Option Go.Addr) ↦
                                                                                          Go.Value.pointer b30 = Go.Value.pointer b40 ∧
                                                                                            Go.AI.req ((0 : Int) ≤ i)
                                                                                              (Go.AI.req (i < (↑(Go.AI.Sl.n s33) : Int))
                                                                                                (Go.AI.pSome (Go.AI.Sl.a s33) fun (a41 : Go.Addr) ↦
                                                                                                  Go.AI.put1 σ35 (Go.Addr.add a41 (Int.toNat i * Go.AI.szOf Go.Proofs.Try.prog (5 : Nat)))
                                                                                                    (Go.Value.int Go.IntKind.u8 n36) fun (σ42 : Go.AI.AS) ↦ K (Go.Value.tuple (Array.mk [])) σ42)))
                  (Go.AI.ldc σ1 (Go.Addr.mk i0 (0 : Nat) Option.none) fun (v43 : Go.Value) ↦
                    Go.AI.tP v43 fun (b44 : Option Go.Addr) ↦
                      Go.AI.pSome b44 fun (a45 : Go.Addr) ↦
                        Go.AI.ldc σ1 (Go.Addr.add a45 (0 : Nat)) fun (v46 : Go.Value) ↦
                          Go.AI.tL (1 : Nat) v46 fun (s47 : Go.AI.Sl) ↦
                            T (41 : Nat) [Go.Value.int Go.IntKind.u32 c] σ1 fun (v48 : Go.Value) (σ49 : Go.AI.AS) ↦
                              Go.AI.tI Go.IntKind.u8 v48 fun (n50 : Int) ↦
                                Go.AI.ldc σ49 (Go.Addr.add a45 (0 : Nat)) fun (v51 : Go.Value) ↦
                                  Go.AI.tL (1 : Nat) v51 fun (s52 : Go.AI.Sl) ↦
                                    Go.Value.slice (Go.AI.Sl.a s47) (Go.AI.Sl.n s47) (Go.AI.szOf Go.Proofs.Try.prog (5 : Nat)) =
                                        Go.Value.slice (Go.AI.Sl.a s52) (Go.AI.Sl.n s52) (Go.AI.szOf Go.Proofs.Try.prog (5 : Nat)) ∧
                                      Go.AI.ldc σ49 (Go.Addr.mk i0 (0 : Nat) Option.none) fun (v53 : Go.Value) ↦
                                        Go.AI.tP v53 fun (b54 : Option Go.Addr) ↦
                                          Go.Value.pointer b44 = Go.Value.pointer b54 ∧
                                            Go.AI.req ((0 : Int) ≤ i)
                                              (Go.AI.req (i < (↑(Go.AI.Sl.n s47) : Int))
                                                (Go.AI.pSome (Go.AI.Sl.a s47) fun (a55 : Go.Addr) ↦
                                                  Go.AI.put1 σ49 (Go.Addr.add a55 (Int.toNat i * Go.AI.szOf Go.Proofs.Try.prog (5 : Nat))) (Go.Value.int Go.IntKind.u8 n50) fun (σ56 : Go.AI.AS) ↦
                                                    K (Go.Value.tuple (Array.mk [])) σ56))) := by
  intros
  kernel_rfl

theorem s99 : ∀ (T : Go.AI.Ct) (f : Nat) (σ : Go.AI.AS) (K : Go.Value → Go.AI.AS → Prop),
  Go.AI.fw Go.Proofs.Try.prog Go.AI.hintsS T (99 : Nat) [Go.Value.agg (Array.mk [Go.Value.pointer (Option.some (Go.Addr.mk f (0 : Nat) Option.none))])] σ K =
    Go.AI.newAt σ (Go.AI.AObj.row Go.AI.RK.plain [Go.Value.pointer (Option.some (Go.Addr.mk f (0 : Nat) Option.none))]) fun (i0 : Nat) (σ1 : Go.AI.AS) ↦
      Go.AI.ldc σ1 (Go.Addr.mk i0 (0 : Nat) Option.none) fun (v2 : Go.Value) ↦
        Go.AI.tP v2 fun (b3 : Option Go.Addr) ↦
          Go.AI.pSome b3 fun (a4 : Go.Addr) ↦
            Go.AI.ldc σ1 (Go.Addr.add a4 (0 : Nat)) fun (v5 : Go.Value) ↦
              Go.AI.tL (1 : Nat) v5 fun (s6 : Go.AI.Sl) ↦ K (Go.Value.int Go.IntKind.i64 (Go.IntKind.wrap Go.IntKind.i64 (Int.tdiv (↑(Go.AI.Sl.n s6) : Int) (4 : Int)))) σ1 := by
  intros
  kernel_rfl

theorem s96 : ∀ (T : Go.AI.Ct) (f : Nat) (i : Int) (σ : Go.AI.AS) (K : Go.Value → Go.AI.AS → Prop),
  Go.AI.fw Go.Proofs.Try.prog Go.AI.hintsS T (96 : Nat) [Go.Value.agg (Array.mk [Go.Value.pointer (Option.some (Go.Addr.mk f (0 : Nat) Option.none))]), Go.Value.int Go.IntKind.i64 i] σ K =
    Go.AI.newAt σ (Go.AI.AObj.row Go.AI.RK.plain [Go.Value.pointer (Option.some (Go.Addr.mk f (0 : Nat) Option.none))]) fun (i0 : Nat) (σ1 : Go.AI.AS) ↦
      Go.AI.ldc σ1 (Go.Addr.mk i0 (0 : Nat) Option.none) fun (v2 : Go.Value) ↦
        Go.AI.tP v2 fun (b3 : Option Go.Addr) ↦
          Go.AI.pSome b3 fun (a4 : Go.Addr) ↦
            Go.AI.ldc σ1 (Go.Addr.add a4 (0 : Nat)) fun (v5 : Go.Value) ↦
              Go.AI.tL (1 : Nat) v5 fun (s6 : Go.AI.Sl) ↦
                T (100 : Nat) [Go.Value.slice (Go.AI.Sl.a s6) (Go.AI.Sl.n s6) (1 : Nat), Go.Value.int Go.IntKind.i64 (Go.IntKind.wrap Go.IntKind.i64 ((4 : Int) * i)), Go.Value.int Go.IntKind.i64 (4 : Int)] σ1
                  fun (v7 : Go.Value) (σ8 : Go.AI.AS) ↦
                  Go.AI.tTup v7 fun (l9 : List Go.Value) ↦
                    Go.AI.pSome l9[(0 : Nat)]? fun (u10 : Go.Value) ↦
                      Go.AI.tI Go.IntKind.u32 u10 fun (n11 : Int) ↦
                        Go.AI.tTup v7 fun (l12 : List Go.Value) ↦ Go.AI.pSome l12[(1 : Nat)]? fun (u13 : Go.Value) ↦ Go.AI.tI Go.IntKind.i64 u13 fun (n14 : Int) ↦ K (Go.Value.int Go.IntKind.u32 n11) σ8 := by
  intros
  kernel_rfl

theorem s97 : ∀ (T : Go.AI.Ct) (f : Nat) (i : Int) (σ : Go.AI.AS) (K : Go.Value → Go.AI.AS → Prop),
  Go.AI.fw Go.Proofs.Try.prog Go.AI.hintsS T (97 : Nat) [Go.Value.agg (Array.mk [Go.Value.pointer (Option.some (Go.Addr.mk f (0 : Nat) Option.none))]), Go.Value.int Go.IntKind.i64 i] σ K =
    Go.AI.newAt σ (Go.AI.AObj.row Go.AI.RK.plain [Go.Value.pointer (Option.some (Go.Addr.mk f (0 : Nat) Option.none))]) fun (i0 : Nat) (σ1 : Go.AI.AS) ↦
      Go.AI.ldc σ1 (Go.Addr.mk i0 (0 : Nat) Option.none) fun (v2 : Go.Value) ↦
        Go.AI.tP v2 fun (b3 : Option Go.Addr) ↦
          Go.AI.pSome b3 fun (a4 : Go.Addr) ↦
            Go.AI.ldc σ1 (Go.Addr.add a4 (0 : Nat)) fun (v5 : Go.Value) ↦
              Go.AI.tL (1 : Nat) v5 fun (s6 : Go.AI.Sl) ↦
                K (Go.Value.int Go.IntKind.i64 (Go.AI.imax (0 : Int) (Go.IntKind.wrap Go.IntKind.i64 (Go.IntKind.wrap Go.IntKind.i64 ((4 : Int) * i) - (↑(Go.AI.Sl.n s6) : Int))))) σ1 := by
  intros
  kernel_rfl

theorem s98 : ∀ (T : Go.AI.Ct) (f : Nat) (i c : Int) (σ : Go.AI.AS) (K : Go.Value → Go.AI.AS → Prop),
  Go.AI.fw Go.Proofs.Try.prog Go.AI.hintsS T (98 : Nat)
      [Go.Value.agg (Array.mk [Go.Value.pointer (Option.some (Go.Addr.mk f (0 : Nat) Option.none))]), Go.Value.int Go.IntKind.i64 i, Go.Value.int Go.IntKind.u32 c] σ K =
    Go.AI.newAt σ (Go.AI.AObj.row Go.AI.RK.plain [Go.Value.pointer (Option.some (Go.Addr.mk f (0 : Nat) Option.none))]) fun (i0 : Nat) (σ1 : Go.AI.AS) ↦
      Go.AI.ALoop (Go.AI.fl Go.Proofs.Try.prog Go.AI.hintsS T (98 : Nat) [Bool.true, Bool.false, Bool.false] [] K)
        [((1 : Nat), Option.some (Go.Value.int Go.IntKind.i64 i)), ((2 : Nat), Option.some (Go.Value.int Go.IntKind.u32 c)),
          ((3 : Nat), Option.some (Go.Value.pointer (Option.some (Go.Addr.mk i0 (0 : Nat) Option.none))))]
        σ1 := by
  intros
  kernel_rfl

theorem s98l : ∀ (T : Go.AI.Ct) (x : Nat) (i c : Int) (X : Go.AI.Regs → Go.AI.AS → Prop) (σ : Go.AI.AS) (K : Go.Value → Go.AI.AS → Prop),
  Go.AI.fl Go.Proofs.Try.prog Go.AI.hintsS T (98 : Nat) [Bool.true, Bool.false, Bool.false] [] K X
      [((1 : Nat), Option.some (Go.Value.int Go.IntKind.i64 i)), ((2 : Nat), Option.some (Go.Value.int Go.IntKind.u32 c)),
        ((3 : Nat), Option.some (Go.Value.pointer (Option.some (Go.Addr.mk x (0 : Nat) Option.none))))]
      σ =
    Go.AI.ldc σ (Go.Addr.mk x (0 : Nat) Option.none) fun (v0 : Go.Value) ↦
      Go.AI.tP v0 fun (b1 : Option Go.Addr) ↦
        Go.AI.pSome b1 fun (a2 : Go.Addr) ↦
          Go.AI.ldc σ (Go.Addr.add a2 (0 : Nat)) fun (v3 : Go.Value) ↦
            Go.AI.tL (1 : Nat) v3 fun (s4 : Go.AI.Sl) ↦
              Go.AI.bmatch (Decidable.decide ((↑(Go.AI.Sl.n s4) : Int) < Go.IntKind.wrap Go.IntKind.i64 (Go.IntKind.wrap Go.IntKind.i64 ((4 : Int) * i) + (4 : Int))))
                (Go.AI.ldc σ (Go.Addr.mk x (0 : Nat) Option.none) fun (v5 : Go.Value) ↦
                  Go.AI.tP v5 fun (b6 : Option Go.Addr) ↦
                    Go.AI.ldc σ (Go.Addr.mk x (0 : Nat) Option.none) fun (v7 : Go.Value) ↦
                      Go.AI.tP v7 fun (b8 : Option Go.Addr) ↦
                        Go.AI.pSome b8 fun (a9 : Go.Addr) ↦
                          Go.AI.ldc σ (Go.Addr.add a9 (0 : Nat)) fun (v10 : Go.Value) ↦
                            Go.AI.tL (1 : Nat) v10 fun (s11 : Go.AI.Sl) ↦
                              Go.AI.newAt σ (Go.AI.AObj.row Go.AI.RK.rw [Go.Value.int Go.IntKind.u8 (0 : Int)]) fun (i12 : Nat) (σ13 : Go.AI.AS) ↦
                                Go.AI.ldc σ13 (Go.Addr.add a9 (0 : Nat)) fun (v14 : Go.Value) ↦
                                  Go.AI.tL (1 : Nat) v14 fun (s15 : Go.AI.Sl) ↦
                                    Go.Value.slice (Go.AI.Sl.a s11) (Go.AI.Sl.n s11) (Go.AI.szOf Go.Proofs.Try.prog (5 : Nat)) =
                                        Go.Value.slice (Go.AI.Sl.a s15) (Go.AI.Sl.n s15) (Go.AI.szOf Go.Proofs.Try.prog (5 : Nat)) ∧
                                      Go.AI.ldc σ13 (Go.Addr.mk x (0 : Nat) Option.none) fun (v16 : Go.Value) ↦
                                        Go.AI.tP v16 fun (b17 : Option Go.Addr) ↦
                                          Go.Value.pointer b8 = Go.Value.pointer b17 ∧
                                            Go.AI.ldc σ13 (Go.Addr.mk x (0 : Nat) Option.none) fun (v18 : Go.Value) ↦
                                              Go.AI.tP v18 fun (b19 : Option Go.Addr) ↦
                                                Go.Value.pointer b6 = Go.Value.pointer b19 ∧
                                                  Go.AI.lds σ13 (Go.Addr.mk i12 (0 : Nat) Option.none) (1 : Nat) fun (l20 : List Go.Value) ↦
                                                    Go.AI.appendTo σ13 (1 : Nat) (1 : Nat) (Go.AI.Sl.mk (Go.AI.Sl.a s11) (Go.AI.Sl.n s11)) l20 (1 : Nat) fun (s21 : Go.AI.Sl) (σ22 : Go.AI.AS) ↦
                                                      Go.AI.ldc σ22 (Go.Addr.mk x (0 : Nat) Option.none) fun (v23 : Go.Value) ↦
                                                        Go.AI.tP v23 fun (b24 : Option Go.Addr) ↦
                                                          Go.Value.pointer b6 = Go.Value.pointer b24 ∧
                                                            Go.AI.pSome b6 fun (a25 : Go.Addr) ↦
                                                              Go.AI.put1 σ22 (Go.Addr.add a25 (0 : Nat)) (Go.Value.slice (Go.AI.Sl.a s21) (Go.AI.Sl.n s21) (1 : Nat)) fun (σ26 : Go.AI.AS) ↦
                                                                X
                                                                  [((1 : Nat), Option.some (Go.Value.int Go.IntKind.i64 i)), ((2 : Nat), Option.some (Go.Value.int Go.IntKind.u32 c)),
                                                                    ((3 : Nat), Option.some (Go.Value.pointer (Option.some (Go.Addr.mk x (0 : Nat) Option.none))))]
                                                                  σ26)
                (Go.AI.ldc σ (Go.Addr.mk x (0 : Nat) Option.none) fun (v27 : Go.Value) ↦
                  Go.AI.tP v27 fun (b28 : Option Go.Addr) ↦
                    Go.AI.pSome b28 fun (a29 : Go.Addr) ↦
                      Go.AI.ldc σ (Go.Addr.add a29 (0 : Nat)) fun (v30 : Go.Value) ↦
                        Go.AI.tL (1 : Nat) v30 fun (s31 : Go.AI.Sl) ↦
                          Go.AI.req ((0 : Int) ≤ Go.IntKind.wrap Go.IntKind.i64 ((4 : Int) * i))
                            (Go.AI.req (Go.IntKind.wrap Go.IntKind.i64 ((4 : Int) * i) ≤ (↑(Go.AI.Sl.n s31) : Int))
                              (Go.AI.req ((↑(Go.AI.Sl.n s31) : Int) ≤ (↑(Go.AI.Sl.n s31) : Int))
                                (T (101 : Nat) [Go.Value.int Go.IntKind.u32 c, Go.Value.int Go.IntKind.i64 (4 : Int)] σ fun (v32 : Go.Value) (σ33 : Go.AI.AS) ↦
                                  Go.AI.tL (1 : Nat) v32 fun (s34 : Go.AI.Sl) ↦
                                    Go.AI.ldc σ33 (Go.Addr.add a29 (0 : Nat)) fun (v35 : Go.Value) ↦
                                      Go.AI.tL (1 : Nat) v35 fun (s36 : Go.AI.Sl) ↦
                                        Go.Value.slice (Go.AI.Sl.a s31) (Go.AI.Sl.n s31) (Go.AI.szOf Go.Proofs.Try.prog (5 : Nat)) =
                                            Go.Value.slice (Go.AI.Sl.a s36) (Go.AI.Sl.n s36) (Go.AI.szOf Go.Proofs.Try.prog (5 : Nat)) ∧
                                          Go.AI.ldc σ33 (Go.Addr.mk x (0 : Nat) Option.none) fun (v37 : Go.Value) ↦
                                            Go.AI.tP v37 fun (b38 : Option Go.Addr) ↦
                                              Go.Value.pointer b28 = Go.Value.pointer b38 ∧
                                                Go.AI.srcCells σ33 (1 : Nat) (Option.some (Go.Value.slice (Go.AI.Sl.a s34) (Go.AI.Sl.n s34) (1 : Nat))) fun (m39 : Nat) (l40 : List Go.Value) ↦
                                                  Go.AI.copyTo σ33 (1 : Nat)
                                                    (Option.map (fun (x_2 : Go.Addr) ↦ Go.Addr.add x_2 (Int.toNat (Go.IntKind.wrap Go.IntKind.i64 ((4 : Int) * i)) * Go.AI.szOf Go.Proofs.Try.prog (5 : Nat)))
                                                      (Go.AI.Sl.a s31))
                                                    (Int.toNat ((↑(Go.AI.Sl.n s31) : Int) - Go.IntKind.wrap Go.IntKind.i64 ((4 : Int) * i))) m39 l40 fun (r41 : Int) (σ42 : Go.AI.AS) ↦
                                                    K (Go.Value.tuple (Array.mk [])) σ42)))) := by
  intros
  kernel_rfl

theorem s102 : ∀ (T : Go.AI.Ct) (n : Int) (σ : Go.AI.AS) (K : Go.Value → Go.AI.AS → Prop),
  Go.AI.fw Go.Proofs.Try.prog Go.AI.hintsS T (102 : Nat) [Go.Value.int Go.IntKind.i64 n] σ K =
    Go.AI.bmatch (n == (1 : Int)) (K (Go.Value.bool Bool.true) σ) (Go.AI.bmatch (n == (2 : Int)) (K (Go.Value.bool Bool.true) σ) (K (Go.Value.bool (n == (4 : Int))) σ)) := by
  intros
  kernel_rfl

theorem s100 : ∀ (T : Go.AI.Ct) (a : Option Go.Addr) (m : Nat) (at__1 n : Int) (σ : Go.AI.AS) (K : Go.Value → Go.AI.AS → Prop),
  Go.AI.fw Go.Proofs.Try.prog Go.AI.hintsS T (100 : Nat) [Go.Value.slice a m (1 : Nat), Go.Value.int Go.IntKind.i64 at__1, Go.Value.int Go.IntKind.i64 n] σ K =
    T (102 : Nat) [Go.Value.int Go.IntKind.i64 n] σ fun (v0 : Go.Value) (σ1 : Go.AI.AS) ↦
      Go.AI.tB v0 fun (b2 : Bool) ↦
        Go.AI.bmatch (!b2) (K (Go.Value.tuple (Array.mk [Go.Value.int Go.IntKind.u32 (0 : Int), Go.Value.int Go.IntKind.i64 (1 : Int)])) σ1)
          (Go.AI.bmatch (Decidable.decide (at__1 < (0 : Int))) (K (Go.Value.tuple (Array.mk [Go.Value.int Go.IntKind.u32 (0 : Int), Go.Value.int Go.IntKind.i64 (1 : Int)])) σ1)
            (Go.AI.bmatch (Decidable.decide (at__1 > (↑m : Int))) (K (Go.Value.tuple (Array.mk [Go.Value.int Go.IntKind.u32 (0 : Int), Go.Value.int Go.IntKind.i64 (2 : Int)])) σ1)
              (Go.AI.bmatch (Decidable.decide (Go.IntKind.wrap Go.IntKind.i64 ((↑m : Int) - at__1) < n))
                (K (Go.Value.tuple (Array.mk [Go.Value.int Go.IntKind.u32 (0 : Int), Go.Value.int Go.IntKind.i64 (2 : Int)])) σ1)
                (Go.AI.req ((0 : Int) ≤ at__1)
                  (Go.AI.req (at__1 ≤ Go.IntKind.wrap Go.IntKind.i64 (at__1 + n))
                    (Go.AI.req (Go.IntKind.wrap Go.IntKind.i64 (at__1 + n) ≤ (↑m : Int))
                      (Go.AI.ALoop (Go.AI.fl Go.Proofs.Try.prog Go.AI.hintsS T (100 : Nat) [Bool.true, Bool.true, Bool.true, Bool.false, Bool.true, Bool.false] [] K)
                        [((8 : Nat), Option.some (Go.Value.int Go.IntKind.u32 (0 : Int))),
                          ((37 : Nat),
                            Option.some
                              (Go.Value.slice (Option.map (fun (x : Go.Addr) ↦ Go.Addr.add x (Int.toNat at__1 * Go.AI.szOf Go.Proofs.Try.prog (5 : Nat))) a)
                                (Int.toNat (Go.IntKind.wrap Go.IntKind.i64 (at__1 + n) - at__1)) (1 : Nat))),
                          ((38 : Nat), Option.some (Go.Value.int Go.IntKind.i64 (↑(Int.toNat (Go.IntKind.wrap Go.IntKind.i64 (at__1 + n) - at__1)) : Int))),
                          ((39 : Nat), Option.some (Go.Value.int Go.IntKind.i64 (0 : Int)))]
                        σ1))))))) := by
  intros
  kernel_rfl

theorem s100l : ∀ (T : Go.AI.Ct) (x : Int) (a : Option Go.Addr) (m : Nat) (len i : Int) (X : Go.AI.Regs → Go.AI.AS → Prop) (σ : Go.AI.AS) (K : Go.Value → Go.AI.AS → Prop),
  Go.AI.fl Go.Proofs.Try.prog Go.AI.hintsS T (100 : Nat) [Bool.true, Bool.true, Bool.true, Bool.false, Bool.true, Bool.false] [] K X
      [((8 : Nat), Option.some (Go.Value.int Go.IntKind.u32 x)), ((37 : Nat), Option.some (Go.Value.slice a m (1 : Nat))), ((38 : Nat), Option.some (Go.Value.int Go.IntKind.i64 len)),
        ((39 : Nat), Option.some (Go.Value.int Go.IntKind.i64 i))]
      σ =
    Go.AI.bmatch (Decidable.decide (i < len))
      (Go.AI.req ((0 : Int) ≤ i)
        (Go.AI.req (i < (↑m : Int))
          (Go.AI.pSome a fun (a0 : Go.Addr) ↦
            Go.AI.ldc σ (Go.Addr.add a0 (Int.toNat i * Go.AI.szOf Go.Proofs.Try.prog (5 : Nat))) fun (v1 : Go.Value) ↦
              Go.AI.tI Go.IntKind.u8 v1 fun (n2 : Int) ↦
                X
                  [((8 : Nat), Option.some (Go.Value.int Go.IntKind.u32 (Go.AI.ior Go.IntKind.u32 (Go.AI.ishl Go.IntKind.u32 x (8 : Int)) (Go.IntKind.wrap Go.IntKind.u32 n2)))),
                    ((37 : Nat), Option.some (Go.Value.slice a m (1 : Nat))), ((38 : Nat), Option.some (Go.Value.int Go.IntKind.i64 len)),
                    ((39 : Nat), Option.some (Go.Value.int Go.IntKind.i64 (Go.IntKind.wrap Go.IntKind.i64 (i + (1 : Int)))))]
                  σ)))
      (K (Go.Value.tuple (Array.mk [Go.Value.int Go.IntKind.u32 x, Go.Value.int Go.IntKind.i64 (0 : Int)])) σ) := by
  intros
  kernel_rfl

theorem s101 : ∀ (T : Go.AI.Ct) (x n : Int) (σ : Go.AI.AS) (K : Go.Value → Go.AI.AS → Prop),
  Go.AI.fw Go.Proofs.Try.prog Go.AI.hintsS T (101 : Nat) [Go.Value.int Go.IntKind.u32 x, Go.Value.int Go.IntKind.i64 n] σ K =
    T (102 : Nat) [Go.Value.int Go.IntKind.i64 n] σ fun (v0 : Go.Value) (σ1 : Go.AI.AS) ↦
      Go.AI.tB v0 fun (b2 : Bool) ↦
        Go.AI.bmatch (!b2) (K (Go.Value.slice Option.none (0 : Nat) (0 : Nat)) σ1)
          (Go.AI.req ((0 : Int) ≤ n)
            (Go.AI.req (n ≤ n)
              (Go.AI.req (n * (↑(Go.AI.bytesOf Go.Proofs.Try.prog (5 : Nat)) : Int) ≤ (140737488355328 : Int))
                (Go.AI.newAt σ1 (Go.AI.AObj.row Go.AI.RK.rw (List.flatten (List.replicate (Int.toNat n) (Go.AI.valCells (Go.Value.int Go.IntKind.u8 (0 : Int)))))) fun (i3 : Nat) (σ4 : Go.AI.AS) ↦
                  Go.AI.ALoop (Go.AI.fl Go.Proofs.Try.prog Go.AI.hintsS T (101 : Nat) [Bool.true, Bool.true, Bool.true, Bool.false, Bool.true, Bool.false] [] K)
                    [((0 : Nat), Option.some (Go.Value.int Go.IntKind.u32 x)), ((5 : Nat), Option.some (Go.Value.slice (Option.some (Go.Addr.mk i3 (0 : Nat) Option.none)) (Int.toNat n) (1 : Nat))),
                      ((6 : Nat), Option.some (Go.Value.int Go.IntKind.i64 (Go.IntKind.wrap Go.IntKind.i64 (n - (1 : Int)))))]
                    σ4)))) := by
  intros
  kernel_rfl

theorem s101l : ∀ (T : Go.AI.Ct) (x : Int) (a : Option Go.Addr) (m : Nat) (i : Int) (X : Go.AI.Regs → Go.AI.AS → Prop) (σ : Go.AI.AS) (K : Go.Value → Go.AI.AS → Prop),
  Go.AI.fl Go.Proofs.Try.prog Go.AI.hintsS T (101 : Nat) [Bool.true, Bool.true, Bool.true, Bool.false, Bool.true, Bool.false] [] K X
      [((0 : Nat), Option.some (Go.Value.int Go.IntKind.u32 x)), ((5 : Nat), Option.some (Go.Value.slice a m (1 : Nat))), ((6 : Nat), Option.some (Go.Value.int Go.IntKind.i64 i))] σ =
    Go.AI.bmatch (Decidable.decide (i ≥ (0 : Int)))
      (Go.AI.req ((0 : Int) ≤ i)
        (Go.AI.req (i < (↑m : Int))
          (Go.AI.pSome a fun (a0 : Go.Addr) ↦
            Go.AI.put1 σ (Go.Addr.add a0 (Int.toNat i * Go.AI.szOf Go.Proofs.Try.prog (5 : Nat))) (Go.Value.int Go.IntKind.u8 (Go.IntKind.wrap Go.IntKind.u8 x)) fun (σ1 : Go.AI.AS) ↦
              X
                [((0 : Nat), Option.some (Go.Value.int Go.IntKind.u32 (Go.AI.ishr Go.IntKind.u32 x (8 : Int)))), ((5 : Nat), Option.some (Go.Value.slice a m (1 : Nat))),
                  ((6 : Nat), Option.some (Go.Value.int Go.IntKind.i64 (Go.IntKind.wrap Go.IntKind.i64 (i - (1 : Int)))))]
                σ1)))
      (K (Go.Value.slice a m (1 : Nat)) σ) := by
  intros
  kernel_rfl

theorem s21 : ∀ (T : Go.AI.Ct) (s : Nat) (name : ByteArray) (σ : Go.AI.AS) (K : Go.Value → Go.AI.AS → Prop),
  Go.AI.fw Go.Proofs.Try.prog Go.AI.hintsS T (21 : Nat) [Go.Value.pointer (Option.some (Go.Addr.mk s (0 : Nat) Option.none)), Go.Value.string name] σ K =
    Go.AI.ldc σ (Go.Addr.mk s ((0 : Nat) + (2 : Nat)) Option.none) fun (v0 : Go.Value) ↦
      Go.AI.tM v0 fun (b1 : Option Nat) ↦
        Go.AI.mget σ Go.TypeDesc.string b1 (Go.Value.string name) fun (o2 : Option Go.Value) ↦
          Go.AI.tP (Option.getD o2 (Go.Value.pointer Option.none)) fun (b3 : Option Go.Addr) ↦
            Go.AI.ptrEq σ b3 Option.none fun (r4 : Bool) ↦
              Go.AI.bmatch r4 (K (Go.Value.tuple (Array.mk [Go.Value.slice Option.none (0 : Nat) (0 : Nat), Go.Value.bool Bool.false])) σ)
                (Go.AI.newAt σ (Go.AI.AObj.row Go.AI.RK.rw []) fun (i5 : Nat) (σ6 : Go.AI.AS) ↦
                  Go.AI.ldc σ6 (Go.Addr.mk s ((0 : Nat) + (2 : Nat)) Option.none) fun (v7 : Go.Value) ↦
                    Go.AI.tM v7 fun (b8 : Option Nat) ↦
                      Go.AI.mget σ6 Go.TypeDesc.string b8 (Go.Value.string name) fun (o9 : Option Go.Value) ↦
                        Go.AI.tP (Option.getD o9 (Go.Value.pointer Option.none)) fun (b10 : Option Go.Addr) ↦
                          Go.AI.pSome b10 fun (a11 : Go.Addr) ↦
                            Go.AI.ldc σ6 (Go.Addr.add a11 (0 : Nat)) fun (v12 : Go.Value) ↦
                              Go.AI.tL (1 : Nat) v12 fun (s13 : Go.AI.Sl) ↦
                                Go.AI.srcCells σ6 (1 : Nat) (Option.some (Go.Value.slice (Go.AI.Sl.a s13) (Go.AI.Sl.n s13) (1 : Nat))) fun (m14 : Nat) (new15 : List Go.Value) ↦
                                  Go.AI.appendTo σ6 (1 : Nat) (1 : Nat) (Go.AI.Sl.mk (Option.some (Go.Addr.mk i5 (0 : Nat) Option.none)) (0 : Nat)) new15 m14 fun (s16 : Go.AI.Sl) (σ17 : Go.AI.AS) ↦
                                    K (Go.Value.tuple (Array.mk [Go.Value.slice (Go.AI.Sl.a s16) (Go.AI.Sl.n s16) (1 : Nat), Go.Value.bool Bool.true])) σ17) := by
  intros
  kernel_rfl

theorem s24 : ∀ (T : Go.AI.Ct) (s : Nat) (σ : Go.AI.AS) (K : Go.Value → Go.AI.AS → Prop),
  Go.AI.fw Go.Proofs.Try.prog Go.AI.hintsS T (24 : Nat) [Go.Value.pointer (Option.some (Go.Addr.mk s (0 : Nat) Option.none))] σ K =
    Go.AI.ldc σ (Go.Addr.mk s ((0 : Nat) + (2 : Nat)) Option.none) fun (v0 : Go.Value) ↦
      Go.AI.tM v0 fun (b1 : Option Nat) ↦
        Go.AI.rngM σ b1 fun (j2 : Nat) (σ3 : Go.AI.AS) ↦
          Go.AI.ALoop (Go.AI.fl Go.Proofs.Try.prog Go.AI.hintsS T (24 : Nat) [Bool.true, Bool.true, Bool.true, Bool.false, Bool.true, Bool.false] [] K)
            [((3 : Nat), Option.some (Go.Value.int Go.IntKind.i64 (0 : Int))), ((12 : Nat), Option.some (Go.Value.pointer (Option.some (Go.Addr.mk j2 (0 : Nat) Option.none))))] σ3 := by
  intros
  kernel_rfl

theorem s24l : ∀ (T : Go.AI.Ct) (n : Int) (it : Nat) (X : Go.AI.Regs → Go.AI.AS → Prop) (σ : Go.AI.AS) (K : Go.Value → Go.AI.AS → Prop),
  Go.AI.fl Go.Proofs.Try.prog Go.AI.hintsS T (24 : Nat) [Bool.true, Bool.true, Bool.true, Bool.false, Bool.true, Bool.false] [] K X
      [((3 : Nat), Option.some (Go.Value.int Go.IntKind.i64 n)), ((12 : Nat), Option.some (Go.Value.pointer (Option.some (Go.Addr.mk it (0 : Nat) Option.none))))] σ =
    Go.AI.mnext σ it fun (r0 : Option (Go.Value × Go.Value)) (σ1 : Go.AI.AS) ↦
      Go.AI.onNx r0
        (fun (k2 v3 : Go.Value) ↦
          Go.AI.mentry σ1 it fun (k4 v5 : Go.Value) ↦
            Go.AI.tP v5 fun (b6 : Option Go.Addr) ↦
              Go.AI.pSome b6 fun (a7 : Go.Addr) ↦
                Go.AI.ldc σ1 (Go.Addr.add a7 (0 : Nat)) fun (v8 : Go.Value) ↦
                  Go.AI.tL (1 : Nat) v8 fun (s9 : Go.AI.Sl) ↦
                    X
                      [((3 : Nat), Option.some (Go.Value.int Go.IntKind.i64 (Go.IntKind.wrap Go.IntKind.i64 (n + (↑(Go.AI.Sl.n s9) : Int))))),
                        ((12 : Nat), Option.some (Go.Value.pointer (Option.some (Go.Addr.mk it (0 : Nat) Option.none))))]
                      σ1)
        (K (Go.Value.int Go.IntKind.i64 n) σ1) := by
  intros
  kernel_rfl

theorem s20 : ∀ (T : Go.AI.Ct) (s : Nat) (n p q : Int) (σ : Go.AI.AS) (K : Go.Value → Go.AI.AS → Prop),
  Go.AI.fw Go.Proofs.Try.prog Go.AI.hintsS T (20 : Nat)
      [Go.Value.pointer (Option.some (Go.Addr.mk s (0 : Nat) Option.none)), Go.Value.int Go.IntKind.i64 n, Go.Value.int Go.IntKind.i64 p, Go.Value.int Go.IntKind.i64 q] σ K =
    T (29 : Nat) [Go.Value.pointer (Option.some (Go.Addr.mk s (0 : Nat) Option.none)), Go.Value.int Go.IntKind.i64 n] σ fun (v0 : Go.Value) (σ1 : Go.AI.AS) ↦
      Go.AI.tTup v0 fun (l2 : List Go.Value) ↦
        Go.AI.pSome l2[(0 : Nat)]? fun (u3 : Go.Value) ↦
          Go.AI.tP u3 fun (b4 : Option Go.Addr) ↦
            Go.AI.tTup v0 fun (l5 : List Go.Value) ↦
              Go.AI.pSome l5[(1 : Nat)]? fun (u6 : Go.Value) ↦
                Go.AI.tI Go.IntKind.i64 u6 fun (n7 : Int) ↦
                  Go.AI.bmatch (n7 != (0 : Int)) (K (Go.Value.int Go.IntKind.i64 n7) σ1)
                    (Go.AI.bmatch (q == (0 : Int))
                      (Go.AI.pSome b4 fun (a8 : Go.Addr) ↦
                        Go.AI.ldc σ1 (Go.Addr.add a8 (0 : Nat)) fun (v9 : Go.Value) ↦
                          Go.AI.tIf v9
                            (fun (t10 : Nat) (u11 : Go.Value) ↦
                              Go.AI.pSome (Go.AI.methodOf Go.Proofs.Try.prog t10 "grotto/shelf.size") fun (f12 : Go.FuncId) ↦
                                T f12 [u11] σ1 fun (v13 : Go.Value) (σ14 : Go.AI.AS) ↦
                                  Go.AI.tI Go.IntKind.i64 v13 fun (n15 : Int) ↦
                                    Go.AI.pSome b4 fun (a16 : Go.Addr) ↦
                                      Go.AI.put1 σ14 (Go.Addr.mk (Go.Addr.block a16) (Go.Addr.off a16 + (3 : Nat)) Option.none)
                                        (Go.Value.int Go.IntKind.i64
                                          (Go.IntKind.wrap Go.IntKind.i64
                                            ((0 : Int) + Go.AI.imax (Go.IntKind.wrap Go.IntKind.i64 ((0 : Int) - (0 : Int))) (Go.AI.imin p (Go.IntKind.wrap Go.IntKind.i64 (n15 - (0 : Int)))))))
                                        fun (σ17 : Go.AI.AS) ↦ K (Go.Value.int Go.IntKind.i64 (0 : Int)) σ17)
                            False)
                      (Go.AI.bmatch (q == (1 : Int))
                        (Go.AI.pSome b4 fun (a18 : Go.Addr) ↦
                          Go.AI.ldc σ1 (Go.Addr.mk (Go.Addr.block a18) (Go.Addr.off a18 + (3 : Nat)) Option.none) fun (v19 : Go.Value) ↦
                            Go.AI.tI Go.IntKind.i64 v19 fun (n20 : Int) ↦
                              Go.AI.pSome b4 fun (a21 : Go.Addr) ↦
                                Go.AI.ldc σ1 (Go.Addr.add a21 (0 : Nat)) fun (v22 : Go.Value) ↦
                                  Go.AI.tIf v22
                                    (fun (t23 : Nat) (u24 : Go.Value) ↦
                                      Go.AI.pSome (Go.AI.methodOf Go.Proofs.Try.prog t23 "grotto/shelf.size") fun (f25 : Go.FuncId) ↦
                                        T f25 [u24] σ1 fun (v26 : Go.Value) (σ27 : Go.AI.AS) ↦
                                          Go.AI.tI Go.IntKind.i64 v26 fun (n28 : Int) ↦
                                            Go.AI.pSome b4 fun (a29 : Go.Addr) ↦
                                              Go.AI.put1 σ27 (Go.Addr.mk (Go.Addr.block a29) (Go.Addr.off a29 + (3 : Nat)) Option.none)
                                                (Go.Value.int Go.IntKind.i64
                                                  (Go.IntKind.wrap Go.IntKind.i64 (n20 + Go.AI.imax (Go.IntKind.wrap Go.IntKind.i64 ((0 : Int) - n20)) (Go.AI.imin p (Go.IntKind.wrap Go.IntKind.i64 (n28 - n20))))))
                                                fun (σ30 : Go.AI.AS) ↦ K (Go.Value.int Go.IntKind.i64 (0 : Int)) σ30)
                                    False)
                        (Go.AI.bmatch (q == (2 : Int))
                          (Go.AI.pSome b4 fun (a31 : Go.Addr) ↦
                            Go.AI.ldc σ1 (Go.Addr.add a31 (0 : Nat)) fun (v32 : Go.Value) ↦
                              Go.AI.tIf v32
                                (fun (t33 : Nat) (u34 : Go.Value) ↦
                                  Go.AI.pSome (Go.AI.methodOf Go.Proofs.Try.prog t33 "grotto/shelf.size") fun (f35 : Go.FuncId) ↦
                                    T f35 [u34] σ1 fun (v36 : Go.Value) (σ37 : Go.AI.AS) ↦
                                      Go.AI.tI Go.IntKind.i64 v36 fun (n38 : Int) ↦
                                        Go.AI.pSome b4 fun (a39 : Go.Addr) ↦
                                          Go.AI.ldc σ37 (Go.Addr.add a39 (0 : Nat)) fun (v40 : Go.Value) ↦
                                            Go.AI.tIf v40
                                              (fun (t41 : Nat) (u42 : Go.Value) ↦
                                                Go.AI.pSome (Go.AI.methodOf Go.Proofs.Try.prog t41 "grotto/shelf.size") fun (f43 : Go.FuncId) ↦
                                                  T f43 [u42] σ37 fun (v44 : Go.Value) (σ45 : Go.AI.AS) ↦
                                                    Go.AI.tI Go.IntKind.i64 v44 fun (n46 : Int) ↦
                                                      Go.AI.pSome b4 fun (a47 : Go.Addr) ↦
                                                        Go.AI.put1 σ45 (Go.Addr.mk (Go.Addr.block a47) (Go.Addr.off a47 + (3 : Nat)) Option.none)
                                                          (Go.Value.int Go.IntKind.i64
                                                            (Go.IntKind.wrap Go.IntKind.i64
                                                              (n38 + Go.AI.imax (Go.IntKind.wrap Go.IntKind.i64 ((0 : Int) - n38)) (Go.AI.imin p (Go.IntKind.wrap Go.IntKind.i64 (n46 - n38))))))
                                                          fun (σ48 : Go.AI.AS) ↦ K (Go.Value.int Go.IntKind.i64 (0 : Int)) σ48)
                                              False)
                                False)
                          (K (Go.Value.int Go.IntKind.i64 (1 : Int)) σ1)))) := by
  intros
  kernel_rfl

theorem s31 : ∀ (T : Go.AI.Ct) (y : Option Go.Addr) (c : Nat) (σ : Go.AI.AS) (K : Go.Value → Go.AI.AS → Prop),
  Go.AI.fw Go.Proofs.Try.prog Go.AI.hintsS T (31 : Nat) [Go.Value.pointer y, Go.Value.pointer (Option.some (Go.Addr.mk c (0 : Nat) Option.none))] σ K =
    Go.AI.ldc σ (Go.Addr.mk c (0 : Nat) Option.none) fun (v0 : Go.Value) ↦ Go.AI.tP v0 fun (b1 : Option Go.Addr) ↦ Go.AI.ptrEq σ b1 y fun (r2 : Bool) ↦ K (Go.Value.bool r2) σ := by
  intros
  kernel_rfl

theorem s12 : ∀ (T : Go.AI.Ct) (s : Nat) (name : ByteArray) (mode : Int) (w : Bool) (σ : Go.AI.AS) (K : Go.Value → Go.AI.AS → Prop),
  Go.AI.fw Go.Proofs.Try.prog Go.AI.hintsS T (12 : Nat) [Go.Value.pointer (Option.some (Go.Addr.mk s (0 : Nat) Option.none)), Go.Value.string name, Go.Value.int Go.IntKind.i64 mode, Go.Value.bool w] σ K =
    T (27 : Nat) [Go.Value.pointer (Option.some (Go.Addr.mk s (0 : Nat) Option.none)), Go.Value.string name, Go.Value.int Go.IntKind.i64 mode] σ fun (v0 : Go.Value) (σ1 : Go.AI.AS) ↦
      Go.AI.tI Go.IntKind.i64 v0 fun (n2 : Int) ↦
        Go.AI.bmatch (n2 != (0 : Int)) (K (Go.Value.tuple (Array.mk [Go.Value.int Go.IntKind.i64 (0 : Int), Go.Value.int Go.IntKind.i64 n2])) σ1)
          (Go.AI.ldc σ1 (Go.Addr.mk s ((0 : Nat) + (2 : Nat)) Option.none) fun (v3 : Go.Value) ↦
            Go.AI.tM v3 fun (b4 : Option Nat) ↦
              Go.AI.mget σ1 Go.TypeDesc.string b4 (Go.Value.string name) fun (o5 : Option Go.Value) ↦
                Go.AI.tP (Option.getD o5 (Go.Value.pointer Option.none)) fun (b6 : Option Go.Addr) ↦
                  Go.AI.ptrEq σ1 b6 Option.none fun (r7 : Bool) ↦
                    Go.AI.bmatch r7
                      (Go.AI.ldc σ1 (Go.Addr.mk s ((0 : Nat) + (2 : Nat)) Option.none) fun (v8 : Go.Value) ↦
                        Go.AI.tM v8 fun (b9 : Option Nat) ↦
                          Go.AI.newAt σ1 (Go.AI.AObj.row Go.AI.RK.plain [Go.Value.slice Option.none (0 : Nat) (0 : Nat), Go.Value.slice Option.none (0 : Nat) (0 : Nat)]) fun (i10 : Nat) (σ11 : Go.AI.AS) ↦
                            Go.AI.pSome b9 fun (i12 : Nat) ↦
                              Go.AI.mset σ11 Go.TypeDesc.string i12 (Go.Value.string name) (Go.Value.pointer (Option.some (Go.Addr.mk i10 (0 : Nat) Option.none))) fun (σ13 : Go.AI.AS) ↦
                                Go.AI.ldc σ13 (Go.Addr.mk s ((0 : Nat) + (2 : Nat)) Option.none) fun (v14 : Go.Value) ↦
                                  Go.AI.tM v14 fun (b15 : Option Nat) ↦
                                    Go.AI.mget σ13 Go.TypeDesc.string b15 (Go.Value.string name) fun (o16 : Option Go.Value) ↦
                                      Go.AI.tP (Option.getD o16 (Go.Value.pointer Option.none)) fun (b17 : Option Go.Addr) ↦
                                        Go.AI.bmatch (mode == (1 : Int))
                                          (Go.AI.pSome b17 fun (a18 : Go.Addr) ↦
                                            Go.AI.put1 σ13 (Go.Addr.add a18 (0 : Nat)) (Go.Value.slice Option.none (0 : Nat) (0 : Nat)) fun (σ19 : Go.AI.AS) ↦
                                              Go.AI.newAt σ19
                                                (Go.AI.AObj.row Go.AI.RK.plain
                                                  [Go.Value.iface (78 : Nat) (Go.Value.agg (Array.mk [Go.Value.pointer b17])), Go.Value.pointer b17, Go.Value.int Go.IntKind.i64 mode,
                                                    Go.Value.int Go.IntKind.i64 (0 : Int), Go.Value.int Go.IntKind.u32 (0 : Int), Go.Value.int Go.IntKind.u32 (0 : Int)])
                                                fun (i20 : Nat) (σ21 : Go.AI.AS) ↦
                                                Go.AI.bmatch w
                                                  (Go.AI.put1 σ21 (Go.Addr.mk i20 (0 : Nat) Option.none) (Go.Value.iface (83 : Nat) (Go.Value.agg (Array.mk [Go.Value.pointer b17]))) fun (σ22 : Go.AI.AS) ↦
                                                    Go.AI.bmatch (mode == (5 : Int))
                                                      (Go.AI.ldc σ22 (Go.Addr.mk i20 (0 : Nat) Option.none) fun (v23 : Go.Value) ↦
                                                        Go.AI.tIf v23
                                                          (fun (t24 : Nat) (u25 : Go.Value) ↦
                                                            Go.AI.pSome (Go.AI.methodOf Go.Proofs.Try.prog t24 "grotto/shelf.size") fun (f26 : Go.FuncId) ↦
                                                              T f26 [u25] σ22 fun (v27 : Go.Value) (σ28 : Go.AI.AS) ↦
                                                                Go.AI.tI Go.IntKind.i64 v27 fun (n29 : Int) ↦
                                                                  Go.AI.put1 σ28 (Go.Addr.mk i20 ((0 : Nat) + (3 : Nat)) Option.none) (Go.Value.int Go.IntKind.i64 n29) fun (σ30 : Go.AI.AS) ↦
                                                                    Go.AI.pSome b17 fun (a31 : Go.Addr) ↦
                                                                      Go.AI.ldc σ30 (Go.Addr.mk (Go.Addr.block a31) (Go.Addr.off a31 + (1 : Nat)) Option.none) fun (v32 : Go.Value) ↦
                                                                        Go.AI.tL (1 : Nat) v32 fun (s33 : Go.AI.Sl) ↦
                                                                          Go.AI.newAt σ30 (Go.AI.AObj.row Go.AI.RK.rw [Go.Value.pointer (Option.some (Go.Addr.mk i20 (0 : Nat) Option.none))])
                                                                            fun (i34 : Nat) (σ35 : Go.AI.AS) ↦
                                                                            Go.AI.lds σ35 (Go.Addr.mk i34 (0 : Nat) Option.none) (1 : Nat) fun (l36 : List Go.Value) ↦
                                                                              Go.AI.appendTo σ35 (1 : Nat) (8 : Nat) (Go.AI.Sl.mk (Go.AI.Sl.a s33) (Go.AI.Sl.n s33)) l36 (1 : Nat) fun (s37 : Go.AI.Sl) (σ38 : Go.AI.AS) ↦
                                                                                Go.AI.pSome b17 fun (a39 : Go.Addr) ↦
                                                                                  Go.AI.put1 σ38 (Go.Addr.mk (Go.Addr.block a39) (Go.Addr.off a39 + (1 : Nat)) Option.none)
                                                                                    (Go.Value.slice (Go.AI.Sl.a s37) (Go.AI.Sl.n s37) (1 : Nat)) fun (σ40 : Go.AI.AS) ↦
                                                                                    T (28 : Nat)
                                                                                      [Go.Value.pointer (Option.some (Go.Addr.mk s (0 : Nat) Option.none)),
                                                                                        Go.Value.pointer (Option.some (Go.Addr.mk i20 (0 : Nat) Option.none))]
                                                                                      σ40 fun (v41 : Go.Value) (σ42 : Go.AI.AS) ↦
                                                                                      Go.AI.tI Go.IntKind.i64 v41 fun (n43 : Int) ↦
                                                                                        K (Go.Value.tuple (Array.mk [Go.Value.int Go.IntKind.i64 n43, Go.Value.int Go.IntKind.i64 (0 : Int)])) σ42)
                                                          False)
                                                      (Go.AI.pSome b17 fun (a44 : Go.Addr) ↦
                                                        Go.AI.ldc σ22 (Go.Addr.mk (Go.Addr.block a44) (Go.Addr.off a44 + (1 : Nat)) Option.none) fun (v45 : Go.Value) ↦
                                                          Go.AI.tL (1 : Nat) v45 fun (s46 : Go.AI.Sl) ↦
                                                            Go.AI.newAt σ22 (Go.AI.AObj.row Go.AI.RK.rw [Go.Value.pointer (Option.some (Go.Addr.mk i20 (0 : Nat) Option.none))]) fun (i47 : Nat) (σ48 : Go.AI.AS) ↦
                                                              Go.AI.lds σ48 (Go.Addr.mk i47 (0 : Nat) Option.none) (1 : Nat) fun (l49 : List Go.Value) ↦
                                                                Go.AI.appendTo σ48 (1 : Nat) (8 : Nat) (Go.AI.Sl.mk (Go.AI.Sl.a s46) (Go.AI.Sl.n s46)) l49 (1 : Nat) fun (s50 : Go.AI.Sl) (σ51 : Go.AI.AS) ↦
                                                                  Go.AI.pSome b17 fun (a52 : Go.Addr) ↦
                                                                    Go.AI.put1 σ51 (Go.Addr.mk (Go.Addr.block a52) (Go.Addr.off a52 + (1 : Nat)) Option.none) (Go.Value.slice (Go.AI.Sl.a s50) (Go.AI.Sl.n s50) (1 : Nat))
                                                                      fun (σ53 : Go.AI.AS) ↦
                                                                      T (28 : Nat)
                                                                        [Go.Value.pointer (Option.some (Go.Addr.mk s (0 : Nat) Option.none)), Go.Value.pointer (Option.some (Go.Addr.mk i20 (0 : Nat) Option.none))] σ53
                                                                        fun (v54 : Go.Value) (σ55 : Go.AI.AS) ↦
                                                                        Go.AI.tI Go.IntKind.i64 v54 fun (n56 : Int) ↦
                                                                          K (Go.Value.tuple (Array.mk [Go.Value.int Go.IntKind.i64 n56, Go.Value.int Go.IntKind.i64 (0 : Int)])) σ55))
                                                  (Go.AI.bmatch (mode == (5 : Int))
                                                    (Go.AI.ldc σ21 (Go.Addr.mk i20 (0 : Nat) Option.none) fun (v57 : Go.Value) ↦
                                                      Go.AI.tIf v57
                                                        (fun (t58 : Nat) (u59 : Go.Value) ↦
                                                          Go.AI.pSome (Go.AI.methodOf Go.Proofs.Try.prog t58 "grotto/shelf.size") fun (f60 : Go.FuncId) ↦
                                                            T f60 [u59] σ21 fun (v61 : Go.Value) (σ62 : Go.AI.AS) ↦
                                                              Go.AI.tI Go.IntKind.i64 v61 fun (n63 : Int) ↦
                                                                Go.AI.put1 σ62 (Go.Addr.mk i20 ((0 : Nat) + (3 : Nat)) Option.none) (Go.Value.int Go.IntKind.i64 n63) fun (σ64 : Go.AI.AS) ↦
                                                                  Go.AI.pSome b17 fun (a65 : Go.Addr) ↦
                                                                    Go.AI.ldc σ64 (Go.Addr.mk (Go.Addr.block a65) (Go.Addr.off a65 + (1 : Nat)) Option.none) fun (v66 : Go.Value) ↦
                                                                      Go.AI.tL (1 : Nat) v66 fun (s67 : Go.AI.Sl) ↦
                                                                        Go.AI.newAt σ64 (Go.AI.AObj.row Go.AI.RK.rw [Go.Value.pointer (Option.some (Go.Addr.mk i20 (0 : Nat) Option.none))])
                                                                          fun (i68 : Nat) (σ69 : Go.AI.AS) ↦
                                                                          Go.AI.lds σ69 (Go.Addr.mk i68 (0 : Nat) Option.none) (1 : Nat) fun (l70 : List Go.Value) ↦
                                                                            Go.AI.appendTo σ69 (1 : Nat) (8 : Nat) (Go.AI.Sl.mk (Go.AI.Sl.a s67) (Go.AI.Sl.n s67)) l70 (1 : Nat) fun (s71 : Go.AI.Sl) (σ72 : Go.AI.AS) ↦
                                                                              Go.AI.pSome b17 fun (a73 : Go.Addr) ↦
                                                                                Go.AI.put1 σ72 (Go.Addr.mk (Go.Addr.block a73) (Go.Addr.off a73 + (1 : Nat)) Option.none)
                                                                                  (Go.Value.slice (Go.AI.Sl.a s71) (Go.AI.Sl.n s71) (1 : Nat)) fun (σ74 : Go.AI.AS) ↦
                                                                                  T (28 : Nat)
                                                                                    [Go.Value.pointer (Option.some (Go.Addr.mk s (0 : Nat) Option.none)),
                                                                                      Go.Value.pointer (Option.some (Go.Addr.mk i20 (0 : Nat) Option.none))]
                                                                                    σ74 fun (v75 : Go.Value) (σ76 : Go.AI.AS) ↦
                                                                                    Go.AI.tI Go.IntKind.i64 v75 fun (n77 : Int) ↦
                                                                                      K (Go.Value.tuple (Array.mk [Go.Value.int Go.IntKind.i64 n77, Go.Value.int Go.IntKind.i64 (0 : Int)])) σ76)
                                                        False)
                                                    (Go.AI.pSome b17 fun (a78 : Go.Addr) ↦
                                                      Go.AI.ldc σ21 (Go.Addr.mk (Go.Addr.block a78) (Go.Addr.off a78 + (1 : Nat)) Option.none) fun (v79 : Go.Value) ↦
                                                        Go.AI.tL (1 : Nat) v79 fun (s80 : Go.AI.Sl) ↦
                                                          Go.AI.newAt σ21 (Go.AI.AObj.row Go.AI.RK.rw [Go.Value.pointer (Option.some (Go.Addr.mk i20 (0 : Nat) Option.none))]) fun (i81 : Nat) (σ82 : Go.AI.AS) ↦
                                                            Go.AI.lds σ82 (Go.Addr.mk i81 (0 : Nat) Option.none) (1 : Nat) fun (l83 : List Go.Value) ↦
                                                              Go.AI.appendTo σ82 (1 : Nat) (8 : Nat) (Go.AI.Sl.mk (Go.AI.Sl.a s80) (Go.AI.Sl.n s80)) l83 (1 : Nat) fun (s84 : Go.AI.Sl) (σ85 : Go.AI.AS) ↦
                                                                Go.AI.pSome b17 fun (a86 : Go.Addr) ↦
                                                                  Go.AI.put1 σ85 (Go.Addr.mk (Go.Addr.block a86) (Go.Addr.off a86 + (1 : Nat)) Option.none) (Go.Value.slice (Go.AI.Sl.a s84) (Go.AI.Sl.n s84) (1 : Nat))
                                                                    fun (σ87 : Go.AI.AS) ↦
                                                                    T (28 : Nat)
                                                                      [Go.Value.pointer (Option.some (Go.Addr.mk s (0 : Nat) Option.none)), Go.Value.pointer (Option.some (Go.Addr.mk i20 (0 : Nat) Option.none))] σ87
                                                                      fun (v88 : Go.Value) (σ89 : Go.AI.AS) ↦
                                                                      Go.AI.tI Go.IntKind.i64 v88 fun (n90 : Int) ↦
                                                                        K (Go.Value.tuple (Array.mk [Go.Value.int Go.IntKind.i64 n90, Go.Value.int Go.IntKind.i64 (0 : Int)])) σ89)))
                                          (Go.AI.newAt σ13
                                            (Go.AI.AObj.row Go.AI.RK.plain
                                              [Go.Value.iface (78 : Nat) (Go.Value.agg (Array.mk [Go.Value.pointer b17])), Go.Value.pointer b17, Go.Value.int Go.IntKind.i64 mode, Go.Value.int Go.IntKind.i64 (0 : Int),
                                                Go.Value.int Go.IntKind.u32 (0 : Int), Go.Value.int Go.IntKind.u32 (0 : Int)])
                                            fun (i91 : Nat) (σ92 : Go.AI.AS) ↦
                                            Go.AI.bmatch w
                                              (Go.AI.put1 σ92 (Go.Addr.mk i91 (0 : Nat) Option.none) (Go.Value.iface (83 : Nat) (Go.Value.agg (Array.mk [Go.Value.pointer b17]))) fun (σ93 : Go.AI.AS) ↦
                                                Go.AI.bmatch (mode == (5 : Int))
                                                  (Go.AI.ldc σ93 (Go.Addr.mk i91 (0 : Nat) Option.none) fun (v94 : Go.Value) ↦
                                                    Go.AI.tIf v94
                                                      (fun (t95 : Nat) (u96 : Go.Value) ↦
                                                        Go.AI.pSome (Go.AI.methodOf Go.Proofs.Try.prog t95 "grotto/shelf.size") fun (f97 : Go.FuncId) ↦
                                                          T f97 [u96] σ93 fun (v98 : Go.Value) (σ99 : Go.AI.AS) ↦
                                                            Go.AI.tI Go.IntKind.i64 v98 fun (n100 : Int) ↦
                                                              Go.AI.put1 σ99 (Go.Addr.mk i91 ((0 : Nat) + (3 : Nat)) Option.none) (Go.Value.int Go.IntKind.i64 n100) fun (σ101 : Go.AI.AS) ↦
                                                                Go.AI.pSome b17 fun (a102 : Go.Addr) ↦
                                                                  Go.AI.ldc σ101 (Go.Addr.mk (Go.Addr.block a102) (Go.Addr.off a102 + (1 : Nat)) Option.none) fun (v103 : Go.Value) ↦
                                                                    Go.AI.tL (1 : Nat) v103 fun (s104 : Go.AI.Sl) ↦
                                                                      Go.AI.newAt σ101 (Go.AI.AObj.row Go.AI.RK.rw [Go.Value.pointer (Option.some (Go.Addr.mk i91 (0 : Nat) Option.none))])
                                                                        fun (i105 : Nat) (σ106 : Go.AI.AS) ↦
                                                                        Go.AI.lds σ106 (Go.Addr.mk i105 (0 : Nat) Option.none) (1 : Nat) fun (l107 : List Go.Value) ↦
                                                                          Go.AI.appendTo σ106 (1 : Nat) (8 : Nat) (Go.AI.Sl.mk (Go.AI.Sl.a s104) (Go.AI.Sl.n s104)) l107 (1 : Nat) fun (s108 : Go.AI.Sl) (σ109 : Go.AI.AS) ↦
                                                                            Go.AI.pSome b17 fun (a110 : Go.Addr) ↦
                                                                              Go.AI.put1 σ109 (Go.Addr.mk (Go.Addr.block a110) (Go.Addr.off a110 + (1 : Nat)) Option.none)
                                                                                (Go.Value.slice (Go.AI.Sl.a s108) (Go.AI.Sl.n s108) (1 : Nat)) fun (σ111 : Go.AI.AS) ↦
                                                                                T (28 : Nat)
                                                                                  [Go.Value.pointer (Option.some (Go.Addr.mk s (0 : Nat) Option.none)),
                                                                                    Go.Value.pointer (Option.some (Go.Addr.mk i91 (0 : Nat) Option.none))]
                                                                                  σ111 fun (v112 : Go.Value) (σ113 : Go.AI.AS) ↦
                                                                                  Go.AI.tI Go.IntKind.i64 v112 fun (n114 : Int) ↦
                                                                                    K (Go.Value.tuple (Array.mk [Go.Value.int Go.IntKind.i64 n114, Go.Value.int Go.IntKind.i64 (0 : Int)])) σ113)
                                                      False)
                                                  (Go.AI.pSome b17 fun (a115 : Go.Addr) ↦
                                                    Go.AI.ldc σ93 (Go.Addr.mk (Go.Addr.block a115) (Go.Addr.off a115 + (1 : Nat)) Option.none) fun (v116 : Go.Value) ↦
                                                      Go.AI.tL (1 : Nat) v116 fun (s117 : Go.AI.Sl) ↦
                                                        Go.AI.newAt σ93 (Go.AI.AObj.row Go.AI.RK.rw [Go.Value.pointer (Option.some (Go.Addr.mk i91 (0 : Nat) Option.none))]) fun (i118 : Nat) (σ119 : Go.AI.AS) ↦
                                                          Go.AI.lds σ119 (Go.Addr.mk i118 (0 : Nat) Option.none) (1 : Nat) fun (l120 : List Go.Value) ↦
                                                            Go.AI.appendTo σ119 (1 : Nat) (8 : Nat) (Go.AI.Sl.mk (Go.AI.Sl.a s117) (Go.AI.Sl.n s117)) l120 (1 : Nat) fun (s121 : Go.AI.Sl) (σ122 : Go.AI.AS) ↦
                                                              Go.AI.pSome b17 fun (a123 : Go.Addr) ↦
                                                                Go.AI.put1 σ122 (Go.Addr.mk (Go.Addr.block a123) (Go.Addr.off a123 + (1 : Nat)) Option.none) (Go.Value.slice (Go.AI.Sl.a s121) (Go.AI.Sl.n s121) (1 : Nat))
                                                                  fun (σ124 : Go.AI.AS) ↦
                                                                  T (28 : Nat)
                                                                    [Go.Value.pointer (Option.some (Go.Addr.mk s (0 : Nat) Option.none)), Go.Value.pointer (Option.some (Go.Addr.mk i91 (0 : Nat) Option.none))] σ124
                                                                    fun (v125 : Go.Value) (σ126 : Go.AI.AS) ↦
                                                                    Go.AI.tI Go.IntKind.i64 v125 fun (n127 : Int) ↦
                                                                      K (Go.Value.tuple (Array.mk [Go.Value.int Go.IntKind.i64 n127, Go.Value.int Go.IntKind.i64 (0 : Int)])) σ126))
                                              (Go.AI.bmatch (mode == (5 : Int))
                                                (Go.AI.ldc σ92 (Go.Addr.mk i91 (0 : Nat) Option.none) fun (v128 : Go.Value) ↦
                                                  Go.AI.tIf v128
                                                    (fun (t129 : Nat) (u130 : Go.Value) ↦
                                                      Go.AI.pSome (Go.AI.methodOf Go.Proofs.Try.prog t129 "grotto/shelf.size") fun (f131 : Go.FuncId) ↦
                                                        T f131 [u130] σ92 fun (v132 : Go.Value) (σ133 : Go.AI.AS) ↦
                                                          Go.AI.tI Go.IntKind.i64 v132 fun (n134 : Int) ↦
                                                            Go.AI.put1 σ133 (Go.Addr.mk i91 ((0 : Nat) + (3 : Nat)) Option.none) (Go.Value.int Go.IntKind.i64 n134) fun (σ135 : Go.AI.AS) ↦
                                                              Go.AI.pSome b17 fun (a136 : Go.Addr) ↦
                                                                Go.AI.ldc σ135 (Go.Addr.mk (Go.Addr.block a136) (Go.Addr.off a136 + (1 : Nat)) Option.none) fun (v137 : Go.Value) ↦
                                                                  Go.AI.tL (1 : Nat) v137 fun (s138 : Go.AI.Sl) ↦
                                                                    Go.AI.newAt σ135 (Go.AI.AObj.row Go.AI.RK.rw [Go.Value.pointer (Option.some (Go.Addr.mk i91 (0 : Nat) Option.none))])
                                                                      fun (i139 : Nat) (σ140 : Go.AI.AS) ↦
                                                                      Go.AI.lds σ140 (Go.Addr.mk i139 (0 : Nat) Option.none) (1 : Nat) fun (l141 : List Go.Value) ↦
                                                                        Go.AI.appendTo σ140 (1 : Nat) (8 : Nat) (Go.AI.Sl.mk (Go.AI.Sl.a s138) (Go.AI.Sl.n s138)) l141 (1 : Nat) fun (s142 : Go.AI.Sl) (σ143 : Go.AI.AS) ↦
                                                                          Go.AI.pSome b17 fun (a144 : Go.Addr) ↦
                                                                            Go.AI.put1 σ143 (Go.Addr.mk (Go.Addr.block a144) (Go.Addr.off a144 + (1 : Nat)) Option.none)
                                                                              (Go.Value.slice (Go.AI.Sl.a s142) (Go.AI.Sl.n s142) (1 : Nat)) fun (σ145 : Go.AI.AS) ↦
                                                                              T (28 : Nat)
                                                                                [Go.Value.pointer (Option.some (Go.Addr.mk s (0 : Nat) Option.none)),
                                                                                  Go.Value.pointer (Option.some (Go.Addr.mk i91 (0 : Nat) Option.none))]
                                                                                σ145 fun (v146 : Go.Value) (σ147 : Go.AI.AS) ↦
                                                                                Go.AI.tI Go.IntKind.i64 v146 fun (n148 : Int) ↦
                                                                                  K (Go.Value.tuple (Array.mk [Go.Value.int Go.IntKind.i64 n148, Go.Value.int Go.IntKind.i64 (0 : Int)])) σ147)
                                                    False)
                                                (Go.AI.pSome b17 fun (a149 : Go.Addr) ↦
                                                  Go.AI.ldc σ92 (Go.Addr.mk (Go.Addr.block a149) (Go.Addr.off a149 + (1 : Nat)) Option.none) fun (v150 : Go.Value) ↦
                                                    Go.AI.tL (1 : Nat) v150 fun (s151 : Go.AI.Sl) ↦
                                                      Go.AI.newAt σ92 (Go.AI.AObj.row Go.AI.RK.rw [Go.Value.pointer (Option.some (Go.Addr.mk i91 (0 : Nat) Option.none))]) fun (i152 : Nat) (σ153 : Go.AI.AS) ↦
                                                        Go.AI.lds σ153 (Go.Addr.mk i152 (0 : Nat) Option.none) (1 : Nat) fun (l154 : List Go.Value) ↦
                                                          Go.AI.appendTo σ153 (1 : Nat) (8 : Nat) (Go.AI.Sl.mk (Go.AI.Sl.a s151) (Go.AI.Sl.n s151)) l154 (1 : Nat) fun (s155 : Go.AI.Sl) (σ156 : Go.AI.AS) ↦
                                                            Go.AI.pSome b17 fun (a157 : Go.Addr) ↦
                                                              Go.AI.put1 σ156 (Go.Addr.mk (Go.Addr.block a157) (Go.Addr.off a157 + (1 : Nat)) Option.none) (Go.Value.slice (Go.AI.Sl.a s155) (Go.AI.Sl.n s155) (1 : Nat))
                                                                fun (σ158 : Go.AI.AS) ↦
                                                                T (28 : Nat)
                                                                  [Go.Value.pointer (Option.some (Go.Addr.mk s (0 : Nat) Option.none)), Go.Value.pointer (Option.some (Go.Addr.mk i91 (0 : Nat) Option.none))] σ158
                                                                  fun (v159 : Go.Value) (σ160 : Go.AI.AS) ↦
                                                                  Go.AI.tI Go.IntKind.i64 v159 fun (n161 : Int) ↦
                                                                    K (Go.Value.tuple (Array.mk [Go.Value.int Go.IntKind.i64 n161, Go.Value.int Go.IntKind.i64 (0 : Int)])) σ160))))
                      (Go.AI.ldc σ1 (Go.Addr.mk s ((0 : Nat) + (2 : Nat)) Option.none) fun (v162 : Go.Value) ↦
                        Go.AI.tM v162 fun (b163 : Option Nat) ↦
                          Go.AI.mget σ1 Go.TypeDesc.string b163 (Go.Value.string name) fun (o164 : Option Go.Value) ↦
                            Go.AI.tP (Option.getD o164 (Go.Value.pointer Option.none)) fun (b165 : Option Go.Addr) ↦
                              Go.AI.bmatch (mode == (1 : Int))
                                (Go.AI.pSome b165 fun (a166 : Go.Addr) ↦
                                  Go.AI.put1 σ1 (Go.Addr.add a166 (0 : Nat)) (Go.Value.slice Option.none (0 : Nat) (0 : Nat)) fun (σ167 : Go.AI.AS) ↦
                                    Go.AI.newAt σ167
                                      (Go.AI.AObj.row Go.AI.RK.plain
                                        [Go.Value.iface (78 : Nat) (Go.Value.agg (Array.mk [Go.Value.pointer b165])), Go.Value.pointer b165, Go.Value.int Go.IntKind.i64 mode, Go.Value.int Go.IntKind.i64 (0 : Int),
                                          Go.Value.int Go.IntKind.u32 (0 : Int), Go.Value.int Go.IntKind.u32 (0 : Int)])
                                      fun (i168 : Nat) (σ169 : Go.AI.AS) ↦
                                      Go.AI.bmatch w
                                        (Go.AI.put1 σ169 (Go.Addr.mk i168 (0 : Nat) Option.none) (Go.Value.iface (83 : Nat) (Go.Value.agg (Array.mk [Go.Value.pointer b165]))) fun (σ170 : Go.AI.AS) ↦
                                          Go.AI.bmatch (mode == (5 : Int))
                                            (Go.AI.ldc σ170 (Go.Addr.mk i168 (0 : Nat) Option.none) fun (v171 : Go.Value) ↦
                                              Go.AI.tIf v171
                                                (fun (t172 : Nat) (u173 : Go.Value) ↦
                                                  Go.AI.pSome (Go.AI.methodOf Go.Proofs.Try.prog t172 "grotto/shelf.size") fun (f174 : Go.FuncId) ↦
                                                    T f174 [u173] σ170 fun (v175 : Go.Value) (σ176 : Go.AI.AS) ↦
                                                      Go.AI.tI Go.IntKind.i64 v175 fun (n177 : Int) ↦
                                                        Go.AI.put1 σ176 (Go.Addr.mk i168 ((0 : Nat) + (3 : Nat)) Option.none) (Go.Value.int Go.IntKind.i64 n177) fun (σ178 : Go.AI.AS) ↦
                                                          Go.AI.pSome b165 fun (a179 : Go.Addr) ↦
                                                            Go.AI.ldc σ178 (Go.Addr.mk (Go.Addr.block a179) (Go.Addr.off a179 + (1 : Nat)) Option.none) fun (v180 : Go.Value) ↦
                                                              Go.AI.tL (1 : Nat) v180 fun (s181 : Go.AI.Sl) ↦
                                                                Go.AI.newAt σ178 (Go.AI.AObj.row Go.AI.RK.rw [Go.Value.pointer (Option.some (Go.Addr.mk i168 (0 : Nat) Option.none))]) fun (i182 : Nat) (σ183 : Go.AI.AS) ↦
                                                                  Go.AI.lds σ183 (Go.Addr.mk i182 (0 : Nat) Option.none) (1 : Nat) fun (l184 : List Go.Value) ↦
                                                                    Go.AI.appendTo σ183 (1 : Nat) (8 : Nat) (Go.AI.Sl.mk (Go.AI.Sl.a s181) (Go.AI.Sl.n s181)) l184 (1 : Nat) fun (s185 : Go.AI.Sl) (σ186 : Go.AI.AS) ↦
                                                                      Go.AI.pSome b165 fun (a187 : Go.Addr) ↦
                                                                        Go.AI.put1 σ186 (Go.Addr.mk (Go.Addr.block a187) (Go.Addr.off a187 + (1 : Nat)) Option.none)
                                                                          (Go.Value.slice (Go.AI.Sl.a s185) (Go.AI.Sl.n s185) (1 : Nat)) fun (σ188 : Go.AI.AS) ↦
                                                                          T (28 : Nat)
                                                                            [Go.Value.pointer (Option.some (Go.Addr.mk s (0 : Nat) Option.none)), Go.Value.pointer (Option.some (Go.Addr.mk i168 (0 : Nat) Option.none))]
                                                                            σ188 fun (v189 : Go.Value) (σ190 : Go.AI.AS) ↦
                                                                            Go.AI.tI Go.IntKind.i64 v189 fun (n191 : Int) ↦
                                                                              K (Go.Value.tuple (Array.mk [Go.Value.int Go.IntKind.i64 n191, Go.Value.int Go.IntKind.i64 (0 : Int)])) σ190)
                                                False)
                                            (Go.AI.pSome b165 fun (a192 : Go.Addr) ↦
                                              Go.AI.ldc σ170 (Go.Addr.mk (Go.Addr.block a192) (Go.Addr.off a192 + (1 : Nat)) Option.none) fun (v193 : Go.Value) ↦
                                                Go.AI.tL (1 : Nat) v193 fun (s194 : Go.AI.Sl) ↦
                                                  Go.AI.newAt σ170 (Go.AI.AObj.row Go.AI.RK.rw [Go.Value.pointer (Option.some (Go.Addr.mk i168 (0 : Nat) Option.none))]) fun (i195 : Nat) (σ196 : Go.AI.AS) ↦
                                                    Go.AI.lds σ196 (Go.Addr.mk i195 (0 : Nat) Option.none) (1 : Nat) fun (l197 : List Go.Value) ↦
                                                      Go.AI.appendTo σ196 (1 : Nat) (8 : Nat) (Go.AI.Sl.mk (Go.AI.Sl.a s194) (Go.AI.Sl.n s194)) l197 (1 : Nat) fun (s198 : Go.AI.Sl) (σ199 : Go.AI.AS) ↦
                                                        Go.AI.pSome b165 fun (a200 : Go.Addr) ↦
                                                          Go.AI.put1 σ199 (Go.Addr.mk (Go.Addr.block a200) (Go.Addr.off a200 + (1 : Nat)) Option.none) (Go.Value.slice (Go.AI.Sl.a s198) (Go.AI.Sl.n s198) (1 : Nat))
                                                            fun (σ201 : Go.AI.AS) ↦
                                                            T (28 : Nat) [Go.Value.pointer (Option.some (Go.Addr.mk s (0 : Nat) Option.none)), Go.Value.pointer (Option.some (Go.Addr.mk i168 (0 : Nat) Option.none))]
                                                              σ201 fun (v202 : Go.Value) (σ203 : Go.AI.AS) ↦
                                                              Go.AI.tI Go.IntKind.i64 v202 fun (n204 : Int) ↦
                                                                K (Go.Value.tuple (Array.mk [Go.Value.int Go.IntKind.i64 n204, Go.Value.int Go.IntKind.i64 (0 : Int)])) σ203))
                                        (Go.AI.bmatch (mode == (5 : Int))
                                          (Go.AI.ldc σ169 (Go.Addr.mk i168 (0 : Nat) Option.none) fun (v205 : Go.Value) ↦
                                            Go.AI.tIf v205
                                              (fun (t206 : Nat) (u207 : Go.Value) ↦
                                                Go.AI.pSome (Go.AI.methodOf Go.Proofs.Try.prog t206 "grotto/shelf.size") fun (f208 : Go.FuncId) ↦
                                                  T f208 [u207] σ169 fun (v209 : Go.Value) (σ210 : Go.AI.AS) ↦
                                                    Go.AI.tI Go.IntKind.i64 v209 fun (n211 : Int) ↦
                                                      Go.AI.put1 σ210 (Go.Addr.mk i168 ((0 : Nat) + (3 : Nat)) Option.none) (Go.Value.int Go.IntKind.i64 n211) fun (σ212 : Go.AI.AS) ↦
                                                        Go.AI.pSome b165 fun (a213 : Go.Addr) ↦
                                                          Go.AI.ldc σ212 (Go.Addr.mk (Go.Addr.block a213) (Go.Addr.off a213 + (1 : Nat)) Option.none) fun (v214 : Go.Value) ↦
                                                            Go.AI.tL (1 : Nat) v214 fun (s215 : Go.AI.Sl) ↦
                                                              Go.AI.newAt σ212 (Go.AI.AObj.row Go.AI.RK.rw [Go.Value.pointer (Option.some (Go.Addr.mk i168 (0 : Nat) Option.none))]) fun (i216 : Nat) (σ217 : Go.AI.AS) ↦
                                                                Go.AI.lds σ217 (Go.Addr.mk i216 (0 : Nat) Option.none) (1 : Nat) fun (l218 : List Go.Value) ↦
                                                                  Go.AI.appendTo σ217 (1 : Nat) (8 : Nat) (Go.AI.Sl.mk (Go.AI.Sl.a s215) (Go.AI.Sl.n s215)) l218 (1 : Nat) fun (s219 : Go.AI.Sl) (σ220 : Go.AI.AS) ↦
                                                                    Go.AI.pSome b165 fun (a221 : Go.Addr) ↦
                                                                      Go.AI.put1 σ220 (Go.Addr.mk (Go.Addr.block a221) (Go.Addr.off a221 + (1 : Nat)) Option.none)
                                                                        (Go.Value.slice (Go.AI.Sl.a s219) (Go.AI.Sl.n s219) (1 : Nat)) fun (σ222 : Go.AI.AS) ↦
                                                                        T (28 : Nat)
                                                                          [Go.Value.pointer (Option.some (Go.Addr.mk s (0 : Nat) Option.none)), Go.Value.pointer (Option.some (Go.Addr.mk i168 (0 : Nat) Option.none))]
                                                                          σ222 fun (v223 : Go.Value) (σ224 : Go.AI.AS) ↦
                                                                          Go.AI.tI Go.IntKind.i64 v223 fun (n225 : Int) ↦
                                                                            K (Go.Value.tuple (Array.mk [Go.Value.int Go.IntKind.i64 n225, Go.Value.int Go.IntKind.i64 (0 : Int)])) σ224)
                                              False)
                                          (Go.AI.pSome b165 fun (a226 : Go.Addr) ↦
                                            Go.AI.ldc σ169 (Go.Addr.mk (Go.Addr.block a226) (Go.Addr.off a226 + (1 : Nat)) Option.none) fun (v227 : Go.Value) ↦
                                              Go.AI.tL (1 : Nat) v227 fun (s228 : Go.AI.Sl) ↦
                                                Go.AI.newAt σ169 (Go.AI.AObj.row Go.AI.RK.rw [Go.Value.pointer (Option.some (Go.Addr.mk i168 (0 : Nat) Option.none))]) fun (i229 : Nat) (σ230 : Go.AI.AS) ↦
                                                  Go.AI.lds σ230 (Go.Addr.mk i229 (0 : Nat) Option.none) (1 : Nat) fun (l231 : List Go.Value) ↦
                                                    Go.AI.appendTo σ230 (1 : Nat) (8 : Nat) (Go.AI.Sl.mk (Go.AI.Sl.a s228) (Go.AI.Sl.n s228)) l231 (1 : Nat) fun (s232 : Go.AI.Sl) (σ233 : Go.AI.AS) ↦
                                                      Go.AI.pSome b165 fun (a234 : Go.Addr) ↦
                                                        Go.AI.put1 σ233 (Go.Addr.mk (Go.Addr.block a234) (Go.Addr.off a234 + (1 : Nat)) Option.none) (Go.Value.slice (Go.AI.Sl.a s232) (Go.AI.Sl.n s232) (1 : Nat))
                                                          fun (σ235 : Go.AI.AS) ↦
                                                          T (28 : Nat) [Go.Value.pointer (Option.some (Go.Addr.mk s (0 : Nat) Option.none)), Go.Value.pointer (Option.some (Go.Addr.mk i168 (0 : Nat) Option.none))]
                                                            σ235 fun (v236 : Go.Value) (σ237 : Go.AI.AS) ↦
                                                            Go.AI.tI Go.IntKind.i64 v236 fun (n238 : Int) ↦
                                                              K (Go.Value.tuple (Array.mk [Go.Value.int Go.IntKind.i64 n238, Go.Value.int Go.IntKind.i64 (0 : Int)])) σ237)))
                                (Go.AI.newAt σ1
                                  (Go.AI.AObj.row Go.AI.RK.plain
                                    [Go.Value.iface (78 : Nat) (Go.Value.agg (Array.mk [Go.Value.pointer b165])), Go.Value.pointer b165, Go.Value.int Go.IntKind.i64 mode, Go.Value.int Go.IntKind.i64 (0 : Int),
                                      Go.Value.int Go.IntKind.u32 (0 : Int), Go.Value.int Go.IntKind.u32 (0 : Int)])
                                  fun (i239 : Nat) (σ240 : Go.AI.AS) ↦
                                  Go.AI.bmatch w
                                    (Go.AI.put1 σ240 (Go.Addr.mk i239 (0 : Nat) Option.none) (Go.Value.iface (83 : Nat) (Go.Value.agg (Array.mk [Go.Value.pointer b165]))) fun (σ241 : Go.AI.AS) ↦
                                      Go.AI.bmatch (mode == (5 : Int))
                                        (Go.AI.ldc σ241 (Go.Addr.mk i239 (0 : Nat) Option.none) fun (v242 : Go.Value) ↦
                                          Go.AI.tIf v242
                                            (fun (t243 : Nat) (u244 : Go.Value) ↦
                                              Go.AI.pSome (Go.AI.methodOf Go.Proofs.Try.prog t243 "grotto/shelf.size") fun (f245 : Go.FuncId) ↦
                                                T f245 [u244] σ241 fun (v246 : Go.Value) (σ247 : Go.AI.AS) ↦
                                                  Go.AI.tI Go.IntKind.i64 v246 fun (n248 : Int) ↦
                                                    Go.AI.put1 σ247 (Go.Addr.mk i239 ((0 : Nat) + (3 : Nat)) Option.none) (Go.Value.int Go.IntKind.i64 n248) fun (σ249 : Go.AI.AS) ↦
                                                      Go.AI.pSome b165 fun (a250 : Go.Addr) ↦
                                                        Go.AI.ldc σ249 (Go.Addr.mk (Go.Addr.block a250) (Go.Addr.off a250 + (1 : Nat)) Option.none) fun (v251 : Go.Value) ↦
                                                          Go.AI.tL (1 : Nat) v251 fun (s252 : Go.AI.Sl) ↦
                                                            Go.AI.newAt σ249 (Go.AI.AObj.row Go.AI.RK.rw [Go.Value.pointer (Option.some (Go.Addr.mk i239 (0 : Nat) Option.none))]) fun (i253 : Nat) (σ254 : Go.AI.AS) ↦
                                                              Go.AI.lds σ254 (Go.Addr.mk i253 (0 : Nat) Option.none) (1 : Nat) fun (l255 : List Go.Value) ↦
                                                                Go.AI.appendTo σ254 (1 : Nat) (8 : Nat) (Go.AI.Sl.mk (Go.AI.Sl.a s252) (Go.AI.Sl.n s252)) l255 (1 : Nat) fun (s256 : Go.AI.Sl) (σ257 : Go.AI.AS) ↦
                                                                  Go.AI.pSome b165 fun (a258 : Go.Addr) ↦
                                                                    Go.AI.put1 σ257 (Go.Addr.mk (Go.Addr.block a258) (Go.Addr.off a258 + (1 : Nat)) Option.none)
                                                                      (Go.Value.slice (Go.AI.Sl.a s256) (Go.AI.Sl.n s256) (1 : Nat)) fun (σ259 : Go.AI.AS) ↦
                                                                      T (28 : Nat)
                                                                        [Go.Value.pointer (Option.some (Go.Addr.mk s (0 : Nat) Option.none)), Go.Value.pointer (Option.some (Go.Addr.mk i239 (0 : Nat) Option.none))] σ259
                                                                        fun (v260 : Go.Value) (σ261 : Go.AI.AS) ↦
                                                                        Go.AI.tI Go.IntKind.i64 v260 fun (n262 : Int) ↦
                                                                          K (Go.Value.tuple (Array.mk [Go.Value.int Go.IntKind.i64 n262, Go.Value.int Go.IntKind.i64 (0 : Int)])) σ261)
                                            False)
                                        (Go.AI.pSome b165 fun (a263 : Go.Addr) ↦
                                          Go.AI.ldc σ241 (Go.Addr.mk (Go.Addr.block a263) (Go.Addr.off a263 + (1 : Nat)) Option.none) fun (v264 : Go.Value) ↦
                                            Go.AI.tL (1 : Nat) v264 fun (s265 : Go.AI.Sl) ↦
                                              Go.AI.newAt σ241 (Go.AI.AObj.row Go.AI.RK.rw [Go.Value.pointer (Option.some (Go.Addr.mk i239 (0 : Nat) Option.none))]) fun (i266 : Nat) (σ267 : Go.AI.AS) ↦
                                                Go.AI.lds σ267 (Go.Addr.mk i266 (0 : Nat) Option.none) (1 : Nat) fun (l268 : List Go.Value) ↦
                                                  Go.AI.appendTo σ267 (1 : Nat) (8 : Nat) (Go.AI.Sl.mk (Go.AI.Sl.a s265) (Go.AI.Sl.n s265)) l268 (1 : Nat) fun (s269 : Go.AI.Sl) (σ270 : Go.AI.AS) ↦
                                                    Go.AI.pSome b165 fun (a271 : Go.Addr) ↦
                                                      Go.AI.put1 σ270 (Go.Addr.mk (Go.Addr.block a271) (Go.Addr.off a271 + (1 : Nat)) Option.none) (Go.Value.slice (Go.AI.Sl.a s269) (Go.AI.Sl.n s269) (1 : Nat))
                                                        fun (σ272 : Go.AI.AS) ↦
                                                        T (28 : Nat) [Go.Value.pointer (Option.some (Go.Addr.mk s (0 : Nat) Option.none)), Go.Value.pointer (Option.some (Go.Addr.mk i239 (0 : Nat) Option.none))] σ272
                                                          fun (v273 : Go.Value) (σ274 : Go.AI.AS) ↦
                                                          Go.AI.tI Go.IntKind.i64 v273 fun (n275 : Int) ↦ K (Go.Value.tuple (Array.mk [Go.Value.int Go.IntKind.i64 n275, Go.Value.int Go.IntKind.i64 (0 : Int)])) σ274))
                                    (Go.AI.bmatch (mode == (5 : Int))
                                      (Go.AI.ldc σ240 (Go.Addr.mk i239 (0 : Nat) Option.none) fun (v276 : Go.Value) ↦
                                        Go.AI.tIf v276
                                          (fun (t277 : Nat) (u278 : Go.Value) ↦
                                            Go.AI.pSome (Go.AI.methodOf Go.Proofs.Try.prog t277 "grotto/shelf.size") fun (f279 : Go.FuncId) ↦
                                              T f279 [u278] σ240 fun (v280 : Go.Value) (σ281 : Go.AI.AS) ↦
                                                Go.AI.tI Go.IntKind.i64 v280 fun (n282 : Int) ↦
                                                  Go.AI.put1 σ281 (Go.Addr.mk i239 ((0 : Nat) + (3 : Nat)) Option.none) (Go.Value.int Go.IntKind.i64 n282) fun (σ283 : Go.AI.AS) ↦
                                                    Go.AI.pSome b165 fun (a284 : Go.Addr) ↦
                                                      Go.AI.ldc σ283 (Go.Addr.mk (Go.Addr.block a284) (Go.Addr.off a284 + (1 : Nat)) Option.none) fun (v285 : Go.Value) ↦
                                                        Go.AI.tL (1 : Nat) v285 fun (s286 : Go.AI.Sl) ↦
                                                          Go.AI.newAt σ283 (Go.AI.AObj.row Go.AI.RK.rw [Go.Value.pointer (Option.some (Go.Addr.mk i239 (0 : Nat) Option.none))]) fun (i287 : Nat) (σ288 : Go.AI.AS) ↦
                                                            Go.AI.lds σ288 (Go.Addr.mk i287 (0 : Nat) Option.none) (1 : Nat) fun (l289 : List Go.Value) ↦
                                                              Go.AI.appendTo σ288 (1 : Nat) (8 : Nat) (Go.AI.Sl.mk (Go.AI.Sl.a s286) (Go.AI.Sl.n s286)) l289 (1 : Nat) fun (s290 : Go.AI.Sl) (σ291 : Go.AI.AS) ↦
                                                                Go.AI.pSome b165 fun (a292 : Go.Addr) ↦
                                                                  Go.AI.put1 σ291 (Go.Addr.mk (Go.Addr.block a292) (Go.Addr.off a292 + (1 : Nat)) Option.none)
                                                                    (Go.Value.slice (Go.AI.Sl.a s290) (Go.AI.Sl.n s290) (1 : Nat)) fun (σ293 : Go.AI.AS) ↦
                                                                    T (28 : Nat)
                                                                      [Go.Value.pointer (Option.some (Go.Addr.mk s (0 : Nat) Option.none)), Go.Value.pointer (Option.some (Go.Addr.mk i239 (0 : Nat) Option.none))] σ293
                                                                      fun (v294 : Go.Value) (σ295 : Go.AI.AS) ↦
                                                                      Go.AI.tI Go.IntKind.i64 v294 fun (n296 : Int) ↦
                                                                        K (Go.Value.tuple (Array.mk [Go.Value.int Go.IntKind.i64 n296, Go.Value.int Go.IntKind.i64 (0 : Int)])) σ295)
                                          False)
                                      (Go.AI.pSome b165 fun (a297 : Go.Addr) ↦
                                        Go.AI.ldc σ240 (Go.Addr.mk (Go.Addr.block a297) (Go.Addr.off a297 + (1 : Nat)) Option.none) fun (v298 : Go.Value) ↦
                                          Go.AI.tL (1 : Nat) v298 fun (s299 : Go.AI.Sl) ↦
                                            Go.AI.newAt σ240 (Go.AI.AObj.row Go.AI.RK.rw [Go.Value.pointer (Option.some (Go.Addr.mk i239 (0 : Nat) Option.none))]) fun (i300 : Nat) (σ301 : Go.AI.AS) ↦
                                              Go.AI.lds σ301 (Go.Addr.mk i300 (0 : Nat) Option.none) (1 : Nat) fun (l302 : List Go.Value) ↦
                                                Go.AI.appendTo σ301 (1 : Nat) (8 : Nat) (Go.AI.Sl.mk (Go.AI.Sl.a s299) (Go.AI.Sl.n s299)) l302 (1 : Nat) fun (s303 : Go.AI.Sl) (σ304 : Go.AI.AS) ↦
                                                  Go.AI.pSome b165 fun (a305 : Go.Addr) ↦
                                                    Go.AI.put1 σ304 (Go.Addr.mk (Go.Addr.block a305) (Go.Addr.off a305 + (1 : Nat)) Option.none) (Go.Value.slice (Go.AI.Sl.a s303) (Go.AI.Sl.n s303) (1 : Nat))
                                                      fun (σ306 : Go.AI.AS) ↦
                                                      T (28 : Nat) [Go.Value.pointer (Option.some (Go.Addr.mk s (0 : Nat) Option.none)), Go.Value.pointer (Option.some (Go.Addr.mk i239 (0 : Nat) Option.none))] σ306
                                                        fun (v307 : Go.Value) (σ308 : Go.AI.AS) ↦
                                                        Go.AI.tI Go.IntKind.i64 v307 fun (n309 : Int) ↦ K (Go.Value.tuple (Array.mk [Go.Value.int Go.IntKind.i64 n309, Go.Value.int Go.IntKind.i64 (0 : Int)])) σ308))))) := by
  intros
  kernel_rfl

theorem s27 : ∀ (T : Go.AI.Ct) (s : Nat) (name : ByteArray) (mode : Int) (σ : Go.AI.AS) (K : Go.Value → Go.AI.AS → Prop),
  Go.AI.fw Go.Proofs.Try.prog Go.AI.hintsS T (27 : Nat) [Go.Value.pointer (Option.some (Go.Addr.mk s (0 : Nat) Option.none)), Go.Value.string name, Go.Value.int Go.IntKind.i64 mode] σ K =
    Go.AI.ldc σ (Go.Addr.mk s ((0 : Nat) + (2 : Nat)) Option.none) fun (v0 : Go.Value) ↦
      Go.AI.tM v0 fun (b1 : Option Nat) ↦
        Go.AI.mget σ Go.TypeDesc.string b1 (Go.Value.string name) fun (o2 : Option Go.Value) ↦
          Go.AI.tP (Option.getD o2 (Go.Value.pointer Option.none)) fun (b3 : Option Go.Addr) ↦
            T (35 : Nat) [Go.Value.string name] σ fun (v4 : Go.Value) (σ5 : Go.AI.AS) ↦
              Go.AI.tB v4 fun (b6 : Bool) ↦
                Go.AI.bmatch (!b6) (K (Go.Value.int Go.IntKind.i64 (1 : Int)) σ5)
                  (Go.AI.bmatch (Decidable.decide (mode < (1 : Int))) (K (Go.Value.int Go.IntKind.i64 (1 : Int)) σ5)
                    (Go.AI.bmatch (Decidable.decide (mode > (5 : Int))) (K (Go.Value.int Go.IntKind.i64 (1 : Int)) σ5)
                      (Go.AI.bmatch (mode == (4 : Int)) (K (Go.Value.int Go.IntKind.i64 (1 : Int)) σ5)
                        (Go.AI.ldc σ5 (Go.Addr.mk s ((0 : Nat) + (3 : Nat)) Option.none) fun (v7 : Go.Value) ↦
                          Go.AI.tM v7 fun (b8 : Option Nat) ↦
                            Go.AI.mlen σ5 b8 fun (n9 : Int) ↦
                              Go.AI.bmatch (n9 == (64 : Int)) (K (Go.Value.int Go.IntKind.i64 (4 : Int)) σ5)
                                (Go.AI.ptrEq σ5 b3 Option.none fun (r10 : Bool) ↦
                                  Go.AI.bmatch r10
                                    (Go.AI.bmatch (mode == (2 : Int)) (K (Go.Value.int Go.IntKind.i64 (5 : Int)) σ5)
                                      (Go.AI.ptrEq σ5 b3 Option.none fun (r11 : Bool) ↦
                                        Go.AI.bmatch r11
                                          (Go.AI.ldc σ5 (Go.Addr.mk s ((0 : Nat) + (2 : Nat)) Option.none) fun (v12 : Go.Value) ↦
                                            Go.AI.tM v12 fun (b13 : Option Nat) ↦
                                              Go.AI.mlen σ5 b13 fun (n14 : Int) ↦
                                                Go.AI.bmatch (n14 == (64 : Int)) (K (Go.Value.int Go.IntKind.i64 (4 : Int)) σ5)
                                                  (Go.AI.ptrEq σ5 b3 Option.none fun (r15 : Bool) ↦
                                                    Go.AI.bmatch r15 (K (Go.Value.int Go.IntKind.i64 (0 : Int)) σ5)
                                                      (Go.AI.pSome b3 fun (a16 : Go.Addr) ↦
                                                        Go.AI.ldc σ5 (Go.Addr.mk (Go.Addr.block a16) (Go.Addr.off a16 + (1 : Nat)) Option.none) fun (v17 : Go.Value) ↦
                                                          Go.AI.tL (1 : Nat) v17 fun (s18 : Go.AI.Sl) ↦
                                                            Go.AI.ALoop (Go.AI.fl Go.Proofs.Try.prog Go.AI.hintsS T (27 : Nat) [Bool.true, Bool.true, Bool.true, Bool.false, Bool.true, Bool.false] [] K)
                                                              [((2 : Nat), Option.some (Go.Value.int Go.IntKind.i64 mode)), ((63 : Nat), Option.some (Go.Value.slice (Go.AI.Sl.a s18) (Go.AI.Sl.n s18) (1 : Nat))),
                                                                ((64 : Nat), Option.some (Go.Value.int Go.IntKind.i64 (↑(Go.AI.Sl.n s18) : Int))), ((65 : Nat), Option.some (Go.Value.int Go.IntKind.i64 (0 : Int)))]
                                                              σ5)))
                                          (Go.AI.ptrEq σ5 b3 Option.none fun (r19 : Bool) ↦
                                            Go.AI.bmatch r19 (K (Go.Value.int Go.IntKind.i64 (0 : Int)) σ5)
                                              (Go.AI.pSome b3 fun (a20 : Go.Addr) ↦
                                                Go.AI.ldc σ5 (Go.Addr.mk (Go.Addr.block a20) (Go.Addr.off a20 + (1 : Nat)) Option.none) fun (v21 : Go.Value) ↦
                                                  Go.AI.tL (1 : Nat) v21 fun (s22 : Go.AI.Sl) ↦
                                                    Go.AI.ALoop (Go.AI.fl Go.Proofs.Try.prog Go.AI.hintsS T (27 : Nat) [Bool.true, Bool.true, Bool.true, Bool.false, Bool.true, Bool.false] [] K)
                                                      [((2 : Nat), Option.some (Go.Value.int Go.IntKind.i64 mode)), ((63 : Nat), Option.some (Go.Value.slice (Go.AI.Sl.a s22) (Go.AI.Sl.n s22) (1 : Nat))),
                                                        ((64 : Nat), Option.some (Go.Value.int Go.IntKind.i64 (↑(Go.AI.Sl.n s22) : Int))), ((65 : Nat), Option.some (Go.Value.int Go.IntKind.i64 (0 : Int)))]
                                                      σ5))))
                                    (Go.AI.ptrEq σ5 b3 Option.none fun (r23 : Bool) ↦
                                      Go.AI.bmatch r23
                                        (Go.AI.ldc σ5 (Go.Addr.mk s ((0 : Nat) + (2 : Nat)) Option.none) fun (v24 : Go.Value) ↦
                                          Go.AI.tM v24 fun (b25 : Option Nat) ↦
                                            Go.AI.mlen σ5 b25 fun (n26 : Int) ↦
                                              Go.AI.bmatch (n26 == (64 : Int)) (K (Go.Value.int Go.IntKind.i64 (4 : Int)) σ5)
                                                (Go.AI.ptrEq σ5 b3 Option.none fun (r27 : Bool) ↦
                                                  Go.AI.bmatch r27 (K (Go.Value.int Go.IntKind.i64 (0 : Int)) σ5)
                                                    (Go.AI.pSome b3 fun (a28 : Go.Addr) ↦
                                                      Go.AI.ldc σ5 (Go.Addr.mk (Go.Addr.block a28) (Go.Addr.off a28 + (1 : Nat)) Option.none) fun (v29 : Go.Value) ↦
                                                        Go.AI.tL (1 : Nat) v29 fun (s30 : Go.AI.Sl) ↦
                                                          Go.AI.ALoop (Go.AI.fl Go.Proofs.Try.prog Go.AI.hintsS T (27 : Nat) [Bool.true, Bool.true, Bool.true, Bool.false, Bool.true, Bool.false] [] K)
                                                            [((2 : Nat), Option.some (Go.Value.int Go.IntKind.i64 mode)), ((63 : Nat), Option.some (Go.Value.slice (Go.AI.Sl.a s30) (Go.AI.Sl.n s30) (1 : Nat))),
                                                              ((64 : Nat), Option.some (Go.Value.int Go.IntKind.i64 (↑(Go.AI.Sl.n s30) : Int))), ((65 : Nat), Option.some (Go.Value.int Go.IntKind.i64 (0 : Int)))]
                                                            σ5)))
                                        (Go.AI.ptrEq σ5 b3 Option.none fun (r31 : Bool) ↦
                                          Go.AI.bmatch r31 (K (Go.Value.int Go.IntKind.i64 (0 : Int)) σ5)
                                            (Go.AI.pSome b3 fun (a32 : Go.Addr) ↦
                                              Go.AI.ldc σ5 (Go.Addr.mk (Go.Addr.block a32) (Go.Addr.off a32 + (1 : Nat)) Option.none) fun (v33 : Go.Value) ↦
                                                Go.AI.tL (1 : Nat) v33 fun (s34 : Go.AI.Sl) ↦
                                                  Go.AI.ALoop (Go.AI.fl Go.Proofs.Try.prog Go.AI.hintsS T (27 : Nat) [Bool.true, Bool.true, Bool.true, Bool.false, Bool.true, Bool.false] [] K)
                                                    [((2 : Nat), Option.some (Go.Value.int Go.IntKind.i64 mode)), ((63 : Nat), Option.some (Go.Value.slice (Go.AI.Sl.a s34) (Go.AI.Sl.n s34) (1 : Nat))),
                                                      ((64 : Nat), Option.some (Go.Value.int Go.IntKind.i64 (↑(Go.AI.Sl.n s34) : Int))), ((65 : Nat), Option.some (Go.Value.int Go.IntKind.i64 (0 : Int)))]
                                                    σ5)))))))) := by
  intros
  kernel_rfl

theorem s27l : ∀ (T : Go.AI.Ct) (mode : Int) (a : Option Go.Addr) (m : Nat) (len i : Int) (X : Go.AI.Regs → Go.AI.AS → Prop) (σ : Go.AI.AS) (K : Go.Value → Go.AI.AS → Prop),
  Go.AI.fl Go.Proofs.Try.prog Go.AI.hintsS T (27 : Nat) [Bool.true, Bool.true, Bool.true, Bool.false, Bool.true, Bool.false] [] K X
      [((2 : Nat), Option.some (Go.Value.int Go.IntKind.i64 mode)), ((63 : Nat), Option.some (Go.Value.slice a m (1 : Nat))), ((64 : Nat), Option.some (Go.Value.int Go.IntKind.i64 len)),
        ((65 : Nat), Option.some (Go.Value.int Go.IntKind.i64 i))]
      σ =
    Go.AI.bmatch (Decidable.decide (i < len))
      (Go.AI.req ((0 : Int) ≤ i)
        (Go.AI.req (i < (↑m : Int))
          (Go.AI.pSome a fun (a0 : Go.Addr) ↦
            Go.AI.ldc σ (Go.Addr.add a0 (Int.toNat i * Go.AI.szOf Go.Proofs.Try.prog (76 : Nat))) fun (v1 : Go.Value) ↦
              Go.AI.tP v1 fun (b2 : Option Go.Addr) ↦
                Go.AI.pSome b2 fun (a3 : Go.Addr) ↦
                  Go.AI.ldc σ (Go.Addr.mk (Go.Addr.block a3) (Go.Addr.off a3 + (2 : Nat)) Option.none) fun (v4 : Go.Value) ↦
                    Go.AI.tI Go.IntKind.i64 v4 fun (n5 : Int) ↦
                      Go.AI.bmatch (n5 != (2 : Int)) (K (Go.Value.int Go.IntKind.i64 (6 : Int)) σ)
                        (Go.AI.bmatch (mode != (2 : Int)) (K (Go.Value.int Go.IntKind.i64 (6 : Int)) σ)
                          (X
                            [((2 : Nat), Option.some (Go.Value.int Go.IntKind.i64 mode)), ((63 : Nat), Option.some (Go.Value.slice a m (1 : Nat))), ((64 : Nat), Option.some (Go.Value.int Go.IntKind.i64 len)),
                              ((65 : Nat), Option.some (Go.Value.int Go.IntKind.i64 (Go.IntKind.wrap Go.IntKind.i64 (i + (1 : Int)))))]
                            σ)))))
      (K (Go.Value.int Go.IntKind.i64 (0 : Int)) σ) := by
  intros
  kernel_rfl

theorem s30 : ∀ (T : Go.AI.Ct) (a : Option Go.Addr) (m c : Nat) (σ : Go.AI.AS) (K : Go.Value → Go.AI.AS → Prop),
  Go.AI.fw Go.Proofs.Try.prog Go.AI.hintsS T (30 : Nat)
      [Go.Value.slice a m (1 : Nat), Go.Value.func (Go.Fn.func (31 : Go.FuncId)) (Array.mk []) (Array.mk [Go.Value.pointer (Option.some (Go.Addr.mk c (0 : Nat) Option.none))])] σ K =
    T (39 : Nat) [Go.Value.slice a m (1 : Nat), Go.Value.func (Go.Fn.func (31 : Go.FuncId)) (Array.mk []) (Array.mk [Go.Value.pointer (Option.some (Go.Addr.mk c (0 : Nat) Option.none))])] σ
      fun (v0 : Go.Value) (σ1 : Go.AI.AS) ↦
      Go.AI.tI Go.IntKind.i64 v0 fun (n2 : Int) ↦
        Go.AI.bmatch (n2 == (-1 : Int)) (K (Go.Value.slice a m (1 : Nat)) σ1)
          (Go.AI.ALoop (Go.AI.fl Go.Proofs.Try.prog Go.AI.hintsS T (30 : Nat) [Bool.true, Bool.true, Bool.true, Bool.false, Bool.true, Bool.false] [] K)
            [((0 : Nat), Option.some (Go.Value.slice a m (1 : Nat))),
              ((1 : Nat), Option.some (Go.Value.func (Go.Fn.func (31 : Go.FuncId)) (Array.mk []) (Array.mk [Go.Value.pointer (Option.some (Go.Addr.mk c (0 : Nat) Option.none))]))),
              ((5 : Nat), Option.some (Go.Value.int Go.IntKind.i64 n2)), ((6 : Nat), Option.some (Go.Value.int Go.IntKind.i64 (Go.IntKind.wrap Go.IntKind.i64 (n2 + (1 : Int)))))]
            σ1) := by
  intros
  kernel_rfl

theorem s39 : ∀ (T : Go.AI.Ct) (a : Option Go.Addr) (m c : Nat) (σ : Go.AI.AS) (K : Go.Value → Go.AI.AS → Prop),
  Go.AI.fw Go.Proofs.Try.prog Go.AI.hintsS T (39 : Nat)
      [Go.Value.slice a m (1 : Nat), Go.Value.func (Go.Fn.func (31 : Go.FuncId)) (Array.mk []) (Array.mk [Go.Value.pointer (Option.some (Go.Addr.mk c (0 : Nat) Option.none))])] σ K =
    Go.AI.ALoop (Go.AI.fl Go.Proofs.Try.prog Go.AI.hintsS T (39 : Nat) [Bool.true, Bool.false, Bool.true, Bool.false] [] K)
      [((0 : Nat), Option.some (Go.Value.slice a m (1 : Nat))),
        ((1 : Nat), Option.some (Go.Value.func (Go.Fn.func (31 : Go.FuncId)) (Array.mk []) (Array.mk [Go.Value.pointer (Option.some (Go.Addr.mk c (0 : Nat) Option.none))]))),
        ((7 : Nat), Option.some (Go.Value.int Go.IntKind.i64 (↑m : Int))), ((8 : Nat), Option.some (Go.Value.int Go.IntKind.i64 (0 : Int)))]
      σ := by
  intros
  kernel_rfl

theorem s39l : ∀ (T : Go.AI.Ct) (a : Option Go.Addr) (m c : Nat) (len i : Int) (X : Go.AI.Regs → Go.AI.AS → Prop) (σ : Go.AI.AS) (K : Go.Value → Go.AI.AS → Prop),
  Go.AI.fl Go.Proofs.Try.prog Go.AI.hintsS T (39 : Nat) [Bool.true, Bool.false, Bool.true, Bool.false] [] K X
      [((0 : Nat), Option.some (Go.Value.slice a m (1 : Nat))),
        ((1 : Nat), Option.some (Go.Value.func (Go.Fn.func (31 : Go.FuncId)) (Array.mk []) (Array.mk [Go.Value.pointer (Option.some (Go.Addr.mk c (0 : Nat) Option.none))]))),
        ((7 : Nat), Option.some (Go.Value.int Go.IntKind.i64 len)), ((8 : Nat), Option.some (Go.Value.int Go.IntKind.i64 i))]
      σ =
    Go.AI.bmatch (Decidable.decide (i < len))
      (Go.AI.req ((0 : Int) ≤ i)
        (Go.AI.req (i < (↑m : Int))
          (Go.AI.pSome a fun (a0 : Go.Addr) ↦
            Go.AI.ldc σ (Go.Addr.add a0 (Int.toNat i * Go.AI.szOf Go.Proofs.Try.prog (76 : Nat))) fun (v1 : Go.Value) ↦
              Go.AI.tP v1 fun (b2 : Option Go.Addr) ↦
                T (31 : Nat) [Go.Value.pointer b2, Go.Value.pointer (Option.some (Go.Addr.mk c (0 : Nat) Option.none))] σ fun (v3 : Go.Value) (σ4 : Go.AI.AS) ↦
                  Go.AI.tB v3 fun (b5 : Bool) ↦
                    Go.AI.bmatch b5 (K (Go.Value.int Go.IntKind.i64 i) σ4)
                      (X
                        [((0 : Nat), Option.some (Go.Value.slice a m (1 : Nat))),
                          ((1 : Nat), Option.some (Go.Value.func (Go.Fn.func (31 : Go.FuncId)) (Array.mk []) (Array.mk [Go.Value.pointer (Option.some (Go.Addr.mk c (0 : Nat) Option.none))]))),
                          ((7 : Nat), Option.some (Go.Value.int Go.IntKind.i64 len)), ((8 : Nat), Option.some (Go.Value.int Go.IntKind.i64 (Go.IntKind.wrap Go.IntKind.i64 (i + (1 : Int)))))]
                        σ4))))
      (K (Go.Value.int Go.IntKind.i64 (-1 : Int)) σ) := by
  intros
  kernel_rfl

end Go.AI
