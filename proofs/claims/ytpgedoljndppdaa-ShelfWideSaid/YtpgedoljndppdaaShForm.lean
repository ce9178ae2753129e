/- The conditions ahead of the calls of the program's functions, reckoned as far as they go (equations that the kernel checks); no condition. -/
import Derived.Test.YtpgedoljndppdaaShSoft
import Derived.Test.YtpgedoljndppdaaAISep
set_option maxRecDepth 1000000
set_option linter.unusedVariables false
namespace Go.AI
open Go.Proofs
theorem s10 : ∀ (T : Go.AI.Ct) (n : Int) (σ : Go.AI.AS) (K : Go.Value → Go.AI.AS → Prop),
  Go.AI.fw Go.Proofs.Try.prog Go.AI.hintsS T (10 : Nat) [Go.Value.int Go.IntKind.i64 n] σ K = K (Go.Value.int Go.IntKind.i64 n) σ := by
  intros
  kernel_rfl

theorem s29 : ∀ (T : Go.AI.Ct) (s : Nat) (n : Int) (σ : Go.AI.AS) (K : Go.Value → Go.AI.AS → Prop),
  Go.AI.fw Go.Proofs.Try.prog Go.AI.hintsS T (29 : Nat) [Go.Value.pointer (Option.some (Go.Addr.mk s (0 : Nat) Option.none)), Go.Value.int Go.IntKind.i64 n] σ K =
    Go.AI.ldc σ (Go.Addr.mk s ((0 : Nat) + (3 : Nat)) Option.none) fun (v0 : Go.Value) ↦
      Go.AI.tM v0 fun (b1 : Option Nat) ↦
        Go.AI.mget σ (Go.TypeDesc.int Go.IntKind.i64) b1 (Go.Value.int Go.IntKind.i64 n) fun (o2 : Option Go.Value) ↦
          Go.AI.tP (Option.getD o2 (Go.Value.pointer Option.none)) fun (b3 : Option Go.Addr) ↦
            Go.AI.ptrEq σ b3 Option.none fun (r4 : Bool) ↦
              Go.AI.bmatch r4 (K (Go.Value.tuple (Array.mk [Go.Value.pointer Option.none, Go.Value.int Go.IntKind.i64 (5 : Int)])) σ)
                (K (Go.Value.tuple (Array.mk [Go.Value.pointer b3, Go.Value.int Go.IntKind.i64 (0 : Int)])) σ) := by
  intros
  kernel_rfl

theorem s33 : ∀ (T : Go.AI.Ct) (s : Nat) (n : Int) (σ : Go.AI.AS) (K : Go.Value → Go.AI.AS → Prop),
  Go.AI.fw Go.Proofs.Try.prog Go.AI.hintsS T (33 : Nat) [Go.Value.pointer (Option.some (Go.Addr.mk s (0 : Nat) Option.none)), Go.Value.int Go.IntKind.i64 n] σ K =
    T (29 : Nat) [Go.Value.pointer (Option.some (Go.Addr.mk s (0 : Nat) Option.none)), Go.Value.int Go.IntKind.i64 n] σ fun (v0 : Go.Value) (σ1 : Go.AI.AS) ↦
      Go.AI.tTup v0 fun (l2 : List Go.Value) ↦
        Go.AI.pSome l2[(0 : Nat)]? fun (u3 : Go.Value) ↦
          Go.AI.tP u3 fun (b4 : Option Go.Addr) ↦
            Go.AI.tTup v0 fun (l5 : List Go.Value) ↦
              Go.AI.pSome l5[(1 : Nat)]? fun (u6 : Go.Value) ↦
                Go.AI.tI Go.IntKind.i64 u6 fun (n7 : Int) ↦
                  Go.AI.bmatch (n7 == (0 : Int))
                    (T (40 : Nat) [Go.Value.pointer b4] σ1 fun (v8 : Go.Value) (σ9 : Go.AI.AS) ↦
                      Go.AI.tB v8 fun (b10 : Bool) ↦
                        Go.AI.bmatch (!b10) (K (Go.Value.tuple (Array.mk [Go.Value.pointer Option.none, Go.Value.int Go.IntKind.i64 (1 : Int)])) σ9)
                          (K (Go.Value.tuple (Array.mk [Go.Value.pointer b4, Go.Value.int Go.IntKind.i64 n7])) σ9))
                    (K (Go.Value.tuple (Array.mk [Go.Value.pointer b4, Go.Value.int Go.IntKind.i64 n7])) σ1) := by
  intros
  kernel_rfl

theorem s40 : ∀ (T : Go.AI.Ct) (s : Nat) (σ : Go.AI.AS) (K : Go.Value → Go.AI.AS → Prop),
  Go.AI.fw Go.Proofs.Try.prog Go.AI.hintsS T (40 : Nat) [Go.Value.pointer (Option.some (Go.Addr.mk s (0 : Nat) Option.none))] σ K =
    Go.AI.ldc σ (Go.Addr.mk s ((0 : Nat) + (2 : Nat)) Option.none) fun (v0 : Go.Value) ↦
      Go.AI.tI Go.IntKind.i64 v0 fun (n1 : Int) ↦
        Go.AI.bmatch (n1 == (2 : Int)) (K (Go.Value.bool Bool.true) σ)
          (Go.AI.ldc σ (Go.Addr.mk s ((0 : Nat) + (2 : Nat)) Option.none) fun (v2 : Go.Value) ↦ Go.AI.tI Go.IntKind.i64 v2 fun (n3 : Int) ↦ K (Go.Value.bool (n3 == (3 : Int))) σ) := by
  intros
  kernel_rfl

theorem s32 : ∀ (T : Go.AI.Ct) (s : Nat) (σ : Go.AI.AS) (K : Go.Value → Go.AI.AS → Prop),
  Go.AI.fw Go.Proofs.Try.prog Go.AI.hintsS T (32 : Nat) [Go.Value.pointer (Option.some (Go.Addr.mk s (0 : Nat) Option.none))] σ K =
    Go.AI.ldc σ (Go.Addr.mk s ((0 : Nat) + (2 : Nat)) Option.none) fun (v0 : Go.Value) ↦ Go.AI.tI Go.IntKind.i64 v0 fun (n1 : Int) ↦ K (Go.Value.bool (n1 != (2 : Int))) σ := by
  intros
  kernel_rfl

theorem s105 : ∀ (T : Go.AI.Ct) (s : Nat) (σ : Go.AI.AS) (K : Go.Value → Go.AI.AS → Prop),
  Go.AI.fw Go.Proofs.Try.prog Go.AI.hintsS T (105 : Nat) [Go.Value.pointer (Option.some (Go.Addr.mk s (0 : Nat) Option.none))] σ K =
    Go.AI.ldc σ (Go.Addr.mk s (0 : Nat) Option.none) fun (v0 : Go.Value) ↦ Go.AI.tL (1 : Nat) v0 fun (s1 : Go.AI.Sl) ↦ K (Go.Value.int Go.IntKind.i64 (↑(Go.AI.Sl.n s1) : Int)) σ := by
  intros
  kernel_rfl

theorem s103 : ∀ (T : Go.AI.Ct) (s : Nat) (i : Int) (σ : Go.AI.AS) (K : Go.Value → Go.AI.AS → Prop),
  Go.AI.fw Go.Proofs.Try.prog Go.AI.hintsS T (103 : Nat) [Go.Value.pointer (Option.some (Go.Addr.mk s (0 : Nat) Option.none)), Go.Value.int Go.IntKind.i64 i] σ K =
    Go.AI.ldc σ (Go.Addr.mk s (0 : Nat) Option.none) fun (v0 : Go.Value) ↦
      Go.AI.tL (1 : Nat) v0 fun (s1 : Go.AI.Sl) ↦
        Go.AI.req ((0 : Int) ≤ i)
          (Go.AI.req (i < (↑(Go.AI.Sl.n s1) : Int))
            (Go.AI.pSome (Go.AI.Sl.a s1) fun (a2 : Go.Addr) ↦
              Go.AI.ldc σ (Go.Addr.add a2 (Int.toNat i * Go.AI.szOf Go.Proofs.Try.prog (32 : Nat))) fun (v3 : Go.Value) ↦ Go.AI.tI Go.IntKind.u32 v3 fun (n4 : Int) ↦ K (Go.Value.int Go.IntKind.u32 n4) σ)) := by
  intros
  kernel_rfl

theorem s34 : ∀ (T : Go.AI.Ct) (s : Nat) (i c : Int) (σ : Go.AI.AS) (K : Go.Value → Go.AI.AS → Prop),
  Go.AI.fw Go.Proofs.Try.prog Go.AI.hintsS T (34 : Nat) [Go.Value.pointer (Option.some (Go.Addr.mk s (0 : Nat) Option.none)), Go.Value.int Go.IntKind.i64 i, Go.Value.int Go.IntKind.u32 c] σ K =
    Go.AI.ldc σ (Go.Addr.mk s ((0 : Nat) + (1 : Nat)) Option.none) fun (v0 : Go.Value) ↦
      Go.AI.tB v0 fun (b1 : Bool) ↦
        Go.AI.bmatch (!b1)
          (T (41 : Nat) [Go.Value.int Go.IntKind.u32 c] σ fun (v2 : Go.Value) (σ3 : Go.AI.AS) ↦
            Go.AI.tI Go.IntKind.u8 v2 fun (n4 : Int) ↦
              Go.AI.ldc σ3 (Go.Addr.mk s (0 : Nat) Option.none) fun (v5 : Go.Value) ↦
                Go.AI.tL (1 : Nat) v5 fun (s6 : Go.AI.Sl) ↦
                  Go.AI.bmatch (Decidable.decide (i < (↑(Go.AI.Sl.n s6) : Int)))
                    (Go.AI.ldc σ3 (Go.Addr.mk s (0 : Nat) Option.none) fun (v7 : Go.Value) ↦
                      Go.AI.tL (1 : Nat) v7 fun (s8 : Go.AI.Sl) ↦
                        Go.AI.req ((0 : Int) ≤ i)
                          (Go.AI.req (i < (↑(Go.AI.Sl.n s8) : Int))
                            (Go.AI.pSome (Go.AI.Sl.a s8) fun (a9 : Go.Addr) ↦
                              Go.AI.put1 σ3 (Go.Addr.add a9 (Int.toNat i * Go.AI.szOf Go.Proofs.Try.prog (32 : Nat))) (Go.Value.int Go.IntKind.u32 (Go.IntKind.wrap Go.IntKind.u32 n4)) fun (σ10 : Go.AI.AS) ↦
                                K (Go.Value.tuple (Array.mk [])) σ10)))
                    (K (Go.Value.tuple (Array.mk [])) σ3))
          (Go.AI.ldc σ (Go.Addr.mk s (0 : Nat) Option.none) fun (v11 : Go.Value) ↦
            Go.AI.tL (1 : Nat) v11 fun (s12 : Go.AI.Sl) ↦
              Go.AI.bmatch (Decidable.decide (i < (↑(Go.AI.Sl.n s12) : Int)))
                (Go.AI.ldc σ (Go.Addr.mk s (0 : Nat) Option.none) fun (v13 : Go.Value) ↦
                  Go.AI.tL (1 : Nat) v13 fun (s14 : Go.AI.Sl) ↦
                    Go.AI.req ((0 : Int) ≤ i)
                      (Go.AI.req (i < (↑(Go.AI.Sl.n s14) : Int))
                        (Go.AI.pSome (Go.AI.Sl.a s14) fun (a15 : Go.Addr) ↦
                          Go.AI.put1 σ (Go.Addr.add a15 (Int.toNat i * Go.AI.szOf Go.Proofs.Try.prog (32 : Nat))) (Go.Value.int Go.IntKind.u32 c) fun (σ16 : Go.AI.AS) ↦ K (Go.Value.tuple (Array.mk [])) σ16)))
                (K (Go.Value.tuple (Array.mk [])) σ)) := by
  intros
  kernel_rfl

theorem s41 : ∀ (T : Go.AI.Ct) (c : Int) (σ : Go.AI.AS) (K : Go.Value → Go.AI.AS → Prop),
  Go.AI.fw Go.Proofs.Try.prog Go.AI.hintsS T (41 : Nat) [Go.Value.int Go.IntKind.u32 c] σ K =
    Go.AI.bmatch (Decidable.decide (c > (255 : Int))) (K (Go.Value.int Go.IntKind.u8 (63 : Int)) σ) (K (Go.Value.int Go.IntKind.u8 (Go.IntKind.wrap Go.IntKind.u8 c)) σ) := by
  intros
  kernel_rfl

theorem s28 : ∀ (T : Go.AI.Ct) (s x : Nat) (σ : Go.AI.AS) (K : Go.Value → Go.AI.AS → Prop),
  Go.AI.fw Go.Proofs.Try.prog Go.AI.hintsS T (28 : Nat) [Go.Value.pointer (Option.some (Go.Addr.mk s (0 : Nat) Option.none)), Go.Value.pointer (Option.some (Go.Addr.mk x (0 : Nat) Option.none))] σ K =
    Go.AI.ldc σ (Go.Addr.mk s ((0 : Nat) + (1 : Nat)) Option.none) fun (v0 : Go.Value) ↦
      Go.AI.tI Go.IntKind.i64 v0 fun (n1 : Int) ↦
        Go.AI.put1 σ (Go.Addr.mk s ((0 : Nat) + (1 : Nat)) Option.none) (Go.Value.int Go.IntKind.i64 (Go.IntKind.wrap Go.IntKind.i64 (n1 + (1 : Int)))) fun (σ2 : Go.AI.AS) ↦
          Go.AI.ldc σ2 (Go.Addr.mk s ((0 : Nat) + (3 : Nat)) Option.none) fun (v3 : Go.Value) ↦
            Go.AI.tM v3 fun (b4 : Option Nat) ↦
              Go.AI.ldc σ2 (Go.Addr.mk s ((0 : Nat) + (1 : Nat)) Option.none) fun (v5 : Go.Value) ↦
                Go.AI.tI Go.IntKind.i64 v5 fun (n6 : Int) ↦
                  Go.AI.pSome b4 fun (i7 : Nat) ↦
                    Go.AI.mset σ2 (Go.TypeDesc.int Go.IntKind.i64) i7 (Go.Value.int Go.IntKind.i64 n6) (Go.Value.pointer (Option.some (Go.Addr.mk x (0 : Nat) Option.none))) fun (σ8 : Go.AI.AS) ↦
                      Go.AI.ldc σ8 (Go.Addr.mk s ((0 : Nat) + (1 : Nat)) Option.none) fun (v9 : Go.Value) ↦ Go.AI.tI Go.IntKind.i64 v9 fun (n10 : Int) ↦ K (Go.Value.int Go.IntKind.i64 n10) σ8 := by
  intros
  kernel_rfl

theorem s9 : ∀ (T : Go.AI.Ct) (n : Int) (σ : Go.AI.AS) (K : Go.Value → Go.AI.AS → Prop),
  Go.AI.fw Go.Proofs.Try.prog Go.AI.hintsS T (9 : Nat) [Go.Value.int Go.IntKind.i64 n] σ K =
    Go.AI.bmatch (Decidable.decide (n < (0 : Int))) (K (Go.Value.tuple (Array.mk [Go.Value.pointer Option.none, Go.Value.int Go.IntKind.i64 (1 : Int)])) σ)
      (Go.AI.bmatch (Decidable.decide (n > (1048576 : Int))) (K (Go.Value.tuple (Array.mk [Go.Value.pointer Option.none, Go.Value.int Go.IntKind.i64 (1 : Int)])) σ)
        (Go.AI.newAt σ (Go.AI.AObj.map [] (0 : Nat)) fun (i0 : Nat) (σ1 : Go.AI.AS) ↦
          Go.AI.newAt σ1 (Go.AI.AObj.map [] (0 : Nat)) fun (i2 : Nat) (σ3 : Go.AI.AS) ↦
            Go.AI.newAt σ3 (Go.AI.AObj.row Go.AI.RK.plain [Go.Value.int Go.IntKind.i64 n, Go.Value.int Go.IntKind.i64 (0 : Int), Go.Value.map (Option.some i0), Go.Value.map (Option.some i2)])
              fun (i4 : Nat) (σ5 : Go.AI.AS) ↦ K (Go.Value.tuple (Array.mk [Go.Value.pointer (Option.some (Go.Addr.mk i4 (0 : Nat) Option.none)), Go.Value.int Go.IntKind.i64 (0 : Int)])) σ5)) := by
  intros
  kernel_rfl

theorem s16 : ∀ (T : Go.AI.Ct) (s : Nat) (n : Int) (σ : Go.AI.AS) (K : Go.Value → Go.AI.AS → Prop),
  Go.AI.fw Go.Proofs.Try.prog Go.AI.hintsS T (16 : Nat) [Go.Value.pointer (Option.some (Go.Addr.mk s (0 : Nat) Option.none)), Go.Value.int Go.IntKind.i64 n] σ K =
    T (33 : Nat) [Go.Value.pointer (Option.some (Go.Addr.mk s (0 : Nat) Option.none)), Go.Value.int Go.IntKind.i64 n] σ fun (v0 : Go.Value) (σ1 : Go.AI.AS) ↦
      Go.AI.tTup v0 fun (l2 : List Go.Value) ↦
        Go.AI.pSome l2[(0 : Nat)]? fun (u3 : Go.Value) ↦
          Go.AI.tP u3 fun (b4 : Option Go.Addr) ↦
            Go.AI.tTup v0 fun (l5 : List Go.Value) ↦
              Go.AI.pSome l5[(1 : Nat)]? fun (u6 : Go.Value) ↦
                Go.AI.tI Go.IntKind.i64 u6 fun (n7 : Int) ↦
                  Go.AI.bmatch (n7 != (0 : Int)) (K (Go.Value.tuple (Array.mk [Go.Value.int Go.IntKind.u32 (0 : Int), Go.Value.bool Bool.false, Go.Value.int Go.IntKind.i64 n7])) σ1)
                    (Go.AI.pSome b4 fun (a8 : Go.Addr) ↦
                      Go.AI.ldc σ1 (Go.Addr.mk (Go.Addr.block a8) (Go.Addr.off a8 + (3 : Nat)) Option.none) fun (v9 : Go.Value) ↦
                        Go.AI.tI Go.IntKind.i64 v9 fun (n10 : Int) ↦
                          Go.AI.pSome b4 fun (a11 : Go.Addr) ↦
                            Go.AI.ldc σ1 (Go.Addr.add a11 (0 : Nat)) fun (v12 : Go.Value) ↦
                              Go.AI.tIf v12
                                (fun (t13 : Nat) (u14 : Go.Value) ↦
                                  Go.AI.pSome (Go.AI.methodOf Go.Proofs.Try.prog t13 "grotto/shelf.size") fun (f15 : Go.FuncId) ↦
                                    T f15 [u14] σ1 fun (v16 : Go.Value) (σ17 : Go.AI.AS) ↦
                                      Go.AI.tI Go.IntKind.i64 v16 fun (n18 : Int) ↦
                                        Go.AI.ldc σ17 (Go.Addr.mk (Go.Addr.block a8) (Go.Addr.off a8 + (3 : Nat)) Option.none) fun (v19 : Go.Value) ↦
                                          Go.AI.tI Go.IntKind.i64 v19 fun (n20 : Int) ↦
                                            Go.Value.int Go.IntKind.i64 n10 = Go.Value.int Go.IntKind.i64 n20 ∧
                                              Go.AI.bmatch (Decidable.decide (n10 ≥ n18))
                                                (K (Go.Value.tuple (Array.mk [Go.Value.int Go.IntKind.u32 (0 : Int), Go.Value.bool Bool.false, Go.Value.int Go.IntKind.i64 n7])) σ17)
                                                (Go.AI.pSome b4 fun (a21 : Go.Addr) ↦
                                                  Go.AI.ldc σ17 (Go.Addr.mk (Go.Addr.block a21) (Go.Addr.off a21 + (3 : Nat)) Option.none) fun (v22 : Go.Value) ↦
                                                    Go.AI.tI Go.IntKind.i64 v22 fun (n23 : Int) ↦
                                                      Go.AI.pSome b4 fun (a24 : Go.Addr) ↦
                                                        Go.AI.put1 σ17 (Go.Addr.mk (Go.Addr.block a24) (Go.Addr.off a24 + (3 : Nat)) Option.none)
                                                          (Go.Value.int Go.IntKind.i64 (Go.IntKind.wrap Go.IntKind.i64 (n23 + (1 : Int)))) fun (σ25 : Go.AI.AS) ↦
                                                          Go.AI.pSome b4 fun (a26 : Go.Addr) ↦
                                                            Go.AI.ldc σ25 (Go.Addr.mk (Go.Addr.block a26) (Go.Addr.off a26 + (4 : Nat)) Option.none) fun (v27 : Go.Value) ↦
                                                              Go.AI.tI Go.IntKind.u32 v27 fun (n28 : Int) ↦
                                                                Go.AI.pSome b4 fun (a29 : Go.Addr) ↦
                                                                  Go.AI.put1 σ25 (Go.Addr.mk (Go.Addr.block a29) (Go.Addr.off a29 + (4 : Nat)) Option.none)
                                                                    (Go.Value.int Go.IntKind.u32 (Go.IntKind.wrap Go.IntKind.u32 (n28 + (1 : Int)))) fun (σ30 : Go.AI.AS) ↦
                                                                    Go.AI.pSome b4 fun (a31 : Go.Addr) ↦
                                                                      Go.AI.ldc σ30 (Go.Addr.add a31 (0 : Nat)) fun (v32 : Go.Value) ↦
                                                                        Go.AI.tIf v32
                                                                          (fun (t33 : Nat) (u34 : Go.Value) ↦
                                                                            Go.AI.pSome b4 fun (a35 : Go.Addr) ↦
                                                                              Go.AI.ldc σ30 (Go.Addr.mk (Go.Addr.block a35) (Go.Addr.off a35 + (3 : Nat)) Option.none) fun (v36 : Go.Value) ↦
                                                                                Go.AI.tI Go.IntKind.i64 v36 fun (n37 : Int) ↦
                                                                                  Go.AI.pSome (Go.AI.methodOf Go.Proofs.Try.prog t33 "grotto/shelf.at") fun (f38 : Go.FuncId) ↦
                                                                                    T f38 [u34, Go.Value.int Go.IntKind.i64 (Go.IntKind.wrap Go.IntKind.i64 (n37 - (1 : Int)))] σ30
                                                                                      fun (v39 : Go.Value) (σ40 : Go.AI.AS) ↦
                                                                                      Go.AI.tI Go.IntKind.u32 v39 fun (n41 : Int) ↦
                                                                                        K (Go.Value.tuple (Array.mk [Go.Value.int Go.IntKind.u32 n41, Go.Value.bool Bool.true, Go.Value.int Go.IntKind.i64 (0 : Int)]))
                                                                                          σ40)
                                                                          (Go.AI.pSome b4 fun (a42 : Go.Addr) ↦
                                                                            Go.AI.ldc σ30 (Go.Addr.mk (Go.Addr.block a42) (Go.Addr.off a42 + (3 : Nat)) Option.none) fun (v43 : Go.Value) ↦
                                                                              Go.AI.tI Go.IntKind.i64 v43 fun (n44 : Int) ↦ False)))
                                False) := by
  intros
  kernel_rfl

theorem s15 : ∀ (T : Go.AI.Ct) (s : Nat) (n : Int) (σ : Go.AI.AS) (K : Go.Value → Go.AI.AS → Prop),
  Go.AI.fw Go.Proofs.Try.prog Go.AI.hintsS T (15 : Nat) [Go.Value.pointer (Option.some (Go.Addr.mk s (0 : Nat) Option.none)), Go.Value.int Go.IntKind.i64 n] σ K =
    T (29 : Nat) [Go.Value.pointer (Option.some (Go.Addr.mk s (0 : Nat) Option.none)), Go.Value.int Go.IntKind.i64 n] σ fun (v0 : Go.Value) (σ1 : Go.AI.AS) ↦
      Go.AI.tTup v0 fun (l2 : List Go.Value) ↦
        Go.AI.pSome l2[(0 : Nat)]? fun (u3 : Go.Value) ↦
          Go.AI.tP u3 fun (b4 : Option Go.Addr) ↦
            Go.AI.tTup v0 fun (l5 : List Go.Value) ↦
              Go.AI.pSome l5[(1 : Nat)]? fun (u6 : Go.Value) ↦
                Go.AI.tI Go.IntKind.i64 u6 fun (n7 : Int) ↦
                  Go.AI.bmatch (n7 != (0 : Int)) (K (Go.Value.tuple (Array.mk [Go.Value.int Go.IntKind.i64 (0 : Int), Go.Value.int Go.IntKind.i64 (0 : Int), Go.Value.int Go.IntKind.i64 n7])) σ1)
                    (Go.AI.pSome b4 fun (a8 : Go.Addr) ↦
                      Go.AI.ldc σ1 (Go.Addr.mk (Go.Addr.block a8) (Go.Addr.off a8 + (3 : Nat)) Option.none) fun (v9 : Go.Value) ↦
                        Go.AI.tI Go.IntKind.i64 v9 fun (n10 : Int) ↦
                          Go.AI.pSome b4 fun (a11 : Go.Addr) ↦
                            Go.AI.ldc σ1 (Go.Addr.add a11 (0 : Nat)) fun (v12 : Go.Value) ↦
                              Go.AI.tIf v12
                                (fun (t13 : Nat) (u14 : Go.Value) ↦
                                  Go.AI.pSome (Go.AI.methodOf Go.Proofs.Try.prog t13 "grotto/shelf.size") fun (f15 : Go.FuncId) ↦
                                    T f15 [u14] σ1 fun (v16 : Go.Value) (σ17 : Go.AI.AS) ↦
                                      Go.AI.tI Go.IntKind.i64 v16 fun (n18 : Int) ↦
                                        Go.AI.ldc σ17 (Go.Addr.mk (Go.Addr.block a8) (Go.Addr.off a8 + (3 : Nat)) Option.none) fun (v19 : Go.Value) ↦
                                          Go.AI.tI Go.IntKind.i64 v19 fun (n20 : Int) ↦
                                            Go.Value.int Go.IntKind.i64 n10 = Go.Value.int Go.IntKind.i64 n20 ∧
                                              K (Go.Value.tuple (Array.mk [Go.Value.int Go.IntKind.i64 n10, Go.Value.int Go.IntKind.i64 n18, Go.Value.int Go.IntKind.i64 (0 : Int)])) σ17)
                                False) := by
  intros
  kernel_rfl

theorem s19 : ∀ (T : Go.AI.Ct) (s : Nat) (n most : Int) (σ : Go.AI.AS) (K : Go.Value → Go.AI.AS → Prop),
  Go.AI.fw Go.Proofs.Try.prog Go.AI.hintsS T (19 : Nat) [Go.Value.pointer (Option.some (Go.Addr.mk s (0 : Nat) Option.none)), Go.Value.int Go.IntKind.i64 n, Go.Value.int Go.IntKind.i64 most] σ K =
    T (33 : Nat) [Go.Value.pointer (Option.some (Go.Addr.mk s (0 : Nat) Option.none)), Go.Value.int Go.IntKind.i64 n] σ fun (v0 : Go.Value) (σ1 : Go.AI.AS) ↦
      Go.AI.tTup v0 fun (l2 : List Go.Value) ↦
        Go.AI.pSome l2[(0 : Nat)]? fun (u3 : Go.Value) ↦
          Go.AI.tP u3 fun (b4 : Option Go.Addr) ↦
            Go.AI.tTup v0 fun (l5 : List Go.Value) ↦
              Go.AI.pSome l5[(1 : Nat)]? fun (u6 : Go.Value) ↦
                Go.AI.tI Go.IntKind.i64 u6 fun (n7 : Int) ↦
                  Go.AI.bmatch (n7 != (0 : Int)) (K (Go.Value.tuple (Array.mk [Go.Value.slice Option.none (0 : Nat) (0 : Nat), Go.Value.int Go.IntKind.i64 n7])) σ1)
                    (Go.AI.ALoop (Go.AI.fl Go.Proofs.Try.prog Go.AI.hintsS T (19 : Nat) [Bool.true, Bool.true, Bool.true, Bool.false, Bool.false] [] K)
                      [((0 : Nat), Option.some (Go.Value.pointer (Option.some (Go.Addr.mk s (0 : Nat) Option.none)))), ((1 : Nat), Option.some (Go.Value.int Go.IntKind.i64 n)),
                        ((2 : Nat), Option.some (Go.Value.int Go.IntKind.i64 most)), ((10 : Nat), Option.some (Go.Value.slice Option.none (0 : Nat) (0 : Nat)))]
                      σ1) := by
  intros
  kernel_rfl

theorem s19l : ∀ (T : Go.AI.Ct) (s : Nat) (n most : Int) (a : Option Go.Addr) (m e : Nat) (X : Go.AI.Regs → Go.AI.AS → Prop) (σ : Go.AI.AS) (K : Go.Value → Go.AI.AS → Prop),
  Go.AI.fl Go.Proofs.Try.prog Go.AI.hintsS T (19 : Nat) [Bool.true, Bool.true, Bool.true, Bool.false, Bool.false] [] K X
      [((0 : Nat), Option.some (Go.Value.pointer (Option.some (Go.Addr.mk s (0 : Nat) Option.none)))), ((1 : Nat), Option.some (Go.Value.int Go.IntKind.i64 n)),
        ((2 : Nat), Option.some (Go.Value.int Go.IntKind.i64 most)), ((10 : Nat), Option.some (Go.Value.slice a m e))]
      σ =
    Go.AI.bmatch (Decidable.decide ((↑m : Int) < most))
      (T (16 : Nat) [Go.Value.pointer (Option.some (Go.Addr.mk s (0 : Nat) Option.none)), Go.Value.int Go.IntKind.i64 n] σ fun (v0 : Go.Value) (σ1 : Go.AI.AS) ↦
        Go.AI.tTup v0 fun (l2 : List Go.Value) ↦
          Go.AI.pSome l2[(0 : Nat)]? fun (u3 : Go.Value) ↦
            Go.AI.tI Go.IntKind.u32 u3 fun (n4 : Int) ↦
              Go.AI.tTup v0 fun (l5 : List Go.Value) ↦
                Go.AI.pSome l5[(1 : Nat)]? fun (u6 : Go.Value) ↦
                  Go.AI.tB u6 fun (b7 : Bool) ↦
                    Go.AI.tTup v0 fun (l8 : List Go.Value) ↦
                      Go.AI.pSome l8[(2 : Nat)]? fun (u9 : Go.Value) ↦
                        Go.AI.tI Go.IntKind.i64 u9 fun (n10 : Int) ↦
                          Go.AI.bmatch (!b7) (K (Go.Value.tuple (Array.mk [Go.Value.slice a m e, Go.Value.int Go.IntKind.i64 (0 : Int)])) σ1)
                            (Go.AI.newAt σ1 (Go.AI.AObj.row Go.AI.RK.rw [Go.Value.int Go.IntKind.u32 n4]) fun (i11 : Nat) (σ12 : Go.AI.AS) ↦
                              Go.AI.chk (Go.AI.nilOr a e (Go.AI.szOf Go.Proofs.Try.prog (32 : Nat)))
                                (Go.AI.lds σ12 (Go.Addr.mk i11 (0 : Nat) Option.none) (1 : Nat) fun (l13 : List Go.Value) ↦
                                  Go.AI.appendTo σ12 (1 : Nat) (4 : Nat) (Go.AI.Sl.mk a m) l13 (1 : Nat) fun (s14 : Go.AI.Sl) (σ15 : Go.AI.AS) ↦
                                    Go.AI.bmatch (n4 == (10 : Int)) (K (Go.Value.tuple (Array.mk [Go.Value.slice (Go.AI.Sl.a s14) (Go.AI.Sl.n s14) (1 : Nat), Go.Value.int Go.IntKind.i64 (0 : Int)])) σ15)
                                      (X
                                        [((0 : Nat), Option.some (Go.Value.pointer (Option.some (Go.Addr.mk s (0 : Nat) Option.none)))), ((1 : Nat), Option.some (Go.Value.int Go.IntKind.i64 n)),
                                          ((2 : Nat), Option.some (Go.Value.int Go.IntKind.i64 most)), ((10 : Nat), Option.some (Go.Value.slice (Go.AI.Sl.a s14) (Go.AI.Sl.n s14) (1 : Nat)))]
                                        σ15))))
      (K (Go.Value.tuple (Array.mk [Go.Value.slice a m e, Go.Value.int Go.IntKind.i64 (0 : Int)])) σ) := by
  intros
  kernel_rfl

theorem s17 : ∀ (T : Go.AI.Ct) (s : Nat) (a : Option Go.Addr) (m : Nat) (mode : Int) (w : Bool) (σ : Go.AI.AS) (K : Go.Value → Go.AI.AS → Prop),
  Go.AI.fw Go.Proofs.Try.prog Go.AI.hintsS T (17 : Nat) [Go.Value.pointer (Option.some (Go.Addr.mk s (0 : Nat) Option.none)), Go.Value.slice a m (1 : Nat), Go.Value.int Go.IntKind.i64 mode, Go.Value.bool w]
      σ K =
    Go.AI.bmatch (Decidable.decide (mode < (1 : Int))) (K (Go.Value.tuple (Array.mk [Go.Value.int Go.IntKind.i64 (0 : Int), Go.Value.int Go.IntKind.i64 (1 : Int)])) σ)
      (Go.AI.bmatch (Decidable.decide (mode > (3 : Int))) (K (Go.Value.tuple (Array.mk [Go.Value.int Go.IntKind.i64 (0 : Int), Go.Value.int Go.IntKind.i64 (1 : Int)])) σ)
        (Go.AI.bmatch (Decidable.decide ((↑m : Int) > (4096 : Int))) (K (Go.Value.tuple (Array.mk [Go.Value.int Go.IntKind.i64 (0 : Int), Go.Value.int Go.IntKind.i64 (1 : Int)])) σ)
          (Go.AI.ldc σ (Go.Addr.mk s ((0 : Nat) + (3 : Nat)) Option.none) fun (v0 : Go.Value) ↦
            Go.AI.tM v0 fun (b1 : Option Nat) ↦
              Go.AI.mlen σ b1 fun (n2 : Int) ↦
                Go.AI.bmatch (n2 == (64 : Int)) (K (Go.Value.tuple (Array.mk [Go.Value.int Go.IntKind.i64 (0 : Int), Go.Value.int Go.IntKind.i64 (4 : Int)])) σ)
                  (Go.AI.req ((0 : Int) ≤ (↑m : Int))
                    (Go.AI.req ((↑m : Int) ≤ (↑m : Int))
                      (Go.AI.req ((↑m : Int) * (↑(Go.AI.bytesOf Go.Proofs.Try.prog (32 : Nat)) : Int) ≤ (140737488355328 : Int))
                        (Go.AI.newAt σ (Go.AI.AObj.row Go.AI.RK.rw (List.flatten (List.replicate (Int.toNat (↑m : Int)) (Go.AI.valCells (Go.Value.int Go.IntKind.u32 (0 : Int)))))) fun (i3 : Nat) (σ4 : Go.AI.AS) ↦
                          Go.AI.newAt σ4 (Go.AI.AObj.row Go.AI.RK.plain [Go.Value.slice (Option.some (Go.Addr.mk i3 (0 : Nat) Option.none)) (Int.toNat (↑m : Int)) (1 : Nat), Go.Value.bool w])
                            fun (i5 : Nat) (σ6 : Go.AI.AS) ↦
                            Go.AI.ALoop (Go.AI.fl Go.Proofs.Try.prog Go.AI.hintsS T (17 : Nat) [Bool.true, Bool.true, Bool.true, Bool.false, Bool.true, Bool.false] [] K)
                              [((0 : Nat), Option.some (Go.Value.pointer (Option.some (Go.Addr.mk s (0 : Nat) Option.none)))), ((2 : Nat), Option.some (Go.Value.int Go.IntKind.i64 mode)),
                                ((10 : Nat), Option.some (Go.Value.pointer (Option.some (Go.Addr.mk i5 (0 : Nat) Option.none)))), ((41 : Nat), Option.some (Go.Value.slice a m (1 : Nat))),
                                ((42 : Nat), Option.some (Go.Value.int Go.IntKind.i64 (↑m : Int))), ((43 : Nat), Option.some (Go.Value.int Go.IntKind.i64 (0 : Int)))]
                              σ6))))))) := by
  intros
  kernel_rfl

theorem s17l : ∀ (T : Go.AI.Ct) (s b : Nat) (a : Option Go.Addr) (m : Nat) (mode i len : Int) (X : Go.AI.Regs → Go.AI.AS → Prop) (σ : Go.AI.AS) (K : Go.Value → Go.AI.AS → Prop),
  Go.AI.fl Go.Proofs.Try.prog Go.AI.hintsS T (17 : Nat) [Bool.true, Bool.true, Bool.true, Bool.false, Bool.true, Bool.false] [] K X
      [((0 : Nat), Option.some (Go.Value.pointer (Option.some (Go.Addr.mk s (0 : Nat) Option.none)))), ((2 : Nat), Option.some (Go.Value.int Go.IntKind.i64 mode)),
        ((10 : Nat), Option.some (Go.Value.pointer (Option.some (Go.Addr.mk b (0 : Nat) Option.none)))), ((41 : Nat), Option.some (Go.Value.slice a m (1 : Nat))),
        ((42 : Nat), Option.some (Go.Value.int Go.IntKind.i64 len)), ((43 : Nat), Option.some (Go.Value.int Go.IntKind.i64 i))]
      σ =
    Go.AI.bmatch (Decidable.decide (i < len))
      (Go.AI.req ((0 : Int) ≤ i)
        (Go.AI.req (i < (↑m : Int))
          (Go.AI.pSome a fun (a0 : Go.Addr) ↦
            Go.AI.ldc σ (Go.Addr.add a0 (Int.toNat i * Go.AI.szOf Go.Proofs.Try.prog (32 : Nat))) fun (v1 : Go.Value) ↦
              Go.AI.tI Go.IntKind.u32 v1 fun (n2 : Int) ↦
                T (34 : Nat) [Go.Value.pointer (Option.some (Go.Addr.mk b (0 : Nat) Option.none)), Go.Value.int Go.IntKind.i64 i, Go.Value.int Go.IntKind.u32 n2] σ fun (v3 : Go.Value) (σ4 : Go.AI.AS) ↦
                  X
                    [((0 : Nat), Option.some (Go.Value.pointer (Option.some (Go.Addr.mk s (0 : Nat) Option.none)))), ((2 : Nat), Option.some (Go.Value.int Go.IntKind.i64 mode)),
                      ((10 : Nat), Option.some (Go.Value.pointer (Option.some (Go.Addr.mk b (0 : Nat) Option.none)))), ((41 : Nat), Option.some (Go.Value.slice a m (1 : Nat))),
                      ((42 : Nat), Option.some (Go.Value.int Go.IntKind.i64 len)), ((43 : Nat), Option.some (Go.Value.int Go.IntKind.i64 (Go.IntKind.wrap Go.IntKind.i64 (i + (1 : Int)))))]
                    σ4)))
      (Go.AI.newAt σ
        (Go.AI.AObj.row Go.AI.RK.plain
          [Go.Value.iface (87 : Nat) (Go.Value.pointer (Option.some (Go.Addr.mk b (0 : Nat) Option.none))), Go.Value.pointer Option.none, Go.Value.int Go.IntKind.i64 mode, Go.Value.int Go.IntKind.i64 (0 : Int),
            Go.Value.int Go.IntKind.u32 (0 : Int), Go.Value.int Go.IntKind.u32 (0 : Int)])
        fun (i5 : Nat) (σ6 : Go.AI.AS) ↦
        T (28 : Nat) [Go.Value.pointer (Option.some (Go.Addr.mk s (0 : Nat) Option.none)), Go.Value.pointer (Option.some (Go.Addr.mk i5 (0 : Nat) Option.none))] σ6 fun (v7 : Go.Value) (σ8 : Go.AI.AS) ↦
          Go.AI.tI Go.IntKind.i64 v7 fun (n9 : Int) ↦ K (Go.Value.tuple (Array.mk [Go.Value.int Go.IntKind.i64 n9, Go.Value.int Go.IntKind.i64 (0 : Int)])) σ8) := by
  intros
  kernel_rfl

theorem s18 : ∀ (T : Go.AI.Ct) (a b : Option Go.Addr) (m n ea eb : Nat) (σ : Go.AI.AS) (K : Go.Value → Go.AI.AS → Prop),
  Go.AI.fw Go.Proofs.Try.prog Go.AI.hintsS T (18 : Nat) [Go.Value.slice a m ea, Go.Value.slice b n eb] σ K =
    Go.AI.bmatch ((↑m : Int) != (↑n : Int)) (K (Go.Value.bool Bool.false) σ)
      (Go.AI.ALoop (Go.AI.fl Go.Proofs.Try.prog Go.AI.hintsS T (18 : Nat) [Bool.true, Bool.true, Bool.false, Bool.true, Bool.false] [] K)
        [((0 : Nat), Option.some (Go.Value.slice a m ea)), ((1 : Nat), Option.some (Go.Value.slice b n eb)), ((5 : Nat), Option.some (Go.Value.int Go.IntKind.i64 (0 : Int)))] σ) := by
  intros
  kernel_rfl

theorem s18l : ∀ (T : Go.AI.Ct) (a b : Option Go.Addr) (m n ea eb : Nat) (i : Int) (X : Go.AI.Regs → Go.AI.AS → Prop) (σ : Go.AI.AS) (K : Go.Value → Go.AI.AS → Prop),
  Go.AI.fl Go.Proofs.Try.prog Go.AI.hintsS T (18 : Nat) [Bool.true, Bool.true, Bool.false, Bool.true, Bool.false] [] K X
      [((0 : Nat), Option.some (Go.Value.slice a m ea)), ((1 : Nat), Option.some (Go.Value.slice b n eb)), ((5 : Nat), Option.some (Go.Value.int Go.IntKind.i64 i))] σ =
    Go.AI.bmatch (Decidable.decide (i < (↑m : Int)))
      (Go.AI.req ((0 : Int) ≤ i)
        (Go.AI.req (i < (↑m : Int))
          (Go.AI.pSome a fun (a0 : Go.Addr) ↦
            Go.AI.req (ea = Go.AI.szOf Go.Proofs.Try.prog (32 : Nat))
              (Go.AI.ldc σ (Go.Addr.add a0 (Int.toNat i * Go.AI.szOf Go.Proofs.Try.prog (32 : Nat))) fun (v1 : Go.Value) ↦
                Go.AI.tI Go.IntKind.u32 v1 fun (n2 : Int) ↦
                  Go.AI.req ((0 : Int) ≤ i)
                    (Go.AI.req (i < (↑n : Int))
                      (Go.AI.pSome b fun (a3 : Go.Addr) ↦
                        Go.AI.req (eb = Go.AI.szOf Go.Proofs.Try.prog (32 : Nat))
                          (Go.AI.ldc σ (Go.Addr.add a3 (Int.toNat i * Go.AI.szOf Go.Proofs.Try.prog (32 : Nat))) fun (v4 : Go.Value) ↦
                            Go.AI.tI Go.IntKind.u32 v4 fun (n5 : Int) ↦
                              Go.AI.bmatch (n2 != n5) (K (Go.Value.bool Bool.false) σ)
                                (X
                                  [((0 : Nat), Option.some (Go.Value.slice a m ea)), ((1 : Nat), Option.some (Go.Value.slice b n eb)),
                                    ((5 : Nat), Option.some (Go.Value.int Go.IntKind.i64 (Go.IntKind.wrap Go.IntKind.i64 (i + (1 : Int)))))]
                                  σ))))))))
      (K (Go.Value.bool Bool.true) σ) := by
  intros
  kernel_rfl

theorem s5 : ∀ (T : Go.AI.Ct) (a : Option Go.Addr) (m : Nat) (most : Int) (σ : Go.AI.AS) (K : Go.Value → Go.AI.AS → Prop),
  Go.AI.fw Go.Proofs.Try.prog Go.AI.hintsS T (5 : Nat) [Go.Value.slice a m (1 : Nat), Go.Value.int Go.IntKind.u8 most] σ K =
    Go.AI.bmatch (Decidable.decide ((↑m : Int) > (4096 : Int))) (T (11 : Nat) [] σ fun (v0 : Go.Value) (σ1 : Go.AI.AS) ↦ Go.AI.tB v0 fun (b2 : Bool) ↦ K (Go.Value.bool b2) σ1)
      (T (9 : Nat) [Go.Value.int Go.IntKind.i64 (0 : Int)] σ fun (v3 : Go.Value) (σ4 : Go.AI.AS) ↦
        Go.AI.tTup v3 fun (l5 : List Go.Value) ↦
          Go.AI.pSome l5[(0 : Nat)]? fun (u6 : Go.Value) ↦
            Go.AI.tP u6 fun (b7 : Option Go.Addr) ↦
              Go.AI.tTup v3 fun (l8 : List Go.Value) ↦
                Go.AI.pSome l8[(1 : Nat)]? fun (u9 : Go.Value) ↦
                  Go.AI.tI Go.IntKind.i64 u9 fun (n10 : Int) ↦
                    T (10 : Nat) [Go.Value.int Go.IntKind.i64 n10] σ4 fun (v11 : Go.Value) (σ12 : Go.AI.AS) ↦
                      Go.AI.tI Go.IntKind.i64 v11 fun (n13 : Int) ↦
                        Go.AI.bmatch (n13 != (0 : Int)) (K (Go.Value.bool Bool.false) σ12)
                          (Go.AI.ptrEq σ12 b7 Option.none fun (r14 : Bool) ↦
                            Go.AI.bmatch r14 (K (Go.Value.bool Bool.false) σ12)
                              (T (17 : Nat) [Go.Value.pointer b7, Go.Value.slice a m (1 : Nat), Go.Value.int Go.IntKind.i64 (2 : Int), Go.Value.bool Bool.true] σ12 fun (v15 : Go.Value) (σ16 : Go.AI.AS) ↦
                                Go.AI.tTup v15 fun (l17 : List Go.Value) ↦
                                  Go.AI.pSome l17[(0 : Nat)]? fun (u18 : Go.Value) ↦
                                    Go.AI.tI Go.IntKind.i64 u18 fun (n19 : Int) ↦
                                      Go.AI.tTup v15 fun (l20 : List Go.Value) ↦
                                        Go.AI.pSome l20[(1 : Nat)]? fun (u21 : Go.Value) ↦
                                          Go.AI.tI Go.IntKind.i64 u21 fun (n22 : Int) ↦
                                            T (10 : Nat) [Go.Value.int Go.IntKind.i64 n22] σ16 fun (v23 : Go.Value) (σ24 : Go.AI.AS) ↦
                                              Go.AI.tI Go.IntKind.i64 v23 fun (n25 : Int) ↦
                                                Go.AI.bmatch (n25 != (0 : Int)) (K (Go.Value.bool Bool.false) σ24)
                                                  (Go.AI.ALoop
                                                    (Go.AI.fl Go.Proofs.Try.prog Go.AI.hintsS T (5 : Nat) [Bool.true, Bool.true, Bool.true, Bool.true, Bool.true, Bool.true, Bool.true, Bool.false, Bool.true, Bool.false]
                                                      [] K)
                                                    [((0 : Nat), Option.some (Go.Value.slice a m (1 : Nat))), ((1 : Nat), Option.some (Go.Value.int Go.IntKind.u8 most)),
                                                      ((5 : Nat), Option.some (Go.Value.pointer b7)), ((7 : Nat), Option.some (Go.Value.int Go.IntKind.i64 n19)),
                                                      ((9 : Nat), Option.some (Go.Value.int Go.IntKind.i64 (0 : Int))), ((10 : Nat), Option.some (Go.Value.int Go.IntKind.i64 (0 : Int)))]
                                                    σ24)))) := by
  intros
  kernel_rfl

theorem s5l : ∀ (T : Go.AI.Ct) (a : Option Go.Addr) (m s : Nat) (most n at__1 i : Int) (X : Go.AI.Regs → Go.AI.AS → Prop) (σ : Go.AI.AS) (K : Go.Value → Go.AI.AS → Prop),
  Go.AI.fl Go.Proofs.Try.prog Go.AI.hintsS T (5 : Nat) [Bool.true, Bool.true, Bool.true, Bool.true, Bool.true, Bool.true, Bool.true, Bool.false, Bool.true, Bool.false] [] K X
      [((0 : Nat), Option.some (Go.Value.slice a m (1 : Nat))), ((1 : Nat), Option.some (Go.Value.int Go.IntKind.u8 most)),
        ((5 : Nat), Option.some (Go.Value.pointer (Option.some (Go.Addr.mk s (0 : Nat) Option.none)))), ((7 : Nat), Option.some (Go.Value.int Go.IntKind.i64 n)),
        ((9 : Nat), Option.some (Go.Value.int Go.IntKind.i64 at__1)), ((10 : Nat), Option.some (Go.Value.int Go.IntKind.i64 i))]
      σ =
    Go.AI.bmatch (Decidable.decide (i ≤ (↑m : Int)))
      (T (19 : Nat) [Go.Value.pointer (Option.some (Go.Addr.mk s (0 : Nat) Option.none)), Go.Value.int Go.IntKind.i64 n, Go.Value.int Go.IntKind.i64 (Go.IntKind.wrap Go.IntKind.i64 most)] σ
        fun (v0 : Go.Value) (σ1 : Go.AI.AS) ↦
        Go.AI.tTup v0 fun (l2 : List Go.Value) ↦
          Go.AI.pSome l2[(0 : Nat)]? fun (u3 : Go.Value) ↦
            Go.AI.tL (1 : Nat) u3 fun (s4 : Go.AI.Sl) ↦
              Go.AI.tTup v0 fun (l5 : List Go.Value) ↦
                Go.AI.pSome l5[(1 : Nat)]? fun (u6 : Go.Value) ↦
                  Go.AI.tI Go.IntKind.i64 u6 fun (n7 : Int) ↦
                    T (10 : Nat) [Go.Value.int Go.IntKind.i64 n7] σ1 fun (v8 : Go.Value) (σ9 : Go.AI.AS) ↦
                      Go.AI.tI Go.IntKind.i64 v8 fun (n10 : Int) ↦
                        Go.AI.bmatch (n10 != (0 : Int)) (K (Go.Value.bool Bool.false) σ9)
                          (Go.AI.bmatch (Decidable.decide ((↑(Go.AI.Sl.n s4) : Int) > Go.IntKind.wrap Go.IntKind.i64 most)) (K (Go.Value.bool Bool.false) σ9)
                            (Go.AI.bmatch (Decidable.decide ((↑(Go.AI.Sl.n s4) : Int) > Go.IntKind.wrap Go.IntKind.i64 ((↑m : Int) - at__1))) (K (Go.Value.bool Bool.false) σ9)
                              (Go.AI.req ((0 : Int) ≤ at__1)
                                (Go.AI.req (at__1 ≤ Go.IntKind.wrap Go.IntKind.i64 (at__1 + (↑(Go.AI.Sl.n s4) : Int)))
                                  (Go.AI.req (Go.IntKind.wrap Go.IntKind.i64 (at__1 + (↑(Go.AI.Sl.n s4) : Int)) ≤ (↑m : Int))
                                    (T (18 : Nat)
                                      [Go.Value.slice (Go.AI.Sl.a s4) (Go.AI.Sl.n s4) (1 : Nat),
                                        Go.Value.slice (Option.map (fun (x : Go.Addr) ↦ Go.Addr.add x (Int.toNat at__1 * Go.AI.szOf Go.Proofs.Try.prog (32 : Nat))) a)
                                          (Int.toNat (Go.IntKind.wrap Go.IntKind.i64 (at__1 + (↑(Go.AI.Sl.n s4) : Int)) - at__1)) (1 : Nat)]
                                      σ9 fun (v11 : Go.Value) (σ12 : Go.AI.AS) ↦
                                      Go.AI.tB v11 fun (b13 : Bool) ↦
                                        Go.AI.bmatch (!b13) (K (Go.Value.bool Bool.false) σ12)
                                          (Go.AI.ALoop
                                            (Go.AI.fl Go.Proofs.Try.prog Go.AI.hintsS T (5 : Nat)
                                              [Bool.true, Bool.true, Bool.true, Bool.true, Bool.true, Bool.true, Bool.true, Bool.false, Bool.true, Bool.false, Bool.false, Bool.true, Bool.false, Bool.false, Bool.true,
                                                Bool.true, Bool.false, Bool.true, Bool.false]
                                              [X] K)
                                            [((0 : Nat), Option.some (Go.Value.slice a m (1 : Nat))), ((1 : Nat), Option.some (Go.Value.int Go.IntKind.u8 most)),
                                              ((5 : Nat), Option.some (Go.Value.pointer (Option.some (Go.Addr.mk s (0 : Nat) Option.none)))), ((7 : Nat), Option.some (Go.Value.int Go.IntKind.i64 n)),
                                              ((9 : Nat), Option.some (Go.Value.int Go.IntKind.i64 at__1)), ((10 : Nat), Option.some (Go.Value.int Go.IntKind.i64 i)),
                                              ((11 : Nat), Option.some (Go.Value.slice (Go.AI.Sl.a s4) (Go.AI.Sl.n s4) (1 : Nat))), ((13 : Nat), Option.some (Go.Value.int Go.IntKind.i64 (0 : Int)))]
                                            σ12))))))))
      (T (19 : Nat) [Go.Value.pointer (Option.some (Go.Addr.mk s (0 : Nat) Option.none)), Go.Value.int Go.IntKind.i64 n, Go.Value.int Go.IntKind.i64 (-1 : Int)] σ fun (v14 : Go.Value) (σ15 : Go.AI.AS) ↦
        Go.AI.tTup v14 fun (l16 : List Go.Value) ↦
          Go.AI.pSome l16[(0 : Nat)]? fun (u17 : Go.Value) ↦
            Go.AI.tL (1 : Nat) u17 fun (s18 : Go.AI.Sl) ↦
              Go.AI.tTup v14 fun (l19 : List Go.Value) ↦
                Go.AI.pSome l19[(1 : Nat)]? fun (u20 : Go.Value) ↦
                  Go.AI.tI Go.IntKind.i64 u20 fun (n21 : Int) ↦
                    Go.AI.bmatch (at__1 == (↑m : Int))
                      (T (10 : Nat) [Go.Value.int Go.IntKind.i64 n21] σ15 fun (v22 : Go.Value) (σ23 : Go.AI.AS) ↦
                        Go.AI.tI Go.IntKind.i64 v22 fun (n24 : Int) ↦
                          Go.AI.bmatch (n24 == (0 : Int))
                            (Go.AI.bmatch ((↑(Go.AI.Sl.n s18) : Int) == (0 : Int)) (T (11 : Nat) [] σ23 fun (v25 : Go.Value) (σ26 : Go.AI.AS) ↦ Go.AI.tB v25 fun (b27 : Bool) ↦ K (Go.Value.bool b27) σ26)
                              (K (Go.Value.bool Bool.false) σ23))
                            (K (Go.Value.bool Bool.false) σ23))
                      (Go.AI.bmatch (most == (0 : Int))
                        (T (10 : Nat) [Go.Value.int Go.IntKind.i64 n21] σ15 fun (v28 : Go.Value) (σ29 : Go.AI.AS) ↦
                          Go.AI.tI Go.IntKind.i64 v28 fun (n30 : Int) ↦
                            Go.AI.bmatch (n30 == (0 : Int))
                              (Go.AI.bmatch ((↑(Go.AI.Sl.n s18) : Int) == (0 : Int)) (T (11 : Nat) [] σ29 fun (v31 : Go.Value) (σ32 : Go.AI.AS) ↦ Go.AI.tB v31 fun (b33 : Bool) ↦ K (Go.Value.bool b33) σ32)
                                (K (Go.Value.bool Bool.false) σ29))
                              (K (Go.Value.bool Bool.false) σ29))
                        (K (Go.Value.bool Bool.false) σ15))) := by
  intros
  kernel_rfl

theorem s5k : ∀ (T : Go.AI.Ct) (a : Option Go.Addr) (m s : Nat) (xa : Option Go.Addr) (xn xe : Nat) (most n at__1 i k : Int) (X Y : Go.AI.Regs → Go.AI.AS → Prop) (σ : Go.AI.AS)
  (K : Go.Value → Go.AI.AS → Prop),
  Go.AI.fl Go.Proofs.Try.prog Go.AI.hintsS T (5 : Nat)
      [Bool.true, Bool.true, Bool.true, Bool.true, Bool.true, Bool.true, Bool.true, Bool.false, Bool.true, Bool.false, Bool.false, Bool.true, Bool.false, Bool.false, Bool.true, Bool.true, Bool.false, Bool.true,
        Bool.false]
      [X] K Y
      [((0 : Nat), Option.some (Go.Value.slice a m (1 : Nat))), ((1 : Nat), Option.some (Go.Value.int Go.IntKind.u8 most)),
        ((5 : Nat), Option.some (Go.Value.pointer (Option.some (Go.Addr.mk s (0 : Nat) Option.none)))), ((7 : Nat), Option.some (Go.Value.int Go.IntKind.i64 n)),
        ((9 : Nat), Option.some (Go.Value.int Go.IntKind.i64 at__1)), ((10 : Nat), Option.some (Go.Value.int Go.IntKind.i64 i)), ((11 : Nat), Option.some (Go.Value.slice xa xn xe)),
        ((13 : Nat), Option.some (Go.Value.int Go.IntKind.i64 k))]
      σ =
    Go.AI.bmatch (Decidable.decide (Go.IntKind.wrap Go.IntKind.i64 (k + (1 : Int)) < (↑xn : Int)))
      (Go.AI.req ((0 : Int) ≤ k)
        (Go.AI.req (k < (↑xn : Int))
          (Go.AI.pSome xa fun (a0 : Go.Addr) ↦
            Go.AI.req (xe = Go.AI.szOf Go.Proofs.Try.prog (32 : Nat))
              (Go.AI.ldc σ (Go.Addr.add a0 (Int.toNat k * Go.AI.szOf Go.Proofs.Try.prog (32 : Nat))) fun (v1 : Go.Value) ↦
                Go.AI.tI Go.IntKind.u32 v1 fun (n2 : Int) ↦
                  Go.AI.bmatch (n2 == (10 : Int)) (K (Go.Value.bool Bool.false) σ)
                    (Y
                      [((0 : Nat), Option.some (Go.Value.slice a m (1 : Nat))), ((1 : Nat), Option.some (Go.Value.int Go.IntKind.u8 most)),
                        ((5 : Nat), Option.some (Go.Value.pointer (Option.some (Go.Addr.mk s (0 : Nat) Option.none)))), ((7 : Nat), Option.some (Go.Value.int Go.IntKind.i64 n)),
                        ((9 : Nat), Option.some (Go.Value.int Go.IntKind.i64 at__1)), ((10 : Nat), Option.some (Go.Value.int Go.IntKind.i64 i)), ((11 : Nat), Option.some (Go.Value.slice xa xn xe)),
                        ((13 : Nat), Option.some (Go.Value.int Go.IntKind.i64 (Go.IntKind.wrap Go.IntKind.i64 (k + (1 : Int)))))]
                      σ)))))
      (Go.AI.bmatch (Decidable.decide (Go.IntKind.wrap Go.IntKind.i64 (at__1 + (↑xn : Int)) < (↑m : Int)))
        (Go.AI.bmatch (Decidable.decide ((↑xn : Int) < Go.IntKind.wrap Go.IntKind.i64 most))
          (Go.AI.bmatch ((↑xn : Int) == (0 : Int)) (K (Go.Value.bool Bool.false) σ)
            (Go.AI.req ((0 : Int) ≤ Go.IntKind.wrap Go.IntKind.i64 ((↑xn : Int) - (1 : Int)))
              (Go.AI.req (Go.IntKind.wrap Go.IntKind.i64 ((↑xn : Int) - (1 : Int)) < (↑xn : Int))
                (Go.AI.pSome xa fun (a3 : Go.Addr) ↦
                  Go.AI.req (xe = Go.AI.szOf Go.Proofs.Try.prog (32 : Nat))
                    (Go.AI.ldc σ (Go.Addr.add a3 (Int.toNat (Go.IntKind.wrap Go.IntKind.i64 ((↑xn : Int) - (1 : Int))) * Go.AI.szOf Go.Proofs.Try.prog (32 : Nat))) fun (v4 : Go.Value) ↦
                      Go.AI.tI Go.IntKind.u32 v4 fun (n5 : Int) ↦
                        Go.AI.bmatch (n5 != (10 : Int)) (K (Go.Value.bool Bool.false) σ)
                          (X
                            [((0 : Nat), Option.some (Go.Value.slice a m (1 : Nat))), ((1 : Nat), Option.some (Go.Value.int Go.IntKind.u8 most)),
                              ((5 : Nat), Option.some (Go.Value.pointer (Option.some (Go.Addr.mk s (0 : Nat) Option.none)))), ((7 : Nat), Option.some (Go.Value.int Go.IntKind.i64 n)),
                              ((9 : Nat), Option.some (Go.Value.int Go.IntKind.i64 (Go.IntKind.wrap Go.IntKind.i64 (at__1 + (↑xn : Int))))),
                              ((10 : Nat), Option.some (Go.Value.int Go.IntKind.i64 (Go.IntKind.wrap Go.IntKind.i64 (i + (1 : Int)))))]
                            σ))))))
          (X
            [((0 : Nat), Option.some (Go.Value.slice a m (1 : Nat))), ((1 : Nat), Option.some (Go.Value.int Go.IntKind.u8 most)),
              ((5 : Nat), Option.some (Go.Value.pointer (Option.some (Go.Addr.mk s (0 : Nat) Option.none)))), ((7 : Nat), Option.some (Go.Value.int Go.IntKind.i64 n)),
              ((9 : Nat), Option.some (Go.Value.int Go.IntKind.i64 (Go.IntKind.wrap Go.IntKind.i64 (at__1 + (↑xn : Int))))),
              ((10 : Nat), Option.some (Go.Value.int Go.IntKind.i64 (Go.IntKind.wrap Go.IntKind.i64 (i + (1 : Int)))))]
            σ))
        (X
          [((0 : Nat), Option.some (Go.Value.slice a m (1 : Nat))), ((1 : Nat), Option.some (Go.Value.int Go.IntKind.u8 most)),
            ((5 : Nat), Option.some (Go.Value.pointer (Option.some (Go.Addr.mk s (0 : Nat) Option.none)))), ((7 : Nat), Option.some (Go.Value.int Go.IntKind.i64 n)),
            ((9 : Nat), Option.some (Go.Value.int Go.IntKind.i64 (Go.IntKind.wrap Go.IntKind.i64 (at__1 + (↑xn : Int))))),
            ((10 : Nat), Option.some (Go.Value.int Go.IntKind.i64 (Go.IntKind.wrap Go.IntKind.i64 (i + (1 : Int)))))]
          σ)) := by
  intros
  kernel_rfl

end Go.AI
