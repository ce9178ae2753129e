/- The conditions ahead of the calls of the program's functions, reckoned as far as they go (equations that the kernel checks); no condition. -/
import Derived.Test.YtfjbhgldbgamhaaTxSoft
import Derived.Test.YtfjbhgldbgamhaaAISep
set_option maxRecDepth 1000000
set_option linter.unusedVariables false
namespace Go.AI
open Go.Proofs
theorem s15 : ∀ (T : Ct) (x : Int) (σ : AS) (K : Value → AS → Prop),
  fw Proofs.Try.prog hintsS T (15 : Nat) [Value.int IntKind.i64 x] σ K = K (Value.int IntKind.i64 x) σ := by
  intros
  kernel_rfl

theorem s16 : ∀ (T : Ct) (a b : Option Addr) (m n ea eb : Nat) (σ : AS) (K : Value → AS → Prop),
  fw Proofs.Try.prog hintsS T (16 : Nat) [Value.slice a m ea, Value.slice b n eb] σ K =
    bmatch ((↑m : Int) != (↑n : Int)) (K (Value.bool Bool.false) σ)
      (ALoop (fl Proofs.Try.prog hintsS T (16 : Nat) [Bool.true, Bool.true, Bool.false, Bool.true, Bool.false] [] K)
        [((0 : Nat), Option.some (Value.slice a m ea)), ((1 : Nat), Option.some (Value.slice b n eb)), ((5 : Nat), Option.some (Value.int IntKind.i64 (0 : Int)))] σ) := by
  intros
  kernel_rfl

theorem s16l : ∀ (T : Ct) (a b : Option Addr) (m n ea eb : Nat) (i : Int) (X : Regs → AS → Prop) (σ : AS) (K : Value → AS → Prop),
  fl Proofs.Try.prog hintsS T (16 : Nat) [Bool.true, Bool.true, Bool.false, Bool.true, Bool.false] [] K X
      [((0 : Nat), Option.some (Value.slice a m ea)), ((1 : Nat), Option.some (Value.slice b n eb)), ((5 : Nat), Option.some (Value.int IntKind.i64 i))] σ =
    bmatch (Decidable.decide (i < (↑m : Int)))
      (req ((0 : Int) ≤ i)
        (req (i < (↑m : Int))
          (pSome a fun (a0 : Addr) ↦
            req (ea = szOf Proofs.Try.prog (22 : Nat))
              (ldc σ (Addr.add a0 (Int.toNat i * szOf Proofs.Try.prog (22 : Nat))) fun (v1 : Value) ↦
                tI IntKind.u32 v1 fun (n2 : Int) ↦
                  req ((0 : Int) ≤ i)
                    (req (i < (↑n : Int))
                      (pSome b fun (a3 : Addr) ↦
                        req (eb = szOf Proofs.Try.prog (22 : Nat))
                          (ldc σ (Addr.add a3 (Int.toNat i * szOf Proofs.Try.prog (22 : Nat))) fun (v4 : Value) ↦
                            tI IntKind.u32 v4 fun (n5 : Int) ↦
                              bmatch (n2 != n5) (K (Value.bool Bool.false) σ)
                                (X
                                  [((0 : Nat), Option.some (Value.slice a m ea)), ((1 : Nat), Option.some (Value.slice b n eb)),
                                    ((5 : Nat), Option.some (Value.int IntKind.i64 (IntKind.wrap IntKind.i64 (i + (1 : Int)))))]
                                  σ))))))))
      (K (Value.bool Bool.true) σ) := by
  intros
  kernel_rfl

theorem s19 : ∀ (T : Ct) (x n : Int) (σ : AS) (K : Value → AS → Prop),
  fw Proofs.Try.prog hintsS T (19 : Nat) [Value.int IntKind.u32 x, Value.int IntKind.i64 n] σ K =
    bmatch (n != (1 : Int))
      (bmatch (n != (2 : Int))
        (bmatch (n != (4 : Int)) (K (Value.slice Option.none (0 : Nat) (0 : Nat)) σ)
          (ALoop (fl Proofs.Try.prog hintsS T (19 : Nat) [Bool.true, Bool.true, Bool.true, Bool.true, Bool.false, Bool.true, Bool.false] [] K)
            [((0 : Nat), Option.some (Value.int IntKind.u32 x)), ((1 : Nat), Option.some (Value.int IntKind.i64 n)), ((5 : Nat), Option.some (Value.slice Option.none (0 : Nat) (0 : Nat))),
              ((6 : Nat), Option.some (Value.int IntKind.i64 (1 : Int))), ((7 : Nat), Option.some (Value.int IntKind.i64 (1 : Int)))]
            σ))
        (ALoop (fl Proofs.Try.prog hintsS T (19 : Nat) [Bool.true, Bool.true, Bool.true, Bool.true, Bool.false, Bool.true, Bool.false] [] K)
          [((0 : Nat), Option.some (Value.int IntKind.u32 x)), ((1 : Nat), Option.some (Value.int IntKind.i64 n)), ((5 : Nat), Option.some (Value.slice Option.none (0 : Nat) (0 : Nat))),
            ((6 : Nat), Option.some (Value.int IntKind.i64 (1 : Int))), ((7 : Nat), Option.some (Value.int IntKind.i64 (1 : Int)))]
          σ))
      (ALoop (fl Proofs.Try.prog hintsS T (19 : Nat) [Bool.true, Bool.true, Bool.true, Bool.true, Bool.false, Bool.true, Bool.false] [] K)
        [((0 : Nat), Option.some (Value.int IntKind.u32 x)), ((1 : Nat), Option.some (Value.int IntKind.i64 n)), ((5 : Nat), Option.some (Value.slice Option.none (0 : Nat) (0 : Nat))),
          ((6 : Nat), Option.some (Value.int IntKind.i64 (1 : Int))), ((7 : Nat), Option.some (Value.int IntKind.i64 (1 : Int)))]
        σ) := by
  intros
  kernel_rfl

theorem s19l : ∀ (T : Ct) (x n p i : Int) (o : Option Addr) (om oe : Nat) (X : Regs → AS → Prop) (σ : AS) (K : Value → AS → Prop),
  fl Proofs.Try.prog hintsS T (19 : Nat) [Bool.true, Bool.true, Bool.true, Bool.true, Bool.false, Bool.true, Bool.false] [] K X
      [((0 : Nat), Option.some (Value.int IntKind.u32 x)), ((1 : Nat), Option.some (Value.int IntKind.i64 n)), ((5 : Nat), Option.some (Value.slice o om oe)),
        ((6 : Nat), Option.some (Value.int IntKind.i64 p)), ((7 : Nat), Option.some (Value.int IntKind.i64 i))]
      σ =
    bmatch (Decidable.decide (i < n))
      (X
        [((0 : Nat), Option.some (Value.int IntKind.u32 x)), ((1 : Nat), Option.some (Value.int IntKind.i64 n)), ((5 : Nat), Option.some (Value.slice o om oe)),
          ((6 : Nat), Option.some (Value.int IntKind.i64 (IntKind.wrap IntKind.i64 ((256 : Int) * p)))),
          ((7 : Nat), Option.some (Value.int IntKind.i64 (IntKind.wrap IntKind.i64 (i + (1 : Int)))))]
        σ)
      (ALoop (fl Proofs.Try.prog hintsS T (19 : Nat) [Bool.true, Bool.true, Bool.true, Bool.true, Bool.true, Bool.false, Bool.true, Bool.false] [] K)
        [((0 : Nat), Option.some (Value.int IntKind.u32 x)), ((1 : Nat), Option.some (Value.int IntKind.i64 n)), ((5 : Nat), Option.some (Value.slice o om oe)),
          ((6 : Nat), Option.some (Value.int IntKind.i64 p)), ((8 : Nat), Option.some (Value.int IntKind.i64 (0 : Int)))]
        σ) := by
  intros
  kernel_rfl

theorem s19k : ∀ (T : Ct) (x n p i : Int) (o : Option Addr) (om oe : Nat) (X : Regs → AS → Prop) (σ : AS) (K : Value → AS → Prop),
  fl Proofs.Try.prog hintsS T (19 : Nat) [Bool.true, Bool.true, Bool.true, Bool.true, Bool.true, Bool.false, Bool.true, Bool.false] [] K X
      [((0 : Nat), Option.some (Value.int IntKind.u32 x)), ((1 : Nat), Option.some (Value.int IntKind.i64 n)), ((5 : Nat), Option.some (Value.slice o om oe)),
        ((6 : Nat), Option.some (Value.int IntKind.i64 p)), ((8 : Nat), Option.some (Value.int IntKind.i64 i))]
      σ =
    bmatch (Decidable.decide (i < n))
      (req (p ≠ (0 : Int))
        (newAt σ
          (AObj.row RK.rw [Value.int IntKind.u8 (IntKind.wrap IntKind.u8 (Int.tmod (IntKind.wrap IntKind.i64 (Int.tdiv (IntKind.wrap IntKind.i64 x) p)) (256 : Int)))])
          fun (i0 : Nat) (σ1 : AS) ↦
          chk (nilOr o oe (szOf Proofs.Try.prog (5 : Nat)))
            (lds σ1 (Addr.mk i0 (0 : Nat) Option.none) (1 : Nat) fun (l2 : List Value) ↦
              appendTo σ1 (1 : Nat) (1 : Nat) (Sl.mk o om) l2 (1 : Nat) fun (s3 : Sl) (σ4 : AS) ↦
                X
                  [((0 : Nat), Option.some (Value.int IntKind.u32 x)), ((1 : Nat), Option.some (Value.int IntKind.i64 n)),
                    ((5 : Nat), Option.some (Value.slice (Sl.a s3) (Sl.n s3) (1 : Nat))), ((6 : Nat), Option.some (Value.int IntKind.i64 (IntKind.wrap IntKind.i64 (Int.tdiv p (256 : Int))))),
                    ((8 : Nat), Option.some (Value.int IntKind.i64 (IntKind.wrap IntKind.i64 (i + (1 : Int)))))]
                  σ4)))
      (K (Value.slice o om oe) σ) := by
  intros
  kernel_rfl

theorem s5 : ∀ (T : Ct) (a b c : Option Addr) (m n k : Nat) (σ : AS) (K : Value → AS → Prop),
  fw Proofs.Try.prog hintsS T (5 : Nat) [Value.slice a m (1 : Nat), Value.slice b n (1 : Nat), Value.slice c k (1 : Nat)] σ K =
    bmatch (Decidable.decide (IntKind.wrap IntKind.i64 ((↑m : Int) + (↑k : Int)) > (16384 : Int)))
      (T (9 : Nat) [] σ fun (v0 : Value) (σ1 : AS) ↦ tB v0 fun (b2 : Bool) ↦ K (Value.bool b2) σ1)
      (bmatch (Decidable.decide ((↑n : Int) > (300 : Int))) (T (9 : Nat) [] σ fun (v3 : Value) (σ4 : AS) ↦ tB v3 fun (b5 : Bool) ↦ K (Value.bool b5) σ4)
        (newAt σ (AObj.row RK.rw [Value.int IntKind.u8 (224 : Int)]) fun (i6 : Nat) (σ7 : AS) ↦
          srcCells σ7 (1 : Nat) (Option.some (Value.slice a m (1 : Nat))) fun (m8 : Nat) (new9 : List Value) ↦
            appendTo σ7 (1 : Nat) (1 : Nat) (Sl.mk (Option.some (Addr.mk i6 (0 : Nat) Option.none)) (1 : Nat)) new9 m8 fun (s10 : Sl) (σ11 : AS) ↦
              ALoop (fl Proofs.Try.prog hintsS T (5 : Nat) [Bool.true, Bool.true, Bool.true, Bool.false, Bool.true, Bool.false] [] K)
                [((0 : Nat), Option.some (Value.slice a m (1 : Nat))), ((1 : Nat), Option.some (Value.slice b n (1 : Nat))), ((2 : Nat), Option.some (Value.slice c k (1 : Nat))),
                  ((7 : Nat), Option.some (Value.slice (Sl.a s10) (Sl.n s10) (1 : Nat))), ((8 : Nat), Option.some (Value.int IntKind.i64 (0 : Int)))]
                σ11)) := by
  intros
  kernel_rfl

theorem s5l : ∀ (T : Ct) (a b c d : Option Addr) (m n k dm : Nat) (i : Int) (X : Regs → AS → Prop) (σ : AS) (K : Value → AS → Prop),
  fl Proofs.Try.prog hintsS T (5 : Nat) [Bool.true, Bool.true, Bool.true, Bool.false, Bool.true, Bool.false] [] K X
      [((0 : Nat), Option.some (Value.slice a m (1 : Nat))), ((1 : Nat), Option.some (Value.slice b n (1 : Nat))), ((2 : Nat), Option.some (Value.slice c k (1 : Nat))),
        ((7 : Nat), Option.some (Value.slice d dm (1 : Nat))), ((8 : Nat), Option.some (Value.int IntKind.i64 i))]
      σ =
    bmatch (Decidable.decide (i < (↑m : Int)))
      (req ((0 : Int) ≤ i)
        (req (i < (↑m : Int))
          (pSome a fun (a0 : Addr) ↦
            ldc σ (Addr.add a0 (Int.toNat i * szOf Proofs.Try.prog (5 : Nat))) fun (v1 : Value) ↦
              tI IntKind.u8 v1 fun (n2 : Int) ↦
                bmatch (n2 == (0 : Int)) (T (9 : Nat) [] σ fun (v3 : Value) (σ4 : AS) ↦ tB v3 fun (b5 : Bool) ↦ K (Value.bool b5) σ4)
                  (X
                    [((0 : Nat), Option.some (Value.slice a m (1 : Nat))), ((1 : Nat), Option.some (Value.slice b n (1 : Nat))), ((2 : Nat), Option.some (Value.slice c k (1 : Nat))),
                      ((7 : Nat), Option.some (Value.slice d dm (1 : Nat))), ((8 : Nat), Option.some (Value.int IntKind.i64 (IntKind.wrap IntKind.i64 (i + (1 : Int)))))]
                    σ))))
      (newAt σ (AObj.row RK.rw [Value.int IntKind.u8 (0 : Int)]) fun (i6 : Nat) (σ7 : AS) ↦
        lds σ7 (Addr.mk i6 (0 : Nat) Option.none) (1 : Nat) fun (l8 : List Value) ↦
          appendTo σ7 (1 : Nat) (1 : Nat) (Sl.mk d dm) l8 (1 : Nat) fun (s9 : Sl) (σ10 : AS) ↦
            srcCells σ10 (1 : Nat) (Option.some (Value.slice c k (1 : Nat))) fun (m11 : Nat) (new12 : List Value) ↦
              appendTo σ10 (1 : Nat) (1 : Nat) (Sl.mk (Sl.a s9) (Sl.n s9)) new12 m11 fun (s13 : Sl) (σ14 : AS) ↦
                T (18 : Nat) [Value.slice (Sl.a s13) (Sl.n s13) (1 : Nat), Value.int IntKind.u32 (0 : Int), Value.int IntKind.u32 (0 : Int), Value.int IntKind.i64 (↑m : Int)] σ14
                  fun (v15 : Value) (σ16 : AS) ↦
                  tTup v15 fun (l17 : List Value) ↦
                    pSome l17[(0 : Nat)]? fun (u18 : Value) ↦
                      tL (1 : Nat) u18 fun (s19 : Sl) ↦
                        tTup v15 fun (l20 : List Value) ↦
                          pSome l20[(1 : Nat)]? fun (u21 : Value) ↦
                            tB u21 fun (b22 : Bool) ↦
                              tTup v15 fun (l23 : List Value) ↦
                                pSome l23[(2 : Nat)]? fun (u24 : Value) ↦
                                  tI IntKind.i64 u24 fun (n25 : Int) ↦
                                    T (15 : Nat) [Value.int IntKind.i64 n25] σ16 fun (v26 : Value) (σ27 : AS) ↦
                                      tI IntKind.i64 v26 fun (n28 : Int) ↦
                                        bmatch (n28 != (0 : Int)) (K (Value.bool Bool.false) σ27)
                                          (bmatch (!b22) (K (Value.bool Bool.false) σ27)
                                            (bmatch ((↑(Sl.n s19) : Int) != (↑m : Int)) (K (Value.bool Bool.false) σ27)
                                              (ALoop
                                                (fl Proofs.Try.prog hintsS T (5 : Nat) [Bool.true, Bool.true, Bool.true, Bool.true, Bool.true, Bool.true, Bool.true, Bool.false, Bool.true, Bool.false] []
                                                  K)
                                                [((0 : Nat), Option.some (Value.slice a m (1 : Nat))), ((1 : Nat), Option.some (Value.slice b n (1 : Nat))),
                                                  ((2 : Nat), Option.some (Value.slice c k (1 : Nat))), ((9 : Nat), Option.some (Value.slice (Sl.a s19) (Sl.n s19) (1 : Nat))),
                                                  ((12 : Nat), Option.some (Value.int IntKind.i64 (0 : Int)))]
                                                σ27)))) := by
  intros
  kernel_rfl

theorem s5m : ∀ (T : Ct) (a b c x : Option Addr) (m n k xm xe : Nat) (i : Int) (X : Regs → AS → Prop) (σ : AS) (K : Value → AS → Prop),
  fl Proofs.Try.prog hintsS T (5 : Nat) [Bool.true, Bool.true, Bool.true, Bool.true, Bool.true, Bool.true, Bool.true, Bool.false, Bool.true, Bool.false] [] K X
      [((0 : Nat), Option.some (Value.slice a m (1 : Nat))), ((1 : Nat), Option.some (Value.slice b n (1 : Nat))), ((2 : Nat), Option.some (Value.slice c k (1 : Nat))),
        ((9 : Nat), Option.some (Value.slice x xm xe)), ((12 : Nat), Option.some (Value.int IntKind.i64 i))]
      σ =
    bmatch (Decidable.decide (i < (↑m : Int)))
      (req ((0 : Int) ≤ i)
        (req (i < (↑xm : Int))
          (pSome x fun (a0 : Addr) ↦
            req (xe = szOf Proofs.Try.prog (22 : Nat))
              (ldc σ (Addr.add a0 (Int.toNat i * szOf Proofs.Try.prog (22 : Nat))) fun (v1 : Value) ↦
                tI IntKind.u32 v1 fun (n2 : Int) ↦
                  req ((0 : Int) ≤ i)
                    (req (i < (↑m : Int))
                      (pSome a fun (a3 : Addr) ↦
                        ldc σ (Addr.add a3 (Int.toNat i * szOf Proofs.Try.prog (5 : Nat))) fun (v4 : Value) ↦
                          tI IntKind.u8 v4 fun (n5 : Int) ↦
                            bmatch (n2 != IntKind.wrap IntKind.u32 n5) (K (Value.bool Bool.false) σ)
                              (X
                                [((0 : Nat), Option.some (Value.slice a m (1 : Nat))), ((1 : Nat), Option.some (Value.slice b n (1 : Nat))), ((2 : Nat), Option.some (Value.slice c k (1 : Nat))),
                                  ((9 : Nat), Option.some (Value.slice x xm xe)), ((12 : Nat), Option.some (Value.int IntKind.i64 (IntKind.wrap IntKind.i64 (i + (1 : Int)))))]
                                σ)))))))
      (newAt σ (AObj.row RK.rw [Value.int IntKind.u8 (226 : Int), Value.int IntKind.u8 (1 : Int), Value.int IntKind.u8 (2 : Int), Value.int IntKind.u8 (3 : Int)])
        fun (i6 : Nat) (σ7 : AS) ↦
        ALoop (fl Proofs.Try.prog hintsS T (5 : Nat) [Bool.true, Bool.true, Bool.true, Bool.true, Bool.true, Bool.true, Bool.true, Bool.true, Bool.true, Bool.false, Bool.true, Bool.false] [] K)
          [((1 : Nat), Option.some (Value.slice b n (1 : Nat))), ((2 : Nat), Option.some (Value.slice c k (1 : Nat))),
            ((13 : Nat), Option.some (Value.slice (Option.some (Addr.mk i6 (0 : Nat) Option.none)) (4 : Nat) (1 : Nat))), ((14 : Nat), Option.some (Value.int IntKind.i64 (0 : Int)))]
          σ7) := by
  intros
  kernel_rfl

theorem s5n : ∀ (T : Ct) (b c x : Option Addr) (n k xm : Nat) (i : Int) (X : Regs → AS → Prop) (σ : AS) (K : Value → AS → Prop),
  fl Proofs.Try.prog hintsS T (5 : Nat) [Bool.true, Bool.true, Bool.true, Bool.true, Bool.true, Bool.true, Bool.true, Bool.true, Bool.true, Bool.false, Bool.true, Bool.false] [] K X
      [((1 : Nat), Option.some (Value.slice b n (1 : Nat))), ((2 : Nat), Option.some (Value.slice c k (1 : Nat))), ((13 : Nat), Option.some (Value.slice x xm (1 : Nat))),
        ((14 : Nat), Option.some (Value.int IntKind.i64 i))]
      σ =
    bmatch (Decidable.decide (i < (↑n : Int)))
      (req ((0 : Int) ≤ i)
        (req (i < (↑n : Int))
          (pSome b fun (a0 : Addr) ↦
            ldc σ (Addr.add a0 (Int.toNat i * szOf Proofs.Try.prog (22 : Nat))) fun (v1 : Value) ↦
              tI IntKind.u32 v1 fun (n2 : Int) ↦
                bmatch (n2 == (0 : Int)) (T (9 : Nat) [] σ fun (v3 : Value) (σ4 : AS) ↦ tB v3 fun (b5 : Bool) ↦ K (Value.bool b5) σ4)
                  (req ((0 : Int) ≤ i)
                    (req (i < (↑n : Int))
                      (pSome b fun (a6 : Addr) ↦
                        ldc σ (Addr.add a6 (Int.toNat i * szOf Proofs.Try.prog (22 : Nat))) fun (v7 : Value) ↦
                          tI IntKind.u32 v7 fun (n8 : Int) ↦
                            T (19 : Nat) [Value.int IntKind.u32 n8, Value.int IntKind.i64 (4 : Int)] σ fun (v9 : Value) (σ10 : AS) ↦
                              tL (1 : Nat) v9 fun (s11 : Sl) ↦
                                srcCells σ10 (1 : Nat) (Option.some (Value.slice (Sl.a s11) (Sl.n s11) (1 : Nat))) fun (m12 : Nat) (new13 : List Value) ↦
                                  appendTo σ10 (1 : Nat) (1 : Nat) (Sl.mk x xm) new13 m12 fun (s14 : Sl) (σ15 : AS) ↦
                                    X
                                      [((1 : Nat), Option.some (Value.slice b n (1 : Nat))), ((2 : Nat), Option.some (Value.slice c k (1 : Nat))),
                                        ((13 : Nat), Option.some (Value.slice (Sl.a s14) (Sl.n s14) (1 : Nat))),
                                        ((14 : Nat), Option.some (Value.int IntKind.i64 (IntKind.wrap IntKind.i64 (i + (1 : Int)))))]
                                      σ15))))))
      (newAt σ (AObj.row RK.rw [Value.int IntKind.u8 (0 : Int), Value.int IntKind.u8 (0 : Int), Value.int IntKind.u8 (0 : Int), Value.int IntKind.u8 (0 : Int)])
        fun (i16 : Nat) (σ17 : AS) ↦
        lds σ17 (Addr.mk i16 (0 : Nat) Option.none) (4 : Nat) fun (l18 : List Value) ↦
          appendTo σ17 (1 : Nat) (1 : Nat) (Sl.mk x xm) l18 (4 : Nat) fun (s19 : Sl) (σ20 : AS) ↦
            srcCells σ20 (1 : Nat) (Option.some (Value.slice c k (1 : Nat))) fun (m21 : Nat) (new22 : List Value) ↦
              appendTo σ20 (1 : Nat) (1 : Nat) (Sl.mk (Sl.a s19) (Sl.n s19)) new22 m21 fun (s23 : Sl) (σ24 : AS) ↦
                T (18 : Nat) [Value.slice (Sl.a s23) (Sl.n s23) (1 : Nat), Value.int IntKind.u32 (0 : Int), Value.int IntKind.u32 (0 : Int), Value.int IntKind.i64 (↑n : Int)] σ24
                  fun (v25 : Value) (σ26 : AS) ↦
                  tTup v25 fun (l27 : List Value) ↦
                    pSome l27[(0 : Nat)]? fun (u28 : Value) ↦
                      tL (1 : Nat) u28 fun (s29 : Sl) ↦
                        tTup v25 fun (l30 : List Value) ↦
                          pSome l30[(1 : Nat)]? fun (u31 : Value) ↦
                            tB u31 fun (b32 : Bool) ↦
                              tTup v25 fun (l33 : List Value) ↦
                                pSome l33[(2 : Nat)]? fun (u34 : Value) ↦
                                  tI IntKind.i64 u34 fun (n35 : Int) ↦
                                    T (15 : Nat) [Value.int IntKind.i64 n35] σ26 fun (v36 : Value) (σ37 : AS) ↦
                                      tI IntKind.i64 v36 fun (n38 : Int) ↦
                                        bmatch (n38 == (0 : Int))
                                          (bmatch b32
                                            (T (16 : Nat) [Value.slice (Sl.a s29) (Sl.n s29) (1 : Nat), Value.slice b n (1 : Nat)] σ37 fun (v39 : Value) (σ40 : AS) ↦
                                              tB v39 fun (b41 : Bool) ↦
                                                bmatch b41 (T (9 : Nat) [] σ40 fun (v42 : Value) (σ43 : AS) ↦ tB v42 fun (b44 : Bool) ↦ K (Value.bool b44) σ43)
                                                  (K (Value.bool Bool.false) σ40))
                                            (K (Value.bool Bool.false) σ37))
                                          (K (Value.bool Bool.false) σ37)) := by
  intros
  kernel_rfl

theorem s7 : ∀ (T : Ct) (a c : Option Addr) (m n : Nat) (t x : Int) (σ : AS) (K : Value → AS → Prop),
  fw Proofs.Try.prog hintsS T (7 : Nat) [Value.slice a m (1 : Nat), Value.int IntKind.u32 t, Value.int IntKind.u32 x, Value.slice c n (1 : Nat)] σ K =
    bmatch (Decidable.decide (IntKind.wrap IntKind.i64 ((↑m : Int) + (↑n : Int)) > (16384 : Int)))
      (T (9 : Nat) [] σ fun (v0 : Value) (σ1 : AS) ↦ tB v0 fun (b2 : Bool) ↦ K (Value.bool b2) σ1)
      (T (18 : Nat) [Value.slice a m (1 : Nat), Value.int IntKind.u32 t, Value.int IntKind.u32 x, Value.int IntKind.i64 (300 : Int)] σ fun (v3 : Value) (σ4 : AS) ↦
        tTup v3 fun (l5 : List Value) ↦
          pSome l5[(0 : Nat)]? fun (u6 : Value) ↦
            tL (1 : Nat) u6 fun (s7 : Sl) ↦
              tTup v3 fun (l8 : List Value) ↦
                pSome l8[(1 : Nat)]? fun (u9 : Value) ↦
                  tB u9 fun (b10 : Bool) ↦
                    tTup v3 fun (l11 : List Value) ↦
                      pSome l11[(2 : Nat)]? fun (u12 : Value) ↦
                        tI IntKind.i64 u12 fun (n13 : Int) ↦
                          newAt σ4 (AObj.row RK.rw []) fun (i14 : Nat) (σ15 : AS) ↦
                            srcCells σ15 (1 : Nat) (Option.some (Value.slice a m (1 : Nat))) fun (m16 : Nat) (new17 : List Value) ↦
                              appendTo σ15 (1 : Nat) (1 : Nat) (Sl.mk (Option.some (Addr.mk i14 (0 : Nat) Option.none)) (0 : Nat)) new17 m16 fun (s18 : Sl) (σ19 : AS) ↦
                                srcCells σ19 (1 : Nat) (Option.some (Value.slice c n (1 : Nat))) fun (m20 : Nat) (new21 : List Value) ↦
                                  appendTo σ19 (1 : Nat) (1 : Nat) (Sl.mk (Sl.a s18) (Sl.n s18)) new21 m20 fun (s22 : Sl) (σ23 : AS) ↦
                                    T (18 : Nat) [Value.slice (Sl.a s22) (Sl.n s22) (1 : Nat), Value.int IntKind.u32 t, Value.int IntKind.u32 x, Value.int IntKind.i64 (300 : Int)]
                                      σ23 fun (v24 : Value) (σ25 : AS) ↦
                                      tTup v24 fun (l26 : List Value) ↦
                                        pSome l26[(0 : Nat)]? fun (u27 : Value) ↦
                                          tL (1 : Nat) u27 fun (s28 : Sl) ↦
                                            tTup v24 fun (l29 : List Value) ↦
                                              pSome l29[(1 : Nat)]? fun (u30 : Value) ↦
                                                tB u30 fun (b31 : Bool) ↦
                                                  tTup v24 fun (l32 : List Value) ↦
                                                    pSome l32[(2 : Nat)]? fun (u33 : Value) ↦
                                                      tI IntKind.i64 u33 fun (n34 : Int) ↦
                                                        T (15 : Nat) [Value.int IntKind.i64 n13] σ25 fun (v35 : Value) (σ36 : AS) ↦
                                                          tI IntKind.i64 v35 fun (n37 : Int) ↦
                                                            bmatch (n37 == (90 : Int)) (T (9 : Nat) [] σ36 fun (v38 : Value) (σ39 : AS) ↦ tB v38 fun (b40 : Bool) ↦ K (Value.bool b40) σ39)
                                                              (T (16 : Nat) [Value.slice (Sl.a s7) (Sl.n s7) (1 : Nat), Value.slice (Sl.a s28) (Sl.n s28) (1 : Nat)] σ36
                                                                fun (v41 : Value) (σ42 : AS) ↦
                                                                tB v41 fun (b43 : Bool) ↦
                                                                  bmatch b43
                                                                    (bmatch (b10 == b31)
                                                                      (bmatch (n13 == n34) (T (9 : Nat) [] σ42 fun (v44 : Value) (σ45 : AS) ↦ tB v44 fun (b46 : Bool) ↦ K (Value.bool b46) σ45)
                                                                        (K (Value.bool Bool.false) σ42))
                                                                      (K (Value.bool Bool.false) σ42))
                                                                    (K (Value.bool Bool.false) σ42))) := by
  intros
  kernel_rfl

end Go.AI
