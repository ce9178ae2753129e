/- Lemmas of the abstract condition ahead of code (a part of the library that the claim's proof stands on); they hold with no condition but those that each names. -/
import Derived.Test.YtfjbhgldbgamhaaTuHint
import Derived.Test.YtfjbhgldbgamhaaAIJoin
section
/- The conditions ahead of the calls of the program's functions, reckoned as far as they go (equations that the kernel checks); no condition. -/
set_option maxRecDepth 1000000
set_option linter.unusedVariables false
namespace Go.AI
open Go.Proofs
theorem s27 : ∀ (T : Go.AI.Ct) (la : Option Go.Addr) (ln : Nat) (σ : Go.AI.AS) (K : Go.Value → Go.AI.AS → Prop),
  Go.AI.fw Go.Proofs.Try.prog Go.AI.hintsT T (27 : Nat) [Go.Value.slice la ln (1 : Nat)] σ K =
  Go.AI.bmatch (Decidable.decide ((↑ln : Int) > (1024 : Int))) (K (Go.Value.int Go.IntKind.i64 (4 : Int)) σ)
  (Go.AI.ALoop (Go.AI.fl Go.Proofs.Try.prog Go.AI.hintsT T (27 : Nat) [Bool.true, Bool.true, Bool.false, Bool.true, Bool.false] [] K)
  [((0 : Nat), Option.some (Go.Value.slice la ln (1 : Nat))), ((3 : Nat), Option.some (Go.Value.int Go.IntKind.i64 (0 : Int)))] σ) := by
  intros
  kernel_rfl

theorem s27l : ∀ (T : Go.AI.Ct) (la : Option Go.Addr) (ln le : Nat) (i : Int) (X : Go.AI.Regs → Go.AI.AS → Prop) (σ : Go.AI.AS) (K : Go.Value → Go.AI.AS → Prop),
  Go.AI.fl Go.Proofs.Try.prog Go.AI.hintsT T (27 : Nat) [Bool.true, Bool.true, Bool.false, Bool.true, Bool.false] [] K X
  [((0 : Nat), Option.some (Go.Value.slice la ln le)), ((3 : Nat), Option.some (Go.Value.int Go.IntKind.i64 i))] σ =
  Go.AI.bmatch (Decidable.decide (i < (↑ln : Int)))
  (Go.AI.ALoop (Go.AI.fl Go.Proofs.Try.prog Go.AI.hintsT T (27 : Nat) [Bool.true, Bool.true, Bool.false, Bool.true, Bool.false, Bool.false, Bool.true, Bool.false, Bool.false, Bool.true, Bool.false] [X] K)
  [((0 : Nat), Option.some (Go.Value.slice la ln le)), ((3 : Nat), Option.some (Go.Value.int Go.IntKind.i64 i)), ((4 : Nat), Option.some (Go.Value.int Go.IntKind.i64 (0 : Int)))] σ)
  (K (Go.Value.int Go.IntKind.i64 (0 : Int)) σ) := by
  intros
  kernel_rfl

theorem s27l1 : ∀ (T : Go.AI.Ct) (la : Option Go.Addr) (ln le : Nat) (i k : Int) (X Y : Go.AI.Regs → Go.AI.AS → Prop) (σ : Go.AI.AS) (K : Go.Value → Go.AI.AS → Prop),
  Go.AI.fl Go.Proofs.Try.prog Go.AI.hintsT T (27 : Nat) [Bool.true, Bool.true, Bool.false, Bool.true, Bool.false, Bool.false, Bool.true, Bool.false, Bool.false, Bool.true, Bool.false] [X] K Y
  [((0 : Nat), Option.some (Go.Value.slice la ln le)), ((3 : Nat), Option.some (Go.Value.int Go.IntKind.i64 i)), ((4 : Nat), Option.some (Go.Value.int Go.IntKind.i64 k))] σ =
  Go.AI.bmatch (Decidable.decide (k < i))
  (Go.AI.req ((0 : Int) ≤ i)
  (Go.AI.req (i < (↑ln : Int))
  (Go.AI.pSome la fun (a0 : Go.Addr) ↦
  Go.AI.req (le = Go.AI.szOf Go.Proofs.Try.prog (22 : Nat))
  (Go.AI.ldc σ (Go.Addr.add a0 (Int.toNat i * Go.AI.szOf Go.Proofs.Try.prog (22 : Nat))) fun (v1 : Go.Value) ↦
  Go.AI.tI Go.IntKind.u32 v1 fun (n2 : Int) ↦
  Go.AI.req ((0 : Int) ≤ k)
  (Go.AI.req (k < (↑ln : Int))
  (Go.AI.pSome la fun (a3 : Go.Addr) ↦
  Go.AI.req (le = Go.AI.szOf Go.Proofs.Try.prog (22 : Nat))
  (Go.AI.ldc σ (Go.Addr.add a3 (Int.toNat k * Go.AI.szOf Go.Proofs.Try.prog (22 : Nat))) fun (v4 : Go.Value) ↦
  Go.AI.tI Go.IntKind.u32 v4 fun (n5 : Int) ↦
  Go.AI.bmatch (n2 == n5) (K (Go.Value.int Go.IntKind.i64 (6 : Int)) σ)
  (Y
  [((0 : Nat), Option.some (Go.Value.slice la ln le)), ((3 : Nat), Option.some (Go.Value.int Go.IntKind.i64 i)),
  ((4 : Nat), Option.some (Go.Value.int Go.IntKind.i64 (Go.IntKind.wrap Go.IntKind.i64 (k + (1 : Int)))))]
  σ))))))))
  (X [((0 : Nat), Option.some (Go.Value.slice la ln le)), ((3 : Nat), Option.some (Go.Value.int Go.IntKind.i64 (Go.IntKind.wrap Go.IntKind.i64 (i + (1 : Int)))))] σ) := by
  intros
  kernel_rfl

theorem s28 : ∀ (T : Go.AI.Ct) (la : Option Go.Addr) (ln : Nat) (σ : Go.AI.AS) (K : Go.Value → Go.AI.AS → Prop),
  Go.AI.fw Go.Proofs.Try.prog Go.AI.hintsT T (28 : Nat) [Go.Value.slice la ln (1 : Nat)] σ K =
  Go.AI.bmatch ((↑ln : Int) == (0 : Int)) (K (Go.Value.tuple (Array.mk [Go.Value.int Go.IntKind.i64 (1 : Int), Go.Value.int Go.IntKind.i64 (1 : Int)])) σ)
  (Go.AI.bmatch ((↑ln : Int) == (1 : Int))
  (Go.AI.req ((0 : Int) < (↑ln : Int))
  (Go.AI.pSome la fun (a0 : Go.Addr) ↦
  Go.AI.ldc σ (Go.Addr.add a0 (Int.toNat (0 : Int) * Go.AI.szOf Go.Proofs.Try.prog (22 : Nat))) fun (v1 : Go.Value) ↦
  Go.AI.tI Go.IntKind.u32 v1 fun (n2 : Int) ↦
  Go.AI.JoinS (Go.AI.jn Go.Proofs.Try.prog Go.AI.hintsT T (28 : Nat) [Bool.true, Bool.true, Bool.false] [] K)
  [((0 : Nat), Option.some (Go.Value.slice la ln (1 : Nat))), ((19 : Nat), Option.some (Go.Value.bool (Decidable.decide (n2 < (256 : Int)))))] σ))
  (Go.AI.JoinS (Go.AI.jn Go.Proofs.Try.prog Go.AI.hintsT T (28 : Nat) [Bool.true, Bool.true, Bool.false] [] K)
  [((0 : Nat), Option.some (Go.Value.slice la ln (1 : Nat))), ((19 : Nat), Option.some (Go.Value.bool Bool.false))] σ)) := by
  intros
  kernel_rfl

theorem s28j : ∀ (T : Go.AI.Ct) (la : Option Go.Addr) (ln le : Nat) (r19_1 : Bool) (σ : Go.AI.AS) (K : Go.Value → Go.AI.AS → Prop),
  Go.AI.jn Go.Proofs.Try.prog Go.AI.hintsT T (28 : Nat) [Bool.true, Bool.true, Bool.false] [] K [((0 : Nat), Option.some (Go.Value.slice la ln le)), ((19 : Nat), Option.some (Go.Value.bool r19_1))] σ =
  Go.AI.bmatch r19_1 (K (Go.Value.tuple (Array.mk [Go.Value.int Go.IntKind.i64 (2 : Int), Go.Value.int Go.IntKind.i64 (1 : Int)])) σ)
  (Go.AI.bmatch ((↑ln : Int) == (1 : Int)) (K (Go.Value.tuple (Array.mk [Go.Value.int Go.IntKind.i64 (5 : Int), Go.Value.int Go.IntKind.i64 (1 : Int)])) σ)
  (Go.AI.req ((0 : Int) ≤ Go.IntKind.wrap Go.IntKind.i64 (Int.tdiv (↑ln : Int) (2 : Int)))
  (Go.AI.req (Go.IntKind.wrap Go.IntKind.i64 (Int.tdiv (↑ln : Int) (2 : Int)) ≤ (↑ln : Int))
  (Go.AI.chk (Go.AI.nilOr la le (Go.AI.szOf Go.Proofs.Try.prog (22 : Nat)))
  (T (28 : Nat)
  [Go.Value.slice (Option.map (fun (x : Go.Addr) ↦ Go.Addr.add x (Int.toNat (0 : Int) * Go.AI.szOf Go.Proofs.Try.prog (22 : Nat))) la)
  (Int.toNat (Go.IntKind.wrap Go.IntKind.i64 (Int.tdiv (↑ln : Int) (2 : Int)) - (0 : Int))) (1 : Nat)]
  σ fun (v0 : Go.Value) (σ1 : Go.AI.AS) ↦
  Go.AI.tTup v0 fun (l2 : List Go.Value) ↦
  Go.AI.pSome l2[(0 : Nat)]? fun (u3 : Go.Value) ↦
  Go.AI.tI Go.IntKind.i64 u3 fun (n4 : Int) ↦
  Go.AI.tTup v0 fun (l5 : List Go.Value) ↦
  Go.AI.pSome l5[(1 : Nat)]? fun (u6 : Go.Value) ↦
  Go.AI.tI Go.IntKind.i64 u6 fun (n7 : Int) ↦
  Go.AI.req ((0 : Int) ≤ Go.IntKind.wrap Go.IntKind.i64 (Int.tdiv (↑ln : Int) (2 : Int)))
  (Go.AI.req (Go.IntKind.wrap Go.IntKind.i64 (Int.tdiv (↑ln : Int) (2 : Int)) ≤ (↑ln : Int))
  (Go.AI.req ((↑ln : Int) ≤ (↑ln : Int))
  (Go.AI.chk (Go.AI.nilOr la le (Go.AI.szOf Go.Proofs.Try.prog (22 : Nat)))
  (T (28 : Nat)
  [Go.Value.slice
  (Option.map (fun (x : Go.Addr) ↦ Go.Addr.add x (Int.toNat (Go.IntKind.wrap Go.IntKind.i64 (Int.tdiv (↑ln : Int) (2 : Int))) * Go.AI.szOf Go.Proofs.Try.prog (22 : Nat))) la)
  (Int.toNat ((↑ln : Int) - Go.IntKind.wrap Go.IntKind.i64 (Int.tdiv (↑ln : Int) (2 : Int)))) (1 : Nat)]
  σ1 fun (v8 : Go.Value) (σ9 : Go.AI.AS) ↦
  Go.AI.tTup v8 fun (l10 : List Go.Value) ↦
  Go.AI.pSome l10[(0 : Nat)]? fun (u11 : Go.Value) ↦
  Go.AI.tI Go.IntKind.i64 u11 fun (n12 : Int) ↦
  Go.AI.tTup v8 fun (l13 : List Go.Value) ↦
  Go.AI.pSome l13[(1 : Nat)]? fun (u14 : Go.Value) ↦
  Go.AI.tI Go.IntKind.i64 u14 fun (n15 : Int) ↦
  K
  (Go.Value.tuple
  (Array.mk
  [Go.Value.int Go.IntKind.i64 (Go.IntKind.wrap Go.IntKind.i64 (Go.IntKind.wrap Go.IntKind.i64 ((9 : Int) + n4) + n12)),
  Go.Value.int Go.IntKind.i64 (Go.IntKind.wrap Go.IntKind.i64 (Go.IntKind.wrap Go.IntKind.i64 ((1 : Int) + n7) + n15))]))
  σ9))))))))) := by
  intros
  kernel_rfl

theorem s29 : ∀ (T : Go.AI.Ct) (ba : Option Go.Addr) (bn : Nat) (r1_1 : Int) (la : Option Go.Addr) (ln : Nat) (σ : Go.AI.AS) (K : Go.Value → Go.AI.AS → Prop),
  Go.AI.fw Go.Proofs.Try.prog Go.AI.hintsT T (29 : Nat) [Go.Value.slice ba bn (1 : Nat), Go.Value.int Go.IntKind.u32 r1_1, Go.Value.slice la ln (1 : Nat)] σ K =
  Go.AI.bmatch ((↑ln : Int) == (0 : Int))
  (Go.AI.newAt σ (Go.AI.AObj.row Go.AI.RK.rw [Go.Value.int Go.IntKind.u8 (1 : Int)]) fun (i0 : Nat) (σ1 : Go.AI.AS) ↦
  Go.AI.lds σ1 (Go.Addr.mk i0 (0 : Nat) Option.none) (1 : Nat) fun (l2 : List Go.Value) ↦
  Go.AI.appendTo σ1 (1 : Nat) (1 : Nat) (Go.AI.Sl.mk ba bn) l2 (1 : Nat) fun (s3 : Go.AI.Sl) (σ4 : Go.AI.AS) ↦ K (Go.Value.slice (Go.AI.Sl.a s3) (Go.AI.Sl.n s3) (1 : Nat)) σ4)
  (Go.AI.bmatch ((↑ln : Int) == (1 : Int))
  (Go.AI.req ((0 : Int) < (↑ln : Int))
  (Go.AI.pSome la fun (a5 : Go.Addr) ↦
  Go.AI.ldc σ (Go.Addr.add a5 (Int.toNat (0 : Int) * Go.AI.szOf Go.Proofs.Try.prog (22 : Nat))) fun (v6 : Go.Value) ↦
  Go.AI.tI Go.IntKind.u32 v6 fun (n7 : Int) ↦
  Go.AI.JoinS (Go.AI.jn Go.Proofs.Try.prog Go.AI.hintsT T (29 : Nat) [Bool.true, Bool.true, Bool.false] [] K)
  [((0 : Nat), Option.some (Go.Value.slice ba bn (1 : Nat))), ((1 : Nat), Option.some (Go.Value.int Go.IntKind.u32 r1_1)), ((2 : Nat), Option.some (Go.Value.slice la ln (1 : Nat))),
  ((24 : Nat), Option.some (Go.Value.bool (Decidable.decide (n7 < (256 : Int)))))]
  σ))
  (Go.AI.JoinS (Go.AI.jn Go.Proofs.Try.prog Go.AI.hintsT T (29 : Nat) [Bool.true, Bool.true, Bool.false] [] K)
  [((0 : Nat), Option.some (Go.Value.slice ba bn (1 : Nat))), ((1 : Nat), Option.some (Go.Value.int Go.IntKind.u32 r1_1)), ((2 : Nat), Option.some (Go.Value.slice la ln (1 : Nat))),
  ((24 : Nat), Option.some (Go.Value.bool Bool.false))]
  σ)) := by
  intros
  kernel_rfl

theorem s29j : ∀ (T : Go.AI.Ct) (ba : Option Go.Addr) (bn be : Nat) (r1_1 : Int) (la : Option Go.Addr) (ln le : Nat) (r24_1 : Bool) (σ : Go.AI.AS) (K : Go.Value → Go.AI.AS → Prop),
  Go.AI.jn Go.Proofs.Try.prog Go.AI.hintsT T (29 : Nat) [Bool.true, Bool.true, Bool.false] [] K
  [((0 : Nat), Option.some (Go.Value.slice ba bn be)), ((1 : Nat), Option.some (Go.Value.int Go.IntKind.u32 r1_1)), ((2 : Nat), Option.some (Go.Value.slice la ln le)),
  ((24 : Nat), Option.some (Go.Value.bool r24_1))]
  σ =
  Go.AI.bmatch r24_1
  (Go.AI.req ((0 : Int) < (↑ln : Int))
  (Go.AI.pSome la fun (a0 : Go.Addr) ↦
  Go.AI.req (le = Go.AI.szOf Go.Proofs.Try.prog (22 : Nat))
  (Go.AI.ldc σ (Go.Addr.add a0 (Int.toNat (0 : Int) * Go.AI.szOf Go.Proofs.Try.prog (22 : Nat))) fun (v1 : Go.Value) ↦
  Go.AI.tI Go.IntKind.u32 v1 fun (n2 : Int) ↦
  Go.AI.newAt σ (Go.AI.AObj.row Go.AI.RK.rw [Go.Value.int Go.IntKind.u8 (2 : Int), Go.Value.int Go.IntKind.u8 (Go.IntKind.wrap Go.IntKind.u8 n2)]) fun (i3 : Nat) (σ4 : Go.AI.AS) ↦
  Go.AI.chk (Go.AI.nilOr ba be (Go.AI.szOf Go.Proofs.Try.prog (5 : Nat)))
  (Go.AI.lds σ4 (Go.Addr.mk i3 (0 : Nat) Option.none) (2 : Nat) fun (l5 : List Go.Value) ↦
  Go.AI.appendTo σ4 (1 : Nat) (1 : Nat) (Go.AI.Sl.mk ba bn) l5 (2 : Nat) fun (s6 : Go.AI.Sl) (σ7 : Go.AI.AS) ↦ K (Go.Value.slice (Go.AI.Sl.a s6) (Go.AI.Sl.n s6) (1 : Nat)) σ7))))
  (Go.AI.bmatch ((↑ln : Int) == (1 : Int))
  (Go.AI.newAt σ (Go.AI.AObj.row Go.AI.RK.rw [Go.Value.int Go.IntKind.u8 (4 : Int)]) fun (i8 : Nat) (σ9 : Go.AI.AS) ↦
  Go.AI.chk (Go.AI.nilOr ba be (Go.AI.szOf Go.Proofs.Try.prog (5 : Nat)))
  (Go.AI.lds σ9 (Go.Addr.mk i8 (0 : Nat) Option.none) (1 : Nat) fun (l10 : List Go.Value) ↦
  Go.AI.appendTo σ9 (1 : Nat) (1 : Nat) (Go.AI.Sl.mk ba bn) l10 (1 : Nat) fun (s11 : Go.AI.Sl) (σ12 : Go.AI.AS) ↦
  Go.AI.req ((0 : Int) < (↑ln : Int))
  (Go.AI.pSome la fun (a13 : Go.Addr) ↦
  Go.AI.req (le = Go.AI.szOf Go.Proofs.Try.prog (22 : Nat))
  (Go.AI.ldc σ12 (Go.Addr.add a13 (Int.toNat (0 : Int) * Go.AI.szOf Go.Proofs.Try.prog (22 : Nat))) fun (v14 : Go.Value) ↦
  Go.AI.tI Go.IntKind.u32 v14 fun (n15 : Int) ↦
  T (19 : Nat) [Go.Value.int Go.IntKind.u32 n15, Go.Value.int Go.IntKind.i64 (4 : Int)] σ12 fun (v16 : Go.Value) (σ17 : Go.AI.AS) ↦
  Go.AI.tL (1 : Nat) v16 fun (s18 : Go.AI.Sl) ↦
  Go.AI.srcCells σ17 (1 : Nat) (Option.some (Go.Value.slice (Go.AI.Sl.a s18) (Go.AI.Sl.n s18) (1 : Nat))) fun (m19 : Nat) (new20 : List Go.Value) ↦
  Go.AI.appendTo σ17 (1 : Nat) (1 : Nat) (Go.AI.Sl.mk (Go.AI.Sl.a s11) (Go.AI.Sl.n s11)) new20 m19 fun (s21 : Go.AI.Sl) (σ22 : Go.AI.AS) ↦
  K (Go.Value.slice (Go.AI.Sl.a s21) (Go.AI.Sl.n s21) (1 : Nat)) σ22))))
  (Go.AI.req ((0 : Int) ≤ Go.IntKind.wrap Go.IntKind.i64 (Int.tdiv (↑ln : Int) (2 : Int)))
  (Go.AI.req (Go.IntKind.wrap Go.IntKind.i64 (Int.tdiv (↑ln : Int) (2 : Int)) ≤ (↑ln : Int))
  (Go.AI.chk (Go.AI.nilOr la le (Go.AI.szOf Go.Proofs.Try.prog (22 : Nat)))
  (T (28 : Nat)
  [Go.Value.slice (Option.map (fun (x : Go.Addr) ↦ Go.Addr.add x (Int.toNat (0 : Int) * Go.AI.szOf Go.Proofs.Try.prog (22 : Nat))) la)
  (Int.toNat (Go.IntKind.wrap Go.IntKind.i64 (Int.tdiv (↑ln : Int) (2 : Int)) - (0 : Int))) (1 : Nat)]
  σ fun (v23 : Go.Value) (σ24 : Go.AI.AS) ↦
  Go.AI.tTup v23 fun (l25 : List Go.Value) ↦
  Go.AI.pSome l25[(0 : Nat)]? fun (u26 : Go.Value) ↦
  Go.AI.tI Go.IntKind.i64 u26 fun (n27 : Int) ↦
  Go.AI.tTup v23 fun (l28 : List Go.Value) ↦
  Go.AI.pSome l28[(1 : Nat)]? fun (u29 : Go.Value) ↦
  Go.AI.tI Go.IntKind.i64 u29 fun (n30 : Int) ↦
  Go.AI.newAt σ24 (Go.AI.AObj.row Go.AI.RK.rw [Go.Value.int Go.IntKind.u8 (0 : Int)]) fun (i31 : Nat) (σ32 : Go.AI.AS) ↦
  Go.AI.chk (Go.AI.nilOr ba be (Go.AI.szOf Go.Proofs.Try.prog (5 : Nat)))
  (Go.AI.lds σ32 (Go.Addr.mk i31 (0 : Nat) Option.none) (1 : Nat) fun (l33 : List Go.Value) ↦
  Go.AI.appendTo σ32 (1 : Nat) (1 : Nat) (Go.AI.Sl.mk ba bn) l33 (1 : Nat) fun (s34 : Go.AI.Sl) (σ35 : Go.AI.AS) ↦
  T (19 : Nat)
  [Go.Value.int Go.IntKind.u32 (Go.IntKind.wrap Go.IntKind.u32 (Go.IntKind.wrap Go.IntKind.u32 (r1_1 + Go.IntKind.wrap Go.IntKind.u32 (↑bn : Int)) + (9 : Int))),
  Go.Value.int Go.IntKind.i64 (4 : Int)]
  σ35 fun (v36 : Go.Value) (σ37 : Go.AI.AS) ↦
  Go.AI.tL (1 : Nat) v36 fun (s38 : Go.AI.Sl) ↦
  Go.AI.srcCells σ37 (1 : Nat) (Option.some (Go.Value.slice (Go.AI.Sl.a s38) (Go.AI.Sl.n s38) (1 : Nat))) fun (m39 : Nat) (new40 : List Go.Value) ↦
  Go.AI.appendTo σ37 (1 : Nat) (1 : Nat) (Go.AI.Sl.mk (Go.AI.Sl.a s34) (Go.AI.Sl.n s34)) new40 m39 fun (s41 : Go.AI.Sl) (σ42 : Go.AI.AS) ↦
  T (19 : Nat)
  [Go.Value.int Go.IntKind.u32
  (Go.IntKind.wrap Go.IntKind.u32
  (Go.IntKind.wrap Go.IntKind.u32 (Go.IntKind.wrap Go.IntKind.u32 (r1_1 + Go.IntKind.wrap Go.IntKind.u32 (↑bn : Int)) + (9 : Int)) +
  Go.IntKind.wrap Go.IntKind.u32 n27)),
  Go.Value.int Go.IntKind.i64 (4 : Int)]
  σ42 fun (v43 : Go.Value) (σ44 : Go.AI.AS) ↦
  Go.AI.tL (1 : Nat) v43 fun (s45 : Go.AI.Sl) ↦
  Go.AI.srcCells σ44 (1 : Nat) (Option.some (Go.Value.slice (Go.AI.Sl.a s45) (Go.AI.Sl.n s45) (1 : Nat))) fun (m46 : Nat) (new47 : List Go.Value) ↦
  Go.AI.appendTo σ44 (1 : Nat) (1 : Nat) (Go.AI.Sl.mk (Go.AI.Sl.a s41) (Go.AI.Sl.n s41)) new47 m46 fun (s48 : Go.AI.Sl) (σ49 : Go.AI.AS) ↦
  Go.AI.req ((0 : Int) ≤ Go.IntKind.wrap Go.IntKind.i64 (Int.tdiv (↑ln : Int) (2 : Int)))
  (Go.AI.req (Go.IntKind.wrap Go.IntKind.i64 (Int.tdiv (↑ln : Int) (2 : Int)) ≤ (↑ln : Int))
  (Go.AI.chk (Go.AI.nilOr la le (Go.AI.szOf Go.Proofs.Try.prog (22 : Nat)))
  (T (29 : Nat)
  [Go.Value.slice (Go.AI.Sl.a s48) (Go.AI.Sl.n s48) (1 : Nat), Go.Value.int Go.IntKind.u32 r1_1,
  Go.Value.slice (Option.map (fun (x : Go.Addr) ↦ Go.Addr.add x (Int.toNat (0 : Int) * Go.AI.szOf Go.Proofs.Try.prog (22 : Nat))) la)
  (Int.toNat (Go.IntKind.wrap Go.IntKind.i64 (Int.tdiv (↑ln : Int) (2 : Int)) - (0 : Int))) (1 : Nat)]
  σ49 fun (v50 : Go.Value) (σ51 : Go.AI.AS) ↦
  Go.AI.tL (1 : Nat) v50 fun (s52 : Go.AI.Sl) ↦
  Go.AI.req ((0 : Int) ≤ Go.IntKind.wrap Go.IntKind.i64 (Int.tdiv (↑ln : Int) (2 : Int)))
  (Go.AI.req (Go.IntKind.wrap Go.IntKind.i64 (Int.tdiv (↑ln : Int) (2 : Int)) ≤ (↑ln : Int))
  (Go.AI.req ((↑ln : Int) ≤ (↑ln : Int))
  (Go.AI.chk (Go.AI.nilOr la le (Go.AI.szOf Go.Proofs.Try.prog (22 : Nat)))
  (T (29 : Nat)
  [Go.Value.slice (Go.AI.Sl.a s52) (Go.AI.Sl.n s52) (1 : Nat), Go.Value.int Go.IntKind.u32 r1_1,
  Go.Value.slice
  (Option.map
  (fun (x : Go.Addr) ↦
  Go.Addr.add x (Int.toNat (Go.IntKind.wrap Go.IntKind.i64 (Int.tdiv (↑ln : Int) (2 : Int))) * Go.AI.szOf Go.Proofs.Try.prog (22 : Nat)))
  la)
  (Int.toNat ((↑ln : Int) - Go.IntKind.wrap Go.IntKind.i64 (Int.tdiv (↑ln : Int) (2 : Int)))) (1 : Nat)]
  σ51 fun (v53 : Go.Value) (σ54 : Go.AI.AS) ↦
  Go.AI.tL (1 : Nat) v53 fun (s55 : Go.AI.Sl) ↦ K (Go.Value.slice (Go.AI.Sl.a s55) (Go.AI.Sl.n s55) (1 : Nat)) σ54))))))))))))) := by
  intros
  kernel_rfl

end Go.AI
end
section
/- The conditions ahead of the calls of the program's functions, reckoned as far as they go (equations that the kernel checks); no condition. -/
set_option maxRecDepth 1000000
set_option linter.unusedVariables false
namespace Go.AI
open Go.Proofs
theorem s32 : ∀ (T : Go.AI.Ct) (bitsa : Option Go.Addr) (bitsn : Nat) (la : Option Go.Addr) (ln : Nat) (c : Int) (σ : Go.AI.AS) (K : Go.Value → Go.AI.AS → Prop),
  Go.AI.fw Go.Proofs.Try.prog Go.AI.hintsT T (32 : Nat) [Go.Value.slice bitsa bitsn (1 : Nat), Go.Value.slice la ln (1 : Nat), Go.Value.int Go.IntKind.u32 c] σ K =
  Go.AI.bmatch ((↑ln : Int) == (0 : Int)) (K (Go.Value.tuple (Array.mk [Go.Value.slice bitsa bitsn (1 : Nat), Go.Value.bool Bool.false])) σ)
  (Go.AI.bmatch ((↑ln : Int) == (1 : Int))
  (Go.AI.req ((0 : Int) < (↑ln : Int))
  (Go.AI.pSome la fun (a0 : Go.Addr) ↦
  Go.AI.ldc σ (Go.Addr.add a0 (Int.toNat (0 : Int) * Go.AI.szOf Go.Proofs.Try.prog (22 : Nat))) fun (v1 : Go.Value) ↦
  Go.AI.tI Go.IntKind.u32 v1 fun (n2 : Int) ↦ K (Go.Value.tuple (Array.mk [Go.Value.slice bitsa bitsn (1 : Nat), Go.Value.bool (n2 == c)])) σ))
  (Go.AI.req ((0 : Int) ≤ Go.IntKind.wrap Go.IntKind.i64 (Int.tdiv (↑ln : Int) (2 : Int)))
  (Go.AI.req (Go.IntKind.wrap Go.IntKind.i64 (Int.tdiv (↑ln : Int) (2 : Int)) ≤ (↑ln : Int))
  (Go.AI.newAt σ (Go.AI.AObj.row Go.AI.RK.rw [Go.Value.int Go.IntKind.u8 (0 : Int)]) fun (i3 : Nat) (σ4 : Go.AI.AS) ↦
  Go.Value.int Go.IntKind.i64 (↑ln : Int) = Go.Value.int Go.IntKind.i64 (↑ln : Int) ∧
  Go.AI.newAt σ4 (Go.AI.AObj.row Go.AI.RK.rw []) fun (i5 : Nat) (σ6 : Go.AI.AS) ↦
  Go.Value.int Go.IntKind.i64 (↑ln : Int) = Go.Value.int Go.IntKind.i64 (↑ln : Int) ∧
  Go.AI.srcCells σ6 (1 : Nat) (Option.some (Go.Value.slice bitsa bitsn (1 : Nat))) fun (m7 : Nat) (new8 : List Go.Value) ↦
  Go.AI.appendTo σ6 (1 : Nat) (1 : Nat) (Go.AI.Sl.mk (Option.some (Go.Addr.mk i5 (0 : Nat) Option.none)) (0 : Nat)) new8 m7 fun (s9 : Go.AI.Sl) (σ10 : Go.AI.AS) ↦
  Go.Value.int Go.IntKind.i64 (↑ln : Int) = Go.Value.int Go.IntKind.i64 (↑ln : Int) ∧
  Go.AI.lds σ10 (Go.Addr.mk i3 (0 : Nat) Option.none) (1 : Nat) fun (l11 : List Go.Value) ↦
  Go.AI.appendTo σ10 (1 : Nat) (1 : Nat) (Go.AI.Sl.mk (Go.AI.Sl.a s9) (Go.AI.Sl.n s9)) l11 (1 : Nat) fun (s12 : Go.AI.Sl) (σ13 : Go.AI.AS) ↦
  Go.Value.int Go.IntKind.i64 (↑ln : Int) = Go.Value.int Go.IntKind.i64 (↑ln : Int) ∧
  T (32 : Nat)
  [Go.Value.slice (Go.AI.Sl.a s12) (Go.AI.Sl.n s12) (1 : Nat),
  Go.Value.slice (Option.map (fun (x : Go.Addr) ↦ Go.Addr.add x (Int.toNat (0 : Int) * Go.AI.szOf Go.Proofs.Try.prog (22 : Nat))) la)
  (Int.toNat (Go.IntKind.wrap Go.IntKind.i64 (Int.tdiv (↑ln : Int) (2 : Int)) - (0 : Int))) (1 : Nat),
  Go.Value.int Go.IntKind.u32 c]
  σ13 fun (v14 : Go.Value) (σ15 : Go.AI.AS) ↦
  Go.AI.tTup v14 fun (l16 : List Go.Value) ↦
  Go.AI.pSome l16[(0 : Nat)]? fun (u17 : Go.Value) ↦
  Go.AI.tL (1 : Nat) u17 fun (s18 : Go.AI.Sl) ↦
  Go.AI.tTup v14 fun (l19 : List Go.Value) ↦
  Go.AI.pSome l19[(1 : Nat)]? fun (u20 : Go.Value) ↦
  Go.AI.tB u20 fun (b21 : Bool) ↦
  Go.AI.JoinS (Go.AI.jn Go.Proofs.Try.prog Go.AI.hintsT T (32 : Nat) [Bool.true, Bool.true, Bool.true] [] K)
  [((0 : Nat), Option.some (Go.Value.slice bitsa bitsn (1 : Nat))), ((1 : Nat), Option.some (Go.Value.slice la ln (1 : Nat))),
  ((2 : Nat), Option.some (Go.Value.int Go.IntKind.u32 c)), ((8 : Nat), Option.some (Go.Value.slice (Go.AI.Sl.a s18) (Go.AI.Sl.n s18) (1 : Nat))),
  ((9 : Nat), Option.some (Go.Value.bool b21))]
  σ15)) ∧
  Go.AI.req ((0 : Int) ≤ Go.IntKind.wrap Go.IntKind.i64 (Int.tdiv (↑ln : Int) (2 : Int)))
  (Go.AI.req (Go.IntKind.wrap Go.IntKind.i64 (Int.tdiv (↑ln : Int) (2 : Int)) ≤ (↑ln : Int))
  (Go.AI.newAt σ (Go.AI.AObj.row Go.AI.RK.rw []) fun (i22 : Nat) (σ23 : Go.AI.AS) ↦
  Go.Value.int Go.IntKind.i64 (↑ln : Int) = Go.Value.int Go.IntKind.i64 (↑ln : Int) ∧
  Go.AI.newAt σ23 (Go.AI.AObj.row Go.AI.RK.rw [Go.Value.int Go.IntKind.u8 (0 : Int)]) fun (i24 : Nat) (σ25 : Go.AI.AS) ↦
  Go.Value.int Go.IntKind.i64 (↑ln : Int) = Go.Value.int Go.IntKind.i64 (↑ln : Int) ∧
  Go.AI.srcCells σ25 (1 : Nat) (Option.some (Go.Value.slice bitsa bitsn (1 : Nat))) fun (m26 : Nat) (new27 : List Go.Value) ↦
  Go.AI.appendTo σ25 (1 : Nat) (1 : Nat) (Go.AI.Sl.mk (Option.some (Go.Addr.mk i22 (0 : Nat) Option.none)) (0 : Nat)) new27 m26 fun (s28 : Go.AI.Sl) (σ29 : Go.AI.AS) ↦
  Go.Value.int Go.IntKind.i64 (↑ln : Int) = Go.Value.int Go.IntKind.i64 (↑ln : Int) ∧
  Go.AI.lds σ29 (Go.Addr.mk i24 (0 : Nat) Option.none) (1 : Nat) fun (l30 : List Go.Value) ↦
  Go.AI.appendTo σ29 (1 : Nat) (1 : Nat) (Go.AI.Sl.mk (Go.AI.Sl.a s28) (Go.AI.Sl.n s28)) l30 (1 : Nat) fun (s31 : Go.AI.Sl) (σ32 : Go.AI.AS) ↦
  Go.Value.int Go.IntKind.i64 (↑ln : Int) = Go.Value.int Go.IntKind.i64 (↑ln : Int) ∧
  T (32 : Nat)
  [Go.Value.slice (Go.AI.Sl.a s31) (Go.AI.Sl.n s31) (1 : Nat),
  Go.Value.slice (Option.map (fun (x : Go.Addr) ↦ Go.Addr.add x (Int.toNat (0 : Int) * Go.AI.szOf Go.Proofs.Try.prog (22 : Nat))) la)
  (Int.toNat (Go.IntKind.wrap Go.IntKind.i64 (Int.tdiv (↑ln : Int) (2 : Int)) - (0 : Int))) (1 : Nat),
  Go.Value.int Go.IntKind.u32 c]
  σ32 fun (v33 : Go.Value) (σ34 : Go.AI.AS) ↦
  Go.AI.tTup v33 fun (l35 : List Go.Value) ↦
  Go.AI.pSome l35[(0 : Nat)]? fun (u36 : Go.Value) ↦
  Go.AI.tL (1 : Nat) u36 fun (s37 : Go.AI.Sl) ↦
  Go.AI.tTup v33 fun (l38 : List Go.Value) ↦
  Go.AI.pSome l38[(1 : Nat)]? fun (u39 : Go.Value) ↦
  Go.AI.tB u39 fun (b40 : Bool) ↦
  Go.AI.JoinS (Go.AI.jn Go.Proofs.Try.prog Go.AI.hintsT T (32 : Nat) [Bool.true, Bool.true, Bool.true] [] K)
  [((0 : Nat), Option.some (Go.Value.slice bitsa bitsn (1 : Nat))), ((1 : Nat), Option.some (Go.Value.slice la ln (1 : Nat))),
  ((2 : Nat), Option.some (Go.Value.int Go.IntKind.u32 c)), ((8 : Nat), Option.some (Go.Value.slice (Go.AI.Sl.a s37) (Go.AI.Sl.n s37) (1 : Nat))),
  ((9 : Nat), Option.some (Go.Value.bool b40))]
  σ34)) ∧
  Go.AI.req ((0 : Int) ≤ Go.IntKind.wrap Go.IntKind.i64 (Int.tdiv (↑ln : Int) (2 : Int)))
  (Go.AI.req (Go.IntKind.wrap Go.IntKind.i64 (Int.tdiv (↑ln : Int) (2 : Int)) ≤ (↑ln : Int))
  (Go.AI.newAt σ (Go.AI.AObj.row Go.AI.RK.rw []) fun (i41 : Nat) (σ42 : Go.AI.AS) ↦
  Go.Value.int Go.IntKind.i64 (↑ln : Int) = Go.Value.int Go.IntKind.i64 (↑ln : Int) ∧
  Go.AI.srcCells σ42 (1 : Nat) (Option.some (Go.Value.slice bitsa bitsn (1 : Nat))) fun (m43 : Nat) (new44 : List Go.Value) ↦
  Go.AI.appendTo σ42 (1 : Nat) (1 : Nat) (Go.AI.Sl.mk (Option.some (Go.Addr.mk i41 (0 : Nat) Option.none)) (0 : Nat)) new44 m43 fun (s45 : Go.AI.Sl) (σ46 : Go.AI.AS) ↦
  Go.Value.int Go.IntKind.i64 (↑ln : Int) = Go.Value.int Go.IntKind.i64 (↑ln : Int) ∧
  Go.AI.newAt σ46 (Go.AI.AObj.row Go.AI.RK.rw [Go.Value.int Go.IntKind.u8 (0 : Int)]) fun (i47 : Nat) (σ48 : Go.AI.AS) ↦
  Go.Value.int Go.IntKind.i64 (↑ln : Int) = Go.Value.int Go.IntKind.i64 (↑ln : Int) ∧
  Go.AI.lds σ48 (Go.Addr.mk i47 (0 : Nat) Option.none) (1 : Nat) fun (l49 : List Go.Value) ↦
  Go.AI.appendTo σ48 (1 : Nat) (1 : Nat) (Go.AI.Sl.mk (Go.AI.Sl.a s45) (Go.AI.Sl.n s45)) l49 (1 : Nat) fun (s50 : Go.AI.Sl) (σ51 : Go.AI.AS) ↦
  Go.Value.int Go.IntKind.i64 (↑ln : Int) = Go.Value.int Go.IntKind.i64 (↑ln : Int) ∧
  T (32 : Nat)
  [Go.Value.slice (Go.AI.Sl.a s50) (Go.AI.Sl.n s50) (1 : Nat),
  Go.Value.slice (Option.map (fun (x : Go.Addr) ↦ Go.Addr.add x (Int.toNat (0 : Int) * Go.AI.szOf Go.Proofs.Try.prog (22 : Nat))) la)
  (Int.toNat (Go.IntKind.wrap Go.IntKind.i64 (Int.tdiv (↑ln : Int) (2 : Int)) - (0 : Int))) (1 : Nat),
  Go.Value.int Go.IntKind.u32 c]
  σ51 fun (v52 : Go.Value) (σ53 : Go.AI.AS) ↦
  Go.AI.tTup v52 fun (l54 : List Go.Value) ↦
  Go.AI.pSome l54[(0 : Nat)]? fun (u55 : Go.Value) ↦
  Go.AI.tL (1 : Nat) u55 fun (s56 : Go.AI.Sl) ↦
  Go.AI.tTup v52 fun (l57 : List Go.Value) ↦
  Go.AI.pSome l57[(1 : Nat)]? fun (u58 : Go.Value) ↦
  Go.AI.tB u58 fun (b59 : Bool) ↦
  Go.AI.JoinS (Go.AI.jn Go.Proofs.Try.prog Go.AI.hintsT T (32 : Nat) [Bool.true, Bool.true, Bool.true] [] K)
  [((0 : Nat), Option.some (Go.Value.slice bitsa bitsn (1 : Nat))), ((1 : Nat), Option.some (Go.Value.slice la ln (1 : Nat))),
  ((2 : Nat), Option.some (Go.Value.int Go.IntKind.u32 c)), ((8 : Nat), Option.some (Go.Value.slice (Go.AI.Sl.a s56) (Go.AI.Sl.n s56) (1 : Nat))),
  ((9 : Nat), Option.some (Go.Value.bool b59))]
  σ53)))) := by
  intros
  kernel_rfl

theorem s32j : ∀ (T : Go.AI.Ct) (bitsa : Option Go.Addr) (bitsn bitse : Nat) (la : Option Go.Addr) (ln le : Nat) (c : Int) (lefta : Option Go.Addr) (leftn lefte : Nat) (ok : Bool) (σ : Go.AI.AS)
  (K : Go.Value → Go.AI.AS → Prop),
  Go.AI.jn Go.Proofs.Try.prog Go.AI.hintsT T (32 : Nat) [Bool.true, Bool.true, Bool.true] [] K
  [((0 : Nat), Option.some (Go.Value.slice bitsa bitsn bitse)), ((1 : Nat), Option.some (Go.Value.slice la ln le)), ((2 : Nat), Option.some (Go.Value.int Go.IntKind.u32 c)),
  ((8 : Nat), Option.some (Go.Value.slice lefta leftn lefte)), ((9 : Nat), Option.some (Go.Value.bool ok))]
  σ =
  Go.AI.bmatch ok (K (Go.Value.tuple (Array.mk [Go.Value.slice lefta leftn lefte, Go.Value.bool Bool.true])) σ)
  (Go.AI.req ((0 : Int) ≤ Go.IntKind.wrap Go.IntKind.i64 (Int.tdiv (↑ln : Int) (2 : Int)))
  (Go.AI.req (Go.IntKind.wrap Go.IntKind.i64 (Int.tdiv (↑ln : Int) (2 : Int)) ≤ (↑ln : Int))
  (Go.AI.req ((↑ln : Int) ≤ (↑ln : Int))
  (Go.AI.chk (Go.AI.nilOr la le (Go.AI.szOf Go.Proofs.Try.prog (22 : Nat)))
  (Go.AI.newAt σ (Go.AI.AObj.row Go.AI.RK.rw [Go.Value.int Go.IntKind.u8 (1 : Int)]) fun (i0 : Nat) (σ1 : Go.AI.AS) ↦
  Go.Value.int Go.IntKind.i64 (↑ln : Int) = Go.Value.int Go.IntKind.i64 (↑ln : Int) ∧
  Go.AI.newAt σ1 (Go.AI.AObj.row Go.AI.RK.rw []) fun (i2 : Nat) (σ3 : Go.AI.AS) ↦
  Go.Value.int Go.IntKind.i64 (↑ln : Int) = Go.Value.int Go.IntKind.i64 (↑ln : Int) ∧
  Go.AI.srcCells σ3 (1 : Nat) (Option.some (Go.Value.slice bitsa bitsn bitse)) fun (m4 : Nat) (new5 : List Go.Value) ↦
  Go.AI.appendTo σ3 (1 : Nat) (1 : Nat) (Go.AI.Sl.mk (Option.some (Go.Addr.mk i2 (0 : Nat) Option.none)) (0 : Nat)) new5 m4 fun (s6 : Go.AI.Sl) (σ7 : Go.AI.AS) ↦
  Go.Value.int Go.IntKind.i64 (↑ln : Int) = Go.Value.int Go.IntKind.i64 (↑ln : Int) ∧
  Go.AI.lds σ7 (Go.Addr.mk i0 (0 : Nat) Option.none) (1 : Nat) fun (l8 : List Go.Value) ↦
  Go.AI.appendTo σ7 (1 : Nat) (1 : Nat) (Go.AI.Sl.mk (Go.AI.Sl.a s6) (Go.AI.Sl.n s6)) l8 (1 : Nat) fun (s9 : Go.AI.Sl) (σ10 : Go.AI.AS) ↦
  Go.Value.int Go.IntKind.i64 (↑ln : Int) = Go.Value.int Go.IntKind.i64 (↑ln : Int) ∧
  T (32 : Nat)
  [Go.Value.slice (Go.AI.Sl.a s9) (Go.AI.Sl.n s9) (1 : Nat),
  Go.Value.slice
  (Option.map (fun (x : Go.Addr) ↦ Go.Addr.add x (Int.toNat (Go.IntKind.wrap Go.IntKind.i64 (Int.tdiv (↑ln : Int) (2 : Int))) * Go.AI.szOf Go.Proofs.Try.prog (22 : Nat))) la)
  (Int.toNat ((↑ln : Int) - Go.IntKind.wrap Go.IntKind.i64 (Int.tdiv (↑ln : Int) (2 : Int)))) (1 : Nat),
  Go.Value.int Go.IntKind.u32 c]
  σ10 fun (v11 : Go.Value) (σ12 : Go.AI.AS) ↦
  Go.AI.tTup v11 fun (l13 : List Go.Value) ↦
  Go.AI.pSome l13[(0 : Nat)]? fun (u14 : Go.Value) ↦
  Go.AI.tL (1 : Nat) u14 fun (s15 : Go.AI.Sl) ↦
  Go.AI.tTup v11 fun (l16 : List Go.Value) ↦
  Go.AI.pSome l16[(1 : Nat)]? fun (u17 : Go.Value) ↦
  Go.AI.tB u17 fun (b18 : Bool) ↦
  Go.AI.JoinS (Go.AI.jn Go.Proofs.Try.prog Go.AI.hintsT T (32 : Nat) [Bool.true, Bool.true, Bool.true, Bool.true, Bool.true] [] K)
  [((6 : Nat), Option.some (Go.Value.slice (Go.AI.Sl.a s15) (Go.AI.Sl.n s15) (1 : Nat))), ((7 : Nat), Option.some (Go.Value.bool b18))] σ12)))) ∧
  Go.AI.req ((0 : Int) ≤ Go.IntKind.wrap Go.IntKind.i64 (Int.tdiv (↑ln : Int) (2 : Int)))
  (Go.AI.req (Go.IntKind.wrap Go.IntKind.i64 (Int.tdiv (↑ln : Int) (2 : Int)) ≤ (↑ln : Int))
  (Go.AI.req ((↑ln : Int) ≤ (↑ln : Int))
  (Go.AI.chk (Go.AI.nilOr la le (Go.AI.szOf Go.Proofs.Try.prog (22 : Nat)))
  (Go.AI.newAt σ (Go.AI.AObj.row Go.AI.RK.rw []) fun (i19 : Nat) (σ20 : Go.AI.AS) ↦
  Go.Value.int Go.IntKind.i64 (↑ln : Int) = Go.Value.int Go.IntKind.i64 (↑ln : Int) ∧
  Go.AI.newAt σ20 (Go.AI.AObj.row Go.AI.RK.rw [Go.Value.int Go.IntKind.u8 (1 : Int)]) fun (i21 : Nat) (σ22 : Go.AI.AS) ↦
  Go.Value.int Go.IntKind.i64 (↑ln : Int) = Go.Value.int Go.IntKind.i64 (↑ln : Int) ∧
  Go.AI.srcCells σ22 (1 : Nat) (Option.some (Go.Value.slice bitsa bitsn bitse)) fun (m23 : Nat) (new24 : List Go.Value) ↦
  Go.AI.appendTo σ22 (1 : Nat) (1 : Nat) (Go.AI.Sl.mk (Option.some (Go.Addr.mk i19 (0 : Nat) Option.none)) (0 : Nat)) new24 m23 fun (s25 : Go.AI.Sl) (σ26 : Go.AI.AS) ↦
  Go.Value.int Go.IntKind.i64 (↑ln : Int) = Go.Value.int Go.IntKind.i64 (↑ln : Int) ∧
  Go.AI.lds σ26 (Go.Addr.mk i21 (0 : Nat) Option.none) (1 : Nat) fun (l27 : List Go.Value) ↦
  Go.AI.appendTo σ26 (1 : Nat) (1 : Nat) (Go.AI.Sl.mk (Go.AI.Sl.a s25) (Go.AI.Sl.n s25)) l27 (1 : Nat) fun (s28 : Go.AI.Sl) (σ29 : Go.AI.AS) ↦
  Go.Value.int Go.IntKind.i64 (↑ln : Int) = Go.Value.int Go.IntKind.i64 (↑ln : Int) ∧
  T (32 : Nat)
  [Go.Value.slice (Go.AI.Sl.a s28) (Go.AI.Sl.n s28) (1 : Nat),
  Go.Value.slice
  (Option.map (fun (x : Go.Addr) ↦ Go.Addr.add x (Int.toNat (Go.IntKind.wrap Go.IntKind.i64 (Int.tdiv (↑ln : Int) (2 : Int))) * Go.AI.szOf Go.Proofs.Try.prog (22 : Nat))) la)
  (Int.toNat ((↑ln : Int) - Go.IntKind.wrap Go.IntKind.i64 (Int.tdiv (↑ln : Int) (2 : Int)))) (1 : Nat),
  Go.Value.int Go.IntKind.u32 c]
  σ29 fun (v30 : Go.Value) (σ31 : Go.AI.AS) ↦
  Go.AI.tTup v30 fun (l32 : List Go.Value) ↦
  Go.AI.pSome l32[(0 : Nat)]? fun (u33 : Go.Value) ↦
  Go.AI.tL (1 : Nat) u33 fun (s34 : Go.AI.Sl) ↦
  Go.AI.tTup v30 fun (l35 : List Go.Value) ↦
  Go.AI.pSome l35[(1 : Nat)]? fun (u36 : Go.Value) ↦
  Go.AI.tB u36 fun (b37 : Bool) ↦
  Go.AI.JoinS (Go.AI.jn Go.Proofs.Try.prog Go.AI.hintsT T (32 : Nat) [Bool.true, Bool.true, Bool.true, Bool.true, Bool.true] [] K)
  [((6 : Nat), Option.some (Go.Value.slice (Go.AI.Sl.a s34) (Go.AI.Sl.n s34) (1 : Nat))), ((7 : Nat), Option.some (Go.Value.bool b37))] σ31)))) ∧
  Go.AI.req ((0 : Int) ≤ Go.IntKind.wrap Go.IntKind.i64 (Int.tdiv (↑ln : Int) (2 : Int)))
  (Go.AI.req (Go.IntKind.wrap Go.IntKind.i64 (Int.tdiv (↑ln : Int) (2 : Int)) ≤ (↑ln : Int))
  (Go.AI.req ((↑ln : Int) ≤ (↑ln : Int))
  (Go.AI.chk (Go.AI.nilOr la le (Go.AI.szOf Go.Proofs.Try.prog (22 : Nat)))
  (Go.AI.newAt σ (Go.AI.AObj.row Go.AI.RK.rw []) fun (i38 : Nat) (σ39 : Go.AI.AS) ↦
  Go.Value.int Go.IntKind.i64 (↑ln : Int) = Go.Value.int Go.IntKind.i64 (↑ln : Int) ∧
  Go.AI.srcCells σ39 (1 : Nat) (Option.some (Go.Value.slice bitsa bitsn bitse)) fun (m40 : Nat) (new41 : List Go.Value) ↦
  Go.AI.appendTo σ39 (1 : Nat) (1 : Nat) (Go.AI.Sl.mk (Option.some (Go.Addr.mk i38 (0 : Nat) Option.none)) (0 : Nat)) new41 m40 fun (s42 : Go.AI.Sl) (σ43 : Go.AI.AS) ↦
  Go.Value.int Go.IntKind.i64 (↑ln : Int) = Go.Value.int Go.IntKind.i64 (↑ln : Int) ∧
  Go.AI.newAt σ43 (Go.AI.AObj.row Go.AI.RK.rw [Go.Value.int Go.IntKind.u8 (1 : Int)]) fun (i44 : Nat) (σ45 : Go.AI.AS) ↦
  Go.Value.int Go.IntKind.i64 (↑ln : Int) = Go.Value.int Go.IntKind.i64 (↑ln : Int) ∧
  Go.AI.lds σ45 (Go.Addr.mk i44 (0 : Nat) Option.none) (1 : Nat) fun (l46 : List Go.Value) ↦
  Go.AI.appendTo σ45 (1 : Nat) (1 : Nat) (Go.AI.Sl.mk (Go.AI.Sl.a s42) (Go.AI.Sl.n s42)) l46 (1 : Nat) fun (s47 : Go.AI.Sl) (σ48 : Go.AI.AS) ↦
  Go.Value.int Go.IntKind.i64 (↑ln : Int) = Go.Value.int Go.IntKind.i64 (↑ln : Int) ∧
  T (32 : Nat)
  [Go.Value.slice (Go.AI.Sl.a s47) (Go.AI.Sl.n s47) (1 : Nat),
  Go.Value.slice
  (Option.map (fun (x : Go.Addr) ↦ Go.Addr.add x (Int.toNat (Go.IntKind.wrap Go.IntKind.i64 (Int.tdiv (↑ln : Int) (2 : Int))) * Go.AI.szOf Go.Proofs.Try.prog (22 : Nat))) la)
  (Int.toNat ((↑ln : Int) - Go.IntKind.wrap Go.IntKind.i64 (Int.tdiv (↑ln : Int) (2 : Int)))) (1 : Nat),
  Go.Value.int Go.IntKind.u32 c]
  σ48 fun (v49 : Go.Value) (σ50 : Go.AI.AS) ↦
  Go.AI.tTup v49 fun (l51 : List Go.Value) ↦
  Go.AI.pSome l51[(0 : Nat)]? fun (u52 : Go.Value) ↦
  Go.AI.tL (1 : Nat) u52 fun (s53 : Go.AI.Sl) ↦
  Go.AI.tTup v49 fun (l54 : List Go.Value) ↦
  Go.AI.pSome l54[(1 : Nat)]? fun (u55 : Go.Value) ↦
  Go.AI.tB u55 fun (b56 : Bool) ↦
  Go.AI.JoinS (Go.AI.jn Go.Proofs.Try.prog Go.AI.hintsT T (32 : Nat) [Bool.true, Bool.true, Bool.true, Bool.true, Bool.true] [] K)
  [((6 : Nat), Option.some (Go.Value.slice (Go.AI.Sl.a s53) (Go.AI.Sl.n s53) (1 : Nat))), ((7 : Nat), Option.some (Go.Value.bool b56))] σ50))))) := by
  intros
  kernel_rfl

theorem s32j1 : ∀ (T : Go.AI.Ct) (r6a_1 : Option Go.Addr) (r6n_1 r6e_1 : Nat) (r7_1 : Bool) (σ : Go.AI.AS) (K : Go.Value → Go.AI.AS → Prop),
  Go.AI.jn Go.Proofs.Try.prog Go.AI.hintsT T (32 : Nat) [Bool.true, Bool.true, Bool.true, Bool.true, Bool.true] [] K
  [((6 : Nat), Option.some (Go.Value.slice r6a_1 r6n_1 r6e_1)), ((7 : Nat), Option.some (Go.Value.bool r7_1))] σ =
  K (Go.Value.tuple (Array.mk [Go.Value.slice r6a_1 r6n_1 r6e_1, Go.Value.bool r7_1])) σ := by
  intros
  kernel_rfl

theorem s13 : ∀ (T : Go.AI.Ct) (lettersa : Option Go.Addr) (lettersn : Nat) (la : Option Go.Addr) (ln : Nat) (σ : Go.AI.AS) (K : Go.Value → Go.AI.AS → Prop),
  Go.AI.fw Go.Proofs.Try.prog Go.AI.hintsT T (13 : Nat) [Go.Value.slice lettersa lettersn (1 : Nat), Go.Value.slice la ln (1 : Nat)] σ K =
  T (27 : Nat) [Go.Value.slice lettersa lettersn (1 : Nat)] σ fun (v0 : Go.Value) (σ1 : Go.AI.AS) ↦
  Go.AI.tI Go.IntKind.i64 v0 fun (n2 : Int) ↦
  Go.AI.bmatch (n2 != (0 : Int)) (K (Go.Value.tuple (Array.mk [Go.Value.slice Option.none (0 : Nat) (0 : Nat), Go.Value.int Go.IntKind.i64 n2])) σ1)
  (Go.AI.ALoop (Go.AI.fl Go.Proofs.Try.prog Go.AI.hintsT T (13 : Nat) [Bool.true, Bool.true, Bool.true, Bool.true, Bool.false, Bool.true, Bool.false] [] K)
  [((0 : Nat), Option.some (Go.Value.slice lettersa lettersn (1 : Nat))), ((1 : Nat), Option.some (Go.Value.slice la ln (1 : Nat))),
  ((7 : Nat), Option.some (Go.Value.slice Option.none (0 : Nat) (0 : Nat))), ((8 : Nat), Option.some (Go.Value.int Go.IntKind.i64 (0 : Int)))]
  σ1) := by
  intros
  kernel_rfl

theorem s13l : ∀ (T : Go.AI.Ct) (lettersa : Option Go.Addr) (lettersn letterse : Nat) (la : Option Go.Addr) (ln le : Nat) (bitsa : Option Go.Addr) (bitsn bitse : Nat) (i : Int) (X : Go.AI.Regs → Go.AI.AS → Prop)
  (σ : Go.AI.AS) (K : Go.Value → Go.AI.AS → Prop),
  Go.AI.fl Go.Proofs.Try.prog Go.AI.hintsT T (13 : Nat) [Bool.true, Bool.true, Bool.true, Bool.true, Bool.false, Bool.true, Bool.false] [] K X
  [((0 : Nat), Option.some (Go.Value.slice lettersa lettersn letterse)), ((1 : Nat), Option.some (Go.Value.slice la ln le)), ((7 : Nat), Option.some (Go.Value.slice bitsa bitsn bitse)),
  ((8 : Nat), Option.some (Go.Value.int Go.IntKind.i64 i))]
  σ =
  Go.AI.bmatch (Decidable.decide (i < (↑ln : Int)))
  (Go.AI.newAt σ (Go.AI.AObj.row Go.AI.RK.rw [Go.Value.int Go.IntKind.u8 (1 : Int)]) fun (i0 : Nat) (σ1 : Go.AI.AS) ↦
  Go.AI.req ((0 : Int) ≤ i)
  (Go.AI.req (i < (↑ln : Int))
  (Go.AI.pSome la fun (a2 : Go.Addr) ↦
  Go.AI.req (le = Go.AI.szOf Go.Proofs.Try.prog (22 : Nat))
  (Go.AI.ldc σ1 (Go.Addr.add a2 (Int.toNat i * Go.AI.szOf Go.Proofs.Try.prog (22 : Nat))) fun (v3 : Go.Value) ↦
  Go.AI.tI Go.IntKind.u32 v3 fun (n4 : Int) ↦
  T (32 : Nat) [Go.Value.slice (Option.some (Go.Addr.mk i0 (0 : Nat) Option.none)) (1 : Nat) (1 : Nat), Go.Value.slice lettersa lettersn letterse, Go.Value.int Go.IntKind.u32 n4] σ1
  fun (v5 : Go.Value) (σ6 : Go.AI.AS) ↦
  Go.AI.tTup v5 fun (l7 : List Go.Value) ↦
  Go.AI.pSome l7[(0 : Nat)]? fun (u8 : Go.Value) ↦
  Go.AI.tL (1 : Nat) u8 fun (s9 : Go.AI.Sl) ↦
  Go.AI.tTup v5 fun (l10 : List Go.Value) ↦
  Go.AI.pSome l10[(1 : Nat)]? fun (u11 : Go.Value) ↦
  Go.AI.tB u11 fun (b12 : Bool) ↦
  Go.AI.bmatch (!b12) (K (Go.Value.tuple (Array.mk [Go.Value.slice Option.none (0 : Nat) (0 : Nat), Go.Value.int Go.IntKind.i64 (5 : Int)])) σ6)
  (Go.AI.chk (Go.AI.nilOr bitsa bitse (Go.AI.szOf Go.Proofs.Try.prog (5 : Nat)))
  (Go.AI.srcCells σ6 (1 : Nat) (Option.some (Go.Value.slice (Go.AI.Sl.a s9) (Go.AI.Sl.n s9) (1 : Nat))) fun (m13 : Nat) (new14 : List Go.Value) ↦
  Go.AI.appendTo σ6 (1 : Nat) (1 : Nat) (Go.AI.Sl.mk bitsa bitsn) new14 m13 fun (s15 : Go.AI.Sl) (σ16 : Go.AI.AS) ↦
  X
  [((0 : Nat), Option.some (Go.Value.slice lettersa lettersn letterse)), ((1 : Nat), Option.some (Go.Value.slice la ln le)),
  ((7 : Nat), Option.some (Go.Value.slice (Go.AI.Sl.a s15) (Go.AI.Sl.n s15) (1 : Nat))),
  ((8 : Nat), Option.some (Go.Value.int Go.IntKind.i64 (Go.IntKind.wrap Go.IntKind.i64 (i + (1 : Int)))))]
  σ16))))))
  (Go.AI.newAt σ (Go.AI.AObj.row Go.AI.RK.rw [Go.Value.int Go.IntKind.u8 (0 : Int)]) fun (i17 : Nat) (σ18 : Go.AI.AS) ↦
  Go.AI.chk (Go.AI.nilOr bitsa bitse (Go.AI.szOf Go.Proofs.Try.prog (5 : Nat)))
  (Go.AI.lds σ18 (Go.Addr.mk i17 (0 : Nat) Option.none) (1 : Nat) fun (l19 : List Go.Value) ↦
  Go.AI.appendTo σ18 (1 : Nat) (1 : Nat) (Go.AI.Sl.mk bitsa bitsn) l19 (1 : Nat) fun (s20 : Go.AI.Sl) (σ21 : Go.AI.AS) ↦
  Go.AI.newAt σ21 (Go.AI.AObj.row Go.AI.RK.rw [Go.Value.int Go.IntKind.u8 (225 : Int)]) fun (i22 : Nat) (σ23 : Go.AI.AS) ↦
  Go.AI.ALoop (Go.AI.fl Go.Proofs.Try.prog Go.AI.hintsT T (13 : Nat) [Bool.true, Bool.true, Bool.true, Bool.true, Bool.true, Bool.true, Bool.true, Bool.false, Bool.true, Bool.false] [] K)
  [((7 : Nat), Option.some (Go.Value.slice (Go.AI.Sl.a s20) (Go.AI.Sl.n s20) (1 : Nat))),
  ((11 : Nat), Option.some (Go.Value.slice (Option.some (Go.Addr.mk i22 (0 : Nat) Option.none)) (1 : Nat) (1 : Nat))), ((12 : Nat), Option.some (Go.Value.int Go.IntKind.i64 (0 : Int)))]
  σ23)) := by
  intros
  kernel_rfl

theorem s13l1 : ∀ (T : Go.AI.Ct) (bitsa : Option Go.Addr) (bitsn bitse : Nat) (outa : Option Go.Addr) (outn oute : Nat) (i : Int) (X : Go.AI.Regs → Go.AI.AS → Prop) (σ : Go.AI.AS) (K : Go.Value → Go.AI.AS → Prop),
  Go.AI.fl Go.Proofs.Try.prog Go.AI.hintsT T (13 : Nat) [Bool.true, Bool.true, Bool.true, Bool.true, Bool.true, Bool.true, Bool.true, Bool.false, Bool.true, Bool.false] [] K X
  [((7 : Nat), Option.some (Go.Value.slice bitsa bitsn bitse)), ((11 : Nat), Option.some (Go.Value.slice outa outn oute)), ((12 : Nat), Option.some (Go.Value.int Go.IntKind.i64 i))] σ =
  Go.AI.bmatch (Decidable.decide (i < (↑bitsn : Int)))
  (Go.AI.ALoop
  (Go.AI.fl Go.Proofs.Try.prog Go.AI.hintsT T (13 : Nat)
  [Bool.true, Bool.true, Bool.true, Bool.true, Bool.true, Bool.true, Bool.true, Bool.false, Bool.true, Bool.false, Bool.false, Bool.true, Bool.false, Bool.false, Bool.true, Bool.false, Bool.true, Bool.false]
  [X] K)
  [((7 : Nat), Option.some (Go.Value.slice bitsa bitsn bitse)), ((11 : Nat), Option.some (Go.Value.slice outa outn oute)), ((12 : Nat), Option.some (Go.Value.int Go.IntKind.i64 i)),
  ((13 : Nat), Option.some (Go.Value.int Go.IntKind.i64 (0 : Int))), ((14 : Nat), Option.some (Go.Value.int Go.IntKind.i64 (1 : Int))), ((15 : Nat), Option.some (Go.Value.int Go.IntKind.i64 i))]
  σ)
  (K (Go.Value.tuple (Array.mk [Go.Value.slice outa outn oute, Go.Value.int Go.IntKind.i64 (0 : Int)])) σ) := by
  intros
  kernel_rfl

theorem s13l2 : ∀ (T : Go.AI.Ct) (bitsa : Option Go.Addr) (bitsn bitse : Nat) (outa : Option Go.Addr) (outn oute : Nat) (i x p k : Int) (X Y : Go.AI.Regs → Go.AI.AS → Prop) (σ : Go.AI.AS)
  (K : Go.Value → Go.AI.AS → Prop),
  Go.AI.fl Go.Proofs.Try.prog Go.AI.hintsT T (13 : Nat)
  [Bool.true, Bool.true, Bool.true, Bool.true, Bool.true, Bool.true, Bool.true, Bool.false, Bool.true, Bool.false, Bool.false, Bool.true, Bool.false, Bool.false, Bool.true, Bool.false, Bool.true, Bool.false] [X]
  K Y
  [((7 : Nat), Option.some (Go.Value.slice bitsa bitsn bitse)), ((11 : Nat), Option.some (Go.Value.slice outa outn oute)), ((12 : Nat), Option.some (Go.Value.int Go.IntKind.i64 i)),
  ((13 : Nat), Option.some (Go.Value.int Go.IntKind.i64 x)), ((14 : Nat), Option.some (Go.Value.int Go.IntKind.i64 p)), ((15 : Nat), Option.some (Go.Value.int Go.IntKind.i64 k))]
  σ =
  Go.AI.bmatch (Decidable.decide (k < Go.IntKind.wrap Go.IntKind.i64 (i + (8 : Int))))
  (Go.AI.JoinS
  (Go.AI.jn Go.Proofs.Try.prog Go.AI.hintsT T (13 : Nat)
  [Bool.true, Bool.true, Bool.true, Bool.true, Bool.true, Bool.true, Bool.true, Bool.false, Bool.true, Bool.false, Bool.false, Bool.true, Bool.false, Bool.false, Bool.true, Bool.false, Bool.true, Bool.false,
  Bool.false, Bool.false]
  [X, Y] K)
  [((7 : Nat), Option.some (Go.Value.slice bitsa bitsn bitse)), ((11 : Nat), Option.some (Go.Value.slice outa outn oute)), ((12 : Nat), Option.some (Go.Value.int Go.IntKind.i64 i)),
  ((13 : Nat), Option.some (Go.Value.int Go.IntKind.i64 x)), ((14 : Nat), Option.some (Go.Value.int Go.IntKind.i64 p)), ((15 : Nat), Option.some (Go.Value.int Go.IntKind.i64 k)),
  ((62 : Nat), Option.some (Go.Value.bool (Decidable.decide (k < (↑bitsn : Int)))))]
  σ)
  (Go.AI.JoinS
  (Go.AI.jn Go.Proofs.Try.prog Go.AI.hintsT T (13 : Nat)
  [Bool.true, Bool.true, Bool.true, Bool.true, Bool.true, Bool.true, Bool.true, Bool.false, Bool.true, Bool.false, Bool.false, Bool.true, Bool.false, Bool.false, Bool.true, Bool.false, Bool.true, Bool.false,
  Bool.false, Bool.false]
  [X, Y] K)
  [((7 : Nat), Option.some (Go.Value.slice bitsa bitsn bitse)), ((11 : Nat), Option.some (Go.Value.slice outa outn oute)), ((12 : Nat), Option.some (Go.Value.int Go.IntKind.i64 i)),
  ((13 : Nat), Option.some (Go.Value.int Go.IntKind.i64 x)), ((14 : Nat), Option.some (Go.Value.int Go.IntKind.i64 p)), ((15 : Nat), Option.some (Go.Value.int Go.IntKind.i64 k)),
  ((62 : Nat), Option.some (Go.Value.bool Bool.false))]
  σ) := by
  intros
  kernel_rfl

theorem s13j : ∀ (T : Go.AI.Ct) (bitsa : Option Go.Addr) (bitsn bitse : Nat) (outa : Option Go.Addr) (outn oute : Nat) (i x p k : Int) (r62_1 : Bool) (X Y : Go.AI.Regs → Go.AI.AS → Prop) (σ : Go.AI.AS)
  (K : Go.Value → Go.AI.AS → Prop),
  Go.AI.jn Go.Proofs.Try.prog Go.AI.hintsT T (13 : Nat)
  [Bool.true, Bool.true, Bool.true, Bool.true, Bool.true, Bool.true, Bool.true, Bool.false, Bool.true, Bool.false, Bool.false, Bool.true, Bool.false, Bool.false, Bool.true, Bool.false, Bool.true, Bool.false,
  Bool.false, Bool.false]
  [X, Y] K
  [((7 : Nat), Option.some (Go.Value.slice bitsa bitsn bitse)), ((11 : Nat), Option.some (Go.Value.slice outa outn oute)), ((12 : Nat), Option.some (Go.Value.int Go.IntKind.i64 i)),
  ((13 : Nat), Option.some (Go.Value.int Go.IntKind.i64 x)), ((14 : Nat), Option.some (Go.Value.int Go.IntKind.i64 p)), ((15 : Nat), Option.some (Go.Value.int Go.IntKind.i64 k)),
  ((62 : Nat), Option.some (Go.Value.bool r62_1))]
  σ =
  Go.AI.bmatch r62_1
  (Go.AI.req ((0 : Int) ≤ k)
  (Go.AI.req (k < (↑bitsn : Int))
  (Go.AI.pSome bitsa fun (a0 : Go.Addr) ↦
  Go.AI.req (bitse = Go.AI.szOf Go.Proofs.Try.prog (5 : Nat))
  (Go.AI.ldc σ (Go.Addr.add a0 (Int.toNat k * Go.AI.szOf Go.Proofs.Try.prog (5 : Nat))) fun (v1 : Go.Value) ↦
  Go.AI.tI Go.IntKind.u8 v1 fun (n2 : Int) ↦
  Y
  [((7 : Nat), Option.some (Go.Value.slice bitsa bitsn bitse)), ((11 : Nat), Option.some (Go.Value.slice outa outn oute)), ((12 : Nat), Option.some (Go.Value.int Go.IntKind.i64 i)),
  ((13 : Nat), Option.some (Go.Value.int Go.IntKind.i64 (Go.IntKind.wrap Go.IntKind.i64 (x + Go.IntKind.wrap Go.IntKind.i64 (p * Go.IntKind.wrap Go.IntKind.i64 n2))))),
  ((14 : Nat), Option.some (Go.Value.int Go.IntKind.i64 (Go.IntKind.wrap Go.IntKind.i64 ((2 : Int) * p)))),
  ((15 : Nat), Option.some (Go.Value.int Go.IntKind.i64 (Go.IntKind.wrap Go.IntKind.i64 (k + (1 : Int)))))]
  σ))))
  (Go.AI.newAt σ (Go.AI.AObj.row Go.AI.RK.rw [Go.Value.int Go.IntKind.u8 (Go.IntKind.wrap Go.IntKind.u8 x)]) fun (i3 : Nat) (σ4 : Go.AI.AS) ↦
  Go.AI.chk (Go.AI.nilOr outa oute (Go.AI.szOf Go.Proofs.Try.prog (5 : Nat)))
  (Go.AI.lds σ4 (Go.Addr.mk i3 (0 : Nat) Option.none) (1 : Nat) fun (l5 : List Go.Value) ↦
  Go.AI.appendTo σ4 (1 : Nat) (1 : Nat) (Go.AI.Sl.mk outa outn) l5 (1 : Nat) fun (s6 : Go.AI.Sl) (σ7 : Go.AI.AS) ↦
  X
  [((7 : Nat), Option.some (Go.Value.slice bitsa bitsn bitse)), ((11 : Nat), Option.some (Go.Value.slice (Go.AI.Sl.a s6) (Go.AI.Sl.n s6) (1 : Nat))),
  ((12 : Nat), Option.some (Go.Value.int Go.IntKind.i64 (Go.IntKind.wrap Go.IntKind.i64 (i + (8 : Int)))))]
  σ7)) := by
  intros
  kernel_rfl

theorem s11 : ∀ (T : Go.AI.Ct) (r0_1 : Int) (la : Option Go.Addr) (ln : Nat) (σ : Go.AI.AS) (K : Go.Value → Go.AI.AS → Prop),
  Go.AI.fw Go.Proofs.Try.prog Go.AI.hintsT T (11 : Nat) [Go.Value.int Go.IntKind.u32 r0_1, Go.Value.slice la ln (1 : Nat)] σ K =
  T (27 : Nat) [Go.Value.slice la ln (1 : Nat)] σ fun (v0 : Go.Value) (σ1 : Go.AI.AS) ↦
  Go.AI.tI Go.IntKind.i64 v0 fun (n2 : Int) ↦
  Go.AI.bmatch (n2 != (0 : Int)) (K (Go.Value.tuple (Array.mk [Go.Value.slice Option.none (0 : Nat) (0 : Nat), Go.Value.int Go.IntKind.i64 n2])) σ1)
  (T (28 : Nat) [Go.Value.slice la ln (1 : Nat)] σ1 fun (v3 : Go.Value) (σ4 : Go.AI.AS) ↦
  Go.AI.tTup v3 fun (l5 : List Go.Value) ↦
  Go.AI.pSome l5[(0 : Nat)]? fun (u6 : Go.Value) ↦
  Go.AI.tI Go.IntKind.i64 u6 fun (n7 : Int) ↦
  Go.AI.tTup v3 fun (l8 : List Go.Value) ↦
  Go.AI.pSome l8[(1 : Nat)]? fun (u9 : Go.Value) ↦
  Go.AI.tI Go.IntKind.i64 u9 fun (n10 : Int) ↦
  T (19 : Nat) [Go.Value.int Go.IntKind.u32 (Go.IntKind.wrap Go.IntKind.u32 (Go.IntKind.wrap Go.IntKind.i64 ((22 : Int) + n7))), Go.Value.int Go.IntKind.i64 (4 : Int)] σ4
  fun (v11 : Go.Value) (σ12 : Go.AI.AS) ↦
  Go.AI.tL (1 : Nat) v11 fun (s13 : Go.AI.Sl) ↦
  T (19 : Nat) [Go.Value.int Go.IntKind.u32 (Go.IntKind.wrap Go.IntKind.u32 (Go.IntKind.wrap Go.IntKind.i64 (n10 + (2 : Int)))), Go.Value.int Go.IntKind.i64 (4 : Int)] σ12
  fun (v14 : Go.Value) (σ15 : Go.AI.AS) ↦
  Go.AI.tL (1 : Nat) v14 fun (s16 : Go.AI.Sl) ↦
  Go.AI.srcCells σ15 (1 : Nat) (Option.some (Go.Value.slice (Go.AI.Sl.a s16) (Go.AI.Sl.n s16) (1 : Nat))) fun (m17 : Nat) (new18 : List Go.Value) ↦
  Go.AI.appendTo σ15 (1 : Nat) (1 : Nat) (Go.AI.Sl.mk (Go.AI.Sl.a s13) (Go.AI.Sl.n s13)) new18 m17 fun (s19 : Go.AI.Sl) (σ20 : Go.AI.AS) ↦
  T (19 : Nat) [Go.Value.int Go.IntKind.u32 (Go.IntKind.wrap Go.IntKind.u32 (r0_1 + (12 : Int))), Go.Value.int Go.IntKind.i64 (4 : Int)] σ20 fun (v21 : Go.Value) (σ22 : Go.AI.AS) ↦
  Go.AI.tL (1 : Nat) v21 fun (s23 : Go.AI.Sl) ↦
  Go.AI.srcCells σ22 (1 : Nat) (Option.some (Go.Value.slice (Go.AI.Sl.a s23) (Go.AI.Sl.n s23) (1 : Nat))) fun (m24 : Nat) (new25 : List Go.Value) ↦
  Go.AI.appendTo σ22 (1 : Nat) (1 : Nat) (Go.AI.Sl.mk (Go.AI.Sl.a s19) (Go.AI.Sl.n s19)) new25 m24 fun (s26 : Go.AI.Sl) (σ27 : Go.AI.AS) ↦
  Go.AI.newAt σ27 (Go.AI.AObj.row Go.AI.RK.rw [Go.Value.int Go.IntKind.u8 (0 : Int)]) fun (i28 : Nat) (σ29 : Go.AI.AS) ↦
  Go.AI.lds σ29 (Go.Addr.mk i28 (0 : Nat) Option.none) (1 : Nat) fun (l30 : List Go.Value) ↦
  Go.AI.appendTo σ29 (1 : Nat) (1 : Nat) (Go.AI.Sl.mk (Go.AI.Sl.a s26) (Go.AI.Sl.n s26)) l30 (1 : Nat) fun (s31 : Go.AI.Sl) (σ32 : Go.AI.AS) ↦
  T (19 : Nat) [Go.Value.int Go.IntKind.u32 (Go.IntKind.wrap Go.IntKind.u32 (r0_1 + (21 : Int))), Go.Value.int Go.IntKind.i64 (4 : Int)] σ32
  fun (v33 : Go.Value) (σ34 : Go.AI.AS) ↦
  Go.AI.tL (1 : Nat) v33 fun (s35 : Go.AI.Sl) ↦
  Go.AI.srcCells σ34 (1 : Nat) (Option.some (Go.Value.slice (Go.AI.Sl.a s35) (Go.AI.Sl.n s35) (1 : Nat))) fun (m36 : Nat) (new37 : List Go.Value) ↦
  Go.AI.appendTo σ34 (1 : Nat) (1 : Nat) (Go.AI.Sl.mk (Go.AI.Sl.a s31) (Go.AI.Sl.n s31)) new37 m36 fun (s38 : Go.AI.Sl) (σ39 : Go.AI.AS) ↦
  T (19 : Nat) [Go.Value.int Go.IntKind.u32 (Go.IntKind.wrap Go.IntKind.u32 (r0_1 + (22 : Int))), Go.Value.int Go.IntKind.i64 (4 : Int)] σ39
  fun (v40 : Go.Value) (σ41 : Go.AI.AS) ↦
  Go.AI.tL (1 : Nat) v40 fun (s42 : Go.AI.Sl) ↦
  Go.AI.srcCells σ41 (1 : Nat) (Option.some (Go.Value.slice (Go.AI.Sl.a s42) (Go.AI.Sl.n s42) (1 : Nat))) fun (m43 : Nat) (new44 : List Go.Value) ↦
  Go.AI.appendTo σ41 (1 : Nat) (1 : Nat) (Go.AI.Sl.mk (Go.AI.Sl.a s38) (Go.AI.Sl.n s38)) new44 m43 fun (s45 : Go.AI.Sl) (σ46 : Go.AI.AS) ↦
  Go.AI.newAt σ46 (Go.AI.AObj.row Go.AI.RK.rw [Go.Value.int Go.IntKind.u8 (1 : Int)]) fun (i47 : Nat) (σ48 : Go.AI.AS) ↦
  Go.AI.lds σ48 (Go.Addr.mk i47 (0 : Nat) Option.none) (1 : Nat) fun (l49 : List Go.Value) ↦
  Go.AI.appendTo σ48 (1 : Nat) (1 : Nat) (Go.AI.Sl.mk (Go.AI.Sl.a s45) (Go.AI.Sl.n s45)) l49 (1 : Nat) fun (s50 : Go.AI.Sl) (σ51 : Go.AI.AS) ↦
  T (29 : Nat) [Go.Value.slice (Go.AI.Sl.a s50) (Go.AI.Sl.n s50) (1 : Nat), Go.Value.int Go.IntKind.u32 r0_1, Go.Value.slice la ln (1 : Nat)]
  σ51 fun (v52 : Go.Value) (σ53 : Go.AI.AS) ↦
  Go.AI.tL (1 : Nat) v52 fun (s54 : Go.AI.Sl) ↦
  K (Go.Value.tuple (Array.mk [Go.Value.slice (Go.AI.Sl.a s54) (Go.AI.Sl.n s54) (1 : Nat), Go.Value.int Go.IntKind.i64 (0 : Int)])) σ53) := by
  intros
  kernel_rfl

end Go.AI
end
section
/- The conditions ahead of the calls of the program's functions, reckoned as far as they go (equations that the kernel checks); no condition. -/
set_option maxRecDepth 1000000
set_option linter.unusedVariables false
namespace Go.AI
open Go.Proofs
theorem s14 : ∀ (T : Go.AI.Ct) (aa : Option Go.Addr) (an : Nat) (ba : Option Go.Addr) (bn : Nat) (σ : Go.AI.AS) (K : Go.Value → Go.AI.AS → Prop),
  Go.AI.fw Go.Proofs.Try.prog Go.AI.hintsT T (14 : Nat) [Go.Value.slice aa an (1 : Nat), Go.Value.slice ba bn (1 : Nat)] σ K =
  Go.AI.bts σ (Go.AI.Sl.mk aa an) fun (l0 : List UInt8) ↦
  Go.AI.bts σ (Go.AI.Sl.mk ba bn) fun (l1 : List UInt8) ↦ K (Go.Value.bool (Go.AI.strEq (ByteArray.mk (List.toArray l0)) (ByteArray.mk (List.toArray l1)))) σ := by
  intros
  kernel_rfl

theorem s3 : ∀ (T : Go.AI.Ct) (r0_1 : Int) (alphabeta : Option Go.Addr) (alphabetn : Nat) (la : Option Go.Addr) (ln : Nat) (σ : Go.AI.AS) (K : Go.Value → Go.AI.AS → Prop),
  Go.AI.fw Go.Proofs.Try.prog Go.AI.hintsT T (3 : Nat) [Go.Value.int Go.IntKind.u32 r0_1, Go.Value.slice alphabeta alphabetn (1 : Nat), Go.Value.slice la ln (1 : Nat)] σ K =
  Go.AI.bmatch (Decidable.decide ((↑alphabetn : Int) > (300 : Int))) (T (9 : Nat) [] σ fun (v0 : Go.Value) (σ1 : Go.AI.AS) ↦ Go.AI.tB v0 fun (b2 : Bool) ↦ K (Go.Value.bool b2) σ1)
  (Go.AI.bmatch (Decidable.decide ((↑ln : Int) > (300 : Int))) (T (9 : Nat) [] σ fun (v3 : Go.Value) (σ4 : Go.AI.AS) ↦ Go.AI.tB v3 fun (b5 : Bool) ↦ K (Go.Value.bool b5) σ4)
  (Go.AI.newAt σ (Go.AI.AObj.row Go.AI.RK.rw []) fun (i6 : Nat) (σ7 : Go.AI.AS) ↦
  Go.AI.srcCells σ7 (1 : Nat) (Option.some (Go.Value.slice alphabeta alphabetn (1 : Nat))) fun (m8 : Nat) (new9 : List Go.Value) ↦
  Go.AI.appendTo σ7 (1 : Nat) (4 : Nat) (Go.AI.Sl.mk (Option.some (Go.Addr.mk i6 (0 : Nat) Option.none)) (0 : Nat)) new9 m8 fun (s10 : Go.AI.Sl) (σ11 : Go.AI.AS) ↦
  Go.AI.newAt σ11 (Go.AI.AObj.row Go.AI.RK.rw []) fun (i12 : Nat) (σ13 : Go.AI.AS) ↦
  Go.AI.srcCells σ13 (1 : Nat) (Option.some (Go.Value.slice la ln (1 : Nat))) fun (m14 : Nat) (new15 : List Go.Value) ↦
  Go.AI.appendTo σ13 (1 : Nat) (4 : Nat) (Go.AI.Sl.mk (Option.some (Go.Addr.mk i12 (0 : Nat) Option.none)) (0 : Nat)) new15 m14 fun (s16 : Go.AI.Sl) (σ17 : Go.AI.AS) ↦
  T (10 : Nat) [Go.Value.int Go.IntKind.u32 r0_1, Go.Value.slice (Go.AI.Sl.a s10) (Go.AI.Sl.n s10) (1 : Nat)] σ17 fun (v18 : Go.Value) (σ19 : Go.AI.AS) ↦
  Go.AI.tTup v18 fun (l20 : List Go.Value) ↦
  Go.AI.pSome l20[(0 : Nat)]? fun (u21 : Go.Value) ↦
  Go.AI.tL (1 : Nat) u21 fun (s22 : Go.AI.Sl) ↦
  Go.AI.tTup v18 fun (l23 : List Go.Value) ↦
  Go.AI.pSome l23[(1 : Nat)]? fun (u24 : Go.Value) ↦
  Go.AI.tI Go.IntKind.i64 u24 fun (n25 : Int) ↦
  T (11 : Nat) [Go.Value.int Go.IntKind.u32 r0_1, Go.Value.slice alphabeta alphabetn (1 : Nat)] σ19 fun (v26 : Go.Value) (σ27 : Go.AI.AS) ↦
  Go.AI.tTup v26 fun (l28 : List Go.Value) ↦
  Go.AI.pSome l28[(0 : Nat)]? fun (u29 : Go.Value) ↦
  Go.AI.tL (1 : Nat) u29 fun (s30 : Go.AI.Sl) ↦
  Go.AI.tTup v26 fun (l31 : List Go.Value) ↦
  Go.AI.pSome l31[(1 : Nat)]? fun (u32 : Go.Value) ↦
  Go.AI.tI Go.IntKind.i64 u32 fun (n33 : Int) ↦
  T (12 : Nat) [Go.Value.slice (Go.AI.Sl.a s10) (Go.AI.Sl.n s10) (1 : Nat), Go.Value.slice (Go.AI.Sl.a s16) (Go.AI.Sl.n s16) (1 : Nat)] σ27
  fun (v34 : Go.Value) (σ35 : Go.AI.AS) ↦
  Go.AI.tTup v34 fun (l36 : List Go.Value) ↦
  Go.AI.pSome l36[(0 : Nat)]? fun (u37 : Go.Value) ↦
  Go.AI.tL (1 : Nat) u37 fun (s38 : Go.AI.Sl) ↦
  Go.AI.tTup v34 fun (l39 : List Go.Value) ↦
  Go.AI.pSome l39[(1 : Nat)]? fun (u40 : Go.Value) ↦
  Go.AI.tI Go.IntKind.i64 u40 fun (n41 : Int) ↦
  T (13 : Nat) [Go.Value.slice alphabeta alphabetn (1 : Nat), Go.Value.slice la ln (1 : Nat)] σ35 fun (v42 : Go.Value) (σ43 : Go.AI.AS) ↦
  Go.AI.tTup v42 fun (l44 : List Go.Value) ↦
  Go.AI.pSome l44[(0 : Nat)]? fun (u45 : Go.Value) ↦
  Go.AI.tL (1 : Nat) u45 fun (s46 : Go.AI.Sl) ↦
  Go.AI.tTup v42 fun (l47 : List Go.Value) ↦
  Go.AI.pSome l47[(1 : Nat)]? fun (u48 : Go.Value) ↦
  Go.AI.tI Go.IntKind.i64 u48 fun (n49 : Int) ↦
  T (14 : Nat) [Go.Value.slice (Go.AI.Sl.a s22) (Go.AI.Sl.n s22) (1 : Nat), Go.Value.slice (Go.AI.Sl.a s30) (Go.AI.Sl.n s30) (1 : Nat)] σ43
  fun (v50 : Go.Value) (σ51 : Go.AI.AS) ↦
  Go.AI.tB v50 fun (b52 : Bool) ↦
  Go.AI.bmatch b52
  (T (15 : Nat) [Go.Value.int Go.IntKind.i64 n25] σ51 fun (v53 : Go.Value) (σ54 : Go.AI.AS) ↦
  Go.AI.tI Go.IntKind.i64 v53 fun (n55 : Int) ↦
  Go.AI.bmatch (n55 == n33)
  (T (14 : Nat)
  [Go.Value.slice (Go.AI.Sl.a s38) (Go.AI.Sl.n s38) (1 : Nat), Go.Value.slice (Go.AI.Sl.a s46) (Go.AI.Sl.n s46) (1 : Nat)] σ54
  fun (v56 : Go.Value) (σ57 : Go.AI.AS) ↦
  Go.AI.tB v56 fun (b58 : Bool) ↦
  Go.AI.bmatch b58
  (T (15 : Nat) [Go.Value.int Go.IntKind.i64 n41] σ57 fun (v59 : Go.Value) (σ60 : Go.AI.AS) ↦
  Go.AI.tI Go.IntKind.i64 v59 fun (n61 : Int) ↦
  Go.AI.bmatch (n61 == n49)
  (T (16 : Nat)
  [Go.Value.slice (Go.AI.Sl.a s10) (Go.AI.Sl.n s10) (1 : Nat), Go.Value.slice alphabeta alphabetn (1 : Nat)] σ60
  fun (v62 : Go.Value) (σ63 : Go.AI.AS) ↦
  Go.AI.tB v62 fun (b64 : Bool) ↦
  Go.AI.bmatch b64
  (T (16 : Nat) [Go.Value.slice (Go.AI.Sl.a s16) (Go.AI.Sl.n s16) (1 : Nat), Go.Value.slice la ln (1 : Nat)]
  σ63 fun (v65 : Go.Value) (σ66 : Go.AI.AS) ↦
  Go.AI.tB v65 fun (b67 : Bool) ↦
  Go.AI.bmatch b67
  (T (9 : Nat) [] σ66 fun (v68 : Go.Value) (σ69 : Go.AI.AS) ↦
  Go.AI.tB v68 fun (b70 : Bool) ↦ K (Go.Value.bool b70) σ69)
  (K (Go.Value.bool Bool.false) σ66))
  (K (Go.Value.bool Bool.false) σ63))
  (K (Go.Value.bool Bool.false) σ60))
  (K (Go.Value.bool Bool.false) σ57))
  (K (Go.Value.bool Bool.false) σ54))
  (K (Go.Value.bool Bool.false) σ51))) := by
  intros
  kernel_rfl

end Go.AI
end
