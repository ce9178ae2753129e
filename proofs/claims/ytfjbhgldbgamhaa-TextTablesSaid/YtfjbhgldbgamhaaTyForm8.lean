/- The conditions ahead of the calls of the program's functions, reckoned as far as they go (equations that the kernel checks); no condition. -/
import Derived.Test.YtfjbhgldbgamhaaTySoft
import Derived.Test.YtfjbhgldbgamhaaAISep
set_option maxRecDepth 1000000
set_option linter.unusedVariables false
namespace Go.AI
open Go.Proofs
theorem s22 : ∀ (T : Ct) (a : Option Addr) (m : Nat) (σ : AS) (K : Value → AS → Prop),
  fw Proofs.Try.prog hintsS T (22 : Nat) [Value.slice a m (1 : Nat)] σ K =
  bmatch (Decidable.decide ((↑m : Int) > (1024 : Int))) (K (Value.int IntKind.i64 (4 : Int)) σ)
  (T (38 : Nat) [Value.slice a m (1 : Nat)] σ fun (v0 : Value) (σ1 : AS) ↦
  T (37 : Nat) [v0] σ1 fun (v2 : Value) (σ3 : AS) ↦
  tL (1 : Nat) v2 fun (s4 : Sl) ↦
  T (39 : Nat) [Value.slice (Sl.a s4) (Sl.n s4) (1 : Nat)] σ3 fun (v5 : Value) (σ6 : AS) ↦
  tL (1 : Nat) v5 fun (s7 : Sl) ↦
  bmatch (Decidable.decide ((↑(Sl.n s7) : Int) < (↑m : Int))) (K (Value.int IntKind.i64 (6 : Int)) σ6) (K (Value.int IntKind.i64 (0 : Int)) σ6)) := by
  intros
  kernel_rfl

theorem s38 : ∀ (T : Ct) (a : Option Addr) (m : Nat) (σ : AS) (K : Value → AS → Prop),
  fw Proofs.Try.prog hintsS T (38 : Nat) [Value.slice a m (1 : Nat)] σ K =
  newAt σ (AObj.row RK.plain [Value.slice a m (1 : Nat)]) fun (i0 : Nat) (σ1 : AS) ↦
  K (Value.func (Fn.func (47 : Nat)) (Array.mk []) (Array.mk [Value.pointer (Option.some (Addr.mk i0 (0 : Nat) Option.none))])) σ1 := by
  intros
  kernel_rfl

theorem s37 : ∀ (T : Ct) (f : Value) (σ : AS) (K : Value → AS → Prop),
  fw Proofs.Try.prog hintsS T (37 : Nat) [f] σ K =
  T (45 : Nat) [f] σ fun (v0 : Value) (σ1 : AS) ↦
  tL (1 : Nat) v0 fun (s2 : Sl) ↦
  T (46 : Nat) [Value.slice (Sl.a s2) (Sl.n s2) (1 : Nat)] σ1 fun (v3 : Value) (σ4 : AS) ↦ K (Value.slice (Sl.a s2) (Sl.n s2) (1 : Nat)) σ4 := by
  intros
  kernel_rfl

theorem s45 : ∀ (T : Ct) (f : Value) (σ : AS) (K : Value → AS → Prop),
  fw Proofs.Try.prog hintsS T (45 : Nat) [f] σ K =
  T (48 : Nat) [Value.slice Option.none (0 : Nat) (0 : Nat), f] σ fun (v0 : Value) (σ1 : AS) ↦
  tL (1 : Nat) v0 fun (s2 : Sl) ↦ K (Value.slice (Sl.a s2) (Sl.n s2) (1 : Nat)) σ1 := by
  intros
  kernel_rfl

theorem s39 : ∀ (T : Ct) (a : Option Addr) (m : Nat) (σ : AS) (K : Value → AS → Prop),
  fw Proofs.Try.prog hintsS T (39 : Nat) [Value.slice a m (1 : Nat)] σ K =
  bmatch (Decidable.decide ((↑m : Int) < (2 : Int))) (K (Value.slice a m (1 : Nat)) σ)
  (ALoop (fl Proofs.Try.prog hintsS T (39 : Nat) [Bool.true, Bool.true, Bool.false, Bool.true, Bool.false] [] K)
  [((0 : Nat), Option.some (Value.slice a m (1 : Nat))), ((3 : Nat), Option.some (Value.int IntKind.i64 (1 : Int)))] σ) := by
  intros
  kernel_rfl

theorem s39a : ∀ (T : Ct) (a : Option Addr) (m : Nat) (k : Int) (X : Regs → AS → Prop) (σ : AS) (K : Value → AS → Prop),
  fl Proofs.Try.prog hintsS T (39 : Nat) [Bool.true, Bool.true, Bool.false, Bool.true, Bool.false] [] K X
  [((0 : Nat), Option.some (Value.slice a m (1 : Nat))), ((3 : Nat), Option.some (Value.int IntKind.i64 k))] σ =
  bmatch (Decidable.decide (k < (↑m : Int)))
  (req ((0 : Int) ≤ k)
  (req (k < (↑m : Int))
  (pSome a fun (a0 : Addr) ↦
  ldc σ (Addr.add a0 (Int.toNat k * szOf Proofs.Try.prog (22 : Nat))) fun (v1 : Value) ↦
  tI IntKind.u32 v1 fun (n2 : Int) ↦
  req ((0 : Int) ≤ IntKind.wrap IntKind.i64 (k - (1 : Int)))
  (req (IntKind.wrap IntKind.i64 (k - (1 : Int)) < (↑m : Int))
  (pSome a fun (a3 : Addr) ↦
  ldc σ (Addr.add a3 (Int.toNat (IntKind.wrap IntKind.i64 (k - (1 : Int))) * szOf Proofs.Try.prog (22 : Nat))) fun (v4 : Value) ↦
  tI IntKind.u32 v4 fun (n5 : Int) ↦
  bmatch (n2 == n5)
  (req ((0 : Int) ≤ k)
  (req (k ≤ (↑m : Int))
  (req ((↑m : Int) ≤ (↑m : Int))
  (ALoop
  (fl Proofs.Try.prog hintsS T (39 : Nat)
  [Bool.true, Bool.true, Bool.false, Bool.true, Bool.false, Bool.false, Bool.true, Bool.false, Bool.false, Bool.true, Bool.false, Bool.true, Bool.false, Bool.true, Bool.false] [X]
  K)
  [((0 : Nat), Option.some (Value.slice a m (1 : Nat))), ((3 : Nat), Option.some (Value.int IntKind.i64 k)),
  ((4 : Nat),
  Option.some
  (Value.slice (Option.map (fun (x : Addr) ↦ Addr.add x (Int.toNat k * szOf Proofs.Try.prog (22 : Nat))) a) (Int.toNat ((↑m : Int) - k)) (1 : Nat))),
  ((5 : Nat), Option.some (Value.int IntKind.i64 (1 : Int)))]
  σ))))
  (X [((0 : Nat), Option.some (Value.slice a m (1 : Nat))), ((3 : Nat), Option.some (Value.int IntKind.i64 (IntKind.wrap IntKind.i64 (k + (1 : Int)))))] σ))))))
  (K (Value.slice a m (1 : Nat)) σ) := by
  intros
  kernel_rfl

theorem s39b : ∀ (T : Ct) (a b : Option Addr) (m q : Nat) (k e : Int) (Y X : Regs → AS → Prop) (σ : AS) (K : Value → AS → Prop),
  fl Proofs.Try.prog hintsS T (39 : Nat)
  [Bool.true, Bool.true, Bool.false, Bool.true, Bool.false, Bool.false, Bool.true, Bool.false, Bool.false, Bool.true, Bool.false, Bool.true, Bool.false, Bool.true, Bool.false] [Y] K X
  [((0 : Nat), Option.some (Value.slice a m (1 : Nat))), ((3 : Nat), Option.some (Value.int IntKind.i64 k)), ((4 : Nat), Option.some (Value.slice b q (1 : Nat))),
  ((5 : Nat), Option.some (Value.int IntKind.i64 e))]
  σ =
  bmatch (Decidable.decide (e < (↑q : Int)))
  (req ((0 : Int) ≤ e)
  (req (e < (↑q : Int))
  (pSome b fun (a0 : Addr) ↦
  ldc σ (Addr.add a0 (Int.toNat e * szOf Proofs.Try.prog (22 : Nat))) fun (v1 : Value) ↦
  tI IntKind.u32 v1 fun (n2 : Int) ↦
  req ((0 : Int) ≤ IntKind.wrap IntKind.i64 (e - (1 : Int)))
  (req (IntKind.wrap IntKind.i64 (e - (1 : Int)) < (↑q : Int))
  (pSome b fun (a3 : Addr) ↦
  ldc σ (Addr.add a3 (Int.toNat (IntKind.wrap IntKind.i64 (e - (1 : Int))) * szOf Proofs.Try.prog (22 : Nat))) fun (v4 : Value) ↦
  tI IntKind.u32 v4 fun (n5 : Int) ↦
  bmatch (n2 != n5)
  (req ((0 : Int) ≤ e)
  (req (e < (↑q : Int))
  (pSome b fun (a6 : Addr) ↦
  ldc σ (Addr.add a6 (Int.toNat e * szOf Proofs.Try.prog (22 : Nat))) fun (v7 : Value) ↦
  tI IntKind.u32 v7 fun (n8 : Int) ↦
  req ((0 : Int) ≤ k)
  (req (k < (↑m : Int))
  (pSome a fun (a9 : Addr) ↦
  put1 σ (Addr.add a9 (Int.toNat k * szOf Proofs.Try.prog (22 : Nat))) (Value.int IntKind.u32 n8) fun (σ10 : AS) ↦
  X
  [((0 : Nat), Option.some (Value.slice a m (1 : Nat))), ((3 : Nat), Option.some (Value.int IntKind.i64 (IntKind.wrap IntKind.i64 (k + (1 : Int))))),
  ((4 : Nat), Option.some (Value.slice b q (1 : Nat))), ((5 : Nat), Option.some (Value.int IntKind.i64 (IntKind.wrap IntKind.i64 (e + (1 : Int)))))]
  σ10)))))
  (X
  [((0 : Nat), Option.some (Value.slice a m (1 : Nat))), ((3 : Nat), Option.some (Value.int IntKind.i64 k)), ((4 : Nat), Option.some (Value.slice b q (1 : Nat))),
  ((5 : Nat), Option.some (Value.int IntKind.i64 (IntKind.wrap IntKind.i64 (e + (1 : Int)))))]
  σ))))))
  (req ((0 : Int) ≤ k)
  (req (k ≤ (↑m : Int))
  (req ((↑m : Int) ≤ (↑m : Int))
  (clearTo σ (Option.map (fun (x : Addr) ↦ Addr.add x (Int.toNat k * szOf Proofs.Try.prog (22 : Nat))) a) (Int.toNat ((↑m : Int) - k)) [Value.int IntKind.u32 (0 : Int)]
  fun (σ11 : AS) ↦
  req ((0 : Int) ≤ k)
  (req (k ≤ (↑m : Int))
  (K (Value.slice (Option.map (fun (x : Addr) ↦ Addr.add x (Int.toNat (0 : Int) * szOf Proofs.Try.prog (22 : Nat))) a) (Int.toNat (k - (0 : Int))) (1 : Nat)) σ11)))))) := by
  intros
  kernel_rfl

theorem s30 : ∀ (T : Ct) (a : Option Addr) (m : Nat) (v : Int) (σ : AS) (K : Value → AS → Prop),
  fw Proofs.Try.prog hintsS T (30 : Nat) [Value.slice a m (1 : Nat), Value.int IntKind.u32 v] σ K =
  ALoop (fl Proofs.Try.prog hintsS T (30 : Nat) [Bool.true, Bool.false, Bool.true, Bool.false] [] K)
  [((0 : Nat), Option.some (Value.slice a m (1 : Nat))), ((1 : Nat), Option.some (Value.int IntKind.u32 v)), ((7 : Nat), Option.some (Value.int IntKind.i64 (↑m : Int))),
  ((8 : Nat), Option.some (Value.int IntKind.i64 (0 : Int)))]
  σ := by
  intros
  kernel_rfl

theorem s30l : ∀ (T : Ct) (a : Option Addr) (m : Nat) (v x y : Int) (X : Regs → AS → Prop) (σ : AS) (K : Value → AS → Prop),
  fl Proofs.Try.prog hintsS T (30 : Nat) [Bool.true, Bool.false, Bool.true, Bool.false] [] K X
  [((0 : Nat), Option.some (Value.slice a m (1 : Nat))), ((1 : Nat), Option.some (Value.int IntKind.u32 v)), ((7 : Nat), Option.some (Value.int IntKind.i64 x)),
  ((8 : Nat), Option.some (Value.int IntKind.i64 y))]
  σ =
  bmatch (Decidable.decide (y < x))
  (req ((0 : Int) ≤ y)
  (req (y < (↑m : Int))
  (pSome a fun (a0 : Addr) ↦
  ldc σ (Addr.add a0 (Int.toNat y * szOf Proofs.Try.prog (22 : Nat))) fun (v1 : Value) ↦
  tI IntKind.u32 v1 fun (n2 : Int) ↦
  bmatch (v == n2) (K (Value.int IntKind.i64 y) σ)
  (X
  [((0 : Nat), Option.some (Value.slice a m (1 : Nat))), ((1 : Nat), Option.some (Value.int IntKind.u32 v)), ((7 : Nat), Option.some (Value.int IntKind.i64 x)),
  ((8 : Nat), Option.some (Value.int IntKind.i64 (IntKind.wrap IntKind.i64 (y + (1 : Int)))))]
  σ))))
  (K (Value.int IntKind.i64 (-1 : Int)) σ) := by
  intros
  kernel_rfl

theorem s26 : ∀ (T : Ct) (x n : Int) (σ : AS) (K : Value → AS → Prop),
  fw Proofs.Try.prog hintsS T (26 : Nat) [Value.int IntKind.u32 x, Value.int IntKind.i64 n] σ K =
  T (41 : Nat) [Value.int IntKind.i64 n] σ fun (v0 : Value) (σ1 : AS) ↦
  tB v0 fun (b2 : Bool) ↦
  bmatch (!b2) (K (Value.slice Option.none (0 : Nat) (0 : Nat)) σ1)
  (req ((0 : Int) ≤ n)
  (req (n ≤ n)
  (req (n * (↑(bytesOf Proofs.Try.prog (5 : Nat)) : Int) ≤ (140737488355328 : Int))
  (newAt σ1 (AObj.row RK.rw (List.flatten (List.replicate (Int.toNat n) (valCells (Value.int IntKind.u8 (0 : Int)))))) fun (i3 : Nat) (σ4 : AS) ↦
  ALoop (fl Proofs.Try.prog hintsS T (26 : Nat) [Bool.true, Bool.true, Bool.true, Bool.false, Bool.true, Bool.false] [] K)
  [((0 : Nat), Option.some (Value.int IntKind.u32 x)), ((5 : Nat), Option.some (Value.slice (Option.some (Addr.mk i3 (0 : Nat) Option.none)) (Int.toNat n) (1 : Nat))),
  ((6 : Nat), Option.some (Value.int IntKind.i64 (IntKind.wrap IntKind.i64 (n - (1 : Int)))))]
  σ4)))) := by
  intros
  kernel_rfl

theorem s26l : ∀ (T : Ct) (x k : Int) (a : Option Addr) (m : Nat) (X : Regs → AS → Prop) (σ : AS) (K : Value → AS → Prop),
  fl Proofs.Try.prog hintsS T (26 : Nat) [Bool.true, Bool.true, Bool.true, Bool.false, Bool.true, Bool.false] [] K X
  [((0 : Nat), Option.some (Value.int IntKind.u32 x)), ((5 : Nat), Option.some (Value.slice a m (1 : Nat))), ((6 : Nat), Option.some (Value.int IntKind.i64 k))] σ =
  bmatch (Decidable.decide (k ≥ (0 : Int)))
  (req ((0 : Int) ≤ k)
  (req (k < (↑m : Int))
  (pSome a fun (a0 : Addr) ↦
  put1 σ (Addr.add a0 (Int.toNat k * szOf Proofs.Try.prog (5 : Nat))) (Value.int IntKind.u8 (IntKind.wrap IntKind.u8 x)) fun (σ1 : AS) ↦
  X
  [((0 : Nat), Option.some (Value.int IntKind.u32 (ishr IntKind.u32 x (8 : Int)))), ((5 : Nat), Option.some (Value.slice a m (1 : Nat))),
  ((6 : Nat), Option.some (Value.int IntKind.i64 (IntKind.wrap IntKind.i64 (k - (1 : Int)))))]
  σ1)))
  (K (Value.slice a m (1 : Nat)) σ) := by
  intros
  kernel_rfl

theorem s24 : ∀ (T : Ct) (t : Int) (a b : Option Addr) (m n : Nat) (σ : AS) (K : Value → AS → Prop),
  fw Proofs.Try.prog hintsS T (24 : Nat) [Value.int IntKind.u32 t, Value.slice a m (1 : Nat), Value.slice b n (1 : Nat)] σ K =
  newAt σ (AObj.row RK.rw [Value.int IntKind.u8 (0 : Int)]) fun (i0 : Nat) (σ1 : AS) ↦
  T (26 : Nat) [Value.int IntKind.u32 (IntKind.wrap IntKind.u32 (t + (9 : Int))), Value.int IntKind.i64 (4 : Int)] σ1 fun (v2 : Value) (σ3 : AS) ↦
  tL (1 : Nat) v2 fun (s4 : Sl) ↦
  T (26 : Nat)
  [Value.int IntKind.u32 (IntKind.wrap IntKind.u32 (IntKind.wrap IntKind.u32 (t + (9 : Int)) + IntKind.wrap IntKind.u32 (↑m : Int))), Value.int IntKind.i64 (4 : Int)] σ3
  fun (v5 : Value) (σ6 : AS) ↦
  tL (1 : Nat) v5 fun (s7 : Sl) ↦
  newAt σ6
  (AObj.row RK.rw
  [Value.slice (Option.some (Addr.mk i0 (0 : Nat) Option.none)) (1 : Nat) (1 : Nat), Value.slice (Sl.a s4) (Sl.n s4) (1 : Nat),
  Value.slice (Sl.a s7) (Sl.n s7) (1 : Nat), Value.slice a m (1 : Nat), Value.slice b n (1 : Nat)])
  fun (i8 : Nat) (σ9 : AS) ↦
  T (25 : Nat) [Value.slice (Option.some (Addr.mk i8 (0 : Nat) Option.none)) (5 : Nat) (1 : Nat)] σ9 fun (v10 : Value) (σ11 : AS) ↦
  tL (1 : Nat) v10 fun (s12 : Sl) ↦ K (Value.slice (Sl.a s12) (Sl.n s12) (1 : Nat)) σ11 := by
  intros
  kernel_rfl

theorem s23 : ∀ (T : Ct) (t : Int) (a : Option Addr) (m : Nat) (σ : AS) (K : Value → AS → Prop),
  fw Proofs.Try.prog hintsS T (23 : Nat) [Value.int IntKind.u32 t, Value.slice a m (1 : Nat)] σ K =
  bmatch ((↑m : Int) == (0 : Int))
  (newAt σ (AObj.row RK.rw [Value.int IntKind.u8 (1 : Int)]) fun (i0 : Nat) (σ1 : AS) ↦
  K (Value.tuple (Array.mk [Value.slice (Option.some (Addr.mk i0 (0 : Nat) Option.none)) (1 : Nat) (1 : Nat), Value.int IntKind.u32 (1 : Int)])) σ1)
  (bmatch ((↑m : Int) == (1 : Int))
  (req ((0 : Int) < (↑m : Int))
  (pSome a fun (a2 : Addr) ↦
  ldc σ (Addr.add a2 (Int.toNat (0 : Int) * szOf Proofs.Try.prog (22 : Nat))) fun (v3 : Value) ↦
  tI IntKind.u32 v3 fun (n4 : Int) ↦
  bmatch (Decidable.decide (n4 < (256 : Int)))
  (req ((0 : Int) < (↑m : Int))
  (pSome a fun (a5 : Addr) ↦
  ldc σ (Addr.add a5 (Int.toNat (0 : Int) * szOf Proofs.Try.prog (22 : Nat))) fun (v6 : Value) ↦
  tI IntKind.u32 v6 fun (n7 : Int) ↦
  newAt σ (AObj.row RK.rw [Value.int IntKind.u8 (2 : Int), Value.int IntKind.u8 (IntKind.wrap IntKind.u8 n7)]) fun (i8 : Nat) (σ9 : AS) ↦
  K (Value.tuple (Array.mk [Value.slice (Option.some (Addr.mk i8 (0 : Nat) Option.none)) (2 : Nat) (1 : Nat), Value.int IntKind.u32 (1 : Int)])) σ9))
  (bmatch ((↑m : Int) == (1 : Int))
  (newAt σ (AObj.row RK.rw [Value.int IntKind.u8 (4 : Int)]) fun (i10 : Nat) (σ11 : AS) ↦
  req ((0 : Int) < (↑m : Int))
  (pSome a fun (a12 : Addr) ↦
  ldc σ11 (Addr.add a12 (Int.toNat (0 : Int) * szOf Proofs.Try.prog (22 : Nat))) fun (v13 : Value) ↦
  tI IntKind.u32 v13 fun (n14 : Int) ↦
  T (26 : Nat) [Value.int IntKind.u32 n14, Value.int IntKind.i64 (4 : Int)] σ11 fun (v15 : Value) (σ16 : AS) ↦
  tL (1 : Nat) v15 fun (s17 : Sl) ↦
  srcCells σ16 (1 : Nat) (Option.some (Value.slice (Sl.a s17) (Sl.n s17) (1 : Nat))) fun (m18 : Nat) (new19 : List Value) ↦
  appendTo σ16 (1 : Nat) (1 : Nat) (Sl.mk (Option.some (Addr.mk i10 (0 : Nat) Option.none)) (1 : Nat)) new19 m18 fun (s20 : Sl) (σ21 : AS) ↦
  K (Value.tuple (Array.mk [Value.slice (Sl.a s20) (Sl.n s20) (1 : Nat), Value.int IntKind.u32 (1 : Int)])) σ21))
  (req ((0 : Int) ≤ IntKind.wrap IntKind.i64 (Int.tdiv (↑m : Int) (2 : Int)))
  (req (IntKind.wrap IntKind.i64 (Int.tdiv (↑m : Int) (2 : Int)) ≤ (↑m : Int))
  (T (23 : Nat)
  [Value.int IntKind.u32 (IntKind.wrap IntKind.u32 (t + (9 : Int))),
  Value.slice (Option.map (fun (x : Addr) ↦ Addr.add x (Int.toNat (0 : Int) * szOf Proofs.Try.prog (22 : Nat))) a)
  (Int.toNat (IntKind.wrap IntKind.i64 (Int.tdiv (↑m : Int) (2 : Int)) - (0 : Int))) (1 : Nat)]
  σ fun (v22 : Value) (σ23 : AS) ↦
  tTup v22 fun (l24 : List Value) ↦
  pSome l24[(0 : Nat)]? fun (u25 : Value) ↦
  tL (1 : Nat) u25 fun (s26 : Sl) ↦
  tTup v22 fun (l27 : List Value) ↦
  pSome l27[(1 : Nat)]? fun (u28 : Value) ↦
  tI IntKind.u32 u28 fun (n29 : Int) ↦
  req ((0 : Int) ≤ IntKind.wrap IntKind.i64 (Int.tdiv (↑m : Int) (2 : Int)))
  (req (IntKind.wrap IntKind.i64 (Int.tdiv (↑m : Int) (2 : Int)) ≤ (↑m : Int))
  (req ((↑m : Int) ≤ (↑m : Int))
  (T (23 : Nat)
  [Value.int IntKind.u32 (IntKind.wrap IntKind.u32 (IntKind.wrap IntKind.u32 (t + (9 : Int)) + IntKind.wrap IntKind.u32 (↑(Sl.n s26) : Int))),
  Value.slice
  (Option.map (fun (x : Addr) ↦ Addr.add x (Int.toNat (IntKind.wrap IntKind.i64 (Int.tdiv (↑m : Int) (2 : Int))) * szOf Proofs.Try.prog (22 : Nat)))
  a)
  (Int.toNat ((↑m : Int) - IntKind.wrap IntKind.i64 (Int.tdiv (↑m : Int) (2 : Int)))) (1 : Nat)]
  σ23 fun (v30 : Value) (σ31 : AS) ↦
  tTup v30 fun (l32 : List Value) ↦
  pSome l32[(0 : Nat)]? fun (u33 : Value) ↦
  tL (1 : Nat) u33 fun (s34 : Sl) ↦
  tTup v30 fun (l35 : List Value) ↦
  pSome l35[(1 : Nat)]? fun (u36 : Value) ↦
  tI IntKind.u32 u36 fun (n37 : Int) ↦
  T (24 : Nat)
  [Value.int IntKind.u32 t, Value.slice (Sl.a s26) (Sl.n s26) (1 : Nat), Value.slice (Sl.a s34) (Sl.n s34) (1 : Nat)] σ31
  fun (v38 : Value) (σ39 : AS) ↦
  tL (1 : Nat) v38 fun (s40 : Sl) ↦
  K
  (Value.tuple
  (Array.mk
  [Value.slice (Sl.a s40) (Sl.n s40) (1 : Nat),
  Value.int IntKind.u32 (IntKind.wrap IntKind.u32 (IntKind.wrap IntKind.u32 (n29 + n37) + (1 : Int)))]))
  σ39)))))))))
  (bmatch ((↑m : Int) == (1 : Int))
  (newAt σ (AObj.row RK.rw [Value.int IntKind.u8 (4 : Int)]) fun (i41 : Nat) (σ42 : AS) ↦
  req ((0 : Int) < (↑m : Int))
  (pSome a fun (a43 : Addr) ↦
  ldc σ42 (Addr.add a43 (Int.toNat (0 : Int) * szOf Proofs.Try.prog (22 : Nat))) fun (v44 : Value) ↦
  tI IntKind.u32 v44 fun (n45 : Int) ↦
  T (26 : Nat) [Value.int IntKind.u32 n45, Value.int IntKind.i64 (4 : Int)] σ42 fun (v46 : Value) (σ47 : AS) ↦
  tL (1 : Nat) v46 fun (s48 : Sl) ↦
  srcCells σ47 (1 : Nat) (Option.some (Value.slice (Sl.a s48) (Sl.n s48) (1 : Nat))) fun (m49 : Nat) (new50 : List Value) ↦
  appendTo σ47 (1 : Nat) (1 : Nat) (Sl.mk (Option.some (Addr.mk i41 (0 : Nat) Option.none)) (1 : Nat)) new50 m49 fun (s51 : Sl) (σ52 : AS) ↦
  K (Value.tuple (Array.mk [Value.slice (Sl.a s51) (Sl.n s51) (1 : Nat), Value.int IntKind.u32 (1 : Int)])) σ52))
  (req ((0 : Int) ≤ IntKind.wrap IntKind.i64 (Int.tdiv (↑m : Int) (2 : Int)))
  (req (IntKind.wrap IntKind.i64 (Int.tdiv (↑m : Int) (2 : Int)) ≤ (↑m : Int))
  (T (23 : Nat)
  [Value.int IntKind.u32 (IntKind.wrap IntKind.u32 (t + (9 : Int))),
  Value.slice (Option.map (fun (x : Addr) ↦ Addr.add x (Int.toNat (0 : Int) * szOf Proofs.Try.prog (22 : Nat))) a)
  (Int.toNat (IntKind.wrap IntKind.i64 (Int.tdiv (↑m : Int) (2 : Int)) - (0 : Int))) (1 : Nat)]
  σ fun (v53 : Value) (σ54 : AS) ↦
  tTup v53 fun (l55 : List Value) ↦
  pSome l55[(0 : Nat)]? fun (u56 : Value) ↦
  tL (1 : Nat) u56 fun (s57 : Sl) ↦
  tTup v53 fun (l58 : List Value) ↦
  pSome l58[(1 : Nat)]? fun (u59 : Value) ↦
  tI IntKind.u32 u59 fun (n60 : Int) ↦
  req ((0 : Int) ≤ IntKind.wrap IntKind.i64 (Int.tdiv (↑m : Int) (2 : Int)))
  (req (IntKind.wrap IntKind.i64 (Int.tdiv (↑m : Int) (2 : Int)) ≤ (↑m : Int))
  (req ((↑m : Int) ≤ (↑m : Int))
  (T (23 : Nat)
  [Value.int IntKind.u32 (IntKind.wrap IntKind.u32 (IntKind.wrap IntKind.u32 (t + (9 : Int)) + IntKind.wrap IntKind.u32 (↑(Sl.n s57) : Int))),
  Value.slice
  (Option.map (fun (x : Addr) ↦ Addr.add x (Int.toNat (IntKind.wrap IntKind.i64 (Int.tdiv (↑m : Int) (2 : Int))) * szOf Proofs.Try.prog (22 : Nat))) a)
  (Int.toNat ((↑m : Int) - IntKind.wrap IntKind.i64 (Int.tdiv (↑m : Int) (2 : Int)))) (1 : Nat)]
  σ54 fun (v61 : Value) (σ62 : AS) ↦
  tTup v61 fun (l63 : List Value) ↦
  pSome l63[(0 : Nat)]? fun (u64 : Value) ↦
  tL (1 : Nat) u64 fun (s65 : Sl) ↦
  tTup v61 fun (l66 : List Value) ↦
  pSome l66[(1 : Nat)]? fun (u67 : Value) ↦
  tI IntKind.u32 u67 fun (n68 : Int) ↦
  T (24 : Nat) [Value.int IntKind.u32 t, Value.slice (Sl.a s57) (Sl.n s57) (1 : Nat), Value.slice (Sl.a s65) (Sl.n s65) (1 : Nat)] σ62
  fun (v69 : Value) (σ70 : AS) ↦
  tL (1 : Nat) v69 fun (s71 : Sl) ↦
  K
  (Value.tuple
  (Array.mk
  [Value.slice (Sl.a s71) (Sl.n s71) (1 : Nat),
  Value.int IntKind.u32 (IntKind.wrap IntKind.u32 (IntKind.wrap IntKind.u32 (n60 + n68) + (1 : Int)))]))
  σ70)))))))) := by
  intros
  kernel_rfl

theorem s10 : ∀ (T : Ct) (t : Int) (a : Option Addr) (m : Nat) (σ : AS) (K : Value → AS → Prop),
  fw Proofs.Try.prog hintsS T (10 : Nat) [Value.int IntKind.u32 t, Value.slice a m (1 : Nat)] σ K =
  T (22 : Nat) [Value.slice a m (1 : Nat)] σ fun (v0 : Value) (σ1 : AS) ↦
  tI IntKind.i64 v0 fun (n2 : Int) ↦
  bmatch (n2 != (0 : Int)) (K (Value.tuple (Array.mk [Value.slice Option.none (0 : Nat) (0 : Nat), Value.int IntKind.i64 n2])) σ1)
  (T (23 : Nat) [Value.int IntKind.u32 (IntKind.wrap IntKind.u32 (t + (22 : Int))), Value.slice a m (1 : Nat)] σ1 fun (v3 : Value) (σ4 : AS) ↦
  tTup v3 fun (l5 : List Value) ↦
  pSome l5[(0 : Nat)]? fun (u6 : Value) ↦
  tL (1 : Nat) u6 fun (s7 : Sl) ↦
  tTup v3 fun (l8 : List Value) ↦
  pSome l8[(1 : Nat)]? fun (u9 : Value) ↦
  tI IntKind.u32 u9 fun (n10 : Int) ↦
  newAt σ4 (AObj.row RK.rw [Value.int IntKind.u8 (1 : Int)]) fun (i11 : Nat) (σ12 : AS) ↦
  T (24 : Nat)
  [Value.int IntKind.u32 (IntKind.wrap IntKind.u32 (t + (12 : Int))), Value.slice (Option.some (Addr.mk i11 (0 : Nat) Option.none)) (1 : Nat) (1 : Nat),
  Value.slice (Sl.a s7) (Sl.n s7) (1 : Nat)]
  σ12 fun (v13 : Value) (σ14 : AS) ↦
  tL (1 : Nat) v13 fun (s15 : Sl) ↦
  T (26 : Nat) [Value.int IntKind.u32 (IntKind.wrap IntKind.u32 (IntKind.wrap IntKind.i64 ((12 : Int) + (↑(Sl.n s15) : Int)))), Value.int IntKind.i64 (4 : Int)]
  σ14 fun (v16 : Value) (σ17 : AS) ↦
  tL (1 : Nat) v16 fun (s18 : Sl) ↦
  T (26 : Nat) [Value.int IntKind.u32 (IntKind.wrap IntKind.u32 (n10 + (2 : Int))), Value.int IntKind.i64 (4 : Int)] σ17 fun (v19 : Value) (σ20 : AS) ↦
  tL (1 : Nat) v19 fun (s21 : Sl) ↦
  T (26 : Nat) [Value.int IntKind.u32 (IntKind.wrap IntKind.u32 (t + (12 : Int))), Value.int IntKind.i64 (4 : Int)] σ20 fun (v22 : Value) (σ23 : AS) ↦
  tL (1 : Nat) v22 fun (s24 : Sl) ↦
  newAt σ23
  (AObj.row RK.rw
  [Value.slice (Sl.a s18) (Sl.n s18) (1 : Nat), Value.slice (Sl.a s21) (Sl.n s21) (1 : Nat),
  Value.slice (Sl.a s24) (Sl.n s24) (1 : Nat), Value.slice (Sl.a s15) (Sl.n s15) (1 : Nat)])
  fun (i25 : Nat) (σ26 : AS) ↦
  T (25 : Nat) [Value.slice (Option.some (Addr.mk i25 (0 : Nat) Option.none)) (4 : Nat) (1 : Nat)] σ26 fun (v27 : Value) (σ28 : AS) ↦
  tL (1 : Nat) v27 fun (s29 : Sl) ↦
  K (Value.tuple (Array.mk [Value.slice (Sl.a s29) (Sl.n s29) (1 : Nat), Value.int IntKind.i64 (0 : Int)])) σ28) := by
  intros
  kernel_rfl

theorem s31 : ∀ (T : Ct) (c : Nat) (b : Int) (σ : AS) (K : Value → AS → Prop),
  fw Proofs.Try.prog hintsS T (31 : Nat) [Value.pointer (Option.some (Addr.mk c (0 : Nat) Option.none)), Value.int IntKind.u8 b] σ K =
  ldc σ (Addr.mk c ((0 : Nat) + (1 : Nat)) Option.none) fun (v0 : Value) ↦
  tI IntKind.i64 v0 fun (n1 : Int) ↦
  bmatch (Int.tmod n1 (8 : Int) == (0 : Int))
  (ldc σ (Addr.mk c (0 : Nat) Option.none) fun (v2 : Value) ↦
  tL (1 : Nat) v2 fun (s3 : Sl) ↦
  newAt σ (AObj.row RK.rw [Value.int IntKind.u8 (0 : Int)]) fun (i4 : Nat) (σ5 : AS) ↦
  lds σ5 (Addr.mk i4 (0 : Nat) Option.none) (1 : Nat) fun (l6 : List Value) ↦
  appendTo σ5 (1 : Nat) (1 : Nat) (Sl.mk (Sl.a s3) (Sl.n s3)) l6 (1 : Nat) fun (s7 : Sl) (σ8 : AS) ↦
  put1 σ8 (Addr.mk c (0 : Nat) Option.none) (Value.slice (Sl.a s7) (Sl.n s7) (1 : Nat)) fun (σ9 : AS) ↦
  ldc σ9 (Addr.mk c (0 : Nat) Option.none) fun (v10 : Value) ↦
  tL (1 : Nat) v10 fun (s11 : Sl) ↦
  ldc σ9 (Addr.mk c (0 : Nat) Option.none) fun (v12 : Value) ↦
  tL (1 : Nat) v12 fun (s13 : Sl) ↦
  req ((0 : Int) ≤ IntKind.wrap IntKind.i64 ((↑(Sl.n s13) : Int) - (1 : Int)))
  (req (IntKind.wrap IntKind.i64 ((↑(Sl.n s13) : Int) - (1 : Int)) < (↑(Sl.n s11) : Int))
  (pSome (Sl.a s11) fun (a14 : Addr) ↦
  ldc σ9 (Addr.add a14 (Int.toNat (IntKind.wrap IntKind.i64 ((↑(Sl.n s13) : Int) - (1 : Int))) * szOf Proofs.Try.prog (5 : Nat))) fun (v15 : Value) ↦
  tI IntKind.u8 v15 fun (n16 : Int) ↦
  ldc σ9 (Addr.mk c ((0 : Nat) + (1 : Nat)) Option.none) fun (v17 : Value) ↦
  tI IntKind.i64 v17 fun (n18 : Int) ↦
  req ((0 : Int) ≤ Int.tmod n18 (8 : Int))
  (req ((0 : Int) ≤ IntKind.wrap IntKind.i64 ((↑(Sl.n s13) : Int) - (1 : Int)))
  (req (IntKind.wrap IntKind.i64 ((↑(Sl.n s13) : Int) - (1 : Int)) < (↑(Sl.n s11) : Int))
  (pSome (Sl.a s11) fun (a19 : Addr) ↦
  put1 σ9 (Addr.add a19 (Int.toNat (IntKind.wrap IntKind.i64 ((↑(Sl.n s13) : Int) - (1 : Int))) * szOf Proofs.Try.prog (5 : Nat)))
  (Value.int IntKind.u8 (ior IntKind.u8 n16 (ishl IntKind.u8 b (Int.tmod n18 (8 : Int))))) fun (σ20 : AS) ↦
  ldc σ20 (Addr.mk c ((0 : Nat) + (1 : Nat)) Option.none) fun (v21 : Value) ↦
  tI IntKind.i64 v21 fun (n22 : Int) ↦
  put1 σ20 (Addr.mk c ((0 : Nat) + (1 : Nat)) Option.none) (Value.int IntKind.i64 (IntKind.wrap IntKind.i64 (n22 + (1 : Int))))
  fun (σ23 : AS) ↦ K (Value.tuple (Array.mk [])) σ23))))))
  (ldc σ (Addr.mk c (0 : Nat) Option.none) fun (v24 : Value) ↦
  tL (1 : Nat) v24 fun (s25 : Sl) ↦
  ldc σ (Addr.mk c (0 : Nat) Option.none) fun (v26 : Value) ↦
  tL (1 : Nat) v26 fun (s27 : Sl) ↦
  req ((0 : Int) ≤ IntKind.wrap IntKind.i64 ((↑(Sl.n s27) : Int) - (1 : Int)))
  (req (IntKind.wrap IntKind.i64 ((↑(Sl.n s27) : Int) - (1 : Int)) < (↑(Sl.n s25) : Int))
  (pSome (Sl.a s25) fun (a28 : Addr) ↦
  ldc σ (Addr.add a28 (Int.toNat (IntKind.wrap IntKind.i64 ((↑(Sl.n s27) : Int) - (1 : Int))) * szOf Proofs.Try.prog (5 : Nat))) fun (v29 : Value) ↦
  tI IntKind.u8 v29 fun (n30 : Int) ↦
  ldc σ (Addr.mk c ((0 : Nat) + (1 : Nat)) Option.none) fun (v31 : Value) ↦
  tI IntKind.i64 v31 fun (n32 : Int) ↦
  req ((0 : Int) ≤ Int.tmod n32 (8 : Int))
  (req ((0 : Int) ≤ IntKind.wrap IntKind.i64 ((↑(Sl.n s27) : Int) - (1 : Int)))
  (req (IntKind.wrap IntKind.i64 ((↑(Sl.n s27) : Int) - (1 : Int)) < (↑(Sl.n s25) : Int))
  (pSome (Sl.a s25) fun (a33 : Addr) ↦
  put1 σ (Addr.add a33 (Int.toNat (IntKind.wrap IntKind.i64 ((↑(Sl.n s27) : Int) - (1 : Int))) * szOf Proofs.Try.prog (5 : Nat)))
  (Value.int IntKind.u8 (ior IntKind.u8 n30 (ishl IntKind.u8 b (Int.tmod n32 (8 : Int))))) fun (σ34 : AS) ↦
  ldc σ34 (Addr.mk c ((0 : Nat) + (1 : Nat)) Option.none) fun (v35 : Value) ↦
  tI IntKind.i64 v35 fun (n36 : Int) ↦
  put1 σ34 (Addr.mk c ((0 : Nat) + (1 : Nat)) Option.none) (Value.int IntKind.i64 (IntKind.wrap IntKind.i64 (n36 + (1 : Int)))) fun (σ37 : AS) ↦
  K (Value.tuple (Array.mk [])) σ37)))))) := by
  intros
  kernel_rfl

theorem s25 : ∀ (T : Ct) (a : Option Addr) (m : Nat) (σ : AS) (K : Value → AS → Prop),
  fw Proofs.Try.prog hintsS T (25 : Nat) [Value.slice a m (1 : Nat)] σ K =
  ALoop (fl Proofs.Try.prog hintsS T (25 : Nat) [Bool.true, Bool.true, Bool.false, Bool.true, Bool.false] [] K)
  [((0 : Nat), Option.some (Value.slice a m (1 : Nat))), ((3 : Nat), Option.some (Value.int IntKind.i64 (0 : Int))), ((9 : Nat), Option.some (Value.slice a m (1 : Nat))),
  ((10 : Nat), Option.some (Value.int IntKind.i64 (↑m : Int))), ((11 : Nat), Option.some (Value.int IntKind.i64 (0 : Int)))]
  σ := by
  intros
  kernel_rfl

theorem s25a : ∀ (T : Ct) (a : Option Addr) (m : Nat) (s x y z : Int) (X : Regs → AS → Prop) (σ : AS) (K : Value → AS → Prop),
  fl Proofs.Try.prog hintsS T (25 : Nat) [Bool.true, Bool.true, Bool.false, Bool.true, Bool.false] [] K X
  [((0 : Nat), Option.some (Value.slice a m (1 : Nat))), ((3 : Nat), Option.some (Value.int IntKind.i64 s)), ((9 : Nat), Option.some (Value.slice a m (1 : Nat))),
  ((10 : Nat), Option.some (Value.int IntKind.i64 y)), ((11 : Nat), Option.some (Value.int IntKind.i64 z))]
  σ =
  bmatch (Decidable.decide (z < y))
  (req ((0 : Int) ≤ z)
  (req (z < (↑m : Int))
  (pSome a fun (a0 : Addr) ↦
  ldc σ (Addr.add a0 (Int.toNat z * szOf Proofs.Try.prog (25 : Nat))) fun (v1 : Value) ↦
  tL (1 : Nat) v1 fun (s2 : Sl) ↦
  bmatch (Decidable.decide (IntKind.wrap IntKind.i64 (s + (↑(Sl.n s2) : Int)) < (0 : Int))) False
  (X
  [((0 : Nat), Option.some (Value.slice a m (1 : Nat))), ((3 : Nat), Option.some (Value.int IntKind.i64 (IntKind.wrap IntKind.i64 (s + (↑(Sl.n s2) : Int))))),
  ((9 : Nat), Option.some (Value.slice a m (1 : Nat))), ((10 : Nat), Option.some (Value.int IntKind.i64 y)),
  ((11 : Nat), Option.some (Value.int IntKind.i64 (IntKind.wrap IntKind.i64 (z + (1 : Int)))))]
  σ))))
  (T (40 : Nat) [Value.slice Option.none (0 : Nat) (0 : Nat), Value.int IntKind.i64 s] σ fun (v3 : Value) (σ4 : AS) ↦
  tL (1 : Nat) v3 fun (s5 : Sl) ↦
  ALoop (fl Proofs.Try.prog hintsS T (25 : Nat) [Bool.true, Bool.true, Bool.true, Bool.true, Bool.false, Bool.true, Bool.false] [] K)
  [((6 : Nat), Option.some (Value.slice (Sl.a s5) (Sl.n s5) (1 : Nat))), ((25 : Nat), Option.some (Value.slice a m (1 : Nat))),
  ((26 : Nat), Option.some (Value.int IntKind.i64 (↑m : Int))), ((27 : Nat), Option.some (Value.int IntKind.i64 (0 : Int)))]
  σ4) := by
  intros
  kernel_rfl

theorem s25b : ∀ (T : Ct) (w : Option Addr) (wn : Nat) (a : Option Addr) (m : Nat) (y z : Int) (X : Regs → AS → Prop) (σ : AS) (K : Value → AS → Prop),
  fl Proofs.Try.prog hintsS T (25 : Nat) [Bool.true, Bool.true, Bool.true, Bool.true, Bool.false, Bool.true, Bool.false] [] K X
  [((6 : Nat), Option.some (Value.slice w wn (1 : Nat))), ((25 : Nat), Option.some (Value.slice a m (1 : Nat))), ((26 : Nat), Option.some (Value.int IntKind.i64 y)),
  ((27 : Nat), Option.some (Value.int IntKind.i64 z))]
  σ =
  bmatch (Decidable.decide (z < y))
  (req ((0 : Int) ≤ z)
  (req (z < (↑m : Int))
  (pSome a fun (a0 : Addr) ↦
  ldc σ (Addr.add a0 (Int.toNat z * szOf Proofs.Try.prog (25 : Nat))) fun (v1 : Value) ↦
  tL (1 : Nat) v1 fun (s2 : Sl) ↦
  srcCells σ (1 : Nat) (Option.some (Value.slice (Sl.a s2) (Sl.n s2) (1 : Nat))) fun (m3 : Nat) (new4 : List Value) ↦
  appendTo σ (1 : Nat) (1 : Nat) (Sl.mk w wn) new4 m3 fun (s5 : Sl) (σ6 : AS) ↦
  X
  [((6 : Nat), Option.some (Value.slice (Sl.a s5) (Sl.n s5) (1 : Nat))), ((25 : Nat), Option.some (Value.slice a m (1 : Nat))),
  ((26 : Nat), Option.some (Value.int IntKind.i64 y)), ((27 : Nat), Option.some (Value.int IntKind.i64 (IntKind.wrap IntKind.i64 (z + (1 : Int)))))]
  σ6)))
  (K (Value.slice w wn (1 : Nat)) σ) := by
  intros
  kernel_rfl

theorem s12 : ∀ (T : Ct) (a : Option Addr) (m : Nat) (u : Option Addr) (ul : Nat) (σ : AS) (K : Value → AS → Prop),
  fw Proofs.Try.prog hintsS T (12 : Nat) [Value.slice a m (1 : Nat), Value.slice u ul (1 : Nat)] σ K =
  T (22 : Nat) [Value.slice a m (1 : Nat)] σ fun (v0 : Value) (σ1 : AS) ↦
  tI IntKind.i64 v0 fun (n2 : Int) ↦
  bmatch (n2 != (0 : Int)) (K (Value.tuple (Array.mk [Value.slice Option.none (0 : Nat) (0 : Nat), Value.int IntKind.i64 n2])) σ1)
  (newAt σ1 (AObj.row RK.plain [Value.slice Option.none (0 : Nat) (0 : Nat), Value.int IntKind.i64 (0 : Int)]) fun (i3 : Nat) (σ4 : AS) ↦
  puts σ4 (Addr.mk i3 (0 : Nat) Option.none) [Value.slice Option.none (0 : Nat) (0 : Nat), Value.int IntKind.i64 (0 : Int)] fun (σ5 : AS) ↦
  ALoop (fl Proofs.Try.prog hintsS T (12 : Nat) [Bool.true, Bool.true, Bool.true, Bool.false, Bool.true, Bool.false] [] K)
  [((0 : Nat), Option.some (Value.slice a m (1 : Nat))), ((7 : Nat), Option.some (Value.pointer (Option.some (Addr.mk i3 (0 : Nat) Option.none)))),
  ((20 : Nat), Option.some (Value.slice u ul (1 : Nat))), ((21 : Nat), Option.some (Value.int IntKind.i64 (↑ul : Int))), ((22 : Nat), Option.some (Value.int IntKind.i64 (0 : Int)))]
  σ5) := by
  intros
  kernel_rfl

theorem s12a : ∀ (T : Ct) (a : Option Addr) (m : Nat) (u : Option Addr) (ul c : Nat) (y z : Int) (X : Regs → AS → Prop) (σ : AS) (K : Value → AS → Prop),
  fl Proofs.Try.prog hintsS T (12 : Nat) [Bool.true, Bool.true, Bool.true, Bool.false, Bool.true, Bool.false] [] K X
  [((0 : Nat), Option.some (Value.slice a m (1 : Nat))), ((7 : Nat), Option.some (Value.pointer (Option.some (Addr.mk c (0 : Nat) Option.none)))),
  ((20 : Nat), Option.some (Value.slice u ul (1 : Nat))), ((21 : Nat), Option.some (Value.int IntKind.i64 y)), ((22 : Nat), Option.some (Value.int IntKind.i64 z))]
  σ =
  bmatch (Decidable.decide (z < y))
  (req ((0 : Int) ≤ z)
  (req (z < (↑ul : Int))
  (pSome u fun (a0 : Addr) ↦
  ldc σ (Addr.add a0 (Int.toNat z * szOf Proofs.Try.prog (22 : Nat))) fun (v1 : Value) ↦
  tI IntKind.u32 v1 fun (n2 : Int) ↦
  T (30 : Nat) [Value.slice a m (1 : Nat), Value.int IntKind.u32 n2] σ fun (v3 : Value) (σ4 : AS) ↦
  tI IntKind.i64 v3 fun (n5 : Int) ↦
  bmatch (Decidable.decide (n5 < (0 : Int))) (K (Value.tuple (Array.mk [Value.slice Option.none (0 : Nat) (0 : Nat), Value.int IntKind.i64 (5 : Int)])) σ4)
  (T (31 : Nat) [Value.pointer (Option.some (Addr.mk c (0 : Nat) Option.none)), Value.int IntKind.u8 (1 : Int)] σ4 fun (v6 : Value) (σ7 : AS) ↦
  ALoop
  (fl Proofs.Try.prog hintsS T (12 : Nat)
  [Bool.true, Bool.true, Bool.true, Bool.false, Bool.true, Bool.false, Bool.false, Bool.true, Bool.true, Bool.false, Bool.false, Bool.true, Bool.true, Bool.true, Bool.true, Bool.true,
  Bool.false]
  [X] K)
  [((0 : Nat), Option.some (Value.slice a m (1 : Nat))), ((7 : Nat), Option.some (Value.pointer (Option.some (Addr.mk c (0 : Nat) Option.none)))),
  ((10 : Nat), Option.some (Value.int IntKind.i64 n5)), ((11 : Nat), Option.some (Value.int IntKind.i64 (0 : Int))),
  ((12 : Nat), Option.some (Value.int IntKind.i64 (↑m : Int))), ((20 : Nat), Option.some (Value.slice u ul (1 : Nat))),
  ((21 : Nat), Option.some (Value.int IntKind.i64 y)), ((22 : Nat), Option.some (Value.int IntKind.i64 z))]
  σ7))))
  (T (31 : Nat) [Value.pointer (Option.some (Addr.mk c (0 : Nat) Option.none)), Value.int IntKind.u8 (0 : Int)] σ fun (v8 : Value) (σ9 : AS) ↦
  newAt σ9 (AObj.row RK.rw [Value.int IntKind.u8 (225 : Int)]) fun (i10 : Nat) (σ11 : AS) ↦
  ldc σ11 (Addr.mk c (0 : Nat) Option.none) fun (v12 : Value) ↦
  tL (1 : Nat) v12 fun (s13 : Sl) ↦
  srcCells σ11 (1 : Nat) (Option.some (Value.slice (Sl.a s13) (Sl.n s13) (1 : Nat))) fun (m14 : Nat) (new15 : List Value) ↦
  appendTo σ11 (1 : Nat) (1 : Nat) (Sl.mk (Option.some (Addr.mk i10 (0 : Nat) Option.none)) (1 : Nat)) new15 m14 fun (s16 : Sl) (σ17 : AS) ↦
  K (Value.tuple (Array.mk [Value.slice (Sl.a s16) (Sl.n s16) (1 : Nat), Value.int IntKind.i64 (0 : Int)])) σ17) := by
  intros
  kernel_rfl

theorem s12b : ∀ (T : Ct) (a : Option Addr) (m : Nat) (u : Option Addr) (ul c : Nat) (k lo hi y z : Int) (Y X : Regs → AS → Prop) (σ : AS) (K : Value → AS → Prop),
  fl Proofs.Try.prog hintsS T (12 : Nat)
  [Bool.true, Bool.true, Bool.true, Bool.false, Bool.true, Bool.false, Bool.false, Bool.true, Bool.true, Bool.false, Bool.false, Bool.true, Bool.true, Bool.true, Bool.true, Bool.true, Bool.false] [Y] K X
  [((0 : Nat), Option.some (Value.slice a m (1 : Nat))), ((7 : Nat), Option.some (Value.pointer (Option.some (Addr.mk c (0 : Nat) Option.none)))),
  ((10 : Nat), Option.some (Value.int IntKind.i64 k)), ((11 : Nat), Option.some (Value.int IntKind.i64 lo)), ((12 : Nat), Option.some (Value.int IntKind.i64 hi)),
  ((20 : Nat), Option.some (Value.slice u ul (1 : Nat))), ((21 : Nat), Option.some (Value.int IntKind.i64 y)), ((22 : Nat), Option.some (Value.int IntKind.i64 z))]
  σ =
  bmatch (Decidable.decide (IntKind.wrap IntKind.i64 (hi - lo) > (1 : Int)))
  (bmatch (Decidable.decide (k < IntKind.wrap IntKind.i64 (lo + IntKind.wrap IntKind.i64 (Int.tdiv (IntKind.wrap IntKind.i64 (hi - lo)) (2 : Int)))))
  (T (31 : Nat) [Value.pointer (Option.some (Addr.mk c (0 : Nat) Option.none)), Value.int IntKind.u8 (0 : Int)] σ fun (v0 : Value) (σ1 : AS) ↦
  X
  [((0 : Nat), Option.some (Value.slice a m (1 : Nat))), ((7 : Nat), Option.some (Value.pointer (Option.some (Addr.mk c (0 : Nat) Option.none)))),
  ((10 : Nat), Option.some (Value.int IntKind.i64 k)), ((11 : Nat), Option.some (Value.int IntKind.i64 lo)),
  ((12 : Nat), Option.some (Value.int IntKind.i64 (IntKind.wrap IntKind.i64 (lo + IntKind.wrap IntKind.i64 (Int.tdiv (IntKind.wrap IntKind.i64 (hi - lo)) (2 : Int)))))),
  ((20 : Nat), Option.some (Value.slice u ul (1 : Nat))), ((21 : Nat), Option.some (Value.int IntKind.i64 y)), ((22 : Nat), Option.some (Value.int IntKind.i64 z))]
  σ1)
  (T (31 : Nat) [Value.pointer (Option.some (Addr.mk c (0 : Nat) Option.none)), Value.int IntKind.u8 (1 : Int)] σ fun (v2 : Value) (σ3 : AS) ↦
  X
  [((0 : Nat), Option.some (Value.slice a m (1 : Nat))), ((7 : Nat), Option.some (Value.pointer (Option.some (Addr.mk c (0 : Nat) Option.none)))),
  ((10 : Nat), Option.some (Value.int IntKind.i64 k)),
  ((11 : Nat), Option.some (Value.int IntKind.i64 (IntKind.wrap IntKind.i64 (lo + IntKind.wrap IntKind.i64 (Int.tdiv (IntKind.wrap IntKind.i64 (hi - lo)) (2 : Int)))))),
  ((12 : Nat), Option.some (Value.int IntKind.i64 hi)), ((20 : Nat), Option.some (Value.slice u ul (1 : Nat))), ((21 : Nat), Option.some (Value.int IntKind.i64 y)),
  ((22 : Nat), Option.some (Value.int IntKind.i64 z))]
  σ3))
  (Y
  [((0 : Nat), Option.some (Value.slice a m (1 : Nat))), ((7 : Nat), Option.some (Value.pointer (Option.some (Addr.mk c (0 : Nat) Option.none)))),
  ((20 : Nat), Option.some (Value.slice u ul (1 : Nat))), ((21 : Nat), Option.some (Value.int IntKind.i64 y)),
  ((22 : Nat), Option.some (Value.int IntKind.i64 (IntKind.wrap IntKind.i64 (z + (1 : Int)))))]
  σ) := by
  intros
  kernel_rfl

theorem s17 : ∀ (T : Ct) (a u b l c : Option Addr) (an un bn ln cn : Nat) (σ : AS) (K : Value → AS → Prop),
  fw Proofs.Try.prog hintsS T (17 : Nat)
  [Value.slice a an (1 : Nat), Value.slice u un (1 : Nat), Value.slice b bn (1 : Nat), Value.slice l ln (1 : Nat), Value.slice c cn (1 : Nat)] σ K =
  newAt σ (AObj.row RK.rw [Value.int IntKind.u8 (7 : Int)]) fun (i0 : Nat) (σ1 : AS) ↦
  srcCells σ1 (1 : Nat) (Option.some (Value.slice a an (1 : Nat))) fun (m2 : Nat) (new3 : List Value) ↦
  appendTo σ1 (1 : Nat) (1 : Nat) (Sl.mk (Option.some (Addr.mk i0 (0 : Nat) Option.none)) (1 : Nat)) new3 m2 fun (s4 : Sl) (σ5 : AS) ↦
  T (10 : Nat) [Value.int IntKind.u32 (IntKind.wrap IntKind.u32 (↑(Sl.n s4) : Int)), Value.slice u un (1 : Nat)] σ5 fun (v6 : Value) (σ7 : AS) ↦
  tTup v6 fun (l8 : List Value) ↦
  pSome l8[(0 : Nat)]? fun (u9 : Value) ↦
  tL (1 : Nat) u9 fun (s10 : Sl) ↦
  tTup v6 fun (l11 : List Value) ↦
  pSome l11[(1 : Nat)]? fun (u12 : Value) ↦
  tI IntKind.i64 u12 fun (n13 : Int) ↦
  srcCells σ7 (1 : Nat) (Option.some (Value.slice (Sl.a s10) (Sl.n s10) (1 : Nat))) fun (m14 : Nat) (new15 : List Value) ↦
  appendTo σ7 (1 : Nat) (1 : Nat) (Sl.mk (Sl.a s4) (Sl.n s4)) new15 m14 fun (s16 : Sl) (σ17 : AS) ↦
  srcCells σ17 (1 : Nat) (Option.some (Value.slice b bn (1 : Nat))) fun (m18 : Nat) (new19 : List Value) ↦
  appendTo σ17 (1 : Nat) (1 : Nat) (Sl.mk (Sl.a s16) (Sl.n s16)) new19 m18 fun (s20 : Sl) (σ21 : AS) ↦
  T (12 : Nat) [Value.slice u un (1 : Nat), Value.slice l ln (1 : Nat)] σ21 fun (v22 : Value) (σ23 : AS) ↦
  tTup v22 fun (l24 : List Value) ↦
  pSome l24[(0 : Nat)]? fun (u25 : Value) ↦
  tL (1 : Nat) u25 fun (s26 : Sl) ↦
  tTup v22 fun (l27 : List Value) ↦
  pSome l27[(1 : Nat)]? fun (u28 : Value) ↦
  tI IntKind.i64 u28 fun (n29 : Int) ↦
  srcCells σ23 (1 : Nat) (Option.some (Value.slice (Sl.a s26) (Sl.n s26) (1 : Nat))) fun (m30 : Nat) (new31 : List Value) ↦
  appendTo σ23 (1 : Nat) (1 : Nat) (Sl.mk (Sl.a s20) (Sl.n s20)) new31 m30 fun (s32 : Sl) (σ33 : AS) ↦
  srcCells σ33 (1 : Nat) (Option.some (Value.slice c cn (1 : Nat))) fun (m34 : Nat) (new35 : List Value) ↦
  appendTo σ33 (1 : Nat) (1 : Nat) (Sl.mk (Sl.a s32) (Sl.n s32)) new35 m34 fun (s36 : Sl) (σ37 : AS) ↦
  T (15 : Nat) [Value.int IntKind.i64 n13] σ37 fun (v38 : Value) (σ39 : AS) ↦
  tI IntKind.i64 v38 fun (n40 : Int) ↦
  T (15 : Nat) [Value.int IntKind.i64 n29] σ39 fun (v41 : Value) (σ42 : AS) ↦
  tI IntKind.i64 v41 fun (n43 : Int) ↦
  K
  (Value.tuple
  (Array.mk
  [Value.slice (Sl.a s36) (Sl.n s36) (1 : Nat), Value.int IntKind.u32 (IntKind.wrap IntKind.u32 (↑(Sl.n s4) : Int)),
  Value.int IntKind.u32 (IntKind.wrap IntKind.u32 (↑(Sl.n s20) : Int)),
  Value.bool (IntKind.wrap IntKind.i64 (n40 + n43) == (0 : Int))]))
  σ42 := by
  intros
  kernel_rfl

theorem s17z : ∀ (T : Ct) (u l : Option Addr) (un ln : Nat) (σ : AS) (K : Value → AS → Prop),
  fw Proofs.Try.prog hintsS T (17 : Nat)
  [Value.slice Option.none (0 : Nat) (0 : Nat), Value.slice u un (1 : Nat), Value.slice Option.none (0 : Nat) (0 : Nat), Value.slice l ln (1 : Nat), Value.slice Option.none (0 : Nat) (0 : Nat)]
  σ K =
  newAt σ (AObj.row RK.rw [Value.int IntKind.u8 (7 : Int)]) fun (i0 : Nat) (σ1 : AS) ↦
  appendTo σ1 (1 : Nat) (1 : Nat) (Sl.mk (Option.some (Addr.mk i0 (0 : Nat) Option.none)) (1 : Nat)) [] (0 : Nat) fun (s2 : Sl) (σ3 : AS) ↦
  T (10 : Nat) [Value.int IntKind.u32 (IntKind.wrap IntKind.u32 (↑(Sl.n s2) : Int)), Value.slice u un (1 : Nat)] σ3 fun (v4 : Value) (σ5 : AS) ↦
  tTup v4 fun (l6 : List Value) ↦
  pSome l6[(0 : Nat)]? fun (u7 : Value) ↦
  tL (1 : Nat) u7 fun (s8 : Sl) ↦
  tTup v4 fun (l9 : List Value) ↦
  pSome l9[(1 : Nat)]? fun (u10 : Value) ↦
  tI IntKind.i64 u10 fun (n11 : Int) ↦
  srcCells σ5 (1 : Nat) (Option.some (Value.slice (Sl.a s8) (Sl.n s8) (1 : Nat))) fun (m12 : Nat) (new13 : List Value) ↦
  appendTo σ5 (1 : Nat) (1 : Nat) (Sl.mk (Sl.a s2) (Sl.n s2)) new13 m12 fun (s14 : Sl) (σ15 : AS) ↦
  appendTo σ15 (1 : Nat) (1 : Nat) (Sl.mk (Sl.a s14) (Sl.n s14)) [] (0 : Nat) fun (s16 : Sl) (σ17 : AS) ↦
  T (12 : Nat) [Value.slice u un (1 : Nat), Value.slice l ln (1 : Nat)] σ17 fun (v18 : Value) (σ19 : AS) ↦
  tTup v18 fun (l20 : List Value) ↦
  pSome l20[(0 : Nat)]? fun (u21 : Value) ↦
  tL (1 : Nat) u21 fun (s22 : Sl) ↦
  tTup v18 fun (l23 : List Value) ↦
  pSome l23[(1 : Nat)]? fun (u24 : Value) ↦
  tI IntKind.i64 u24 fun (n25 : Int) ↦
  srcCells σ19 (1 : Nat) (Option.some (Value.slice (Sl.a s22) (Sl.n s22) (1 : Nat))) fun (m26 : Nat) (new27 : List Value) ↦
  appendTo σ19 (1 : Nat) (1 : Nat) (Sl.mk (Sl.a s16) (Sl.n s16)) new27 m26 fun (s28 : Sl) (σ29 : AS) ↦
  appendTo σ29 (1 : Nat) (1 : Nat) (Sl.mk (Sl.a s28) (Sl.n s28)) [] (0 : Nat) fun (s30 : Sl) (σ31 : AS) ↦
  T (15 : Nat) [Value.int IntKind.i64 n11] σ31 fun (v32 : Value) (σ33 : AS) ↦
  tI IntKind.i64 v32 fun (n34 : Int) ↦
  T (15 : Nat) [Value.int IntKind.i64 n25] σ33 fun (v35 : Value) (σ36 : AS) ↦
  tI IntKind.i64 v35 fun (n37 : Int) ↦
  K
  (Value.tuple
  (Array.mk
  [Value.slice (Sl.a s30) (Sl.n s30) (1 : Nat), Value.int IntKind.u32 (IntKind.wrap IntKind.u32 (↑(Sl.n s2) : Int)),
  Value.int IntKind.u32 (IntKind.wrap IntKind.u32 (↑(Sl.n s16) : Int)),
  Value.bool (IntKind.wrap IntKind.i64 (n34 + n37) == (0 : Int))]))
  σ36 := by
  intros
  kernel_rfl

theorem s4 : ∀ (T : Ct) (a u b l c : Option Addr) (an un bn ln cn : Nat) (σ : AS) (K : Value → AS → Prop),
  fw Proofs.Try.prog hintsS T (4 : Nat)
  [Value.slice a an (1 : Nat), Value.slice u un (1 : Nat), Value.slice b bn (1 : Nat), Value.slice l ln (1 : Nat), Value.slice c cn (1 : Nat)] σ K =
  bmatch (Decidable.decide (IntKind.wrap IntKind.i64 (IntKind.wrap IntKind.i64 ((↑an : Int) + (↑bn : Int)) + (↑cn : Int)) > (16384 : Int)))
  (T (9 : Nat) [] σ fun (v0 : Value) (σ1 : AS) ↦ tB v0 fun (b2 : Bool) ↦ K (Value.bool b2) σ1)
  (bmatch (Decidable.decide ((↑un : Int) > (300 : Int))) (T (9 : Nat) [] σ fun (v3 : Value) (σ4 : AS) ↦ tB v3 fun (b5 : Bool) ↦ K (Value.bool b5) σ4)
  (bmatch (Decidable.decide ((↑ln : Int) > (300 : Int))) (T (9 : Nat) [] σ fun (v6 : Value) (σ7 : AS) ↦ tB v6 fun (b8 : Bool) ↦ K (Value.bool b8) σ7)
  (T (17 : Nat) [Value.slice a an (1 : Nat), Value.slice u un (1 : Nat), Value.slice b bn (1 : Nat), Value.slice l ln (1 : Nat), Value.slice c cn (1 : Nat)] σ
  fun (v9 : Value) (σ10 : AS) ↦
  tTup v9 fun (l11 : List Value) ↦
  pSome l11[(0 : Nat)]? fun (u12 : Value) ↦
  tL (1 : Nat) u12 fun (s13 : Sl) ↦
  tTup v9 fun (l14 : List Value) ↦
  pSome l14[(1 : Nat)]? fun (u15 : Value) ↦
  tI IntKind.u32 u15 fun (n16 : Int) ↦
  tTup v9 fun (l17 : List Value) ↦
  pSome l17[(2 : Nat)]? fun (u18 : Value) ↦
  tI IntKind.u32 u18 fun (n19 : Int) ↦
  tTup v9 fun (l20 : List Value) ↦
  pSome l20[(3 : Nat)]? fun (u21 : Value) ↦
  tB u21 fun (b22 : Bool) ↦
  bmatch (!b22) (T (9 : Nat) [] σ10 fun (v23 : Value) (σ24 : AS) ↦ tB v23 fun (b25 : Bool) ↦ K (Value.bool b25) σ24)
  (T (18 : Nat)
  [Value.slice (Sl.a s13) (Sl.n s13) (1 : Nat), Value.int IntKind.u32 n16, Value.int IntKind.u32 n19, Value.int IntKind.i64 (↑ln : Int)] σ10
  fun (v26 : Value) (σ27 : AS) ↦
  tTup v26 fun (l28 : List Value) ↦
  pSome l28[(0 : Nat)]? fun (u29 : Value) ↦
  tL (1 : Nat) u29 fun (s30 : Sl) ↦
  tTup v26 fun (l31 : List Value) ↦
  pSome l31[(1 : Nat)]? fun (u32 : Value) ↦
  tB u32 fun (b33 : Bool) ↦
  tTup v26 fun (l34 : List Value) ↦
  pSome l34[(2 : Nat)]? fun (u35 : Value) ↦
  tI IntKind.i64 u35 fun (n36 : Int) ↦
  T (18 : Nat)
  [Value.slice (Sl.a s13) (Sl.n s13) (1 : Nat), Value.int IntKind.u32 n16, Value.int IntKind.u32 n19,
  Value.int IntKind.i64 (IntKind.wrap IntKind.i64 (Int.tdiv (↑ln : Int) (2 : Int)))]
  σ27 fun (v37 : Value) (σ38 : AS) ↦
  tTup v37 fun (l39 : List Value) ↦
  pSome l39[(0 : Nat)]? fun (u40 : Value) ↦
  tL (1 : Nat) u40 fun (s41 : Sl) ↦
  tTup v37 fun (l42 : List Value) ↦
  pSome l42[(1 : Nat)]? fun (u43 : Value) ↦
  tB u43 fun (b44 : Bool) ↦
  tTup v37 fun (l45 : List Value) ↦
  pSome l45[(2 : Nat)]? fun (u46 : Value) ↦
  tI IntKind.i64 u46 fun (n47 : Int) ↦
  T (15 : Nat) [Value.int IntKind.i64 n36] σ38 fun (v48 : Value) (σ49 : AS) ↦
  tI IntKind.i64 v48 fun (n50 : Int) ↦
  T (15 : Nat) [Value.int IntKind.i64 n47] σ49 fun (v51 : Value) (σ52 : AS) ↦
  tI IntKind.i64 v51 fun (n53 : Int) ↦
  bmatch (IntKind.wrap IntKind.i64 (n50 + n53) == (0 : Int))
  (bmatch b33
  (T (16 : Nat) [Value.slice (Sl.a s30) (Sl.n s30) (1 : Nat), Value.slice l ln (1 : Nat)] σ52
  fun (v54 : Value) (σ55 : AS) ↦
  tB v54 fun (b56 : Bool) ↦
  bmatch b56
  (bmatch (b44 == ((↑ln : Int) == (0 : Int)))
  (req ((0 : Int) ≤ IntKind.wrap IntKind.i64 (Int.tdiv (↑ln : Int) (2 : Int)))
  (req (IntKind.wrap IntKind.i64 (Int.tdiv (↑ln : Int) (2 : Int)) ≤ (↑ln : Int))
  (T (16 : Nat)
  [Value.slice (Sl.a s41) (Sl.n s41) (1 : Nat),
  Value.slice
  (Option.map (fun (x : Addr) ↦ Addr.add x (Int.toNat (0 : Int) * szOf Proofs.Try.prog (22 : Nat)))
  l)
  (Int.toNat (IntKind.wrap IntKind.i64 (Int.tdiv (↑ln : Int) (2 : Int)) - (0 : Int))) (1 : Nat)]
  σ55 fun (v57 : Value) (σ58 : AS) ↦
  tB v57 fun (b59 : Bool) ↦
  bmatch b59
  (T (9 : Nat) [] σ58 fun (v60 : Value) (σ61 : AS) ↦
  tB v60 fun (b62 : Bool) ↦ K (Value.bool b62) σ61)
  (K (Value.bool Bool.false) σ58))))
  (K (Value.bool Bool.false) σ55))
  (K (Value.bool Bool.false) σ55))
  (K (Value.bool Bool.false) σ52))
  (K (Value.bool Bool.false) σ52))))) := by
  intros
  kernel_rfl

theorem s8 : ∀ (T : Ct) (u l : Option Addr) (un ln : Nat) (k : Int) (σ : AS) (K : Value → AS → Prop),
  fw Proofs.Try.prog hintsS T (8 : Nat) [Value.slice u un (1 : Nat), Value.slice l ln (1 : Nat), Value.int IntKind.i64 k] σ K =
  bmatch (Decidable.decide ((↑un : Int) > (300 : Int))) (T (9 : Nat) [] σ fun (v0 : Value) (σ1 : AS) ↦ tB v0 fun (b2 : Bool) ↦ K (Value.bool b2) σ1)
  (bmatch (Decidable.decide ((↑ln : Int) > (300 : Int))) (T (9 : Nat) [] σ fun (v3 : Value) (σ4 : AS) ↦ tB v3 fun (b5 : Bool) ↦ K (Value.bool b5) σ4)
  (T (17 : Nat)
  [Value.slice Option.none (0 : Nat) (0 : Nat), Value.slice u un (1 : Nat), Value.slice Option.none (0 : Nat) (0 : Nat), Value.slice l ln (1 : Nat),
  Value.slice Option.none (0 : Nat) (0 : Nat)]
  σ fun (v6 : Value) (σ7 : AS) ↦
  tTup v6 fun (l8 : List Value) ↦
  pSome l8[(0 : Nat)]? fun (u9 : Value) ↦
  tL (1 : Nat) u9 fun (s10 : Sl) ↦
  tTup v6 fun (l11 : List Value) ↦
  pSome l11[(1 : Nat)]? fun (u12 : Value) ↦
  tI IntKind.u32 u12 fun (n13 : Int) ↦
  tTup v6 fun (l14 : List Value) ↦
  pSome l14[(2 : Nat)]? fun (u15 : Value) ↦
  tI IntKind.u32 u15 fun (n16 : Int) ↦
  tTup v6 fun (l17 : List Value) ↦
  pSome l17[(3 : Nat)]? fun (u18 : Value) ↦
  tB u18 fun (b19 : Bool) ↦
  bmatch (!b19) (T (9 : Nat) [] σ7 fun (v20 : Value) (σ21 : AS) ↦ tB v20 fun (b22 : Bool) ↦ K (Value.bool b22) σ21)
  (bmatch (Decidable.decide (k < IntKind.wrap IntKind.i64 n16))
  (T (9 : Nat) [] σ7 fun (v23 : Value) (σ24 : AS) ↦ tB v23 fun (b25 : Bool) ↦ K (Value.bool b25) σ24)
  (bmatch (Decidable.decide (k ≥ (↑(Sl.n s10) : Int)))
  (T (9 : Nat) [] σ7 fun (v26 : Value) (σ27 : AS) ↦ tB v26 fun (b28 : Bool) ↦ K (Value.bool b28) σ27)
  (req ((0 : Int) ≤ k)
  (req (k ≤ (↑(Sl.n s10) : Int))
  (T (18 : Nat)
  [Value.slice (Option.map (fun (x : Addr) ↦ Addr.add x (Int.toNat (0 : Int) * szOf Proofs.Try.prog (5 : Nat))) (Sl.a s10))
  (Int.toNat (k - (0 : Int))) (1 : Nat),
  Value.int IntKind.u32 n13, Value.int IntKind.u32 n16, Value.int IntKind.i64 (301 : Int)]
  σ7 fun (v29 : Value) (σ30 : AS) ↦
  tTup v29 fun (l31 : List Value) ↦
  pSome l31[(0 : Nat)]? fun (u32 : Value) ↦
  tL (1 : Nat) u32 fun (s33 : Sl) ↦
  tTup v29 fun (l34 : List Value) ↦
  pSome l34[(1 : Nat)]? fun (u35 : Value) ↦
  tB u35 fun (b36 : Bool) ↦
  tTup v29 fun (l37 : List Value) ↦
  pSome l37[(2 : Nat)]? fun (u38 : Value) ↦
  tI IntKind.i64 u38 fun (n39 : Int) ↦
  T (15 : Nat) [Value.int IntKind.i64 n39] σ30 fun (v40 : Value) (σ41 : AS) ↦
  tI IntKind.i64 v40 fun (n42 : Int) ↦
  bmatch (n42 == (90 : Int))
  (bmatch ((↑(Sl.n s33) : Int) == (0 : Int))
  (bmatch (!b36) (T (9 : Nat) [] σ41 fun (v43 : Value) (σ44 : AS) ↦ tB v43 fun (b45 : Bool) ↦ K (Value.bool b45) σ44)
  (K (Value.bool Bool.false) σ41))
  (K (Value.bool Bool.false) σ41))
  (K (Value.bool Bool.false) σ41)))))))) := by
  intros
  kernel_rfl

end Go.AI
