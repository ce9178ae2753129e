/- The conditions ahead of the calls of the program's functions, reckoned as far as they go (equations that the kernel checks); no condition. -/
import Derived.Test.YtfjbhgldbgamhaaTySoft
import Derived.Test.YtfjbhgldbgamhaaAISep
set_option maxRecDepth 1000000
set_option linter.unusedVariables false
namespace Go.AI
open Go.Proofs
theorem s34 : ∀ (T : Ct) (a : Option Addr) (m : Nat) (t k x b : Int) (σ : AS) (K : Value → AS → Prop),
  fw Proofs.Try.prog hintsS T (34 : Nat)
  [Value.slice a m (1 : Nat), Value.int IntKind.u32 t, Value.agg (Array.mk [Value.int IntKind.i64 k, Value.int IntKind.u32 x, Value.int IntKind.u32 b])] σ K =
  newAt σ (AObj.row RK.plain [Value.int IntKind.i64 k, Value.int IntKind.u32 x, Value.int IntKind.u32 b]) fun (i0 : Nat) (σ1 : AS) ↦
  newAt σ1 (AObj.row RK.plain [Value.int IntKind.i64 (0 : Int), Value.int IntKind.u32 (0 : Int), Value.int IntKind.u32 (0 : Int)]) fun (i2 : Nat) (σ3 : AS) ↦
  bmatch (t == (0 : Int))
  (lds σ3 (Addr.mk i0 (0 : Nat) Option.none) (3 : Nat) fun (l4 : List Value) ↦
  tCons l4 fun (v5 : Value) (l6 : List Value) ↦
  tI IntKind.i64 v5 fun (n7 : Int) ↦
  tCons l6 fun (v8 : Value) (l9 : List Value) ↦
  tI IntKind.u32 v8 fun (n10 : Int) ↦
  tCons l9 fun (v11 : Value) (l12 : List Value) ↦
  tI IntKind.u32 v11 fun (n13 : Int) ↦
  tNil l12
  (puts σ3 (Addr.mk i2 (0 : Nat) Option.none) [Value.int IntKind.i64 n7, Value.int IntKind.u32 n10, Value.int IntKind.u32 n13] fun (σ14 : AS) ↦
  lds σ14 (Addr.mk i2 (0 : Nat) Option.none) (3 : Nat) fun (l15 : List Value) ↦
  tCons l15 fun (v16 : Value) (l17 : List Value) ↦
  tI IntKind.i64 v16 fun (n18 : Int) ↦
  tCons l17 fun (v19 : Value) (l20 : List Value) ↦
  tI IntKind.u32 v19 fun (n21 : Int) ↦
  tCons l20 fun (v22 : Value) (l23 : List Value) ↦
  tI IntKind.u32 v22 fun (n24 : Int) ↦
  tNil l23
  (K
  (Value.tuple
  (Array.mk
  [Value.int IntKind.u32 (0 : Int), Value.agg (Array.mk [Value.int IntKind.i64 n18, Value.int IntKind.u32 n21, Value.int IntKind.u32 n24]),
  Value.int IntKind.i64 (120 : Int)]))
  σ14)))
  (ldc σ3 (Addr.mk i0 ((0 : Nat) + (2 : Nat)) Option.none) fun (v25 : Value) ↦
  tI IntKind.u32 v25 fun (n26 : Int) ↦
  bmatch (Decidable.decide (n26 > (7 : Int)))
  (lds σ3 (Addr.mk i0 (0 : Nat) Option.none) (3 : Nat) fun (l27 : List Value) ↦
  tCons l27 fun (v28 : Value) (l29 : List Value) ↦
  tI IntKind.i64 v28 fun (n30 : Int) ↦
  tCons l29 fun (v31 : Value) (l32 : List Value) ↦
  tI IntKind.u32 v31 fun (n33 : Int) ↦
  tCons l32 fun (v34 : Value) (l35 : List Value) ↦
  tI IntKind.u32 v34 fun (n36 : Int) ↦
  tNil l35
  (puts σ3 (Addr.mk i2 (0 : Nat) Option.none) [Value.int IntKind.i64 n30, Value.int IntKind.u32 n33, Value.int IntKind.u32 n36] fun (σ37 : AS) ↦
  lds σ37 (Addr.mk i2 (0 : Nat) Option.none) (3 : Nat) fun (l38 : List Value) ↦
  tCons l38 fun (v39 : Value) (l40 : List Value) ↦
  tI IntKind.i64 v39 fun (n41 : Int) ↦
  tCons l40 fun (v42 : Value) (l43 : List Value) ↦
  tI IntKind.u32 v42 fun (n44 : Int) ↦
  tCons l43 fun (v45 : Value) (l46 : List Value) ↦
  tI IntKind.u32 v45 fun (n47 : Int) ↦
  tNil l46
  (K
  (Value.tuple
  (Array.mk
  [Value.int IntKind.u32 (0 : Int), Value.agg (Array.mk [Value.int IntKind.i64 n41, Value.int IntKind.u32 n44, Value.int IntKind.u32 n47]),
  Value.int IntKind.i64 (120 : Int)]))
  σ37)))
  (T (33 : Nat) [Value.slice a m (1 : Nat), Value.int IntKind.u32 (IntKind.wrap IntKind.u32 (t + (8 : Int))), Value.int IntKind.i64 (4 : Int)] σ3
  fun (v48 : Value) (σ49 : AS) ↦
  tTup v48 fun (l50 : List Value) ↦
  pSome l50[(0 : Nat)]? fun (u51 : Value) ↦
  tI IntKind.u32 u51 fun (n52 : Int) ↦
  tTup v48 fun (l53 : List Value) ↦
  pSome l53[(1 : Nat)]? fun (u54 : Value) ↦
  tI IntKind.i64 u54 fun (n55 : Int) ↦
  ALoop (fl Proofs.Try.prog hintsS T (34 : Nat) [Bool.true, Bool.true, Bool.true, Bool.false, Bool.true, Bool.false] [] K)
  [((0 : Nat), Option.some (Value.slice a m (1 : Nat))), ((5 : Nat), Option.some (Value.pointer (Option.some (Addr.mk i0 (0 : Nat) Option.none)))),
  ((7 : Nat), Option.some (Value.pointer (Option.some (Addr.mk i2 (0 : Nat) Option.none)))), ((9 : Nat), Option.some (Value.int IntKind.u32 n52)),
  ((10 : Nat), Option.some (Value.int IntKind.i64 n55)), ((11 : Nat), Option.some (Value.int IntKind.i64 (0 : Int)))]
  σ49)) := by
  intros
  kernel_rfl

theorem s34l : ∀ (T : Ct) (a : Option Addr) (m c n7_1 : Nat) (node e k : Int) (X : Regs → AS → Prop) (σ : AS) (K : Value → AS → Prop),
  fl Proofs.Try.prog hintsS T (34 : Nat) [Bool.true, Bool.true, Bool.true, Bool.false, Bool.true, Bool.false] [] K X
  [((0 : Nat), Option.some (Value.slice a m (1 : Nat))), ((5 : Nat), Option.some (Value.pointer (Option.some (Addr.mk c (0 : Nat) Option.none)))),
  ((7 : Nat), Option.some (Value.pointer (Option.some (Addr.mk n7_1 (0 : Nat) Option.none)))), ((9 : Nat), Option.some (Value.int IntKind.u32 node)),
  ((10 : Nat), Option.some (Value.int IntKind.i64 e)), ((11 : Nat), Option.some (Value.int IntKind.i64 k))]
  σ =
  bmatch (e == (0 : Int))
  (T (33 : Nat) [Value.slice a m (1 : Nat), Value.int IntKind.u32 node, Value.int IntKind.i64 (1 : Int)] σ fun (v0 : Value) (σ1 : AS) ↦
  tTup v0 fun (l2 : List Value) ↦
  pSome l2[(0 : Nat)]? fun (u3 : Value) ↦
  tI IntKind.u32 u3 fun (n4 : Int) ↦
  tTup v0 fun (l5 : List Value) ↦
  pSome l5[(1 : Nat)]? fun (u6 : Value) ↦
  tI IntKind.i64 u6 fun (n7_2 : Int) ↦
  bmatch (n7_2 != (0 : Int))
  (lds σ1 (Addr.mk c (0 : Nat) Option.none) (3 : Nat) fun (l8 : List Value) ↦
  tCons l8 fun (v9 : Value) (l10 : List Value) ↦
  tI IntKind.i64 v9 fun (n11 : Int) ↦
  tCons l10 fun (v12 : Value) (l13 : List Value) ↦
  tI IntKind.u32 v12 fun (n14 : Int) ↦
  tCons l13 fun (v15 : Value) (l16 : List Value) ↦
  tI IntKind.u32 v15 fun (n17 : Int) ↦
  tNil l16
  (puts σ1 (Addr.mk n7_1 (0 : Nat) Option.none) [Value.int IntKind.i64 n11, Value.int IntKind.u32 n14, Value.int IntKind.u32 n17] fun (σ18 : AS) ↦
  lds σ18 (Addr.mk n7_1 (0 : Nat) Option.none) (3 : Nat) fun (l19 : List Value) ↦
  tCons l19 fun (v20 : Value) (l21 : List Value) ↦
  tI IntKind.i64 v20 fun (n22 : Int) ↦
  tCons l21 fun (v23 : Value) (l24 : List Value) ↦
  tI IntKind.u32 v23 fun (n25 : Int) ↦
  tCons l24 fun (v26 : Value) (l27 : List Value) ↦
  tI IntKind.u32 v26 fun (n28 : Int) ↦
  tNil l27
  (K
  (Value.tuple
  (Array.mk
  [Value.int IntKind.u32 node,
  Value.agg (Array.mk [Value.int IntKind.i64 n22, Value.int IntKind.u32 n25, Value.int IntKind.u32 n28]),
  Value.int IntKind.i64 n7_2]))
  σ18)))
  (bmatch (n4 != (0 : Int))
  (lds σ1 (Addr.mk c (0 : Nat) Option.none) (3 : Nat) fun (l29 : List Value) ↦
  tCons l29 fun (v30 : Value) (l31 : List Value) ↦
  tI IntKind.i64 v30 fun (n32 : Int) ↦
  tCons l31 fun (v33 : Value) (l34 : List Value) ↦
  tI IntKind.u32 v33 fun (n35 : Int) ↦
  tCons l34 fun (v36 : Value) (l37 : List Value) ↦
  tI IntKind.u32 v36 fun (n38 : Int) ↦
  tNil l37
  (puts σ1 (Addr.mk n7_1 (0 : Nat) Option.none) [Value.int IntKind.i64 n32, Value.int IntKind.u32 n35, Value.int IntKind.u32 n38] fun (σ39 : AS) ↦
  lds σ39 (Addr.mk n7_1 (0 : Nat) Option.none) (3 : Nat) fun (l40 : List Value) ↦
  tCons l40 fun (v41 : Value) (l42 : List Value) ↦
  tI IntKind.i64 v41 fun (n43 : Int) ↦
  tCons l42 fun (v44 : Value) (l45 : List Value) ↦
  tI IntKind.u32 v44 fun (n46 : Int) ↦
  tCons l45 fun (v47 : Value) (l48 : List Value) ↦
  tI IntKind.u32 v47 fun (n49 : Int) ↦
  tNil l48
  (K
  (Value.tuple
  (Array.mk
  [Value.int IntKind.u32 node,
  Value.agg (Array.mk [Value.int IntKind.i64 n43, Value.int IntKind.u32 n46, Value.int IntKind.u32 n49]),
  Value.int IntKind.i64 n7_2]))
  σ39)))
  (bmatch (k == (256 : Int))
  (lds σ1 (Addr.mk c (0 : Nat) Option.none) (3 : Nat) fun (l50 : List Value) ↦
  tCons l50 fun (v51 : Value) (l52 : List Value) ↦
  tI IntKind.i64 v51 fun (n53 : Int) ↦
  tCons l52 fun (v54 : Value) (l55 : List Value) ↦
  tI IntKind.u32 v54 fun (n56 : Int) ↦
  tCons l55 fun (v57 : Value) (l58 : List Value) ↦
  tI IntKind.u32 v57 fun (n59 : Int) ↦
  tNil l58
  (puts σ1 (Addr.mk n7_1 (0 : Nat) Option.none) [Value.int IntKind.i64 n53, Value.int IntKind.u32 n56, Value.int IntKind.u32 n59] fun (σ60 : AS) ↦
  lds σ60 (Addr.mk n7_1 (0 : Nat) Option.none) (3 : Nat) fun (l61 : List Value) ↦
  tCons l61 fun (v62 : Value) (l63 : List Value) ↦
  tI IntKind.i64 v62 fun (n64 : Int) ↦
  tCons l63 fun (v65 : Value) (l66 : List Value) ↦
  tI IntKind.u32 v65 fun (n67 : Int) ↦
  tCons l66 fun (v68 : Value) (l69 : List Value) ↦
  tI IntKind.u32 v68 fun (n70 : Int) ↦
  tNil l69
  (K
  (Value.tuple
  (Array.mk
  [Value.int IntKind.u32 (0 : Int),
  Value.agg (Array.mk [Value.int IntKind.i64 n64, Value.int IntKind.u32 n67, Value.int IntKind.u32 n70]),
  Value.int IntKind.i64 (120 : Int)]))
  σ60)))
  (ldc σ1 (Addr.mk c ((0 : Nat) + (1 : Nat)) Option.none) fun (v71 : Value) ↦
  tI IntKind.u32 v71 fun (n72 : Int) ↦
  T (33 : Nat) [Value.slice a m (1 : Nat), Value.int IntKind.u32 n72, Value.int IntKind.i64 (1 : Int)] σ1 fun (v73 : Value) (σ74 : AS) ↦
  tTup v73 fun (l75 : List Value) ↦
  pSome l75[(0 : Nat)]? fun (u76 : Value) ↦
  tI IntKind.u32 u76 fun (n77 : Int) ↦
  tTup v73 fun (l78 : List Value) ↦
  pSome l78[(1 : Nat)]? fun (u79 : Value) ↦
  tI IntKind.i64 u79 fun (n80 : Int) ↦
  bmatch (n80 != (0 : Int))
  (lds σ74 (Addr.mk c (0 : Nat) Option.none) (3 : Nat) fun (l81 : List Value) ↦
  tCons l81 fun (v82 : Value) (l83 : List Value) ↦
  tI IntKind.i64 v82 fun (n84 : Int) ↦
  tCons l83 fun (v85 : Value) (l86 : List Value) ↦
  tI IntKind.u32 v85 fun (n87 : Int) ↦
  tCons l86 fun (v88 : Value) (l89 : List Value) ↦
  tI IntKind.u32 v88 fun (n90 : Int) ↦
  tNil l89
  (puts σ74 (Addr.mk n7_1 (0 : Nat) Option.none) [Value.int IntKind.i64 n84, Value.int IntKind.u32 n87, Value.int IntKind.u32 n90]
  fun (σ91 : AS) ↦
  lds σ91 (Addr.mk n7_1 (0 : Nat) Option.none) (3 : Nat) fun (l92 : List Value) ↦
  tCons l92 fun (v93 : Value) (l94 : List Value) ↦
  tI IntKind.i64 v93 fun (n95 : Int) ↦
  tCons l94 fun (v96 : Value) (l97 : List Value) ↦
  tI IntKind.u32 v96 fun (n98 : Int) ↦
  tCons l97 fun (v99 : Value) (l100 : List Value) ↦
  tI IntKind.u32 v99 fun (n101 : Int) ↦
  tNil l100
  (K
  (Value.tuple
  (Array.mk
  [Value.int IntKind.u32 node,
  Value.agg (Array.mk [Value.int IntKind.i64 n95, Value.int IntKind.u32 n98, Value.int IntKind.u32 n101]),
  Value.int IntKind.i64 n80]))
  σ91)))
  (ldc σ74 (Addr.mk c ((0 : Nat) + (2 : Nat)) Option.none) fun (v102 : Value) ↦
  tI IntKind.u32 v102 fun (n103 : Int) ↦
  req ((0 : Int) ≤ n103)
  (T (33 : Nat)
  [Value.slice a m (1 : Nat),
  Value.int IntKind.u32
  (IntKind.wrap IntKind.u32
  (IntKind.wrap IntKind.u32 (node + (1 : Int)) +
  IntKind.wrap IntKind.u32 ((4 : Int) * iand IntKind.u32 (ishr IntKind.u32 n77 n103) (1 : Int)))),
  Value.int IntKind.i64 (4 : Int)]
  σ74 fun (v104 : Value) (σ105 : AS) ↦
  tTup v104 fun (l106 : List Value) ↦
  pSome l106[(0 : Nat)]? fun (u107 : Value) ↦
  tI IntKind.u32 u107 fun (n108 : Int) ↦
  tTup v104 fun (l109 : List Value) ↦
  pSome l109[(1 : Nat)]? fun (u110 : Value) ↦
  tI IntKind.i64 u110 fun (n111 : Int) ↦
  ldc σ105 (Addr.mk c ((0 : Nat) + (2 : Nat)) Option.none) fun (v112 : Value) ↦
  tI IntKind.u32 v112 fun (n113 : Int) ↦
  put1 σ105 (Addr.mk c ((0 : Nat) + (2 : Nat)) Option.none) (Value.int IntKind.u32 (IntKind.wrap IntKind.u32 (n113 + (1 : Int))))
  fun (σ114 : AS) ↦
  ldc σ114 (Addr.mk c ((0 : Nat) + (2 : Nat)) Option.none) fun (v115 : Value) ↦
  tI IntKind.u32 v115 fun (n116 : Int) ↦
  bmatch (n116 == (8 : Int))
  (put1 σ114 (Addr.mk c ((0 : Nat) + (2 : Nat)) Option.none) (Value.int IntKind.u32 (0 : Int)) fun (σ117 : AS) ↦
  ldc σ117 (Addr.mk c ((0 : Nat) + (1 : Nat)) Option.none) fun (v118 : Value) ↦
  tI IntKind.u32 v118 fun (n119 : Int) ↦
  put1 σ117 (Addr.mk c ((0 : Nat) + (1 : Nat)) Option.none)
  (Value.int IntKind.u32 (IntKind.wrap IntKind.u32 (n119 + (1 : Int)))) fun (σ120 : AS) ↦
  X
  [((0 : Nat), Option.some (Value.slice a m (1 : Nat))),
  ((5 : Nat), Option.some (Value.pointer (Option.some (Addr.mk c (0 : Nat) Option.none)))),
  ((7 : Nat), Option.some (Value.pointer (Option.some (Addr.mk n7_1 (0 : Nat) Option.none)))),
  ((9 : Nat), Option.some (Value.int IntKind.u32 n108)), ((10 : Nat), Option.some (Value.int IntKind.i64 n111)),
  ((11 : Nat), Option.some (Value.int IntKind.i64 (IntKind.wrap IntKind.i64 (k + (1 : Int)))))]
  σ120)
  (X
  [((0 : Nat), Option.some (Value.slice a m (1 : Nat))),
  ((5 : Nat), Option.some (Value.pointer (Option.some (Addr.mk c (0 : Nat) Option.none)))),
  ((7 : Nat), Option.some (Value.pointer (Option.some (Addr.mk n7_1 (0 : Nat) Option.none)))),
  ((9 : Nat), Option.some (Value.int IntKind.u32 n108)), ((10 : Nat), Option.some (Value.int IntKind.i64 n111)),
  ((11 : Nat), Option.some (Value.int IntKind.i64 (IntKind.wrap IntKind.i64 (k + (1 : Int)))))]
  σ114)))))))
  (lds σ (Addr.mk c (0 : Nat) Option.none) (3 : Nat) fun (l121 : List Value) ↦
  tCons l121 fun (v122 : Value) (l123 : List Value) ↦
  tI IntKind.i64 v122 fun (n124 : Int) ↦
  tCons l123 fun (v125 : Value) (l126 : List Value) ↦
  tI IntKind.u32 v125 fun (n127 : Int) ↦
  tCons l126 fun (v128 : Value) (l129 : List Value) ↦
  tI IntKind.u32 v128 fun (n130 : Int) ↦
  tNil l129
  (puts σ (Addr.mk n7_1 (0 : Nat) Option.none) [Value.int IntKind.i64 n124, Value.int IntKind.u32 n127, Value.int IntKind.u32 n130] fun (σ131 : AS) ↦
  lds σ131 (Addr.mk n7_1 (0 : Nat) Option.none) (3 : Nat) fun (l132 : List Value) ↦
  tCons l132 fun (v133 : Value) (l134 : List Value) ↦
  tI IntKind.i64 v133 fun (n135 : Int) ↦
  tCons l134 fun (v136 : Value) (l137 : List Value) ↦
  tI IntKind.u32 v136 fun (n138 : Int) ↦
  tCons l137 fun (v139 : Value) (l140 : List Value) ↦
  tI IntKind.u32 v139 fun (n141 : Int) ↦
  tNil l140
  (K
  (Value.tuple
  (Array.mk
  [Value.int IntKind.u32 node, Value.agg (Array.mk [Value.int IntKind.i64 n135, Value.int IntKind.u32 n138, Value.int IntKind.u32 n141]),
  Value.int IntKind.i64 e]))
  σ131))) := by
  intros
  kernel_rfl

theorem s43 : ∀ (T : Ct) (a : Option Addr) (m : Nat) (x n : Int) (σ : AS) (K : Value → AS → Prop),
  fw Proofs.Try.prog hintsS T (43 : Nat) [Value.slice a m (1 : Nat), Value.int IntKind.u32 x, Value.int IntKind.i64 n] σ K =
  newAt σ
  (AObj.row RK.plain [Value.int IntKind.i64 (0 : Int), Value.slice Option.none (0 : Nat) (0 : Nat), Value.int IntKind.u32 (0 : Int), Value.slice Option.none (0 : Nat) (0 : Nat)])
  fun (i0 : Nat) (σ1 : AS) ↦
  newAt σ1
  (AObj.row RK.plain [Value.int IntKind.i64 (0 : Int), Value.slice Option.none (0 : Nat) (0 : Nat), Value.int IntKind.u32 (0 : Int), Value.slice Option.none (0 : Nat) (0 : Nat)])
  fun (i2 : Nat) (σ3 : AS) ↦
  puts σ3 (Addr.mk i2 (0 : Nat) Option.none)
  [Value.int IntKind.i64 (2 : Int), Value.slice Option.none (0 : Nat) (0 : Nat), Value.int IntKind.u32 (0 : Int), Value.slice Option.none (0 : Nat) (0 : Nat)] fun (σ4 : AS) ↦
  ALoop (fl Proofs.Try.prog hintsS T (43 : Nat) [Bool.true, Bool.true, Bool.false] [] K)
  [((0 : Nat), Option.some (Value.slice a m (1 : Nat))), ((1 : Nat), Option.some (Value.int IntKind.u32 x)), ((2 : Nat), Option.some (Value.int IntKind.i64 n)),
  ((6 : Nat), Option.some (Value.pointer (Option.some (Addr.mk i0 (0 : Nat) Option.none)))), ((8 : Nat), Option.some (Value.pointer (Option.some (Addr.mk i2 (0 : Nat) Option.none))))]
  σ4 := by
  intros
  kernel_rfl

theorem s43l : ∀ (T : Ct) (a : Option Addr) (m p q : Nat) (x n : Int) (X : Regs → AS → Prop) (σ : AS) (K : Value → AS → Prop),
  fl Proofs.Try.prog hintsS T (43 : Nat) [Bool.true, Bool.true, Bool.false] [] K X
  [((0 : Nat), Option.some (Value.slice a m (1 : Nat))), ((1 : Nat), Option.some (Value.int IntKind.u32 x)), ((2 : Nat), Option.some (Value.int IntKind.i64 n)),
  ((6 : Nat), Option.some (Value.pointer (Option.some (Addr.mk q (0 : Nat) Option.none)))), ((8 : Nat), Option.some (Value.pointer (Option.some (Addr.mk p (0 : Nat) Option.none))))]
  σ =
  T (33 : Nat) [Value.slice a m (1 : Nat), Value.int IntKind.u32 x, Value.int IntKind.i64 n] σ fun (v0 : Value) (σ1 : AS) ↦
  tTup v0 fun (l2 : List Value) ↦
  pSome l2[(0 : Nat)]? fun (u3 : Value) ↦
  tI IntKind.u32 u3 fun (n4 : Int) ↦
  tTup v0 fun (l5 : List Value) ↦
  pSome l5[(1 : Nat)]? fun (u6 : Value) ↦
  tI IntKind.i64 u6 fun (n7 : Int) ↦
  bmatch (n7 != (0 : Int))
  (puts σ1 (Addr.mk q (0 : Nat) Option.none)
  [Value.int IntKind.i64 (0 : Int), Value.slice Option.none (0 : Nat) (0 : Nat), Value.int IntKind.u32 (0 : Int), Value.slice Option.none (0 : Nat) (0 : Nat)] fun (σ8 : AS) ↦
  lds σ8 (Addr.mk q (0 : Nat) Option.none) (4 : Nat) fun (l9 : List Value) ↦
  tCons l9 fun (v10 : Value) (l11 : List Value) ↦
  tI IntKind.i64 v10 fun (n12 : Int) ↦
  tCons l11 fun (v13 : Value) (l14 : List Value) ↦
  tL (1 : Nat) v13 fun (s15 : Sl) ↦
  tCons l14 fun (v16 : Value) (l17 : List Value) ↦
  tI IntKind.u32 v16 fun (n18 : Int) ↦
  tCons l17 fun (v19 : Value) (l20 : List Value) ↦
  tL (1 : Nat) v19 fun (s21 : Sl) ↦
  tNil l20
  (K
  (Value.tuple
  (Array.mk
  [Value.agg
  (Array.mk
  [Value.int IntKind.i64 n12, Value.slice (Sl.a s15) (Sl.n s15) (1 : Nat), Value.int IntKind.u32 n18,
  Value.slice (Sl.a s21) (Sl.n s21) (1 : Nat)]),
  Value.int IntKind.i64 n7]))
  σ8))
  (bmatch (n4 == (0 : Int))
  (lds σ1 (Addr.mk p (0 : Nat) Option.none) (4 : Nat) fun (l22 : List Value) ↦
  tCons l22 fun (v23 : Value) (l24 : List Value) ↦
  tI IntKind.i64 v23 fun (n25 : Int) ↦
  tCons l24 fun (v26 : Value) (l27 : List Value) ↦
  tL (1 : Nat) v26 fun (s28 : Sl) ↦
  tCons l27 fun (v29 : Value) (l30 : List Value) ↦
  tI IntKind.u32 v29 fun (n31 : Int) ↦
  tCons l30 fun (v32 : Value) (l33 : List Value) ↦
  tL (1 : Nat) v32 fun (s34 : Sl) ↦
  tNil l33
  (puts σ1 (Addr.mk q (0 : Nat) Option.none)
  [Value.int IntKind.i64 n25, Value.slice (Sl.a s28) (Sl.n s28) (1 : Nat), Value.int IntKind.u32 n31,
  Value.slice (Sl.a s34) (Sl.n s34) (1 : Nat)]
  fun (σ35 : AS) ↦
  lds σ35 (Addr.mk q (0 : Nat) Option.none) (4 : Nat) fun (l36 : List Value) ↦
  tCons l36 fun (v37 : Value) (l38 : List Value) ↦
  tI IntKind.i64 v37 fun (n39 : Int) ↦
  tCons l38 fun (v40 : Value) (l41 : List Value) ↦
  tL (1 : Nat) v40 fun (s42 : Sl) ↦
  tCons l41 fun (v43 : Value) (l44 : List Value) ↦
  tI IntKind.u32 v43 fun (n45 : Int) ↦
  tCons l44 fun (v46 : Value) (l47 : List Value) ↦
  tL (1 : Nat) v46 fun (s48 : Sl) ↦
  tNil l47
  (K
  (Value.tuple
  (Array.mk
  [Value.agg
  (Array.mk
  [Value.int IntKind.i64 n39, Value.slice (Sl.a s42) (Sl.n s42) (1 : Nat), Value.int IntKind.u32 n45,
  Value.slice (Sl.a s48) (Sl.n s48) (1 : Nat)]),
  Value.int IntKind.i64 (0 : Int)]))
  σ35)))
  (ldc σ1 (Addr.mk p ((0 : Nat) + (1 : Nat)) Option.none) fun (v49 : Value) ↦
  tL (1 : Nat) v49 fun (s50 : Sl) ↦
  newAt σ1 (AObj.row RK.rw [Value.int IntKind.u32 n4]) fun (i51 : Nat) (σ52 : AS) ↦
  lds σ52 (Addr.mk i51 (0 : Nat) Option.none) (1 : Nat) fun (l53 : List Value) ↦
  appendTo σ52 (1 : Nat) (4 : Nat) (Sl.mk (Sl.a s50) (Sl.n s50)) l53 (1 : Nat) fun (s54 : Sl) (σ55 : AS) ↦
  put1 σ55 (Addr.mk p ((0 : Nat) + (1 : Nat)) Option.none) (Value.slice (Sl.a s54) (Sl.n s54) (1 : Nat)) fun (σ56 : AS) ↦
  X
  [((0 : Nat), Option.some (Value.slice a m (1 : Nat))),
  ((1 : Nat), Option.some (Value.int IntKind.u32 (IntKind.wrap IntKind.u32 (x + IntKind.wrap IntKind.u32 n)))),
  ((2 : Nat), Option.some (Value.int IntKind.i64 n)), ((6 : Nat), Option.some (Value.pointer (Option.some (Addr.mk q (0 : Nat) Option.none)))),
  ((8 : Nat), Option.some (Value.pointer (Option.some (Addr.mk p (0 : Nat) Option.none))))]
  σ56)) := by
  intros
  kernel_rfl

theorem s35 : ∀ (T : Ct) (a : Option Addr) (m : Nat) (x : Int) (σ : AS) (K : Value → AS → Prop),
  fw Proofs.Try.prog hintsS T (35 : Nat) [Value.slice a m (1 : Nat), Value.int IntKind.u32 x] σ K =
  newAt σ
  (AObj.row RK.plain [Value.int IntKind.i64 (0 : Int), Value.slice Option.none (0 : Nat) (0 : Nat), Value.int IntKind.u32 (0 : Int), Value.slice Option.none (0 : Nat) (0 : Nat)])
  fun (i0 : Nat) (σ1 : AS) ↦
  T (33 : Nat) [Value.slice a m (1 : Nat), Value.int IntKind.u32 x, Value.int IntKind.i64 (1 : Int)] σ1 fun (v2 : Value) (σ3 : AS) ↦
  tTup v2 fun (l4 : List Value) ↦
  pSome l4[(0 : Nat)]? fun (u5 : Value) ↦
  tI IntKind.u32 u5 fun (n6 : Int) ↦
  tTup v2 fun (l7 : List Value) ↦
  pSome l7[(1 : Nat)]? fun (u8 : Value) ↦
  tI IntKind.i64 u8 fun (n9 : Int) ↦
  bmatch (n9 != (0 : Int))
  (puts σ3 (Addr.mk i0 (0 : Nat) Option.none)
  [Value.int IntKind.i64 (0 : Int), Value.slice Option.none (0 : Nat) (0 : Nat), Value.int IntKind.u32 (0 : Int), Value.slice Option.none (0 : Nat) (0 : Nat)]
  fun (σ10 : AS) ↦
  lds σ10 (Addr.mk i0 (0 : Nat) Option.none) (4 : Nat) fun (l11 : List Value) ↦
  tCons l11 fun (v12 : Value) (l13 : List Value) ↦
  tI IntKind.i64 v12 fun (n14 : Int) ↦
  tCons l13 fun (v15 : Value) (l16 : List Value) ↦
  tL (1 : Nat) v15 fun (s17 : Sl) ↦
  tCons l16 fun (v18 : Value) (l19 : List Value) ↦
  tI IntKind.u32 v18 fun (n20 : Int) ↦
  tCons l19 fun (v21 : Value) (l22 : List Value) ↦
  tL (1 : Nat) v21 fun (s23 : Sl) ↦
  tNil l22
  (K
  (Value.tuple
  (Array.mk
  [Value.agg
  (Array.mk
  [Value.int IntKind.i64 n14, Value.slice (Sl.a s17) (Sl.n s17) (1 : Nat), Value.int IntKind.u32 n20,
  Value.slice (Sl.a s23) (Sl.n s23) (1 : Nat)]),
  Value.int IntKind.i64 n9]))
  σ10))
  (bmatch (n6 == (1 : Int))
  (puts σ3 (Addr.mk i0 (0 : Nat) Option.none)
  [Value.int IntKind.i64 (1 : Int), Value.slice Option.none (0 : Nat) (0 : Nat), Value.int IntKind.u32 (0 : Int), Value.slice Option.none (0 : Nat) (0 : Nat)]
  fun (σ24 : AS) ↦
  lds σ24 (Addr.mk i0 (0 : Nat) Option.none) (4 : Nat) fun (l25 : List Value) ↦
  tCons l25 fun (v26 : Value) (l27 : List Value) ↦
  tI IntKind.i64 v26 fun (n28 : Int) ↦
  tCons l27 fun (v29 : Value) (l30 : List Value) ↦
  tL (1 : Nat) v29 fun (s31 : Sl) ↦
  tCons l30 fun (v32 : Value) (l33 : List Value) ↦
  tI IntKind.u32 v32 fun (n34 : Int) ↦
  tCons l33 fun (v35 : Value) (l36 : List Value) ↦
  tL (1 : Nat) v35 fun (s37 : Sl) ↦
  tNil l36
  (K
  (Value.tuple
  (Array.mk
  [Value.agg
  (Array.mk
  [Value.int IntKind.i64 n28, Value.slice (Sl.a s31) (Sl.n s31) (1 : Nat), Value.int IntKind.u32 n34,
  Value.slice (Sl.a s37) (Sl.n s37) (1 : Nat)]),
  Value.int IntKind.i64 (0 : Int)]))
  σ24))
  (bmatch (n6 == (2 : Int))
  (bmatch (n6 == (2 : Int))
  (bmatch (n6 == (4 : Int))
  (T (33 : Nat) [Value.slice a m (1 : Nat), Value.int IntKind.u32 (IntKind.wrap IntKind.u32 (x + (1 : Int))), Value.int IntKind.i64 (4 : Int)] σ3
  fun (v38 : Value) (σ39 : AS) ↦
  tTup v38 fun (l40 : List Value) ↦
  pSome l40[(0 : Nat)]? fun (u41 : Value) ↦
  tI IntKind.u32 u41 fun (n42 : Int) ↦
  tTup v38 fun (l43 : List Value) ↦
  pSome l43[(1 : Nat)]? fun (u44 : Value) ↦
  tI IntKind.i64 u44 fun (n45 : Int) ↦
  bmatch (n45 != (0 : Int))
  (puts σ39 (Addr.mk i0 (0 : Nat) Option.none)
  [Value.int IntKind.i64 (0 : Int), Value.slice Option.none (0 : Nat) (0 : Nat), Value.int IntKind.u32 (0 : Int),
  Value.slice Option.none (0 : Nat) (0 : Nat)]
  fun (σ46 : AS) ↦
  lds σ46 (Addr.mk i0 (0 : Nat) Option.none) (4 : Nat) fun (l47 : List Value) ↦
  tCons l47 fun (v48 : Value) (l49 : List Value) ↦
  tI IntKind.i64 v48 fun (n50 : Int) ↦
  tCons l49 fun (v51 : Value) (l52 : List Value) ↦
  tL (1 : Nat) v51 fun (s53 : Sl) ↦
  tCons l52 fun (v54 : Value) (l55 : List Value) ↦
  tI IntKind.u32 v54 fun (n56 : Int) ↦
  tCons l55 fun (v57 : Value) (l58 : List Value) ↦
  tL (1 : Nat) v57 fun (s59 : Sl) ↦
  tNil l58
  (K
  (Value.tuple
  (Array.mk
  [Value.agg
  (Array.mk
  [Value.int IntKind.i64 n50, Value.slice (Sl.a s53) (Sl.n s53) (1 : Nat), Value.int IntKind.u32 n56,
  Value.slice (Sl.a s59) (Sl.n s59) (1 : Nat)]),
  Value.int IntKind.i64 n45]))
  σ46))
  (newAt σ39 (AObj.row RK.rw [Value.int IntKind.u32 n42]) fun (i60 : Nat) (σ61 : AS) ↦
  puts σ61 (Addr.mk i0 (0 : Nat) Option.none)
  [Value.int IntKind.i64 (2 : Int), Value.slice (Option.some (Addr.mk i60 (0 : Nat) Option.none)) (1 : Nat) (1 : Nat), Value.int IntKind.u32 (0 : Int),
  Value.slice Option.none (0 : Nat) (0 : Nat)]
  fun (σ62 : AS) ↦
  lds σ62 (Addr.mk i0 (0 : Nat) Option.none) (4 : Nat) fun (l63 : List Value) ↦
  tCons l63 fun (v64 : Value) (l65 : List Value) ↦
  tI IntKind.i64 v64 fun (n66 : Int) ↦
  tCons l65 fun (v67 : Value) (l68 : List Value) ↦
  tL (1 : Nat) v67 fun (s69 : Sl) ↦
  tCons l68 fun (v70 : Value) (l71 : List Value) ↦
  tI IntKind.u32 v70 fun (n72 : Int) ↦
  tCons l71 fun (v73 : Value) (l74 : List Value) ↦
  tL (1 : Nat) v73 fun (s75 : Sl) ↦
  tNil l74
  (K
  (Value.tuple
  (Array.mk
  [Value.agg
  (Array.mk
  [Value.int IntKind.i64 n66, Value.slice (Sl.a s69) (Sl.n s69) (1 : Nat), Value.int IntKind.u32 n72,
  Value.slice (Sl.a s75) (Sl.n s75) (1 : Nat)]),
  Value.int IntKind.i64 (0 : Int)]))
  σ62)))
  (T (33 : Nat) [Value.slice a m (1 : Nat), Value.int IntKind.u32 (IntKind.wrap IntKind.u32 (x + (1 : Int))), Value.int IntKind.i64 (1 : Int)] σ3
  fun (v76 : Value) (σ77 : AS) ↦
  tTup v76 fun (l78 : List Value) ↦
  pSome l78[(0 : Nat)]? fun (u79 : Value) ↦
  tI IntKind.u32 u79 fun (n80 : Int) ↦
  tTup v76 fun (l81 : List Value) ↦
  pSome l81[(1 : Nat)]? fun (u82 : Value) ↦
  tI IntKind.i64 u82 fun (n83 : Int) ↦
  bmatch (n83 != (0 : Int))
  (puts σ77 (Addr.mk i0 (0 : Nat) Option.none)
  [Value.int IntKind.i64 (0 : Int), Value.slice Option.none (0 : Nat) (0 : Nat), Value.int IntKind.u32 (0 : Int),
  Value.slice Option.none (0 : Nat) (0 : Nat)]
  fun (σ84 : AS) ↦
  lds σ84 (Addr.mk i0 (0 : Nat) Option.none) (4 : Nat) fun (l85 : List Value) ↦
  tCons l85 fun (v86 : Value) (l87 : List Value) ↦
  tI IntKind.i64 v86 fun (n88 : Int) ↦
  tCons l87 fun (v89 : Value) (l90 : List Value) ↦
  tL (1 : Nat) v89 fun (s91 : Sl) ↦
  tCons l90 fun (v92 : Value) (l93 : List Value) ↦
  tI IntKind.u32 v92 fun (n94 : Int) ↦
  tCons l93 fun (v95 : Value) (l96 : List Value) ↦
  tL (1 : Nat) v95 fun (s97 : Sl) ↦
  tNil l96
  (K
  (Value.tuple
  (Array.mk
  [Value.agg
  (Array.mk
  [Value.int IntKind.i64 n88, Value.slice (Sl.a s91) (Sl.n s91) (1 : Nat), Value.int IntKind.u32 n94,
  Value.slice (Sl.a s97) (Sl.n s97) (1 : Nat)]),
  Value.int IntKind.i64 n83]))
  σ84))
  (newAt σ77 (AObj.row RK.rw [Value.int IntKind.u32 n80]) fun (i98 : Nat) (σ99 : AS) ↦
  puts σ99 (Addr.mk i0 (0 : Nat) Option.none)
  [Value.int IntKind.i64 (2 : Int), Value.slice (Option.some (Addr.mk i98 (0 : Nat) Option.none)) (1 : Nat) (1 : Nat), Value.int IntKind.u32 (0 : Int),
  Value.slice Option.none (0 : Nat) (0 : Nat)]
  fun (σ100 : AS) ↦
  lds σ100 (Addr.mk i0 (0 : Nat) Option.none) (4 : Nat) fun (l101 : List Value) ↦
  tCons l101 fun (v102 : Value) (l103 : List Value) ↦
  tI IntKind.i64 v102 fun (n104 : Int) ↦
  tCons l103 fun (v105 : Value) (l106 : List Value) ↦
  tL (1 : Nat) v105 fun (s107 : Sl) ↦
  tCons l106 fun (v108 : Value) (l109 : List Value) ↦
  tI IntKind.u32 v108 fun (n110 : Int) ↦
  tCons l109 fun (v111 : Value) (l112 : List Value) ↦
  tL (1 : Nat) v111 fun (s113 : Sl) ↦
  tNil l112
  (K
  (Value.tuple
  (Array.mk
  [Value.agg
  (Array.mk
  [Value.int IntKind.i64 n104, Value.slice (Sl.a s107) (Sl.n s107) (1 : Nat), Value.int IntKind.u32 n110,
  Value.slice (Sl.a s113) (Sl.n s113) (1 : Nat)]),
  Value.int IntKind.i64 (0 : Int)]))
  σ100))))
  (bmatch (n6 == (3 : Int))
  (T (43 : Nat) [Value.slice a m (1 : Nat), Value.int IntKind.u32 (IntKind.wrap IntKind.u32 (x + (1 : Int))), Value.int IntKind.i64 (1 : Int)] σ3
  fun (v114 : Value) (σ115 : AS) ↦
  tTup v114 fun (l116 : List Value) ↦
  pSome l116[(0 : Nat)]? fun (u117 : Value) ↦
  tAgg u117 fun (l118 : List Value) ↦
  tCons l118 fun (v119 : Value) (l120 : List Value) ↦
  tI IntKind.i64 v119 fun (n121 : Int) ↦
  tCons l120 fun (v122 : Value) (l123 : List Value) ↦
  tL (1 : Nat) v122 fun (s124 : Sl) ↦
  tCons l123 fun (v125 : Value) (l126 : List Value) ↦
  tI IntKind.u32 v125 fun (n127 : Int) ↦
  tCons l126 fun (v128 : Value) (l129 : List Value) ↦
  tL (1 : Nat) v128 fun (s130 : Sl) ↦
  tNil l129
  (tTup v114 fun (l131 : List Value) ↦
  pSome l131[(1 : Nat)]? fun (u132 : Value) ↦
  tI IntKind.i64 u132 fun (n133 : Int) ↦
  puts σ115 (Addr.mk i0 (0 : Nat) Option.none)
  [Value.int IntKind.i64 n121, Value.slice (Sl.a s124) (Sl.n s124) (1 : Nat), Value.int IntKind.u32 n127,
  Value.slice (Sl.a s130) (Sl.n s130) (1 : Nat)]
  fun (σ134 : AS) ↦
  lds σ134 (Addr.mk i0 (0 : Nat) Option.none) (4 : Nat) fun (l135 : List Value) ↦
  tCons l135 fun (v136 : Value) (l137 : List Value) ↦
  tI IntKind.i64 v136 fun (n138 : Int) ↦
  tCons l137 fun (v139 : Value) (l140 : List Value) ↦
  tL (1 : Nat) v139 fun (s141 : Sl) ↦
  tCons l140 fun (v142 : Value) (l143 : List Value) ↦
  tI IntKind.u32 v142 fun (n144 : Int) ↦
  tCons l143 fun (v145 : Value) (l146 : List Value) ↦
  tL (1 : Nat) v145 fun (s147 : Sl) ↦
  tNil l146
  (K
  (Value.tuple
  (Array.mk
  [Value.agg
  (Array.mk
  [Value.int IntKind.i64 n138, Value.slice (Sl.a s141) (Sl.n s141) (1 : Nat),
  Value.int IntKind.u32 n144, Value.slice (Sl.a s147) (Sl.n s147) (1 : Nat)]),
  Value.int IntKind.i64 n133]))
  σ134)))
  (bmatch (n6 == (5 : Int))
  (T (43 : Nat) [Value.slice a m (1 : Nat), Value.int IntKind.u32 (IntKind.wrap IntKind.u32 (x + (1 : Int))), Value.int IntKind.i64 (4 : Int)] σ3
  fun (v148 : Value) (σ149 : AS) ↦
  tTup v148 fun (l150 : List Value) ↦
  pSome l150[(0 : Nat)]? fun (u151 : Value) ↦
  tAgg u151 fun (l152 : List Value) ↦
  tCons l152 fun (v153 : Value) (l154 : List Value) ↦
  tI IntKind.i64 v153 fun (n155 : Int) ↦
  tCons l154 fun (v156 : Value) (l157 : List Value) ↦
  tL (1 : Nat) v156 fun (s158 : Sl) ↦
  tCons l157 fun (v159 : Value) (l160 : List Value) ↦
  tI IntKind.u32 v159 fun (n161 : Int) ↦
  tCons l160 fun (v162 : Value) (l163 : List Value) ↦
  tL (1 : Nat) v162 fun (s164 : Sl) ↦
  tNil l163
  (tTup v148 fun (l165 : List Value) ↦
  pSome l165[(1 : Nat)]? fun (u166 : Value) ↦
  tI IntKind.i64 u166 fun (n167 : Int) ↦
  puts σ149 (Addr.mk i0 (0 : Nat) Option.none)
  [Value.int IntKind.i64 n155, Value.slice (Sl.a s158) (Sl.n s158) (1 : Nat), Value.int IntKind.u32 n161,
  Value.slice (Sl.a s164) (Sl.n s164) (1 : Nat)]
  fun (σ168 : AS) ↦
  lds σ168 (Addr.mk i0 (0 : Nat) Option.none) (4 : Nat) fun (l169 : List Value) ↦
  tCons l169 fun (v170 : Value) (l171 : List Value) ↦
  tI IntKind.i64 v170 fun (n172 : Int) ↦
  tCons l171 fun (v173 : Value) (l174 : List Value) ↦
  tL (1 : Nat) v173 fun (s175 : Sl) ↦
  tCons l174 fun (v176 : Value) (l177 : List Value) ↦
  tI IntKind.u32 v176 fun (n178 : Int) ↦
  tCons l177 fun (v179 : Value) (l180 : List Value) ↦
  tL (1 : Nat) v179 fun (s181 : Sl) ↦
  tNil l180
  (K
  (Value.tuple
  (Array.mk
  [Value.agg
  (Array.mk
  [Value.int IntKind.i64 n172, Value.slice (Sl.a s175) (Sl.n s175) (1 : Nat),
  Value.int IntKind.u32 n178, Value.slice (Sl.a s181) (Sl.n s181) (1 : Nat)]),
  Value.int IntKind.i64 n167]))
  σ168)))
  (bmatch (n6 == (8 : Int))
  (bmatch (n6 == (8 : Int))
  (T (44 : Nat) [Value.slice a m (1 : Nat), Value.int IntKind.u32 x, Value.int IntKind.u32 n6] σ3 fun (v182 : Value) (σ183 : AS) ↦
  tTup v182 fun (l184 : List Value) ↦
  pSome l184[(0 : Nat)]? fun (u185 : Value) ↦
  tAgg u185 fun (l186 : List Value) ↦
  tCons l186 fun (v187 : Value) (l188 : List Value) ↦
  tI IntKind.i64 v187 fun (n189 : Int) ↦
  tCons l188 fun (v190 : Value) (l191 : List Value) ↦
  tL (1 : Nat) v190 fun (s192 : Sl) ↦
  tCons l191 fun (v193 : Value) (l194 : List Value) ↦
  tI IntKind.u32 v193 fun (n195 : Int) ↦
  tCons l194 fun (v196 : Value) (l197 : List Value) ↦
  tL (1 : Nat) v196 fun (s198 : Sl) ↦
  tNil l197
  (tTup v182 fun (l199 : List Value) ↦
  pSome l199[(1 : Nat)]? fun (u200 : Value) ↦
  tI IntKind.i64 u200 fun (n201 : Int) ↦
  puts σ183 (Addr.mk i0 (0 : Nat) Option.none)
  [Value.int IntKind.i64 n189, Value.slice (Sl.a s192) (Sl.n s192) (1 : Nat), Value.int IntKind.u32 n195,
  Value.slice (Sl.a s198) (Sl.n s198) (1 : Nat)]
  fun (σ202 : AS) ↦
  lds σ202 (Addr.mk i0 (0 : Nat) Option.none) (4 : Nat) fun (l203 : List Value) ↦
  tCons l203 fun (v204 : Value) (l205 : List Value) ↦
  tI IntKind.i64 v204 fun (n206 : Int) ↦
  tCons l205 fun (v207 : Value) (l208 : List Value) ↦
  tL (1 : Nat) v207 fun (s209 : Sl) ↦
  tCons l208 fun (v210 : Value) (l211 : List Value) ↦
  tI IntKind.u32 v210 fun (n212 : Int) ↦
  tCons l211 fun (v213 : Value) (l214 : List Value) ↦
  tL (1 : Nat) v213 fun (s215 : Sl) ↦
  tNil l214
  (K
  (Value.tuple
  (Array.mk
  [Value.agg
  (Array.mk
  [Value.int IntKind.i64 n206, Value.slice (Sl.a s209) (Sl.n s209) (1 : Nat),
  Value.int IntKind.u32 n212, Value.slice (Sl.a s215) (Sl.n s215) (1 : Nat)]),
  Value.int IntKind.i64 n201]))
  σ202)))
  (puts σ3 (Addr.mk i0 (0 : Nat) Option.none)
  [Value.int IntKind.i64 (0 : Int), Value.slice Option.none (0 : Nat) (0 : Nat), Value.int IntKind.u32 (0 : Int), Value.slice Option.none (0 : Nat) (0 : Nat)]
  fun (σ216 : AS) ↦
  lds σ216 (Addr.mk i0 (0 : Nat) Option.none) (4 : Nat) fun (l217 : List Value) ↦
  tCons l217 fun (v218 : Value) (l219 : List Value) ↦
  tI IntKind.i64 v218 fun (n220 : Int) ↦
  tCons l219 fun (v221 : Value) (l222 : List Value) ↦
  tL (1 : Nat) v221 fun (s223 : Sl) ↦
  tCons l222 fun (v224 : Value) (l225 : List Value) ↦
  tI IntKind.u32 v224 fun (n226 : Int) ↦
  tCons l225 fun (v227 : Value) (l228 : List Value) ↦
  tL (1 : Nat) v227 fun (s229 : Sl) ↦
  tNil l228
  (K
  (Value.tuple
  (Array.mk
  [Value.agg
  (Array.mk
  [Value.int IntKind.i64 n220, Value.slice (Sl.a s223) (Sl.n s223) (1 : Nat), Value.int IntKind.u32 n226,
  Value.slice (Sl.a s229) (Sl.n s229) (1 : Nat)]),
  Value.int IntKind.i64 (120 : Int)]))
  σ216)))
  (bmatch (n6 == (9 : Int))
  (bmatch (n6 == (9 : Int))
  (T (44 : Nat) [Value.slice a m (1 : Nat), Value.int IntKind.u32 x, Value.int IntKind.u32 n6] σ3 fun (v230 : Value) (σ231 : AS) ↦
  tTup v230 fun (l232 : List Value) ↦
  pSome l232[(0 : Nat)]? fun (u233 : Value) ↦
  tAgg u233 fun (l234 : List Value) ↦
  tCons l234 fun (v235 : Value) (l236 : List Value) ↦
  tI IntKind.i64 v235 fun (n237 : Int) ↦
  tCons l236 fun (v238 : Value) (l239 : List Value) ↦
  tL (1 : Nat) v238 fun (s240 : Sl) ↦
  tCons l239 fun (v241 : Value) (l242 : List Value) ↦
  tI IntKind.u32 v241 fun (n243 : Int) ↦
  tCons l242 fun (v244 : Value) (l245 : List Value) ↦
  tL (1 : Nat) v244 fun (s246 : Sl) ↦
  tNil l245
  (tTup v230 fun (l247 : List Value) ↦
  pSome l247[(1 : Nat)]? fun (u248 : Value) ↦
  tI IntKind.i64 u248 fun (n249 : Int) ↦
  puts σ231 (Addr.mk i0 (0 : Nat) Option.none)
  [Value.int IntKind.i64 n237, Value.slice (Sl.a s240) (Sl.n s240) (1 : Nat), Value.int IntKind.u32 n243,
  Value.slice (Sl.a s246) (Sl.n s246) (1 : Nat)]
  fun (σ250 : AS) ↦
  lds σ250 (Addr.mk i0 (0 : Nat) Option.none) (4 : Nat) fun (l251 : List Value) ↦
  tCons l251 fun (v252 : Value) (l253 : List Value) ↦
  tI IntKind.i64 v252 fun (n254 : Int) ↦
  tCons l253 fun (v255 : Value) (l256 : List Value) ↦
  tL (1 : Nat) v255 fun (s257 : Sl) ↦
  tCons l256 fun (v258 : Value) (l259 : List Value) ↦
  tI IntKind.u32 v258 fun (n260 : Int) ↦
  tCons l259 fun (v261 : Value) (l262 : List Value) ↦
  tL (1 : Nat) v261 fun (s263 : Sl) ↦
  tNil l262
  (K
  (Value.tuple
  (Array.mk
  [Value.agg
  (Array.mk
  [Value.int IntKind.i64 n254, Value.slice (Sl.a s257) (Sl.n s257) (1 : Nat),
  Value.int IntKind.u32 n260, Value.slice (Sl.a s263) (Sl.n s263) (1 : Nat)]),
  Value.int IntKind.i64 n249]))
  σ250)))
  (puts σ3 (Addr.mk i0 (0 : Nat) Option.none)
  [Value.int IntKind.i64 (0 : Int), Value.slice Option.none (0 : Nat) (0 : Nat), Value.int IntKind.u32 (0 : Int), Value.slice Option.none (0 : Nat) (0 : Nat)]
  fun (σ264 : AS) ↦
  lds σ264 (Addr.mk i0 (0 : Nat) Option.none) (4 : Nat) fun (l265 : List Value) ↦
  tCons l265 fun (v266 : Value) (l267 : List Value) ↦
  tI IntKind.i64 v266 fun (n268 : Int) ↦
  tCons l267 fun (v269 : Value) (l270 : List Value) ↦
  tL (1 : Nat) v269 fun (s271 : Sl) ↦
  tCons l270 fun (v272 : Value) (l273 : List Value) ↦
  tI IntKind.u32 v272 fun (n274 : Int) ↦
  tCons l273 fun (v275 : Value) (l276 : List Value) ↦
  tL (1 : Nat) v275 fun (s277 : Sl) ↦
  tNil l276
  (K
  (Value.tuple
  (Array.mk
  [Value.agg
  (Array.mk
  [Value.int IntKind.i64 n268, Value.slice (Sl.a s271) (Sl.n s271) (1 : Nat), Value.int IntKind.u32 n274,
  Value.slice (Sl.a s277) (Sl.n s277) (1 : Nat)]),
  Value.int IntKind.i64 (120 : Int)]))
  σ264)))
  (bmatch (n6 == (10 : Int))
  (bmatch (n6 == (10 : Int))
  (T (44 : Nat) [Value.slice a m (1 : Nat), Value.int IntKind.u32 x, Value.int IntKind.u32 n6] σ3 fun (v278 : Value) (σ279 : AS) ↦
  tTup v278 fun (l280 : List Value) ↦
  pSome l280[(0 : Nat)]? fun (u281 : Value) ↦
  tAgg u281 fun (l282 : List Value) ↦
  tCons l282 fun (v283 : Value) (l284 : List Value) ↦
  tI IntKind.i64 v283 fun (n285 : Int) ↦
  tCons l284 fun (v286 : Value) (l287 : List Value) ↦
  tL (1 : Nat) v286 fun (s288 : Sl) ↦
  tCons l287 fun (v289 : Value) (l290 : List Value) ↦
  tI IntKind.u32 v289 fun (n291 : Int) ↦
  tCons l290 fun (v292 : Value) (l293 : List Value) ↦
  tL (1 : Nat) v292 fun (s294 : Sl) ↦
  tNil l293
  (tTup v278 fun (l295 : List Value) ↦
  pSome l295[(1 : Nat)]? fun (u296 : Value) ↦
  tI IntKind.i64 u296 fun (n297 : Int) ↦
  puts σ279 (Addr.mk i0 (0 : Nat) Option.none)
  [Value.int IntKind.i64 n285, Value.slice (Sl.a s288) (Sl.n s288) (1 : Nat), Value.int IntKind.u32 n291,
  Value.slice (Sl.a s294) (Sl.n s294) (1 : Nat)]
  fun (σ298 : AS) ↦
  lds σ298 (Addr.mk i0 (0 : Nat) Option.none) (4 : Nat) fun (l299 : List Value) ↦
  tCons l299 fun (v300 : Value) (l301 : List Value) ↦
  tI IntKind.i64 v300 fun (n302 : Int) ↦
  tCons l301 fun (v303 : Value) (l304 : List Value) ↦
  tL (1 : Nat) v303 fun (s305 : Sl) ↦
  tCons l304 fun (v306 : Value) (l307 : List Value) ↦
  tI IntKind.u32 v306 fun (n308 : Int) ↦
  tCons l307 fun (v309 : Value) (l310 : List Value) ↦
  tL (1 : Nat) v309 fun (s311 : Sl) ↦
  tNil l310
  (K
  (Value.tuple
  (Array.mk
  [Value.agg
  (Array.mk
  [Value.int IntKind.i64 n302, Value.slice (Sl.a s305) (Sl.n s305) (1 : Nat),
  Value.int IntKind.u32 n308, Value.slice (Sl.a s311) (Sl.n s311) (1 : Nat)]),
  Value.int IntKind.i64 n297]))
  σ298)))
  (puts σ3 (Addr.mk i0 (0 : Nat) Option.none)
  [Value.int IntKind.i64 (0 : Int), Value.slice Option.none (0 : Nat) (0 : Nat), Value.int IntKind.u32 (0 : Int), Value.slice Option.none (0 : Nat) (0 : Nat)]
  fun (σ312 : AS) ↦
  lds σ312 (Addr.mk i0 (0 : Nat) Option.none) (4 : Nat) fun (l313 : List Value) ↦
  tCons l313 fun (v314 : Value) (l315 : List Value) ↦
  tI IntKind.i64 v314 fun (n316 : Int) ↦
  tCons l315 fun (v317 : Value) (l318 : List Value) ↦
  tL (1 : Nat) v317 fun (s319 : Sl) ↦
  tCons l318 fun (v320 : Value) (l321 : List Value) ↦
  tI IntKind.u32 v320 fun (n322 : Int) ↦
  tCons l321 fun (v323 : Value) (l324 : List Value) ↦
  tL (1 : Nat) v323 fun (s325 : Sl) ↦
  tNil l324
  (K
  (Value.tuple
  (Array.mk
  [Value.agg
  (Array.mk
  [Value.int IntKind.i64 n316, Value.slice (Sl.a s319) (Sl.n s319) (1 : Nat), Value.int IntKind.u32 n322,
  Value.slice (Sl.a s325) (Sl.n s325) (1 : Nat)]),
  Value.int IntKind.i64 (120 : Int)]))
  σ312)))
  (bmatch (n6 == (11 : Int))
  (T (44 : Nat) [Value.slice a m (1 : Nat), Value.int IntKind.u32 x, Value.int IntKind.u32 n6] σ3 fun (v326 : Value) (σ327 : AS) ↦
  tTup v326 fun (l328 : List Value) ↦
  pSome l328[(0 : Nat)]? fun (u329 : Value) ↦
  tAgg u329 fun (l330 : List Value) ↦
  tCons l330 fun (v331 : Value) (l332 : List Value) ↦
  tI IntKind.i64 v331 fun (n333 : Int) ↦
  tCons l332 fun (v334 : Value) (l335 : List Value) ↦
  tL (1 : Nat) v334 fun (s336 : Sl) ↦
  tCons l335 fun (v337 : Value) (l338 : List Value) ↦
  tI IntKind.u32 v337 fun (n339 : Int) ↦
  tCons l338 fun (v340 : Value) (l341 : List Value) ↦
  tL (1 : Nat) v340 fun (s342 : Sl) ↦
  tNil l341
  (tTup v326 fun (l343 : List Value) ↦
  pSome l343[(1 : Nat)]? fun (u344 : Value) ↦
  tI IntKind.i64 u344 fun (n345 : Int) ↦
  puts σ327 (Addr.mk i0 (0 : Nat) Option.none)
  [Value.int IntKind.i64 n333, Value.slice (Sl.a s336) (Sl.n s336) (1 : Nat), Value.int IntKind.u32 n339,
  Value.slice (Sl.a s342) (Sl.n s342) (1 : Nat)]
  fun (σ346 : AS) ↦
  lds σ346 (Addr.mk i0 (0 : Nat) Option.none) (4 : Nat) fun (l347 : List Value) ↦
  tCons l347 fun (v348 : Value) (l349 : List Value) ↦
  tI IntKind.i64 v348 fun (n350 : Int) ↦
  tCons l349 fun (v351 : Value) (l352 : List Value) ↦
  tL (1 : Nat) v351 fun (s353 : Sl) ↦
  tCons l352 fun (v354 : Value) (l355 : List Value) ↦
  tI IntKind.u32 v354 fun (n356 : Int) ↦
  tCons l355 fun (v357 : Value) (l358 : List Value) ↦
  tL (1 : Nat) v357 fun (s359 : Sl) ↦
  tNil l358
  (K
  (Value.tuple
  (Array.mk
  [Value.agg
  (Array.mk
  [Value.int IntKind.i64 n350, Value.slice (Sl.a s353) (Sl.n s353) (1 : Nat),
  Value.int IntKind.u32 n356, Value.slice (Sl.a s359) (Sl.n s359) (1 : Nat)]),
  Value.int IntKind.i64 n345]))
  σ346)))
  (puts σ3 (Addr.mk i0 (0 : Nat) Option.none)
  [Value.int IntKind.i64 (0 : Int), Value.slice Option.none (0 : Nat) (0 : Nat), Value.int IntKind.u32 (0 : Int), Value.slice Option.none (0 : Nat) (0 : Nat)]
  fun (σ360 : AS) ↦
  lds σ360 (Addr.mk i0 (0 : Nat) Option.none) (4 : Nat) fun (l361 : List Value) ↦
  tCons l361 fun (v362 : Value) (l363 : List Value) ↦
  tI IntKind.i64 v362 fun (n364 : Int) ↦
  tCons l363 fun (v365 : Value) (l366 : List Value) ↦
  tL (1 : Nat) v365 fun (s367 : Sl) ↦
  tCons l366 fun (v368 : Value) (l369 : List Value) ↦
  tI IntKind.u32 v368 fun (n370 : Int) ↦
  tCons l369 fun (v371 : Value) (l372 : List Value) ↦
  tL (1 : Nat) v371 fun (s373 : Sl) ↦
  tNil l372
  (K
  (Value.tuple
  (Array.mk
  [Value.agg
  (Array.mk
  [Value.int IntKind.i64 n364, Value.slice (Sl.a s367) (Sl.n s367) (1 : Nat), Value.int IntKind.u32 n370,
  Value.slice (Sl.a s373) (Sl.n s373) (1 : Nat)]),
  Value.int IntKind.i64 (120 : Int)]))
  σ360)))))))))
  (bmatch (n6 == (4 : Int))
  (bmatch (n6 == (4 : Int))
  (T (33 : Nat) [Value.slice a m (1 : Nat), Value.int IntKind.u32 (IntKind.wrap IntKind.u32 (x + (1 : Int))), Value.int IntKind.i64 (4 : Int)] σ3
  fun (v374 : Value) (σ375 : AS) ↦
  tTup v374 fun (l376 : List Value) ↦
  pSome l376[(0 : Nat)]? fun (u377 : Value) ↦
  tI IntKind.u32 u377 fun (n378 : Int) ↦
  tTup v374 fun (l379 : List Value) ↦
  pSome l379[(1 : Nat)]? fun (u380 : Value) ↦
  tI IntKind.i64 u380 fun (n381 : Int) ↦
  bmatch (n381 != (0 : Int))
  (puts σ375 (Addr.mk i0 (0 : Nat) Option.none)
  [Value.int IntKind.i64 (0 : Int), Value.slice Option.none (0 : Nat) (0 : Nat), Value.int IntKind.u32 (0 : Int),
  Value.slice Option.none (0 : Nat) (0 : Nat)]
  fun (σ382 : AS) ↦
  lds σ382 (Addr.mk i0 (0 : Nat) Option.none) (4 : Nat) fun (l383 : List Value) ↦
  tCons l383 fun (v384 : Value) (l385 : List Value) ↦
  tI IntKind.i64 v384 fun (n386 : Int) ↦
  tCons l385 fun (v387 : Value) (l388 : List Value) ↦
  tL (1 : Nat) v387 fun (s389 : Sl) ↦
  tCons l388 fun (v390 : Value) (l391 : List Value) ↦
  tI IntKind.u32 v390 fun (n392 : Int) ↦
  tCons l391 fun (v393 : Value) (l394 : List Value) ↦
  tL (1 : Nat) v393 fun (s395 : Sl) ↦
  tNil l394
  (K
  (Value.tuple
  (Array.mk
  [Value.agg
  (Array.mk
  [Value.int IntKind.i64 n386, Value.slice (Sl.a s389) (Sl.n s389) (1 : Nat), Value.int IntKind.u32 n392,
  Value.slice (Sl.a s395) (Sl.n s395) (1 : Nat)]),
  Value.int IntKind.i64 n381]))
  σ382))
  (newAt σ375 (AObj.row RK.rw [Value.int IntKind.u32 n378]) fun (i396 : Nat) (σ397 : AS) ↦
  puts σ397 (Addr.mk i0 (0 : Nat) Option.none)
  [Value.int IntKind.i64 (2 : Int), Value.slice (Option.some (Addr.mk i396 (0 : Nat) Option.none)) (1 : Nat) (1 : Nat), Value.int IntKind.u32 (0 : Int),
  Value.slice Option.none (0 : Nat) (0 : Nat)]
  fun (σ398 : AS) ↦
  lds σ398 (Addr.mk i0 (0 : Nat) Option.none) (4 : Nat) fun (l399 : List Value) ↦
  tCons l399 fun (v400 : Value) (l401 : List Value) ↦
  tI IntKind.i64 v400 fun (n402 : Int) ↦
  tCons l401 fun (v403 : Value) (l404 : List Value) ↦
  tL (1 : Nat) v403 fun (s405 : Sl) ↦
  tCons l404 fun (v406 : Value) (l407 : List Value) ↦
  tI IntKind.u32 v406 fun (n408 : Int) ↦
  tCons l407 fun (v409 : Value) (l410 : List Value) ↦
  tL (1 : Nat) v409 fun (s411 : Sl) ↦
  tNil l410
  (K
  (Value.tuple
  (Array.mk
  [Value.agg
  (Array.mk
  [Value.int IntKind.i64 n402, Value.slice (Sl.a s405) (Sl.n s405) (1 : Nat), Value.int IntKind.u32 n408,
  Value.slice (Sl.a s411) (Sl.n s411) (1 : Nat)]),
  Value.int IntKind.i64 (0 : Int)]))
  σ398)))
  (T (33 : Nat) [Value.slice a m (1 : Nat), Value.int IntKind.u32 (IntKind.wrap IntKind.u32 (x + (1 : Int))), Value.int IntKind.i64 (1 : Int)] σ3
  fun (v412 : Value) (σ413 : AS) ↦
  tTup v412 fun (l414 : List Value) ↦
  pSome l414[(0 : Nat)]? fun (u415 : Value) ↦
  tI IntKind.u32 u415 fun (n416 : Int) ↦
  tTup v412 fun (l417 : List Value) ↦
  pSome l417[(1 : Nat)]? fun (u418 : Value) ↦
  tI IntKind.i64 u418 fun (n419 : Int) ↦
  bmatch (n419 != (0 : Int))
  (puts σ413 (Addr.mk i0 (0 : Nat) Option.none)
  [Value.int IntKind.i64 (0 : Int), Value.slice Option.none (0 : Nat) (0 : Nat), Value.int IntKind.u32 (0 : Int),
  Value.slice Option.none (0 : Nat) (0 : Nat)]
  fun (σ420 : AS) ↦
  lds σ420 (Addr.mk i0 (0 : Nat) Option.none) (4 : Nat) fun (l421 : List Value) ↦
  tCons l421 fun (v422 : Value) (l423 : List Value) ↦
  tI IntKind.i64 v422 fun (n424 : Int) ↦
  tCons l423 fun (v425 : Value) (l426 : List Value) ↦
  tL (1 : Nat) v425 fun (s427 : Sl) ↦
  tCons l426 fun (v428 : Value) (l429 : List Value) ↦
  tI IntKind.u32 v428 fun (n430 : Int) ↦
  tCons l429 fun (v431 : Value) (l432 : List Value) ↦
  tL (1 : Nat) v431 fun (s433 : Sl) ↦
  tNil l432
  (K
  (Value.tuple
  (Array.mk
  [Value.agg
  (Array.mk
  [Value.int IntKind.i64 n424, Value.slice (Sl.a s427) (Sl.n s427) (1 : Nat), Value.int IntKind.u32 n430,
  Value.slice (Sl.a s433) (Sl.n s433) (1 : Nat)]),
  Value.int IntKind.i64 n419]))
  σ420))
  (newAt σ413 (AObj.row RK.rw [Value.int IntKind.u32 n416]) fun (i434 : Nat) (σ435 : AS) ↦
  puts σ435 (Addr.mk i0 (0 : Nat) Option.none)
  [Value.int IntKind.i64 (2 : Int), Value.slice (Option.some (Addr.mk i434 (0 : Nat) Option.none)) (1 : Nat) (1 : Nat), Value.int IntKind.u32 (0 : Int),
  Value.slice Option.none (0 : Nat) (0 : Nat)]
  fun (σ436 : AS) ↦
  lds σ436 (Addr.mk i0 (0 : Nat) Option.none) (4 : Nat) fun (l437 : List Value) ↦
  tCons l437 fun (v438 : Value) (l439 : List Value) ↦
  tI IntKind.i64 v438 fun (n440 : Int) ↦
  tCons l439 fun (v441 : Value) (l442 : List Value) ↦
  tL (1 : Nat) v441 fun (s443 : Sl) ↦
  tCons l442 fun (v444 : Value) (l445 : List Value) ↦
  tI IntKind.u32 v444 fun (n446 : Int) ↦
  tCons l445 fun (v447 : Value) (l448 : List Value) ↦
  tL (1 : Nat) v447 fun (s449 : Sl) ↦
  tNil l448
  (K
  (Value.tuple
  (Array.mk
  [Value.agg
  (Array.mk
  [Value.int IntKind.i64 n440, Value.slice (Sl.a s443) (Sl.n s443) (1 : Nat), Value.int IntKind.u32 n446,
  Value.slice (Sl.a s449) (Sl.n s449) (1 : Nat)]),
  Value.int IntKind.i64 (0 : Int)]))
  σ436))))
  (bmatch (n6 == (3 : Int))
  (T (43 : Nat) [Value.slice a m (1 : Nat), Value.int IntKind.u32 (IntKind.wrap IntKind.u32 (x + (1 : Int))), Value.int IntKind.i64 (1 : Int)] σ3
  fun (v450 : Value) (σ451 : AS) ↦
  tTup v450 fun (l452 : List Value) ↦
  pSome l452[(0 : Nat)]? fun (u453 : Value) ↦
  tAgg u453 fun (l454 : List Value) ↦
  tCons l454 fun (v455 : Value) (l456 : List Value) ↦
  tI IntKind.i64 v455 fun (n457 : Int) ↦
  tCons l456 fun (v458 : Value) (l459 : List Value) ↦
  tL (1 : Nat) v458 fun (s460 : Sl) ↦
  tCons l459 fun (v461 : Value) (l462 : List Value) ↦
  tI IntKind.u32 v461 fun (n463 : Int) ↦
  tCons l462 fun (v464 : Value) (l465 : List Value) ↦
  tL (1 : Nat) v464 fun (s466 : Sl) ↦
  tNil l465
  (tTup v450 fun (l467 : List Value) ↦
  pSome l467[(1 : Nat)]? fun (u468 : Value) ↦
  tI IntKind.i64 u468 fun (n469 : Int) ↦
  puts σ451 (Addr.mk i0 (0 : Nat) Option.none)
  [Value.int IntKind.i64 n457, Value.slice (Sl.a s460) (Sl.n s460) (1 : Nat), Value.int IntKind.u32 n463,
  Value.slice (Sl.a s466) (Sl.n s466) (1 : Nat)]
  fun (σ470 : AS) ↦
  lds σ470 (Addr.mk i0 (0 : Nat) Option.none) (4 : Nat) fun (l471 : List Value) ↦
  tCons l471 fun (v472 : Value) (l473 : List Value) ↦
  tI IntKind.i64 v472 fun (n474 : Int) ↦
  tCons l473 fun (v475 : Value) (l476 : List Value) ↦
  tL (1 : Nat) v475 fun (s477 : Sl) ↦
  tCons l476 fun (v478 : Value) (l479 : List Value) ↦
  tI IntKind.u32 v478 fun (n480 : Int) ↦
  tCons l479 fun (v481 : Value) (l482 : List Value) ↦
  tL (1 : Nat) v481 fun (s483 : Sl) ↦
  tNil l482
  (K
  (Value.tuple
  (Array.mk
  [Value.agg
  (Array.mk
  [Value.int IntKind.i64 n474, Value.slice (Sl.a s477) (Sl.n s477) (1 : Nat),
  Value.int IntKind.u32 n480, Value.slice (Sl.a s483) (Sl.n s483) (1 : Nat)]),
  Value.int IntKind.i64 n469]))
  σ470)))
  (bmatch (n6 == (5 : Int))
  (T (43 : Nat) [Value.slice a m (1 : Nat), Value.int IntKind.u32 (IntKind.wrap IntKind.u32 (x + (1 : Int))), Value.int IntKind.i64 (4 : Int)] σ3
  fun (v484 : Value) (σ485 : AS) ↦
  tTup v484 fun (l486 : List Value) ↦
  pSome l486[(0 : Nat)]? fun (u487 : Value) ↦
  tAgg u487 fun (l488 : List Value) ↦
  tCons l488 fun (v489 : Value) (l490 : List Value) ↦
  tI IntKind.i64 v489 fun (n491 : Int) ↦
  tCons l490 fun (v492 : Value) (l493 : List Value) ↦
  tL (1 : Nat) v492 fun (s494 : Sl) ↦
  tCons l493 fun (v495 : Value) (l496 : List Value) ↦
  tI IntKind.u32 v495 fun (n497 : Int) ↦
  tCons l496 fun (v498 : Value) (l499 : List Value) ↦
  tL (1 : Nat) v498 fun (s500 : Sl) ↦
  tNil l499
  (tTup v484 fun (l501 : List Value) ↦
  pSome l501[(1 : Nat)]? fun (u502 : Value) ↦
  tI IntKind.i64 u502 fun (n503 : Int) ↦
  puts σ485 (Addr.mk i0 (0 : Nat) Option.none)
  [Value.int IntKind.i64 n491, Value.slice (Sl.a s494) (Sl.n s494) (1 : Nat), Value.int IntKind.u32 n497,
  Value.slice (Sl.a s500) (Sl.n s500) (1 : Nat)]
  fun (σ504 : AS) ↦
  lds σ504 (Addr.mk i0 (0 : Nat) Option.none) (4 : Nat) fun (l505 : List Value) ↦
  tCons l505 fun (v506 : Value) (l507 : List Value) ↦
  tI IntKind.i64 v506 fun (n508 : Int) ↦
  tCons l507 fun (v509 : Value) (l510 : List Value) ↦
  tL (1 : Nat) v509 fun (s511 : Sl) ↦
  tCons l510 fun (v512 : Value) (l513 : List Value) ↦
  tI IntKind.u32 v512 fun (n514 : Int) ↦
  tCons l513 fun (v515 : Value) (l516 : List Value) ↦
  tL (1 : Nat) v515 fun (s517 : Sl) ↦
  tNil l516
  (K
  (Value.tuple
  (Array.mk
  [Value.agg
  (Array.mk
  [Value.int IntKind.i64 n508, Value.slice (Sl.a s511) (Sl.n s511) (1 : Nat),
  Value.int IntKind.u32 n514, Value.slice (Sl.a s517) (Sl.n s517) (1 : Nat)]),
  Value.int IntKind.i64 n503]))
  σ504)))
  (bmatch (n6 == (8 : Int))
  (bmatch (n6 == (8 : Int))
  (T (44 : Nat) [Value.slice a m (1 : Nat), Value.int IntKind.u32 x, Value.int IntKind.u32 n6] σ3 fun (v518 : Value) (σ519 : AS) ↦
  tTup v518 fun (l520 : List Value) ↦
  pSome l520[(0 : Nat)]? fun (u521 : Value) ↦
  tAgg u521 fun (l522 : List Value) ↦
  tCons l522 fun (v523 : Value) (l524 : List Value) ↦
  tI IntKind.i64 v523 fun (n525 : Int) ↦
  tCons l524 fun (v526 : Value) (l527 : List Value) ↦
  tL (1 : Nat) v526 fun (s528 : Sl) ↦
  tCons l527 fun (v529 : Value) (l530 : List Value) ↦
  tI IntKind.u32 v529 fun (n531 : Int) ↦
  tCons l530 fun (v532 : Value) (l533 : List Value) ↦
  tL (1 : Nat) v532 fun (s534 : Sl) ↦
  tNil l533
  (tTup v518 fun (l535 : List Value) ↦
  pSome l535[(1 : Nat)]? fun (u536 : Value) ↦
  tI IntKind.i64 u536 fun (n537 : Int) ↦
  puts σ519 (Addr.mk i0 (0 : Nat) Option.none)
  [Value.int IntKind.i64 n525, Value.slice (Sl.a s528) (Sl.n s528) (1 : Nat), Value.int IntKind.u32 n531,
  Value.slice (Sl.a s534) (Sl.n s534) (1 : Nat)]
  fun (σ538 : AS) ↦
  lds σ538 (Addr.mk i0 (0 : Nat) Option.none) (4 : Nat) fun (l539 : List Value) ↦
  tCons l539 fun (v540 : Value) (l541 : List Value) ↦
  tI IntKind.i64 v540 fun (n542 : Int) ↦
  tCons l541 fun (v543 : Value) (l544 : List Value) ↦
  tL (1 : Nat) v543 fun (s545 : Sl) ↦
  tCons l544 fun (v546 : Value) (l547 : List Value) ↦
  tI IntKind.u32 v546 fun (n548 : Int) ↦
  tCons l547 fun (v549 : Value) (l550 : List Value) ↦
  tL (1 : Nat) v549 fun (s551 : Sl) ↦
  tNil l550
  (K
  (Value.tuple
  (Array.mk
  [Value.agg
  (Array.mk
  [Value.int IntKind.i64 n542, Value.slice (Sl.a s545) (Sl.n s545) (1 : Nat),
  Value.int IntKind.u32 n548, Value.slice (Sl.a s551) (Sl.n s551) (1 : Nat)]),
  Value.int IntKind.i64 n537]))
  σ538)))
  (puts σ3 (Addr.mk i0 (0 : Nat) Option.none)
  [Value.int IntKind.i64 (0 : Int), Value.slice Option.none (0 : Nat) (0 : Nat), Value.int IntKind.u32 (0 : Int), Value.slice Option.none (0 : Nat) (0 : Nat)]
  fun (σ552 : AS) ↦
  lds σ552 (Addr.mk i0 (0 : Nat) Option.none) (4 : Nat) fun (l553 : List Value) ↦
  tCons l553 fun (v554 : Value) (l555 : List Value) ↦
  tI IntKind.i64 v554 fun (n556 : Int) ↦
  tCons l555 fun (v557 : Value) (l558 : List Value) ↦
  tL (1 : Nat) v557 fun (s559 : Sl) ↦
  tCons l558 fun (v560 : Value) (l561 : List Value) ↦
  tI IntKind.u32 v560 fun (n562 : Int) ↦
  tCons l561 fun (v563 : Value) (l564 : List Value) ↦
  tL (1 : Nat) v563 fun (s565 : Sl) ↦
  tNil l564
  (K
  (Value.tuple
  (Array.mk
  [Value.agg
  (Array.mk
  [Value.int IntKind.i64 n556, Value.slice (Sl.a s559) (Sl.n s559) (1 : Nat), Value.int IntKind.u32 n562,
  Value.slice (Sl.a s565) (Sl.n s565) (1 : Nat)]),
  Value.int IntKind.i64 (120 : Int)]))
  σ552)))
  (bmatch (n6 == (9 : Int))
  (bmatch (n6 == (9 : Int))
  (T (44 : Nat) [Value.slice a m (1 : Nat), Value.int IntKind.u32 x, Value.int IntKind.u32 n6] σ3 fun (v566 : Value) (σ567 : AS) ↦
  tTup v566 fun (l568 : List Value) ↦
  pSome l568[(0 : Nat)]? fun (u569 : Value) ↦
  tAgg u569 fun (l570 : List Value) ↦
  tCons l570 fun (v571 : Value) (l572 : List Value) ↦
  tI IntKind.i64 v571 fun (n573 : Int) ↦
  tCons l572 fun (v574 : Value) (l575 : List Value) ↦
  tL (1 : Nat) v574 fun (s576 : Sl) ↦
  tCons l575 fun (v577 : Value) (l578 : List Value) ↦
  tI IntKind.u32 v577 fun (n579 : Int) ↦
  tCons l578 fun (v580 : Value) (l581 : List Value) ↦
  tL (1 : Nat) v580 fun (s582 : Sl) ↦
  tNil l581
  (tTup v566 fun (l583 : List Value) ↦
  pSome l583[(1 : Nat)]? fun (u584 : Value) ↦
  tI IntKind.i64 u584 fun (n585 : Int) ↦
  puts σ567 (Addr.mk i0 (0 : Nat) Option.none)
  [Value.int IntKind.i64 n573, Value.slice (Sl.a s576) (Sl.n s576) (1 : Nat), Value.int IntKind.u32 n579,
  Value.slice (Sl.a s582) (Sl.n s582) (1 : Nat)]
  fun (σ586 : AS) ↦
  lds σ586 (Addr.mk i0 (0 : Nat) Option.none) (4 : Nat) fun (l587 : List Value) ↦
  tCons l587 fun (v588 : Value) (l589 : List Value) ↦
  tI IntKind.i64 v588 fun (n590 : Int) ↦
  tCons l589 fun (v591 : Value) (l592 : List Value) ↦
  tL (1 : Nat) v591 fun (s593 : Sl) ↦
  tCons l592 fun (v594 : Value) (l595 : List Value) ↦
  tI IntKind.u32 v594 fun (n596 : Int) ↦
  tCons l595 fun (v597 : Value) (l598 : List Value) ↦
  tL (1 : Nat) v597 fun (s599 : Sl) ↦
  tNil l598
  (K
  (Value.tuple
  (Array.mk
  [Value.agg
  (Array.mk
  [Value.int IntKind.i64 n590, Value.slice (Sl.a s593) (Sl.n s593) (1 : Nat),
  Value.int IntKind.u32 n596, Value.slice (Sl.a s599) (Sl.n s599) (1 : Nat)]),
  Value.int IntKind.i64 n585]))
  σ586)))
  (puts σ3 (Addr.mk i0 (0 : Nat) Option.none)
  [Value.int IntKind.i64 (0 : Int), Value.slice Option.none (0 : Nat) (0 : Nat), Value.int IntKind.u32 (0 : Int), Value.slice Option.none (0 : Nat) (0 : Nat)]
  fun (σ600 : AS) ↦
  lds σ600 (Addr.mk i0 (0 : Nat) Option.none) (4 : Nat) fun (l601 : List Value) ↦
  tCons l601 fun (v602 : Value) (l603 : List Value) ↦
  tI IntKind.i64 v602 fun (n604 : Int) ↦
  tCons l603 fun (v605 : Value) (l606 : List Value) ↦
  tL (1 : Nat) v605 fun (s607 : Sl) ↦
  tCons l606 fun (v608 : Value) (l609 : List Value) ↦
  tI IntKind.u32 v608 fun (n610 : Int) ↦
  tCons l609 fun (v611 : Value) (l612 : List Value) ↦
  tL (1 : Nat) v611 fun (s613 : Sl) ↦
  tNil l612
  (K
  (Value.tuple
  (Array.mk
  [Value.agg
  (Array.mk
  [Value.int IntKind.i64 n604, Value.slice (Sl.a s607) (Sl.n s607) (1 : Nat), Value.int IntKind.u32 n610,
  Value.slice (Sl.a s613) (Sl.n s613) (1 : Nat)]),
  Value.int IntKind.i64 (120 : Int)]))
  σ600)))
  (bmatch (n6 == (10 : Int))
  (bmatch (n6 == (10 : Int))
  (T (44 : Nat) [Value.slice a m (1 : Nat), Value.int IntKind.u32 x, Value.int IntKind.u32 n6] σ3 fun (v614 : Value) (σ615 : AS) ↦
  tTup v614 fun (l616 : List Value) ↦
  pSome l616[(0 : Nat)]? fun (u617 : Value) ↦
  tAgg u617 fun (l618 : List Value) ↦
  tCons l618 fun (v619 : Value) (l620 : List Value) ↦
  tI IntKind.i64 v619 fun (n621 : Int) ↦
  tCons l620 fun (v622 : Value) (l623 : List Value) ↦
  tL (1 : Nat) v622 fun (s624 : Sl) ↦
  tCons l623 fun (v625 : Value) (l626 : List Value) ↦
  tI IntKind.u32 v625 fun (n627 : Int) ↦
  tCons l626 fun (v628 : Value) (l629 : List Value) ↦
  tL (1 : Nat) v628 fun (s630 : Sl) ↦
  tNil l629
  (tTup v614 fun (l631 : List Value) ↦
  pSome l631[(1 : Nat)]? fun (u632 : Value) ↦
  tI IntKind.i64 u632 fun (n633 : Int) ↦
  puts σ615 (Addr.mk i0 (0 : Nat) Option.none)
  [Value.int IntKind.i64 n621, Value.slice (Sl.a s624) (Sl.n s624) (1 : Nat), Value.int IntKind.u32 n627,
  Value.slice (Sl.a s630) (Sl.n s630) (1 : Nat)]
  fun (σ634 : AS) ↦
  lds σ634 (Addr.mk i0 (0 : Nat) Option.none) (4 : Nat) fun (l635 : List Value) ↦
  tCons l635 fun (v636 : Value) (l637 : List Value) ↦
  tI IntKind.i64 v636 fun (n638 : Int) ↦
  tCons l637 fun (v639 : Value) (l640 : List Value) ↦
  tL (1 : Nat) v639 fun (s641 : Sl) ↦
  tCons l640 fun (v642 : Value) (l643 : List Value) ↦
  tI IntKind.u32 v642 fun (n644 : Int) ↦
  tCons l643 fun (v645 : Value) (l646 : List Value) ↦
  tL (1 : Nat) v645 fun (s647 : Sl) ↦
  tNil l646
  (K
  (Value.tuple
  (Array.mk
  [Value.agg
  (Array.mk
  [Value.int IntKind.i64 n638, Value.slice (Sl.a s641) (Sl.n s641) (1 : Nat),
  Value.int IntKind.u32 n644, Value.slice (Sl.a s647) (Sl.n s647) (1 : Nat)]),
  Value.int IntKind.i64 n633]))
  σ634)))
  (puts σ3 (Addr.mk i0 (0 : Nat) Option.none)
  [Value.int IntKind.i64 (0 : Int), Value.slice Option.none (0 : Nat) (0 : Nat), Value.int IntKind.u32 (0 : Int), Value.slice Option.none (0 : Nat) (0 : Nat)]
  fun (σ648 : AS) ↦
  lds σ648 (Addr.mk i0 (0 : Nat) Option.none) (4 : Nat) fun (l649 : List Value) ↦
  tCons l649 fun (v650 : Value) (l651 : List Value) ↦
  tI IntKind.i64 v650 fun (n652 : Int) ↦
  tCons l651 fun (v653 : Value) (l654 : List Value) ↦
  tL (1 : Nat) v653 fun (s655 : Sl) ↦
  tCons l654 fun (v656 : Value) (l657 : List Value) ↦
  tI IntKind.u32 v656 fun (n658 : Int) ↦
  tCons l657 fun (v659 : Value) (l660 : List Value) ↦
  tL (1 : Nat) v659 fun (s661 : Sl) ↦
  tNil l660
  (K
  (Value.tuple
  (Array.mk
  [Value.agg
  (Array.mk
  [Value.int IntKind.i64 n652, Value.slice (Sl.a s655) (Sl.n s655) (1 : Nat), Value.int IntKind.u32 n658,
  Value.slice (Sl.a s661) (Sl.n s661) (1 : Nat)]),
  Value.int IntKind.i64 (120 : Int)]))
  σ648)))
  (bmatch (n6 == (11 : Int))
  (T (44 : Nat) [Value.slice a m (1 : Nat), Value.int IntKind.u32 x, Value.int IntKind.u32 n6] σ3 fun (v662 : Value) (σ663 : AS) ↦
  tTup v662 fun (l664 : List Value) ↦
  pSome l664[(0 : Nat)]? fun (u665 : Value) ↦
  tAgg u665 fun (l666 : List Value) ↦
  tCons l666 fun (v667 : Value) (l668 : List Value) ↦
  tI IntKind.i64 v667 fun (n669 : Int) ↦
  tCons l668 fun (v670 : Value) (l671 : List Value) ↦
  tL (1 : Nat) v670 fun (s672 : Sl) ↦
  tCons l671 fun (v673 : Value) (l674 : List Value) ↦
  tI IntKind.u32 v673 fun (n675 : Int) ↦
  tCons l674 fun (v676 : Value) (l677 : List Value) ↦
  tL (1 : Nat) v676 fun (s678 : Sl) ↦
  tNil l677
  (tTup v662 fun (l679 : List Value) ↦
  pSome l679[(1 : Nat)]? fun (u680 : Value) ↦
  tI IntKind.i64 u680 fun (n681 : Int) ↦
  puts σ663 (Addr.mk i0 (0 : Nat) Option.none)
  [Value.int IntKind.i64 n669, Value.slice (Sl.a s672) (Sl.n s672) (1 : Nat), Value.int IntKind.u32 n675,
  Value.slice (Sl.a s678) (Sl.n s678) (1 : Nat)]
  fun (σ682 : AS) ↦
  lds σ682 (Addr.mk i0 (0 : Nat) Option.none) (4 : Nat) fun (l683 : List Value) ↦
  tCons l683 fun (v684 : Value) (l685 : List Value) ↦
  tI IntKind.i64 v684 fun (n686 : Int) ↦
  tCons l685 fun (v687 : Value) (l688 : List Value) ↦
  tL (1 : Nat) v687 fun (s689 : Sl) ↦
  tCons l688 fun (v690 : Value) (l691 : List Value) ↦
  tI IntKind.u32 v690 fun (n692 : Int) ↦
  tCons l691 fun (v693 : Value) (l694 : List Value) ↦
  tL (1 : Nat) v693 fun (s695 : Sl) ↦
  tNil l694
  (K
  (Value.tuple
  (Array.mk
  [Value.agg
  (Array.mk
  [Value.int IntKind.i64 n686, Value.slice (Sl.a s689) (Sl.n s689) (1 : Nat),
  Value.int IntKind.u32 n692, Value.slice (Sl.a s695) (Sl.n s695) (1 : Nat)]),
  Value.int IntKind.i64 n681]))
  σ682)))
  (puts σ3 (Addr.mk i0 (0 : Nat) Option.none)
  [Value.int IntKind.i64 (0 : Int), Value.slice Option.none (0 : Nat) (0 : Nat), Value.int IntKind.u32 (0 : Int), Value.slice Option.none (0 : Nat) (0 : Nat)]
  fun (σ696 : AS) ↦
  lds σ696 (Addr.mk i0 (0 : Nat) Option.none) (4 : Nat) fun (l697 : List Value) ↦
  tCons l697 fun (v698 : Value) (l699 : List Value) ↦
  tI IntKind.i64 v698 fun (n700 : Int) ↦
  tCons l699 fun (v701 : Value) (l702 : List Value) ↦
  tL (1 : Nat) v701 fun (s703 : Sl) ↦
  tCons l702 fun (v704 : Value) (l705 : List Value) ↦
  tI IntKind.u32 v704 fun (n706 : Int) ↦
  tCons l705 fun (v707 : Value) (l708 : List Value) ↦
  tL (1 : Nat) v707 fun (s709 : Sl) ↦
  tNil l708
  (K
  (Value.tuple
  (Array.mk
  [Value.agg
  (Array.mk
  [Value.int IntKind.i64 n700, Value.slice (Sl.a s703) (Sl.n s703) (1 : Nat), Value.int IntKind.u32 n706,
  Value.slice (Sl.a s709) (Sl.n s709) (1 : Nat)]),
  Value.int IntKind.i64 (120 : Int)]))
  σ696))))))))))) := by
  intros
  kernel_rfl

theorem s44 : ∀ (T : Ct) (a : Option Addr) (m : Nat) (x k : Int) (σ : AS) (K : Value → AS → Prop),
  fw Proofs.Try.prog hintsS T (44 : Nat) [Value.slice a m (1 : Nat), Value.int IntKind.u32 x, Value.int IntKind.u32 k] σ K =
  newAt σ
  (AObj.row RK.plain [Value.int IntKind.i64 (0 : Int), Value.slice Option.none (0 : Nat) (0 : Nat), Value.int IntKind.u32 (0 : Int), Value.slice Option.none (0 : Nat) (0 : Nat)])
  fun (i0 : Nat) (σ1 : AS) ↦
  T (33 : Nat) [Value.slice a m (1 : Nat), Value.int IntKind.u32 (IntKind.wrap IntKind.u32 (x + (1 : Int))), Value.int IntKind.i64 (4 : Int)] σ1 fun (v2 : Value) (σ3 : AS) ↦
  tTup v2 fun (l4 : List Value) ↦
  pSome l4[(0 : Nat)]? fun (u5 : Value) ↦
  tI IntKind.u32 u5 fun (n6 : Int) ↦
  tTup v2 fun (l7 : List Value) ↦
  pSome l7[(1 : Nat)]? fun (u8 : Value) ↦
  tI IntKind.i64 u8 fun (n9 : Int) ↦
  bmatch (n9 == (0 : Int))
  (bmatch (Int.tmod k (2 : Int) == (1 : Int))
  (T (33 : Nat) [Value.slice a m (1 : Nat), Value.int IntKind.u32 n6, Value.int IntKind.i64 (4 : Int)] σ3 fun (v10 : Value) (σ11 : AS) ↦
  tTup v10 fun (l12 : List Value) ↦
  pSome l12[(0 : Nat)]? fun (u13 : Value) ↦
  tI IntKind.u32 u13 fun (n14 : Int) ↦
  tTup v10 fun (l15 : List Value) ↦
  pSome l15[(1 : Nat)]? fun (u16 : Value) ↦
  tI IntKind.i64 u16 fun (n17 : Int) ↦
  bmatch (n17 != (0 : Int))
  (puts σ11 (Addr.mk i0 (0 : Nat) Option.none)
  [Value.int IntKind.i64 (0 : Int), Value.slice Option.none (0 : Nat) (0 : Nat), Value.int IntKind.u32 (0 : Int), Value.slice Option.none (0 : Nat) (0 : Nat)]
  fun (σ18 : AS) ↦
  lds σ18 (Addr.mk i0 (0 : Nat) Option.none) (4 : Nat) fun (l19 : List Value) ↦
  tCons l19 fun (v20 : Value) (l21 : List Value) ↦
  tI IntKind.i64 v20 fun (n22 : Int) ↦
  tCons l21 fun (v23 : Value) (l24 : List Value) ↦
  tL (1 : Nat) v23 fun (s25 : Sl) ↦
  tCons l24 fun (v26 : Value) (l27 : List Value) ↦
  tI IntKind.u32 v26 fun (n28 : Int) ↦
  tCons l27 fun (v29 : Value) (l30 : List Value) ↦
  tL (1 : Nat) v29 fun (s31 : Sl) ↦
  tNil l30
  (K
  (Value.tuple
  (Array.mk
  [Value.agg
  (Array.mk
  [Value.int IntKind.i64 n22, Value.slice (Sl.a s25) (Sl.n s25) (1 : Nat), Value.int IntKind.u32 n28,
  Value.slice (Sl.a s31) (Sl.n s31) (1 : Nat)]),
  Value.int IntKind.i64 n17]))
  σ18))
  (newAt σ11
  (AObj.row RK.plain
  [Value.int IntKind.i64 (0 : Int), Value.slice Option.none (0 : Nat) (0 : Nat), Value.int IntKind.u32 (0 : Int), Value.slice Option.none (0 : Nat) (0 : Nat)])
  fun (i32 : Nat) (σ33 : AS) ↦
  puts σ33 (Addr.mk i32 (0 : Nat) Option.none)
  [Value.int IntKind.i64 (3 : Int), Value.slice Option.none (0 : Nat) (0 : Nat), Value.int IntKind.u32 n14, Value.slice Option.none (0 : Nat) (0 : Nat)]
  fun (σ34 : AS) ↦
  bmatch (Decidable.decide (k < (10 : Int)))
  (lds σ34 (Addr.mk i32 (0 : Nat) Option.none) (4 : Nat) fun (l35 : List Value) ↦
  tCons l35 fun (v36 : Value) (l37 : List Value) ↦
  tI IntKind.i64 v36 fun (n38 : Int) ↦
  tCons l37 fun (v39 : Value) (l40 : List Value) ↦
  tL (1 : Nat) v39 fun (s41 : Sl) ↦
  tCons l40 fun (v42 : Value) (l43 : List Value) ↦
  tI IntKind.u32 v42 fun (n44 : Int) ↦
  tCons l43 fun (v45 : Value) (l46 : List Value) ↦
  tL (1 : Nat) v45 fun (s47 : Sl) ↦
  tNil l46
  (puts σ34 (Addr.mk i0 (0 : Nat) Option.none)
  [Value.int IntKind.i64 n38, Value.slice (Sl.a s41) (Sl.n s41) (1 : Nat), Value.int IntKind.u32 n44,
  Value.slice (Sl.a s47) (Sl.n s47) (1 : Nat)]
  fun (σ48 : AS) ↦
  lds σ48 (Addr.mk i0 (0 : Nat) Option.none) (4 : Nat) fun (l49 : List Value) ↦
  tCons l49 fun (v50 : Value) (l51 : List Value) ↦
  tI IntKind.i64 v50 fun (n52 : Int) ↦
  tCons l51 fun (v53 : Value) (l54 : List Value) ↦
  tL (1 : Nat) v53 fun (s55 : Sl) ↦
  tCons l54 fun (v56 : Value) (l57 : List Value) ↦
  tI IntKind.u32 v56 fun (n58 : Int) ↦
  tCons l57 fun (v59 : Value) (l60 : List Value) ↦
  tL (1 : Nat) v59 fun (s61 : Sl) ↦
  tNil l60
  (K
  (Value.tuple
  (Array.mk
  [Value.agg
  (Array.mk
  [Value.int IntKind.i64 n52, Value.slice (Sl.a s55) (Sl.n s55) (1 : Nat),
  Value.int IntKind.u32 n58, Value.slice (Sl.a s61) (Sl.n s61) (1 : Nat)]),
  Value.int IntKind.i64 (0 : Int)]))
  σ48)))
  (T (33 : Nat) [Value.slice a m (1 : Nat), Value.int IntKind.u32 (IntKind.wrap IntKind.u32 (x + (5 : Int))), Value.int IntKind.i64 (4 : Int)] σ34
  fun (v62 : Value) (σ63 : AS) ↦
  tTup v62 fun (l64 : List Value) ↦
  pSome l64[(0 : Nat)]? fun (u65 : Value) ↦
  tI IntKind.u32 u65 fun (n66 : Int) ↦
  tTup v62 fun (l67 : List Value) ↦
  pSome l67[(1 : Nat)]? fun (u68 : Value) ↦
  tI IntKind.i64 u68 fun (n69 : Int) ↦
  ALoop
  (fl Proofs.Try.prog hintsS T (44 : Nat)
  [Bool.true, Bool.true, Bool.true, Bool.true, Bool.true, Bool.true, Bool.true, Bool.false, Bool.true, Bool.false] [] K)
  [((0 : Nat), Option.some (Value.slice a m (1 : Nat))), ((1 : Nat), Option.some (Value.int IntKind.u32 x)),
  ((6 : Nat), Option.some (Value.pointer (Option.some (Addr.mk i0 (0 : Nat) Option.none)))), ((9 : Nat), Option.some (Value.int IntKind.i64 n69)),
  ((10 : Nat), Option.some (Value.pointer (Option.some (Addr.mk i32 (0 : Nat) Option.none)))),
  ((11 : Nat), Option.some (Value.int IntKind.u32 n66)), ((12 : Nat), Option.some (Value.int IntKind.u32 (0 : Int)))]
  σ63)))
  (bmatch (n9 != (0 : Int))
  (puts σ3 (Addr.mk i0 (0 : Nat) Option.none)
  [Value.int IntKind.i64 (0 : Int), Value.slice Option.none (0 : Nat) (0 : Nat), Value.int IntKind.u32 (0 : Int), Value.slice Option.none (0 : Nat) (0 : Nat)]
  fun (σ70 : AS) ↦
  lds σ70 (Addr.mk i0 (0 : Nat) Option.none) (4 : Nat) fun (l71 : List Value) ↦
  tCons l71 fun (v72 : Value) (l73 : List Value) ↦
  tI IntKind.i64 v72 fun (n74 : Int) ↦
  tCons l73 fun (v75 : Value) (l76 : List Value) ↦
  tL (1 : Nat) v75 fun (s77 : Sl) ↦
  tCons l76 fun (v78 : Value) (l79 : List Value) ↦
  tI IntKind.u32 v78 fun (n80 : Int) ↦
  tCons l79 fun (v81 : Value) (l82 : List Value) ↦
  tL (1 : Nat) v81 fun (s83 : Sl) ↦
  tNil l82
  (K
  (Value.tuple
  (Array.mk
  [Value.agg
  (Array.mk
  [Value.int IntKind.i64 n74, Value.slice (Sl.a s77) (Sl.n s77) (1 : Nat), Value.int IntKind.u32 n80,
  Value.slice (Sl.a s83) (Sl.n s83) (1 : Nat)]),
  Value.int IntKind.i64 n9]))
  σ70))
  (newAt σ3
  (AObj.row RK.plain
  [Value.int IntKind.i64 (0 : Int), Value.slice Option.none (0 : Nat) (0 : Nat), Value.int IntKind.u32 (0 : Int), Value.slice Option.none (0 : Nat) (0 : Nat)])
  fun (i84 : Nat) (σ85 : AS) ↦
  puts σ85 (Addr.mk i84 (0 : Nat) Option.none)
  [Value.int IntKind.i64 (3 : Int), Value.slice Option.none (0 : Nat) (0 : Nat), Value.int IntKind.u32 n6, Value.slice Option.none (0 : Nat) (0 : Nat)] fun (σ86 : AS) ↦
  bmatch (Decidable.decide (k < (10 : Int)))
  (lds σ86 (Addr.mk i84 (0 : Nat) Option.none) (4 : Nat) fun (l87 : List Value) ↦
  tCons l87 fun (v88 : Value) (l89 : List Value) ↦
  tI IntKind.i64 v88 fun (n90 : Int) ↦
  tCons l89 fun (v91 : Value) (l92 : List Value) ↦
  tL (1 : Nat) v91 fun (s93 : Sl) ↦
  tCons l92 fun (v94 : Value) (l95 : List Value) ↦
  tI IntKind.u32 v94 fun (n96 : Int) ↦
  tCons l95 fun (v97 : Value) (l98 : List Value) ↦
  tL (1 : Nat) v97 fun (s99 : Sl) ↦
  tNil l98
  (puts σ86 (Addr.mk i0 (0 : Nat) Option.none)
  [Value.int IntKind.i64 n90, Value.slice (Sl.a s93) (Sl.n s93) (1 : Nat), Value.int IntKind.u32 n96,
  Value.slice (Sl.a s99) (Sl.n s99) (1 : Nat)]
  fun (σ100 : AS) ↦
  lds σ100 (Addr.mk i0 (0 : Nat) Option.none) (4 : Nat) fun (l101 : List Value) ↦
  tCons l101 fun (v102 : Value) (l103 : List Value) ↦
  tI IntKind.i64 v102 fun (n104 : Int) ↦
  tCons l103 fun (v105 : Value) (l106 : List Value) ↦
  tL (1 : Nat) v105 fun (s107 : Sl) ↦
  tCons l106 fun (v108 : Value) (l109 : List Value) ↦
  tI IntKind.u32 v108 fun (n110 : Int) ↦
  tCons l109 fun (v111 : Value) (l112 : List Value) ↦
  tL (1 : Nat) v111 fun (s113 : Sl) ↦
  tNil l112
  (K
  (Value.tuple
  (Array.mk
  [Value.agg
  (Array.mk
  [Value.int IntKind.i64 n104, Value.slice (Sl.a s107) (Sl.n s107) (1 : Nat), Value.int IntKind.u32 n110,
  Value.slice (Sl.a s113) (Sl.n s113) (1 : Nat)]),
  Value.int IntKind.i64 (0 : Int)]))
  σ100)))
  (T (33 : Nat) [Value.slice a m (1 : Nat), Value.int IntKind.u32 (IntKind.wrap IntKind.u32 (x + (5 : Int))), Value.int IntKind.i64 (4 : Int)] σ86
  fun (v114 : Value) (σ115 : AS) ↦
  tTup v114 fun (l116 : List Value) ↦
  pSome l116[(0 : Nat)]? fun (u117 : Value) ↦
  tI IntKind.u32 u117 fun (n118 : Int) ↦
  tTup v114 fun (l119 : List Value) ↦
  pSome l119[(1 : Nat)]? fun (u120 : Value) ↦
  tI IntKind.i64 u120 fun (n121 : Int) ↦
  ALoop
  (fl Proofs.Try.prog hintsS T (44 : Nat) [Bool.true, Bool.true, Bool.true, Bool.true, Bool.true, Bool.true, Bool.true, Bool.false, Bool.true, Bool.false] []
  K)
  [((0 : Nat), Option.some (Value.slice a m (1 : Nat))), ((1 : Nat), Option.some (Value.int IntKind.u32 x)),
  ((6 : Nat), Option.some (Value.pointer (Option.some (Addr.mk i0 (0 : Nat) Option.none)))), ((9 : Nat), Option.some (Value.int IntKind.i64 n121)),
  ((10 : Nat), Option.some (Value.pointer (Option.some (Addr.mk i84 (0 : Nat) Option.none)))), ((11 : Nat), Option.some (Value.int IntKind.u32 n118)),
  ((12 : Nat), Option.some (Value.int IntKind.u32 (0 : Int)))]
  σ115))))
  (bmatch (n9 != (0 : Int))
  (puts σ3 (Addr.mk i0 (0 : Nat) Option.none)
  [Value.int IntKind.i64 (0 : Int), Value.slice Option.none (0 : Nat) (0 : Nat), Value.int IntKind.u32 (0 : Int), Value.slice Option.none (0 : Nat) (0 : Nat)]
  fun (σ122 : AS) ↦
  lds σ122 (Addr.mk i0 (0 : Nat) Option.none) (4 : Nat) fun (l123 : List Value) ↦
  tCons l123 fun (v124 : Value) (l125 : List Value) ↦
  tI IntKind.i64 v124 fun (n126 : Int) ↦
  tCons l125 fun (v127 : Value) (l128 : List Value) ↦
  tL (1 : Nat) v127 fun (s129 : Sl) ↦
  tCons l128 fun (v130 : Value) (l131 : List Value) ↦
  tI IntKind.u32 v130 fun (n132 : Int) ↦
  tCons l131 fun (v133 : Value) (l134 : List Value) ↦
  tL (1 : Nat) v133 fun (s135 : Sl) ↦
  tNil l134
  (K
  (Value.tuple
  (Array.mk
  [Value.agg
  (Array.mk
  [Value.int IntKind.i64 n126, Value.slice (Sl.a s129) (Sl.n s129) (1 : Nat), Value.int IntKind.u32 n132,
  Value.slice (Sl.a s135) (Sl.n s135) (1 : Nat)]),
  Value.int IntKind.i64 n9]))
  σ122))
  (newAt σ3
  (AObj.row RK.plain
  [Value.int IntKind.i64 (0 : Int), Value.slice Option.none (0 : Nat) (0 : Nat), Value.int IntKind.u32 (0 : Int), Value.slice Option.none (0 : Nat) (0 : Nat)])
  fun (i136 : Nat) (σ137 : AS) ↦
  puts σ137 (Addr.mk i136 (0 : Nat) Option.none)
  [Value.int IntKind.i64 (3 : Int), Value.slice Option.none (0 : Nat) (0 : Nat), Value.int IntKind.u32 n6, Value.slice Option.none (0 : Nat) (0 : Nat)] fun (σ138 : AS) ↦
  bmatch (Decidable.decide (k < (10 : Int)))
  (lds σ138 (Addr.mk i136 (0 : Nat) Option.none) (4 : Nat) fun (l139 : List Value) ↦
  tCons l139 fun (v140 : Value) (l141 : List Value) ↦
  tI IntKind.i64 v140 fun (n142 : Int) ↦
  tCons l141 fun (v143 : Value) (l144 : List Value) ↦
  tL (1 : Nat) v143 fun (s145 : Sl) ↦
  tCons l144 fun (v146 : Value) (l147 : List Value) ↦
  tI IntKind.u32 v146 fun (n148 : Int) ↦
  tCons l147 fun (v149 : Value) (l150 : List Value) ↦
  tL (1 : Nat) v149 fun (s151 : Sl) ↦
  tNil l150
  (puts σ138 (Addr.mk i0 (0 : Nat) Option.none)
  [Value.int IntKind.i64 n142, Value.slice (Sl.a s145) (Sl.n s145) (1 : Nat), Value.int IntKind.u32 n148,
  Value.slice (Sl.a s151) (Sl.n s151) (1 : Nat)]
  fun (σ152 : AS) ↦
  lds σ152 (Addr.mk i0 (0 : Nat) Option.none) (4 : Nat) fun (l153 : List Value) ↦
  tCons l153 fun (v154 : Value) (l155 : List Value) ↦
  tI IntKind.i64 v154 fun (n156 : Int) ↦
  tCons l155 fun (v157 : Value) (l158 : List Value) ↦
  tL (1 : Nat) v157 fun (s159 : Sl) ↦
  tCons l158 fun (v160 : Value) (l161 : List Value) ↦
  tI IntKind.u32 v160 fun (n162 : Int) ↦
  tCons l161 fun (v163 : Value) (l164 : List Value) ↦
  tL (1 : Nat) v163 fun (s165 : Sl) ↦
  tNil l164
  (K
  (Value.tuple
  (Array.mk
  [Value.agg
  (Array.mk
  [Value.int IntKind.i64 n156, Value.slice (Sl.a s159) (Sl.n s159) (1 : Nat), Value.int IntKind.u32 n162,
  Value.slice (Sl.a s165) (Sl.n s165) (1 : Nat)]),
  Value.int IntKind.i64 (0 : Int)]))
  σ152)))
  (T (33 : Nat) [Value.slice a m (1 : Nat), Value.int IntKind.u32 (IntKind.wrap IntKind.u32 (x + (5 : Int))), Value.int IntKind.i64 (4 : Int)] σ138
  fun (v166 : Value) (σ167 : AS) ↦
  tTup v166 fun (l168 : List Value) ↦
  pSome l168[(0 : Nat)]? fun (u169 : Value) ↦
  tI IntKind.u32 u169 fun (n170 : Int) ↦
  tTup v166 fun (l171 : List Value) ↦
  pSome l171[(1 : Nat)]? fun (u172 : Value) ↦
  tI IntKind.i64 u172 fun (n173 : Int) ↦
  ALoop
  (fl Proofs.Try.prog hintsS T (44 : Nat) [Bool.true, Bool.true, Bool.true, Bool.true, Bool.true, Bool.true, Bool.true, Bool.false, Bool.true, Bool.false] []
  K)
  [((0 : Nat), Option.some (Value.slice a m (1 : Nat))), ((1 : Nat), Option.some (Value.int IntKind.u32 x)),
  ((6 : Nat), Option.some (Value.pointer (Option.some (Addr.mk i0 (0 : Nat) Option.none)))), ((9 : Nat), Option.some (Value.int IntKind.i64 n173)),
  ((10 : Nat), Option.some (Value.pointer (Option.some (Addr.mk i136 (0 : Nat) Option.none)))), ((11 : Nat), Option.some (Value.int IntKind.u32 n170)),
  ((12 : Nat), Option.some (Value.int IntKind.u32 (0 : Int)))]
  σ167))) := by
  intros
  kernel_rfl

theorem s44l : ∀ (T : Ct) (a : Option Addr) (m p q : Nat) (x e n i : Int) (X : Regs → AS → Prop) (σ : AS) (K : Value → AS → Prop),
  fl Proofs.Try.prog hintsS T (44 : Nat) [Bool.true, Bool.true, Bool.true, Bool.true, Bool.true, Bool.true, Bool.true, Bool.false, Bool.true, Bool.false] [] K X
  [((0 : Nat), Option.some (Value.slice a m (1 : Nat))), ((1 : Nat), Option.some (Value.int IntKind.u32 x)),
  ((6 : Nat), Option.some (Value.pointer (Option.some (Addr.mk q (0 : Nat) Option.none)))), ((9 : Nat), Option.some (Value.int IntKind.i64 e)),
  ((10 : Nat), Option.some (Value.pointer (Option.some (Addr.mk p (0 : Nat) Option.none)))), ((11 : Nat), Option.some (Value.int IntKind.u32 n)),
  ((12 : Nat), Option.some (Value.int IntKind.u32 i))]
  σ =
  bmatch (Decidable.decide (i < n))
  (bmatch (e == (0 : Int))
  (T (33 : Nat)
  [Value.slice a m (1 : Nat), Value.int IntKind.u32 (IntKind.wrap IntKind.u32 (IntKind.wrap IntKind.u32 (x + (9 : Int)) + IntKind.wrap IntKind.u32 ((4 : Int) * i))),
  Value.int IntKind.i64 (4 : Int)]
  σ fun (v0 : Value) (σ1 : AS) ↦
  tTup v0 fun (l2 : List Value) ↦
  pSome l2[(0 : Nat)]? fun (u3 : Value) ↦
  tI IntKind.u32 u3 fun (n4 : Int) ↦
  tTup v0 fun (l5 : List Value) ↦
  pSome l5[(1 : Nat)]? fun (u6 : Value) ↦
  tI IntKind.i64 u6 fun (n7 : Int) ↦
  ldc σ1 (Addr.mk p ((0 : Nat) + (3 : Nat)) Option.none) fun (v8 : Value) ↦
  tL (1 : Nat) v8 fun (s9 : Sl) ↦
  newAt σ1 (AObj.row RK.rw [Value.int IntKind.u32 n4]) fun (i10 : Nat) (σ11 : AS) ↦
  lds σ11 (Addr.mk i10 (0 : Nat) Option.none) (1 : Nat) fun (l12 : List Value) ↦
  appendTo σ11 (1 : Nat) (4 : Nat) (Sl.mk (Sl.a s9) (Sl.n s9)) l12 (1 : Nat) fun (s13 : Sl) (σ14 : AS) ↦
  put1 σ14 (Addr.mk p ((0 : Nat) + (3 : Nat)) Option.none) (Value.slice (Sl.a s13) (Sl.n s13) (1 : Nat)) fun (σ15 : AS) ↦
  X
  [((0 : Nat), Option.some (Value.slice a m (1 : Nat))), ((1 : Nat), Option.some (Value.int IntKind.u32 x)),
  ((6 : Nat), Option.some (Value.pointer (Option.some (Addr.mk q (0 : Nat) Option.none)))), ((9 : Nat), Option.some (Value.int IntKind.i64 n7)),
  ((10 : Nat), Option.some (Value.pointer (Option.some (Addr.mk p (0 : Nat) Option.none)))), ((11 : Nat), Option.some (Value.int IntKind.u32 n)),
  ((12 : Nat), Option.some (Value.int IntKind.u32 (IntKind.wrap IntKind.u32 (i + (1 : Int)))))]
  σ15)
  (bmatch (e != (0 : Int))
  (puts σ (Addr.mk q (0 : Nat) Option.none)
  [Value.int IntKind.i64 (0 : Int), Value.slice Option.none (0 : Nat) (0 : Nat), Value.int IntKind.u32 (0 : Int), Value.slice Option.none (0 : Nat) (0 : Nat)] fun (σ16 : AS) ↦
  lds σ16 (Addr.mk q (0 : Nat) Option.none) (4 : Nat) fun (l17 : List Value) ↦
  tCons l17 fun (v18 : Value) (l19 : List Value) ↦
  tI IntKind.i64 v18 fun (n20 : Int) ↦
  tCons l19 fun (v21 : Value) (l22 : List Value) ↦
  tL (1 : Nat) v21 fun (s23 : Sl) ↦
  tCons l22 fun (v24 : Value) (l25 : List Value) ↦
  tI IntKind.u32 v24 fun (n26 : Int) ↦
  tCons l25 fun (v27 : Value) (l28 : List Value) ↦
  tL (1 : Nat) v27 fun (s29 : Sl) ↦
  tNil l28
  (K
  (Value.tuple
  (Array.mk
  [Value.agg
  (Array.mk
  [Value.int IntKind.i64 n20, Value.slice (Sl.a s23) (Sl.n s23) (1 : Nat), Value.int IntKind.u32 n26,
  Value.slice (Sl.a s29) (Sl.n s29) (1 : Nat)]),
  Value.int IntKind.i64 e]))
  σ16))
  (lds σ (Addr.mk p (0 : Nat) Option.none) (4 : Nat) fun (l30 : List Value) ↦
  tCons l30 fun (v31 : Value) (l32 : List Value) ↦
  tI IntKind.i64 v31 fun (n33 : Int) ↦
  tCons l32 fun (v34 : Value) (l35 : List Value) ↦
  tL (1 : Nat) v34 fun (s36 : Sl) ↦
  tCons l35 fun (v37 : Value) (l38 : List Value) ↦
  tI IntKind.u32 v37 fun (n39 : Int) ↦
  tCons l38 fun (v40 : Value) (l41 : List Value) ↦
  tL (1 : Nat) v40 fun (s42 : Sl) ↦
  tNil l41
  (puts σ (Addr.mk q (0 : Nat) Option.none)
  [Value.int IntKind.i64 n33, Value.slice (Sl.a s36) (Sl.n s36) (1 : Nat), Value.int IntKind.u32 n39, Value.slice (Sl.a s42) (Sl.n s42) (1 : Nat)]
  fun (σ43 : AS) ↦
  lds σ43 (Addr.mk q (0 : Nat) Option.none) (4 : Nat) fun (l44 : List Value) ↦
  tCons l44 fun (v45 : Value) (l46 : List Value) ↦
  tI IntKind.i64 v45 fun (n47 : Int) ↦
  tCons l46 fun (v48 : Value) (l49 : List Value) ↦
  tL (1 : Nat) v48 fun (s50 : Sl) ↦
  tCons l49 fun (v51 : Value) (l52 : List Value) ↦
  tI IntKind.u32 v51 fun (n53 : Int) ↦
  tCons l52 fun (v54 : Value) (l55 : List Value) ↦
  tL (1 : Nat) v54 fun (s56 : Sl) ↦
  tNil l55
  (K
  (Value.tuple
  (Array.mk
  [Value.agg
  (Array.mk
  [Value.int IntKind.i64 n47, Value.slice (Sl.a s50) (Sl.n s50) (1 : Nat), Value.int IntKind.u32 n53,
  Value.slice (Sl.a s56) (Sl.n s56) (1 : Nat)]),
  Value.int IntKind.i64 (0 : Int)]))
  σ43)))))
  (bmatch (e != (0 : Int))
  (puts σ (Addr.mk q (0 : Nat) Option.none)
  [Value.int IntKind.i64 (0 : Int), Value.slice Option.none (0 : Nat) (0 : Nat), Value.int IntKind.u32 (0 : Int), Value.slice Option.none (0 : Nat) (0 : Nat)] fun (σ57 : AS) ↦
  lds σ57 (Addr.mk q (0 : Nat) Option.none) (4 : Nat) fun (l58 : List Value) ↦
  tCons l58 fun (v59 : Value) (l60 : List Value) ↦
  tI IntKind.i64 v59 fun (n61 : Int) ↦
  tCons l60 fun (v62 : Value) (l63 : List Value) ↦
  tL (1 : Nat) v62 fun (s64 : Sl) ↦
  tCons l63 fun (v65 : Value) (l66 : List Value) ↦
  tI IntKind.u32 v65 fun (n67 : Int) ↦
  tCons l66 fun (v68 : Value) (l69 : List Value) ↦
  tL (1 : Nat) v68 fun (s70 : Sl) ↦
  tNil l69
  (K
  (Value.tuple
  (Array.mk
  [Value.agg
  (Array.mk
  [Value.int IntKind.i64 n61, Value.slice (Sl.a s64) (Sl.n s64) (1 : Nat), Value.int IntKind.u32 n67,
  Value.slice (Sl.a s70) (Sl.n s70) (1 : Nat)]),
  Value.int IntKind.i64 e]))
  σ57))
  (lds σ (Addr.mk p (0 : Nat) Option.none) (4 : Nat) fun (l71 : List Value) ↦
  tCons l71 fun (v72 : Value) (l73 : List Value) ↦
  tI IntKind.i64 v72 fun (n74 : Int) ↦
  tCons l73 fun (v75 : Value) (l76 : List Value) ↦
  tL (1 : Nat) v75 fun (s77 : Sl) ↦
  tCons l76 fun (v78 : Value) (l79 : List Value) ↦
  tI IntKind.u32 v78 fun (n80 : Int) ↦
  tCons l79 fun (v81 : Value) (l82 : List Value) ↦
  tL (1 : Nat) v81 fun (s83 : Sl) ↦
  tNil l82
  (puts σ (Addr.mk q (0 : Nat) Option.none)
  [Value.int IntKind.i64 n74, Value.slice (Sl.a s77) (Sl.n s77) (1 : Nat), Value.int IntKind.u32 n80, Value.slice (Sl.a s83) (Sl.n s83) (1 : Nat)]
  fun (σ84 : AS) ↦
  lds σ84 (Addr.mk q (0 : Nat) Option.none) (4 : Nat) fun (l85 : List Value) ↦
  tCons l85 fun (v86 : Value) (l87 : List Value) ↦
  tI IntKind.i64 v86 fun (n88 : Int) ↦
  tCons l87 fun (v89 : Value) (l90 : List Value) ↦
  tL (1 : Nat) v89 fun (s91 : Sl) ↦
  tCons l90 fun (v92 : Value) (l93 : List Value) ↦
  tI IntKind.u32 v92 fun (n94 : Int) ↦
  tCons l93 fun (v95 : Value) (l96 : List Value) ↦
  tL (1 : Nat) v95 fun (s97 : Sl) ↦
  tNil l96
  (K
  (Value.tuple
  (Array.mk
  [Value.agg
  (Array.mk
  [Value.int IntKind.i64 n88, Value.slice (Sl.a s91) (Sl.n s91) (1 : Nat), Value.int IntKind.u32 n94,
  Value.slice (Sl.a s97) (Sl.n s97) (1 : Nat)]),
  Value.int IntKind.i64 (0 : Int)]))
  σ84)))) := by
  intros
  kernel_rfl

end Go.AI
