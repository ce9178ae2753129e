/- The conditions ahead of the calls of the program's functions, reckoned as far as they go (equations that the kernel checks); no condition. -/
import Derived.Test.YtfjbhgldbgamhaaTySoft
import Derived.Test.YtfjbhgldbgamhaaAISep
set_option maxRecDepth 1000000
set_option linter.unusedVariables false
namespace Go.AI
open Go.Proofs
theorem s21 : ∀ (T : Ct) (a : Option Addr) (m : Nat) (t k x b : Int) (σ : AS) (K : Value → AS → Prop),
  fw Proofs.Try.prog hintsS T (21 : Nat)
  [Value.slice a m (1 : Nat), Value.int IntKind.u32 t, Value.agg (Array.mk [Value.int IntKind.i64 k, Value.int IntKind.u32 x, Value.int IntKind.u32 b])] σ K =
  newAt σ (AObj.row RK.plain [Value.int IntKind.i64 k, Value.int IntKind.u32 x, Value.int IntKind.u32 b]) fun (i0 : Nat) (σ1 : AS) ↦
  newAt σ1
  (AObj.row RK.plain [Value.int IntKind.i64 (0 : Int), Value.slice Option.none (0 : Nat) (0 : Nat), Value.int IntKind.u32 (0 : Int), Value.slice Option.none (0 : Nat) (0 : Nat)])
  fun (i2 : Nat) (σ3 : AS) ↦
  newAt σ3 (AObj.row RK.plain [Value.int IntKind.i64 (0 : Int), Value.int IntKind.u32 (0 : Int), Value.int IntKind.u32 (0 : Int)]) fun (i4 : Nat) (σ5 : AS) ↦
  ldc σ5 (Addr.mk i0 (0 : Nat) Option.none) fun (v6 : Value) ↦
  tI IntKind.i64 v6 fun (n7 : Int) ↦
  bmatch (n7 == (226 : Int))
  (ldc σ5 (Addr.mk i0 ((0 : Nat) + (1 : Nat)) Option.none) fun (v8 : Value) ↦
  tI IntKind.u32 v8 fun (n9 : Int) ↦
  T (33 : Nat) [Value.slice a m (1 : Nat), Value.int IntKind.u32 n9, Value.int IntKind.i64 (4 : Int)] σ5 fun (v10 : Value) (σ11 : AS) ↦
  tTup v10 fun (l12 : List Value) ↦
  pSome l12[(0 : Nat)]? fun (u13 : Value) ↦
  tI IntKind.u32 u13 fun (n14 : Int) ↦
  tTup v10 fun (l15 : List Value) ↦
  pSome l15[(1 : Nat)]? fun (u16 : Value) ↦
  tI IntKind.i64 u16 fun (n17 : Int) ↦
  bmatch (n17 != (0 : Int))
  (lds σ11 (Addr.mk i2 (0 : Nat) Option.none) (4 : Nat) fun (l18 : List Value) ↦
  tCons l18 fun (v19 : Value) (l20 : List Value) ↦
  tI IntKind.i64 v19 fun (n21 : Int) ↦
  tCons l20 fun (v22 : Value) (l23 : List Value) ↦
  tL (1 : Nat) v22 fun (s24 : Sl) ↦
  tCons l23 fun (v25 : Value) (l26 : List Value) ↦
  tI IntKind.u32 v25 fun (n27 : Int) ↦
  tCons l26 fun (v28 : Value) (l29 : List Value) ↦
  tL (1 : Nat) v28 fun (s30 : Sl) ↦
  tNil l29
  (lds σ11 (Addr.mk i4 (0 : Nat) Option.none) (3 : Nat) fun (l31 : List Value) ↦
  tCons l31 fun (v32 : Value) (l33 : List Value) ↦
  tI IntKind.i64 v32 fun (n34 : Int) ↦
  tCons l33 fun (v35 : Value) (l36 : List Value) ↦
  tI IntKind.u32 v35 fun (n37 : Int) ↦
  tCons l36 fun (v38 : Value) (l39 : List Value) ↦
  tI IntKind.u32 v38 fun (n40 : Int) ↦
  tNil l39
  (puts σ11 (Addr.mk i2 (0 : Nat) Option.none)
  [Value.int IntKind.i64 n21, Value.slice (Sl.a s24) (Sl.n s24) (1 : Nat), Value.int IntKind.u32 n27,
  Value.slice (Sl.a s30) (Sl.n s30) (1 : Nat)]
  fun (σ41 : AS) ↦
  lds σ41 (Addr.mk i4 (0 : Nat) Option.none) (3 : Nat) fun (l42 : List Value) ↦
  tCons l42 fun (v43 : Value) (l44 : List Value) ↦
  tI IntKind.i64 v43 fun (n45 : Int) ↦
  tCons l44 fun (v46 : Value) (l47 : List Value) ↦
  tI IntKind.u32 v46 fun (n48 : Int) ↦
  tCons l47 fun (v49 : Value) (l50 : List Value) ↦
  tI IntKind.u32 v49 fun (n51 : Int) ↦
  tNil l50
  (Value.agg (Array.mk [Value.int IntKind.i64 n34, Value.int IntKind.u32 n37, Value.int IntKind.u32 n40]) =
  Value.agg (Array.mk [Value.int IntKind.i64 n45, Value.int IntKind.u32 n48, Value.int IntKind.u32 n51]) ∧
  puts σ41 (Addr.mk i4 (0 : Nat) Option.none)
  [Value.int IntKind.i64 n34, Value.int IntKind.u32 n37, Value.int IntKind.u32 n40] fun (σ52 : AS) ↦
  lds σ52 (Addr.mk i2 (0 : Nat) Option.none) (4 : Nat) fun (l53 : List Value) ↦
  tCons l53 fun (v54 : Value) (l55 : List Value) ↦
  tI IntKind.i64 v54 fun (n56 : Int) ↦
  tCons l55 fun (v57 : Value) (l58 : List Value) ↦
  tL (1 : Nat) v57 fun (s59 : Sl) ↦
  tCons l58 fun (v60 : Value) (l61 : List Value) ↦
  tI IntKind.u32 v60 fun (n62 : Int) ↦
  tCons l61 fun (v63 : Value) (l64 : List Value) ↦
  tL (1 : Nat) v63 fun (s65 : Sl) ↦
  tNil l64
  (lds σ52 (Addr.mk i4 (0 : Nat) Option.none) (3 : Nat) fun (l66 : List Value) ↦
  tCons l66 fun (v67 : Value) (l68 : List Value) ↦
  tI IntKind.i64 v67 fun (n69 : Int) ↦
  tCons l68 fun (v70 : Value) (l71 : List Value) ↦
  tI IntKind.u32 v70 fun (n72 : Int) ↦
  tCons l71 fun (v73 : Value) (l74 : List Value) ↦
  tI IntKind.u32 v73 fun (n75 : Int) ↦
  tNil l74
  (K
  (Value.tuple
  (Array.mk
  [Value.agg
  (Array.mk
  [Value.int IntKind.i64 n56,
  Value.slice (Sl.a s59) (Sl.n s59) (1 : Nat),
  Value.int IntKind.u32 n62,
  Value.slice (Sl.a s65) (Sl.n s65) (1 : Nat)]),
  Value.agg
  (Array.mk
  [Value.int IntKind.i64 n69, Value.int IntKind.u32 n72,
  Value.int IntKind.u32 n75]),
  Value.int IntKind.i64 n17]))
  σ52))))))
  (ldc σ11 (Addr.mk i0 ((0 : Nat) + (1 : Nat)) Option.none) fun (v76 : Value) ↦
  tI IntKind.u32 v76 fun (n77 : Int) ↦
  put1 σ11 (Addr.mk i0 ((0 : Nat) + (1 : Nat)) Option.none) (Value.int IntKind.u32 (IntKind.wrap IntKind.u32 (n77 + IntKind.wrap IntKind.u32 (4 : Int))))
  fun (σ78 : AS) ↦
  lds σ78 (Addr.mk i0 (0 : Nat) Option.none) (3 : Nat) fun (l79 : List Value) ↦
  tCons l79 fun (v80 : Value) (l81 : List Value) ↦
  tI IntKind.i64 v80 fun (n82 : Int) ↦
  tCons l81 fun (v83 : Value) (l84 : List Value) ↦
  tI IntKind.u32 v83 fun (n85 : Int) ↦
  tCons l84 fun (v86 : Value) (l87 : List Value) ↦
  tI IntKind.u32 v86 fun (n88 : Int) ↦
  tNil l87
  (T (36 : Nat) [Value.int IntKind.u32 n14] σ78 fun (v89 : Value) (σ90 : AS) ↦
  tAgg v89 fun (l91 : List Value) ↦
  tCons l91 fun (v92 : Value) (l93 : List Value) ↦
  tI IntKind.i64 v92 fun (n94 : Int) ↦
  tCons l93 fun (v95 : Value) (l96 : List Value) ↦
  tL (1 : Nat) v95 fun (s97 : Sl) ↦
  tCons l96 fun (v98 : Value) (l99 : List Value) ↦
  tI IntKind.u32 v98 fun (n100 : Int) ↦
  tCons l99 fun (v101 : Value) (l102 : List Value) ↦
  tL (1 : Nat) v101 fun (s103 : Sl) ↦
  tNil l102
  (lds σ90 (Addr.mk i0 (0 : Nat) Option.none) (3 : Nat) fun (l104 : List Value) ↦
  tCons l104 fun (v105 : Value) (l106 : List Value) ↦
  tI IntKind.i64 v105 fun (n107 : Int) ↦
  tCons l106 fun (v108 : Value) (l109 : List Value) ↦
  tI IntKind.u32 v108 fun (n110 : Int) ↦
  tCons l109 fun (v111 : Value) (l112 : List Value) ↦
  tI IntKind.u32 v111 fun (n113 : Int) ↦
  tNil l112
  (Value.agg
  (Array.mk [Value.int IntKind.i64 n82, Value.int IntKind.u32 n85, Value.int IntKind.u32 n88]) =
  Value.agg
  (Array.mk [Value.int IntKind.i64 n107, Value.int IntKind.u32 n110, Value.int IntKind.u32 n113]) ∧
  puts σ90 (Addr.mk i2 (0 : Nat) Option.none)
  [Value.int IntKind.i64 n94, Value.slice (Sl.a s97) (Sl.n s97) (1 : Nat),
  Value.int IntKind.u32 n100, Value.slice (Sl.a s103) (Sl.n s103) (1 : Nat)]
  fun (σ114 : AS) ↦
  lds σ114 (Addr.mk i0 (0 : Nat) Option.none) (3 : Nat) fun (l115 : List Value) ↦
  tCons l115 fun (v116 : Value) (l117 : List Value) ↦
  tI IntKind.i64 v116 fun (n118 : Int) ↦
  tCons l117 fun (v119 : Value) (l120 : List Value) ↦
  tI IntKind.u32 v119 fun (n121 : Int) ↦
  tCons l120 fun (v122 : Value) (l123 : List Value) ↦
  tI IntKind.u32 v122 fun (n124 : Int) ↦
  tNil l123
  (Value.agg
  (Array.mk
  [Value.int IntKind.i64 n82, Value.int IntKind.u32 n85,
  Value.int IntKind.u32 n88]) =
  Value.agg
  (Array.mk
  [Value.int IntKind.i64 n118, Value.int IntKind.u32 n121,
  Value.int IntKind.u32 n124]) ∧
  puts σ114 (Addr.mk i4 (0 : Nat) Option.none)
  [Value.int IntKind.i64 n82, Value.int IntKind.u32 n85, Value.int IntKind.u32 n88]
  fun (σ125 : AS) ↦
  lds σ125 (Addr.mk i2 (0 : Nat) Option.none) (4 : Nat) fun (l126 : List Value) ↦
  tCons l126 fun (v127 : Value) (l128 : List Value) ↦
  tI IntKind.i64 v127 fun (n129 : Int) ↦
  tCons l128 fun (v130 : Value) (l131 : List Value) ↦
  tL (1 : Nat) v130 fun (s132 : Sl) ↦
  tCons l131 fun (v133 : Value) (l134 : List Value) ↦
  tI IntKind.u32 v133 fun (n135 : Int) ↦
  tCons l134 fun (v136 : Value) (l137 : List Value) ↦
  tL (1 : Nat) v136 fun (s138 : Sl) ↦
  tNil l137
  (lds σ125 (Addr.mk i4 (0 : Nat) Option.none) (3 : Nat)
  fun (l139 : List Value) ↦
  tCons l139 fun (v140 : Value) (l141 : List Value) ↦
  tI IntKind.i64 v140 fun (n142 : Int) ↦
  tCons l141 fun (v143 : Value) (l144 : List Value) ↦
  tI IntKind.u32 v143 fun (n145 : Int) ↦
  tCons l144 fun (v146 : Value) (l147 : List Value) ↦
  tI IntKind.u32 v146 fun (n148 : Int) ↦
  tNil l147
  (K
  (Value.tuple
  (Array.mk
  [Value.agg
  (Array.mk
  [Value.int IntKind.i64 n129,
  Value.slice (Sl.a s132) (Sl.n s132)
  (1 : Nat),
  Value.int IntKind.u32 n135,
  Value.slice (Sl.a s138) (Sl.n s138)
  (1 : Nat)]),
  Value.agg
  (Array.mk
  [Value.int IntKind.i64 n142,
  Value.int IntKind.u32 n145,
  Value.int IntKind.u32 n148]),
  Value.int IntKind.i64 (0 : Int)]))
  σ125))))))))
  (bmatch (n7 == (224 : Int))
  (ldc σ5 (Addr.mk i0 ((0 : Nat) + (1 : Nat)) Option.none) fun (v149 : Value) ↦
  tI IntKind.u32 v149 fun (n150 : Int) ↦
  T (33 : Nat) [Value.slice a m (1 : Nat), Value.int IntKind.u32 n150, Value.int IntKind.i64 (1 : Int)] σ5 fun (v151 : Value) (σ152 : AS) ↦
  tTup v151 fun (l153 : List Value) ↦
  pSome l153[(0 : Nat)]? fun (u154 : Value) ↦
  tI IntKind.u32 u154 fun (n155 : Int) ↦
  tTup v151 fun (l156 : List Value) ↦
  pSome l156[(1 : Nat)]? fun (u157 : Value) ↦
  tI IntKind.i64 u157 fun (n158 : Int) ↦
  bmatch (n158 != (0 : Int))
  (lds σ152 (Addr.mk i2 (0 : Nat) Option.none) (4 : Nat) fun (l159 : List Value) ↦
  tCons l159 fun (v160 : Value) (l161 : List Value) ↦
  tI IntKind.i64 v160 fun (n162 : Int) ↦
  tCons l161 fun (v163 : Value) (l164 : List Value) ↦
  tL (1 : Nat) v163 fun (s165 : Sl) ↦
  tCons l164 fun (v166 : Value) (l167 : List Value) ↦
  tI IntKind.u32 v166 fun (n168 : Int) ↦
  tCons l167 fun (v169 : Value) (l170 : List Value) ↦
  tL (1 : Nat) v169 fun (s171 : Sl) ↦
  tNil l170
  (lds σ152 (Addr.mk i4 (0 : Nat) Option.none) (3 : Nat) fun (l172 : List Value) ↦
  tCons l172 fun (v173 : Value) (l174 : List Value) ↦
  tI IntKind.i64 v173 fun (n175 : Int) ↦
  tCons l174 fun (v176 : Value) (l177 : List Value) ↦
  tI IntKind.u32 v176 fun (n178 : Int) ↦
  tCons l177 fun (v179 : Value) (l180 : List Value) ↦
  tI IntKind.u32 v179 fun (n181 : Int) ↦
  tNil l180
  (puts σ152 (Addr.mk i2 (0 : Nat) Option.none)
  [Value.int IntKind.i64 n162, Value.slice (Sl.a s165) (Sl.n s165) (1 : Nat), Value.int IntKind.u32 n168,
  Value.slice (Sl.a s171) (Sl.n s171) (1 : Nat)]
  fun (σ182 : AS) ↦
  lds σ182 (Addr.mk i4 (0 : Nat) Option.none) (3 : Nat) fun (l183 : List Value) ↦
  tCons l183 fun (v184 : Value) (l185 : List Value) ↦
  tI IntKind.i64 v184 fun (n186 : Int) ↦
  tCons l185 fun (v187 : Value) (l188 : List Value) ↦
  tI IntKind.u32 v187 fun (n189 : Int) ↦
  tCons l188 fun (v190 : Value) (l191 : List Value) ↦
  tI IntKind.u32 v190 fun (n192 : Int) ↦
  tNil l191
  (Value.agg
  (Array.mk [Value.int IntKind.i64 n175, Value.int IntKind.u32 n178, Value.int IntKind.u32 n181]) =
  Value.agg
  (Array.mk [Value.int IntKind.i64 n186, Value.int IntKind.u32 n189, Value.int IntKind.u32 n192]) ∧
  puts σ182 (Addr.mk i4 (0 : Nat) Option.none)
  [Value.int IntKind.i64 n175, Value.int IntKind.u32 n178, Value.int IntKind.u32 n181]
  fun (σ193 : AS) ↦
  lds σ193 (Addr.mk i2 (0 : Nat) Option.none) (4 : Nat) fun (l194 : List Value) ↦
  tCons l194 fun (v195 : Value) (l196 : List Value) ↦
  tI IntKind.i64 v195 fun (n197 : Int) ↦
  tCons l196 fun (v198 : Value) (l199 : List Value) ↦
  tL (1 : Nat) v198 fun (s200 : Sl) ↦
  tCons l199 fun (v201 : Value) (l202 : List Value) ↦
  tI IntKind.u32 v201 fun (n203 : Int) ↦
  tCons l202 fun (v204 : Value) (l205 : List Value) ↦
  tL (1 : Nat) v204 fun (s206 : Sl) ↦
  tNil l205
  (lds σ193 (Addr.mk i4 (0 : Nat) Option.none) (3 : Nat) fun (l207 : List Value) ↦
  tCons l207 fun (v208 : Value) (l209 : List Value) ↦
  tI IntKind.i64 v208 fun (n210 : Int) ↦
  tCons l209 fun (v211 : Value) (l212 : List Value) ↦
  tI IntKind.u32 v211 fun (n213 : Int) ↦
  tCons l212 fun (v214 : Value) (l215 : List Value) ↦
  tI IntKind.u32 v214 fun (n216 : Int) ↦
  tNil l215
  (K
  (Value.tuple
  (Array.mk
  [Value.agg
  (Array.mk
  [Value.int IntKind.i64 n197,
  Value.slice (Sl.a s200) (Sl.n s200) (1 : Nat),
  Value.int IntKind.u32 n203,
  Value.slice (Sl.a s206) (Sl.n s206) (1 : Nat)]),
  Value.agg
  (Array.mk
  [Value.int IntKind.i64 n210, Value.int IntKind.u32 n213,
  Value.int IntKind.u32 n216]),
  Value.int IntKind.i64 n158]))
  σ193))))))
  (ldc σ152 (Addr.mk i0 ((0 : Nat) + (1 : Nat)) Option.none) fun (v217 : Value) ↦
  tI IntKind.u32 v217 fun (n218 : Int) ↦
  put1 σ152 (Addr.mk i0 ((0 : Nat) + (1 : Nat)) Option.none)
  (Value.int IntKind.u32 (IntKind.wrap IntKind.u32 (n218 + IntKind.wrap IntKind.u32 (1 : Int)))) fun (σ219 : AS) ↦
  lds σ219 (Addr.mk i0 (0 : Nat) Option.none) (3 : Nat) fun (l220 : List Value) ↦
  tCons l220 fun (v221 : Value) (l222 : List Value) ↦
  tI IntKind.i64 v221 fun (n223 : Int) ↦
  tCons l222 fun (v224 : Value) (l225 : List Value) ↦
  tI IntKind.u32 v224 fun (n226 : Int) ↦
  tCons l225 fun (v227 : Value) (l228 : List Value) ↦
  tI IntKind.u32 v227 fun (n229 : Int) ↦
  tNil l228
  (T (36 : Nat) [Value.int IntKind.u32 n155] σ219 fun (v230 : Value) (σ231 : AS) ↦
  tAgg v230 fun (l232 : List Value) ↦
  tCons l232 fun (v233 : Value) (l234 : List Value) ↦
  tI IntKind.i64 v233 fun (n235 : Int) ↦
  tCons l234 fun (v236 : Value) (l237 : List Value) ↦
  tL (1 : Nat) v236 fun (s238 : Sl) ↦
  tCons l237 fun (v239 : Value) (l240 : List Value) ↦
  tI IntKind.u32 v239 fun (n241 : Int) ↦
  tCons l240 fun (v242 : Value) (l243 : List Value) ↦
  tL (1 : Nat) v242 fun (s244 : Sl) ↦
  tNil l243
  (lds σ231 (Addr.mk i0 (0 : Nat) Option.none) (3 : Nat) fun (l245 : List Value) ↦
  tCons l245 fun (v246 : Value) (l247 : List Value) ↦
  tI IntKind.i64 v246 fun (n248 : Int) ↦
  tCons l247 fun (v249 : Value) (l250 : List Value) ↦
  tI IntKind.u32 v249 fun (n251 : Int) ↦
  tCons l250 fun (v252 : Value) (l253 : List Value) ↦
  tI IntKind.u32 v252 fun (n254 : Int) ↦
  tNil l253
  (Value.agg
  (Array.mk [Value.int IntKind.i64 n223, Value.int IntKind.u32 n226, Value.int IntKind.u32 n229]) =
  Value.agg
  (Array.mk [Value.int IntKind.i64 n248, Value.int IntKind.u32 n251, Value.int IntKind.u32 n254]) ∧
  puts σ231 (Addr.mk i2 (0 : Nat) Option.none)
  [Value.int IntKind.i64 n235, Value.slice (Sl.a s238) (Sl.n s238) (1 : Nat),
  Value.int IntKind.u32 n241, Value.slice (Sl.a s244) (Sl.n s244) (1 : Nat)]
  fun (σ255 : AS) ↦
  lds σ255 (Addr.mk i0 (0 : Nat) Option.none) (3 : Nat) fun (l256 : List Value) ↦
  tCons l256 fun (v257 : Value) (l258 : List Value) ↦
  tI IntKind.i64 v257 fun (n259 : Int) ↦
  tCons l258 fun (v260 : Value) (l261 : List Value) ↦
  tI IntKind.u32 v260 fun (n262 : Int) ↦
  tCons l261 fun (v263 : Value) (l264 : List Value) ↦
  tI IntKind.u32 v263 fun (n265 : Int) ↦
  tNil l264
  (Value.agg
  (Array.mk
  [Value.int IntKind.i64 n223, Value.int IntKind.u32 n226,
  Value.int IntKind.u32 n229]) =
  Value.agg
  (Array.mk
  [Value.int IntKind.i64 n259, Value.int IntKind.u32 n262,
  Value.int IntKind.u32 n265]) ∧
  puts σ255 (Addr.mk i4 (0 : Nat) Option.none)
  [Value.int IntKind.i64 n223, Value.int IntKind.u32 n226,
  Value.int IntKind.u32 n229]
  fun (σ266 : AS) ↦
  lds σ266 (Addr.mk i2 (0 : Nat) Option.none) (4 : Nat) fun (l267 : List Value) ↦
  tCons l267 fun (v268 : Value) (l269 : List Value) ↦
  tI IntKind.i64 v268 fun (n270 : Int) ↦
  tCons l269 fun (v271 : Value) (l272 : List Value) ↦
  tL (1 : Nat) v271 fun (s273 : Sl) ↦
  tCons l272 fun (v274 : Value) (l275 : List Value) ↦
  tI IntKind.u32 v274 fun (n276 : Int) ↦
  tCons l275 fun (v277 : Value) (l278 : List Value) ↦
  tL (1 : Nat) v277 fun (s279 : Sl) ↦
  tNil l278
  (lds σ266 (Addr.mk i4 (0 : Nat) Option.none) (3 : Nat)
  fun (l280 : List Value) ↦
  tCons l280 fun (v281 : Value) (l282 : List Value) ↦
  tI IntKind.i64 v281 fun (n283 : Int) ↦
  tCons l282 fun (v284 : Value) (l285 : List Value) ↦
  tI IntKind.u32 v284 fun (n286 : Int) ↦
  tCons l285 fun (v287 : Value) (l288 : List Value) ↦
  tI IntKind.u32 v287 fun (n289 : Int) ↦
  tNil l288
  (K
  (Value.tuple
  (Array.mk
  [Value.agg
  (Array.mk
  [Value.int IntKind.i64 n270,
  Value.slice (Sl.a s273)
  (Sl.n s273) (1 : Nat),
  Value.int IntKind.u32 n276,
  Value.slice (Sl.a s279)
  (Sl.n s279) (1 : Nat)]),
  Value.agg
  (Array.mk
  [Value.int IntKind.i64 n283,
  Value.int IntKind.u32 n286,
  Value.int IntKind.u32 n289]),
  Value.int IntKind.i64 (0 : Int)]))
  σ266))))))))
  (bmatch (n7 == (225 : Int))
  (lds σ5 (Addr.mk i0 (0 : Nat) Option.none) (3 : Nat) fun (l290 : List Value) ↦
  tCons l290 fun (v291 : Value) (l292 : List Value) ↦
  tI IntKind.i64 v291 fun (n293 : Int) ↦
  tCons l292 fun (v294 : Value) (l295 : List Value) ↦
  tI IntKind.u32 v294 fun (n296 : Int) ↦
  tCons l295 fun (v297 : Value) (l298 : List Value) ↦
  tI IntKind.u32 v297 fun (n299 : Int) ↦
  tNil l298
  (T (34 : Nat)
  [Value.slice a m (1 : Nat), Value.int IntKind.u32 t,
  Value.agg (Array.mk [Value.int IntKind.i64 n293, Value.int IntKind.u32 n296, Value.int IntKind.u32 n299])]
  σ5 fun (v300 : Value) (σ301 : AS) ↦
  tTup v300 fun (l302 : List Value) ↦
  pSome l302[(0 : Nat)]? fun (u303 : Value) ↦
  tI IntKind.u32 u303 fun (n304 : Int) ↦
  tTup v300 fun (l305 : List Value) ↦
  pSome l305[(1 : Nat)]? fun (u306 : Value) ↦
  tAgg u306 fun (l307 : List Value) ↦
  tCons l307 fun (v308 : Value) (l309 : List Value) ↦
  tI IntKind.i64 v308 fun (n310 : Int) ↦
  tCons l309 fun (v311 : Value) (l312 : List Value) ↦
  tI IntKind.u32 v311 fun (n313 : Int) ↦
  tCons l312 fun (v314 : Value) (l315 : List Value) ↦
  tI IntKind.u32 v314 fun (n316 : Int) ↦
  tNil l315
  (tTup v300 fun (l317 : List Value) ↦
  pSome l317[(2 : Nat)]? fun (u318 : Value) ↦
  tI IntKind.i64 u318 fun (n319 : Int) ↦
  newAt σ301
  (AObj.row RK.plain
  [Value.int IntKind.i64 (0 : Int), Value.int IntKind.u32 (0 : Int), Value.int IntKind.u32 (0 : Int)])
  fun (i320 : Nat) (σ321 : AS) ↦
  puts σ321 (Addr.mk i320 (0 : Nat) Option.none)
  [Value.int IntKind.i64 n310, Value.int IntKind.u32 n313, Value.int IntKind.u32 n316] fun (σ322 : AS) ↦
  bmatch (n319 != (0 : Int))
  (lds σ322 (Addr.mk i2 (0 : Nat) Option.none) (4 : Nat) fun (l323 : List Value) ↦
  tCons l323 fun (v324 : Value) (l325 : List Value) ↦
  tI IntKind.i64 v324 fun (n326 : Int) ↦
  tCons l325 fun (v327 : Value) (l328 : List Value) ↦
  tL (1 : Nat) v327 fun (s329 : Sl) ↦
  tCons l328 fun (v330 : Value) (l331 : List Value) ↦
  tI IntKind.u32 v330 fun (n332 : Int) ↦
  tCons l331 fun (v333 : Value) (l334 : List Value) ↦
  tL (1 : Nat) v333 fun (s335 : Sl) ↦
  tNil l334
  (puts σ322 (Addr.mk i2 (0 : Nat) Option.none)
  [Value.int IntKind.i64 n326, Value.slice (Sl.a s329) (Sl.n s329) (1 : Nat),
  Value.int IntKind.u32 n332, Value.slice (Sl.a s335) (Sl.n s335) (1 : Nat)]
  fun (σ336 : AS) ↦
  puts σ336 (Addr.mk i4 (0 : Nat) Option.none)
  [Value.int IntKind.i64 (0 : Int), Value.int IntKind.u32 (0 : Int), Value.int IntKind.u32 (0 : Int)]
  fun (σ337 : AS) ↦
  lds σ337 (Addr.mk i2 (0 : Nat) Option.none) (4 : Nat) fun (l338 : List Value) ↦
  tCons l338 fun (v339 : Value) (l340 : List Value) ↦
  tI IntKind.i64 v339 fun (n341 : Int) ↦
  tCons l340 fun (v342 : Value) (l343 : List Value) ↦
  tL (1 : Nat) v342 fun (s344 : Sl) ↦
  tCons l343 fun (v345 : Value) (l346 : List Value) ↦
  tI IntKind.u32 v345 fun (n347 : Int) ↦
  tCons l346 fun (v348 : Value) (l349 : List Value) ↦
  tL (1 : Nat) v348 fun (s350 : Sl) ↦
  tNil l349
  (lds σ337 (Addr.mk i4 (0 : Nat) Option.none) (3 : Nat) fun (l351 : List Value) ↦
  tCons l351 fun (v352 : Value) (l353 : List Value) ↦
  tI IntKind.i64 v352 fun (n354 : Int) ↦
  tCons l353 fun (v355 : Value) (l356 : List Value) ↦
  tI IntKind.u32 v355 fun (n357 : Int) ↦
  tCons l356 fun (v358 : Value) (l359 : List Value) ↦
  tI IntKind.u32 v358 fun (n360 : Int) ↦
  tNil l359
  (K
  (Value.tuple
  (Array.mk
  [Value.agg
  (Array.mk
  [Value.int IntKind.i64 n341,
  Value.slice (Sl.a s344) (Sl.n s344) (1 : Nat),
  Value.int IntKind.u32 n347,
  Value.slice (Sl.a s350) (Sl.n s350) (1 : Nat)]),
  Value.agg
  (Array.mk
  [Value.int IntKind.i64 n354, Value.int IntKind.u32 n357,
  Value.int IntKind.u32 n360]),
  Value.int IntKind.i64 n319]))
  σ337))))
  (T (35 : Nat) [Value.slice a m (1 : Nat), Value.int IntKind.u32 n304] σ322 fun (v361 : Value) (σ362 : AS) ↦
  tTup v361 fun (l363 : List Value) ↦
  pSome l363[(0 : Nat)]? fun (u364 : Value) ↦
  tAgg u364 fun (l365 : List Value) ↦
  tCons l365 fun (v366 : Value) (l367 : List Value) ↦
  tI IntKind.i64 v366 fun (n368 : Int) ↦
  tCons l367 fun (v369 : Value) (l370 : List Value) ↦
  tL (1 : Nat) v369 fun (s371 : Sl) ↦
  tCons l370 fun (v372 : Value) (l373 : List Value) ↦
  tI IntKind.u32 v372 fun (n374 : Int) ↦
  tCons l373 fun (v375 : Value) (l376 : List Value) ↦
  tL (1 : Nat) v375 fun (s377 : Sl) ↦
  tNil l376
  (tTup v361 fun (l378 : List Value) ↦
  pSome l378[(1 : Nat)]? fun (u379 : Value) ↦
  tI IntKind.i64 u379 fun (n380 : Int) ↦
  newAt σ362
  (AObj.row RK.plain
  [Value.int IntKind.i64 (0 : Int), Value.slice Option.none (0 : Nat) (0 : Nat),
  Value.int IntKind.u32 (0 : Int), Value.slice Option.none (0 : Nat) (0 : Nat)])
  fun (i381 : Nat) (σ382 : AS) ↦
  puts σ382 (Addr.mk i381 (0 : Nat) Option.none)
  [Value.int IntKind.i64 n368, Value.slice (Sl.a s371) (Sl.n s371) (1 : Nat),
  Value.int IntKind.u32 n374, Value.slice (Sl.a s377) (Sl.n s377) (1 : Nat)]
  fun (σ383 : AS) ↦
  bmatch (n380 != (0 : Int))
  (lds σ383 (Addr.mk i2 (0 : Nat) Option.none) (4 : Nat) fun (l384 : List Value) ↦
  tCons l384 fun (v385 : Value) (l386 : List Value) ↦
  tI IntKind.i64 v385 fun (n387 : Int) ↦
  tCons l386 fun (v388 : Value) (l389 : List Value) ↦
  tL (1 : Nat) v388 fun (s390 : Sl) ↦
  tCons l389 fun (v391 : Value) (l392 : List Value) ↦
  tI IntKind.u32 v391 fun (n393 : Int) ↦
  tCons l392 fun (v394 : Value) (l395 : List Value) ↦
  tL (1 : Nat) v394 fun (s396 : Sl) ↦
  tNil l395
  (puts σ383 (Addr.mk i2 (0 : Nat) Option.none)
  [Value.int IntKind.i64 n387,
  Value.slice (Sl.a s390) (Sl.n s390) (1 : Nat),
  Value.int IntKind.u32 n393,
  Value.slice (Sl.a s396) (Sl.n s396) (1 : Nat)]
  fun (σ397 : AS) ↦
  puts σ397 (Addr.mk i4 (0 : Nat) Option.none)
  [Value.int IntKind.i64 (0 : Int), Value.int IntKind.u32 (0 : Int),
  Value.int IntKind.u32 (0 : Int)]
  fun (σ398 : AS) ↦
  lds σ398 (Addr.mk i2 (0 : Nat) Option.none) (4 : Nat)
  fun (l399 : List Value) ↦
  tCons l399 fun (v400 : Value) (l401 : List Value) ↦
  tI IntKind.i64 v400 fun (n402 : Int) ↦
  tCons l401 fun (v403 : Value) (l404 : List Value) ↦
  tL (1 : Nat) v403 fun (s405 : Sl) ↦
  tCons l404 fun (v406 : Value) (l407 : List Value) ↦
  tI IntKind.u32 v406 fun (n408 : Int) ↦
  tCons l407 fun (v409 : Value) (l410 : List Value) ↦
  tL (1 : Nat) v409 fun (s411 : Sl) ↦
  tNil l410
  (lds σ398 (Addr.mk i4 (0 : Nat) Option.none)
  (3 : Nat) fun (l412 : List Value) ↦
  tCons l412
  fun (v413 : Value) (l414 : List Value) ↦
  tI IntKind.i64 v413 fun (n415 : Int) ↦
  tCons l414
  fun (v416 : Value) (l417 : List Value) ↦
  tI IntKind.u32 v416 fun (n418 : Int) ↦
  tCons l417
  fun (v419 : Value) (l420 : List Value) ↦
  tI IntKind.u32 v419 fun (n421 : Int) ↦
  tNil l420
  (K
  (Value.tuple
  (Array.mk
  [Value.agg
  (Array.mk
  [Value.int IntKind.i64 n402,
  Value.slice (Sl.a s405)
  (Sl.n s405) (1 : Nat),
  Value.int IntKind.u32
  n408,
  Value.slice (Sl.a s411)
  (Sl.n s411) (1 : Nat)]),
  Value.agg
  (Array.mk
  [Value.int IntKind.i64 n415,
  Value.int IntKind.u32
  n418,
  Value.int IntKind.u32
  n421]),
  Value.int IntKind.i64 n380]))
  σ398))))
  (lds σ383 (Addr.mk i381 (0 : Nat) Option.none) (4 : Nat) fun (l422 : List Value) ↦
  tCons l422 fun (v423 : Value) (l424 : List Value) ↦
  tI IntKind.i64 v423 fun (n425 : Int) ↦
  tCons l424 fun (v426 : Value) (l427 : List Value) ↦
  tL (1 : Nat) v426 fun (s428 : Sl) ↦
  tCons l427 fun (v429 : Value) (l430 : List Value) ↦
  tI IntKind.u32 v429 fun (n431 : Int) ↦
  tCons l430 fun (v432 : Value) (l433 : List Value) ↦
  tL (1 : Nat) v432 fun (s434 : Sl) ↦
  tNil l433
  (lds σ383 (Addr.mk i320 (0 : Nat) Option.none) (3 : Nat)
  fun (l435 : List Value) ↦
  tCons l435 fun (v436 : Value) (l437 : List Value) ↦
  tI IntKind.i64 v436 fun (n438 : Int) ↦
  tCons l437 fun (v439 : Value) (l440 : List Value) ↦
  tI IntKind.u32 v439 fun (n441 : Int) ↦
  tCons l440 fun (v442 : Value) (l443 : List Value) ↦
  tI IntKind.u32 v442 fun (n444 : Int) ↦
  tNil l443
  (puts σ383 (Addr.mk i2 (0 : Nat) Option.none)
  [Value.int IntKind.i64 n425,
  Value.slice (Sl.a s428) (Sl.n s428) (1 : Nat),
  Value.int IntKind.u32 n431,
  Value.slice (Sl.a s434) (Sl.n s434) (1 : Nat)]
  fun (σ445 : AS) ↦
  lds σ445 (Addr.mk i320 (0 : Nat) Option.none) (3 : Nat)
  fun (l446 : List Value) ↦
  tCons l446 fun (v447 : Value) (l448 : List Value) ↦
  tI IntKind.i64 v447 fun (n449 : Int) ↦
  tCons l448
  fun (v450 : Value) (l451 : List Value) ↦
  tI IntKind.u32 v450 fun (n452 : Int) ↦
  tCons l451
  fun (v453 : Value) (l454 : List Value) ↦
  tI IntKind.u32 v453 fun (n455 : Int) ↦
  tNil l454
  (Value.agg
  (Array.mk
  [Value.int IntKind.i64 n438,
  Value.int IntKind.u32 n441,
  Value.int IntKind.u32 n444]) =
  Value.agg
  (Array.mk
  [Value.int IntKind.i64 n449,
  Value.int IntKind.u32 n452,
  Value.int IntKind.u32 n455]) ∧
  puts σ445
  (Addr.mk i4 (0 : Nat) Option.none)
  [Value.int IntKind.i64 n438,
  Value.int IntKind.u32 n441,
  Value.int IntKind.u32 n444]
  fun (σ456 : AS) ↦
  lds σ456
  (Addr.mk i2 (0 : Nat) Option.none)
  (4 : Nat) fun (l457 : List Value) ↦
  tCons l457
  fun (v458 : Value)
  (l459 : List Value) ↦
  tI IntKind.i64 v458
  fun (n460 : Int) ↦
  tCons l459
  fun (v461 : Value)
  (l462 : List Value) ↦
  tL (1 : Nat) v461
  fun (s463 : Sl) ↦
  tCons l462
  fun (v464 : Value)
  (l465 : List Value) ↦
  tI IntKind.u32 v464
  fun (n466 : Int) ↦
  tCons l465
  fun (v467 : Value)
  (l468 : List Value) ↦
  tL (1 : Nat) v467
  fun (s469 : Sl) ↦
  tNil l468
  (lds σ456
  (Addr.mk i4 (0 : Nat)
  Option.none)
  (3 : Nat)
  fun
  (l470 : List Value) ↦
  tCons l470
  fun (v471 : Value)
  (l472 :
  List Value) ↦
  tI IntKind.i64
  v471
  fun (n473 : Int) ↦
  tCons l472
  fun
  (v474 : Value)
  (l475 :
  List Value) ↦
  tI
  IntKind.u32
  v474
  fun (n476 : Int) ↦
  tCons l475
  fun
  (v477 :
  Value)
  (l478 :
  List
  Value) ↦
  tI
  IntKind.u32
  v477
  fun
  (n479 :
  Int) ↦
  tNil
  l478
  (K
  (Value.tuple
  (Array.mk
  [Value.agg
  (Array.mk
  [Value.int
  IntKind.i64
  n460,
  Value.slice
  (Sl.a
  s463)
  (Sl.n
  s463)
  (1 :
  Nat),
  Value.int
  IntKind.u32
  n466,
  Value.slice
  (Sl.a
  s469)
  (Sl.n
  s469)
  (1 :
  Nat)]),
  Value.agg
  (Array.mk
  [Value.int
  IntKind.i64
  n473,
  Value.int
  IntKind.u32
  n476,
  Value.int
  IntKind.u32
  n479]),
  Value.int
  IntKind.i64
  (0 :
  Int)]))
  σ456)))))))))))
  (lds σ5 (Addr.mk i2 (0 : Nat) Option.none) (4 : Nat) fun (l480 : List Value) ↦
  tCons l480 fun (v481 : Value) (l482 : List Value) ↦
  tI IntKind.i64 v481 fun (n483 : Int) ↦
  tCons l482 fun (v484 : Value) (l485 : List Value) ↦
  tL (1 : Nat) v484 fun (s486 : Sl) ↦
  tCons l485 fun (v487 : Value) (l488 : List Value) ↦
  tI IntKind.u32 v487 fun (n489 : Int) ↦
  tCons l488 fun (v490 : Value) (l491 : List Value) ↦
  tL (1 : Nat) v490 fun (s492 : Sl) ↦
  tNil l491
  (lds σ5 (Addr.mk i4 (0 : Nat) Option.none) (3 : Nat) fun (l493 : List Value) ↦
  tCons l493 fun (v494 : Value) (l495 : List Value) ↦
  tI IntKind.i64 v494 fun (n496 : Int) ↦
  tCons l495 fun (v497 : Value) (l498 : List Value) ↦
  tI IntKind.u32 v497 fun (n499 : Int) ↦
  tCons l498 fun (v500 : Value) (l501 : List Value) ↦
  tI IntKind.u32 v500 fun (n502 : Int) ↦
  tNil l501
  (puts σ5 (Addr.mk i2 (0 : Nat) Option.none)
  [Value.int IntKind.i64 n483, Value.slice (Sl.a s486) (Sl.n s486) (1 : Nat), Value.int IntKind.u32 n489,
  Value.slice (Sl.a s492) (Sl.n s492) (1 : Nat)]
  fun (σ503 : AS) ↦
  lds σ503 (Addr.mk i4 (0 : Nat) Option.none) (3 : Nat) fun (l504 : List Value) ↦
  tCons l504 fun (v505 : Value) (l506 : List Value) ↦
  tI IntKind.i64 v505 fun (n507 : Int) ↦
  tCons l506 fun (v508 : Value) (l509 : List Value) ↦
  tI IntKind.u32 v508 fun (n510 : Int) ↦
  tCons l509 fun (v511 : Value) (l512 : List Value) ↦
  tI IntKind.u32 v511 fun (n513 : Int) ↦
  tNil l512
  (Value.agg (Array.mk [Value.int IntKind.i64 n496, Value.int IntKind.u32 n499, Value.int IntKind.u32 n502]) =
  Value.agg (Array.mk [Value.int IntKind.i64 n507, Value.int IntKind.u32 n510, Value.int IntKind.u32 n513]) ∧
  puts σ503 (Addr.mk i4 (0 : Nat) Option.none)
  [Value.int IntKind.i64 n496, Value.int IntKind.u32 n499, Value.int IntKind.u32 n502] fun (σ514 : AS) ↦
  lds σ514 (Addr.mk i2 (0 : Nat) Option.none) (4 : Nat) fun (l515 : List Value) ↦
  tCons l515 fun (v516 : Value) (l517 : List Value) ↦
  tI IntKind.i64 v516 fun (n518 : Int) ↦
  tCons l517 fun (v519 : Value) (l520 : List Value) ↦
  tL (1 : Nat) v519 fun (s521 : Sl) ↦
  tCons l520 fun (v522 : Value) (l523 : List Value) ↦
  tI IntKind.u32 v522 fun (n524 : Int) ↦
  tCons l523 fun (v525 : Value) (l526 : List Value) ↦
  tL (1 : Nat) v525 fun (s527 : Sl) ↦
  tNil l526
  (lds σ514 (Addr.mk i4 (0 : Nat) Option.none) (3 : Nat) fun (l528 : List Value) ↦
  tCons l528 fun (v529 : Value) (l530 : List Value) ↦
  tI IntKind.i64 v529 fun (n531 : Int) ↦
  tCons l530 fun (v532 : Value) (l533 : List Value) ↦
  tI IntKind.u32 v532 fun (n534 : Int) ↦
  tCons l533 fun (v535 : Value) (l536 : List Value) ↦
  tI IntKind.u32 v535 fun (n537 : Int) ↦
  tNil l536
  (K
  (Value.tuple
  (Array.mk
  [Value.agg
  (Array.mk
  [Value.int IntKind.i64 n518,
  Value.slice (Sl.a s521) (Sl.n s521) (1 : Nat),
  Value.int IntKind.u32 n524,
  Value.slice (Sl.a s527) (Sl.n s527) (1 : Nat)]),
  Value.agg
  (Array.mk
  [Value.int IntKind.i64 n531, Value.int IntKind.u32 n534,
  Value.int IntKind.u32 n537]),
  Value.int IntKind.i64 (120 : Int)]))
  σ514)))))))) := by
  intros
  kernel_rfl

end Go.AI
