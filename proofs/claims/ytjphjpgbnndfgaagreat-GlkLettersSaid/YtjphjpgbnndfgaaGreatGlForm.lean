/- The conditions ahead of the calls of the program's functions, reckoned as far as they go (equations that the kernel checks); no condition. -/
import Derived.Test.YtjphjpgbnndfgaaGreatGlSoft
import Derived.Test.YtjphjpgbnndfgaaGreatAISep
set_option maxRecDepth 1000000
set_option linter.unusedVariables false
namespace Go.AI
open Go.Proofs
theorem s4 : ∀ (T : Go.AI.Ct) (sel : Int) (a b : Option Go.Addr) (an bn : Nat) (name : ByteArray) (σ : Go.AI.AS) (K : Go.Value → Go.AI.AS → Prop),
  Go.AI.fw Go.Proofs.Tryz.prog Go.AI.hintsS T (4 : Nat) [Go.Value.int Go.IntKind.u32 sel, Go.Value.slice a an (1 : Nat), Go.Value.string name, Go.Value.slice b bn (1 : Nat)] σ K =
    Go.AI.bmatch (Decidable.decide ((↑an : Int) > (20 : Int))) (T (11 : Nat) [] σ fun (v0 : Go.Value) (σ1 : Go.AI.AS) ↦ Go.AI.tB v0 fun (b2 : Bool) ↦ K (Go.Value.bool b2) σ1)
      (Go.AI.bmatch (Decidable.decide ((↑(ByteArray.size name) : Int) > (2000 : Int))) (T (11 : Nat) [] σ fun (v3 : Go.Value) (σ4 : Go.AI.AS) ↦ Go.AI.tB v3 fun (b5 : Bool) ↦ K (Go.Value.bool b5) σ4)
        (Go.AI.bmatch (Decidable.decide ((↑bn : Int) > (2000 : Int))) (T (11 : Nat) [] σ fun (v6 : Go.Value) (σ7 : Go.AI.AS) ↦ Go.AI.tB v6 fun (b8 : Bool) ↦ K (Go.Value.bool b8) σ7)
          (T (7 : Nat) [] σ fun (v9 : Go.Value) (σ10 : Go.AI.AS) ↦
            Go.AI.tP v9 fun (b11 : Option Go.Addr) ↦
              T (9 : Nat) [Go.Value.pointer Option.none, Go.Value.iface (30 : Nat) (Go.Value.pointer b11), Go.Value.int Go.IntKind.u32 sel, Go.Value.slice a an (1 : Nat)] σ10
                fun (v12 : Go.Value) (σ13 : Go.AI.AS) ↦
                Go.AI.tTup v12 fun (l14 : List Go.Value) ↦
                  Go.AI.pSome l14[(0 : Nat)]? fun (u15 : Go.Value) ↦
                    Go.AI.tI Go.IntKind.u32 u15 fun (n16 : Int) ↦
                      Go.AI.tTup v12 fun (l17 : List Go.Value) ↦
                        Go.AI.pSome l17[(1 : Nat)]? fun (u18 : Go.Value) ↦
                          Go.AI.tI Go.IntKind.i64 u18 fun (n19 : Int) ↦
                            T (12 : Nat) [Go.Value.pointer Option.none, Go.Value.int Go.IntKind.u32 (1 : Int)] σ13 fun (v20 : Go.Value) (σ21 : Go.AI.AS) ↦
                              T (13 : Nat) [Go.Value.pointer Option.none, Go.Value.string name] σ21 fun (v22 : Go.Value) (σ23 : Go.AI.AS) ↦
                                Go.AI.tTup v22 fun (l24 : List Go.Value) ↦
                                  Go.AI.pSome l24[(0 : Nat)]? fun (u25 : Go.Value) ↦
                                    Go.AI.tL (1 : Nat) u25 fun (s26 : Go.AI.Sl) ↦
                                      Go.AI.tTup v22 fun (l27 : List Go.Value) ↦
                                        Go.AI.pSome l27[(1 : Nat)]? fun (u28 : Go.Value) ↦
                                          Go.AI.tB u28 fun (b29 : Bool) ↦
                                            T (5 : Nat) [Go.Value.int Go.IntKind.i64 (5 : Int), Go.Value.int Go.IntKind.i64 (5 : Int), Go.Value.slice Option.none (0 : Nat) (0 : Nat)] σ23
                                              fun (v30 : Go.Value) (σ31 : Go.AI.AS) ↦
                                              Go.AI.tTup v30 fun (l32 : List Go.Value) ↦
                                                Go.AI.pSome l32[(0 : Nat)]? fun (u33 : Go.Value) ↦
                                                  Go.AI.tP u33 fun (b34 : Option Go.Addr) ↦
                                                    Go.AI.tTup v30 fun (l35 : List Go.Value) ↦
                                                      Go.AI.pSome l35[(1 : Nat)]? fun (u36 : Go.Value) ↦
                                                        Go.AI.tI Go.IntKind.i64 u36 fun (n37 : Int) ↦
                                                          T (8 : Nat) [Go.Value.int Go.IntKind.i64 n37] σ31 fun (v38 : Go.Value) (σ39 : Go.AI.AS) ↦
                                                            Go.AI.tI Go.IntKind.i64 v38 fun (n40 : Int) ↦
                                                              Go.AI.bmatch (n40 != (0 : Int)) (K (Go.Value.bool Bool.false) σ39)
                                                                (Go.AI.ptrEq σ39 b34 Option.none fun (r41 : Bool) ↦
                                                                  Go.AI.bmatch r41 (K (Go.Value.bool Bool.false) σ39)
                                                                    (T (9 : Nat) [Go.Value.pointer b34, Go.Value.nilIface, Go.Value.int Go.IntKind.u32 sel, Go.Value.slice a an (1 : Nat)] σ39
                                                                      fun (v42 : Go.Value) (σ43 : Go.AI.AS) ↦
                                                                      Go.AI.tTup v42 fun (l44 : List Go.Value) ↦
                                                                        Go.AI.pSome l44[(0 : Nat)]? fun (u45 : Go.Value) ↦
                                                                          Go.AI.tI Go.IntKind.u32 u45 fun (n46 : Int) ↦
                                                                            Go.AI.tTup v42 fun (l47 : List Go.Value) ↦
                                                                              Go.AI.pSome l47[(1 : Nat)]? fun (u48 : Go.Value) ↦
                                                                                Go.AI.tI Go.IntKind.i64 u48 fun (n49 : Int) ↦
                                                                                  T (14 : Nat) [Go.Value.pointer Option.none, Go.Value.int Go.IntKind.u32 sel] σ43 fun (v50 : Go.Value) (σ51 : Go.AI.AS) ↦
                                                                                    Go.AI.tTup v50 fun (l52 : List Go.Value) ↦
                                                                                      Go.AI.pSome l52[(0 : Nat)]? fun (u53 : Go.Value) ↦
                                                                                        Go.AI.tL (1 : Nat) u53 fun (s54 : Go.AI.Sl) ↦
                                                                                          Go.AI.tTup v50 fun (l55 : List Go.Value) ↦
                                                                                            Go.AI.pSome l55[(1 : Nat)]? fun (u56 : Go.Value) ↦
                                                                                              Go.AI.tB u56 fun (b57 : Bool) ↦
                                                                                                T (15 : Nat) [Go.Value.pointer Option.none, Go.Value.int Go.IntKind.u32 sel, Go.Value.slice b bn (1 : Nat)] σ51
                                                                                                  fun (v58 : Go.Value) (σ59 : Go.AI.AS) ↦
                                                                                                  Go.AI.tB v58 fun (b60 : Bool) ↦
                                                                                                    Go.AI.bmatch (!b60)
                                                                                                      (Go.AI.bmatch (!b57)
                                                                                                        (T (16 : Nat) [Go.Value.pointer Option.none] σ59 fun (v61 : Go.Value) (σ62 : Go.AI.AS) ↦
                                                                                                          Go.AI.tL (1 : Nat) v61 fun (s63 : Go.AI.Sl) ↦
                                                                                                            Go.AI.bmatch ((↑(Go.AI.Sl.n s63) : Int) == (0 : Int))
                                                                                                              (T (8 : Nat) [Go.Value.int Go.IntKind.i64 n19] σ62 fun (v64 : Go.Value) (σ65 : Go.AI.AS) ↦
                                                                                                                Go.AI.tI Go.IntKind.i64 v64 fun (n66 : Int) ↦
                                                                                                                  Go.AI.bmatch (n66 == (8 : Int))
                                                                                                                    (T (8 : Nat) [Go.Value.int Go.IntKind.i64 n49] σ65 fun (v67 : Go.Value) (σ68 : Go.AI.AS) ↦
                                                                                                                      Go.AI.tI Go.IntKind.i64 v67 fun (n69 : Int) ↦
                                                                                                                        Go.AI.bmatch (n69 == (8 : Int))
                                                                                                                          (Go.AI.bmatch (!b29)
                                                                                                                            (T (17 : Nat)
                                                                                                                              [Go.Value.pointer Option.none, Go.Value.string name, Go.Value.slice b bn (1 : Nat)] σ68
                                                                                                                              fun (v70 : Go.Value) (σ71 : Go.AI.AS) ↦
                                                                                                                              Go.AI.tI Go.IntKind.i64 v70 fun (n72 : Int) ↦
                                                                                                                                T (8 : Nat) [Go.Value.int Go.IntKind.i64 n72] σ71 fun (v73 : Go.Value) (σ74 : Go.AI.AS) ↦
                                                                                                                                  Go.AI.tI Go.IntKind.i64 v73 fun (n75 : Int) ↦
                                                                                                                                    Go.AI.bmatch (n75 == (8 : Int))
                                                                                                                                      (T (18 : Nat) [Go.Value.pointer Option.none] σ74
                                                                                                                                        fun (v76 : Go.Value) (σ77 : Go.AI.AS) ↦
                                                                                                                                        Go.AI.tL (2 : Nat) v76 fun (s78 : Go.AI.Sl) ↦
                                                                                                                                          Go.AI.bmatch ((↑(Go.AI.Sl.n s78) : Int) == (0 : Int))
                                                                                                                                            (T (19 : Nat)
                                                                                                                                              [Go.Value.pointer Option.none, Go.Value.int Go.IntKind.u32 (1 : Int)] σ77
                                                                                                                                              fun (v79 : Go.Value) (σ80 : Go.AI.AS) ↦
                                                                                                                                              Go.AI.tL (1 : Nat) v79 fun (s81 : Go.AI.Sl) ↦
                                                                                                                                                Go.AI.bmatch ((↑(Go.AI.Sl.n s81) : Int) == (0 : Int))
                                                                                                                                                  (T (20 : Nat)
                                                                                                                                                    [Go.Value.pointer Option.none, Go.Value.int Go.IntKind.u32 (1 : Int)]
                                                                                                                                                    σ80 fun (v82 : Go.Value) (σ83 : Go.AI.AS) ↦
                                                                                                                                                    Go.AI.tL (1 : Nat) v82 fun (s84 : Go.AI.Sl) ↦
                                                                                                                                                      Go.AI.bmatch ((↑(Go.AI.Sl.n s84) : Int) == (0 : Int))
                                                                                                                                                        (T (21 : Nat) [Go.Value.pointer Option.none] σ83
                                                                                                                                                          fun (v85 : Go.Value) (σ86 : Go.AI.AS) ↦
                                                                                                                                                          Go.AI.tI Go.IntKind.i64 v85 fun (n87 : Int) ↦
                                                                                                                                                            Go.AI.bmatch (n87 == (0 : Int))
                                                                                                                                                              (T (22 : Nat) [Go.Value.pointer Option.none] σ86
                                                                                                                                                                fun (v88 : Go.Value) (σ89 : Go.AI.AS) ↦
                                                                                                                                                                Go.AI.tB v88 fun (b90 : Bool) ↦
                                                                                                                                                                  Go.AI.bmatch (!b90)
                                                                                                                                                                    (T (11 : Nat) [] σ89
                                                                                                                                                                      fun (v91 : Go.Value) (σ92 : Go.AI.AS) ↦
                                                                                                                                                                      Go.AI.tB v91 fun (b93 : Bool) ↦
                                                                                                                                                                        K (Go.Value.bool b93) σ92)
                                                                                                                                                                    (K (Go.Value.bool Bool.false) σ89))
                                                                                                                                                              (K (Go.Value.bool Bool.false) σ86))
                                                                                                                                                        (K (Go.Value.bool Bool.false) σ83))
                                                                                                                                                  (K (Go.Value.bool Bool.false) σ80))
                                                                                                                                            (K (Go.Value.bool Bool.false) σ77))
                                                                                                                                      (K (Go.Value.bool Bool.false) σ74))
                                                                                                                            (K (Go.Value.bool Bool.false) σ68))
                                                                                                                          (K (Go.Value.bool Bool.false) σ68))
                                                                                                                    (K (Go.Value.bool Bool.false) σ65))
                                                                                                              (K (Go.Value.bool Bool.false) σ62))
                                                                                                        (K (Go.Value.bool Bool.false) σ59))
                                                                                                      (K (Go.Value.bool Bool.false) σ59)))))) := by
  intros
  kernel_rfl

end Go.AI
