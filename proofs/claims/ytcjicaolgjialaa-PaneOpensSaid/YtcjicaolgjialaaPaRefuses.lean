/- Lemmas of the abstract condition ahead of code (a part of the library that the claim's proof stands on); they hold with no condition but those that each names. -/
import Derived.Test.YtcjicaolgjialaaPaResizes
set_option linter.unusedSimpArgs false
set_option linter.unusedVariables false
set_option maxRecDepth 10000
/- PaneRefuses: a call that is refused changes nothing; no condition but those that each names. -/
namespace Go.AI
open Go.Proofs Go.Pane
section
variable {σ : AS} {K : Value → AS → Prop} {X F0 fr : List (Nat × AObj)} {t m x y c : Nat} {n W H W1 H1 root last b : Int} {L : List Win} {tr : Option T} {ws : List PW} {l : List ActM} {a : Option Addr}
abbrev j11 : List Bool := [true, true, true, true, true, true, true]
theorem refuses_end {er : Int} (ok : Ok (wl ws) last tr) (hb : BornOk ws c) (hW : 0 ≤ W ∧ W ≤ 1000) (hH : 0 ≤ H ∧ H ≤ 1000) (hR : RIn y W H last (wl ws) F0) (h : er ≠ 0 → PS t m W H last ws c F0 σ) (hK : ∀ σ', K (.bool true) σ') :
    JoinS (jn Try.prog hintsS (Tri Try.prog) 11 j11 [] K) [(11, some (ptr t)), (13, some (ptr y)), (14, some (i64 er))] σ := by
  refine ⟨?_⟩
  rw [s11j]
  refine beq_mk (fun _ => c13' hK) (fun g => ?_)
  obtain ⟨Z, HZ, hZ, PZ⟩ := (h g).view
  refine c34 (Int.le_refl _) ok hb rfl hW.1 hW.2 hH.1 hH.2 HZ PZ (hR.mono hZ) fun σ3 new H3 => ?_
  rw [tB_bool, bm_true]
  exact c13' hK
theorem refuses_arr {i0 : Nat} {k1 a1 b1 c1 z : Int} {near : Bool} (ok : Ok (wl ws) last tr) (hb : BornOk ws c) (hact : ActOk b1 c1 z) (hW : 0 ≤ W ∧ W ≤ 1000) (hH : 0 ≤ H ∧ H ≤ 1000) (hR : RIn y W H last (wl ws) F0) (hi : (i0, AObj.row .plain (actL k1 a1 b1 c1 z near)) ∈ F0) (S : PS t m W H last ws c F0 σ) (hK : ∀ σ', K (.bool true) σ') :
    ldc σ ⟨i0, 0 + 1, none⟩ fun v40 => tI .i64 v40 fun n41 => ldc σ ⟨i0, 0 + 2, none⟩ fun v42 => tI .i64 v42 fun n43 => ldc σ ⟨i0, 0 + 4, none⟩ fun v44 => tI .u32 v44 fun n45 => ldc σ ⟨i0, 0 + 3, none⟩ fun v46 => tI .i64 v46 fun n47 =>
    Tri Try.prog 36 [ptr t, i64 n41, i64 n43, u32 n45, i64 n47] σ fun v48 σ49 => tI .i64 v48 fun n50 => Tri Try.prog 23 [i64 n50] σ49 fun v51 σ52 => tI .i64 v51 fun n53 => JoinS (jn Try.prog hintsS (Tri Try.prog) 11 j11 [] K) [(11, some (ptr t)), (13, some (ptr y)), (14, some (i64 n53))] σ52 := by
  obtain ⟨F, hF, Hh⟩ := S
  have mem : (i0, AObj.row .plain (actL k1 a1 b1 c1 z near)) ∈ progL t m W H (rootL (wl ws)) last ws c F := List.mem_cons_of_mem _ (List.mem_cons_of_mem _ (List.mem_append_right _ (hF _ hi)))
  refine ldm Hh mem rfl ?_
  rw [tI_int]
  refine ldm Hh mem rfl ?_
  rw [tI_int]
  refine ldm Hh mem rfl ?_
  rw [tI_int]
  refine ldm Hh mem rfl ?_
  rw [tI_int]
  refine c36 ok hact.b Hh (fun hE σ1 new H1 => ?_) (fun hE σ1 ws1 new hw1 hb1 H1 => ?_)
  · rw [tI_int]
    refine c23 ?_
    rw [tI_int]
    exact refuses_end ok hb hW hH hR (fun _ => .of hF H1) hK
  · rw [tI_int]
    refine c23 ?_
    rw [tI_int]
    exact refuses_end (m := m) (W := W) (H := H) ok hb hW hH hR (fun g => absurd rfl g) hK
theorem refuses_size {i0 : Nat} {k1 a1 b1 c1 z : Int} {near : Bool} (ok : Ok (wl ws) last tr) (hb : BornOk ws c) (hW : 0 ≤ W ∧ W ≤ 1000) (hH : 0 ≤ H ∧ H ≤ 1000) (hR : RIn y W H last (wl ws) F0) (hi : (i0, AObj.row .plain (actL k1 a1 b1 c1 z near)) ∈ F0) (S : PS t m W H last ws c F0 σ) (hK : ∀ σ', K (.bool true) σ') :
    ldc σ ⟨i0, 0 + 1, none⟩ fun v54 => tI .i64 v54 fun n55 => ldc σ ⟨i0, 0 + 2, none⟩ fun v56 => tI .i64 v56 fun n57 =>
    Tri Try.prog 37 [ptr t, i64 n55, i64 n57] σ fun v58 σ59 => tI .i64 v58 fun n60 => Tri Try.prog 23 [i64 n60] σ59 fun v61 σ62 => tI .i64 v61 fun n63 => JoinS (jn Try.prog hintsS (Tri Try.prog) 11 j11 [] K) [(11, some (ptr t)), (13, some (ptr y)), (14, some (i64 n63))] σ62 := by
  obtain ⟨F, hF, Hh⟩ := S
  have mem : (i0, AObj.row .plain (actL k1 a1 b1 c1 z near)) ∈ progL t m W H (rootL (wl ws)) last ws c F := List.mem_cons_of_mem _ (List.mem_cons_of_mem _ (List.mem_append_right _ (hF _ hi)))
  refine ldm Hh mem rfl ?_
  rw [tI_int]
  refine ldm Hh mem rfl ?_
  rw [tI_int]
  refine c37 Hh (fun hE => ?_) (fun hE σ1 H1 => ?_)
  · rw [tI_int]
    refine c23 ?_
    rw [tI_int]
    exact refuses_end ok hb hW hH hR (fun _ => ⟨F, hF, Hh⟩) hK
  · rw [tI_int]
    refine c23 ?_
    rw [tI_int]
    exact refuses_end (m := m) (W := W) (H := H) ok hb hW hH hR (fun g => absurd rfl g) hK
theorem refuses_open {i0 : Nat} {k1 a1 b1 c1 z : Int} {near : Bool} (ok : Ok (wl ws) last tr) (hb : BornOk ws c) (hl0 : 0 ≤ last) (hl1 : last ≤ 1000) (hact : ActOk b1 c1 z) (hW : 0 ≤ W ∧ W ≤ 1000) (hH : 0 ≤ H ∧ H ≤ 1000) (hR : RIn y W H last (wl ws) F0) (hi : (i0, AObj.row .plain (actL k1 a1 b1 c1 z near)) ∈ F0) (S : PS t m W H last ws c F0 σ) (hK : ∀ σ', K (.bool true) σ') :
    ldc σ ⟨i0, 0 + 1, none⟩ fun v64 => tI .i64 v64 fun n65 => ldc σ ⟨i0, 0 + 2, none⟩ fun v66 => tI .i64 v66 fun n67 => ldc σ ⟨i0, 0 + 4, none⟩ fun v68 => tI .u32 v68 fun n69 => ldc σ ⟨i0, 0 + 3, none⟩ fun v70 => tI .i64 v70 fun n71 =>
    Tri Try.prog 22 [ptr t, i64 n65, i64 n67, u32 n69, i64 n71] σ fun v72 σ73 => tTup v72 fun l74 => pSome l74[0]? fun u75 => tI .i64 u75 fun n76 => tTup v72 fun l77 => pSome l77[1]? fun u78 => tI .i64 u78 fun n79 =>
    Tri Try.prog 23 [i64 n79] σ73 fun v80 σ81 => tI .i64 v80 fun n82 => JoinS (jn Try.prog hintsS (Tri Try.prog) 11 j11 [] K) [(11, some (ptr t)), (13, some (ptr y)), (14, some (i64 n82))] σ81 := by
  obtain ⟨F, hF, Hh⟩ := S
  have mem : (i0, AObj.row .plain (actL k1 a1 b1 c1 z near)) ∈ progL t m W H (rootL (wl ws)) last ws c F := List.mem_cons_of_mem _ (List.mem_cons_of_mem _ (List.mem_append_right _ (hF _ hi)))
  refine ldm Hh mem rfl ?_
  rw [tI_int]
  refine ldm Hh mem rfl ?_
  rw [tI_int]
  refine ldm Hh mem rfl ?_
  rw [tI_int]
  refine ldm Hh mem rfl ?_
  rw [tI_int]
  refine c22 ok hb rfl hl0 hl1 hact.b hact.z Hh (fun hE => ?_) (fun hE σ1 ws1 c' root' hw1 hr1 hb1 H1 => ?_)
  · simp only [tTup_tup, pSome_some, List.getElem?_cons_zero, List.getElem?_cons_succ, tI_int]
    refine c23 ?_
    rw [tI_int]
    exact refuses_end ok hb hW hH hR (fun _ => ⟨F, hF, Hh⟩) hK
  · simp only [tTup_tup, pSome_some, List.getElem?_cons_zero, List.getElem?_cons_succ, tI_int]
    refine c23 ?_
    rw [tI_int]
    exact refuses_end (m := m) (W := W) (H := H) ok hb hW hH hR (fun g => absurd rfl g) hK
theorem refuses_law {p q k1 a1 b1 c1 z : Int} {near : Bool} (hp : 0 ≤ p ∧ p ≤ 255) (hq : 0 ≤ q ∧ q ≤ 255) (Hh : Has σ X) (ha : RdA a l X) (ho : ∀ q ∈ l, ActOk q.b q.c q.z) (hact : ActOk b1 c1 z) (hK : ∀ σ', K (.bool true) σ') :
    Tri Try.prog 11 [.int .u8 p, .int .u8 q, .slice a l.length 6, .agg ⟨actL k1 a1 b1 c1 z near⟩] σ K := tri_in (by
  rw [s11]
  refine newAt_mk Hh fun i0 σ0 H0 => ?_
  refine bmd_mk (fun _ => c13' hK) (fun hl => ?_)
  refine c14 hp hq fun w h hw hh => ?_
  simp only [tTup_tup, pSome_some, List.getElem?_cons_zero, List.getElem?_cons_succ, tI_int]
  have ha0 : RdA a l ((i0, .row .plain (actL k1 a1 b1 c1 z near)) :: X) := by
    rcases ha with h | ⟨r, h1, h2⟩
    · exact .inl h
    · exact .inr ⟨r, h1, List.mem_cons_of_mem _ h2⟩
  refine c15 (by omega) (by omega) H0 ha0 (by omega) ho fun σ1 t m x W H last L tr J _ => ?_
  simp only [tTup_tup, pSome_some, List.getElem?_cons_zero, List.getElem?_cons_succ, tP_ptr]
  rw [ptrEq_some, bm_false]
  obtain ⟨ws, c, aa, e, rw', hw2, hb, hrr, H1⟩ := J.st
  have ok := J.ok
  subst hw2
  have hW : 0 ≤ W ∧ W ≤ 1000 := ⟨J.w0, J.w1⟩
  have hH : 0 ≤ H ∧ H ≤ 1000 := ⟨J.h0, J.h1⟩
  have l0 := J.l0
  have l1 := J.l1
  have hln : (wl ws).length ≤ 1000 := by have := ok.len; omega
  refine c38 hrr (swapPR (A := []) H1) hln fun σ2 y a' e' rw2 bb f sw hr2 hr3 H2 => ?_
  rw [tP_ptr]
  have H3 : Has σ2 (progL t m W H (rootL (wl ws)) last ws c (refL y W H bb f last (wl ws) sw ((i0, .row .plain (actL k1 a1 b1 c1 z near)) :: X))) :=
    swapRP (B := (x, refO W H a' (wl ws).length e' last) :: rw2) H2
  have S : PS t m W H last ws c (refL y W H bb f last (wl ws) sw ((i0, .row .plain (actL k1 a1 b1 c1 z near)) :: X)) σ2 := ⟨_, fun p hp => hp, H3⟩
  have hR : RIn y W H last (wl ws) (refL y W H bb f last (wl ws) sw ((i0, .row .plain (actL k1 a1 b1 c1 z near)) :: X)) := rin_of hr3
  have hi : (i0, AObj.row .plain (actL k1 a1 b1 c1 z near)) ∈ refL y W H bb f last (wl ws) sw ((i0, .row .plain (actL k1 a1 b1 c1 z near)) :: X) := by simp
  generalize refL y W H bb f last (wl ws) sw ((i0, .row .plain (actL k1 a1 b1 c1 z near)) :: X) = F at S hR hi
  clear H3 H2
  obtain ⟨Z, HZ, hZ, _⟩ := S.view
  refine ldm HZ (hZ _ hi) rfl ?_
  rw [tI_int]
  refine beq_mk (fun _ => ?_) (fun _ => beq_mk (fun g5 => beq_mk (fun _ => ?_) (fun g => absurd g5 g)) (fun _ => beq_mk (fun _ => ?_) (fun _ => beq_mk (fun _ => ?_) (fun _ => ?_))))
  · refine ldm HZ (hZ _ hi) rfl ?_
    rw [tI_int]
    obtain ⟨F2, hF, Hh⟩ := S
    refine c28 ok hb rfl Hh (fun hE => ?_) (fun hE σ3 ws3 root3 a3 frg new hw3 hr3 hb3 hs3 H3 => ?_)
    · simp only [tTup_tup, pSome_some, List.getElem?_cons_zero, List.getElem?_cons_succ, tI_int]
      refine tL_ok (e := 0) rfl ?_
      refine c23 ?_
      rw [tI_int]
      exact refuses_end ok hb hW hH hR (fun _ => ⟨F2, hF, Hh⟩) hK
    · simp only [tTup_tup, pSome_some, List.getElem?_cons_zero, List.getElem?_cons_succ, tI_int]
      refine tL_ok hs3.no ?_
      refine c23 ?_
      rw [tI_int]
      exact refuses_end (m := m) (W := W) (H := H) ok hb hW hH hR (fun g => absurd rfl g) hK
  · exact refuses_arr ok hb hact hW hH hR hi S hK
  · exact refuses_arr ok hb hact hW hH hR hi S hK
  · exact refuses_size ok hb hW hH hR hi S hK
  · exact refuses_open ok hb l0 (by omega) hact hW hH hR hi S hK)
end
end Go.AI
