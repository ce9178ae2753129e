/- Lemmas of the abstract condition ahead of code (a part of the library that the claim's proof stands on); they hold with no condition but those that each names. -/
import Derived.Test.YtcjicaolgjialaaPaCloses
set_option linter.unusedSimpArgs false
set_option linter.unusedVariables false
set_option maxRecDepth 10000
/- PaneResizes: another screen, and back; no condition but those that each names. -/
namespace Go.AI
open Go.Proofs Go.Pane
section
variable {σ : AS} {K : Value → AS → Prop} {X F0 fr : List (Nat × AObj)} {t m x c : Nat} {n W H W1 H1 root last b : Int} {L : List Win} {tr : Option T} {ws : List PW} {l : List ActM} {a : Option Addr}
/-- The program's tree, and at least what is told beside it. -/
def PS (t m : Nat) (W H last : Int) (ws : List PW) (c : Nat) (F0 : List (Nat × AObj)) (σ : AS) : Prop := ∃ F, (∀ p ∈ F0, p ∈ F) ∧ Has σ (progL t m W H (rootL (wl ws)) last ws c F)
theorem PS.of {A F : List (Nat × AObj)} (hF : ∀ p ∈ F0, p ∈ F) (h : Has σ (A ++ progL t m W H (rootL (wl ws)) last ws c F)) : PS t m W H last ws c F0 σ := ⟨F ++ A, fun p hp => List.mem_append_left _ (hF p hp), front h⟩
theorem p17 (S : PS t m W H last ws c F0 σ) (ok : Ok (wl ws) last tr) (hW : 0 ≤ W ∧ W ≤ 1000) (hH : 0 ≤ H ∧ H ≤ 1000) (hK : ∀ σ', PS t m W H last ws c F0 σ' → K (.tuple ⟨[rV (rho (wl ws) W H n), .bool (hasL (wl ws) n)]⟩) σ') : Tri Try.prog 17 [ptr t, i64 n] σ K := by
  obtain ⟨F, hF, Hh⟩ := S
  exact c17' ok hW.1 hW.2 hH.1 hH.2 Hh pin_of fun σ' new H' => hK σ' (.of hF H')
theorem p37 {w h : Int} (S : PS t m W H last ws c F0 σ) (hf : (0 ≤ w ∧ w ≤ 1000) ∧ (0 ≤ h ∧ h ≤ 1000)) (hK : ∀ σ', PS t m w h last ws c F0 σ' → K (i64 0) σ') : Tri Try.prog 37 [ptr t, i64 w, i64 h] σ K := by
  obtain ⟨F, hF, Hh⟩ := S
  have e : (fitsB w && fitsB h) = true := by unfold fitsB; rw [decide_eq_true hf.1, decide_eq_true hf.2]; rfl
  exact c37 Hh (fun g => by rw [e] at g; cases g) fun _ σ' H' => hK σ' ⟨F, hF, H'⟩
theorem p27 (S : PS t m W H last ws c F0 σ) (hK : K (i64 (rootL (wl ws))) σ) : Tri Try.prog 27 [ptr t] σ K := by
  obtain ⟨F, hF, Hh⟩ := S
  exact c27 Hh pin_of hK
theorem p16 (S : PS t m W H last ws c F0 σ) (ok : Ok (wl ws) last tr) (hb : BornOk ws c) (hK : ∀ σ' a fr', SlR a 1 ((wl ws).map (·.n)) fr' → PS t m W H last ws c (fr' ++ F0) σ' → K (.slice a ((wl ws).map (·.n)).length 1) σ') : Tri Try.prog 16 [ptr t] σ K := by
  obtain ⟨F, hF, Hh⟩ := S
  have hl2 : ws.length ≤ 1000 := by
    have h1 : (wl ws).length = ws.length := by unfold wl; simp
    have := ok.len
    omega
  have hlm : ((wl ws).map (·.n)).length = (wl ws).length := List.length_map ..
  refine c16 Hh pin_of hb ok.srt hl2 fun σ' a' new fr' hs H' => ?_
  rw [← hlm]
  rw [← List.append_assoc] at H'
  refine hK σ' a' fr' hs ⟨_, fun p hp => ?_, front H'⟩
  rcases List.mem_append.1 hp with h | h
  · exact List.mem_append_right _ (List.mem_append_left _ h)
  · exact List.mem_append_left _ (hF p h)
theorem pnew {G : Nat → AS → Prop} {o : AObj} (S : PS t m W H last ws c F0 σ) (hG : ∀ i σ', PS t m W H last ws c ((i, o) :: F0) σ' → G i σ') : newAt σ o G := by
  obtain ⟨F, hF, Hh⟩ := S
  refine newAt_mk Hh fun i σ' H' => hG i σ' ⟨F ++ [(i, o)], fun p hp => ?_, front (A := [(i, o)]) H'⟩
  rcases List.mem_cons.1 hp with h | h
  · exact List.mem_append_right _ (by rw [h]; simp)
  · exact List.mem_append_left _ (hF p h)
/-- A row of a rectangle that is filled at once. -/
theorem pnewR {G : Nat → AS → Prop} {r : R4} (S : PS t m W H last ws c F0 σ) (hG : ∀ i σ', PS t m W H last ws c ((i, .row .plain (rL r)) :: F0) σ' → G i σ') :
    newAt σ (.row .plain [i64 0, i64 0, i64 0, i64 0]) fun i σ' => puts σ' ⟨i, 0, none⟩ [i64 r.x, i64 r.y, i64 r.w, i64 r.h] fun σ'' => G i σ'' := by
  obtain ⟨F, hF, Hh⟩ := S
  refine newAt_mk Hh fun i σ' H' => ?_
  refine puts_mk H' 0 rfl rfl (by simp) fun σ'' H2 => ?_
  have H3 : Has σ'' ([(i, .row .plain (rL r))] ++ progL t m W H (rootL (wl ws)) last ws c F) := H2
  refine hG i σ'' ⟨F ++ [(i, .row .plain (rL r))], fun p hp => ?_, front H3⟩
  rcases List.mem_cons.1 hp with h | h
  · exact List.mem_append_right _ (by rw [h]; simp)
  · exact List.mem_append_left _ (hF p h)
theorem PS.view (S : PS t m W H last ws c F0 σ) : ∃ Z, Has σ Z ∧ (∀ p ∈ F0, p ∈ Z) ∧ PIn t m W H (rootL (wl ws)) last ws c Z := by
  obtain ⟨F, hF, Hh⟩ := S
  exact ⟨_, Hh, fun p hp => List.mem_cons_of_mem _ (List.mem_cons_of_mem _ (List.mem_append_right _ (hF p hp))), pin_of⟩
theorem PS.sub {F1 : List (Nat × AObj)} (S : PS t m W H last ws c F0 σ) (h : ∀ p ∈ F1, p ∈ F0) : PS t m W H last ws c F1 σ := by
  obtain ⟨F, hF, Hh⟩ := S
  exact ⟨F, fun p hp => hF p (h p hp), Hh⟩
theorem rho_root (ok : Ok L last tr) (h : L ≠ []) : hasL L (rootL L) = true ∧ rho L W H (rootL L) = ⟨0, 0, W, H⟩ := by
  cases tr with
  | none => exact absurd (List.perm_nil.1 ok.perm) h
  | some t =>
    have a : Pane.At (some t) [] t := rfl
    have e := ok.at_root a
    rw [e]
    exact ⟨ok.has_at a, (ok.rho a).trans rfl⟩
theorem rho_zero (ok : Ok L last tr) {w : Win} (hw : w ∈ L) : rho L 0 0 w.n = zeroR := by
  obtain ⟨fs, s, a, e⟩ := ok.at_has (n := w.n) (hasL_iff.2 ⟨w, hw, rfl⟩)
  rw [← e, ok.rho a]
  exact ok.zero fs s a
theorem resizes_loop {bb : Option Addr} (ok : Ok (wl ws) last tr) (hb : BornOk ws c) (hW : 0 ≤ W ∧ W ≤ 1000) (hH : 0 ≤ H ∧ H ≤ 1000) (hR : RIn x W H last (wl ws) F0) (hr : RdI bb 1 ((wl ws).map (·.n)) F0) (S : PS t m 0 0 last ws c F0 σ) (hK : ∀ σ', K (.bool true) σ') :
    ALoop (fl Try.prog hintsS (Tri Try.prog) 10 [true, true, true, true, true, true, true, true, true, true, true, false, true, false] [] K) [(11, some (i64 W)), (12, some (i64 H)), (13, some (ptr t)), (14, some (ptr x)), (17, some (.slice bb ((wl ws).map (·.n)).length 1)), (18, some (i64 0))] σ := by
  have hlm : ((wl ws).map (·.n)).length = (wl ws).length := List.length_map ..
  have len := ok.len
  refine aloop (fun (i : Nat) rg σ' => i ≤ (wl ws).length ∧ PS t m 0 0 last ws c F0 σ' ∧ rg = [(11, some (i64 W)), (12, some (i64 H)), (13, some (ptr t)), (14, some (ptr x)), (17, some (.slice bb ((wl ws).map (·.n)).length 1)), (18, some (i64 i))]) (fun i => (wl ws).length - i) ?_ (a := 0) ⟨Nat.zero_le _, S, rfl⟩
  rintro i rg σ1 Y hY ⟨hi, S1, rfl⟩
  rw [s10l]
  refine bmd_mk (fun g => ?_) (fun g => ?_)
  · rw [hlm] at g
    obtain ⟨v, hv⟩ : ∃ v, (wl ws)[i]? = some v := ⟨(wl ws)[i]'(by omega), List.getElem?_eq_getElem _⟩
    have hvm := List.mem_of_getElem? hv
    obtain ⟨Z, HZ, hZ, _⟩ := S1.view
    refine rdI (hr.mono hZ) HZ (v := v.n) (by rw [List.getElem?_map, hv]; rfl) rfl ?_
    rw [tI_int]
    refine p17 S1 ok ⟨by omega, by omega⟩ ⟨by omega, by omega⟩ fun σ2 S2 => ?_
    rw [rho_zero ok hvm]
    refine tupRB ?_
    refine pnewR S2 fun i23 σ3 S3 => ?_
    obtain ⟨Z3, HZ3, hZ3, _⟩ := S3.view
    refine ldsm HZ3 (hZ3 _ (List.mem_cons_self ..)) (by simp) ?_
    simp only [List.drop_zero, List.take_succ_cons, List.take_zero, tCons, tI_int, tNil]
    rw [show (!(zeroR.x == 0 && (zeroR.y == 0 && (zeroR.w == 0 && (zeroR.h == 0 && true))))) = false from rfl, bm_false]
    have e1 : IntKind.wrap .i64 ((i : Int) + 1) = ((i + 1 : Nat) : Int) := by rw [wrap64 (by omega) (by omega)]; omega
    rw [e1]
    exact hY (i + 1) _ _ (by omega) ⟨by omega, S3.sub fun p hp => List.mem_cons_of_mem _ hp, rfl⟩
  · refine p37 S1 ⟨hW, hH⟩ fun σ2 S2 => ?_
    rw [tI_int]
    refine c23 ?_
    rw [tI_int]
    refine beq_mk (fun _ => ?_) (fun g => absurd rfl g)
    obtain ⟨Z, HZ, hZ, PZ⟩ := S2.view
    refine c34 (Int.le_refl _) ok hb rfl hW.1 hW.2 hH.1 hH.2 HZ PZ (hR.mono hZ) fun σ3 new H3 => ?_
    rw [tB_bool, bm_true]
    exact c13' hK
theorem resizes_law {p q cc dd : Int} (hp : 0 ≤ p ∧ p ≤ 255) (hq : 0 ≤ q ∧ q ≤ 255) (hcc : 0 ≤ cc ∧ cc ≤ 255) (hdd : 0 ≤ dd ∧ dd ≤ 255) (Hh : Has σ X) (ha : RdA a l X) (ho : ∀ q ∈ l, ActOk q.b q.c q.z) (hK : ∀ σ', K (.bool true) σ') :
    Tri Try.prog 10 [.int .u8 p, .int .u8 q, .slice a l.length 6, .int .u8 cc, .int .u8 dd] σ K := tri_in (by
  rw [s10]
  refine bmd_mk (fun _ => c13' hK) (fun hl => ?_)
  refine c14 hp hq fun w h hw hh => ?_
  simp only [tTup_tup, pSome_some, List.getElem?_cons_zero, List.getElem?_cons_succ, tI_int]
  refine c15 (by omega) (by omega) Hh ha (by omega) ho fun σ1 t m x W H last L tr J _ => ?_
  simp only [tTup_tup, pSome_some, List.getElem?_cons_zero, List.getElem?_cons_succ, tP_ptr]
  rw [ptrEq_some, bm_false, add_none]
  obtain ⟨ws, c, aa, e, rw', hw2, hb, hrr, H1⟩ := J.st
  have ok := J.ok
  subst hw2
  have hW : 0 ≤ W ∧ W ≤ 1000 := ⟨J.w0, J.w1⟩
  have hH : 0 ≤ H ∧ H ≤ 1000 := ⟨J.h0, J.h1⟩
  have mem : (x, refO W H aa (wl ws).length e last) ∈ progL t m W H (rootL (wl ws)) last ws c (refL x W H aa e last (wl ws) rw' X) := by simp
  refine ldm H1 mem rfl ?_
  rw [tI_int]
  refine ldm H1 mem rfl ?_
  rw [tI_int]
  have S1 : PS t m W H last ws c (refL x W H aa e last (wl ws) rw' X) σ1 := ⟨_, fun p hp => hp, H1⟩
  have R1 : RIn x W H last (wl ws) (refL x W H aa e last (wl ws) rw' X) := rin_of hrr
  generalize refL x W H aa e last (wl ws) rw' X = F at S1 R1
  have wc : IntKind.wrap .i64 cc = cc := wrap64 (by omega) (by omega)
  have wd : IntKind.wrap .i64 dd = dd := wrap64 (by omega) (by omega)
  rw [wc, wd]
  refine p37 S1 ⟨⟨by omega, by omega⟩, ⟨by omega, by omega⟩⟩ fun σ2 S2 => ?_
  rw [tI_int]
  refine c23 ?_
  rw [tI_int]
  refine bne_mk (fun g => absurd rfl g) (fun _ => ?_)
  refine p27 S2 ?_
  rw [tI_int]
  refine p17 S2 ok ⟨by omega, by omega⟩ ⟨by omega, by omega⟩ fun σ3 S3 => ?_
  refine tupRB ?_
  refine pnewR S3 fun i55 σ4 S4 => ?_
  obtain ⟨Z, HZ, hZ, PZ⟩ := S4.view
  have R4 : RIn x W H last (wl ws) Z := R1.mono fun p hp => hZ p (List.mem_cons_of_mem _ hp)
  refine lenR HZ R4 fun s60 _ => ?_
  simp only
  have S4' : PS t m cc dd last ws c F σ4 := S4.sub fun p hp => List.mem_cons_of_mem _ hp
  have go : Tri Try.prog 37 [ptr t, i64 0, i64 0] σ4 fun v74 σ75 => tI .i64 v74 fun n76 => Tri Try.prog 23 [i64 n76] σ75 fun v77 σ78 => tI .i64 v77 fun n79 => bmatch (n79 != 0) (K (.bool false) σ78) (Tri Try.prog 16 [ptr t] σ78 fun v80 σ81 => tL 1 v80 fun s82 =>
      ALoop (fl Try.prog hintsS (Tri Try.prog) 10 [true, true, true, true, true, true, true, true, true, true, true, false, true, false] [] K) [(11, some (i64 W)), (12, some (i64 H)), (13, some (ptr t)), (14, some (ptr x)), (17, some (.slice s82.a s82.n 1)), (18, some (i64 0))] σ81) := by
    refine p37 S4' ⟨⟨by omega, by omega⟩, ⟨by omega, by omega⟩⟩ fun σ5 S5 => ?_
    rw [tI_int]
    refine c23 ?_
    rw [tI_int]
    refine bne_mk (fun g => absurd rfl g) (fun _ => ?_)
    refine p16 S5 ok hb fun σ6 bb fr' hs S6 => ?_
    refine tL_ok hs.no ?_
    exact resizes_loop ok hb hW hH (R1.mono fun p hp => List.mem_append_right _ hp) (hs.rd fun p hp => List.mem_append_left _ hp) S6 hK
  by_cases hL : wl ws = []
  · have e1 : hasL (wl ws) (rootL (wl ws)) = false := by rw [hL]; rfl
    have e2 : decide (((wl ws).length : Int) > 0) = false := decide_eq_false (by rw [hL]; simp)
    rw [e1, e2]
    rw [show (!(false == false)) = false from rfl, bm_false, bm_false]
    exact go
  · obtain ⟨e1, e2⟩ := rho_root (W := cc) (H := dd) ok hL
    have e3 : decide (((wl ws).length : Int) > 0) = true := decide_eq_true (by have := List.length_pos_iff.2 hL; omega)
    rw [e1, e3]
    rw [show (!(true == true)) = false from rfl, bm_false, bm_true]
    refine ldsm HZ (hZ _ (List.mem_cons_self ..)) (by simp) ?_
    simp only [List.drop_zero, List.take_succ_cons, List.take_zero, tCons, tI_int, tNil]
    rw [e2]
    simp only [beq_self_eq_true, Bool.and_self, Bool.and_true, Bool.not_true, bm_false]
    exact go)
end
end Go.AI
