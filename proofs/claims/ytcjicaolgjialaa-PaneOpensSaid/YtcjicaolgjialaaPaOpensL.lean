/- Lemmas of the abstract condition ahead of code (a part of the library that the claim's proof stands on); they hold with no condition but those that each names. -/
import Derived.Test.YtcjicaolgjialaaPaOpens
set_option linter.unusedSimpArgs false
set_option linter.unusedVariables false
set_option maxRecDepth 10000
/- PaneOpens's law; no condition but those that each names. -/
namespace Go.AI
open Go.Proofs Go.Pane
section
variable {σ : AS} {K : Value → AS → Prop} {X F0 fr frq : List (Nat × AObj)} {t m x c : Nat} {n W H W1 H1 root last lr b : Int} {L : List Win} {tr : Option T} {ws : List PW} {l : List ActM} {a : Option Addr}
theorem PQ.of2 {A F : List (Nat × AObj)} (hF : ∀ p ∈ F0, p ∈ F) (h : Has σ (A ++ (frq ++ progL t m W H (rootL (wl ws)) last ws c F))) : PQ t m W H last ws c frq (A ++ F0) σ := by
  refine ⟨F ++ A, fun p hp => ?_, h.perm ?_⟩
  · rcases List.mem_append.1 hp with g | g
    · exact List.mem_append_right _ g
    · exact List.mem_append_left _ (hF p g)
  refine .trans (.append_left _ ?_) (List.perm_append_comm_assoc ..)
  show ((t, treeO W H (rootL (wl ws)) last m) :: (m, mapO ws c) :: (ws.map objM ++ (F ++ A))).Perm (A ++ ((t, treeO W H (rootL (wl ws)) last m) :: (m, mapO ws c) :: (ws.map objM ++ F)))
  rw [← List.append_assoc, ← List.cons_append, ← List.cons_append]
  exact List.perm_append_comm
/-- The rectangles of all windows, gathered. -/
theorem opens_l {split side sz : Int} {pa : Option Addr} (ok : Ok (wl ws) last tr) (hb : BornOk ws c) (l0 : 0 ≤ last) (l1 : last ≤ 1000) (hW : 0 ≤ W ∧ W ≤ 1000) (hH : 0 ≤ H ∧ H ≤ 1000) (hside : 0 ≤ side ∧ side ≤ 255) (hz : 0 ≤ sz ∧ sz < 4294967296) (hs : hasL (wl ws) split = true) (hlen : (wl ws).length ≤ 62)
    (hR : RIn x W H last (wl ws) F0) (hp : RdI pa 1 ((wl ws).map (·.n)) F0) (S : PS t m W H last ws c F0 σ) (hK : ∀ σ', K (.bool true) σ') :
    ALoop (fl Try.prog hintsS (Tri Try.prog) 4 l4l [] K) [(4, some (.int .u8 side)), (5, some (.int .u32 sz)), (15, some (ptr t)), (16, some (ptr x)), (17, some (i64 split)), (18, some (.slice pa ((wl ws).map (·.n)).length 1)), (19, some (.slice none 0 0)), (20, some (i64 0))] σ := by
  have hlm : ((wl ws).map (·.n)).length = (wl ws).length := List.length_map ..
  obtain ⟨F, hF, Hh⟩ := S
  refine aloop (fun (i : Nat) rg σ' => i ≤ (wl ws).length ∧ ∃ a e frq, SlQ a e (((wl ws).take i).map fun w => rho (wl ws) W H w.n) frq ∧ PQ t m W H last ws c frq F0 σ' ∧
    rg = [(4, some (.int .u8 side)), (5, some (.int .u32 sz)), (15, some (ptr t)), (16, some (ptr x)), (17, some (i64 split)), (18, some (.slice pa ((wl ws).map (·.n)).length 1)), (19, some (.slice a (((wl ws).take i).map fun w => rho (wl ws) W H w.n).length e)), (20, some (i64 i))]) (fun i => (wl ws).length - i) ?_ (a := 0)
    ⟨Nat.zero_le _, none, 0, [], .inl ⟨rfl, rfl, rfl⟩, ⟨F, hF, Hh⟩, rfl⟩
  rintro i rg σ1 Y hY ⟨hi, qa, e, frq, hsq, S1, rfl⟩
  by_cases g : i = (wl ws).length
  · subst g
    rw [List.take_length] at hsq ⊢
    rw [← hlm]
    have h0 := opens_mid (K := K) (Y := Y) (split := split) (side := side) (sz := sz) (pa := pa) (qa := qa) (e := e) (rs := (wl ws).map fun w => rho (wl ws) W H w.n) ok hb l0 l1 hW hH hside hz hs hlen (hR.mono fun p hp => List.mem_append_right _ hp) (hp.mono fun p hp => List.mem_append_right _ hp) rfl (hsq.rd fun p hp => List.mem_append_left _ hp) S1.ps hK
    exact h0
  · have hlt : i < (wl ws).length := by omega
    rw [s4l]
    refine bmd_mk (fun _ => ?_) (fun g2 => absurd (show (i : Int) < ((((wl ws).map (·.n)).length : Nat) : Int) by rw [hlm]; omega) g2)
    obtain ⟨v, hv⟩ : ∃ v, (wl ws)[i]? = some v := ⟨(wl ws)[i]'(by omega), List.getElem?_eq_getElem _⟩
    have hxi : ((wl ws).map (·.n))[i]? = some v.n := by rw [List.getElem?_map, hv]; rfl
    refine prd S1.ps (hp.mono fun p hp => List.mem_append_right _ hp) hxi rfl ?_
    rw [tI_int]
    obtain ⟨F1, hF1, H1⟩ := S1
    refine c17' ok hW.1 hW.2 hH.1 hH.2 H1 pin_of.new fun σ2 new H2 => ?_
    refine tupRB ?_
    obtain ⟨F2, hF2, H2⟩ := PQ.of hF1 H2
    refine newAt_mk H2 fun i23 σ3 H3 => ?_
    refine puts_mk H3 0 rfl rfl (by simp) fun σ4 H4 => ?_
    have H4' : Has σ4 ([(i23, .row .plain (rL (rho (wl ws) W H v.n)))] ++ (frq ++ progL t m W H (rootL (wl ws)) last ws c F2)) := H4
    obtain ⟨F5, hF5, H5⟩ := PQ.of2 hF2 H4'
    have m5 : (i23, AObj.row .plain (rL (rho (wl ws) W H v.n))) ∈ frq ++ progL t m W H (rootL (wl ws)) last ws c F5 :=
      List.mem_append_right _ (List.mem_cons_of_mem _ (List.mem_cons_of_mem _ (List.mem_append_right _ (hF5 _ (List.mem_append_left _ (List.mem_singleton.2 rfl))))))
    refine ldsm H5 m5 (by simp) ?_
    refine rL4 ?_
    have hb1 : (((wl ws).take i).map fun w => rho (wl ws) W H w.n).length ≤ 1000000 := by rw [List.length_map, List.length_take]; omega
    refine pushQ hsq H5 hb1 fun a6 σ6 fr6 hs6 H6 => ?_
    have e1 : IntKind.wrap .i64 ((i : Int) + 1) = ((i + 1 : Nat) : Int) := by rw [wrap64 (by omega) (by omega)]; omega
    have e2 : (((wl ws).take i).map fun w => rho (wl ws) W H w.n) ++ [rho (wl ws) W H v.n] = ((wl ws).take (i + 1)).map fun w => rho (wl ws) W H w.n := by rw [List.take_add_one, hv]; simp
    rw [e2] at hs6 ⊢
    rw [e1]
    exact hY (i + 1) _ _ (by omega) ⟨by omega, a6, 4, fr6, hs6, ⟨F5, fun p hp => hF5 p (List.mem_append_right _ hp), H6⟩, rfl⟩
theorem opens_law {p q at1 side sz : Int} (hp : 0 ≤ p ∧ p ≤ 255) (hq : 0 ≤ q ∧ q ≤ 255) (hside : 0 ≤ side ∧ side ≤ 255) (hz : 0 ≤ sz ∧ sz ≤ 4294967295) (Hh : Has σ X) (ha : RdA a l X) (ho : ∀ q ∈ l, ActOk q.b q.c q.z) (hK : ∀ σ', K (.bool true) σ') :
    Tri Try.prog 4 [.int .u8 p, .int .u8 q, .slice a l.length 6, i64 at1, .int .u8 side, .int .u32 sz] σ K := tri_in (by
  rw [s4]
  refine bmd_mk (fun _ => c13' hK) (fun hl => ?_)
  refine c14 hp hq fun w h hw hh => ?_
  simp only [tTup_tup, pSome_some, List.getElem?_cons_zero, List.getElem?_cons_succ, tI_int]
  refine c15 (by omega) (by omega) Hh ha (by omega) ho fun σ1 t m x W H last L tr J _ => ?_
  simp only [tTup_tup, pSome_some, List.getElem?_cons_zero, List.getElem?_cons_succ, tP_ptr]
  rw [ptrEq_some, bm_false]
  obtain ⟨ws, c, aa, e, rw', hw2, hb, hrr, H1⟩ := J.st
  have ok := J.ok
  have l0 := J.l0
  have l1 := J.l1
  subst hw2
  have hW : 0 ≤ W ∧ W ≤ 1000 := ⟨J.w0, J.w1⟩
  have hH : 0 ≤ H ∧ H ≤ 1000 := ⟨J.h0, J.h1⟩
  have S1 : PS t m W H last ws c (refL x W H aa e last (wl ws) rw' X) σ1 := ⟨_, fun p hp => hp, H1⟩
  have hR : RIn x W H last (wl ws) (refL x W H aa e last (wl ws) rw' X) := rin_of hrr
  generalize refL x W H aa e last (wl ws) rw' X = F at S1 hR
  clear H1 hrr J
  refine p21 S1 ok hR fun split hsplit => ?_
  rw [tI_int]
  refine beq_mk (fun _ => c13' hK) (fun hs0 => ?_)
  have hs : hasL (wl ws) split = true := by
    rcases hsplit with ⟨h, _⟩ | ⟨w, hw, rfl⟩
    · exact absurd h hs0
    · exact hasL_iff.2 ⟨w, hw, rfl⟩
  obtain ⟨Z, HZ, hZ, _⟩ := S1.view
  refine lenR HZ (hR.mono hZ) fun s28 _ => ?_
  simp only
  refine bmd_mk (fun _ => c13' hK) (fun h62 => ?_)
  refine p16 S1 ok hb fun σ2 b2 fr2 hs2 S2 => ?_
  refine tL_ok hs2.no ?_
  exact opens_l ok hb l0 (by omega) hW hH hside (by omega) hs (by omega) (hR.mono fun p hp => List.mem_append_right _ hp) (hs2.rd fun p hp => List.mem_append_left _ hp) S2 hK)
end
end Go.AI
