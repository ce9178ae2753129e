/- Lemmas of the abstract condition ahead of code (a part of the library that the claim's proof stands on); they hold with no condition but those that each names. -/
import Derived.Test.YtcjicaolgjialaaPyLaw
set_option linter.unusedSimpArgs false
set_option linter.unusedVariables false
set_option maxRecDepth 10000
/- PanePlays: any calls, each answer and all windows; no condition but those that each names. -/
namespace Go.AI
open Go.Proofs Go.Pane
section
variable {σ : AS} {K : Value → AS → Prop} {X fr : List (Nat × AObj)} {t m x c : Nat} {n W H root last b w h : Int} {L : List Win} {tr : Option T} {ws : List PW} {l : List ActM} {a : Option Addr}
/-- All that is told of both, in a state that is well. -/
theorem c34J (J : Jt t m x b W H last L tr fr σ) (hK : ∀ σ', Jt t m x b W H last L tr fr σ' → K (.bool true) σ') : Tri Try.prog 34 [ptr t, ptr x] σ K := by
  obtain ⟨ws, c, a, e, rw', hw, hb, h, Hh⟩ := J.st
  have ok := J.ok
  subst hw
  refine c34 (Int.le_refl _) ok hb rfl J.w0 J.w1 J.h0 J.h1 Hh pin_of (X := progL t m W H (rootL (wl ws)) last ws c (refL x W H a e last (wl ws) rw' fr)) ?_ fun σ' new H' => ?_
  · refine RIn.mono (rin_of h (fr := fr)) fun p hp => ?_
    exact List.mem_cons_of_mem _ (List.mem_cons_of_mem _ (List.mem_append_right _ hp))
  · exact hK σ' ⟨⟨ws, c, a, e, rw', rfl, hb, h, H'.sub (List.sublist_append_right _ _)⟩, ok, J.w0, J.w1, J.h0, J.h1, J.l0, J.l1⟩
/-- All windows, in a state that is well: a new row. -/
theorem c16J (J : Jt t m x b W H last L tr fr σ) (hK : ∀ σ' a fr', SlR a 1 (L.map (·.n)) fr' → Jt t m x b W H last L tr (fr' ++ fr) σ' → K (.slice a (L.map (·.n)).length 1) σ') : Tri Try.prog 16 [ptr t] σ K := by
  obtain ⟨ws, c, a, e, rw', hw, hb, h, Hh⟩ := J.st
  have ok := J.ok
  subst hw
  have hl2 : ws.length ≤ 1000 := by
    have h1 : (wl ws).length = ws.length := by unfold wl; simp
    have := ok.len
    omega
  refine c16 Hh pin_of hb ok.srt hl2 fun σ' a' new fr' hs H' => ?_
  have hlm : ((wl ws).map (·.n)).length = (wl ws).length := List.length_map ..
  rw [← hlm]
  refine hK σ' a' fr' hs ⟨⟨ws, c, a, e, rw', rfl, hb, h, ?_⟩, ok, J.w0, J.w1, J.h0, J.h1, J.l0, J.l1⟩
  have H2 : Has σ' (fr' ++ progL t m W H (rootL (wl ws)) last ws c (refL x W H a e last (wl ws) rw' fr)) := H'.sub (.append (.refl _) (List.sublist_append_right _ _))
  refine H2.perm ?_
  show ((t, treeO W H (rootL (wl ws)) last m) :: (m, mapO ws c) :: ws.map objM ++ ((x, refO W H a (wl ws).length e last) :: rw' ++ (fr' ++ fr))).Perm (fr' ++ ((t, treeO W H (rootL (wl ws)) last m) :: (m, mapO ws c) :: ws.map objM ++ ((x, refO W H a (wl ws).length e last) :: rw' ++ fr)))
  refine .trans (.append_left _ (List.perm_append_comm_assoc ..)) (List.perm_append_comm_assoc ..)
/-- A cell of a row that lies beside is written. -/
theorem putJ {G : AS → Prop} {i o : Nat} {v : Value} {cs : List Value} (J : Jt t m x b W H last L tr ((i, .row .rw cs) :: fr) σ) (ho : o < cs.length) (hG : ∀ σ', Jt t m x b W H last L tr ((i, .row .rw (cs.set o v)) :: fr) σ' → G σ') : put1 σ ⟨i, o, none⟩ v G := by
  obtain ⟨ws, c, a, e, rw', hw, hb, h, Hh⟩ := J.st
  have H2 : Has σ ((i, .row .rw cs) :: progL t m W H (rootL L) last ws c (refL x W H a e last L rw' fr)) := Hh.perm (by
    show ((i, _) :: ((t, treeO W H (rootL L) last m) :: (m, mapO ws c) :: ws.map objM ++ ((x, refO W H a L.length e last) :: rw' ++ fr))).Perm ((t, treeO W H (rootL L) last m) :: (m, mapO ws c) :: ws.map objM ++ ((x, refO W H a L.length e last) :: rw' ++ ((i, _) :: fr)))
    rw [← List.append_assoc, ← List.append_assoc]
    exact List.perm_middle.symm)
  refine put1_mk H2 0 rfl rfl ho fun σ' H' => hG σ' ⟨⟨ws, c, a, e, rw', hw, hb, h, H'.perm ?_⟩, J.ok, J.w0, J.w1, J.h0, J.h1, J.l0, J.l1⟩
  show ((t, treeO W H (rootL L) last m) :: (m, mapO ws c) :: ws.map objM ++ ((x, refO W H a L.length e last) :: rw' ++ ((i, _) :: fr))).Perm ((i, _) :: ((t, treeO W H (rootL L) last m) :: (m, mapO ws c) :: ws.map objM ++ ((x, refO W H a L.length e last) :: rw' ++ fr)))
  rw [← List.append_assoc, ← List.append_assoc]
  exact List.perm_middle
theorem Jt.drop {p : List (Nat × AObj)} (J : Jt t m x b W H last L tr (p ++ fr) σ) : Jt t m x b W H last L tr fr σ := ⟨J.st.drop, J.ok, J.w0, J.w1, J.h0, J.h1, J.l0, J.l1⟩
theorem c13' {G : Value → AS → Prop} (hG : ∀ σ', G (.bool true) σ') : Tri Try.prog 13 [] σ fun v σ' => tB v fun b => G (.bool b) σ' := c13 fun σ' => by rw [tB_bool]; exact hG σ'
theorem plays_law (Hh : Has σ X) (ha : RdA a l X) (ho : ∀ q ∈ l, ActOk q.b q.c q.z) (hK : ∀ σ', K (.bool true) σ') : Tri Try.prog 7 [i64 w, i64 h, .slice a l.length 6] σ K := tri_in (by
  rw [s7]
  refine bmd_mk (fun _ => c13' hK) (fun hl => ?_)
  refine c31 Hh (fun hf => ?_) (fun hf σ1 t m H1 => ?_)
  · simp only [tTup_tup, pSome_some, List.getElem?_cons_zero, List.getElem?_cons_succ, tP_ptr, tI_int]
    refine c32 Hh (fun _ => ?_) (fun g => by rw [hf] at g; cases g)
    simp only [tTup_tup, pSome_some, List.getElem?_cons_zero, List.getElem?_cons_succ, tP_ptr, tI_int]
    refine c23 ?_
    rw [tI_int, bne_self_eq_false, bm_false, ptrEq_none]
    exact c13' hK
  simp only [tTup_tup, pSome_some, List.getElem?_cons_zero, List.getElem?_cons_succ, tP_ptr, tI_int]
  refine c32 H1 (fun g => by rw [hf] at g; cases g) (fun _ σ2 x S2 => ?_)
  simp only [tTup_tup, pSome_some, List.getElem?_cons_zero, List.getElem?_cons_succ, tP_ptr, tI_int]
  refine c23 ?_
  rw [tI_int, bne_self_eq_false, bm_false, ptrEq_some]
  show ALoop _ _ _
  have hf2 : (0 ≤ w ∧ w ≤ 1000) ∧ (0 ≤ h ∧ h ≤ 1000) := by
    unfold fitsB at hf
    rw [Bool.and_eq_true, decide_eq_true_eq, decide_eq_true_eq] at hf
    exact hf
  have ok0 : Ok [] 0 none := ⟨.refl _, by simp, by simp, by simp, by simp, by simp⟩
  have J0 : Jt t m x 0 w h 0 [] none X σ2 := ⟨st_of (B := []) (ws := []) rfl ⟨by simp, by simp⟩ S2, ok0, hf2.1.1, hf2.1.2, hf2.2.1, hf2.2.2, Int.le_refl _, Int.le_refl _⟩
  refine aloop (fun (i : Nat) rg σ' => i ≤ l.length ∧ (∃ W H last L tr, Jt t m x (2 * i) W H last L tr X σ') ∧ rg = [(2, some (.slice a l.length 6)), (7, some (ptr t)), (9, some (ptr x)), (11, some (i64 i))]) (fun i => l.length - i) ?_ (a := 0) ⟨Nat.zero_le _, ⟨w, h, 0, [], none, J0⟩, rfl⟩
  rintro i rg σ3 Y hY ⟨hi, ⟨W, H, last, L, tr, J⟩, rfl⟩
  rw [s7l]
  refine bmd_mk (fun g => ?_) (fun g => ?_)
  · obtain ⟨q, hq⟩ : ∃ q, l[i]? = some q := ⟨l[i]'(by omega), by simp⟩
    have hm := List.mem_of_getElem? hq
    refine rdA ha J hq ?_
    simp only [ActM.cells, tCons, tI_int, tB_bool, tNil]
    refine c33 (by omega) (ho q hm) J fun σ4 W' H' last' L' tr' J4 _ => ?_
    rw [tB_bool, Bool.not_true, bm_false]
    refine c34J J4 fun σ5 J5 => ?_
    rw [tB_bool, Bool.not_true, bm_false]
    refine c16J J5 fun σ6 v fr' hs J6 => ?_
    refine tL_ok hs.no ?_
    have e0 : (2 * (i : Int) + 2) = 2 * ((i + 1 : Nat) : Int) := by omega
    rw [e0] at J6
    have len := J6.ok.len
    refine aloop (fun (k : Nat) rg σ' => k ≤ L'.length ∧ (∃ ys fr'', ys.length = L'.length ∧ SlR v 1 ys fr'' ∧ Jt t m x (2 * ((i + 1 : Nat) : Int)) W' H' last' L' tr' (fr'' ++ X) σ') ∧ rg = [(2, some (.slice a l.length 6)), (7, some (ptr t)), (9, some (ptr x)), (11, some (i64 i)), (12, some (.slice v (L'.map (·.n)).length 1)), (13, some (i64 k))]) (fun k => L'.length - k) ?_ (a := 0) ⟨Nat.zero_le _, ⟨_, fr', by simp, hs, J6⟩, rfl⟩
    rintro k rg σ7 Z hZ ⟨hk, ⟨ys, fr'', hys, hs7, J7⟩, rfl⟩
    rw [s7k]
    refine bmd_mk (fun g => ?_) (fun g => ?_)
    · rw [List.length_map] at g
      refine req_mk (by omega) (req_mk (by rw [List.length_map]; omega) ?_)
      rcases hs7 with ⟨_, rfl, _⟩ | ⟨j, rfl, _, rfl⟩
      · simp at hys; omega
      rw [pSome_some]
      refine req_mk (by kernel_rfl) ?_
      rw [sz3, add_none, Int.toNat_natCast, Nat.mul_one, Nat.zero_add]
      have e1 : IntKind.wrap .i64 ((k : Int) + 1) = ((k + 1 : Nat) : Int) := by rw [wrap64 (by omega) (by omega)]; omega
      rw [e1]
      refine putJ J7 (by simp; omega) fun σ8 J8 => hZ (k + 1) _ _ (by omega) ⟨by omega, ⟨ys.set k (-7), _, by simp [hys], .inr ⟨j, rfl, rfl, rfl⟩, ?_⟩, rfl⟩
      rw [List.map_set]
      exact J8
    · have e1 : IntKind.wrap .i64 ((i : Int) + 1) = ((i + 1 : Nat) : Int) := by rw [wrap64 (by omega) (by omega)]; omega
      rw [e1]
      exact hY (i + 1) _ _ (by omega) ⟨by omega, ⟨_, _, _, _, _, J7.drop⟩, rfl⟩
  · refine c34J J fun σ5 J5 => ?_
    rw [tB_bool, bm_true]
    exact c13' hK)
end
end Go.AI
