/- Lemmas of the abstract condition ahead of code (a part of the library that the claim's proof stands on); they hold with no condition but those that each names. -/
import Derived.Test.YtcjicaolgjialaaPaGoneL
set_option linter.unusedSimpArgs false
set_option linter.unusedVariables false
set_option maxRecDepth 10000
/- PaneGone's law; no condition but those that each names. -/
namespace Go.AI
open Go.Proofs Go.Pane
section
variable {σ : AS} {K : Value → AS → Prop} {X F0 fr : List (Nat × AObj)} {t m x y c : Nat} {n W H W1 H1 root last b : Int} {L : List Win} {tr : Option T} {ws : List PW} {l : List ActM} {a : Option Addr}
theorem gone_loop {ws' : List PW} {tr' : Option T} {win : Int} {pa qa : Option Addr} (ok : Ok L last tr) (ok' : Ok (wl ws') last tr') (hb : BornOk ws' c) (hcl : wl ws' = Go.Pane.closeL L win) (hR : RIn x W H last L F0) (hp : RdI pa 1 (L.map (·.n)) F0) (hq : RdI qa 1 ((goneL L win).map (·.n)) F0)
    (S : PS t m W H last ws' c F0 σ) (hK : ∀ σ', K (.bool true) σ') : ALoop (fl Try.prog hintsS (Tri Try.prog) 6 l6 [] K) (goneRg t x win pa (L.map (·.n)).length qa ((goneL L win).map (·.n)).length 0 0) σ := by
  have len := ok.len
  have hlm : (L.map (·.n)).length = L.length := List.length_map ..
  have hgm : ((goneL L win).map (·.n)).length = (goneL L win).length := List.length_map ..
  have cl := close_len (L := L) win
  refine aloop (fun (i : Nat) rg σ' => i ≤ L.length ∧ PS t m W H last ws' c F0 σ' ∧ rg = goneRg t x win pa (L.map (·.n)).length qa ((goneL L win).map (·.n)).length ((L.take i).filter (outW L win)).length i) (fun i => L.length - i) ?_ (a := 0) ⟨Nat.zero_le _, S, rfl⟩
  rintro i rg σ1 Y hY ⟨hi, S1, rfl⟩
  unfold goneRg
  rw [s6l]
  refine bmd_mk (fun g => ?_) (fun g => ?_)
  · rw [hlm] at g
    obtain ⟨v, hv⟩ : ∃ v, L[i]? = some v := ⟨L[i]'(by omega), by simp⟩
    have hxi : (L.map (·.n))[i]? = some v.n := by rw [List.getElem?_map, hv]; rfl
    have hm1 : L.length - (i + 1) < L.length - i := by clear cl; omega
    have hm2 : i + 1 ≤ L.length := by clear cl; omega
    have hN : ((L.take i).filter (outW L win)).length ≤ 64 := by
      have h1 := List.length_filter_le (outW L win) (L.take i)
      rw [List.length_take] at h1
      omega
    obtain ⟨ga, gb⟩ := gone_at ok.srt (q := outW L win) hv
    have en : ((L.take (i + 1)).filter (outW L win)).length = ((L.take i).filter (outW L win)).length + (if outW L win v then 1 else 0) := by
      rw [List.take_add_one, hv, List.filter_append, List.length_append]
      congr 1
      show ((Option.some v).toList.filter (outW L win)).length = _
      rw [Option.toList_some, List.filter_cons]
      cases outW L win v <;> rfl
    have e3 : IntKind.wrap .i64 ((((L.take i).filter (outW L win)).length : Int) + 1) = ((((L.take i).filter (outW L win)).length + 1 : Nat) : Int) := by rw [wrap64 (by omega) (by omega)]; omega
    have one : ∀ (N : Nat) (out : Bool), out = outW L win v → N = ((L.take (i + 1)).filter (outW L win)).length →
        JoinS (jn Try.prog hintsS (Tri Try.prog) 6 j6 [Y] K) [(11, some (ptr t)), (12, some (ptr x)), (13, some (i64 win)), (14, some (.slice pa (L.map (·.n)).length 1)), (15, some (.slice qa ((goneL L win).map (·.n)).length 1)), (16, some (i64 0)), (17, some (i64 N)), (18, some (i64 i)), (19, some (.bool out))] σ1 := fun N out ho hNN => by
      refine ⟨?_⟩
      have h0 : ∀ σ', PS t m W H last ws' c F0 σ' → Y (goneRg t x win pa (L.map (·.n)).length qa ((goneL L win).map (·.n)).length N (i + 1)) σ' := fun σ2 S2 => hY (i + 1) _ _ hm1 ⟨hm2, S2, by rw [hNN]⟩
      have h1 := gone_one (K := K) (Y := Y) (N := N) ok ok' hcl hR hp S1 hv ho h0
      exact h1
    generalize hk : ((L.take i).filter (outW L win)).length = N at *
    refine bmd_mk (fun g2 => ?_) (fun g2 => ?_)
    · rw [hgm] at g2
      obtain ⟨u, hu⟩ : ∃ u, (goneL L win)[N]? = some u := ⟨(goneL L win)[N]'(by omega), List.getElem?_eq_getElem _⟩
      have hxu : ((goneL L win).map (·.n))[N]? = some u.n := by rw [List.getElem?_map, hu]; rfl
      refine prd S1 hq hxu rfl ?_
      rw [tI_int]
      refine prd S1 hp hxi rfl ?_
      rw [tI_int]
      cases ho : outW L win v with
      | true =>
        have hu2 := ga ho
        unfold goneL at hu
        rw [hu2] at hu
        cases hu
        refine beq_mk (fun _ => ?_) (fun g => absurd rfl g)
        rw [e3, beq_self_eq_true]
        exact one _ true ho.symm (by rw [en, if_pos ho])
      | false =>
        have hne := gb ho u hu
        refine beq_mk (fun g => absurd g hne) (fun _ => ?_)
        rw [show (u.n == v.n) = false from by simpa using hne]
        exact one _ false ho.symm (by rw [en, ho]; rfl)
    · rw [hgm] at g2
      cases ho : outW L win v with
      | true =>
        have hu2 := (List.getElem?_eq_some_iff.1 (ga ho)).1
        have : (L.filter (outW L win)).length = (goneL L win).length := rfl
        omega
      | false => exact one _ false ho.symm (by rw [en, ho]; rfl)
  · rw [hlm] at g
    have ei : i = L.length := by omega
    refine c23 ?_
    rw [tI_int]
    refine beq_mk (fun _ => ?_) (fun g => absurd rfl g)
    have et : ((L.take i).filter (outW L win)).length = ((goneL L win).map (·.n)).length := by rw [ei, List.take_length, hgm]; rfl
    rw [et, beq_self_eq_true, bm_true]
    refine p16 S1 ok' hb fun σ2 b2 fr2 hs2 S2 => ?_
    refine tL_ok hs2.no ?_
    have hlen : (((wl ws').map (·.n)).length : Int) = IntKind.wrap .i64 (((L.map (·.n)).length : Int) - (((goneL L win).map (·.n)).length : Int)) := by
      rw [wrap64 (by omega) (by omega), hlm, hgm, List.length_map, hcl]
      omega
    simp only
    rw [hlen, beq_self_eq_true, bm_true]
    exact c13' hK
theorem gone_law {p q at1 : Int} (hp : 0 ≤ p ∧ p ≤ 255) (hq : 0 ≤ q ∧ q ≤ 255) (Hh : Has σ X) (ha : RdA a l X) (ho : ∀ q ∈ l, ActOk q.b q.c q.z) (hK : ∀ σ', K (.bool true) σ') :
    Tri Try.prog 6 [.int .u8 p, .int .u8 q, .slice a l.length 6, i64 at1] σ K := tri_in (by
  rw [s6]
  refine bmd_mk (fun _ => c13' hK) (fun hl => ?_)
  refine c14 hp hq fun w h hw hh => ?_
  simp only [tTup_tup, pSome_some, List.getElem?_cons_zero, List.getElem?_cons_succ, tI_int]
  refine c15 (by omega) (by omega) Hh ha (by omega) ho fun σ1 t m x W H last L tr J _ => ?_
  simp only [tTup_tup, pSome_some, List.getElem?_cons_zero, List.getElem?_cons_succ, tP_ptr]
  rw [ptrEq_some, bm_false]
  obtain ⟨ws, c, aa, e, rw', hw2, hb, hrr, H1⟩ := J.st
  have ok := J.ok
  subst hw2
  have hW : 0 ≤ W ∧ W ≤ 1000 := ⟨J.w0, J.w1⟩
  have hH : 0 ≤ H ∧ H ≤ 1000 := ⟨J.h0, J.h1⟩
  have S1 : PS t m W H last ws c (refL x W H aa e last (wl ws) rw' X) σ1 := ⟨_, fun p hp => hp, H1⟩
  have hR : RIn x W H last (wl ws) (refL x W H aa e last (wl ws) rw' X) := rin_of hrr
  generalize refL x W H aa e last (wl ws) rw' X = F at S1 hR
  clear H1 hrr J
  refine p21 S1 ok hR fun win hwin => ?_
  rw [tI_int]
  refine p16 S1 ok hb fun σ2 b2 fr2 hs2 S2 => ?_
  refine tL_ok hs2.no ?_
  obtain ⟨F2, hF2, H2⟩ := S2
  refine c28 ok hb rfl H2 (fun hE => ?_) (fun hE σ3 ws3 root3 a3 frg new hw3 hr3 hb3 hs3 H3 => ?_)
  · simp only [tTup_tup, pSome_some, List.getElem?_cons_zero, List.getElem?_cons_succ, tI_int]
    refine tL_ok (e := 0) rfl ?_
    rcases hwin with ⟨rfl, hL⟩ | ⟨w0, hw0, rfl⟩
    · refine beq_mk (fun _ => ?_) (fun g => absurd rfl g)
      refine c23 ?_
      rw [tI_int]
      refine beq_mk (fun _ => ?_) (fun g => absurd rfl g)
      refine beq_mk (fun _ => c13' hK) (fun g => absurd rfl g)
    · rw [hasL_iff.2 ⟨w0, hw0, rfl⟩] at hE; cases hE
  · simp only [tTup_tup, pSome_some, List.getElem?_cons_zero, List.getElem?_cons_succ, tI_int]
    refine tL_ok hs3.no ?_
    have hne : win ≠ 0 := fun g => by rw [g, ok.has0] at hE; cases hE
    refine beq_mk (fun g => absurd g hne) (fun _ => ?_)
    obtain ⟨tr', ok'⟩ := ok.closeL hE
    rw [← hw3] at ok'
    subst hr3
    have S3 : PS t m W H last ws3 c (frg ++ (fr2 ++ F)) σ3 := by
      rw [← List.append_assoc] at H3
      refine ⟨_, fun p hp => ?_, front H3⟩
      rcases List.mem_append.1 hp with h | h
      · exact List.mem_append_right _ (List.mem_append_left _ h)
      · exact List.mem_append_left _ (hF2 p h)
    exact gone_loop ok ok' hb3 hw3 (hR.mono fun p hp => by simp [hp]) (hs2.rd fun p hp => by simp [hp]) (hs3.rd fun p hp => by simp [hp]) S3 hK)
end
end Go.AI
