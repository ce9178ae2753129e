/- Lemmas of the abstract condition ahead of code (a part of the library that the claim's proof stands on); they hold with no condition but those that each names. -/
import Derived.Test.YtcjicaolgjialaaPaFamily
set_option linter.unusedSimpArgs false
set_option linter.unusedVariables false
set_option maxRecDepth 10000
/- PaneCloses: opened and closed again, all others are as they were; no condition but those that each names. -/
namespace Go.Pane
open Go.AI
variable {L M : List Win} {last : Int} {tr : Option T}
theorem srt_eq (h1 : L.Pairwise fun x y => x.n < y.n) (h2 : M.Pairwise fun x y => x.n < y.n) (hp : L.Perm M) : L = M := by
  refine List.Perm.eq_of_pairwise (le := fun x y : Win => x.n ≤ y.n) ?_ (h1.imp fun h => by omega) (h2.imp fun h => by omega) hp
  intro a b ha hb e1 e2
  exact srt_inj h1 ha (hp.mem_iff.2 hb) (by omega)
theorem Ok.clr_id (ok : Ok L last tr) : L.map (clrW L) = L := by
  have : ∀ w ∈ L, clrW L w = w := fun w hw => by
    unfold clrW
    rcases ok.keys w hw with h | h
    · split
      · rfl
      · cases w; simp only at h; subst h; rfl
    · rw [if_pos h]
  exact (List.map_congr_left this).trans (List.map_id _)
/-- What is opened, told by places. -/
theorem Ok.openAt (ok : Ok L last tr) (h0 : 0 ≤ last) {split m sz kind : Int} (hz : 0 ≤ sz ∧ sz < 4294967296) (h : openE L split m kind = 0) (hs : split ≠ 0) :
    ∃ (fs : List Fr) (s : T) (tr' : Option T), s.num = split ∧ Pane.At tr fs s ∧ validM m ∧ 1 ≤ kind ∧ kind ≤ 3 ∧ Ok (Go.AI.openN L last split m sz kind) (last + 2) tr' ∧
      Pane.At tr' (⟨last + 2, m, sz, last + 1, decide (m % 2 = 0), s⟩ :: fs) (.lf (last + 1) kind) := by
  have hh : hasL L split = true := by
    unfold openE at h
    split at h
    · cases h
    · try rw [if_neg hs] at h
      split at h
      · cases h
      · rename_i g; simpa using g
  have hv : validB m = true := by
    unfold openE at h
    split at h
    · cases h
    · try rw [if_neg hs] at h
      rw [hh, if_neg (by simp)] at h
      split at h
      · cases h
      · rename_i g; simpa using g
  have hk : 1 ≤ kind ∧ kind ≤ 3 := by
    unfold openE at h
    split at h
    · cases h
    · omega
  have hl : L.length ≤ 62 := by
    unfold openE at h
    split at h
    · cases h
    · try rw [if_neg hs] at h
      rw [hh, if_neg (by simp), hv, if_neg (by simp)] at h
      split at h
      · cases h
      · omega
  obtain ⟨fs, s, a, rfl⟩ := ok.at_has hh
  refine ⟨fs, s, some (openT fs s last m sz kind), rfl, a, validB_iff.1 hv, hk.1, hk.2, ?_, ?_⟩
  · unfold Go.AI.openN
    rw [if_neg hs, ok.par a]
    exact ok.opened a (validB_iff.1 hv) hk hz hl
  · unfold Pane.At openT plug Fr.fill
    simp only
    by_cases e : m % 2 = 0
    · rw [if_pos e, decide_eq_true e]; cases fs <;> rfl
    · rw [if_neg e, decide_eq_false e]; cases fs <;> rfl
theorem Ok.open_close (ok : Ok L last tr) (h0 : 0 ≤ last) {split m sz kind : Int} (hz : 0 ≤ sz ∧ sz < 4294967296) (h : openE L split m kind = 0) :
    hasL (Go.AI.openN L last split m sz kind) (last + 1) = true ∧ (ofL (Go.AI.openN L last split m sz kind) (last + 1)).k = kind ∧ Go.Pane.closeL (Go.AI.openN L last split m sz kind) (last + 1) = L ∧
    (goneL (Go.AI.openN L last split m sz kind) (last + 1)).map (·.n) = if split = 0 then [last + 1] else [last + 1, last + 2] := by
  by_cases hs : split = 0
  · have hL : L = [] := by
      unfold openE at h
      split at h
      · cases h
      · try rw [if_pos hs] at h
        split at h
        · assumption
        · cases h
    have hk : 1 ≤ kind ∧ kind ≤ 3 := by
      unfold openE at h
      split at h
      · cases h
      · omega
    subst hL
    have e : Go.AI.openN [] last split m sz kind = [⟨last + 1, kind, 0, 0, 0, 0, 0, 0⟩] := by unfold Go.AI.openN; rw [if_pos hs]
    have ok1 := ok.first hk h0
    have a : Pane.At (some (T.lf (last + 1) kind)) [] (.lf (last + 1) kind) := rfl
    rw [e, if_pos hs]
    refine ⟨by simp [hasL], ?_, ?_, ?_⟩
    · have := ok1.of_at a
      rw [show (T.lf (last + 1) kind).num = last + 1 from rfl] at this
      rw [this]; rfl
    · have h1 := (ok1.closedK a).1
      rw [show (T.lf (last + 1) kind).num = last + 1 from rfl] at h1
      unfold Go.Pane.closeL
      rw [List.perm_nil.1 h1]; rfl
    · have h1 := ok1.gone_sort a
      rw [show (T.lf (last + 1) kind).num = last + 1 from rfl] at h1
      rw [← h1]
      simp [goneT, T.wins, upN]
  · obtain ⟨fs, s, tr', rfl, a, hv, k1, k2, ok1, a1⟩ := ok.openAt h0 hz h hs
    rw [if_neg hs]
    refine ⟨ok1.has_at a1, ?_, ?_, ?_⟩
    · have := ok1.of_at a1
      rw [show (T.lf (last + 1) kind).num = last + 1 from rfl] at this
      rw [this]; rfl
    · obtain ⟨h1, h2, _⟩ := ok1.closedK a1
      rw [show (T.lf (last + 1) kind).num = last + 1 from rfl] at h1 h2
      have e : closeK (Go.AI.openN L last s.num m sz kind) (last + 1) = L := by
        refine srt_eq h2 ok.srt (h1.trans ?_)
        have := ok.perm
        unfold Pane.At at a
        rw [a] at this
        exact this.symm
      unfold Go.Pane.closeL
      rw [e]
      exact ok.clr_id
    · have h1 := ok1.gone_sort a1
      rw [show (T.lf (last + 1) kind).num = last + 1 from rfl] at h1
      rw [← h1]
      have e : goneT (⟨last + 2, m, sz, last + 1, decide (m % 2 = 0), s⟩ :: fs) (T.lf (last + 1) kind) = [last + 1, last + 2] := by simp [goneT, T.wins, upN]
      rw [e]
      refine List.mergeSort_of_pairwise ?_
      simp
end Go.Pane
namespace Go.AI
open Go.Proofs Go.Pane
section
variable {σ : AS} {K : Value → AS → Prop} {X fr : List (Nat × AObj)} {t m x c : Nat} {n W H root last b : Int} {L : List Win} {tr : Option T} {ws : List PW} {l : List ActM} {a : Option Addr}
theorem closes_end {A : List (Nat × AObj)} {aa : Option Addr} {e r s : Nat} {rw' : List (Nat × AObj)} {p q : Option Addr} {last' lr win : Int} {xs ys : List Int} (ok : Ok (wl ws) last' tr) (hlw : last' ≤ win + 1) (hw0 : 0 ≤ win) (hw1 : win ≤ 1000) (hb : BornOk ws c) (hW : 0 ≤ W ∧ W ≤ 1000) (hH : 0 ≤ H ∧ H ≤ 1000) (h : RRow aa e (wl ws) rw')
    (Hh : Has σ (A ++ progL t m W H (rootL (wl ws)) last' ws c (refL x W H aa e lr (wl ws) rw' fr))) (hx : RdI p r xs A) (hy : RdI q s ys A) (hxy : xs = ys) (hl : xs.length ≤ 1000000) (hr : r = 1) (hs : s = 1) (hK : ∀ σ', K (.bool true) σ') :
    JoinS (jn Try.prog hintsS (Tri Try.prog) 8 [true, true, true, true, true, true, true, true, true, true, true] [] K) [(11, some (ptr t)), (12, some (ptr x)), (14, some (i64 win)), (16, some (.slice p xs.length 1)), (17, some (i64 0)), (18, some (.slice q ys.length 1))] σ := by
  refine ⟨?_⟩
  subst hr hs
  rw [s8j]
  refine c23 ?_
  rw [tI_int]
  refine bne_mk (fun g => absurd rfl g) (fun _ => ?_)
  have Hs := swapPR Hh
  refine c35 (hx.mono fun p hp => by simp [hp]) (hy.mono fun p hp => by simp [hp]) Hs hl ?_
  rw [tB_bool, decide_eq_true hxy, Bool.not_true, bm_false, wrap64 (by omega) (by omega)]
  refine put1_mk Hs 0 rfl rfl (by simp) fun σ1 H1 => ?_
  have H1' : Has σ1 (refL x W H aa e (win + 1) (wl ws) rw' (A ++ progL t m W H (rootL (wl ws)) last' ws c fr)) := H1
  have P1 : PIn t m W H (rootL (wl ws)) last' ws c (refL x W H aa e (win + 1) (wl ws) rw' (A ++ progL t m W H (rootL (wl ws)) last' ws c fr)) :=
    PIn.mono (pin_of (fr := fr)) fun p hp => List.mem_cons_of_mem _ (List.mem_append_right _ (List.mem_append_right _ hp))
  refine c34 hlw ok hb rfl hW.1 hW.2 hH.1 hH.2 H1' P1 (rin_of h) fun σ2 new H2 => ?_
  rw [tB_bool, bm_true]
  exact c13' hK
theorem closes_law {p q k1 a1 b1 c1 z : Int} {near : Bool} (hp : 0 ≤ p ∧ p ≤ 255) (hq : 0 ≤ q ∧ q ≤ 255) (Hh : Has σ X) (ha : RdA a l X) (ho : ∀ q ∈ l, ActOk q.b q.c q.z) (hact : ActOk b1 c1 z) (hK : ∀ σ', K (.bool true) σ') :
    Tri Try.prog 8 [.int .u8 p, .int .u8 q, .slice a l.length 6, .agg ⟨actL k1 a1 b1 c1 z near⟩] σ K := tri_in (by
  rw [s8]
  refine newAt_mk Hh fun i0 σ0 H0 => ?_
  refine bmd_mk (fun _ => c13' hK) (fun hl => ?_)
  refine c14 hp hq fun w h hw hh => ?_
  simp only [tTup_tup, pSome_some, List.getElem?_cons_zero, List.getElem?_cons_succ, tI_int]
  have ha0 : RdA a l ((i0, .row .plain (actL k1 a1 b1 c1 z near)) :: X) := by
    rcases ha with h | ⟨r, h1, h2⟩
    · exact .inl h
    · exact .inr ⟨r, h1, List.mem_cons_of_mem _ h2⟩
  refine c15 (by omega) (by omega) H0 ha0 (by omega) ho fun σ1 t m x W H last L tr J _ => ?_
  simp only [tTup_tup, pSome_some, List.getElem?_cons_zero, List.getElem?_cons_succ, tP_ptr]
  rw [ptrEq_some, bm_false]
  obtain ⟨ws, c, aa, e, rw', hw2, hb, hrr, H1⟩ := J.st
  have ok := J.ok
  have l0 := J.l0
  have l1 := J.l1
  subst hw2
  have rd : ∀ {σ' : AS} {Z : List (Nat × AObj)} {o : Nat} {v : Value} {G : Value → Prop}, Has σ' Z → (i0, AObj.row .plain (actL k1 a1 b1 c1 z near)) ∈ Z → (actL k1 a1 b1 c1 z near)[o]? = some v → G v → ldc σ' ⟨i0, o, none⟩ G := fun h1 h2 h3 h4 => ldm h1 h2 h3 h4
  have mem : ∀ W' root' last' ws' c', (i0, AObj.row .plain (actL k1 a1 b1 c1 z near)) ∈ progL t m W' H root' last' ws' c' (refL x W H aa e last (wl ws) rw' ((i0, .row .plain (actL k1 a1 b1 c1 z near)) :: X)) := fun _ _ _ _ _ => by simp
  refine rd H1 (mem _ _ _ _ _) rfl ?_
  rw [tI_int]
  have hln : (wl ws).length ≤ 1000 := by have := ok.len; omega
  -- behind the choice of a window
  have go : ∀ split : Int, (split = 0 ↔ wl ws = []) → ldc σ1 ⟨i0, 0 + 2, none⟩ fun v27 => tI .i64 v27 fun n28 => ldc σ1 ⟨i0, 0 + 4, none⟩ fun v29 => tI .u32 v29 fun n30 => ldc σ1 ⟨i0, 0 + 3, none⟩ fun v31 => tI .i64 v31 fun n32 =>
      Tri Try.prog 22 [ptr t, i64 split, i64 n28, u32 n30, i64 n32] σ1 fun v33 σ34 => tTup v33 fun l35 => pSome l35[0]? fun u36 => tI .i64 u36 fun n37 => tTup v33 fun l38 => pSome l38[1]? fun u39 => tI .i64 u39 fun n40 => Tri Try.prog 23 [i64 n40] σ34 fun v41 σ42 => tI .i64 v41 fun n43 =>
      bmatch (n43 != 0) (bmatch (n37 == 0) (Tri Try.prog 13 [] σ42 fun v44 σ45 => tB v44 fun b46 => K (.bool b46) σ45) (K (.bool false) σ42)) (ldc σ42 ⟨i0, 0 + 3, none⟩ fun v47 => tI .i64 v47 fun n48 => Tri Try.prog 18 [ptr t, i64 n37] σ42 fun v49 σ50 => tI .i64 v49 fun n51 => ldc σ50 ⟨i0, 0 + 3, none⟩ fun v52 => tI .i64 v52 fun n53 =>
      i64 n48 = i64 n53 ∧ bmatch (n51 != n48) (K (.bool false) σ50) (Tri Try.prog 28 [ptr t, i64 n37] σ50 fun v54 σ55 => tTup v54 fun l56 => pSome l56[0]? fun u57 => tL 1 u57 fun s58 => tTup v54 fun l59 => pSome l59[1]? fun u60 => tI .i64 u60 fun n61 => newAt σ55 (.row .rw [i64 n37, i64 (IntKind.wrap .i64 (n37 + 1))]) fun i62 σ63 =>
      bmatch (split == 0) (newAt σ63 (.row .rw [i64 n37]) fun i64' σ65 => JoinS (jn Try.prog hintsS (Tri Try.prog) 8 [true, true, true, true, true, true, true, true, true, true, true] [] K) [(11, some (ptr t)), (12, some (ptr x)), (14, some (i64 n37)), (16, some (.slice s58.a s58.n 1)), (17, some (i64 n61)), (18, some (.slice (some ⟨i64', 0, none⟩) 1 1))] σ65)
        (JoinS (jn Try.prog hintsS (Tri Try.prog) 8 [true, true, true, true, true, true, true, true, true, true, true] [] K) [(11, some (ptr t)), (12, some (ptr x)), (14, some (i64 n37)), (16, some (.slice s58.a s58.n 1)), (17, some (i64 n61)), (18, some (.slice (some ⟨i62, 0, none⟩) 2 1))] σ63))) := by
    intro split hsp
    refine rd H1 (mem _ _ _ _ _) rfl ?_
    rw [tI_int]
    refine rd H1 (mem _ _ _ _ _) rfl ?_
    rw [tI_int]
    refine rd H1 (mem _ _ _ _ _) rfl ?_
    rw [tI_int]
    refine c22 ok hb rfl J.l0 (by omega) hact.b hact.z H1 (fun hE => ?_) (fun hE σ2 ws2 c2 root2 hw2 hr2 hb2 H2 => ?_)
    · simp only [tTup_tup, pSome_some, List.getElem?_cons_zero, List.getElem?_cons_succ, tI_int]
      refine c23 ?_
      rw [tI_int]
      refine bne_mk (fun _ => ?_) (fun g => absurd g hE)
      refine beq_mk (fun _ => c13' hK) (fun g => absurd rfl g)
    · simp only [tTup_tup, pSome_some, List.getElem?_cons_zero, List.getElem?_cons_succ, tI_int]
      refine c23 ?_
      rw [tI_int]
      refine bne_mk (fun g => absurd rfl g) (fun _ => ?_)
      obtain ⟨o1, o2, o3, o4⟩ := ok.open_close J.l0 hact.z hE
      obtain ⟨tr2, ok2⟩ := ok.openN J.l0 hact.z hE
      rw [← hw2] at o1 o2 o3 o4 ok2
      refine rd H2 (mem _ _ _ _ _) rfl ?_
      rw [tI_int]
      refine c18 H2 pin_of ok2.srt fun σ3 new3 H3 => ?_
      rw [tI_int, o2]
      refine rd H3 (List.mem_append_right _ (mem _ _ _ _ _)) rfl ?_
      rw [tI_int]
      refine ⟨rfl, ?_⟩
      rw [bne_self_eq_false, bm_false]
      refine c28 ok2 hb2 hr2 (H3.sub (List.sublist_append_right _ _)) (fun g => by rw [o1] at g; cases g) (fun _ σ4 ws4 root4 a4 frg new4 hw4 hr4 hb4 hs4 H4 => ?_)
      simp only [tTup_tup, pSome_some, List.getElem?_cons_zero, List.getElem?_cons_succ, tI_int]
      refine tL_ok hs4.no ?_
      rw [o3] at hw4
      rw [← hw4] at hrr ok
      rw [← hw4, hr4] at H4
      have hwin : IntKind.wrap .i64 (last + 1 + 1) = last + 2 := by rw [wrap64 (by omega) (by omega)]; omega
      rw [hwin]
      refine newAt_mk H4 fun i62 σ5 H5 => ?_
      have hgl : (goneL (wl ws2) (last + 1)).map (·.n) = if split = 0 then [last + 1] else [last + 1, last + 2] := o4
      refine beq_mk (fun h0 => ?_) (fun h0 => ?_)
      · rw [if_pos h0] at hgl
        rw [hgl] at hs4 ⊢
        refine newAt_mk H5 fun i64' σ6 H6 => ?_
        have H6' : Has σ6 (((i64', .row .rw [i64 (last + 1)]) :: (i62, .row .rw [i64 (last + 1), i64 (last + 2)]) :: (frg ++ new4)) ++ progL t m W H (rootL (wl ws4)) (openLast last split) ws4 c2 (refL x W H aa e last (wl ws4) rw' ((i0, .row .plain (actL k1 a1 b1 c1 z near)) :: X))) := by
          simpa using H6
        refine closes_end (xs := [last + 1]) (ys := [last + 1]) (r := 1) (s := 1) (okUp ok (show last ≤ openLast last split by unfold openLast; split <;> omega)) (by unfold openLast; split <;> omega) (by omega) (by omega) hb4 ⟨J.w0, J.w1⟩ ⟨J.h0, J.h1⟩ hrr H6' (hs4.rd fun p hp => by simp [hp]) (.inr ⟨i64', .rw, rfl, rfl, by simp⟩) rfl (by simp) rfl rfl hK
      · rw [if_neg h0] at hgl
        rw [hgl] at hs4 ⊢
        have H6' : Has σ5 (((i62, .row .rw [i64 (last + 1), i64 (last + 2)]) :: (frg ++ new4)) ++ progL t m W H (rootL (wl ws4)) (openLast last split) ws4 c2 (refL x W H aa e last (wl ws4) rw' ((i0, .row .plain (actL k1 a1 b1 c1 z near)) :: X))) := by
          simpa using H5
        refine closes_end (xs := [last + 1, last + 2]) (ys := [last + 1, last + 2]) (r := 1) (s := 1) (okUp ok (show last ≤ openLast last split by unfold openLast; split <;> omega)) (by unfold openLast; split <;> omega) (by omega) (by omega) hb4 ⟨J.w0, J.w1⟩ ⟨J.h0, J.h1⟩ hrr H6' (hs4.rd fun p hp => by simp [hp]) (.inr ⟨i62, .rw, rfl, rfl, by simp⟩) rfl (by simp) rfl rfl hK
  have R1 : RIn x W H last (wl ws) (progL t m W H (rootL (wl ws)) last ws c (refL x W H aa e last (wl ws) rw' ((i0, .row .plain (actL k1 a1 b1 c1 z near)) :: X))) :=
    RIn.mono (rin_of hrr (fr := (i0, .row .plain (actL k1 a1 b1 c1 z near)) :: X)) fun p hp => List.mem_cons_of_mem _ (List.mem_cons_of_mem _ (List.mem_append_right _ hp))
  refine c21 H1 R1 hln (fun h0 => ?_) (fun w hw => ?_)
  · rw [tI_int]
    exact go 0 ⟨fun _ => h0, fun _ => rfl⟩
  · rw [tI_int]
    exact go w.n ⟨fun g => by have := ok.rng w hw; omega, fun g => by rw [g] at hw; cases hw⟩)
end
end Go.AI
