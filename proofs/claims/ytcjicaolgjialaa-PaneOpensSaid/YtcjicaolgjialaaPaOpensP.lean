/- Lemmas of the abstract condition ahead of code (a part of the library that the claim's proof stands on); they hold with no condition but those that each names. -/
import Derived.Test.YtcjicaolgjialaaPaTiles
set_option linter.unusedSimpArgs false
set_option linter.unusedVariables false
set_option maxRecDepth 10000
/- PaneOpens, the plain law: what is opened has its size, all else stays; no condition but those that each names. -/
namespace Go.Pane
open Go.AI
variable {L M : List Win} {last : Int} {tr : Option T} {W H : Int}
/-- A window that was there, behind an opening. -/
theorem openL_of (ok : Ok L last tr) {L' : List Win} {split p m sz kind lst : Int} {tr' : Option T} (e : L' = openL L last split p m sz kind) (ok' : Ok L' lst tr') {w : Win} (hw : w ∈ L) :
    ofL L' w.n = setP split (last + 2) (turnW p split (last + 2) w) := by
  have hm : setP split (last + 2) (turnW p split (last + 2) w) ∈ L' := by
    rw [e]
    unfold openL
    exact List.mem_map_of_mem (List.mem_map_of_mem (List.mem_append_left _ hw))
  have hn : (setP split (last + 2) (turnW p split (last + 2) w)).n = w.n := by rw [setP_n, turnW_n]
  have := ofL_mem ok'.srt hm
  rwa [hn] at this
theorem turn_same {w : Win} {p split q : Int} (h : w.n ≠ q) : (turnW p split q w).k = w.k ∧ (turnW p split q w).p = w.p ∧ (turnW p split q w).m = w.m ∧ (turnW p split q w).s = w.s ∧ (turnW p split q w).key = w.key ∧
    ((turnW p split q w).a = w.a ∨ (w.a = split ∧ (turnW p split q w).a = q)) := by
  unfold turnW
  simp only
  rw [if_neg h]
  split
  · rename_i g; exact ⟨rfl, rfl, rfl, rfl, rfl, .inr ⟨g.2, rfl⟩⟩
  · split
    · exact ⟨rfl, rfl, rfl, rfl, rfl, .inl rfl⟩
    · exact ⟨rfl, rfl, rfl, rfl, rfl, .inl rfl⟩
theorem open_same (ok : Ok L last tr) {L' : List Win} {split p m sz kind lst : Int} {tr' : Option T} (e : L' = openL L last split p m sz kind) (ok' : Ok L' lst tr') {w : Win} (hw : w ∈ L) :
    (ofL L' w.n).k = w.k ∧ (w.n ≠ split → (ofL L' w.n).p = w.p ∧ (ofL L' w.n).m = w.m ∧ (ofL L' w.n).s = w.s ∧ (ofL L' w.n).key = w.key ∧ ((ofL L' w.n).a = w.a ∨ (w.a = split ∧ (ofL L' w.n).a = last + 2))) := by
  have hne : w.n ≠ last + 2 := by have := ok.rng w hw; omega
  obtain ⟨t1, t2, t3, t4, t5, t6⟩ := turn_same (p := p) (split := split) hne
  rw [openL_of ok e ok' hw]
  refine ⟨?_, fun hs => ?_⟩
  · unfold setP; split
    · exact t1
    · exact t1
  · have hn : (turnW p split (last + 2) w).n ≠ split := by rw [turnW_n]; exact hs
    unfold setP
    rw [if_neg hn]
    exact ⟨t2, t3, t4, t5, t6⟩
theorem open_kof (ok : Ok L last tr) {L' : List Win} {split p m sz kind lst : Int} {tr' : Option T} (e : L' = openL L last split p m sz kind) (ok' : Ok L' lst tr') {k : Int} (hk : hasL L k = true) : kof L' k = kof L k := by
  obtain ⟨w, hw, rfl⟩ := hasL_iff.1 hk
  unfold kof
  rw [(open_same ok e ok' hw).1, ofL_mem ok.srt hw]
theorem partF_congr {κ κ' : Int → Int} {m s key n : Int} (h : key = 0 ∨ κ key = κ' key) : partF κ m s key n = partF κ' m s key n := by
  rcases h with h | h
  · subst h; unfold partF; simp
  · unfold partF; rw [h]
theorem childR_congr {κ κ' : Int → Int} {m s key : Int} {side : Bool} {r : R4} (h : key = 0 ∨ κ key = κ' key) : childR κ m s key side r = childR κ' m s key side r := by
  unfold childR firstF
  rw [partF_congr h, partF_congr h]
theorem rectC_congr {κ : Int → Int} (ok : Ok L last tr) (h : ∀ k, hasL L k = true → κ k = kof L k) : ∀ (fs : List Fr) (s : T), Pane.At tr fs s → rectC κ W H fs = rectC (kof L) W H fs := by
  intro fs
  induction fs with
  | nil => intro s a; rfl
  | cons f fs ih =>
    intro s a
    have hf := (ok.frame a).2.2.2
    unfold rectC
    rw [ih _ a.up]
    refine childR_congr ?_
    rcases hf with g | g
    · exact .inl g
    · exact .inr (h _ g)
/-- What is not below the window that is parted stays where it was. -/
theorem rho_stays (ok : Ok L last tr) {L' : List Win} {split p m sz kind lst : Int} {tr' : Option T} (e : L' = openL L last split p m sz kind) (ok' : Ok L' lst tr') :
    ∀ (i : Nat) (gs : List Fr) (u : T), Pane.At tr gs u → split ∉ chain gs u → rhoF L' W H i u.num = rhoF L W H i u.num := by
  intro i
  induction i with
  | zero => intro gs u _ _; rfl
  | succ i ih =>
    intro gs u a hc
    have hw := ok.at a
    have hun : (u.win (top gs)).n = u.num := T.win_n _ _
    have hne : u.num ≠ split := fun g => hc (by unfold chain; rw [g]; exact List.mem_cons_self ..)
    have s1 := (open_same ok e ok' hw).2 (by rw [hun]; exact hne)
    rw [hun] at s1
    have hp : (ofL L' u.num).p = top gs := by rw [s1.1, T.win_p]
    have hp0 : (ofL L u.num).p = top gs := ok.par a
    unfold rhoF
    rw [hp, hp0]
    cases gs with
    | nil => rfl
    | cons g gs =>
      have hg0 : g.n ≠ 0 := fun z => by have h0 := (ok.top_ne a).1 z; cases h0
      have hcg : split ∉ chain gs (g.fill u) := by
        intro z
        refine hc ?_
        unfold chain at z ⊢
        rw [Fr.fill_num] at z
        exact List.mem_cons_of_mem _ z
      have hgs : g.n ≠ split := fun z => hc (by unfold chain; rw [← z]; simp)
      have hwp := ok.at a.up
      have hpn : ((g.fill u).win (top gs)).n = g.n := by rw [T.win_n, Fr.fill_num]
      have s2 := (open_same ok e ok' hwp).2 (by rw [hpn]; exact hgs)
      have e2 := ok.of_at a.up
      rw [hpn, ← e2, Fr.fill_num] at s2
      have hr := ih gs (g.fill u) a.up hcg
      rw [Fr.fill_num] at hr
      have hk := ok.keys _ hwp
      rw [← e2, Fr.fill_num] at hk
      obtain ⟨_, x1, x2, x3, x4⟩ := s2
      rw [show top (g :: gs) = g.n from rfl]
      rw [if_neg hg0, if_neg hg0, x1, x2, x3, hr]
      have ha : ((ofL L' g.n).a == u.num) = ((ofL L g.n).a == u.num) := by
        rcases x4 with x4 | ⟨x4, x5⟩
        · rw [x4]
        · rw [x4, x5]
          have h1 := (ok.num_pos a).2
          have h2 : (last + 2 == u.num) = false := by
            rw [beq_eq_false_iff_ne]; omega
          have h3 : (split == u.num) = false := by
            rw [beq_eq_false_iff_ne]; exact fun z => hne z.symm
          rw [h2, h3]
      rw [ha]
      refine childR_congr ?_
      rcases hk with z | z
      · exact .inl z
      · exact .inr (open_kof ok e ok' z)
theorem childR_two {κ : Int → Int} {m s key : Int} {r : R4} :
    (cols m = true → (childR κ m s key (decide (m % 2 = 0)) r).w = partF κ m s key r.w ∧ (childR κ m s key (!decide (m % 2 = 0)) r).w = r.w - partF κ m s key r.w ∧ (childR κ m s key (decide (m % 2 = 0)) r).h = r.h ∧ (childR κ m s key (!decide (m % 2 = 0)) r).h = r.h) ∧
    (cols m = false → (childR κ m s key (decide (m % 2 = 0)) r).h = partF κ m s key r.h ∧ (childR κ m s key (!decide (m % 2 = 0)) r).h = r.h - partF κ m s key r.h ∧ (childR κ m s key (decide (m % 2 = 0)) r).w = r.w ∧ (childR κ m s key (!decide (m % 2 = 0)) r).w = r.w) := by
  by_cases hd : m % 2 = 0
  · have h1 : ¬ m % 2 = 1 := by omega
    rw [decide_eq_true hd]
    refine ⟨fun hc => ?_, fun hc => ?_⟩ <;> unfold childR firstF <;> rw [hc] <;> simp only [Bool.not_true, if_neg h1] <;> exact ⟨trivial, trivial, trivial, trivial⟩
  · have h1 : m % 2 = 1 := by omega
    rw [decide_eq_false hd]
    refine ⟨fun hc => ?_, fun hc => ?_⟩ <;> unfold childR firstF <;> rw [hc] <;> simp only [Bool.not_false, if_pos h1] <;> refine ⟨?_, trivial, trivial, trivial⟩ <;> omega
/-- What is told of an opening by a fixed size. -/
theorem open_told (ok : Ok L last tr) (h0 : 0 ≤ last) {split sd sz : Int} (hsd : 0 ≤ sd ∧ sd < 4) (hz : 0 ≤ sz ∧ sz < 4294967296) (hs : hasL L split = true) (hl : L.length ≤ 62) (hW : 0 ≤ W ∧ W ≤ 1000) (hH : 0 ≤ H ∧ H ≤ 1000) :
    ∃ tr', openE L split (sd + 16) 3 = 0 ∧ Ok (Go.AI.openN L last split (sd + 16) sz 3) (last + 2) tr' ∧ hasL (Go.AI.openN L last split (sd + 16) sz 3) (last + 1) = true ∧
      (ofL (Go.AI.openN L last split (sd + 16) sz 3) (last + 1)).p = last + 2 ∧ rho (Go.AI.openN L last split (sd + 16) sz 3) W H (last + 2) = rho L W H split ∧
      ((ofL (Go.AI.openN L last split (sd + 16) sz 3) (last + 2)).a == last + 1) = decide (sd % 2 = 0) ∧
      (sd < 2 → (rho (Go.AI.openN L last split (sd + 16) sz 3) W H (last + 1)).w = imin sz (rho L W H split).w ∧ (rho (Go.AI.openN L last split (sd + 16) sz 3) W H split).w = (rho L W H split).w - imin sz (rho L W H split).w ∧
        (rho (Go.AI.openN L last split (sd + 16) sz 3) W H (last + 1)).h = (rho L W H split).h ∧ (rho (Go.AI.openN L last split (sd + 16) sz 3) W H split).h = (rho L W H split).h) ∧
      (¬ sd < 2 → (rho (Go.AI.openN L last split (sd + 16) sz 3) W H (last + 1)).h = imin sz (rho L W H split).h ∧ (rho (Go.AI.openN L last split (sd + 16) sz 3) W H split).h = (rho L W H split).h - imin sz (rho L W H split).h ∧
        (rho (Go.AI.openN L last split (sd + 16) sz 3) W H (last + 1)).w = (rho L W H split).w ∧ (rho (Go.AI.openN L last split (sd + 16) sz 3) W H split).w = (rho L W H split).w) ∧
      (∀ w ∈ L, belF L 100 w.n split = false → rho (Go.AI.openN L last split (sd + 16) sz 3) W H w.n = rho L W H w.n) := by
  have hs0 : split ≠ 0 := fun g => by rw [g, ok.has0] at hs; cases hs
  have hv : validB (sd + 16) = true := validB_iff.2 (by unfold validM; omega)
  have hE : openE L split (sd + 16) 3 = 0 := by
    unfold openE
    rw [if_neg (by omega), if_neg hs0, hs, if_neg (by simp), hv, if_neg (by simp), if_neg (by omega)]
  obtain ⟨fs, s, tr', rfl, a, _, _, _, ok', a'⟩ := ok.openAt h0 hz hE hs0
  have e : Go.AI.openN L last s.num (sd + 16) sz 3 = openL L last s.num (ofL L s.num).p (sd + 16) sz 3 := by unfold Go.AI.openN; rw [if_neg hs0]
  generalize Go.AI.openN L last s.num (sd + 16) sz 3 = L' at *
  have hK : ∀ k, hasL L k = true → kof L' k = kof L k := fun k hk => open_kof ok e ok' hk
  have eR : rectC (kof L') W H fs = rectC (kof L) W H fs := rectC_congr ok hK fs s a
  have r0 : rho L W H s.num = rectC (kof L) W H fs := ok.rho a
  have r1 : rho L' W H (last + 1) = childR (kof L') (sd + 16) sz (last + 1) (decide ((sd + 16) % 2 = 0)) (rectC (kof L) W H fs) := by
    have := ok'.rho (W := W) (H := H) a'
    rw [show (T.lf (last + 1) 3).num = last + 1 from rfl] at this
    rw [this]
    show childR _ _ _ _ _ (rectC (kof L') W H fs) = _
    rw [eR]
  have a2 := a'.sib
  have r2 : rho L' W H s.num = childR (kof L') (sd + 16) sz (last + 1) (!decide ((sd + 16) % 2 = 0)) (rectC (kof L) W H fs) := by
    have := ok'.rho (W := W) (H := H) a2
    rw [this]
    show childR _ _ _ _ _ (rectC (kof L') W H fs) = _
    rw [eR]
  have k1 : kof L' (last + 1) = 3 := by
    unfold kof
    have := ok'.of_at a'
    rw [show (T.lf (last + 1) 3).num = last + 1 from rfl] at this
    rw [this]; rfl
  have bd := ok.bounds hW.1 hH.1 fs s a
  have hp : ∀ n : Int, 0 ≤ n → partF (kof L') (sd + 16) sz (last + 1) n = imin sz n := fun n hn => by
    unfold partF imin
    have q1 : ¬ (32 ≤ sd + 16) := by omega
    have q2 : ¬ (last + 1 = 0 ∨ (3 : Int) = 1) := by omega
    rw [k1]
    simp only [if_neg q1, if_neg q2]
  have hc : cols (sd + 16) = decide (sd < 2) := by
    unfold cols
    rw [Bool.eq_iff_iff, decide_eq_true_eq, decide_eq_true_eq]
    omega
  refine ⟨tr', hE, ok', ?_, ?_, ?_, ?_, fun h2 => ?_, fun h2 => ?_, fun w hw hb => ?_⟩
  · have := ok'.has_at a'
    rwa [show (T.lf (last + 1) 3).num = last + 1 from rfl] at this
  · have := ok'.par a'
    rwa [show (T.lf (last + 1) 3).num = last + 1 from rfl] at this
  · have := ok'.rho (W := W) (H := H) a'.up
    rw [Fr.fill_num] at this
    rw [r0, ← eR]
    exact this
  · have hw := ok'.par_win a'
    simp only at hw
    rw [hw]
    have hn := (ok.num_pos a).2
    unfold Fr.win
    have hpar : decide ((sd + 16) % 2 = 0) = decide (sd % 2 = 0) := by
      rw [Bool.eq_iff_iff, decide_eq_true_eq, decide_eq_true_eq]; omega
    rw [hpar]
    cases hd : decide (sd % 2 = 0) with
    | true => simp [T.num]
    | false =>
      simp only
      rw [beq_eq_false_iff_ne]
      omega
  · have hc2 : cols (sd + 16) = true := by rw [hc]; exact decide_eq_true h2
    have := (childR_two (κ := kof L') (m := sd + 16) (s := sz) (key := last + 1) (r := rectC (kof L) W H fs)).1 hc2
    rw [hp _ bd.2.1] at this
    rw [r1, r2, r0]
    exact this
  · have hc2 : cols (sd + 16) = false := by rw [hc]; exact decide_eq_false h2
    have := (childR_two (κ := kof L') (m := sd + 16) (s := sz) (key := last + 1) (r := rectC (kof L) W H fs)).2 hc2
    rw [hp _ bd.2.2.2.2.1] at this
    rw [r1, r2, r0]
    exact this
  · obtain ⟨gs, u, b, hu⟩ := ok.at_has (n := w.n) (hasL_iff.2 ⟨w, hw, rfl⟩)
    rw [← hu] at hb ⊢
    have hc : s.num ∉ chain gs u := fun z => by
      have := (ok.belF_chain s.num gs u 100 b (by have := ok.depth b; omega)).2 z
      rw [this] at hb; cases hb
    have hh : hasL L' u.num = true := by
      rw [e]
      unfold openL
      rw [hasL_map (setP_n _ _), hasL_map (turnW_n _ _ _)]
      obtain ⟨v, hv, ev⟩ := hasL_iff.1 (ok.has_at b)
      exact hasL_iff.2 ⟨v, List.mem_append_left _ hv, ev⟩
    unfold Go.Pane.rho
    rw [hh, ok.has_at b, if_pos rfl, if_pos rfl]
    exact rho_stays ok e ok' 100 gs u b hc
end Go.Pane
