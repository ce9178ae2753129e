/- Lemmas of the abstract condition ahead of code (a part of the library that the claim's proof stands on); they hold with no condition but those that each names. -/
import Derived.Test.YtlofpopejkohbaaGreatAIDraw4
set_option linter.unusedSimpArgs false
set_option linter.unusedVariables false
/- Regions that draw their order: the walk. -/
namespace Go.AI

section
variable {T : Ct} {sf : Bool × Bool} {P : Program} {N : Nat} {ops : Array Oper} {ms : List Nat} {r0 : Regs} {Q : Exit → Act → World → Prop}

/-- What is known of the looking operations that are done. -/
structure Facts (P : Program) (ops : Array Oper) (ms : List Nat) (r0 : Regs) (D : Nat) (live : List Nat) (V : Regs) (σ : AS) : Prop where
  fact : ∀ i o, ops[i]? = some o → mbit D i = true → isC o.op = false → (∀ c oc, ops[c]? = some oc → isC oc.op = true → mbit D c = true → mbit (nth ms c) i = false) → QFact P ops ms r0 i o V σ
  live : ∀ i o, ops[i]? = some o → mbit D i = true → isC o.op = false → rdH o.op = true → (∀ c oc, ops[c]? = some oc → isC oc.op = true → mbit D c = true → mbit (nth ms c) i = false) → i ∈ live
  masks : ∀ i, mbit D i = true → msub (nth ms i) D = true

/-- While nothing but looking is ready, and behind each operation that is more. -/
theorem quiets {D : Nat} {live : List Nat} {V : Regs} {σ : AS} (hm : maskOk ms 0 ops.toList = true) (hu : uniqOk N ops.toList 0 ops.toList = true) (F : Facts P ops ms r0 D live V σ) {ρ0 : RM} {w0 : World} {σ0 : AS} (C : Nat → Prop)
    (hc : ∀ i o, ops[i]? = some o → mbit D i = false → msub (nth ms i) D = true → C i)
    (hstep : ∀ X a w ρ fuel i o, Inv P N ops r0 D V σ X a w ρ (fuel + 1) → Step ρ0 w0 σ0 ρ w σ → C i → ops[i]? = some o → got X i = false → mbit D i = false → (∀ e ∈ o.after, Region.binds .any e = true → got X e.on = true) → (∀ j, mbit (nth ms i) j = true → got X j = true) → wpOp P ops Q i (wpAny P .any ops Q fuel (X.setIfInBounds i true)) a w)
    (hend : ∀ X a w ρ, Inv P N ops r0 D V σ X a w ρ 0 → Step ρ0 w0 σ0 ρ w σ → (∀ i, i < ops.size → got X i = true) → Q .normal a w) :
    ∀ fuel X a w ρ, Inv P N ops r0 D V σ X a w ρ fuel → Step ρ0 w0 σ0 ρ w σ → wpAny P .any ops Q fuel X a w := by
  have done : ∀ fuel X a w ρ, Inv P N ops r0 D V σ X a w ρ fuel → Step ρ0 w0 σ0 ρ w σ → Region.ready .any ops X = [] → Q .normal a w := by
    intro fuel X a w ρ v st hr
    have all' : ∀ (q i : Nat), nth ms i = q → i < ops.size → got X i = true := by
      intro q
      induction q using Nat.strongRecOn with
      | _ q ih =>
        intro i hq hi
        cases hg : got X i with
        | true => rfl
        | false =>
          have hx : ops[i]? = some ops[i] := Array.getElem?_eq_getElem hi
          have : i ∈ Region.ready .any ops X := (ready_iff v.size).2 ⟨hg, ops[i], hx, fun e he hb => by
            have hlt := eLt_spec (maskOk_spec hm i ops[i] (by rw [Array.getElem?_toList]; exact hx)).2 e (Array.mem_toList_iff.2 he) hb
            rw [Nat.zero_add, Nat.zero_add, Array.length_toList, hq] at hlt
            exact ih _ hlt.1 e.on rfl hlt.2⟩
          rw [hr] at this
          cases this
    have all : ∀ i, i < ops.size → got X i = true := fun i hi => all' _ i rfl hi
    exact hend X a w ρ { v with left := ⟨[], Nat.le_refl _, fun i hi hg => by rw [all i hi] at hg; cases hg⟩ } st all
  intro fuel
  induction fuel with
  | zero =>
    intro X a w ρ v st
    have hr : Region.ready .any ops X = [] := by
      obtain ⟨l, hl, hall⟩ := v.left
      have : l = [] := List.length_eq_zero_iff.1 (Nat.le_zero.1 hl)
      subst this
      cases hr : Region.ready .any ops X with
      | nil => rfl
      | cons i r =>
        have hi : i ∈ Region.ready .any ops X := by rw [hr]; exact .head _
        obtain ⟨hg, o, ho, _⟩ := (ready_iff v.size).1 hi
        cases hall i (Array.getElem?_eq_some_iff.1 ho).1 hg
    exact ⟨hr, done 0 X a w ρ v st hr⟩
  | succ fuel ih =>
    intro X a w ρ v st
    refine ⟨fun hr => done _ X a w ρ v st hr, fun i hi => ?_⟩
    obtain ⟨hg, o, ho, hp⟩ := (ready_iff v.size).1 hi
    have hsub := mask_sub hm v.closed i o ho hp
    cases hd : mbit D i with
    | false => exact hstep X a w ρ fuel i o v st (hc i o ho hd (msub_iff.2 fun j hj => v.sub j (hsub j hj))) ho hg hd hp hsub
    | true =>
      have hq : isC o.op = false := by
        cases hcc : isC o.op with
        | false => rfl
        | true => rw [v.chain i o ho hcc hd] at hg; cases hg
      obtain ⟨b, h1, h2, h3⟩ := F.fact i o ho hd hq fun c oc hoc hcc hdc => by
        cases hb : mbit (nth ms c) i with
        | false => rfl
        | true =>
          have hgc := v.chain c oc hoc hcc hdc
          have := mask_sub hm v.closed c oc hoc (v.closed c oc hoc hgc) i hb
          rw [hg] at this
          cases this
      have hw := v.wanted hu hsub h1
      unfold wpOp
      rw [ho]
      simp only [hw]
      cases b with
      | false =>
        simp only [Bool.false_eq_true, if_false]
        refine ih _ _ _ _ (v.next hu ho hg hp (fun _ h => h) hd (fun _ _ _ _ h => .inl h) (fun _ _ => rfl) (RM.le_refl ρ) undef ?_ v.sim) st
        intro u hu'
        rw [h3 rfl] at hu'
        injection hu' with hu'
        subst hu'
        exact .tuple .nil
      | true =>
        simp only [if_true]
        refine .inl ?_
        obtain ⟨u, cv, h4, h5, h6⟩ := aQ_sound v.sim (v.eval hg hm hsub) (h2 rfl)
        unfold Oper.wp
        rw [h4]
        simp only [Oper.upon]
        refine ih _ _ _ _ (v.next hu ho hg hp (fun _ h => h) hd (fun _ _ _ _ h => .inl h) (fun _ _ => rfl) (RM.le_refl ρ) cv ?_ v.sim) st
        intro u' hu'
        rw [h6] at hu'
        injection hu' with hu'
        subst hu'
        exact h5

theorem rchk_sound {σ : AS} {K : Regs → Prop} : ∀ (l : List Nat) (V : Regs), rchk P sf ops.toList ms r0 σ l V K →
    ∃ V', (∀ k, rget V' k = rget V k) ∧ K V' ∧ ∀ j, j ∈ l → ∀ o, ops[j]? = some o → (∃ b, Wants ops (nth ms j) V o.guard b ∧ (b = true → aQ P o.op o.type (evD ops.toList ms j V r0) σ fun u => rget V j = some u))
  | [], V, h => ⟨V, fun _ => rfl, h, fun j hj => by cases hj⟩
  | j :: l, V, h => by
    unfold rchk at h
    rw [Array.getElem?_toList] at h
    cases ho : ops[j]? with
    | none => rw [ho] at h; exact h.elim
    | some o =>
      rw [ho] at h
      simp only at h
      obtain ⟨b, V1, hW, hV1, hrun, hskip⟩ := gsplit_elim h
      have fin : ∀ V2 : Regs, (∀ k, rget V2 k = rget V1 k) → (b = true → aQ P o.op o.type (evD ops.toList ms j V1 r0) σ fun u => rget V1 j = some u) → rchk P sf ops.toList ms r0 σ l V2 K →
          ∃ V', (∀ k, rget V' k = rget V k) ∧ K V' ∧ ∀ j', j' ∈ j :: l → ∀ o, ops[j']? = some o → (∃ b, Wants ops (nth ms j') V o.guard b ∧ (b = true → aQ P o.op o.type (evD ops.toList ms j' V r0) σ fun u => rget V j' = some u)) := by
        intro V2 hV2 hq hr
        obtain ⟨V', h1, h2, h3⟩ := rchk_sound l V2 hr
        refine ⟨V', fun k => by rw [h1, hV2, hV1], h2, fun j' hj' o' ho' => ?_⟩
        rcases List.mem_cons.1 hj' with rfl | hj'
        · rw [ho] at ho'
          injection ho' with ho'
          subst ho'
          refine ⟨b, hW, fun hb => ?_⟩
          have := hq hb
          rw [evD_congr (fun k _ => hV1 k), hV1] at this
          exact this
        · obtain ⟨b', hw', hq'⟩ := h3 j' hj' o' ho'
          have e : ∀ k, rget V k = rget V2 k := fun k => by rw [hV2, hV1]
          refine ⟨b', hw'.congr fun k _ => e k, fun hb => ?_⟩
          have := hq' hb
          rw [evD_congr (V := V) (fun k _ => (e k).symm), ← e] at this
          exact this
      cases b with
      | false => exact fin V1 (fun _ => rfl) (fun e => by cases e) (hskip rfl)
      | true =>
        have hq := hrun rfl
        obtain ⟨u, hk, hlin⟩ := lin_aQ (P := P) o.op o.type (evD ops.toList ms j V1 r0) σ _ hq
        cases hv : rget V1 j with
        | none => rw [hv] at hk; exact hk.elim
        | some v =>
          rw [hv] at hk
          obtain ⟨rfl, hk'⟩ := vsame_elim hk
          exact fin V1 (fun _ => rfl) (fun _ => hlin _ hv) hk'

theorem vcL_sound (hT : ∀ f args σ K, T f args σ K → Tri P f args σ K) {K : Regs → AS → Prop} (hm : maskOk ms 0 ops.toList = true) (hu : uniqOk N ops.toList 0 ops.toList = true) {ρ0 : RM} {w0 : World} {σ0 : AS} (hQ : ∀ a' w', Beh N ρ0 w0 σ0 K a' w' → Q .normal a' w') :
    ∀ (L : List Nat) (D : Nat) (live : List Nat) (V : Regs) (σ : AS), canOk ops.toList ms L D = true → vcL P sf T ops.toList ms r0 K L live V σ → Facts P ops ms r0 D live V σ → ∀ fuel X a w ρ, Inv P N ops r0 D V σ X a w ρ fuel → Step ρ0 w0 σ0 ρ w σ → wpAny P .any ops Q fuel X a w := by
  intro L
  induction L with
  | nil =>
    intro D live V σ hc h F
    have hall : ∀ i, i < ops.size → mbit D i = true := fun i hi => by
      have := allDone_spec (i := 0) hc i (by simpa using hi)
      rwa [Nat.zero_add] at this
    refine quiets hm hu F (fun _ => False) (fun i o ho hd _ => ?_) (fun _ _ _ _ _ _ _ _ _ hf => hf.elim) (fun X a w ρ v st hX => hQ a w ?_)
    · rw [hall i (Array.getElem?_eq_some_iff.1 ho).1] at hd
      cases hd
    · refine ⟨ρ, _, σ, h, ?_, v.sim, st, v.tmps, v.defers⟩
      intro t u hu'
      rw [rget_finR] at hu'
      split at hu'
      · rename_i j hj
        obtain ⟨k, o, hk, ho, _⟩ := wrt_spec hj
        rw [Nat.zero_add] at hk
        subst hk
        rw [Array.getElem?_toList] at ho
        exact v.new t j hj (hX j (Array.getElem?_eq_some_iff.1 ho).1) u hu'
      · rename_i hn
        exact v.old t (fun j hj => by rw [hn] at hj; cases hj) u hu'
  | cons i rest IH =>
    intro D live V σ hc h F
    unfold canOk at hc
    unfold vcL at h
    cases ho : ops.toList[i]? with
    | none => rw [ho] at h; exact h.elim
    | some o =>
      rw [ho] at h hc
      simp only at h hc
      have ho' : ops[i]? = some o := by rw [← Array.getElem?_toList]; exact ho
      have hlt : i < ops.size := (Array.getElem?_eq_some_iff.1 ho').1
      cases hs : msub (nth ms i) D with
      | false => rw [hs] at hc; cases hc
      | true =>
      rw [hs] at hc
      simp only at hc
      cases hd : mbit D i with
      | true => rw [hd] at hc; cases hc
      | false =>
      rw [hd] at hc
      simp only at hc
      have hii : ∀ k, mbit (mins i D) k = true ↔ i = k ∨ mbit D k = true := fun k => by rw [mbit_ins, Bool.or_eq_true, decide_eq_true_iff]
      have hself : mbit (nth ms i) i = false := by
        cases hb : mbit (nth ms i) i with
        | false => rfl
        | true => rw [msub_iff.1 hs i hb] at hd; cases hd
      have hmasks : ∀ k, mbit (mins i D) k = true → msub (nth ms k) (mins i D) = true := fun k hk => msub_iff.2 fun j hj => (hii j).2 <| by
        rcases (hii k).1 hk with rfl | hk
        · exact .inr (msub_iff.1 hs j hj)
        · exact .inr (msub_iff.1 (F.masks k hk) j hj)
      cases hC : isC o.op with
      | false =>
        rw [hC] at h hc
        simp only at h hc
        obtain ⟨b, V1, hW, hV1, hrun, hskip⟩ := gsplit_elim h
        -- with the value of the operation
        have go : ∀ (x : Option Value), (b = true → aQ P o.op o.type (evD ops.toList ms i V1 r0) σ fun u => x = some u) → (b = false → x = some uV) → vcL P sf T ops.toList ms r0 K rest (addL i (rdH o.op) live) ((i, x) :: V1) σ →
            ∀ fuel X a w ρ, Inv P N ops r0 D V σ X a w ρ fuel → Step ρ0 w0 σ0 ρ w σ → wpAny P .any ops Q fuel X a w := by
          intro x hx1 hx2 hr fuel X a w ρ v st
          have hV2 : ∀ k, k ≠ i → rget ((i, x) :: V1) k = rget V k := fun k hk => by
            rw [rget_cons, if_neg (fun e => hk e.symm), hV1]
          have hVi : rget ((i, x) :: V1) i = x := by rw [rget_cons, if_pos rfl]
          refine IH (mins i D) _ ((i, x) :: V1) σ hc hr ⟨?_, ?_, hmasks⟩ fuel X a w ρ ?_ st
          · intro k ok hok hk hq hcs
            by_cases hki : k = i
            · subst hki
              rw [ho'] at hok
              injection hok with hok
              subst hok
              have hne : ∀ j, mbit (nth ms k) j = true → j ≠ k := fun j hj e => by rw [e, hself] at hj; cases hj
              refine ⟨b, hW.congr fun j hj => hV2 j (hne j hj), fun hb => ?_, fun hb => by rw [hVi]; exact hx2 hb⟩
              rw [evD_congr (V := V1) (fun j hj => by rw [hV2 j (hne j hj), hV1])]
              simp only [hVi]
              exact hx1 hb
            · have hk' := ((hii k).1 hk).resolve_left fun e => hki e.symm
              refine (F.fact k ok hok hk' hq fun c oc hoc hcc hdc => hcs c oc hoc hcc ((hii c).2 (.inr hdc))).congr fun j hj => hV2 j ?_
              rintro rfl
              rcases hj with rfl | hj
              · exact hki rfl
              · rw [msub_iff.1 (F.masks k hk') _ hj] at hd; cases hd
          · intro k ok hok hk hq hrd hcs
            by_cases hki : k = i
            · subst hki
              rw [ho'] at hok
              injection hok with hok
              subst hok
              rw [hrd]
              exact .head _
            · have hk' := ((hii k).1 hk).resolve_left fun e => hki e.symm
              have := F.live k ok hok hk' hq hrd fun c oc hoc hcc hdc => hcs c oc hoc hcc ((hii c).2 (.inr hdc))
              unfold addL
              split
              · exact .tail _ this
              · exact this
          · have hgi : got X i = false := by
              cases hg : got X i with
              | false => rfl
              | true => rw [v.sub i hg] at hd; cases hd
            exact { v with
              sub := fun k hk => (hii k).2 (.inr (v.sub k hk))
              chain := fun k ok hok hcc hk => by
                rcases (hii k).1 hk with rfl | hk
                · rw [ho'] at hok
                  injection hok with hok
                  subst hok
                  rw [hC] at hcc
                  cases hcc
                · exact v.chain k ok hok hcc hk
              new := fun t j hj hg u hu' => v.new t j hj hg u (by
                rw [← hV2 j (fun e => by rw [e, hgi] at hg; cases hg)]; exact hu') }
        cases b with
        | false => exact go (some uV) (fun e => by cases e) (fun _ => rfl) (hskip rfl)
        | true =>
          obtain ⟨u, hk, hlin⟩ := lin_aQ (P := P) o.op o.type (evD ops.toList ms i V1 r0) σ _ (hrun rfl)
          exact go (some u) (fun _ => hlin _ rfl) (fun e => by cases e) hk
      | true =>
        rw [hC] at h hc
        simp only at h hc
        cases hot : othersWait ms D i 0 ops.toList with
        | false => rw [hot] at hc; cases hc
        | true =>
        rw [hot] at hc
        simp only at hc
        obtain ⟨b, V1, hW, hV1, hrun, hskip⟩ := gsplit_elim h
        refine quiets hm hu F (fun k => k = i) ?_ ?_ ?_
        · intro k ok hok hdk hsk
          by_cases hki : k = i
          · exact hki
          · have := others_spec hot k (by simpa using (Array.getElem?_eq_some_iff.1 hok).1) (by rw [Nat.zero_add]; exact hki) (by rw [Nat.zero_add]; exact hdk)
            rw [Nat.zero_add, hsk] at this
            cases this
        · rintro X a w ρ fuel k ok v st rfl hok hg hdk hp hsub
          rw [ho'] at hok
          injection hok with hok
          subst hok
          have hw := v.wanted hu hsub hW
          -- what stays known
          have facts : ∀ (x : Option Value) (V2 : Regs) (σ' : AS), (∀ j, j ≠ k → rget V2 j = rget V j) → (∀ j, j ∈ keepL (nth ms k) live → ∀ oj, ops[j]? = some oj → QFact P ops ms r0 j oj V σ → mbit D j = true → QFact P ops ms r0 j oj V2 σ') →
              Facts P ops ms r0 (mins k D) (keepL (nth ms k) live) V2 σ' := by
            intro x V2 σ' hV2 hl
            have lv : ∀ j oj, ops[j]? = some oj → mbit (mins k D) j = true → isC oj.op = false → (∀ c oc, ops[c]? = some oc → isC oc.op = true → mbit (mins k D) c = true → mbit (nth ms c) j = false) → mbit D j = true ∧ (∀ c oc, ops[c]? = some oc → isC oc.op = true → mbit D c = true → mbit (nth ms c) j = false) ∧ mbit (nth ms k) j = false := by
              intro j oj hoj hj hq hcs
              refine ⟨?_, fun c oc hoc hcc hdc => hcs c oc hoc hcc ((hii c).2 (.inr hdc)), hcs k o ho' hC ((hii k).2 (.inl rfl))⟩
              rcases (hii j).1 hj with rfl | hj
              · rw [ho'] at hoj
                injection hoj with hoj
                subst hoj
                rw [hC] at hq
                cases hq
              · exact hj
            refine ⟨fun j oj hoj hj hq hcs => ?_, fun j oj hoj hj hq hrd hcs => ?_, hmasks⟩
            · obtain ⟨hdj, hcs', hkj⟩ := lv j oj hoj hj hq hcs
              have old := F.fact j oj hoj hdj hq hcs'
              cases hrd : rdH oj.op with
              | true => exact hl j (mem_keepL (F.live j oj hoj hdj hq hrd hcs') hkj) oj hoj old hdj
              | false =>
                refine (old.congr fun m hm' => hV2 m ?_).indep hrd
                rintro rfl
                rcases hm' with rfl | hm'
                · rw [hdk] at hdj; cases hdj
                · rw [msub_iff.1 (F.masks j hdj) _ hm'] at hdk; cases hdk
            · obtain ⟨hdj, hcs', hkj⟩ := lv j oj hoj hj hq hcs
              exact mem_keepL (F.live j oj hoj hdj hq hrd hcs') hkj
          have nV : ∀ (V2 : Regs), (∀ j, j ≠ k → rget V2 j = rget V j) → ∀ j, got X j = true → rget V2 j = rget V j := fun V2 hV2 j hj => hV2 j fun e => by rw [e, hg] at hj; cases hj
          have nC : ∀ (j : Nat) (oj : Oper), ops[j]? = some oj → isC oj.op = true → mbit (mins k D) j = true → mbit D j = true ∨ j = k := fun j oj _ _ hj => ((hii j).1 hj).elim (fun e => .inr e.symm) .inl
          unfold wpOp
          rw [ho']
          simp only [hw]
          cases b with
          | false =>
            simp only [Bool.false_eq_true, if_false]
            have hV2 : ∀ j, j ≠ k → rget ((k, some uV) :: V1) j = rget V j := fun j hj => by rw [rget_cons, if_neg (fun e => hj e.symm), hV1]
            refine IH (mins k D) _ _ σ hc (hskip rfl) (facts (some uV) _ σ hV2 fun j hj oj hoj hf hdj => hf.congr fun m hm' => hV2 m ?_) fuel _ _ w ρ (v.next hu ho' hg hp (fun m hm' => (hii m).2 (.inr hm')) ((hii k).2 (.inl rfl)) nC (nV _ hV2) (RM.le_refl ρ) undef ?_ v.sim) st
            · rintro rfl
              rcases hm' with rfl | hm'
              · rw [hdk] at hdj; cases hdj
              · rw [msub_iff.1 (F.masks j hdj) _ hm'] at hdk; cases hdk
            · intro u hu'
              rw [rget_cons, if_pos rfl] at hu'
              injection hu' with hu'
              subst hu'
              exact .tuple .nil
          | true =>
            simp only [if_true]
            refine .inl ?_
            have hrun := hrun rfl
            rw [evD_congr (V := V) (fun j _ => hV1 j)] at hrun
            obtain ⟨nx, w1, h1, h2⟩ := aC_sound v.sim (v.eval hg hm hsub) hT hrun
            unfold Oper.wp
            rw [h1]
            refine upon_of_after h2 ?_
            rintro cv w' ⟨x, ρ', σ', hK, hv, s', st'⟩
            obtain ⟨V2, h4, h5, h6⟩ := rchk_sound _ _ hK
            have hV2 : ∀ j, j ≠ k → rget V2 j = rget V j := fun j hj => by rw [h4, rget_cons, if_neg (fun e => hj e.symm), hV1]
            have hVk : rget V2 k = x := by rw [h4, rget_cons, if_pos rfl]
            refine IH (mins k D) _ _ σ' hc h5 (facts x _ σ' hV2 ?_) fuel _ _ w' ρ' (v.next hu ho' hg hp (fun m hm' => (hii m).2 (.inr hm')) ((hii k).2 (.inl rfl)) nC (nV _ hV2) st'.ext cv ?_ s') (st.trans st')
            · intro j hj oj hoj hf hdj
              have hne : ∀ m, m = j ∨ mbit (nth ms j) m = true → m ≠ k := by
                rintro m hm' rfl
                rcases hm' with rfl | hm'
                · rw [hdk] at hdj; cases hdj
                · rw [msub_iff.1 (F.masks j hdj) _ hm'] at hdk; cases hdk
              have hf2 := hf.congr (V' := V2) fun m hm' => hV2 m (hne m hm')
              obtain ⟨b2, hw2, hq2, hn2⟩ := hf2
              obtain ⟨b3, hw3, hq3⟩ := h6 j hj oj hoj
              have e3 : ∀ m, rget V2 m = rget ((k, x) :: V1) m := h4
              have hb : b2 = b3 := hw2.det (hw3.congr fun m _ => e3 m)
              subst hb
              refine ⟨b2, hw2, fun hb => ?_, hn2⟩
              have := hq3 hb
              rw [← e3, ← evD_congr (V' := V2) (fun m _ => e3 m)] at this
              exact this
            · intro u hu'
              rw [hVk] at hu'
              exact hv u hu'
        · intro X a w ρ v st hX
          have := v.sub i (hX i hlt)
          rw [hd] at this
          cases this

theorem vcDraw_any (hT : ∀ f args σ K, T f args σ K → Tri P f args σ K) {L : List Nat} {K : Regs → AS → Prop} {a : Act} {w : World} {ρ : RM} {σ : AS} (h : vcDraw P sf T N ops.toList ms L K r0 σ) (s : Sim ρ w.heap σ) (rr : RRel ρ r0 a.tmps) (hN : a.tmps.size = N) (hd : a.defers = [])
    (hQ : ∀ a' w', Beh N ρ w σ K a' w' → Q .normal a' w') : wpAny P .any ops Q ops.size (Array.replicate ops.size false) a { w with drawn := w.drawn + 1 } := by
  obtain ⟨h1, h2⟩ := chk_elim h
  unfold dAll at h1
  cases hm : maskOk ms 0 ops.toList with
  | false => rw [hm] at h1; cases h1
  | true =>
  rw [hm] at h1
  simp only at h1
  cases hu : uniqOk N ops.toList 0 ops.toList with
  | false => rw [hu] at h1; cases h1
  | true =>
  rw [hu] at h1
  simp only at h1
  refine (vcL_sound hT (ρ0 := ρ) (w0 := w) (σ0 := σ) hm hu hQ L 0 [] [] σ h1 h2 ⟨?_, ?_, ?_⟩ _ _ _ _ ρ ?_ ⟨RM.le_refl _, Nat.le_refl _, fun _ _ _ => rfl, fun _ h => .inl h, rfl, rfl⟩)
  · intro i o _ hd'; rw [mbit_zero] at hd'; cases hd'
  · intro i o _ hd'; rw [mbit_zero] at hd'; cases hd'
  · intro i hd'; rw [mbit_zero] at hd'; cases hd'
  · have g0 : ∀ i, got (Array.replicate ops.size false) i = false := fun i => by
      unfold got
      rw [Array.getD_eq_getD_getElem?, Array.getElem?_replicate]
      split <;> rfl
    refine ⟨by simp, ?_, ?_, ?_, ?_, ?_, s, hN, hd, ⟨List.range ops.size, by simp, fun i hi _ => List.mem_range.2 hi⟩⟩
    · intro i o _ hg; rw [g0] at hg; cases hg
    · intro i hg; rw [g0] at hg; cases hg
    · intro i o _ _ hd'; rw [mbit_zero] at hd'; cases hd'
    · intro t j _ hg; rw [g0] at hg; cases hg
    · intro t _ v hv; exact rr t v hv
theorem vcDraw_sound (hT : ∀ f args σ K, T f args σ K → Tri P f args σ K) {id : Nat} {L : List Nat} {K : Regs → AS → Prop} {a : Act} {w : World} {ρ : RM} {σ : AS} (hmix : P.follows .mixedOrders = true) (h : vcDraw P sf T N ops.toList ms L K r0 σ) (s : Sim ρ w.heap σ) (rr : RRel ρ r0 a.tmps) (hN : a.tmps.size = N) (hd : a.defers = [])
    (hQ : ∀ a' w', Beh N ρ w σ K a' w' → Q .normal a' w') : (Code.region id ops true).wp P Q a w := wp_region_any hmix (vcDraw_any hT h s rr hN hd hQ)
end
end Go.AI
