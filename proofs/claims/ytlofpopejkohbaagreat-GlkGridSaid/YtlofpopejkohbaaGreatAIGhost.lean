/- Lemmas of the abstract condition ahead of code (a part of the library that the claim's proof stands on); they hold with no condition but those that each names. -/
import Derived.Test.YtlofpopejkohbaaGreatAIFrame
set_option linter.unusedSimpArgs false
set_option linter.unusedVariables false
/- A call reckoned in a small state, of which some things are only pointed at: what these are is not asked, and they stay. -/
namespace Go.AI
section
variable {P : Program} {f : FuncId}
/-- Of the things of a small state: those that are only pointed at (.dead) are not asked for, and stay. -/
def okG (os : List AObj) (L : List (Nat × AObj)) : Bool := L.all fun p => match os[p.1]? with | some o => o.live | none => p.2.own
def lvb (os : List AObj) (i : Nat) : Bool := match os[i]? with | some o => o.live | none => true
def lv (os : List AObj) (i : Nat) : Prop := ∀ o, os[i]? = some o → o.live = true
theorem tri_gh {os : List AObj} {args0 : List Value} {K0 : Value → AS → Prop} (h0 : Tri P f args0 (can os) K0) {σ : AS} {ids : List Nat} {Fr : List (Nat × AObj)} {args : List Value} {K : Value → AS → Prop}
    (hlen : ids.length = os.length) (hn1 : ids.Nodup) (hex : ∀ (i j : Nat), ids[i]? = some j → ∃ o, σ j = some o) (hat0 : ∀ (i : Nat) (o : AObj) (j : Nat), os[i]? = some o → o.live = true → ids[i]? = some j → σ j = some (renO (pf ids σ.n) o))
    (HF : Has σ Fr) (hF : ∀ (i : Nat) (o : AObj) (j : Nat), os[i]? = some o → o.live = true → ids[i]? = some j → j ∉ Fr.map (·.1)) (ha : args = renVs (pf ids σ.n) args0)
    (hK : ∀ v0 σ0', K0 v0 σ0' → ∀ (k : Nat) σ', (∀ L0', Has σ0' L0' → okG os L0' = true → Has σ' (L0'.map (renP (pf ids k)) ++ Fr)) → K (renV (pf ids k) v0) σ') : Tri P f args σ K := by
  subst ha
  refine ⟨fun ρ w cargs hc hs => ?_⟩
  have ownLive : ∀ {o : AObj}, o.own = true → o.live = true := fun {o} h => by cases o <;> first | rfl | cases h
  have hat : ∀ (i : Nat) (o : AObj), os[i]? = some o → o.live = true → ∃ j, ids[i]? = some j ∧ σ j = some (renO (pf ids σ.n) o) := by
    intro i o ho hl
    have hi : i < ids.length := by rw [hlen]; exact (List.getElem?_eq_some_iff.1 ho).1
    exact ⟨ids[i], List.getElem?_eq_getElem hi, hat0 i o _ ho hl (List.getElem?_eq_getElem hi)⟩
  have hids : ∀ (i j : Nat), ids[i]? = some j → j < σ.n := by
    intro i j hij
    obtain ⟨o, ho⟩ := hex i j hij
    exact σ.lt ho
  generalize hπ : pf ids σ.n = π at *
  have pin : ∀ (i j : Nat), ids[i]? = some j → π i = j := by
    intro i j h
    rw [← hπ]; unfold pf; rw [h]
  have pout : ∀ i, ids.length ≤ i → π i = σ.n + i := by
    intro i h
    rw [← hπ]; unfold pf; rw [List.getElem?_eq_none h]
  have plow : ∀ i, i < ids.length → π i < σ.n := by
    intro i h
    have h1 := List.getElem?_eq_getElem h
    rw [pin i _ h1]
    exact hids i _ h1
  have pinj : ∀ i j, π i = π j → i = j := by
    intro i j h
    by_cases h1 : i < ids.length
    · by_cases h2 : j < ids.length
      · have e1 := List.getElem?_eq_getElem h1
        have e2 := List.getElem?_eq_getElem h2
        rw [pin i _ e1, pin j _ e2] at h
        exact nodup_inj hn1 e1 (by rw [e2, h])
      · have := plow i h1
        rw [h, pout j (by omega)] at this
        omega
    · by_cases h2 : j < ids.length
      · have := plow j h2
        rw [← h, pout i (by omega)] at this
        omega
      · rw [pout i (by omega), pout j (by omega)] at h
        omega
  have free : ∀ i, ids.length ≤ i → σ (π i) = none := fun i h => by rw [pout i h]; exact σ.ok _ (by omega)
  -- the small state
  have hc0 : ∀ i, can os i = os[i]? := can_get os
  have s0 : Sim (fun i => ρ (π i)) w.heap (can os) := by
    refine ⟨fun i o e => ?_, fun i j oi oj li lj hij e1 e2 l1 l2 w1 w2 => ?_, fun i e => ?_⟩
    · rw [hc0] at e
      cases hl : o.live with
      | true =>
        obtain ⟨j, h1, h2⟩ := hat i o e hl
        obtain ⟨l, g1, g2⟩ := hs.obj _ _ h2
        exact ⟨l, by show ρ (π i) = some l; rw [pin i j h1]; exact g1, orel_down g2⟩
      | false =>
        have hi : i < ids.length := by rw [hlen]; exact (List.getElem?_eq_some_iff.1 e).1
        have h1 := List.getElem?_eq_getElem hi
        obtain ⟨o2, h2⟩ := hex i _ h1
        obtain ⟨l, g1, g2⟩ := hs.obj _ _ h2
        have hd : o = .dead := dead_of (by rw [hl]; decide)
        subst hd
        exact ⟨l, by show ρ (π i) = some l; rw [pin i _ h1]; exact g1, trivial⟩
    · rw [hc0] at e1 e2
      obtain ⟨j1, a1, a2⟩ := hat i oi e1 (ownLive w1)
      obtain ⟨j2, b1, b2⟩ := hat j oj e2 w2
      have q1 : ρ (π i) = some li := l1
      have q2 : ρ (π j) = some lj := l2
      rw [pin i _ a1] at q1
      rw [pin j _ b1] at q2
      refine hs.inj j1 j2 _ _ li lj (fun e => hij (pinj i j (by rw [pin i _ a1, pin j _ b1, e]))) a2 b2 q1 q2 (by rw [renO_own]; exact w1) (by rw [renO_live]; exact w2)
    · rw [hc0] at e
      show ρ (π i) = none
      exact hs.dom _ (free i (by rw [hlen]; exact List.getElem?_eq_none_iff.1 e))
  obtain ⟨nx, w1, h1, h2⟩ := h0.run (fun i => ρ (π i)) w cargs (rens_down args0 hc) s0
  refine ⟨nx, w1, h1, h2.mono ?_⟩
  rintro cv w' ⟨v0, ρ0, σ0, hv, hr, s', st⟩
  -- ids of the small state that were there
  have old : ∀ (i : Nat), i < ids.length → lv os i → ∃ o, os[i]? = some o ∧ o.live = true ∧ can os i = some o ∧ σ (π i) = some (renO π o) := by
    intro i hi hl
    have ho : os[i]? = some os[i] := List.getElem?_eq_getElem (by omega)
    obtain ⟨j, a1, a2⟩ := hat i _ ho (hl _ ho)
    exact ⟨os[i], ho, hl _ ho, by rw [hc0, ho], by rw [pin i j a1]; exact a2⟩
  have oldρ : ∀ i, i < ids.length → ∃ l, ρ (π i) = some l ∧ ρ0 i = some l := by
    intro i hi
    have h1 := List.getElem?_eq_getElem hi
    obtain ⟨o, h⟩ := hex i _ h1
    obtain ⟨l, g1, _⟩ := hs.obj _ _ h
    rw [← pin i _ h1] at g1
    exact ⟨l, g1, st.ext i l g1⟩
  have known : ∀ i, i < ids.length → ∃ o, σ0 i = some o := by
    intro i hi
    obtain ⟨l, _, g⟩ := oldρ i hi
    cases e : σ0 i with
    | none => rw [s'.dom i e] at g; cases g
    | some o => exact ⟨o, rfl⟩
  let keep : Nat → AObj → AObj := fun i o => if i < ids.length ∨ o.own = true then renO π o else .dead
  let U : List (Nat × AObj) := (List.range σ0.n).filterMap fun i => if lvb os i = true then (σ0 i).map fun o => (π i, keep i o) else none
  have lvB : ∀ i, (lvb os i = true) ↔ lv os i := by
    intro i
    unfold lv lvb
    cases os[i]? with
    | none => simp
    | some o => simp
  have memU : ∀ j o', (j, o') ∈ U ↔ ∃ i o, σ0 i = some o ∧ lv os i ∧ π i = j ∧ keep i o = o' := by
    intro j o'
    simp only [U, List.mem_filterMap, List.mem_range]
    constructor
    · rintro ⟨i, hi, h⟩
      split at h
      · rename_i hl
        obtain ⟨o, h1, h2⟩ := Option.map_eq_some_iff.1 h
        injection h2 with h2 h3
        exact ⟨i, o, h1, (lvB i).1 hl, h2, h3⟩
      · cases h
    · rintro ⟨i, o, h1, hl, h2, h3⟩
      refine ⟨i, σ0.lt h1, ?_⟩
      rw [if_pos ((lvB i).2 hl), h1, ← h2, ← h3]
      rfl
  have get1 : ∀ i o, σ0 i = some o → lv os i → (σ.sets U) (π i) = some (keep i o) := by
    intro i o h hl
    refine AS.sets_some ((memU _ _).2 ⟨i, o, h, hl, rfl, rfl⟩) fun o2 h2 => ?_
    obtain ⟨i2, o3, g1, _, g2, g3⟩ := (memU _ _).1 h2
    obtain rfl := pinj _ _ g2
    rw [h] at g1
    obtain rfl := Option.some.inj g1
    exact g3.symm
  have get2 : ∀ j, (∀ i o, σ0 i = some o → lv os i → π i ≠ j) → (σ.sets U) j = σ j := by
    intro j h
    refine AS.sets_none fun o ho => ?_
    obtain ⟨i, o2, g1, hl, g2, _⟩ := (memU _ _).1 ho
    exact h i o2 g1 hl g2
  let ρ' : RM := fun j => if j < σ.n then ρ j else if ids.length ≤ j - σ.n then ρ0 (j - σ.n) else none
  have up : ∀ i l, ρ0 i = some l → ρ' (π i) = some l := by
    intro i l h
    by_cases hi : i < ids.length
    · obtain ⟨l2, g1, g2⟩ := oldρ i hi
      rw [h] at g2
      obtain rfl := Option.some.inj g2
      show (if π i < σ.n then _ else _) = _
      rw [if_pos (plow i hi)]
      exact g1
    · have e := pout i (by omega)
      show (if π i < σ.n then _ else _) = _
      rw [if_neg (by omega), e, if_pos (by omega), show σ.n + i - σ.n = i by omega]
      exact h
  have ownOld : ∀ b, Own (fun i => ρ (π i)) (can os) b → Own ρ σ b := by
    rintro b ⟨i, o, l, g1, g2, g3, g4⟩
    rw [hc0] at g1
    obtain ⟨j, a1, a2⟩ := hat i o g1 (ownLive g2)
    exact ⟨π i, renO π o, l, by rw [pin i j a1]; exact a2, by rw [renO_own]; exact g2, g3, g4⟩
  -- what is not of the small state
  have isF : ∀ j o, (σ.sets U) j = some o → (∃ i o0, σ0 i = some o0 ∧ lv os i ∧ π i = j ∧ o = keep i o0) ∨ (σ j = some o ∧ ∀ i o0, σ0 i = some o0 → lv os i → π i ≠ j) := by
    intro j o h
    by_cases hx : ∃ i o0, σ0 i = some o0 ∧ lv os i ∧ π i = j
    · obtain ⟨i, o0, g1, hl, g2⟩ := hx
      left
      refine ⟨i, o0, g1, hl, g2, ?_⟩
      rw [← g2, get1 i o0 g1 hl] at h
      exact (Option.some.inj h).symm
    · right
      have hx' : ∀ i o0, σ0 i = some o0 → lv os i → π i ≠ j := fun i o0 g1 hl g2 => hx ⟨i, o0, g1, hl, g2⟩
      rw [get2 j hx'] at h
      exact ⟨h, hx'⟩
  have notOld : ∀ j, (∀ i o0, σ0 i = some o0 → lv os i → π i ≠ j) → ∀ i, i < ids.length → lv os i → π i ≠ j := by
    intro j h i hi hl
    obtain ⟨o, ho⟩ := known i hi
    exact h i o ho hl
  have ρF : ∀ j o, σ j = some o → ρ' j = ρ j := fun j o h => by
    show (if j < σ.n then _ else _) = _
    rw [if_pos (σ.lt h)]
  -- a thing of the frame is not owned by the small state
  have notOwn : ∀ j o l, σ j = some o → o.live = true → ρ j = some l → (∀ i o0, σ0 i = some o0 → lv os i → π i ≠ j) → ¬ Own (fun i => ρ (π i)) (can os) l.block := by
    rintro j o l g1 g2 g3 g4 ⟨i, oi, li, e1, e2, e3, e4⟩
    rw [hc0] at e1
    have hl2 := ownLive e2
    obtain ⟨j2, a1, a2⟩ := hat i oi e1 hl2
    have hi : i < ids.length := (List.getElem?_eq_some_iff.1 a1).1
    have e3 : ρ (π i) = some li := e3
    refine hs.inj (π i) j _ _ li l (notOld j g4 i hi (fun o ho => by rw [e1] at ho; obtain rfl := Option.some.inj ho; exact hl2)) (by rw [pin i j2 a1]; exact a2) g1 e3 g3 (by rw [renO_own]; exact e2) g2 e4
  have keepOwn : ∀ i o, (keep i o).own = true → o.own = true := by
    intro i o h
    show o.own = true
    by_cases hk : i < ids.length ∨ o.own = true
    · have : keep i o = renO π o := if_pos hk
      rw [this, renO_own] at h
      exact h
    · have : keep i o = .dead := if_neg hk
      rw [this] at h
      cases h
  have keepLive : ∀ i o, (keep i o).live = true → o.live = true ∧ (i < ids.length ∨ o.own = true) := by
    intro i o h
    by_cases hk : i < ids.length ∨ o.own = true
    · have : keep i o = renO π o := if_pos hk
      rw [this, renO_live] at h
      exact ⟨h, hk⟩
    · have : keep i o = .dead := if_neg hk
      rw [this] at h
      cases h
  have ρC : ∀ i l o, σ0 i = some o → ρ' (π i) = some l → ρ0 i = some l := by
    intro i l o h g
    obtain ⟨l2, q1, _⟩ := s'.obj i o h
    rw [up i l2 q1] at g
    obtain rfl := Option.some.inj g
    exact q1
  have sim : Sim ρ' w'.heap (σ.sets U) := by
    refine ⟨fun j o h => ?_, fun i j oi oj li lj hij e1 e2 l1 l2 w1 w2 => ?_, fun j h => ?_⟩
    · rcases isF j o h with ⟨i, o0, g1, hlv, rfl, rfl⟩ | ⟨g1, g2⟩
      · obtain ⟨l, q1, q2⟩ := s'.obj i o0 g1
        refine ⟨l, up i l q1, ?_⟩
        by_cases hk : i < ids.length ∨ o0.own = true
        · rw [show keep i o0 = renO π o0 from if_pos hk]
          exact orel_up up q2
        · rw [show keep i o0 = .dead from if_neg hk]
          trivial
      · obtain ⟨l, q1, q2⟩ := hs.obj j o g1
        refine ⟨l, by rw [ρF j o g1]; exact q1, ?_⟩
        cases hl : o.live with
        | false =>
          have hd : o = .dead := dead_of (by rw [hl]; decide)
          subst hd
          trivial
        | true =>
          have hb := q2.lt hl
          have fr := st.frame l.block hb (notOwn j o l g1 hl q1 g2)
          exact q2.keep (fun i l h => by
            show (if i < σ.n then _ else _) = _
            have : i < σ.n := by
              rcases Nat.lt_or_ge i σ.n with q | q
              · exact q
              · rw [hs.dom i (σ.ok i q)] at h; cases h
            rw [if_pos this]
            exact h) fr
    · rcases isF i oi e1 with ⟨a, oa, g1, hla, rfl, rfl⟩ | ⟨g1, g2⟩
      · have qa := ρC a li oa g1 l1
        have wa := keepOwn a oa w1
        rcases isF j oj e2 with ⟨b, ob, k1, hlb, rfl, rfl⟩ | ⟨k1, k2⟩
        · have qb := ρC b lj ob k1 l2
          exact s'.inj a b oa ob li lj (fun e => hij (by rw [e])) g1 k1 qa qb wa (keepLive b ob w2).1
        · rw [ρF j oj k1] at l2
          intro hb
          rcases st.own li.block ⟨a, oa, li, g1, wa, qa, rfl⟩ with h | h
          · rw [hb] at h
            exact notOwn j oj lj k1 w2 l2 k2 h
          · obtain ⟨l3, q1, q2⟩ := hs.obj j oj k1
            rw [l2] at q1
            obtain rfl := Option.some.inj q1
            have := q2.lt w2
            omega
      · rw [ρF i oi g1] at l1
        rcases isF j oj e2 with ⟨b, ob, k1, hlb, rfl, rfl⟩ | ⟨k1, k2⟩
        · have qb := ρC b lj ob k1 l2
          obtain ⟨lv, hor⟩ := keepLive b ob w2
          intro hb
          obtain ⟨l3, q1, q2⟩ := hs.obj i oi g1
          rw [l1] at q1
          obtain rfl := Option.some.inj q1
          have hlt := q2.lt (ownLive w1)
          by_cases hbi : b < ids.length
          · obtain ⟨o, _, o2, _, o4⟩ := old b hbi hlb
            obtain ⟨l4, r1, r2⟩ := oldρ b hbi
            rw [qb] at r2
            obtain rfl := Option.some.inj r2
            exact hs.inj i (π b) oi _ li lj (fun e => g2 b ob k1 hlb e.symm) g1 o4 l1 r1 w1 (by rw [renO_live]; exact o2) hb
          · have wb := hor.resolve_left hbi
            rcases st.own lj.block ⟨b, ob, lj, k1, wb, qb, rfl⟩ with h | h
            · rw [← hb] at h
              exact notOwn i oi li g1 (ownLive w1) l1 g2 h
            · omega
        · rw [ρF j oj k1] at l2
          exact hs.inj i j oi oj li lj hij g1 k1 l1 l2 w1 w2
    · by_cases hj : j < σ.n
      · show (if j < σ.n then _ else _) = _
        rw [if_pos hj]
        by_cases hx : ∃ i o0, σ0 i = some o0 ∧ lv os i ∧ π i = j
        · obtain ⟨i, o0, g1, hl, rfl⟩ := hx
          rw [get1 i o0 g1 hl] at h
          cases h
        · rw [get2 j fun i o0 g1 hl g2 => hx ⟨i, o0, g1, hl, g2⟩] at h
          exact hs.dom j h
      · show (if j < σ.n then _ else _) = _
        rw [if_neg hj]
        by_cases hk : ids.length ≤ j - σ.n
        · rw [if_pos hk]
          refine s'.dom _ ?_
          cases e : σ0 (j - σ.n) with
          | none => rfl
          | some o =>
            have := get1 _ o e (fun o2 ho2 => by rw [List.getElem?_eq_none (by omega)] at ho2; cases ho2)
            rw [pout _ hk, show σ.n + (j - σ.n) = j by omega, h] at this
            cases this
        · rw [if_neg hk]
  have step : Step ρ w σ ρ' w' (σ.sets U) := by
    refine ⟨fun i l h => ?_, st.size, fun b hb hn => st.frame b hb fun ho => hn (ownOld b ho), fun b hb => ?_, st.os, st.out⟩
    · show (if i < σ.n then _ else _) = _
      have : i < σ.n := by
        rcases Nat.lt_or_ge i σ.n with q | q
        · exact q
        · rw [hs.dom i (σ.ok i q)] at h; cases h
      rw [if_pos this]
      exact h
    · obtain ⟨j, o, l, g1, g2, g3, g4⟩ := hb
      rcases isF j o g1 with ⟨i, o0, k1, hlv, rfl, rfl⟩ | ⟨k1, k2⟩
      · have qa := ρC i l o0 k1 g3
        exact (st.own b ⟨i, o0, l, k1, keepOwn i o0 g2, qa, g4⟩).imp (ownOld b) id
      · rw [ρF j o k1] at g3
        exact .inl ⟨j, o, l, k1, g2, g3, g4⟩
  refine ⟨renV π v0, ρ', σ.sets U, ?_, ren_up up hr, sim, step⟩
  have := hK v0 σ0 hv σ.n (σ.sets U)
  rw [hπ] at this
  refine this fun L0' HL hok => ?_
  have hkeys : ∀ p ∈ L0', σ0 p.1 = some p.2 := HL.2
  refine ⟨?_, fun p hp => ?_⟩
  · rw [List.map_append, List.map_map]
    refine List.nodup_append.2 ⟨?_, HF.1, ?_⟩
    · have : (L0'.map ((·.1) ∘ renP π)) = (L0'.map (·.1)).map π := by rw [List.map_map]; rfl
      rw [this]
      have hh := HL.1
      clear this
      generalize L0'.map (·.1) = ks at hh
      exact List.pairwise_map.2 (hh.imp fun hne h => hne (pinj _ _ h))
    · intro a ha b hb hab
      subst hab
      obtain ⟨p, hp, rfl⟩ := List.mem_map.1 ha
      obtain ⟨q, hq, e⟩ := List.mem_map.1 hb
      have e : q.1 = π p.1 := e
      have hqσ : σ q.1 = some q.2 := HF.2 _ hq
      have hlp := List.all_eq_true.1 hok p hp
      have hlt := σ.lt hqσ
      by_cases hi : p.1 < ids.length
      · have h1 := List.getElem?_eq_getElem hi
        have ho : os[p.1]? = some (os[p.1]'(by omega)) := List.getElem?_eq_getElem (by omega)
        rw [ho] at hlp
        refine hF p.1 _ _ ho hlp h1 (List.mem_map.2 ⟨q, hq, ?_⟩)
        rw [e, pin _ _ h1]
      · rw [e, pout _ (by omega)] at hlt
        omega
  · rcases List.mem_append.1 hp with hp | hp
    · obtain ⟨q, hq, rfl⟩ := List.mem_map.1 hp
      have hk := List.all_eq_true.1 hok q hq
      have hlq : lv os q.1 := fun o ho => by rw [ho] at hk; exact hk
      have h1 := get1 q.1 q.2 (hkeys q hq) hlq
      have : keep q.1 q.2 = renO π q.2 := by
        refine if_pos ?_
        by_cases hi : q.1 < ids.length
        · exact .inl hi
        · rw [List.getElem?_eq_none (by omega)] at hk
          exact .inr hk
      rw [this] at h1
      exact h1
    · have hpσ : σ p.1 = some p.2 := HF.2 _ hp
      rw [get2 p.1 ?_]
      · exact hpσ
      · intro i o g1 hl g2
        by_cases hi : i < ids.length
        · have h1 := List.getElem?_eq_getElem hi
          have ho : os[i]? = some (os[i]'(by omega)) := List.getElem?_eq_getElem (by omega)
          refine hF i _ _ ho (hl _ ho) h1 (List.mem_map.2 ⟨p, hp, ?_⟩)
          rw [← g2, pin _ _ h1]
        · have := σ.lt hpσ
          rw [← g2, pout _ (by omega)] at this
          omega
end
/-- The things looked at, the others. -/
def liveP : List Nat → List AObj → List AObj → List (Nat × AObj)
  | i :: is, o :: os, z :: zs => match o.live with | true => (i, z) :: liveP is os zs | false => liveP is os zs
  | _, _, _ => []
def ghostP : List Nat → List AObj → List AObj → List (Nat × AObj)
  | i :: is, o :: os, z :: zs => match o.live with | true => ghostP is os zs | false => (i, z) :: ghostP is os zs
  | _, _, _ => []
/-- The things as they are told: those looked at by the small state, the others as they are. -/
def mixG (π : Nat → Nat) : List AObj → List AObj → List AObj
  | o :: os, z :: zs => (match o.live with | true => renO π o | false => z) :: mixG π os zs
  | _, _ => []
/-- What is new. -/
def extraP (π : Nat → Nat) : Nat → List AObj → List (Nat × AObj)
  | _, [] => []
  | i, o :: l => match o.own with | true => (π i, renO π o) :: extraP π (i + 1) l | false => extraP π (i + 1) l
def exL : Nat → List AObj → List (Nat × AObj)
  | _, [] => []
  | i, o :: l => match o.own with | true => (i, o) :: exL (i + 1) l | false => exL (i + 1) l
theorem exL_ren (π : Nat → Nat) : ∀ (i : Nat) (l : List AObj), (exL i l).map (renP π) = extraP π i l
  | _, [] => rfl
  | i, o :: l => by
    have ih := exL_ren π (i + 1) l
    unfold exL extraP
    cases o.own with
    | true => simp only [List.map_cons, ih]; rfl
    | false => exact ih
theorem exL_mem : ∀ {i : Nat} {l : List AObj} {p : Nat × AObj}, p ∈ exL i l → i ≤ p.1 ∧ l[p.1 - i]? = some p.2 ∧ p.2.own = true
  | _, [], _, h => by cases h
  | i, o :: l, p, h => by
    have ih := fun h => exL_mem (i := i + 1) (l := l) (p := p) h
    have tl : p ∈ exL (i + 1) l → i ≤ p.1 ∧ (o :: l)[p.1 - i]? = some p.2 ∧ p.2.own = true := by
      intro h
      obtain ⟨a, b, c⟩ := ih h
      refine ⟨by omega, ?_, c⟩
      rw [show p.1 - i = (p.1 - (i + 1)) + 1 by omega, List.getElem?_cons_succ]
      exact b
    unfold exL at h
    cases ho : o.own with
    | true =>
      rw [ho] at h
      rcases List.mem_cons.1 h with rfl | h
      · exact ⟨Nat.le_refl _, by simp, ho⟩
      · exact tl h
    | false => rw [ho] at h; exact tl h
theorem exL_nodup : ∀ (i : Nat) (l : List AObj), ((exL i l).map (·.1)).Nodup
  | _, [] => List.nodup_nil
  | i, o :: l => by
    have ih := exL_nodup (i + 1) l
    unfold exL
    cases o.own with
    | true =>
      simp only [List.map_cons, List.nodup_cons]
      refine ⟨fun h => ?_, ih⟩
      obtain ⟨p, hp, e⟩ := List.mem_map.1 h
      have := (exL_mem hp).1
      omega
    | false => exact ih
theorem liveP_mem : ∀ {is : List Nat} {os zs : List AObj} {p : Nat × AObj}, p ∈ liveP is os zs → ∃ (n : Nat) (o : AObj), is[n]? = some p.1 ∧ os[n]? = some o ∧ o.live = true ∧ zs[n]? = some p.2
  | [], _, _, _, h => by unfold liveP at h; cases h
  | _ :: _, [], _, _, h => by unfold liveP at h; cases h
  | _ :: _, _ :: _, [], _, h => by unfold liveP at h; cases h
  | i :: is, o :: os, z :: zs, p, h => by
    have tl : p ∈ liveP is os zs → ∃ (n : Nat) (o2 : AObj), (i :: is)[n]? = some p.1 ∧ (o :: os)[n]? = some o2 ∧ o2.live = true ∧ (z :: zs)[n]? = some p.2 := by
      intro h
      obtain ⟨n, o2, a, b, c, d⟩ := liveP_mem h
      exact ⟨n + 1, o2, by simpa using a, by simpa using b, c, by simpa using d⟩
    unfold liveP at h
    cases ho : o.live with
    | true =>
      rw [ho] at h
      rcases List.mem_cons.1 h with rfl | h
      · exact ⟨0, o, rfl, rfl, ho, rfl⟩
      · exact tl h
    | false => rw [ho] at h; exact tl h
theorem liveP_of : ∀ {is : List Nat} {os zs : List AObj} {n : Nat} {i : Nat} {o z : AObj}, is[n]? = some i → os[n]? = some o → o.live = true → zs[n]? = some z → (i, z) ∈ liveP is os zs
  | [], _, _, _, _, _, _, h, _, _, _ => by simp at h
  | _ :: _, [], _, _, _, _, _, _, h, _, _ => by simp at h
  | _ :: _, _ :: _, [], _, _, _, _, _, _, _, h => by simp at h
  | a :: is, b :: os, c :: zs, 0, i, o, z, h1, h2, h3, h4 => by
    simp only [List.getElem?_cons_zero, Option.some.injEq] at h1 h2 h4
    subst h1 h2 h4
    unfold liveP
    rw [h3]
    exact List.mem_cons_self
  | a :: is, b :: os, c :: zs, n + 1, i, o, z, h1, h2, h3, h4 => by
    simp only [List.getElem?_cons_succ] at h1 h2 h4
    have := liveP_of h1 h2 h3 h4
    unfold liveP
    cases b.live with
    | true => exact List.mem_cons_of_mem _ this
    | false => exact this
theorem liveP_ren (π : Nat → Nat) : ∀ (is : List Nat) (os zs : List AObj), (liveP is os zs).map (renP π) = liveP (is.map π) os (zs.map (renO π))
  | [], _, _ => rfl
  | _ :: _, [], _ => rfl
  | _ :: _, _ :: _, [] => rfl
  | i :: is, o :: os, z :: zs => by
    have ih := liveP_ren π is os zs
    simp only [List.map_cons, liveP]
    cases o.live with
    | true => simp only [List.map_cons, ih]; rfl
    | false => exact ih
theorem liveP_sub : ∀ (is : List Nat) (os zs : List AObj), ((liveP is os zs).map (·.1)).Sublist is
  | [], _, _ => by unfold liveP; exact List.Sublist.slnil
  | _ :: _, [], _ => by unfold liveP; exact List.nil_sublist _
  | _ :: _, _ :: _, [] => by unfold liveP; exact List.nil_sublist _
  | i :: is, o :: os, z :: zs => by
    have ih := liveP_sub is os zs
    unfold liveP
    cases o.live with
    | true => exact ih.cons_cons _
    | false => exact ih.cons _
/-- What is told is the things looked at and the others. -/
theorem mix_perm (π : Nat → Nat) : ∀ (is : List Nat) (os os2 zs : List AObj), os2.length = os.length → os2.map AObj.live = os.map AObj.live → (pairs is (mixG π os2 zs)).Perm (liveP is os (os2.map (renO π)) ++ ghostP is os zs) ∨ zs.length < os.length ∨ is.length < os.length
  | is, [], os2, zs, h, _ => by
    have : os2 = [] := List.length_eq_zero_iff.1 (by simpa using h)
    subst this
    left
    cases is <;> exact List.Perm.refl _
  | [], _ :: _, _, _, _, _ => .inr (.inr (by simp))
  | _ :: _, _ :: _, _, [], _, _ => .inr (.inl (by simp))
  | i :: is, o :: os, o2 :: os2, z :: zs, h, hp => by
    simp only [List.map_cons, List.cons.injEq] at hp
    rcases mix_perm π is os os2 zs (by simpa using h) hp.2 with ih | ih | ih
    · left
      simp only [mixG, pairs, liveP, ghostP, List.map_cons, hp.1]
      cases o.live with
      | true => exact ih.cons _
      | false => exact (ih.cons _).trans List.perm_middle.symm
    · exact .inr (.inl (by simpa using ih))
    · exact .inr (.inr (by simpa using ih))
  | _ :: _, _ :: _, [], _, h, _ => by simp at h
theorem mix_get (π : Nat → Nat) : ∀ {os zs : List AObj} {n : Nat} {o z : AObj}, os[n]? = some o → zs[n]? = some z → (mixG π os zs)[n]? = some (match o.live with | true => renO π o | false => z)
  | [], _, _, _, _, h, _ => by simp at h
  | _ :: _, [], _, _, _, _, h => by simp at h
  | a :: os, b :: zs, 0, o, z, h1, h2 => by
    simp only [List.getElem?_cons_zero, Option.some.injEq] at h1 h2
    subst h1 h2
    rfl
  | a :: os, b :: zs, n + 1, o, z, h1, h2 => by
    simp only [List.getElem?_cons_succ] at h1 h2
    exact mix_get (os := os) (zs := zs) (n := n) π h1 h2
section
variable {P : Program} {f : FuncId}
/-- As tri_gh2, where what is new is one of many. -/
theorem tri_gh3 {os os2 : List AObj} {R : List AObj → Prop} {args0 : List Value} {v0 : Value} (h0 : Tri P f args0 (can os) fun v σ0 => v = v0 ∧ ∃ ex, R ex ∧ σ0 = can (os2 ++ ex)) {σ : AS} {ids : List Nat} {zs : List AObj} {Fr : List (Nat × AObj)} {args : List Value} {K : Value → AS → Prop}
    (hlen : ids.length = os.length) (hlz : zs.length = os.length) (hl2 : os2.length = os.length) (hpat : os2.map AObj.live = os.map AObj.live)
    (H : Has σ (pairs ids zs ++ Fr)) (hz : mixG (pf ids σ.n) os zs = zs) (ha : args = renVs (pf ids σ.n) args0)
    (hK : ∀ (k : Nat) ex, R ex → ∀ σ', Has σ' (pairs ids (mixG (pf ids k) os2 zs) ++ (extraP (pf ids k) os.length ex ++ Fr)) → K (renV (pf ids k) v0) σ') : Tri P f args σ K := by
  have hp := (mix_perm (pf ids σ.n) ids os os zs rfl rfl).resolve_right (by omega)
  rw [hz] at hp
  have H2 : Has σ (liveP ids os (os.map (renO (pf ids σ.n))) ++ (ghostP ids os zs ++ Fr)) := H.perm (by rw [← List.append_assoc]; exact (hp.append_right _).symm)
  have hk : ((pairs ids zs ++ Fr).map (·.1)).Nodup := H.1
  rw [List.map_append, pairs_fst (by omega)] at hk
  have hsm : ∀ (i j : Nat), ids[i]? = some j → ∃ z, zs[i]? = some z ∧ σ j = some z := by
    intro i j hj
    have hi := (List.getElem?_eq_some_iff.1 hj).1
    have hz1 : zs[i]? = some (zs[i]'(by omega)) := List.getElem?_eq_getElem (by omega)
    exact ⟨_, hz1, H.2 _ (List.mem_append_left _ (pairs_mem hj hz1))⟩
  refine tri_gh h0 hlen (List.nodup_append.1 hk).1 (fun i j hj => ?_) (fun i o j ho hl hj => ?_) (H2.sub (List.sublist_append_right _ _)) (fun i o j ho hl hj hm => ?_) ha ?_
  · obtain ⟨z, _, h⟩ := hsm i j hj
    exact ⟨z, h⟩
  · obtain ⟨z, h1, h2⟩ := hsm i j hj
    have := mix_get (pf ids σ.n) ho h1
    rw [hz, h1, hl] at this
    rw [h2]
    exact this
  · have hn := H2.1
    rw [List.map_append] at hn
    obtain ⟨_, _, hd⟩ := List.nodup_append.1 hn
    refine hd j (List.mem_map.2 ⟨(j, renO (pf ids σ.n) o), liveP_of hj ho hl (by rw [List.getElem?_map, ho]; rfl), rfl⟩) j hm rfl
  · rintro v σ0 ⟨rfl, ex, hR, rfl⟩ k σ' hh
    refine hK k ex hR σ' ?_
    have hrange : (List.range os.length).map (pf ids k) = ids := by
      apply List.ext_getElem?
      intro i
      rw [List.getElem?_map]
      by_cases hi : i < os.length
      · rw [List.getElem?_range hi, List.getElem?_eq_getElem (by omega)]
        simp only [Option.map_some]
        unfold pf
        rw [List.getElem?_eq_getElem (by omega)]
      · rw [List.getElem?_eq_none (by simp; omega), List.getElem?_eq_none (by omega)]
        rfl
    have hcan : ∀ (i : Nat) (o : AObj), (os2 ++ ex)[i]? = some o → can (os2 ++ ex) i = some o := fun i o h => by rw [can_get]; exact h
    have := hh (liveP (List.range os.length) os os2 ++ exL os.length ex) ⟨?_, fun p hp => ?_⟩ ?_
    · rw [List.map_append, liveP_ren, hrange, exL_ren] at this
      have hp2 := (mix_perm (pf ids k) ids os os2 zs hl2 hpat).resolve_right (by omega)
      refine this.perm ?_
      refine ((hp2.append_right _)).trans ?_
      rw [List.append_assoc, List.append_assoc]
      refine List.Perm.append_left _ ?_
      rw [← List.append_assoc, ← List.append_assoc]
      exact List.Perm.append_right _ List.perm_append_comm
    · rw [List.map_append]
      refine List.nodup_append.2 ⟨(liveP_sub _ _ _).nodup List.nodup_range, exL_nodup _ _, ?_⟩
      intro a ha b hb hab
      have h1 := (liveP_sub _ _ _).subset ha
      rw [List.mem_range] at h1
      obtain ⟨p, hp, rfl⟩ := List.mem_map.1 hb
      have := (exL_mem hp).1
      omega
    · rcases List.mem_append.1 hp with hp | hp
      · obtain ⟨n, o, a, b, c, d⟩ := liveP_mem hp
        have hn : n < os.length := (List.getElem?_eq_some_iff.1 b).1
        rw [List.getElem?_range hn] at a
        obtain rfl := Option.some.inj a
        exact hcan _ _ (by rw [List.getElem?_append_left (by omega)]; exact d)
      · obtain ⟨a, b, c⟩ := exL_mem hp
        exact hcan _ _ (by rw [List.getElem?_append_right (by omega), hl2]; exact b)
    · refine List.all_eq_true.2 fun p hp => ?_
      rcases List.mem_append.1 hp with hp | hp
      · obtain ⟨n, o, a, b, c, d⟩ := liveP_mem hp
        have hn : n < os.length := (List.getElem?_eq_some_iff.1 b).1
        rw [List.getElem?_range hn] at a
        obtain rfl := Option.some.inj a
        rw [b]
        exact c
      · obtain ⟨a, b, c⟩ := exL_mem hp
        rw [List.getElem?_eq_none (by omega)]
        exact c
/-- A call reckoned in a small state (what is only pointed at: .dead there): what it leaves, the things told anew, what is new. -/
theorem tri_gh2 {os os2 ex : List AObj} {args0 : List Value} {v0 : Value} (h0 : Tri P f args0 (can os) fun v σ0 => v = v0 ∧ σ0 = can (os2 ++ ex)) {σ : AS} {ids : List Nat} {zs : List AObj} {Fr : List (Nat × AObj)} {args : List Value} {K : Value → AS → Prop}
    (hlen : ids.length = os.length) (hlz : zs.length = os.length) (hl2 : os2.length = os.length) (hpat : os2.map AObj.live = os.map AObj.live)
    (H : Has σ (pairs ids zs ++ Fr)) (hz : mixG (pf ids σ.n) os zs = zs) (ha : args = renVs (pf ids σ.n) args0)
    (hK : ∀ (k : Nat) σ', Has σ' (pairs ids (mixG (pf ids k) os2 zs) ++ (extraP (pf ids k) os.length ex ++ Fr)) → K (renV (pf ids k) v0) σ') : Tri P f args σ K := by
  refine tri_gh3 (R := fun e => e = ex) (os2 := os2) (h0.mono fun v σ0 h => ⟨h.1, ex, rfl, h.2⟩) hlen hlz hl2 hpat H hz ha fun k e he σ' h => ?_
  subst he
  exact hK k σ' h
end
end Go.AI
