/- Lemmas of the abstract condition ahead of code (a part of the library that the claim's proof stands on); they hold with no condition but those that each names. -/
import Derived.Test.YtlofpopejkohbaaGreatAISep
import Derived.Test.YtlofpopejkohbaaGreatAIEval
set_option linter.unusedSimpArgs false
set_option linter.unusedVariables false
/- A call reckoned in a small state of its own does the same in every state that holds those things under other numbers; all else stays. -/
namespace Go.AI
mutual
/-- Another number for each id. -/
def renV (π : Nat → Nat) : Value → Value
  | .bool b => .bool b
  | .int k n => .int k n
  | .float k n => .float k n
  | .complex k a b => .complex k a b
  | .string s => .string s
  | .pointer a => .pointer (match a with | none => none | some a => some ⟨π a.block, a.off, a.spot⟩)
  | .slice a n e => .slice (match a with | none => none | some a => some ⟨π a.block, a.off, a.spot⟩) n e
  | .map r => .map (match r with | none => none | some i => some (π i))
  | .chan r => .chan r
  | .func f ⟨a⟩ ⟨c⟩ => .func f ⟨renVs π a⟩ ⟨renVs π c⟩
  | .nilFunc => .nilFunc
  | .iface t v => .iface t (renV π v)
  | .nilIface => .nilIface
  | .agg ⟨l⟩ => .agg ⟨renVs π l⟩
  | .tuple ⟨l⟩ => .tuple ⟨renVs π l⟩
def renVs (π : Nat → Nat) : List Value → List Value
  | [] => []
  | v :: l => renV π v :: renVs π l
end
theorem renVs_map (π : Nat → Nat) : ∀ l, renVs π l = l.map (renV π)
  | [] => by rw [renVs]; rfl
  | v :: l => by rw [renVs, renVs_map π l]; rfl
def renE (π : Nat → Nat) (e : MapEntry) : MapEntry := ⟨renV π e.key, renV π e.val, e.born⟩
def renO (π : Nat → Nat) : AObj → AObj
  | .row k cs => .row k (cs.map (renV π))
  | .map es c => .map (es.map (renE π)) c
  | .iter m a b c => .iter (m.map π) a b c
  | .siter s p => .siter s p
  | .dead => .dead
theorem renO_own (π : Nat → Nat) (o : AObj) : (renO π o).own = o.own := by cases o <;> rfl
theorem renO_live (π : Nat → Nat) (o : AObj) : (renO π o).live = o.live := by cases o <;> rfl
section
variable {π : Nat → Nat} {ρ ρ' : RM}
mutual
theorem ren_up (h : ∀ i l, ρ i = some l → ρ' (π i) = some l) : ∀ {v cv : Value}, VRel ρ v cv → VRel ρ' (renV π v) cv
  | _, _, .bool b => by rw [renV]; exact .bool b
  | _, _, .int k n => by rw [renV]; exact .int k n
  | _, _, .str s => by rw [renV]; exact .str s
  | _, _, .nilptr => by rw [renV]; exact .nilptr
  | _, _, .ptr e => by rw [renV]; exact .ptr (h _ _ e)
  | _, _, .nilslice e => by rw [renV]; exact .nilslice e
  | _, _, .slice e hn ho hs hw => by rw [renV]; exact .slice (h _ _ e) hn ho hs hw
  | _, _, .emp e he => by rw [renV]; exact .emp (h _ _ e) he
  | _, _, .nilmap => by rw [renV]; exact .nilmap
  | _, _, .map e => by rw [renV]; exact .map (h _ _ e)
  | _, _, .nilfunc => by rw [renV]; exact .nilfunc
  | _, _, .func f h1 h2 => by rw [renV]; exact .func f (rens_up h h1) (rens_up h h2)
  | _, _, .nilif => by rw [renV]; exact .nilif
  | _, _, .iface t e => by rw [renV]; exact .iface t (ren_up h e)
  | _, _, .agg e h1 => by rw [renV]; exact .agg (rens_up h e) h1
  | _, _, .tuple e => by rw [renV]; exact .tuple (rens_up h e)
theorem rens_up (h : ∀ i l, ρ i = some l → ρ' (π i) = some l) : ∀ {v cv : List Value}, VsRel ρ v cv → VsRel ρ' (renVs π v) cv
  | _, _, .nil => by rw [renVs]; exact .nil
  | _, _, .cons e es => by rw [renVs]; exact .cons (ren_up h e) (rens_up h es)
end
mutual
theorem ren_down : ∀ (v : Value) {cv : Value}, VRel ρ (renV π v) cv → VRel (fun i => ρ (π i)) v cv
  | .bool b, _, h => by rw [renV] at h; cases h; exact .bool b
  | .int k n, _, h => by rw [renV] at h; cases h; exact .int k n
  | .float k n, _, h => by rw [renV] at h; cases h
  | .complex k a b, _, h => by rw [renV] at h; cases h
  | .string s, _, h => by rw [renV] at h; cases h; exact .str s
  | .pointer none, _, h => by rw [renV] at h; cases h; exact .nilptr
  | .pointer (some ⟨b, o, s⟩), _, h => by
    rw [renV] at h
    try simp only at h
    cases h with
    | ptr e => exact .ptr (ρ := fun i => ρ (π i)) e
  | .slice none n e, _, h => by rw [renV] at h; cases h; exact .nilslice e
  | .slice (some ⟨b, o, s⟩) n e, _, h => by
    rw [renV] at h
    try simp only at h
    cases h with
    | slice e hn ho hs hw => exact .slice (ρ := fun i => ρ (π i)) e hn ho hs hw
    | emp e he => exact .emp (ρ := fun i => ρ (π i)) e he
  | .map none, _, h => by rw [renV] at h; cases h; exact .nilmap
  | .map (some i), _, h => by
    rw [renV] at h
    try simp only at h
    cases h with
    | map e => exact .map (ρ := fun i => ρ (π i)) e
  | .chan r, _, h => by rw [renV] at h; cases h
  | .func f ⟨a⟩ ⟨c⟩, _, h => by
    rw [renV] at h
    cases h with
    | func f h1 h2 => exact .func f (rens_down a h1) (rens_down c h2)
  | .nilFunc, _, h => by rw [renV] at h; cases h; exact .nilfunc
  | .iface t v, _, h => by
    rw [renV] at h
    cases h with
    | iface t e => exact .iface t (ren_down v e)
  | .nilIface, _, h => by rw [renV] at h; cases h; exact .nilif
  | .agg ⟨l⟩, _, h => by
    rw [renV] at h
    cases h with
    | agg e h1 => exact .agg (rens_down l e) h1
  | .tuple ⟨l⟩, _, h => by
    rw [renV] at h
    cases h with
    | tuple e => exact .tuple (rens_down l e)
theorem rens_down : ∀ (v : List Value) {cv : List Value}, VsRel ρ (renVs π v) cv → VsRel (fun i => ρ (π i)) v cv
  | [], _, h => by rw [renVs] at h; cases h; exact .nil
  | v :: l, _, h => by
    rw [renVs] at h
    cases h with
    | cons e es => exact .cons (ren_down v e) (rens_down l es)
end
theorem orel_up (h : ∀ i l, ρ i = some l → ρ' (π i) = some l) {hp : Array Obj} {l : Loc} : ∀ {o : AObj}, ORel ρ hp l o → ORel ρ' hp l (renO π o)
  | .row k cs, ⟨c, el, fz, h1, h2, h3, h4, h5, h6⟩ => by
    refine ⟨c, el, fz, h1, h2, by simpa using h3, fun j v hv => ?_, h5, fun e => by simpa using h6 e⟩
    rw [List.getElem?_map] at hv
    cases hc : cs[j]? with
    | none => rw [hc] at hv; cases hv
    | some w =>
      rw [hc] at hv
      obtain rfl := Option.some.inj hv
      obtain ⟨cv, a, b, d⟩ := h4 j w hc
      exact ⟨cv, a, ren_up h b, d⟩
  | .map es ck, ⟨c, h1, h2⟩ => by
    refine ⟨c, h1, ?_⟩
    generalize c.toList = cl at h2
    induction h2 with
    | nil => exact .nil
    | cons e _ ih => exact .cons ⟨ren_up h e.key, ren_up h e.val, e.born⟩ ih
  | .iter m a b c, ⟨h0, cm, h1, h2⟩ => by
    refine ⟨h0, cm, h1, ?_⟩
    cases m <;> cases cm <;> simp [MRel] at h2 ⊢
    obtain ⟨l', e1, e2⟩ := h2
    exact ⟨l', h _ _ e1, e2⟩
  | .siter s p, h1 => h1
  | .dead, _ => trivial
theorem orel_down {hp : Array Obj} {l : Loc} : ∀ {o : AObj}, ORel ρ hp l (renO π o) → ORel (fun i => ρ (π i)) hp l o
  | .row k cs, ⟨c, el, fz, h1, h2, h3, h4, h5, h6⟩ => by
    refine ⟨c, el, fz, h1, h2, by simpa using h3, fun j v hv => ?_, h5, fun e => by simpa using h6 e⟩
    obtain ⟨cv, a, b, d⟩ := h4 j (renV π v) (by rw [List.getElem?_map, hv]; rfl)
    exact ⟨cv, a, ren_down v b, d⟩
  | .map es ck, ⟨c, h1, h2⟩ => by
    refine ⟨c, h1, ?_⟩
    generalize c.toList = cl at h2
    clear h1
    induction es generalizing cl with
    | nil => cases h2; exact .nil
    | cons e es ih =>
      cases h2 with
      | cons e1 e2 => exact .cons ⟨ren_down _ e1.key, ren_down _ e1.val, e1.born⟩ (ih _ e2)
  | .iter m a b c, ⟨h0, cm, h1, h2⟩ => by
    refine ⟨h0, cm, h1, ?_⟩
    cases m <;> cases cm <;> simp [MRel] at h2 ⊢
    obtain ⟨l', e1, e2⟩ := h2
    exact ⟨l', e1, e2⟩
  | .siter s p, h1 => h1
  | .dead, _ => trivial
end
/-- Things more, under these numbers. -/
def AS.sets (σ : AS) : List (Nat × AObj) → AS
  | [] => σ
  | p :: l => (σ.sets l).set p.1 p.2
theorem AS.sets_some {σ : AS} {j : Nat} {o : AObj} : ∀ {L : List (Nat × AObj)}, (j, o) ∈ L → (∀ o2, (j, o2) ∈ L → o2 = o) → σ.sets L j = some o
  | p :: l, hm, hu => by
    unfold AS.sets
    rw [AS.get_set]
    by_cases e : j = p.1
    · rw [if_pos e]
      obtain ⟨a, b⟩ := p
      simp only at e ⊢
      subst e
      rw [hu b (List.mem_cons_self ..)]
    · rw [if_neg e]
      refine AS.sets_some (L := l) ((List.mem_cons.1 hm).resolve_left fun h => e (by rw [← h])) fun o2 h2 => hu o2 (List.mem_cons_of_mem _ h2)
theorem AS.sets_none {σ : AS} {j : Nat} : ∀ {L : List (Nat × AObj)}, (∀ o, (j, o) ∉ L) → σ.sets L j = σ j
  | [], _ => rfl
  | p :: l, h => by
    unfold AS.sets
    rw [AS.get_set, if_neg (fun e => h p.2 (by rw [e]; exact List.mem_cons_self ..))]
    exact AS.sets_none fun o ho => h o (List.mem_cons_of_mem _ ho)
/-- The state of just these things, under 0, 1, 2 .. -/
def canF : Nat → List AObj → AS → AS
  | _, [], σ => σ
  | k, o :: l, σ => canF (k + 1) l (σ.set k o)
def can (l : List AObj) : AS := canF 0 l AS.nil
theorem canF_get : ∀ (l : List AObj) (k : Nat) (σ : AS) (j : Nat), canF k l σ j = if k ≤ j ∧ j < k + l.length then l[j - k]? else σ j
  | [], k, σ, j => by rw [if_neg (by simp only [List.length_nil]; omega)]; rfl
  | o :: l, k, σ, j => by
    unfold canF
    rw [canF_get l (k + 1) (σ.set k o) j]
    by_cases h : k + 1 ≤ j ∧ j < k + 1 + l.length
    · rw [if_pos h, if_pos (by simp; omega), show j - k = (j - (k + 1)) + 1 by omega, List.getElem?_cons_succ]
    · rw [if_neg h, AS.get_set]
      by_cases e : j = k
      · subst e
        rw [if_pos rfl, if_pos (by simp), Nat.sub_self]
        rfl
      · rw [if_neg e, if_neg (by simp; omega)]
theorem can_get (l : List AObj) (j : Nat) : can l j = l[j]? := by
  unfold can
  rw [canF_get]
  by_cases h : j < l.length
  · rw [if_pos (by omega), Nat.sub_zero]
  · rw [if_neg (by omega), List.getElem?_eq_none (by omega)]
    exact AS.nil.ok j (Nat.zero_le _)
theorem of_blt {a b : Nat} (h : Nat.blt a b = true) : a < b := Nat.ble_eq.mp h
/-- The numbers: those of the list, then behind k. -/
def pf (ids : List Nat) (k i : Nat) : Nat := match ids[i]? with | some j => j | none => k + i
def renP (π : Nat → Nat) (p : Nat × AObj) : Nat × AObj := (π p.1, renO π p.2)
def okL (n : Nat) (L : List (Nat × AObj)) : Bool := L.all fun p => Nat.blt p.1 n || p.2.own
def pairs : List Nat → List AObj → List (Nat × AObj)
  | i :: is, o :: os => (i, o) :: pairs is os
  | _, _ => []
theorem pairs_mem : ∀ {ids : List Nat} {os : List AObj} {i j : Nat} {o : AObj}, ids[i]? = some j → os[i]? = some o → (j, o) ∈ pairs ids os
  | a :: ids, b :: os, 0, j, o, h1, h2 => by
    simp at h1 h2
    subst h1; subst h2
    exact List.mem_cons_self ..
  | a :: ids, b :: os, i + 1, j, o, h1, h2 => by
    simp at h1 h2
    exact List.mem_cons_of_mem _ (pairs_mem h1 h2)
theorem pairs_fst : ∀ {ids : List Nat} {os : List AObj}, ids.length = os.length → (pairs ids os).map (·.1) = ids
  | [], [], _ => rfl
  | a :: ids, b :: os, h => by
    simp only [pairs, List.map_cons]
    rw [pairs_fst (by simpa using h)]
section
variable {P : Program} {f : FuncId}
theorem tri_can {os : List AObj} {args0 : List Value} {K0 : Value → AS → Prop} (h0 : Tri P f args0 (can os) K0) {σ : AS} {ids : List Nat} {Fr : List (Nat × AObj)} {args : List Value} {K : Value → AS → Prop}
    (hlen : ids.length = os.length) (hlive : os.all AObj.live = true) (H : Has σ (pairs ids (os.map (renO (pf ids σ.n))) ++ Fr)) (ha : args = renVs (pf ids σ.n) args0)
    (hK : ∀ v0 σ0', K0 v0 σ0' → ∀ (k : Nat) σ', (∀ L0', Has σ0' L0' → okL os.length L0' = true → Has σ' (L0'.map (renP (pf ids k)) ++ Fr)) → K (renV (pf ids k) v0) σ') : Tri P f args σ K := by
  subst ha
  refine ⟨fun ρ w cargs hc hs => ?_⟩
  have hnd : (ids ++ Fr.map (·.1)).Nodup := by
    have := H.1
    rw [List.map_append, pairs_fst (by simpa using hlen)] at this
    exact this
  obtain ⟨hn1, hn2, hn3⟩ := List.nodup_append.1 hnd
  have hat : ∀ (i : Nat) (o : AObj), os[i]? = some o → ∃ j, ids[i]? = some j ∧ σ j = some (renO (pf ids σ.n) o) := by
    intro i o ho
    have hi : i < ids.length := by rw [hlen]; exact (List.getElem?_eq_some_iff.1 ho).1
    refine ⟨ids[i], List.getElem?_eq_getElem hi, ?_⟩
    exact H.2 _ (List.mem_append_left _ (pairs_mem (List.getElem?_eq_getElem hi) (by rw [List.getElem?_map, ho]; rfl)))
  have hids : ∀ (i j : Nat), ids[i]? = some j → j < σ.n := by
    intro i j hij
    have hi := (List.getElem?_eq_some_iff.1 hij).1
    obtain ⟨j', h1, h2⟩ := hat i os[i] (List.getElem?_eq_getElem (by omega))
    rw [hij] at h1
    obtain rfl := Option.some.inj h1
    exact σ.lt h2
  generalize hπ : pf ids σ.n = π at *
  have pin : ∀ (i j : Nat), ids[i]? = some j → π i = j := by
    intro i j h
    rw [← hπ]; unfold pf; rw [h]
  have pout : ∀ i, ids.length ≤ i → π i = σ.n + i := by
    intro i h
    rw [← hπ]; unfold pf; rw [List.getElem?_eq_none h]
  have plow : ∀ i, i < ids.length → π i < σ.n := by
    intro i h
    have h1 := List.getElem?_eq_getElem h
    rw [pin i _ h1]
    exact hids i _ h1
  have pinj : ∀ i j, π i = π j → i = j := by
    intro i j h
    by_cases h1 : i < ids.length
    · by_cases h2 : j < ids.length
      · have e1 := List.getElem?_eq_getElem h1
        have e2 := List.getElem?_eq_getElem h2
        rw [pin i _ e1, pin j _ e2] at h
        exact nodup_inj hn1 e1 (by rw [e2, h])
      · have := plow i h1
        rw [h, pout j (by omega)] at this
        omega
    · by_cases h2 : j < ids.length
      · have := plow j h2
        rw [← h, pout i (by omega)] at this
        omega
      · rw [pout i (by omega), pout j (by omega)] at h
        omega
  have free : ∀ i, ids.length ≤ i → σ (π i) = none := fun i h => by rw [pout i h]; exact σ.ok _ (by omega)
  -- the small state
  have hc0 : ∀ i, can os i = os[i]? := can_get os
  have s0 : Sim (fun i => ρ (π i)) w.heap (can os) := by
    refine ⟨fun i o e => ?_, fun i j oi oj li lj hij e1 e2 l1 l2 w1 w2 => ?_, fun i e => ?_⟩
    · rw [hc0] at e
      obtain ⟨j, h1, h2⟩ := hat i o e
      obtain ⟨l, g1, g2⟩ := hs.obj _ _ h2
      refine ⟨l, by show ρ (π i) = some l; rw [pin i j h1]; exact g1, orel_down g2⟩
    · rw [hc0] at e1 e2
      obtain ⟨j1, a1, a2⟩ := hat i oi e1
      obtain ⟨j2, b1, b2⟩ := hat j oj e2
      have q1 : ρ (π i) = some li := l1
      have q2 : ρ (π j) = some lj := l2
      rw [pin i _ a1] at q1
      rw [pin j _ b1] at q2
      refine hs.inj j1 j2 _ _ li lj (fun e => hij (pinj i j (by rw [pin i _ a1, pin j _ b1, e]))) a2 b2 q1 q2 (by rw [renO_own]; exact w1) (by rw [renO_live]; exact w2)
    · rw [hc0] at e
      show ρ (π i) = none
      exact hs.dom _ (free i (by rw [hlen]; exact List.getElem?_eq_none_iff.1 e))
  obtain ⟨nx, w1, h1, h2⟩ := h0.run (fun i => ρ (π i)) w cargs (rens_down args0 hc) s0
  refine ⟨nx, w1, h1, h2.mono ?_⟩
  rintro cv w' ⟨v0, ρ0, σ0, hv, hr, s', st⟩
  -- ids of the small state that were there
  have old : ∀ (i : Nat), i < ids.length → ∃ o, os[i]? = some o ∧ o.live = true ∧ can os i = some o ∧ σ (π i) = some (renO π o) := by
    intro i hi
    have ho : os[i]? = some os[i] := List.getElem?_eq_getElem (by omega)
    obtain ⟨j, a1, a2⟩ := hat i _ ho
    exact ⟨os[i], ho, List.all_eq_true.1 hlive _ (List.getElem_mem ..), by rw [hc0, ho], by rw [pin i j a1]; exact a2⟩
  have oldρ : ∀ i, i < ids.length → ∃ l, ρ (π i) = some l ∧ ρ0 i = some l := by
    intro i hi
    obtain ⟨o, _, _, _, h⟩ := old i hi
    obtain ⟨l, g1, _⟩ := hs.obj _ _ h
    exact ⟨l, g1, st.ext i l g1⟩
  have known : ∀ i, i < ids.length → ∃ o, σ0 i = some o := by
    intro i hi
    obtain ⟨l, _, g⟩ := oldρ i hi
    cases e : σ0 i with
    | none => rw [s'.dom i e] at g; cases g
    | some o => exact ⟨o, rfl⟩
  let keep : Nat → AObj → AObj := fun i o => if i < ids.length ∨ o.own = true then renO π o else .dead
  let U : List (Nat × AObj) := (List.range σ0.n).filterMap fun i => (σ0 i).map fun o => (π i, keep i o)
  have memU : ∀ j o', (j, o') ∈ U ↔ ∃ i o, σ0 i = some o ∧ π i = j ∧ keep i o = o' := by
    intro j o'
    simp only [U, List.mem_filterMap, List.mem_range, Option.map_eq_some_iff, Prod.mk.injEq]
    constructor
    · rintro ⟨i, _, o, h1, h2, h3⟩; exact ⟨i, o, h1, h2, h3⟩
    · rintro ⟨i, o, h1, h2, h3⟩; exact ⟨i, σ0.lt h1, o, h1, h2, h3⟩
  have get1 : ∀ i o, σ0 i = some o → (σ.sets U) (π i) = some (keep i o) := by
    intro i o h
    refine AS.sets_some ((memU _ _).2 ⟨i, o, h, rfl, rfl⟩) fun o2 h2 => ?_
    obtain ⟨i2, o3, g1, g2, g3⟩ := (memU _ _).1 h2
    obtain rfl := pinj _ _ g2
    rw [h] at g1
    obtain rfl := Option.some.inj g1
    exact g3.symm
  have get2 : ∀ j, (∀ i o, σ0 i = some o → π i ≠ j) → (σ.sets U) j = σ j := by
    intro j h
    refine AS.sets_none fun o ho => ?_
    obtain ⟨i, o2, g1, g2, _⟩ := (memU _ _).1 ho
    exact h i o2 g1 g2
  let ρ' : RM := fun j => if j < σ.n then ρ j else if ids.length ≤ j - σ.n then ρ0 (j - σ.n) else none
  have up : ∀ i l, ρ0 i = some l → ρ' (π i) = some l := by
    intro i l h
    by_cases hi : i < ids.length
    · obtain ⟨l2, g1, g2⟩ := oldρ i hi
      rw [h] at g2
      obtain rfl := Option.some.inj g2
      show (if π i < σ.n then _ else _) = _
      rw [if_pos (plow i hi)]
      exact g1
    · have e := pout i (by omega)
      show (if π i < σ.n then _ else _) = _
      rw [if_neg (by omega), e, if_pos (by omega), show σ.n + i - σ.n = i by omega]
      exact h
  have ownOld : ∀ b, Own (fun i => ρ (π i)) (can os) b → Own ρ σ b := by
    rintro b ⟨i, o, l, g1, g2, g3, g4⟩
    rw [hc0] at g1
    obtain ⟨j, a1, a2⟩ := hat i o g1
    exact ⟨π i, renO π o, l, by rw [pin i j a1]; exact a2, by rw [renO_own]; exact g2, g3, g4⟩
  -- what is not of the small state
  have isF : ∀ j o, (σ.sets U) j = some o → (∃ i o0, σ0 i = some o0 ∧ π i = j ∧ o = keep i o0) ∨ (σ j = some o ∧ ∀ i o0, σ0 i = some o0 → π i ≠ j) := by
    intro j o h
    by_cases hx : ∃ i o0, σ0 i = some o0 ∧ π i = j
    · obtain ⟨i, o0, g1, g2⟩ := hx
      left
      refine ⟨i, o0, g1, g2, ?_⟩
      rw [← g2, get1 i o0 g1] at h
      exact (Option.some.inj h).symm
    · right
      have hx' : ∀ i o0, σ0 i = some o0 → π i ≠ j := fun i o0 g1 g2 => hx ⟨i, o0, g1, g2⟩
      rw [get2 j hx'] at h
      exact ⟨h, hx'⟩
  have notOld : ∀ j, (∀ i o0, σ0 i = some o0 → π i ≠ j) → ∀ i, i < ids.length → π i ≠ j := by
    intro j h i hi
    obtain ⟨o, ho⟩ := known i hi
    exact h i o ho
  have ρF : ∀ j o, σ j = some o → ρ' j = ρ j := fun j o h => by
    show (if j < σ.n then _ else _) = _
    rw [if_pos (σ.lt h)]
  -- a thing of the frame is not owned by the small state
  have notOwn : ∀ j o l, σ j = some o → o.live = true → ρ j = some l → (∀ i o0, σ0 i = some o0 → π i ≠ j) → ¬ Own (fun i => ρ (π i)) (can os) l.block := by
    rintro j o l g1 g2 g3 g4 ⟨i, oi, li, e1, e2, e3, e4⟩
    rw [hc0] at e1
    obtain ⟨j2, a1, a2⟩ := hat i oi e1
    have hi : i < ids.length := (List.getElem?_eq_some_iff.1 a1).1
    have e3 : ρ (π i) = some li := e3
    refine hs.inj (π i) j _ _ li l (notOld j g4 i hi) (by rw [pin i j2 a1]; exact a2) g1 e3 g3 (by rw [renO_own]; exact e2) g2 e4
  have keepOwn : ∀ i o, (keep i o).own = true → o.own = true := by
    intro i o h
    show o.own = true
    by_cases hk : i < ids.length ∨ o.own = true
    · have : keep i o = renO π o := if_pos hk
      rw [this, renO_own] at h
      exact h
    · have : keep i o = .dead := if_neg hk
      rw [this] at h
      cases h
  have keepLive : ∀ i o, (keep i o).live = true → o.live = true ∧ (i < ids.length ∨ o.own = true) := by
    intro i o h
    by_cases hk : i < ids.length ∨ o.own = true
    · have : keep i o = renO π o := if_pos hk
      rw [this, renO_live] at h
      exact ⟨h, hk⟩
    · have : keep i o = .dead := if_neg hk
      rw [this] at h
      cases h
  have ρC : ∀ i l o, σ0 i = some o → ρ' (π i) = some l → ρ0 i = some l := by
    intro i l o h g
    obtain ⟨l2, q1, _⟩ := s'.obj i o h
    rw [up i l2 q1] at g
    obtain rfl := Option.some.inj g
    exact q1
  have ownLive : ∀ {o : AObj}, o.own = true → o.live = true := fun {o} h => by cases o <;> first | rfl | cases h
  have sim : Sim ρ' w'.heap (σ.sets U) := by
    refine ⟨fun j o h => ?_, fun i j oi oj li lj hij e1 e2 l1 l2 w1 w2 => ?_, fun j h => ?_⟩
    · rcases isF j o h with ⟨i, o0, g1, rfl, rfl⟩ | ⟨g1, g2⟩
      · obtain ⟨l, q1, q2⟩ := s'.obj i o0 g1
        refine ⟨l, up i l q1, ?_⟩
        by_cases hk : i < ids.length ∨ o0.own = true
        · rw [show keep i o0 = renO π o0 from if_pos hk]
          exact orel_up up q2
        · rw [show keep i o0 = .dead from if_neg hk]
          trivial
      · obtain ⟨l, q1, q2⟩ := hs.obj j o g1
        refine ⟨l, by rw [ρF j o g1]; exact q1, ?_⟩
        cases hl : o.live with
        | false =>
          have hd : o = .dead := dead_of (by rw [hl]; decide)
          subst hd
          trivial
        | true =>
          have hb := q2.lt hl
          have fr := st.frame l.block hb (notOwn j o l g1 hl q1 g2)
          exact q2.keep (fun i l h => by
            show (if i < σ.n then _ else _) = _
            have : i < σ.n := by
              rcases Nat.lt_or_ge i σ.n with q | q
              · exact q
              · rw [hs.dom i (σ.ok i q)] at h; cases h
            rw [if_pos this]
            exact h) fr
    · rcases isF i oi e1 with ⟨a, oa, g1, rfl, rfl⟩ | ⟨g1, g2⟩
      · have qa := ρC a li oa g1 l1
        have wa := keepOwn a oa w1
        rcases isF j oj e2 with ⟨b, ob, k1, rfl, rfl⟩ | ⟨k1, k2⟩
        · have qb := ρC b lj ob k1 l2
          exact s'.inj a b oa ob li lj (fun e => hij (by rw [e])) g1 k1 qa qb wa (keepLive b ob w2).1
        · rw [ρF j oj k1] at l2
          intro hb
          rcases st.own li.block ⟨a, oa, li, g1, wa, qa, rfl⟩ with h | h
          · rw [hb] at h
            exact notOwn j oj lj k1 w2 l2 k2 h
          · obtain ⟨l3, q1, q2⟩ := hs.obj j oj k1
            rw [l2] at q1
            obtain rfl := Option.some.inj q1
            have := q2.lt w2
            omega
      · rw [ρF i oi g1] at l1
        rcases isF j oj e2 with ⟨b, ob, k1, rfl, rfl⟩ | ⟨k1, k2⟩
        · have qb := ρC b lj ob k1 l2
          obtain ⟨lv, hor⟩ := keepLive b ob w2
          intro hb
          obtain ⟨l3, q1, q2⟩ := hs.obj i oi g1
          rw [l1] at q1
          obtain rfl := Option.some.inj q1
          have hlt := q2.lt (ownLive w1)
          by_cases hbi : b < ids.length
          · obtain ⟨o, _, o2, _, o4⟩ := old b hbi
            obtain ⟨l4, r1, r2⟩ := oldρ b hbi
            rw [qb] at r2
            obtain rfl := Option.some.inj r2
            exact hs.inj i (π b) oi _ li lj (fun e => g2 b ob k1 e.symm) g1 o4 l1 r1 w1 (by rw [renO_live]; exact o2) hb
          · have wb := hor.resolve_left hbi
            rcases st.own lj.block ⟨b, ob, lj, k1, wb, qb, rfl⟩ with h | h
            · rw [← hb] at h
              exact notOwn i oi li g1 (ownLive w1) l1 g2 h
            · omega
        · rw [ρF j oj k1] at l2
          exact hs.inj i j oi oj li lj hij g1 k1 l1 l2 w1 w2
    · by_cases hj : j < σ.n
      · show (if j < σ.n then _ else _) = _
        rw [if_pos hj]
        by_cases hx : ∃ i o0, σ0 i = some o0 ∧ π i = j
        · obtain ⟨i, o0, g1, rfl⟩ := hx
          rw [get1 i o0 g1] at h
          cases h
        · rw [get2 j fun i o0 g1 g2 => hx ⟨i, o0, g1, g2⟩] at h
          exact hs.dom j h
      · show (if j < σ.n then _ else _) = _
        rw [if_neg hj]
        by_cases hk : ids.length ≤ j - σ.n
        · rw [if_pos hk]
          refine s'.dom _ ?_
          cases e : σ0 (j - σ.n) with
          | none => rfl
          | some o =>
            have := get1 _ o e
            rw [pout _ hk, show σ.n + (j - σ.n) = j by omega, h] at this
            cases this
        · rw [if_neg hk]
  have step : Step ρ w σ ρ' w' (σ.sets U) := by
    refine ⟨fun i l h => ?_, st.size, fun b hb hn => st.frame b hb fun ho => hn (ownOld b ho), fun b hb => ?_, st.os, st.out⟩
    · show (if i < σ.n then _ else _) = _
      have : i < σ.n := by
        rcases Nat.lt_or_ge i σ.n with q | q
        · exact q
        · rw [hs.dom i (σ.ok i q)] at h; cases h
      rw [if_pos this]
      exact h
    · obtain ⟨j, o, l, g1, g2, g3, g4⟩ := hb
      rcases isF j o g1 with ⟨i, o0, k1, rfl, rfl⟩ | ⟨k1, k2⟩
      · have qa := ρC i l o0 k1 g3
        exact (st.own b ⟨i, o0, l, k1, keepOwn i o0 g2, qa, g4⟩).imp (ownOld b) id
      · rw [ρF j o k1] at g3
        exact .inl ⟨j, o, l, k1, g2, g3, g4⟩
  refine ⟨renV π v0, ρ', σ.sets U, ?_, ren_up up hr, sim, step⟩
  have := hK v0 σ0 hv σ.n (σ.sets U)
  rw [hπ] at this
  refine this fun L0' HL hok => ?_
  have hkeys : ∀ p ∈ L0', σ0 p.1 = some p.2 := HL.2
  refine ⟨?_, fun p hp => ?_⟩
  · rw [List.map_append, List.map_map]
    refine List.nodup_append.2 ⟨?_, hn2, ?_⟩
    · have : (L0'.map ((·.1) ∘ renP π)) = (L0'.map (·.1)).map π := by rw [List.map_map]; rfl
      rw [this]
      have hh := HL.1
      clear this
      generalize L0'.map (·.1) = ks at hh
      exact List.pairwise_map.2 (hh.imp fun hne h => hne (pinj _ _ h))
    · intro a ha b hb hab
      subst hab
      obtain ⟨p, hp, rfl⟩ := List.mem_map.1 ha
      obtain ⟨q, hq, e⟩ := List.mem_map.1 hb
      have e : q.1 = π p.1 := e
      have hqσ : σ q.1 = some q.2 := H.2 _ (List.mem_append_right _ hq)
      have hlt := σ.lt hqσ
      by_cases hi : p.1 < ids.length
      · have h1 := List.getElem?_eq_getElem hi
        refine hn3 (π p.1) ?_ q.1 (List.mem_map.2 ⟨q, hq, rfl⟩) e.symm
        rw [pin _ _ h1]
        exact List.getElem_mem _
      · rw [e, pout _ (by omega)] at hlt
        omega
  · rcases List.mem_append.1 hp with hp | hp
    · obtain ⟨q, hq, rfl⟩ := List.mem_map.1 hp
      have h1 := get1 q.1 q.2 (hkeys q hq)
      have hk := List.all_eq_true.1 hok q hq
      simp only [Bool.or_eq_true] at hk
      have : keep q.1 q.2 = renO π q.2 := if_pos (hk.imp (fun h => by rw [hlen]; exact Nat.lt_of_lt_of_le (Nat.lt_of_lt_of_le (of_blt h) (Nat.le_refl _)) (Nat.le_refl _)) id)
      rw [this] at h1
      exact h1
    · have hpσ : σ p.1 = some p.2 := H.2 _ (List.mem_append_right _ hp)
      rw [get2 p.1 ?_]
      · exact hpσ
      · intro i o g1 g2
        by_cases hi : i < ids.length
        · have h1 := List.getElem?_eq_getElem hi
          refine hn3 (π i) ?_ p.1 (List.mem_map.2 ⟨p, hp, rfl⟩) g2
          rw [pin _ _ h1]
          exact List.getElem_mem _
        · have := σ.lt hpσ
          rw [← g2, pout _ (by omega)] at this
          omega
end
theorem pairs_zip : ∀ (ids : List Nat) (os : List AObj), pairs ids os = ids.zip os
  | [], _ => by simp [pairs]
  | _ :: _, [] => by simp [pairs]
  | i :: ids, o :: os => by
    rw [List.zip_cons_cons, ← pairs_zip ids os]
    rfl
theorem can_has (l junk : List AObj) : Has (can (l ++ junk)) (pairs (List.range l.length) l) := by
  refine ⟨?_, fun p hp => ?_⟩
  · rw [pairs_fst (by simp)]
    exact List.nodup_range
  · rw [pairs_zip] at hp
    obtain ⟨i, hi⟩ := List.getElem?_of_mem hp
    rw [List.getElem?_zip_eq_some] at hi
    obtain ⟨h1, h2⟩ := hi
    have hlt := (List.getElem?_eq_some_iff.1 h2).1
    rw [List.getElem?_range hlt] at h1
    rw [← Option.some.inj h1, can_get, List.getElem?_append_left hlt]
    exact h2
theorem zip_ren (π : Nat → Nat) : ∀ (r : List Nat) (l : List AObj), (r.zip l).map (renP π) = (r.map π).zip (l.map (renO π))
  | [], _ => by simp
  | _ :: _, [] => by simp
  | a :: r, o :: l => by
    rw [List.zip_cons_cons, List.map_cons, List.map_cons, List.map_cons, List.zip_cons_cons, zip_ren π r l]
    rfl
theorem pairs_ren {ids : List Nat} {k : Nat} {l : List AObj} (h : l.length = ids.length) : (pairs (List.range l.length) l).map (renP (pf ids k)) = pairs ids (l.map (renO (pf ids k))) := by
  have e : (List.range l.length).map (pf ids k) = ids := by
    apply List.ext_getElem?
    intro i
    rw [List.getElem?_map]
    by_cases hi : i < l.length
    · rw [List.getElem?_range hi]
      have h2 : i < ids.length := by omega
      show some (pf ids k i) = _
      unfold pf
      rw [List.getElem?_eq_getElem h2]
    · rw [List.getElem?_eq_none (by simpa using hi), List.getElem?_eq_none (by omega)]
      rfl
  rw [pairs_zip, pairs_zip, zip_ren, e]
section
variable {P : Program} {f : FuncId}
/-- The same, with the things that were there told anew. -/
theorem tri_can2 {os os' : List AObj} {args0 : List Value} {v0 : Value} (h0 : Tri P f args0 (can os) fun v σ0 => v = v0 ∧ ∃ junk, σ0 = can (os' ++ junk)) {σ : AS} {ids : List Nat} {Fr : List (Nat × AObj)} {args : List Value} {K : Value → AS → Prop}
    (hlen : ids.length = os.length) (hlen' : os'.length = os.length) (hlive : os.all AObj.live = true) (H : Has σ (pairs ids (os.map (renO (pf ids σ.n))) ++ Fr)) (ha : args = renVs (pf ids σ.n) args0)
    (hK : ∀ (k : Nat) σ', Has σ' (pairs ids (os'.map (renO (pf ids k))) ++ Fr) → K (renV (pf ids k) v0) σ') : Tri P f args σ K := by
  refine tri_can h0 hlen hlive H ha ?_
  rintro v σ0 ⟨rfl, junk, rfl⟩ k σ' hh
  refine hK k σ' ?_
  have := hh _ (can_has os' junk) ?_
  · rw [pairs_ren (by omega)] at this
    exact this
  · rw [pairs_zip]
    refine List.all_eq_true.2 fun p hp => ?_
    have := (List.of_mem_zip hp).1
    rw [List.mem_range] at this
    rw [Bool.or_eq_true]
    exact .inl (Nat.ble_eq.mpr (by omega))
end
end Go.AI
