/- Lemmas of the abstract condition ahead of code (a part of the library that the claim's proof stands on); they hold with no condition but those that each names. -/
import Derived.Test.YtlofpopejkohbaaGreatAIDraw3
set_option linter.unusedSimpArgs false
set_option linter.unusedVariables false
/- Regions that draw their order: the machine follows. -/
namespace Go.AI

section
variable {P : Program} {N : Nat} {ops : Array Oper} {ms : List Nat} {r0 : Regs} {Q : Exit → Act → World → Prop}

def gb : Value → Bool → Option Bool
  | .bool x, want => some (x == want)
  | .tuple a, _ => (match a.toList with | [] => some false | _ => none)
  | _, _ => none
/-- Whether an operation is wanted, by the values yielded. -/
def Wants (ops : Array Oper) (m : Nat) (V : Regs) (g : Option (Nat × Bool)) (b : Bool) : Prop :=
  match g with
  | none => b = true
  | some (j, want) => mbit m j = true ∧ (∃ t, dstAt ops.toList j = some t) ∧ ∃ x, rget V j = some x ∧ gb x want = some b

theorem Wants.congr {m : Nat} {V V' : Regs} {g : Option (Nat × Bool)} {b : Bool} (h : Wants ops m V g b) (hv : ∀ k, mbit m k = true → rget V' k = rget V k) : Wants ops m V' g b := by
  unfold Wants at *
  split at h
  · exact h
  · obtain ⟨h1, h2, x, h3, h4⟩ := h
    exact ⟨h1, h2, x, by rw [hv _ h1]; exact h3, h4⟩

theorem Wants.det {m : Nat} {V : Regs} {g : Option (Nat × Bool)} {b b' : Bool} (h : Wants ops m V g b) (h' : Wants ops m V g b') : b = b' := by
  unfold Wants at *
  split at h
  · simp only at h'; rw [h, h']
  · simp only at h'
    obtain ⟨_, _, x, h3, h4⟩ := h
    obtain ⟨_, _, y, h5, h6⟩ := h'
    rw [h3] at h5
    injection h5 with h5
    rw [h5, h6] at h4
    injection h4 with h4
    exact h4.symm

theorem rget_lit {V : Regs} {j : Nat} {v : Value} (h : rget V j = some v) (k : Nat) : rget ((j, some v) :: V) k = rget V k := by
  rw [rget_cons]
  split
  · rename_i e; subst e; exact h.symm
  · rfl

theorem gsplit_elim {sf : Bool} {m : Nat} {V : Regs} {g : Option (Nat × Bool)} {run skip : Regs → Prop} (h : gsplit sf ops.toList m V g run skip) :
    ∃ b V', Wants ops m V g b ∧ (∀ k, rget V' k = rget V k) ∧ (b = true → run V') ∧ (b = false → skip V') := by
  unfold gsplit at h
  split at h
  · exact ⟨true, V, rfl, fun _ => rfl, fun _ => h, fun e => by cases e⟩
  · rename_i j want
    split at h
    · exact h.elim
    · rename_i hm
      split at h
      · exact h.elim
      · rename_i t ht
        split at h
        · rename_i b hb
          refine ⟨b == want, (j, some (.bool b)) :: V, ⟨hm, ⟨t, ht⟩, .bool b, hb, rfl⟩, rget_lit hb, ?_, ?_⟩
          · cases b with
            | false => have h := gm_false h; cases want <;> intro e <;> first | (cases e; done) | exact h
            | true => have h := gm_true h; cases want <;> intro e <;> first | (cases e; done) | exact h
          · cases b with
            | false => have h := gm_false h; cases want <;> intro e <;> first | (cases e; done) | exact h
            | true => have h := gm_true h; cases want <;> intro e <;> first | (cases e; done) | exact h
        · rename_i l hl
          split at h
          · rename_i hl0
            exact ⟨false, V, ⟨hm, ⟨t, ht⟩, .tuple l, hl, by simp [gb, hl0]⟩, fun _ => rfl, (fun e => by cases e), fun _ => h⟩
          · exact h.elim
        · exact h.elim

/-- What is known of a looking operation that is done. -/
def QFact (P : Program) (ops : Array Oper) (ms : List Nat) (r0 : Regs) (i : Nat) (o : Oper) (V : Regs) (σ : AS) : Prop :=
  ∃ b, Wants ops (nth ms i) V o.guard b ∧ (b = true → aQ P o.op o.type (evD ops.toList ms i V r0) σ fun u => rget V i = some u) ∧ (b = false → rget V i = some uV)

theorem evD_congr {i : Nat} {V V' : Regs} (hv : ∀ k, mbit (nth ms i) k = true → rget V' k = rget V k) : evD ops.toList ms i V' r0 = evD ops.toList ms i V r0 := by
  funext x
  unfold evD
  cases x <;> try rfl
  rename_i t
  simp only
  cases hw : wrt t 0 ops.toList with
  | none => rfl
  | some j =>
    simp only
    cases hm : mbit (nth ms i) j with
    | true => simp only; exact hv j hm
    | false => rfl

theorem QFact.congr {i : Nat} {o : Oper} {V V' : Regs} {σ : AS} (h : QFact P ops ms r0 i o V σ) (hv : ∀ k, k = i ∨ mbit (nth ms i) k = true → rget V' k = rget V k) : QFact P ops ms r0 i o V' σ := by
  obtain ⟨b, h1, h2, h3⟩ := h
  refine ⟨b, h1.congr fun k hk => hv k (.inr hk), fun e => ?_, fun e => ?_⟩
  · rw [evD_congr fun k hk => hv k (.inr hk), hv i (.inl rfl)]
    exact h2 e
  · rw [hv i (.inl rfl)]
    exact h3 e

theorem QFact.indep {i : Nat} {o : Oper} {V : Regs} {σ σ' : AS} (h : QFact P ops ms r0 i o V σ) (hr : rdH o.op = false) : QFact P ops ms r0 i o V σ' := by
  obtain ⟨b, h1, h2, h3⟩ := h
  exact ⟨b, h1, fun e => aQ_indep hr (h2 e), h3⟩

def got (X : Array Bool) (i : Nat) : Bool := X.getD i false

/-- The listed ones hold what goes ahead of them. -/
def Closed (ops : Array Oper) (X : Array Bool) : Prop := ∀ i o, ops[i]? = some o → got X i = true → ∀ e ∈ o.after, Region.binds .any e = true → got X e.on = true

theorem mask_sub (hm : maskOk ms 0 ops.toList = true) {X : Array Bool} (hc : Closed ops X) : ∀ (i : Nat) (o : Oper), ops[i]? = some o → (∀ e ∈ o.after, Region.binds .any e = true → got X e.on = true) → ∀ j, mbit (nth ms i) j = true → got X j = true := by
  have key : ∀ (q i : Nat), nth ms i = q → ∀ (o : Oper), ops[i]? = some o → (∀ e ∈ o.after, Region.binds .any e = true → got X e.on = true) → ∀ j, mbit (nth ms i) j = true → got X j = true := by
    intro q
    induction q using Nat.strongRecOn with
    | _ q ih =>
      intro i hq o ho hp j hj
      have hl : ops.toList[i]? = some o := by rw [Array.getElem?_toList]; exact ho
      have ⟨h1, h2⟩ := maskOk_spec hm i o hl
      rw [Nat.zero_add] at h1 h2
      rw [Nat.zero_add] at h2
      rw [h1] at hj
      obtain ⟨e, he, hb, hor⟩ := eMask_spec.1 hj
      have he' : e ∈ o.after := Array.mem_toList_iff.1 he
      rcases hor with rfl | hor
      · exact hp e he' hb
      · obtain ⟨hlt, hn⟩ := eLt_spec h2 e he hb
        rw [Array.length_toList] at hn
        have hx : ops[e.on]? = some ops[e.on] := Array.getElem?_eq_getElem hn
        exact ih (nth ms e.on) (by rw [← hq]; exact hlt) e.on rfl _ hx (hc _ _ hx (hp e he' hb)) j hor
  intro i o ho hp j hj
  exact key _ i rfl o ho hp j hj

/-- How the machine stands to the order that the condition follows. -/
structure Inv (P : Program) (N : Nat) (ops : Array Oper) (r0 : Regs) (D : Nat) (V : Regs) (σ : AS) (X : Array Bool) (a : Act) (w : World) (ρ : RM) (fuel : Nat) : Prop where
  size : X.size = ops.size
  closed : Closed ops X
  sub : ∀ i, got X i = true → mbit D i = true
  chain : ∀ i o, ops[i]? = some o → isC o.op = true → mbit D i = true → got X i = true
  new : ∀ t j, wrt t 0 ops.toList = some j → got X j = true → ∀ v, rget V j = some v → ∃ cv, a.tmps[t]? = some cv ∧ VRel ρ v cv
  old : ∀ t, (∀ j, wrt t 0 ops.toList = some j → got X j = false) → ∀ v, rget r0 t = some v → ∃ cv, a.tmps[t]? = some cv ∧ VRel ρ v cv
  sim : Sim ρ w.heap σ
  tmps : a.tmps.size = N
  defers : a.defers = []
  left : ∃ l : List Nat, l.length ≤ fuel ∧ ∀ i, i < ops.size → got X i = false → i ∈ l

theorem getD_got {X : Array Bool} {i : Nat} : X.getD i true = false → got X i = false := by
  unfold got
  rw [Array.getD_eq_getD_getElem?, Array.getD_eq_getD_getElem?]
  cases X[i]? <;> simp

theorem ready_iff {X : Array Bool} {i : Nat} (hs : X.size = ops.size) : i ∈ Region.ready .any ops X ↔ got X i = false ∧ ∃ o, ops[i]? = some o ∧ ∀ e ∈ o.after, Region.binds .any e = true → got X e.on = true := by
  rw [mem_ready]
  constructor
  · rintro ⟨h1, h2⟩
    exact ⟨getD_got h1, h2⟩
  · rintro ⟨h1, o, h2, h3⟩
    refine ⟨?_, o, h2, h3⟩
    have hi : i < X.size := by rw [hs]; exact (Array.getElem?_eq_some_iff.1 h2).1
    unfold got at h1
    rw [Array.getD_eq_getD_getElem?] at h1 ⊢
    rw [Array.getElem?_eq_getElem hi] at h1 ⊢
    exact h1

theorem Inv.eval {D : Nat} {V : Regs} {σ : AS} {X : Array Bool} {a : Act} {w : World} {ρ : RM} {fuel : Nat} (v : Inv P N ops r0 D V σ X a w ρ fuel) {i : Nat} (hi : got X i = false) (hm : maskOk ms 0 ops.toList = true) (hsub : ∀ j, mbit (nth ms i) j = true → got X j = true) : ∀ x u, evD ops.toList ms i V r0 x = some u → VRel ρ u (a.eval x) := by
  have tmp : ∀ {t : Nat} {u : Value}, (∃ cv, a.tmps[t]? = some cv ∧ VRel ρ u cv) → VRel ρ u (a.eval (.tmp t)) := by
    rintro t u ⟨cv, h1, h2⟩
    show VRel ρ u (a.tmps.getD t undef)
    have : a.tmps.getD t undef = cv := by rw [Array.getD_eq_getD_getElem?, h1]; rfl
    rw [this]; exact h2
  have rr0 : RRel ρ ([] : Regs) a.tmps := by intro t v h; cases h
  intro x u h
  cases x with
  | tmp t =>
    simp only [evD] at h
    split at h
    · rename_i hw
      exact tmp (v.old t (fun j hj => by rw [hw] at hj; cases hj) u h)
    · rename_i j hw
      split at h
      · rename_i hb
        exact tmp (v.new t j hw (hsub j hb) u h)
      · split at h
        · rename_i hb
          refine tmp (v.old t (fun k hk => ?_) u h)
          rw [hw] at hk
          injection hk with hk
          subst hk
          rw [mbit_ins, Bool.or_eq_true, decide_eq_true_iff] at hb
          rcases hb with rfl | hb
          · exact hi
          · cases hx : got X j with
            | false => rfl
            | true =>
              exfalso
              obtain ⟨k, o, hk, ho, _⟩ := wrt_spec hw
              rw [Nat.zero_add] at hk
              subst hk
              have ho' : ops[j]? = some o := by rw [← Array.getElem?_toList]; exact ho
              have := mask_sub hm v.closed j o ho' (v.closed j o ho' hx) i hb
              rw [hi] at this
              cases this
        · cases h
  | const c => exact aev_rel rr0 _ _ (show aev [] (.const c) = some u from h)
  | func f => exact aev_rel rr0 _ _ (show aev [] (.func f) = some u from h)
  | global g => cases h

theorem Inv.wanted {D : Nat} {V : Regs} {σ : AS} {X : Array Bool} {a : Act} {w : World} {ρ : RM} {fuel : Nat} (v : Inv P N ops r0 D V σ X a w ρ fuel) (hu : uniqOk N ops.toList 0 ops.toList = true) {i : Nat} {o : Oper} (hsub : ∀ j, mbit (nth ms i) j = true → got X j = true) {b : Bool} (hw : Wants ops (nth ms i) V o.guard b) : Region.wanted o (yielded ops a.tmps) = b := by
  unfold Wants at hw
  split at hw
  · rename_i hg
    simp [Region.wanted, hg, hw]
  · rename_i j want hg
    obtain ⟨h1, ⟨t, ht⟩, x, h3, h4⟩ := hw
    have hd : ∃ oj, ops[j]? = some oj ∧ oj.dst = some t := by
      unfold dstAt at ht
      rw [Array.getElem?_toList] at ht
      cases ho : ops[j]? with
      | none => rw [ho] at ht; cases ht
      | some x => rw [ho] at ht; exact ⟨x, rfl, ht⟩
    obtain ⟨oj, hoj, hdj⟩ := hd
    have ⟨_, hwr⟩ := uniq_spec hu j oj t (by rw [Array.getElem?_toList]; exact hoj) hdj
    rw [Nat.zero_add] at hwr
    obtain ⟨cv, h5, h6⟩ := v.new t j hwr (hsub j h1) _ h3
    unfold gb at h4
    split at h4
    · cases h6
      injection h4 with h4
      rename_i x
      have hy : yielded ops a.tmps j = some x := by simp [yielded, hoj, hdj, h5]
      simp [Region.wanted, hg, hy, h4]
    · split at h4
      · rename_i l _ hl
        obtain ⟨l⟩ := l
        simp only at hl
        subst hl
        cases h6 with
        | tuple h7 =>
          cases h7
          injection h4 with h4
          subst h4
          have hy : yielded ops a.tmps j = none := by simp [yielded, hoj, hdj, h5]
          simp [Region.wanted, hg, hy]
      · cases h4
    · cases h4

theorem got_set {X : Array Bool} {i j : Nat} (hi : i < X.size) : got (X.setIfInBounds i true) j = (decide (i = j) || got X j) := by
  unfold got
  rw [Array.getD_eq_getD_getElem?, Array.getD_eq_getD_getElem?]
  by_cases h : i = j
  · subst h
    simp [hi]
  · simp [h]

/-- One operation more. -/
theorem Inv.next {D D' : Nat} {V V' : Regs} {σ σ' : AS} {X : Array Bool} {a : Act} {w w' : World} {ρ ρ' : RM} {fuel : Nat} (v : Inv P N ops r0 D V σ X a w ρ (fuel + 1)) (hu : uniqOk N ops.toList 0 ops.toList = true) {i : Nat} {o : Oper} (ho : ops[i]? = some o) (hx : got X i = false)
    (hp : ∀ e ∈ o.after, Region.binds .any e = true → got X e.on = true) (hD : ∀ k, mbit D k = true → mbit D' k = true) (hDi : mbit D' i = true) (hC : ∀ k ok, ops[k]? = some ok → isC ok.op = true → mbit D' k = true → mbit D k = true ∨ k = i)
    (hV : ∀ k, got X k = true → rget V' k = rget V k) (he : ρ.le ρ') (cv : Value) (hv : ∀ u, rget V' i = some u → VRel ρ' u cv) (s : Sim ρ' w'.heap σ') : Inv P N ops r0 D' V' σ' (X.setIfInBounds i true) (a.put o.dst cv) w' ρ' fuel := by
  have hi : i < ops.size := (Array.getElem?_eq_some_iff.1 ho).1
  have hiX : i < X.size := by rw [v.size]; exact hi
  have hl : ops.toList[i]? = some o := by rw [Array.getElem?_toList]; exact ho
  have other : ∀ {t j : Nat}, o.dst = some t → wrt t 0 ops.toList = some j → j = i := fun {t j} ht hj => by
    have := (uniq_spec hu i o t hl ht).2
    rw [Nat.zero_add, hj] at this
    injection this
  have keep : ∀ {t : Nat} {u : Value}, o.dst ≠ some t → (∃ cv, a.tmps[t]? = some cv ∧ VRel ρ u cv) → ∃ cv', (a.put o.dst cv).tmps[t]? = some cv' ∧ VRel ρ' u cv' := by
    rintro t u hne ⟨c, h1, h2⟩
    refine ⟨c, ?_, h2.mono he⟩
    cases hd : o.dst with
    | none => exact h1
    | some d =>
      have : d ≠ t := fun e => hne (by rw [hd, e])
      simp [Act.put, Array.getElem?_setIfInBounds_ne this, h1]
  refine ⟨by rw [Array.size_setIfInBounds]; exact v.size, ?_, ?_, ?_, ?_, ?_, s, by rw [put_size]; exact v.tmps, by rw [put_defers]; exact v.defers, ?_⟩
  · intro k ok hok hk e hee hb
    rw [got_set hiX] at hk ⊢
    rw [Bool.or_eq_true, decide_eq_true_iff] at hk ⊢
    rcases hk with rfl | hk
    · rw [ho] at hok
      injection hok with hok
      subst hok
      exact .inr (hp e hee hb)
    · exact .inr (v.closed k ok hok hk e hee hb)
  · intro k hk
    rw [got_set hiX, Bool.or_eq_true, decide_eq_true_iff] at hk
    rcases hk with rfl | hk
    · exact hDi
    · exact hD k (v.sub k hk)
  · intro k ok hok hc hk
    rw [got_set hiX, Bool.or_eq_true, decide_eq_true_iff]
    rcases hC k ok hok hc hk with h | h
    · exact .inr (v.chain k ok hok hc h)
    · exact .inl h.symm
  · intro t j hj hk u hu'
    rw [got_set hiX, Bool.or_eq_true, decide_eq_true_iff] at hk
    by_cases hji : i = j
    · subst hji
      obtain ⟨k, o', hk', ho', hd'⟩ := wrt_spec hj
      rw [Nat.zero_add] at hk'
      subst hk'
      rw [hl] at ho'
      injection ho' with ho'
      subst ho'
      have ⟨hlt, _⟩ := uniq_spec hu i o t hl hd'
      refine ⟨cv, ?_, hv u hu'⟩
      rw [hd']
      simp [Act.put, v.tmps, hlt]
    · have hk := hk.resolve_left hji
      refine keep (fun hd => hji (other hd hj).symm) (v.new t j hj hk u ?_)
      rw [← hV j hk]; exact hu'
  · intro t hn u hu'
    refine keep (fun hd => ?_) (v.old t (fun j hj => ?_) u hu')
    · have := (uniq_spec hu i o t hl hd).2
      rw [Nat.zero_add] at this
      have := hn i this
      rw [got_set hiX] at this
      simp at this
    · have := hn j hj
      rw [got_set hiX] at this
      exact (Bool.or_eq_false_iff.1 this).2
  · obtain ⟨l, hlen, hl'⟩ := v.left
    have hmem := hl' i hi hx
    refine ⟨l.erase i, ?_, fun k hk hgk => ?_⟩
    · rw [List.length_erase_of_mem hmem]; omega
    · rw [got_set hiX] at hgk
      have ⟨h1, h2⟩ := Bool.or_eq_false_iff.1 hgk
      have hne : i ≠ k := of_decide_eq_false h1
      exact (List.mem_erase_of_ne (fun e => hne e.symm)).2 (hl' k hk h2)
end
end Go.AI
