/- Lemmas of the abstract condition ahead of code (a part of the library that the claim's proof stands on); they hold with no condition but those that each names. -/
import Derived.Test.YtlofpopejkohbaaGreatAIChain7
import Derived.Tactics
set_option linter.unusedSimpArgs false
set_option linter.unusedVariables false
/- A region whose operations stand in their order. -/
namespace Go.AI

def isC : Op → Bool
  | .alloc _ | .box .. | .buildSlice .. | .store .. | .makeSlice .. | .makeMap .. | .mapUpdate .. | .range .. | .next .. => true
  | .call c => match c.callee with
    | .value _ | .invoke .. => true
    | .builtin .append | .builtin .delete | .builtin .copy | .builtin .clear => true
    | _ => false
  | _ => false

/-- One operation. -/
def aOp (P : Program) (T : Ct) (o : Op) (ty : TypeId) (ev : Operand → Option Value) (σ : AS) (K : Option Value → AS → Prop) : Prop :=
  match isC o with
  | true => aC P T o ty ev σ K
  | false => aQ P o ty ev σ fun v => K (some v) σ

def rput (r : Regs) (d : Option Tmp) (v : Option Value) : Regs :=
  match d with
  | some d => (d, v) :: r
  | none => r
def inB (N : Nat) (d : Option Tmp) (K : Prop) : Prop :=
  match d with
  | some d => chk (Nat.blt d N) K
  | none => K
def bmatch (b : Bool) (A B : Prop) : Prop := match b with | true => A | false => B
/-- Two ways; soft: both are left to be shown. -/
def gm (sf b : Bool) (A B : Prop) : Prop := match sf with | true => (b = true → A) ∧ (b = false → B) | false => bmatch b A B
theorem gm_true {sf : Bool} {A B : Prop} (x : gm sf true A B) : A := by cases sf with | true => exact x.1 rfl | false => exact x
theorem gm_false {sf : Bool} {A B : Prop} (x : gm sf false A B) : B := by cases sf with | true => exact x.2 rfl | false => exact x
def dstAt (ops : List Oper) (j : Nat) : Option Tmp := match ops[j]? with | some o => o.dst | none => none
def beqB (a b : Bool) : Bool := match a with | true => b | false => (match b with | true => false | false => true)

/-- The operations of a region, one behind the other. -/
def vcOps (P : Program) (sf : Bool) (T : Ct) (N : Nat) (ops : List Oper) : List Oper → (Regs → AS → Prop) → Regs → AS → Prop
  | [], K, r, σ => K r σ
  | o :: rest, K, r, σ => match o.guard with
    | none => aOp P T o.op o.type (aev r) σ fun v σ => inB N o.dst (vcOps P sf T N ops rest K (rput r o.dst v) σ)
    | some (j, want) => match dstAt ops j with
      | none => False
      | some t => match rget r t with
        | some (.bool b) => gm sf b
            (match want with
             | true => aOp P T o.op o.type (aev ((t, some (.bool true)) :: r)) σ fun v σ => inB N o.dst (vcOps P sf T N ops rest K (rput ((t, some (.bool true)) :: r) o.dst v) σ)
             | false => inB N o.dst (vcOps P sf T N ops rest K (rput ((t, some (.bool true)) :: r) o.dst (some uV)) σ))
            (match want with
             | false => aOp P T o.op o.type (aev ((t, some (.bool false)) :: r)) σ fun v σ => inB N o.dst (vcOps P sf T N ops rest K (rput ((t, some (.bool false)) :: r) o.dst v) σ)
             | true => inB N o.dst (vcOps P sf T N ops rest K (rput ((t, some (.bool false)) :: r) o.dst (some uV)) σ))
        | some (.tuple l) => (match l.toList with
          | [] => inB N o.dst (vcOps P sf T N ops rest K (rput r o.dst (some uV)) σ)
          | _ => False)
        | _ => False

def RRel (ρ : RM) (r : Regs) (tmps : Array Value) : Prop := ∀ t v, rget r t = some v → ∃ cv, tmps[t]? = some cv ∧ VRel ρ v cv

section
variable {sf : Bool} {T : Ct} {P : Program} {ρ : RM} {σ : AS} {w : World} {a : Act} {r : Regs} {N : Nat}

theorem rget_cons (k : Nat) (v : Option Value) (r : Regs) (t : Nat) : rget ((k, v) :: r) t = if k = t then v else rget r t := by
  simp only [rget]
  cases h : Nat.beq k t with
  | true => rw [if_pos (Nat.eq_of_beq_eq_true h)]
  | false => rw [if_neg (fun e => by subst e; rw [Nat.beq_refl] at h; cases h)]

theorem RRel.mono {ρ' : RM} (h : ρ.le ρ') {tmps : Array Value} (rr : RRel ρ r tmps) : RRel ρ' r tmps := fun t v e => by
  obtain ⟨cv, h1, h2⟩ := rr t v e
  exact ⟨cv, h1, h2.mono h⟩

theorem RRel.put {d : Option Tmp} {v : Option Value} {cv : Value} (rr : RRel ρ r a.tmps) (hv : ∀ u, v = some u → VRel ρ u cv) (hd : ∀ x, d = some x → x < a.tmps.size) : RRel ρ (rput r d v) (a.put d cv).tmps := by
  cases d with
  | none => exact rr
  | some x =>
    intro t u hu
    simp only [rput, rget_cons] at hu
    split at hu
    · rename_i e
      subst e
      exact ⟨cv, by simp [Act.put, hd x rfl], hv u hu⟩
    · rename_i e
      obtain ⟨cu, h1, h2⟩ := rr t u hu
      exact ⟨cu, by simp [Act.put, Array.getElem?_setIfInBounds_ne e, h1], h2⟩

theorem RRel.lit {t : Nat} {v : Value} (rr : RRel ρ r a.tmps) (h : rget r t = some v) : RRel ρ ((t, some v) :: r) a.tmps := by
  intro t' u hu
  rw [rget_cons] at hu
  split at hu
  · rename_i e
    subst e
    injection hu with hu
    subst hu
    exact rr _ _ h
  · exact rr _ _ hu

theorem aev_rel (rr : RRel ρ r a.tmps) : ∀ x v, aev r x = some v → VRel ρ v (a.eval x) := by
  intro x v h
  cases x with
  | tmp t =>
    obtain ⟨cv, h1, h2⟩ := rr t v h
    simpa [Act.eval, Array.getD, h1] using (show VRel ρ v (a.tmps.getD t undef) by
      have : a.tmps.getD t undef = cv := by
        rw [Array.getD_eq_getD_getElem?, h1]; rfl
      rw [this]; exact h2)
  | const c =>
    simp only [aev] at h
    cases hc : constOk c with
    | false => rw [hc] at h; cases h
    | true =>
      rw [hc] at h
      injection h with h
      subst h
      exact const_rel hc
  | func f =>
    simp only [aev] at h
    injection h with h
    subst h
    exact .func f .nil .nil
  | global g => cases h

theorem put_size (a : Act) (d : Option Tmp) (v : Value) : (a.put d v).tmps.size = a.tmps.size := by
  cases d <;> simp [Act.put]
theorem put_defers (a : Act) (d : Option Tmp) (v : Value) : (a.put d v).defers = a.defers := by
  cases d <;> simp [Act.put]

theorem inB_elim {d : Option Tmp} {K : Prop} (h : inB N d K) : (∀ x, d = some x → x < N) ∧ K := by
  cases d with
  | none => exact ⟨(fun _ h => by cases h), h⟩
  | some d =>
    obtain ⟨h1, h2⟩ := chk_elim h
    exact ⟨fun x hx => by injection hx with hx; subst hx; exact Nat.blt_eq.mp h1, h2⟩

theorem aOp_sound (s : Sim ρ w.heap σ) {o : Oper} {ev : Operand → Option Value} {ce : Operand → Value} (he : ∀ x v, ev x = some v → VRel ρ v (ce x)) {K : Option Value → AS → Prop} (hT : ∀ f args σ K, T f args σ K → Tri P f args σ K) (h : aOp P T o.op o.type ev σ K) :
    ∃ nx w1, (execOp ce o).run P w = .ok nx w1 ∧ COk P ρ w σ nx w1 K := by
  unfold aOp at h
  cases hc : isC o.op with
  | true => rw [hc] at h; exact aC_sound s he hT h
  | false =>
    rw [hc] at h
    obtain ⟨v, cv, h1, h2, h3⟩ := aQ_sound s he h
    exact ⟨_, w, h1, some v, ρ, σ, h3, by rintro _ ⟨⟩; exact h2, s, .refl _ _ _⟩

/-- What an operation leads to, told to the walk. -/
theorem upon_of_after {o : Oper} {nx : Next} {w1 : World} {next : Act → World → Prop} {Q : Exit → Act → World → Prop} {R : Value → World → Prop}
    (h : After P nx w1 R) (hn : ∀ cv w', R cv w' → next (a.put o.dst cv) w') : o.upon P a next Q (.ok nx w1) := by
  cases nx <;> first | exact h.elim | exact hn _ _ h | skip
  refine Calls.mono h ?_
  rintro e w' ⟨cv, rfl, hR⟩
  exact hn _ _ hR

/-- What is asked of the place behind a piece of code. -/
def Beh (N : Nat) (ρ : RM) (w : World) (σ : AS) (K : Regs → AS → Prop) (a' : Act) (w' : World) : Prop :=
  ∃ ρ' r' σ', K r' σ' ∧ RRel ρ' r' a'.tmps ∧ Sim ρ' w'.heap σ' ∧ Step ρ w σ ρ' w' σ' ∧ a'.tmps.size = N ∧ a'.defers = []

theorem vcOps_sound (hT : ∀ f args σ K, T f args σ K → Tri P f args σ K) {ops : Array Oper} {Q : Exit → Act → World → Prop} {K : Regs → AS → Prop} : ∀ (l : List Oper) (ρ : RM) (r : Regs) (σ : AS) (a : Act) (w : World), vcOps P sf T N ops.toList l K r σ → Sim ρ w.heap σ → RRel ρ r a.tmps → a.tmps.size = N → a.defers = [] →
    (∀ a' w', Beh N ρ w σ K a' w' → Q .normal a' w') → wpList P ops Q l a w
  | [], ρ, r, σ, a, w, h, s, rr, hN, hd, hQ => hQ _ _ ⟨ρ, r, σ, h, rr, s, .refl _ _ _, hN, hd⟩
  | o :: rest, ρ, r, σ, a, w, h, s, rr, hN, hd, hQ => by
    -- the operation runs
    have runs : ∀ (r : Regs), RRel ρ r a.tmps → Region.wanted o (yielded ops a.tmps) = true → aOp P T o.op o.type (aev r) σ (fun v σ => inB N o.dst (vcOps P sf T N ops.toList rest K (rput r o.dst v) σ)) →
        wpList P ops Q (o :: rest) a w := by
      intro r rr hw h
      obtain ⟨nx, w1, h1, h2⟩ := aOp_sound s (aev_rel rr) hT h
      simp only [wpList, hw, if_true]
      refine .inl ?_
      simp only [Oper.wp]
      rw [h1]
      refine upon_of_after h2 ?_
      rintro cv w' ⟨v, ρ', σ', hK, hv, s', st⟩
      obtain ⟨hdst, hK⟩ := inB_elim hK
      refine vcOps_sound hT rest ρ' _ σ' _ w' hK s' ((rr.mono st.ext).put hv (fun x hx => by rw [hN]; exact hdst x hx)) (by rw [put_size]; exact hN) (by rw [put_defers]; exact hd) ?_
      rintro a' w'' ⟨ρ2, r2, σ2, b1, b2, b3, b4, b5⟩
      exact hQ _ _ ⟨ρ2, r2, σ2, b1, b2, b3, st.trans b4, b5⟩
    -- it is left out
    have skips : ∀ (r : Regs), RRel ρ r a.tmps → Region.wanted o (yielded ops a.tmps) = false → inB N o.dst (vcOps P sf T N ops.toList rest K (rput r o.dst (some uV)) σ) → wpList P ops Q (o :: rest) a w := by
      intro r rr hw h
      obtain ⟨hdst, hK⟩ := inB_elim h
      simp only [wpList, hw]
      exact vcOps_sound hT rest ρ _ σ _ w hK s (rr.put (by rintro _ ⟨⟩; exact .tuple .nil) (fun x hx => by rw [hN]; exact hdst x hx)) (by rw [put_size]; exact hN) (by rw [put_defers]; exact hd) hQ
    simp only [vcOps] at h
    cases hg : o.guard with
    | none =>
      rw [hg] at h
      exact runs r rr (by simp [Region.wanted, hg]) h
    | some jw =>
      obtain ⟨j, want⟩ := jw
      rw [hg] at h
      simp only at h
      cases ht : dstAt ops.toList j with
      | none => rw [ht] at h; exact h.elim
      | some t =>
        rw [ht] at h
        simp only at h
        split at h
        · rename_i b hb
          obtain ⟨cv, h1, h2⟩ := rr t _ hb
          cases h2
          have hy : yielded ops a.tmps j = some b := by
            have : (ops[j]?).bind (·.dst) = some t := by
              unfold dstAt at ht
              rw [← Array.getElem?_toList]
              cases ho : ops.toList[j]? with
              | none => rw [ho] at ht; cases ht
              | some x => rw [ho] at ht; exact ht
            simp [yielded, this, h1]
          have hwant : Region.wanted o (yielded ops a.tmps) = (b == want) := by
            simp [Region.wanted, hg, hy]
          cases b with
          | false =>
            have h := gm_false h
            cases want with
            | false => exact runs _ (rr.lit hb) (by rw [hwant]; rfl) h
            | true => exact skips _ (rr.lit hb) (by rw [hwant]; rfl) h
          | true =>
            have h := gm_true h
            cases want with
            | false => exact skips _ (rr.lit hb) (by rw [hwant]; rfl) h
            | true => exact runs _ (rr.lit hb) (by rw [hwant]; rfl) h
        · rename_i l hb
          split at h
          · rename_i hl
            obtain ⟨l⟩ := l
            simp only at hl
            subst hl
            obtain ⟨cv, h1, h2⟩ := rr t _ hb
            cases h2 with
            | tuple h3 =>
              cases h3
              have hy : yielded ops a.tmps j = none := by
                have : (ops[j]?).bind (·.dst) = some t := by
                  unfold dstAt at ht
                  rw [← Array.getElem?_toList]
                  cases ho : ops.toList[j]? with
                  | none => rw [ho] at ht; cases ht
                  | some x => rw [ho] at ht; exact ht
                simp [yielded, this, h1]
              exact skips _ rr (by simp [Region.wanted, hg, hy]) h
          · exact h.elim
        · exact h.elim
end
end Go.AI
