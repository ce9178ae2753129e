/- Lemmas of the abstract condition ahead of code (a part of the library that the claim's proof stands on); they hold with no condition but those that each names. -/
import Derived.Test.YtlofpopejkohbaaGreatAIDraw5
set_option linter.unusedSimpArgs false
set_option linter.unusedVariables false
/- Regions in which two operations may come in either order: each of both orders is looked at. -/
namespace Go.AI
/-- The operation x waits for the operation y. -/
def waitF (y : Nat) (o : Oper) : Oper := { o with after := o.after.push ⟨y, .data⟩ }
def modL (f : Oper → Oper) : Nat → List Oper → List Oper
  | _, [] => []
  | 0, o :: r => f o :: r
  | n + 1, o :: r => o :: modL f n r
theorem modL_get (f : Oper → Oper) : ∀ (n : Nat) (l : List Oper) (i : Nat), (modL f n l)[i]? = if n = i then (l[i]?).map f else l[i]?
  | n, [], i => by unfold modL; simp
  | 0, o :: r, 0 => rfl
  | 0, o :: r, i + 1 => by rw [if_neg (by omega)]; rfl
  | n + 1, o :: r, 0 => by rw [if_neg (by omega)]; rfl
  | n + 1, o :: r, i + 1 => by
    have := modL_get f n r i
    unfold modL
    rw [List.getElem?_cons_succ, List.getElem?_cons_succ, this]
    by_cases e : n = i
    · rw [if_pos e, if_pos (by omega)]
    · rw [if_neg e, if_neg (by omega)]
theorem modL_len (f : Oper → Oper) : ∀ (n : Nat) (l : List Oper), (modL f n l).length = l.length
  | n, [] => by unfold modL; rfl
  | 0, o :: r => rfl
  | n + 1, o :: r => by unfold modL; rw [List.length_cons, modL_len f n r]; rfl
def waitE (x y : Nat) (ops : Array Oper) : Array Oper := ⟨modL (waitF y) x ops.toList⟩
section
variable {P : Program} {ops : Array Oper} {Q : Exit → Act → World → Prop}
theorem waitE_get (x y i : Nat) : (waitE x y ops)[i]? = if x = i then (ops[i]?).map (waitF y) else ops[i]? := by
  unfold waitE
  have := modL_get (waitF y) x ops.toList i
  simp only [Array.getElem?_toList] at this
  rw [← this, ← Array.getElem?_toList]
theorem waitE_size (x y : Nat) : (waitE x y ops).size = ops.size := by
  show (modL (waitF y) x ops.toList).length = ops.size
  rw [modL_len, Array.length_toList]
theorem waitE_dst (x y j : Nat) : ((waitE x y ops)[j]?).bind (·.dst) = (ops[j]?).bind (·.dst) := by
  rw [waitE_get]
  by_cases e : x = j
  · rw [if_pos e]; cases ops[j]? <;> rfl
  · rw [if_neg e]
theorem waitE_yielded (x y : Nat) (tmps : Array Value) : yielded (waitE x y ops) tmps = yielded ops tmps := by
  funext j
  unfold yielded
  rw [waitE_dst]
theorem waitE_wpOp {x y i : Nat} {K : Act → World → Prop} {a : Act} {w : World} (h : wpOp P (waitE x y ops) Q i K a w) : wpOp P ops Q i K a w := by
  unfold wpOp at h ⊢
  rw [waitE_get, waitE_yielded] at h
  by_cases e : x = i
  · rw [if_pos e] at h
    cases ho : ops[i]? with
    | none => rw [ho] at h; exact h
    | some o => rw [ho] at h; exact h
  · rw [if_neg e] at h; exact h
theorem binds_data (y : Nat) : Region.binds .any ⟨y, .data⟩ = true := rfl
theorem ready_wait {x y i : Nat} {X : Array Bool} : i ∈ Region.ready .any (waitE x y ops) X ↔ i ∈ Region.ready .any ops X ∧ (i = x → X.getD y false = true) := by
  unfold Region.ready
  rw [waitE_size]
  simp only [List.mem_filter, List.mem_range, Bool.and_eq_true]
  rw [waitE_get]
  by_cases e : x = i
  · subst e
    cases ho : ops[x]? with
    | none => simp
    | some o =>
      simp only [if_true, Option.map_some, Option.getD_some, waitF, Array.all_push, Bool.and_eq_true, binds_data, Bool.not_true, Bool.false_or, forall_const]
      constructor
      · rintro ⟨h1, h2, h3, h4⟩; exact ⟨⟨h1, h2, h3⟩, h4⟩
      · rintro ⟨⟨h1, h2, h3⟩, h4⟩; exact ⟨h1, h2, h3, h4⟩
  · rw [if_neg e]
    constructor
    · intro h; exact ⟨h, fun e' => absurd e'.symm e⟩
    · intro h; exact h.1
theorem ready_got {i : Nat} {X : Array Bool} (h : i ∈ Region.ready .any ops X) : i < X.size := by
  unfold Region.ready at h
  simp only [List.mem_filter, List.mem_range, Bool.and_eq_true] at h
  rcases Nat.lt_or_ge i X.size with g | g
  · exact g
  · rw [Array.getD_eq_getD_getElem?, Array.getElem?_eq_none g] at h
    simp at h
theorem getD_set {X : Array Bool} {i : Nat} (h : i < X.size) : (X.setIfInBounds i true).getD i false = true := by
  rw [Array.getD_eq_getD_getElem?, Array.getElem?_setIfInBounds_self_of_lt h]; rfl
theorem getD_keep {X : Array Bool} {i j : Nat} (h : X.getD j false = true) : (X.setIfInBounds i true).getD j false = true := by
  rw [Array.getD_eq_getD_getElem?] at h ⊢
  rw [Array.getElem?_setIfInBounds]
  split
  · rename_i e
    subst e
    split
    · rfl
    · rename_i g
      rw [Array.getElem?_eq_none (by omega)] at h
      cases h
  · exact h
/-- What is waited for is done: the waiting has no part. -/
theorem wpAny_waited {x y : Nat} : ∀ (fuel : Nat) (X : Array Bool) (a : Act) (w : World), X.getD y false = true → wpAny P .any (waitE x y ops) Q fuel X a w → wpAny P .any ops Q fuel X a w := by
  intro fuel
  induction fuel with
  | zero =>
    intro X a w hy h
    refine ⟨?_, h.2⟩
    refine List.eq_nil_iff_forall_not_mem.2 fun i hi => ?_
    have : i ∈ Region.ready .any (waitE x y ops) X := ready_wait.2 ⟨hi, fun _ => hy⟩
    rw [h.1] at this
    cases this
  | succ fuel ih =>
    intro X a w hy h
    refine ⟨fun hr => h.1 ?_, fun i hi => ?_⟩
    · refine List.eq_nil_iff_forall_not_mem.2 fun i hi => ?_
      have := (ready_wait.1 hi).1
      rw [hr] at this
      cases this
    · exact wpOp_mono (fun a w => ih _ _ _ (getD_keep hy)) (waitE_wpOp (h.2 i (ready_wait.2 ⟨hi, fun _ => hy⟩)))
/-- Operations that yield a value, if they end well. -/
def isV : Op → Bool
  | .move _ | .assign _ | .pick .. | .nilCheck _ | .binOp .. | .unOp .. | .convert .. | .fieldAddr .. | .field .. | .indexAddr .. | .index .. | .load .. | .slice .. | .lookup .. | .extract .. | .typeAssert .. | .makeInterface .. => true
  | _ => false
theorem bind_val {s : Sem Value} {w w' : World} {n : Next} (h : (do pure (Next.value (← s)) : Sem Next).run P w = .ok n w') : ∃ v, n = .value v := by
  rw [Sem.run_bind] at h
  cases hs : s.run P w with
  | ok v w1 =>
    rw [hs] at h
    simp only [Result.andThen_ok] at h
    have h : (Result.ok (Next.value v) w1 : Result Next) = .ok n w' := h
    cases h
    exact ⟨v, rfl⟩
  | halt a b => rw [hs] at h; cases h
theorem pure_val {v : Value} {w w' : World} {n : Next} (h : (pure (Next.value v) : Sem Next).run P w = .ok n w') : ∃ v, n = .value v := by
  have h : (Result.ok (Next.value v) w : Result Next) = .ok n w' := h
  cases h
  exact ⟨v, rfl⟩
theorem exec_val {ρ : Operand → Value} {o : Oper} {w w' : World} {n : Next} (hv : isV o.op = true) (h : (execOp ρ o).run P w = .ok n w') : ∃ v, n = .value v := by
  unfold execOp at h
  cases ho : o.op <;> rw [ho] at hv h <;> simp only at h <;> first | exact bind_val h | exact pure_val h | cases hv | skip
  · rw [Sem.run_bind] at h
    rename_i c a b
    cases hs : (asBool (ρ c)).run P w with
    | ok v w1 => rw [hs] at h; exact pure_val (P := P) (w := w1) h
    | halt a b => rw [hs] at h; cases h
  · rename_i x
    generalize ρ x = y at h
    split at h
    · cases h
    · cases h
    · cases h
    · split at h
      · cases h
      · rw [Sem.run_bind] at h
        simp only [run_program, Result.andThen_ok] at h
        rw [Sem.run_bind] at h
        rename_i t1 w1 _
        cases hs : (nilAhead (P.types.size + Made.depth) t1 w1 ‹String›).run P w with
        | halt a b => rw [hs] at h; cases h
        | ok v w2 =>
          rw [hs] at h
          simp only [Result.andThen_ok] at h
          split at h
          · rw [Sem.run_bind] at h
            cases h
          · exact pure_val (P := P) (w := w2) h
      · exact pure_val h
    · exact pure_val h
/-- Operations that yield a value, or call a builtin that does. -/
def isW (o : Oper) : Bool :=
  match o.op with
  | .buildSlice .. => true
  | .call c => match c.callee with
    | .builtin .append => true
    | .builtin .len => true
    | .builtin .cap => true
    | _ => false
  | _ => isV o.op
theorem exec_valW {ρ : Operand → Value} {o : Oper} {w w' : World} {n : Next} (hv : isW o = true) (h : (execOp ρ o).run P w = .ok n w') : ∃ v, n = .value v := by
  by_cases hV : isV o.op = true
  · exact exec_val hV h
  unfold isW at hv
  unfold execOp at h
  split at hv
  · rename_i ho
    rw [ho] at h
    exact bind_val h
  · rename_i c ho
    rw [ho] at h
    simp only at h
    split at hv
    · rename_i hc
      unfold resolve at h
      rw [hc] at h
      exact bind_val (s := Builtin.append_ c.argTypes o.type (c.args.map ρ)) h
    · rename_i hc
      unfold resolve at h
      rw [hc] at h
      exact bind_val (s := Builtin.len_ c.argTypes o.type (c.args.map ρ)) h
    · rename_i hc
      unfold resolve at h
      rw [hc] at h
      exact bind_val (s := Builtin.cap_ c.argTypes o.type (c.args.map ρ)) h
    · cases hv
  · exact absurd hv hV
/-- Is it in the list? -/
def depB (D : List Nat) (i : Nat) : Bool := D.any fun d => Nat.beq i d
/-- It waits for one of the two, or for one of those that do. -/
def bothB (x y : Nat) (D : List Nat) (i : Nat) (o : Oper) : Bool := depB D i && o.after.toList.any fun e => Region.binds .any e && (Nat.beq e.on x || Nat.beq e.on y || depB D e.on)
/-- What comes ahead of both yields a value. -/
def twoOk (x y : Nat) (D : List Nat) : Nat → List Oper → Bool
  | _, [] => true
  | i, o :: r => match Nat.beq i x || Nat.beq i y || (!depB D i && isW o) || bothB x y D i o with
    | true => twoOk x y D (i + 1) r
    | false => false
theorem twoOk_spec {x y : Nat} {D : List Nat} : ∀ {l : List Oper} {i : Nat}, twoOk x y D i l = true → ∀ k o, l[k]? = some o → i + k = x ∨ i + k = y ∨ (depB D (i + k) = false ∧ isW o = true) ∨ bothB x y D (i + k) o = true
  | [], i, _ => by
    intro k o h
    simp at h
  | p :: r, i, h => by
    intro k o ho
    unfold twoOk at h
    cases hc : (Nat.beq i x || Nat.beq i y || (!depB D i && isW p) || bothB x y D i p) with
    | false => rw [hc] at h; cases h
    | true =>
      rw [hc] at h
      simp only at h
      cases k with
      | zero =>
        simp at ho
        subst ho
        simp only [Bool.or_eq_true, Bool.and_eq_true, Bool.not_eq_true'] at hc
        rcases hc with ((hc | hc) | hc) | hc
        · exact .inl (Nat.eq_of_beq_eq_true hc)
        · exact .inr (.inl (Nat.eq_of_beq_eq_true hc))
        · exact .inr (.inr (.inl hc))
        · exact .inr (.inr (.inr hc))
      | succ k =>
        have := twoOk_spec h k o (by simpa using ho)
        rw [show i + 1 + k = i + (k + 1) by omega] at this
        exact this
theorem wpAny_two {x y : Nat} {D : List Nat} (hxy : x ≠ y) (hDx : depB D x = false) (hDy : depB D y = false) (h2k : twoOk x y D 0 ops.toList = true) : ∀ (fuel : Nat) (X : Array Bool) (a : Act) (w : World), X.getD x false = false → X.getD y false = false → (∀ d, depB D d = true → X.getD d false = false) → wpAny P .any (waitE x y ops) Q fuel X a w → wpAny P .any (waitE y x ops) Q fuel X a w → wpAny P .any ops Q fuel X a w := by
  intro fuel
  induction fuel with
  | zero =>
    intro X a w _ _ _ h1 h2
    refine ⟨?_, h1.2⟩
    refine List.eq_nil_iff_forall_not_mem.2 fun i hi => ?_
    by_cases e : i = x
    · have : i ∈ Region.ready .any (waitE y x ops) X := ready_wait.2 ⟨hi, fun g => absurd (e.symm.trans g) hxy⟩
      rw [h2.1] at this
      cases this
    · have : i ∈ Region.ready .any (waitE x y ops) X := ready_wait.2 ⟨hi, fun g => absurd g e⟩
      rw [h1.1] at this
      cases this
  | succ fuel ih =>
    intro X a w hx hy hD h1 h2
    refine ⟨fun hr => h1.1 ?_, fun i hi => ?_⟩
    · refine List.eq_nil_iff_forall_not_mem.2 fun i hi => ?_
      have := (ready_wait.1 hi).1
      rw [hr] at this
      cases this
    · have hlt := ready_got hi
      by_cases ex : i = x
      · subst ex
        have g := h2.2 i (ready_wait.2 ⟨hi, fun g => absurd g hxy⟩)
        exact wpOp_mono (fun a w => wpAny_waited _ _ _ _ (getD_set hlt)) (waitE_wpOp g)
      · by_cases ey : i = y
        · subst ey
          have g := h1.2 i (ready_wait.2 ⟨hi, fun g => absurd g.symm hxy⟩)
          exact wpOp_mono (fun a w => wpAny_waited _ _ _ _ (getD_set hlt)) (waitE_wpOp g)
        · have hset : ∀ j, j ≠ i → X.getD j false = false → (X.setIfInBounds i true).getD j false = false := by
            intro j hj hf
            rw [Array.getD_eq_getD_getElem?] at hf ⊢
            rw [Array.getElem?_setIfInBounds, if_neg (fun e => hj e.symm)]
            exact hf
          have g1 := waitE_wpOp (h1.2 i (ready_wait.2 ⟨hi, fun g => absurd g ex⟩))
          have g2 := waitE_wpOp (h2.2 i (ready_wait.2 ⟨hi, fun g => absurd g ey⟩))
          have hready : ∀ o, ops[i]? = some o → bothB x y D i o = true → False := by
            intro o ho h
            unfold bothB at h
            obtain ⟨_, h⟩ := (Bool.and_eq_true _ _).mp h
            obtain ⟨e, he, hh⟩ := List.any_eq_true.1 h
            simp only [Bool.and_eq_true, Bool.or_eq_true] at hh
            unfold Region.ready at hi
            simp only [List.mem_filter, Bool.and_eq_true] at hi
            rw [ho] at hi
            simp only [Option.map_some, Option.getD_some] at hi
            have hall := Array.all_eq_true'.1 hi.2.2 e (Array.mem_toList_iff.1 he)
            rw [hh.1, Bool.not_true, Bool.false_or] at hall
            rcases hh.2 with (q | q) | q
            · rw [Nat.eq_of_beq_eq_true q, hx] at hall; cases hall
            · rw [Nat.eq_of_beq_eq_true q, hy] at hall; cases hall
            · rw [hD _ q] at hall; cases hall
          have hDi : ∀ o, ops[i]? = some o → depB D i = false ∧ isW o = true := by
            intro o ho
            rcases twoOk_spec h2k i o (by rw [Array.getElem?_toList]; exact ho) with h | h | h | h
            · rw [Nat.zero_add] at h; exact absurd h ex
            · rw [Nat.zero_add] at h; exact absurd h ey
            · rw [Nat.zero_add] at h; exact h
            · rw [Nat.zero_add] at h; exact (hready o ho h).elim
          have hlt2 : i < ops.size := by
            have := (List.mem_filter.1 (show i ∈ (List.range ops.size).filter _ from hi)).1
            exact List.mem_range.1 this
          obtain ⟨o', ho'⟩ : ∃ o, ops[i]? = some o := ⟨ops[i], Array.getElem?_eq_getElem hlt2⟩
          have hDi' := (hDi o' ho').1
          have ih' := fun a w => ih (X.setIfInBounds i true) a w (hset x (fun e => ex e.symm) hx) (hset y (fun e => ey e.symm) hy) (fun d hd => hset d (fun e => by rw [e, hDi'] at hd; cases hd) (hD d hd))
          unfold wpOp at g1 g2 ⊢
          rw [ho'] at g1 g2 ⊢
          simp only at g1 g2 ⊢
          have hV : isW o' = true := (hDi o' ho').2
          split
          · rename_i hw
            rw [if_pos hw] at g1 g2
            rcases g1 with g1 | g1
            · rcases g2 with g2 | g2
              · left
                unfold Oper.wp at *
                cases hr : (execOp a.eval o').run P w with
                | ok n w' =>
                  obtain ⟨v, rfl⟩ := exec_valW hV hr
                  rw [hr] at g1 g2
                  exact ih' _ _ g1 g2
                | halt q w' =>
                  rw [hr] at g1
                  cases q <;> first | exact g1 | exact g1.elim
              · exact .inr g2
            · exact .inr g1
          · rename_i hw
            rw [if_neg hw] at g1 g2
            exact ih' _ _ g1 g2
end
/-- How the orders of a region are parted: at its leaves there is one. -/
inductive DT where
  | lf (ms L : List Nat)
  | tw (x y : Nat) (D : List Nat) (a b : DT)
section
variable {T : Ct} {P : Program} {N : Nat} {r0 : Regs} {Q : Exit → Act → World → Prop}
def vcDT (P : Program) (sf : Bool × Bool) (T : Ct) (N : Nat) (K : Regs → AS → Prop) (r : Regs) (σ : AS) : DT → Array Oper → Prop
  | .lf ms L, ops => vcDraw P sf T N ops.toList ms L K r σ
  | .tw x y D a b, ops => chk (twoOk x y D 0 ops.toList) (chk (!Nat.beq x y && !depB D x && !depB D y) (vcDT P sf T N K r σ a (waitE x y ops) ∧ vcDT P sf T N K r σ b (waitE y x ops)))
theorem vcDT_any (hT : ∀ f args σ K, T f args σ K → Tri P f args σ K) {sf : Bool × Bool} {K : Regs → AS → Prop} {a : Act} {w : World} {ρ : RM} {σ : AS} (s : Sim ρ w.heap σ) (rr : RRel ρ r0 a.tmps) (hN : a.tmps.size = N) (hd : a.defers = [])
    (hQ : ∀ a' w', Beh N ρ w σ K a' w' → Q .normal a' w') : ∀ (t : DT) (ops : Array Oper), vcDT P sf T N K r0 σ t ops → wpAny P .any ops Q ops.size (Array.replicate ops.size false) a { w with drawn := w.drawn + 1 }
  | .lf ms L, ops, h => vcDraw_any hT h s rr hN hd hQ
  | .tw x y D t1 t2, ops, h => by
    obtain ⟨h1, h⟩ := chk_elim h
    obtain ⟨h2, h3, h4⟩ := chk_elim h
    simp only [Bool.and_eq_true, Bool.not_eq_true'] at h2
    obtain ⟨⟨h2, hDx⟩, hDy⟩ := h2
    have hxy : x ≠ y := by
      rintro rfl
      rw [Nat.beq_refl] at h2
      cases h2
    refine wpAny_two hxy hDx hDy h1 _ _ _ _ ?_ ?_ (fun d _ => ?_) ?_ ?_
    · rw [Array.getD_eq_getD_getElem?, Array.getElem?_replicate]; split <;> rfl
    · rw [Array.getD_eq_getD_getElem?, Array.getElem?_replicate]; split <;> rfl
    · rw [Array.getD_eq_getD_getElem?, Array.getElem?_replicate]; split <;> rfl
    · have := vcDT_any hT s rr hN hd hQ t1 (waitE x y ops) h3
      rw [waitE_size] at this
      exact this
    · have := vcDT_any hT s rr hN hd hQ t2 (waitE y x ops) h4
      rw [waitE_size] at this
      exact this
theorem vcDT_sound (hT : ∀ f args σ K, T f args σ K → Tri P f args σ K) {sf : Bool × Bool} {id : Nat} {t : DT} {ops : Array Oper} {K : Regs → AS → Prop} {a : Act} {w : World} {ρ : RM} {σ : AS} (hmix : P.follows .mixedOrders = true) (h : vcDT P sf T N K r0 σ t ops) (s : Sim ρ w.heap σ) (rr : RRel ρ r0 a.tmps) (hN : a.tmps.size = N) (hd : a.defers = [])
    (hQ : ∀ a' w', Beh N ρ w σ K a' w' → Q .normal a' w') : (Code.region id ops true).wp P Q a w := wp_region_any hmix (vcDT_any hT s rr hN hd hQ t ops h)
end
end Go.AI
