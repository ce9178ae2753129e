/- Lemmas of the abstract condition ahead of code (a part of the library that the claim's proof stands on); they hold with no condition but those that each names. -/
import Derived.Test.YtlofpopejkohbaaGreatAITop
set_option linter.unusedSimpArgs false
set_option linter.unusedVariables false
/- The arguments of a law, taken over. -/
namespace Go.AI
open Go.ChangeShapes Go.RowKit
section
variable {H : Type} {enc : TypeId × Value → H} {P : Program} {W : World}

def argVal (P : Program) (t : TypeId) (av : List Value) : Value :=
  match isAggT P t with
  | true => .agg ⟨av⟩
  | false => match av with | [v] => v | _ => undef
def argVals (P : Program) : List TypeId → List (List Value) → List Value
  | t :: ts, a :: as => argVal P t a :: argVals P ts as
  | _, _ => []

theorem arg_rel {ρ : RM} {r : Reach} {b : Nat} {t : TypeId} {v : Value} {av : List Value} (hval : Value.okWide P W r b t v) (hr : VsRel ρ av v.cells.toList) (hone : ∀ u ∈ v.cells.toList, u.oneCell' = true) : VRel ρ (argVal P t av) v := by
  have one : v.cells = #[v] → isAggT P t = false → VRel ρ (argVal P t av) v := by
    intro hc hg
    rw [hc] at hr
    unfold argVal
    rw [hg]
    cases hr with
    | cons h1 h2 => cases h2; exact h1
  unfold Value.okWide at hval
  split at hval
  · rename_i fs hu
    obtain ⟨cs, rfl, _⟩ := hval
    unfold argVal isAggT
    rw [hu]
    exact .agg (b := cs.toList) hr hone
  · rename_i n e hu
    obtain ⟨cs, rfl, _⟩ := hval
    unfold argVal isAggT
    rw [hu]
    exact .agg (b := cs.toList) hr hone
  · rename_i h1 h2
    have hg : isAggT P t = false := by
      unfold isAggT
      split
      · rename_i fs hu; exact (h1 _ hu).elim
      · rename_i n e hu; exact (h2 _ _ hu).elim
      · rfl
    refine one ?_ hg
    cases v <;> first | rfl | (exfalso; unfold Cell.okWide at hval; cases hu : P.underlying t with
      | none => simp [hu, Cell.ok] at hval
      | some d => cases d <;> simp [hu, Cell.ok] at hval)

theorem take_args {b : Nat} : ∀ (Rs : List (DataW H → AS → List Value → AS → Prop)) (ts : List TypeId) (vs : List Value) (ds : List (DataW H)) (p : List MemPlace), L2 (fun R t => TK enc P W t R) Rs ts → DataW.TrodAll enc P W 0 (fun _ => true) true ts vs ds p →
    (∀ (j : Nat) t v, ts[j]? = some t → vs[j]? = some v → Value.okWide P W .any b t v) →
    ∀ (ρ : RM) (σ : AS), Sim ρ W.heap σ → NoOwn σ → ∃ avs σ' ρ', ThrH Rs ds σ avs σ' ∧ ρ.le ρ' ∧ Sim ρ' W.heap σ' ∧ NoOwn σ' ∧ VsRel ρ' (argVals P ts avs) vs
  | _, _, vs, ds, p, .nil, h, _, ρ, σ, s, n => by
    obtain ⟨rfl, rfl, _⟩ := trodAll_nil h
    exact ⟨[], σ, ρ, .nil σ, RM.le_refl _, s, n, .nil⟩
  | _, _, vs, ds, p, .cons (a := R) (b := t) (as := Rs) (bs := ts) hR hRs, h, hval, ρ, σ, s, n => by
    obtain ⟨v, vs, d, ds, p0, q0, rfl, rfl, rfl, h0, h1⟩ := trodAll_cons h
    obtain ⟨fuel, hf⟩ := h0
    obtain ⟨av, σ1, ρ1, k1, k2, k3, k4, k5, k6⟩ := hR fuel _ _ hf ρ σ s n
    obtain ⟨avs, σ2, ρ2, g1, g2, g3, g4, g5⟩ := take_args Rs ts vs ds q0 hRs h1 (fun j t v ht hv => hval (j + 1) t v (by simpa using ht) (by simpa using hv)) ρ1 σ1 k3 k4
    exact ⟨av :: avs, σ2, ρ2, .cons k1 g1, RM.le_trans k2 g2, g3, g4, .cons ((arg_rel (hval 0 t v (by simp) (by simp)) k5 k6).mono g2) g5⟩

/-- All that was there is as it was. -/
structure Kept (W w' : World) : Prop where
  size : W.heap.size ≤ w'.heap.size
  heap : ∀ b, b < W.heap.size → w'.heap[b]? = W.heap[b]?
  os : w'.os = W.os
  out : w'.output = W.output

theorem sim_nil (h : Array Obj) : Sim (fun _ => none) h AS.nil where
  obj i o e := by cases e
  inj i j oi oj li lj _ e := by cases e
  dom i _ := rfl

/-- The call of a law, from what is known of it at abstract arguments. -/
theorem calls_true {b : Nat} {f : FuncId} {Rs : List (DataW H → AS → List Value → AS → Prop)} {ts : List TypeId} {args : Array Value} {ds : List (DataW H)} {p : List MemPlace} (hR : L2 (fun R t => TK enc P W t R) Rs ts)
    (hA : DataW.TrodAll enc P W 0 (fun _ => true) true ts args.toList ds p) (hval : ∀ (j : Nat) t v, ts[j]? = some t → args.toList[j]? = some v → Value.okWide P W .any b t v)
    (hcall : ∀ args w, (callFunc f args).run P w = .ok (.enter f args) w)
    (hT : ∀ avs σ, ThrH Rs ds AS.nil avs σ → Tri P f (argVals P ts avs) σ fun v _ => v = .bool true) :
    Calls P f args W fun e w' => e = .returned (.bool true) ∧ Kept W w' := by
  obtain ⟨avs, σ, ρ, g1, _, g3, g4, g5⟩ := take_args Rs ts _ ds p hR hA hval _ _ (sim_nil W.heap) (fun i o e => by cases e)
  obtain ⟨nx, w1, h1, h2⟩ := (hT avs σ g1).run ρ W args.toList g5 g3
  have hc := hcall args W
  have h1 : (callFunc f args).run P W = .ok nx w1 := h1
  rw [hc] at h1
  injection h1 with h1 h3
  subst h1; subst h3
  refine Calls.mono h2 ?_
  rintro e w' ⟨cv, rfl, v, ρ', σ', rfl, hv, s', st⟩
  cases hv
  exact ⟨rfl, ⟨st.size, fun x hx => st.frame x hx (fun ⟨i, o, l, e1, e2, _⟩ => by rw [g4 i o e1] at e2; cases e2), st.os, st.out⟩⟩

theorem kept_same {W' : World} (hk : Kept W W') {p : MemPlace} (hp : p.block < W.heap.size) : W.sameAt W' p := by
  cases p with
  | cell b off =>
    show W'.cell? ⟨b, off, none⟩ = W.cell? ⟨b, off, none⟩
    unfold World.cell?
    simp only
    rw [hk.heap b hp]
  | map b => exact hk.heap b hp

theorem args_kept {W' : World} (hk : Kept W W') (sp : Nat → Bool) : ∀ {ts : List TypeId} {vs : List Value} {ds : List (DataW H)} {ps : List MemPlace}, (∀ t ∈ ts, SP enc P W' t) → DataW.TrodAll enc P W 0 (fun _ => true) true ts vs ds ps → (∀ p ∈ ps, p.block < W.heap.size) → (∀ p ∈ ps, sp p.block = true) →
    DataW.TrodAll enc P W' 0 sp true ts vs ds ps
  | [], vs, ds, ps, _, h, _, _ => by
    obtain ⟨rfl, rfl, rfl⟩ := trodAll_nil h
    rfl
  | t :: ts, vs, ds, ps, hS, h, hlt, hsp => by
    obtain ⟨v, vs, d, ds, p0, q0, rfl, rfl, rfl, h0, h1⟩ := trodAll_cons h
    obtain ⟨fuel, hf⟩ := h0
    refine ⟨p0, q0, ⟨fuel, hS t (by simp) sp fuel _ _ (DataW.trod_carry fuel t _ _ hf fun p hp => kept_same hk (hlt p (List.mem_append_left _ hp))) fun p hp => hsp p (List.mem_append_left _ hp)⟩,
      args_kept hk sp (fun u hu => hS u (by simp [hu])) h1 (fun p hp => hlt p (List.mem_append_right _ hp)) (fun p hp => hsp p (List.mem_append_right _ hp)), rfl⟩

theorem frozen_kept {W' : World} (hk : Kept W W') {b off : Nat} (hb : b < W.heap.size) : W'.frozen? ⟨b, off, none⟩ = W.frozen? ⟨b, off, none⟩ := by
  unfold World.frozen?
  simp only
  rw [hk.heap b hb]

theorem keptBut_kept {W' : World} (hk : Kept W W') (may : MemPlace → Prop) : W.keptBut W' may := by
  refine ⟨hk.os, hk.out, fun i hi => ?_⟩
  rw [hk.heap i hi]
  cases h : W.heap[i]? with
  | none => rfl
  | some o =>
    cases o <;> first
      | exact ⟨rfl, rfl, rfl, fun _ _ => rfl⟩
      | exact .inr ⟨rfl, rfl⟩
      | rfl

/-- Behind a law that answers true and leaves all as it was. -/
theorem post_of_kept {f : Func} {s : ChangeSpec} {apart fresh handsOn again : Bool} {W' : World} {args : Array Value} {ds gs : List (DataW H)} {before : List MemPlace} {tb : TypeId} (hv : s.vars = []) (hr : f.resultTypes = #[tb]) (hb : P.underlying tb = some .bool)
    (hW : DataW.Whole enc P f.params.toList s.vars apart W args.toList ds gs before) (h1 : (s.fn H (ds ++ gs)).results = [.lit (.bool true)]) (h2 : (s.fn H (ds ++ gs)).args = ds) (h3 : (s.fn H (ds ++ gs)).vars = [])
    (hk : Kept W W') (hS : ∀ t ∈ f.params.toList, SP enc P W' t) : s.post enc P f apart fresh handsOn again W args (.bool true) W' := by
  have hW' := hW
  obtain ⟨p, q, hA, hV, rfl, hfz, hnd⟩ := hW
  have hq : q = [] ∧ gs = [] := by
    rw [hv] at hV
    cases gs with
    | nil => exact ⟨hV, rfl⟩
    | cons g gs => exact hV.elim
  obtain ⟨rfl, rfl⟩ := hq
  rw [List.append_nil] at hW' hfz hnd h1 h2 h3
  have hlt : ∀ x ∈ p, x.block < W.heap.size := fun x hx => hW'.lt x hx
  have hargs : ∀ sp : Nat → Bool, (∀ x ∈ p, sp x.block = true) → DataW.TrodAll enc P W' 0 sp true f.params.toList args.toList ds p := fun sp hsp => args_kept hk sp hS hA hlt hsp
  have hres : ∀ (b : Nat) (sp : Nat → Bool) (hd : Bool), DataW.TrodAll enc P W' b sp hd f.resultTypes.toList ((Value.bool true).resultList f.resultTypes.size) [.lit (.bool true)] [] := by
    intro b sp hd
    rw [hr]
    exact trodAll_mk1 (shut_bool hb true)
  have hvars : ∀ sp : Nat → Bool, DataW.TrodVars enc P W' sp s.vars [] [] := fun sp => by rw [hv]; rfl
  refine ⟨ds, [], p ++ [], [], p, [], by rw [List.append_nil]; exact hW', by rw [List.append_nil, h1]; exact hres _ _ _, by rw [List.append_nil, h2]; exact hargs _ fun x hx => by simpa using hlt x hx, by rw [List.append_nil, h3]; exact hvars _, keptBut_kept hk _, fun _ => ?_⟩
  refine ⟨ok_one hr rfl (okWide_bool_mk hb true), [.lit (.bool true)] ++ ds, [], p ++ [], ⟨p, [], ?_, hvars _, rfl, ?_, ?_⟩, fun x hx _ => hx⟩
  · have := trodAll_append (hargs (fun _ => true) (fun _ _ => rfl)) (hres 0 (fun _ => true) true)
    simpa using this
  · intro b off hp
    rw [List.append_nil] at hp
    rw [frozen_kept hk (show b < W.heap.size from hlt _ hp)]
    exact hfz b off hp
  · intro ha
    rw [List.append_nil]
    exact hnd ha
end
end Go.AI
