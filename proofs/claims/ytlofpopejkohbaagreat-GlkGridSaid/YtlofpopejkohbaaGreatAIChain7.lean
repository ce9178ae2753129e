/- Lemmas of the abstract condition ahead of code (a part of the library that the claim's proof stands on); they hold with no condition but those that each names. -/
import Derived.Test.YtlofpopejkohbaaGreatAIChain6
set_option linter.unusedSimpArgs false
set_option linter.unusedVariables false
namespace Go.AI
section
variable {T : Ct} {P : Program} {w : World} {ρ : RM} {σ : AS}

theorem after_c {nx : Next} {w1 : World} {K : Value → AS → Prop} {K' : Option Value → AS → Prop} (hk : ∀ v cv ρ' σ', K v σ' → VRel ρ' v cv → ∃ u, K' (some u) σ' ∧ VRel ρ' u cv)
    (h : After P nx w1 fun cv w' => ∃ v ρ' σ', K v σ' ∧ VRel ρ' v cv ∧ Sim ρ' w'.heap σ' ∧ Step ρ w σ ρ' w' σ') : COk P ρ w σ nx w1 K' :=
  h.mono fun cv w' ⟨v, ρ', σ', h1, h2, h3, h4⟩ => by
    obtain ⟨u, h5, h6⟩ := hk v cv ρ' σ' h1 h2
    exact ⟨some u, ρ', σ', h5, by rintro _ ⟨⟩; exact h6, h3, h4⟩

theorem c_callV (s : Sim ρ w.heap σ) {o : Oper} {c : Call} {ce : Operand → Value} {x : Operand} {f : Value} {args cargs : List Value} {K : Value → AS → Prop} {K' : Option Value → AS → Prop}
    (ho : o.op = .call c) (hc : c.callee = .value x) (hargs : c.args.map ce = ⟨cargs⟩) (rf : VRel ρ f (ce x)) (rs : VsRel ρ args cargs)
    (hk : ∀ v cv ρ' σ', K v σ' → VRel ρ' v cv → ∃ u, K' (some u) σ' ∧ VRel ρ' u cv) (hT : ∀ f args σ K, T f args σ K → Tri P f args σ K) (h : callV T f args σ K) :
    ∃ nx w1, (execOp ce o).run P w = .ok nx w1 ∧ COk P ρ w σ nx w1 K' := by
  unfold callV at h
  split at h
  · rename_i g a b
    generalize hx : ce x = cx at rf
    cases rf with
    | func _ r1 r2 =>
      obtain ⟨nx, w1, h1, h2⟩ := (hT _ _ _ _ h).run ρ w _ ((r1.append rs).append r2) s
      refine ⟨nx, w1, ?_, after_c hk h2⟩
      rw [← h1]
      simp only [execOp, ho, resolve, hc, hx, hargs, Deferred.ofValue, Sem.run_bind, Sem.run_pure, Result.andThen_ok, invoke]
      congr 2
      apply Array.ext'; simp
  · exact h.elim

theorem methodOf_elim {t : TypeId} {name : String} {f : FuncId} (h : methodOf P t name = some f) :
    ∃ i m p d, P.info? t = some i ∧ i.methods.find? (·.name == name) = some m ∧ m.path.toList = [] ∧ m.func = some (f, p) ∧ P.underlying t = some d ∧ ((∃ e, d = .pointer e) ∧ p = true ∨ (∀ e, d ≠ .pointer e) ∧ p = false) := by
  unfold methodOf at h
  split at h
  · rename_i i hi
    split at h
    · rename_i m hm
      split at h
      · rename_i g p hp hf
        split at h
        · rename_i e hu
          injection h with h
          subst h
          exact ⟨i, m, _, _, hi, hm, hp, hf, hu, .inl ⟨⟨e, rfl⟩, rfl⟩⟩
        · cases h
        · rename_i d hd hu
          injection h with h
          subst h
          refine ⟨i, m, _, d, hi, hm, hp, hf, by assumption, .inr ⟨?_, rfl⟩⟩
          intro e he
          subst he
          first
            | exact (hd _ rfl rfl).elim
            | exact (hd _ rfl).elim
            | exact (hu _ rfl).elim
            | (rename_i hh _; exact (hh _ rfl).elim)
        · cases h
      · cases h
    · cases h
  · cases h

theorem run_method {t : TypeId} {name : String} {f : FuncId} {v : Value} (n : Nat) (h : methodOf P t name = some f) : (method (n + 1) t v name).run P w = .ok (f, v) w := by
  obtain ⟨i, m, p, d, hi, hm, hp, hf, hu, hd⟩ := methodOf_elim h
  have hpe : m.path = #[] := by cases hpp : m.path; rw [hpp] at hp; simp at hp; rw [hp]
  have hti : (typeInfo t).run P w = .ok i w := by simp [typeInfo, hi]
  simp only [method, Sem.run_bind, hti, Result.andThen_ok, hm, hp, follow, Sem.run_pure, hf]
  rcases hd with ⟨⟨e, rfl⟩, rfl⟩ | ⟨hd, rfl⟩
  · simp only [receiverAt, Sem.run_bind, run_underlying hu, Result.andThen_ok, Place.get, Sem.run_pure]
  · cases d <;> first | exact absurd rfl (hd _) | simp only [receiverAt, Sem.run_bind, run_underlying hu, Result.andThen_ok, Place.get, Sem.run_pure]

theorem c_callI (s : Sim ρ w.heap σ) {o : Oper} {c : Call} {ce : Operand → Value} {x : Operand} {name : String} {f : Value} {args cargs : List Value} {K : Value → AS → Prop} {K' : Option Value → AS → Prop}
    (ho : o.op = .call c) (hc : c.callee = .invoke x name) (hargs : c.args.map ce = ⟨cargs⟩) (rf : VRel ρ f (ce x)) (rs : VsRel ρ args cargs)
    (hk : ∀ v cv ρ' σ', K v σ' → VRel ρ' v cv → ∃ u, K' (some u) σ' ∧ VRel ρ' u cv) (hT : ∀ f args σ K, T f args σ K → Tri P f args σ K) (h : callI P T f name args σ K) :
    ∃ nx w1, (execOp ce o).run P w = .ok nx w1 ∧ COk P ρ w σ nx w1 K' := by
  unfold callI at h
  split at h
  · rename_i t v
    obtain ⟨g, hg, h⟩ := pSome_elim h
    generalize hx : ce x = cx at rf
    cases rf with
    | iface _ r1 =>
      rename_i cv
      obtain ⟨nx, w1, h1, h2⟩ := (hT _ _ _ _ h).run ρ w (cv :: cargs) (.cons r1 rs) s
      refine ⟨nx, w1, ?_, after_c hk h2⟩
      obtain ⟨n, hn⟩ : ∃ n, P.types.size + Made.depth = n + 1 := ⟨P.types.size + (Made.depth - 1), by unfold Made.depth; omega⟩
      rw [← h1]
      have e1 : ((#[Value.iface t cv] ++ (⟨cargs⟩ : Array Value)).extract 1 (#[Value.iface t cv] ++ (⟨cargs⟩ : Array Value)).size) = ⟨cargs⟩ := by
        apply Array.ext'; simp
      have e0 : (#[Value.iface t cv] ++ (⟨cargs⟩ : Array Value))[0]? = some (.iface t cv) := by simp
      simp only [execOp, ho, resolve, hc, hx, hargs, Sem.run_bind, Sem.run_pure, Result.andThen_ok, invoke, e0, e1, callMethod, run_program, hn, run_method n hg]
      congr 2
      apply Array.ext'; simp
  · exact h.elim

theorem aC_sound (s : Sim ρ w.heap σ) {o : Oper} {ev : Operand → Option Value} {ce : Operand → Value} (he : ∀ x v, ev x = some v → VRel ρ v (ce x)) {K : Option Value → AS → Prop} (hT : ∀ f args σ K, T f args σ K → Tri P f args σ K) (h : aC P T o.op o.type ev σ K) :
    ∃ nx w1, (execOp ce o).run P w = .ok nx w1 ∧ COk P ρ w σ nx w1 K := by
  have val : ∀ {sm : Sem Value}, execOp ce o = (do pure (.value (← sm))) → (∃ cv w1, sm.run P w = .ok cv w1 ∧ COk P ρ w σ (.value cv) w1 K) → ∃ nx w1, (execOp ce o).run P w = .ok nx w1 ∧ COk P ρ w σ nx w1 K := by
    intro sm e ⟨cv, w1, h1, h2⟩
    exact ⟨.value cv, w1, by rw [e]; simp [h1], h2⟩
  have unit : ∀ {sm : Sem Unit}, execOp ce o = (do sm; pure .skip) → (∃ w1, sm.run P w = .ok () w1 ∧ COk P ρ w σ .skip w1 K) → ∃ nx w1, (execOp ce o).run P w = .ok nx w1 ∧ COk P ρ w σ nx w1 K := by
    intro sm e ⟨w1, h1, h2⟩
    exact ⟨.skip, w1, by rw [e]; simp [h1], h2⟩
  have bi : ∀ {b : Builtin} {c : Call} {sm : Sem Value}, o.op = .call c → c.callee = .builtin b → (∀ cs, builtin b c.argTypes o.type cs (c.args.map ce) = (do pure (.value (← sm)))) →
      (∃ cv w1, sm.run P w = .ok cv w1 ∧ COk P ρ w σ (.value cv) w1 K) → ∃ nx w1, (execOp ce o).run P w = .ok nx w1 ∧ COk P ρ w σ nx w1 K := by
    intro b c sm ho hc hs ⟨cv, w1, h1, h2⟩
    exact ⟨.value cv, w1, by simp [execOp, ho, resolve, hc, invoke, hs, h1], h2⟩
  unfold aC at h
  split at h
  · rename_i e ho
    obtain ⟨z, hz, h⟩ := pSome_elim h
    exact val (sm := Instr.alloc e true (.tuple #[])) (by simp [execOp, ho]) (c_alloc s hz h)
  · rename_i e x ho
    obtain ⟨v, hx, h⟩ := pSome_elim h
    exact val (sm := Instr.box e (ce x)) (by simp [execOp, ho]) (c_box s (he _ _ hx) h)
  · rename_i t n parts ho
    split at h
    · rename_i e hu
      obtain ⟨z, hz, h⟩ := pSome_elim h
      obtain ⟨h1, h⟩ := chk_elim h
      obtain ⟨h2, h⟩ := chk_elim h
      have e : parts.map (fun p => (p.1, ce p.2)) = (parts.toList.map fun p => (p.1, ce p.2)).toArray := by apply Array.ext'; simp
      exact val (sm := Instr.buildSlice t n (parts.map fun p => (p.1, ce p.2))) (by simp [execOp, ho]) (by rw [e]; exact c_buildSlice s he hu hz h1 h2 h)
    · exact h.elim
  · rename_i t a x ho
    split at h
    · rename_i p ha
      have h' := pSome_elim h
      clear h
      obtain ⟨a', rfl, h⟩ := h'
      obtain ⟨v, hx, h⟩ := pSome_elim h
      have hsz : ∃ i, P.info? t = some i := by
        cases hi : P.info? t with
        | some i => exact ⟨i, rfl⟩
        | none =>
          exfalso
          have hz : szOf P t = 0 := by simp [szOf, hi]
          have hag : isAggT P t = false := by simp [isAggT, Program.underlying, hi]
          rw [hag] at h
          obtain ⟨h1, _⟩ := chk_elim h
          rw [hz] at h1
          cases h1
      exact unit (sm := Instr.storeAt t (ce a) (ce x)) (by simp [execOp, ho]) (c_store s (he _ _ ha) (he _ _ hx) hsz h)
    · exact h.elim
  · rename_i t n c ho
    split at h
    · rename_i e k1 n1 k2 c1 hu hn hc
      obtain ⟨z, hz, h⟩ := pSome_elim h
      obtain ⟨h1, h⟩ := chk_elim h
      obtain ⟨h2, h⟩ := chk_elim h
      obtain ⟨h3, h⟩ := chk_elim h
      obtain ⟨h4, h5, h6, h⟩ := req3_elim h
      refine val (sm := Instr.makeSlice t (ce n) (ce c)) (by simp [execOp, ho]) ?_
      rw [int_elim (he _ _ hn), int_elim (he _ _ hc)]
      exact c_makeSlice s hu hz h1 h2 h3 h4 h5 h6 h
    · exact h.elim
  · rename_i t r ho
    split at h
    · rename_i k e hu
      obtain ⟨h1, h⟩ := chk_elim h
      refine val (sm := Instr.makeMap t (r.map ce)) (by simp [execOp, ho]) (c_makeMap s hu ?_ h)
      intro v hv
      cases r with
      | none => cases hv
      | some x =>
        obtain ⟨k', n, hx⟩ : ∃ k n, ev x = some (.int k n) := by
          simp only at h1
          unfold isIntV at h1
          split at h1
          · exact ⟨_, _, by assumption⟩
          · cases h1
        injection hv with hv
        subst hv
        exact ⟨k', n, int_elim (he _ _ hx)⟩
    · exact h.elim
  · rename_i t m k x ho
    split at h
    · rename_i kt et r hu hm
      split at h
      · rename_i d hd
        cases h1 : scalarKey d with
        | true =>
          rw [h1] at h
          simp only at h
          have h' := pSome_elim h
          clear h
          obtain ⟨i, rfl, h⟩ := h'
          obtain ⟨kv, hk, h⟩ := pSome_elim h
          obtain ⟨v, hx, h⟩ := pSome_elim h
          exact unit (sm := Instr.mapUpdate t (ce m) (ce k) (ce x)) (by simp [execOp, ho]) (c_mapUpdate s hu hd h1 (he _ _ hm) (he _ _ hk) (he _ _ hx) h)
        | false =>
          rw [h1] at h
          simp only at h
          have hh := pSome_elim h
          clear h
          obtain ⟨kk, hkk, h⟩ := hh
          have h' := pSome_elim h
          clear h
          obtain ⟨i, rfl, h⟩ := h'
          obtain ⟨kv, hk, h⟩ := pSome_elim h
          obtain ⟨v, hx, h⟩ := pSome_elim h
          exact unit (sm := Instr.mapUpdate t (ce m) (ce k) (ce x)) (by simp [execOp, ho]) (c_mapUpdate2 s hu hkk (he _ _ hm) (he _ _ hk) (he _ _ hx) h)
      · exact h.elim
    · exact h.elim
  · rename_i t x ho
    split at h
    · rename_i b hu hx
      exact val (sm := Instr.range t (ce x)) (by simp [execOp, ho]) (c_range_str s hu (he _ _ hx) h)
    · rename_i kt et r hu hx
      cases r with
      | none => exact val (sm := Instr.range t (ce x)) (by simp [execOp, ho]) (c_range_nil s hu (he _ _ hx) h)
      | some m => exact val (sm := Instr.range t (ce x)) (by simp [execOp, ho]) (c_range_map s hu (he _ _ hx) h)
    · exact h.elim
  · rename_i x isS ho
    split at h
    · rename_i a hx
      obtain ⟨h0, h⟩ := chk_elim h
      exact val (sm := Instr.next (ce x) false o.type) (by simp [execOp, ho]) (c_next_map s h0 (he _ _ hx) h)
    · rename_i a hx
      obtain ⟨h0, h⟩ := chk_elim h
      exact val (sm := Instr.next (ce x) true o.type) (by simp [execOp, ho]) (c_next_str s h0 (he _ _ hx) h)
    · exact h.elim
  · rename_i c ho
    have hargs : ∀ {vs : List Value}, evs ev c.args.toList = some vs → ∃ cvs, c.args.map ce = ⟨cvs⟩ ∧ VsRel ρ vs cvs := fun {vs} hv => ⟨c.args.toList.map ce, by apply Array.ext'; simp, evs_elim he hv⟩
    have hts : ∀ {l : List TypeId}, c.argTypes.toList = l → c.argTypes = ⟨l⟩ := fun {l} hl => by apply Array.ext'; exact hl
    have htv : ∀ (v cv : Value) (ρ' : RM) (σ' : AS), (tV (kdOf P o.type) v fun v => K (some v) σ') → VRel ρ' v cv → ∃ u, K (some u) σ' ∧ VRel ρ' u cv := fun v cv ρ' σ' h r => by
      obtain ⟨u, h1, h2⟩ := tV_elim h r
      exact ⟨u, h2, h1⟩
    split at h
    · rename_i x hc
      obtain ⟨args, ha, h⟩ := pSome_elim h
      obtain ⟨f, hf, h⟩ := pSome_elim h
      obtain ⟨cvs, e1, e2⟩ := hargs ha
      exact c_callV s ho hc e1 (he _ _ hf) e2 htv hT h
    · rename_i x name hc
      obtain ⟨args, ha, h⟩ := pSome_elim h
      obtain ⟨f, hf, h⟩ := pSome_elim h
      obtain ⟨cvs, e1, e2⟩ := hargs ha
      exact c_callI s ho hc e1 (he _ _ hf) e2 htv hT h
    · rename_i hc
      unfold aAppend at h
      split at h
      · rename_i t tx a n c' x hat hxs
        split at h
        · rename_i e hu
          split at h
          · exact h.elim
          · rename_i d hd hu2
            obtain ⟨z, hz, h⟩ := pSome_elim h
            obtain ⟨h1, h⟩ := chk_elim h
            obtain ⟨h2, h⟩ := chk_elim h
            obtain ⟨h3, h⟩ := chk_elim h
            obtain ⟨h4, h⟩ := chk_elim h
            have h4 := nilOr_elim h4
            obtain ⟨cvs, e1, e2⟩ := hargs hxs
            cases e2 with
            | cons r1 e2 => cases e2 with
              | cons r2 e2 => cases e2 with
                | nil =>
                  refine bi (sm := Builtin.append_ c.argTypes o.type (c.args.map ce)) ho hc (fun _ => rfl) ?_
                  rw [hts hat, e1]
                  obtain ⟨cv, w1, g1, g2⟩ := c_append (ty := o.type) (K := fun v σ => K (some v) σ) s hu (by first | exact hu2 | exact hd) (by first | exact (fun k hk => hd _ (by rw [hk])) | exact (fun k hk => by subst hk; exact (hd _ rfl).elim) | exact (fun k hk => by subst hk; exact (hu2 _ rfl).elim)) hz h1 h2 h3 h4 r1 r2 h
                  exact ⟨cv, w1, g1, After.mono g2 fun cv w' ⟨v, ρ', σ', ⟨u, hv, hK⟩, k2, k3, k4⟩ => ⟨v, ρ', σ', by rw [hv]; exact hK, k2, k3, k4⟩⟩
          · exact h.elim
        · exact h.elim
      · exact h.elim
    · rename_i hc
      split at h
      · rename_i t ts r k hat hxs
        split at h
        · rename_i kt et hu
          split at h
          · rename_i d hd
            have hh := chk_elim h
            clear h
            obtain ⟨h1, h⟩ := hh
            have h' := pSome_elim h
            clear h
            obtain ⟨i, rfl, h⟩ := h'
            obtain ⟨cvs, e1, e2⟩ := hargs hxs
            cases e2 with
            | cons r1 e2 => cases e2 with
              | cons r2 e2 => cases e2 with
                | nil =>
                  refine bi (sm := Builtin.delete_ c.argTypes o.type (c.args.map ce)) ho hc (fun _ => rfl) ?_
                  rw [e1]
                  exact c_delete s (by rw [hts hat]; simp) hu hd h1 r1 r2 h
          · exact h.elim
        · exact h.elim
      · exact h.elim
    · rename_i hc
      split at h
      · rename_i t tx a n c' x hat hxs
        split at h
        · rename_i e hu
          obtain ⟨h1, h⟩ := chk_elim h
          obtain ⟨h2, h⟩ := chk_elim h
          have h2 := nilOr_elim h2
          obtain ⟨cvs, e1, e2⟩ := hargs hxs
          cases e2 with
          | cons r1 e2 => cases e2 with
            | cons r2 e2 => cases e2 with
              | nil =>
                refine bi (sm := Builtin.copy_ c.argTypes o.type (c.args.map ce)) ho hc (fun _ => rfl) ?_
                rw [hts hat, e1]
                exact c_copy s hu h1 h2 r1 r2 h
        · exact h.elim
      · exact h.elim
    · rename_i hc
      split at h
      · rename_i t a n c' hat hxs
        split at h
        · rename_i e hu
          obtain ⟨z, hz, h⟩ := pSome_elim h
          obtain ⟨h1, h⟩ := chk_elim h
          obtain ⟨h2, h⟩ := chk_elim h
          obtain ⟨h3, h⟩ := chk_elim h
          have h3 := nilOr_elim h3
          obtain ⟨cvs, e1, e2⟩ := hargs hxs
          cases e2 with
          | cons r1 e2 => cases e2 with
            | nil =>
              refine bi (sm := Builtin.clear_ c.argTypes o.type (c.args.map ce)) ho hc (fun _ => rfl) ?_
              rw [hts hat, e1]
              exact c_clear s hu hz h1 h2 h3 r1 h
        · exact h.elim
      · exact h.elim
    · exact h.elim
  · exact h.elim
end
end Go.AI
