/- Lemmas of the abstract condition ahead of code (a part of the library that the claim's proof stands on); they hold with no condition but those that each names. -/
import Derived.Test.YtlofpopejkohbaaGreatAIQ7
set_option linter.unusedSimpArgs false
set_option linter.unusedVariables false
namespace Go.AI
section
variable {P : Program} {w : World} {ρ : RM} {σ : AS} {K : Value → Prop}

theorem evs_elim {ev : Operand → Option Value} {ce : Operand → Value} (he : ∀ x v, ev x = some v → VRel ρ v (ce x)) : ∀ {xs : List Operand} {vs : List Value}, evs ev xs = some vs → VsRel ρ vs (xs.map ce)
  | [], vs, h => by simp [evs] at h; subst h; exact .nil
  | x :: xs, vs, h => by
    simp only [evs] at h
    cases e1 : ev x with
    | none => simp [e1] at h
    | some v =>
      cases e2 : evs ev xs with
      | none => simp [e1, e2] at h
      | some us =>
        simp [e1, e2] at h
        subst h
        exact .cons (he _ _ e1) (evs_elim he e2)

theorem info_isSome {t : TypeId} (h : (P.underlying t).isSome = true) : ∃ d, P.underlying t = some d := Option.isSome_iff_exists.mp h

/-- A quiet answer, told to the machine's operation. -/
theorem q_value {o : Oper} {s : Sem Value} {ce : Operand → Value} (e : execOp ce o = (do pure (.value (← s)))) (h : QOk P w ρ s K) :
    ∃ v cv, (execOp ce o).run P w = .ok (.value cv) w ∧ VRel ρ v cv ∧ K v := by
  obtain ⟨v, cv, h1, h2, h3⟩ := h
  exact ⟨v, cv, by rw [e]; simp [h1], h2, h3⟩

theorem aQ_sound (s : Sim ρ w.heap σ) {o : Oper} {ev : Operand → Option Value} {ce : Operand → Value} (he : ∀ x v, ev x = some v → VRel ρ v (ce x)) (h : aQ P o.op o.type ev σ K) :
    ∃ v cv, (execOp ce o).run P w = .ok (.value cv) w ∧ VRel ρ v cv ∧ K v := by
  have hv : ∀ x, ∀ v, ev x = some v → VRel ρ v (ce x) := fun x v => he x v
  unfold aQ at h
  split at h
  · rename_i x ho
    obtain ⟨v, h1, h2⟩ := pSome_elim h
    exact ⟨v, ce x, by simp [execOp, ho], he _ _ h1, h2⟩
  · rename_i x ho
    obtain ⟨v, h1, h2⟩ := pSome_elim h
    exact ⟨v, ce x, by simp [execOp, ho], he _ _ h1, h2⟩
  · rename_i c a b ho
    split at h
    · rename_i t ec
      have rc := he _ _ ec
      generalize hc : ce c = cc at rc
      cases rc
      cases t with
      | true =>
        obtain ⟨v, h1, h2⟩ := pSome_elim h
        exact ⟨v, ce a, by simp [execOp, ho, hc, asBool], he _ _ h1, h2⟩
      | false =>
        obtain ⟨v, h1, h2⟩ := pSome_elim h
        exact ⟨v, ce b, by simp [execOp, ho, hc, asBool], he _ _ h1, h2⟩
    · exact h.elim
  · rename_i x ho
    split at h
    · rename_i p ex
      obtain ⟨a, rfl, h2⟩ := pSome_elim h
      have rx := he _ _ ex
      generalize hx : ce x = cx at rx
      obtain ⟨_, l, hl, rfl⟩ := ptr_elim rx
      exact ⟨_, _, by simp [execOp, ho, hx], rx, h2⟩
    · rename_i f a b ex
      have rx := he _ _ ex
      generalize hx : ce x = cx at rx
      cases rx with
      | func _ h1 h3 => exact ⟨_, _, by simp [execOp, ho, hx], .func f h1 h3, h⟩
    · rename_i t v ex
      have rx := he _ _ ex
      generalize hx : ce x = cx at rx
      cases rx with
      | iface _ h1 => exact ⟨_, _, by simp [execOp, ho, hx], .iface t h1, h⟩
    · exact h.elim
  · rename_i op t x y u ho
    refine q_value (s := do eqGuard op t x y (ce x) (ce y); binOp op t (ce x) (ce y)) (by simp [execOp, ho]) (q_bin s he ?_ h)
    intro hc
    split at hc
    · exact ⟨_, rfl⟩
    · cases hc
  · rename_i op t x ho
    exact q_value (s := Op.unary op (ce x)) (by simp [execOp, ho]) (q_un (hv x) h)
  · rename_i a b x ho
    exact q_value (s := convert a b (ce x)) (by simp [execOp, ho]) (q_conv s (hv x) h)
  · rename_i t x ho
    split at h
    · exact h.elim
    · rename_i d hd hu
      obtain ⟨v, h1, h2⟩ := pSome_elim h
      refine q_value (s := Instr.makeInterface t (ce x)) (by simp [execOp, ho]) ⟨_, _, ?_, .iface t (he _ _ h1), h2⟩
      cases d <;> first | exact (hd _ rfl).elim | exact (hd _ hu).elim | exact (hu _ rfl).elim | simp [Instr.makeInterface, run_underlying hu] | simp [Instr.makeInterface, run_underlying hd]
    · exact h.elim
  · rename_i f a b ho
    obtain ⟨va, h1, h⟩ := pSome_elim h
    obtain ⟨vb, h2, h⟩ := pSome_elim h
    refine q_value (s := Instr.makeFunc (.func f) (a.map ce) (b.map ce)) (by simp [execOp, ho]) ⟨_, .func (.func f) ⟨a.toList.map ce⟩ ⟨b.toList.map ce⟩, ?_, .func f (evs_elim he h1) (evs_elim he h2), h⟩
    have e : ∀ x : Array Operand, x.map ce = ⟨x.toList.map ce⟩ := fun x => by apply Array.ext'; simp
    simp [Instr.makeFunc, e]
  · rename_i t x lo hi mx ho
    exact q_value (s := Instr.sliceAt t (ce x) (lo.map ce) (hi.map ce) (mx.map ce)) (by simp [execOp, ho]) (q_slice s he h)
  · rename_i t x i ho
    split at h
    · rename_i f p hf ex
      cases hz : Nat.beq (szOf P f.type) 0 with
      | true => rw [hz] at h; exact h.elim
      | false =>
        rw [hz] at h
        exact q_value (s := Instr.fieldAt t (ce x) i) (by simp [execOp, ho]) (q_fieldAddr hf hz (he _ _ ex) h)
    · exact h.elim
  · rename_i t x i ho
    split at h
    · rename_i f a hf ex
      obtain ⟨hk, h⟩ := chk_elim h
      exact q_value (s := Instr.field t (ce x) i) (by simp [execOp, ho]) (q_field hf (info_isSome hk) (he _ _ ex) h)
    · exact h.elim
  · rename_i t x i ho
    split at h
    · rename_i e a n c k j hu ex ei
      obtain ⟨hk, h⟩ := chk_elim h
      obtain ⟨h0, h1, h⟩ := req2_elim h
      exact q_value (s := Instr.indexAt t (ce x) (ce i)) (by simp [execOp, ho]) (q_indexAddr_s hu hk (he _ _ ex) (int_elim (he _ _ ei)) h0 h1 (by simpa only [aadd_eq] using h))
    · rename_i n e p k j hu ex ei
      obtain ⟨hk, h⟩ := chk_elim h
      obtain ⟨h0, h1, h⟩ := req2_elim h
      exact q_value (s := Instr.indexAt t (ce x) (ce i)) (by simp [execOp, ho]) (q_indexAddr_a hu hk (he _ _ ex) (int_elim (he _ _ ei)) h0 h1 (by simpa only [aadd_eq] using h))
    · exact h.elim
  · rename_i t x i ho
    split at h
    · rename_i n e a k j hu ex ei
      obtain ⟨hk, h⟩ := chk_elim h
      obtain ⟨h0, h1, h⟩ := req2_elim h
      exact q_value (s := Instr.index t (ce x) (ce i)) (by simp [execOp, ho]) (q_index_a hu (info_isSome hk) (he _ _ ex) (int_elim (he _ _ ei)) h0 h1 h)
    · rename_i s k j hu ex ei
      obtain ⟨h0, h1, h⟩ := req2_elim h
      exact q_value (s := Instr.index t (ce x) (ce i)) (by simp [execOp, ho]) (q_index_s hu (he _ _ ex) (int_elim (he _ _ ei)) h0 h1 h)
    · exact h.elim
  · rename_i t x k ok ho
    exact q_value (s := Instr.lookup t (ce x) (ce k) ok) (by simp [execOp, ho]) (q_lookup s (hv x) (hv k) h)
  · rename_i x u t ok ho
    exact q_value (s := Instr.typeAssert (ce x) u t ok) (by simp [execOp, ho]) (q_assert (hv x) h)
  · rename_i x i ho
    obtain ⟨v, ex, h⟩ := pSome_elim h
    have rx := he _ _ ex
    generalize hx : ce x = cx at rx
    cases rx with
    | tuple rs =>
      obtain ⟨u, h1, h⟩ := pSome_elim h
      obtain ⟨cv, h3, h4⟩ := rs.get h1
      obtain ⟨y, h5, h6⟩ := tV_elim h h4
      exact q_value (s := Instr.extract (ce x) i) (by simp [execOp, ho]) ⟨y, cv, by simp [Instr.extract, hx, h3], h5, h6⟩
    | _ => exact h.elim
  · rename_i t x ho
    split at h
    · rename_i p ex
      obtain ⟨a, rfl, h⟩ := pSome_elim h
      exact q_value (s := Instr.loadAt t (ce x)) (by simp [execOp, ho]) (q_load s (he _ _ ex) h)
    · exact h.elim
  · rename_i t parts ho
    have e : parts.map (fun p => (p.1, ce p.2)) = (parts.toList.map fun p => (p.1, ce p.2)).toArray := by apply Array.ext'; simp
    exact q_value (s := Instr.build t (parts.map fun p => (p.1, ce p.2))) (by simp [execOp, ho]) (by rw [e]; exact run_build he h)
  · rename_i x ho
    split at h
    · rename_i a ex
      obtain ⟨h0, h⟩ := chk_elim h
      exact q_value (s := Instr.entry (ce x)) (by simp [execOp, ho]) (q_entry s h0 (he _ _ ex) h)
    · exact h.elim
  · rename_i c ho
    split at h
    · rename_i b hc
      unfold aBuiltin at h
      have hcall : ∀ (sm : Sem Value), (∀ cs, builtin b c.argTypes o.type cs (c.args.map ce) = (do pure (.value (← sm)))) → QOk P w ρ sm K → ∃ v cv, (execOp ce o).run P w = .ok (.value cv) w ∧ VRel ρ v cv ∧ K v := by
        intro sm hs ⟨v, cv, h1, h2, h3⟩
        refine ⟨v, cv, ?_, h2, h3⟩
        simp [execOp, ho, resolve, hc, invoke, hs, h1]
      split at h
      · rename_i b t ts v vs ht hx
        have hxs := evs_elim he hx
        have h0 : c.argTypes[0]? = some t := by rw [← Array.getElem?_toList, ht]; rfl
        cases hl : c.args.toList with
        | nil => rw [hl] at hxs; cases hxs
        | cons a as =>
          rw [hl] at hxs
          cases hxs with
          | cons r1 rs =>
            have h1 : (c.args.map ce)[0]? = some (ce a) := by rw [← Array.getElem?_toList, Array.toList_map, hl]; rfl
            exact hcall (Builtin.len_ c.argTypes o.type (c.args.map ce)) (fun _ => rfl) (q_len s h0 h1 r1 h)
      · rename_i b ts v vs hx
        have hxs := evs_elim he hx
        cases hl : c.args.toList with
        | nil => rw [hl] at hxs; cases hxs
        | cons a as =>
          rw [hl] at hxs
          cases hxs with
          | cons r1 rs =>
            obtain ⟨z, cz, e1, e2, e3⟩ := q_fold (P := P) (w := w) imin Builtin.min2 (fun k x k' y => by simp [Builtin.min2, imin]) _ _ _ _ r1 rs h
            exact hcall (Builtin.min_ c.argTypes o.type (c.args.map ce)) (fun _ => rfl) ⟨z, cz, by simp only [Builtin.min_, Array.toList_map, hl, List.map_cons]; exact e1, e2, e3⟩
      · rename_i b ts v vs hx
        have hxs := evs_elim he hx
        cases hl : c.args.toList with
        | nil => rw [hl] at hxs; cases hxs
        | cons a as =>
          rw [hl] at hxs
          cases hxs with
          | cons r1 rs =>
            obtain ⟨z, cz, e1, e2, e3⟩ := q_fold (P := P) (w := w) imax Builtin.max2 (fun k x k' y => by simp [Builtin.max2, imax]) _ _ _ _ r1 rs h
            exact hcall (Builtin.max_ c.argTypes o.type (c.args.map ce)) (fun _ => rfl) ⟨z, cz, by simp only [Builtin.max_, Array.toList_map, hl, List.map_cons]; exact e1, e2, e3⟩
      · exact h.elim
    · exact h.elim
  · exact h.elim

end
end Go.AI
