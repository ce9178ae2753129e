/- Lemmas of the abstract condition ahead of code (a part of the library that the claim's proof stands on); they hold with no condition but those that each names. -/
import Derived.Test.YtlofpopejkohbaaGreatAIQ5
set_option linter.unusedSimpArgs false
set_option linter.unusedVariables false
namespace Go.AI
section
variable {P : Program} {w : World} {ρ : RM} {σ : AS} {K : Value → Prop}

theorem zero_ok {t : TypeId} {z : Value} (h : zeroOf P t = some z) : zOk z = true := by
  unfold zeroOf at h
  split at h
  · rename_i z' hz
    cases hk : zOk z' with
    | false => rw [hk] at h; cases h
    | true => rw [hk] at h; injection h with h; subst h; exact hk
  · cases h

theorem oneC_cells {v cv : Value} (r : VRel ρ v cv) (h : oneC v = true) : cv.cells = #[cv] := by
  cases r <;> first | rfl | cases h

theorem oneC_one {v cv : Value} (r : VRel ρ v cv) (h : oneC v = true) : cv.oneCell' = true := by
  cases r <;> first | rfl | cases h

theorem cellsAs_elim {t : TypeId} {v cv : Value} {K : List Value → Prop} (r : VRel ρ v cv) (h : cellsAs P t v K) :
    ∃ vs cvs, K vs ∧ VsRel ρ vs cvs ∧ cv.cells = ⟨cvs⟩ ∧ cvs.length = szOf P t ∧ ∀ v ∈ cvs, v.oneCell' = true := by
  unfold cellsAs at h
  cases hg : isAggT P t with
  | true =>
    rw [hg] at h
    cases r with
    | agg rs hone =>
      obtain ⟨h1, h2⟩ := chk_elim h
      have e := Nat.eq_of_beq_eq_true h1
      refine ⟨_, _, h2, rs, rfl, ?_, hone⟩
      rw [← rs.length]; exact e
    | _ => exact h.elim
  | false =>
    rw [hg] at h
    obtain ⟨h1, h⟩ := chk_elim h
    obtain ⟨h2, h⟩ := chk_elim h
    have e := Nat.eq_of_beq_eq_true h1
    exact ⟨[v], [cv], h, .cons r .nil, oneC_cells r h2, by simp [e], by simpa using oneC_one r h2⟩

theorem foldl_set (vs : List Value) : ∀ (cs : Array Value) (o k : Nat), ((vs.zipIdx k).foldl (fun cs (c, j) => cs.setIfInBounds (o + j) c) cs).toList = setCells cs.toList (o + k) vs := by
  induction vs with
  | nil => intro cs o k; rfl
  | cons v vs ih =>
    intro cs o k
    simp only [List.zipIdx_cons, List.foldl_cons, setCells]
    rw [ih, Array.toList_setIfInBounds, Nat.add_assoc]

theorem setCells_length : ∀ (vs cs : List Value) (o : Nat), (setCells cs o vs).length = cs.length
  | [], cs, o => rfl
  | v :: vs, cs, o => by simp [setCells, setCells_length vs]

theorem setCells_rel : ∀ {vs cvs : List Value}, VsRel ρ vs cvs → ∀ {cs ccs : List Value} (o : Nat), VsRel ρ cs ccs → VsRel ρ (setCells cs o vs) (setCells ccs o cvs)
  | _, _, .nil, _, _, _, h => h
  | _, _, .cons r rs, cs, ccs, o, h => by
    simp only [setCells]
    exact setCells_rel rs (o + 1) (h.set o r)

theorem setCells_one : ∀ (vs cs : List Value) (o : Nat), (∀ v ∈ vs, v.oneCell' = true) → (∀ v ∈ cs, v.oneCell' = true) → ∀ v ∈ setCells cs o vs, v.oneCell' = true
  | [], cs, o, _, h => h
  | u :: us, cs, o, h1, h => by
    simp only [setCells]
    refine setCells_one us _ _ (fun v hv => h1 v (by simp [hv])) fun v hv => ?_
    rcases List.mem_or_eq_of_mem_set hv with h' | h'
    · exact h v h'
    · subst h'; exact h1 v (by simp)

theorem fill_elim {place : Nat → Option (TypeId × Nat)} {ev : Operand → Option Value} {ce : Operand → Value} (he : ∀ x v, ev x = some v → VRel ρ v (ce x)) :
    ∀ {parts : List (Nat × Operand)} {cs ccs : List Value} {K : List Value → Prop}, VsRel ρ cs ccs → (∀ v ∈ ccs, v.oneCell' = true) → aFill P place ev parts cs K →
      ∃ vs cvs, K vs ∧ VsRel ρ vs cvs ∧ (∀ v ∈ cvs, v.oneCell' = true) ∧ Instr.fill (fun i => (place i).map fun p => (p.2, szOf P p.1)) ⟨ccs⟩ (parts.map fun p => (p.1, ce p.2)) = some ⟨cvs⟩
  | [], cs, ccs, K, r, hone, h => ⟨cs, ccs, h, r, hone, rfl⟩
  | (i, x) :: parts, cs, ccs, K, r, hone, h => by
    simp only [aFill] at h
    cases hp : place i with
    | none => simp [hp] at h
    | some p =>
      obtain ⟨t, off⟩ := p
      rw [hp] at h
      obtain ⟨v, h1, h⟩ := pSome_elim h
      obtain ⟨vs, cvs, h, h2, h3, h4, hone'⟩ := cellsAs_elim (he _ _ h1) h
      obtain ⟨h5, h⟩ := chk_elim h
      have h5 : off + vs.length ≤ cs.length := Nat.le_of_ble_eq_true h5
      obtain ⟨us, cus, h6, h7, h70, h8⟩ := fill_elim he (setCells_rel h2 off r) (setCells_one cvs ccs off hone' hone) h
      refine ⟨us, cus, h6, h7, h70, ?_⟩
      have hl := h2.length
      have hl2 := r.length
      have hsz : cvs.length = szOf P t := h4
      have hno : ¬ (ccs.length < off + cvs.length) := by omega
      simp only [List.map_cons, Instr.fill, hp, Option.map_some, h3]
      rw [if_neg (by simp [hsz]; omega)]
      have e' : Array.foldl (fun (cs : Array Value) (x : Value × Nat) => cs.setIfInBounds (off + x.2) x.1) ⟨ccs⟩ (Array.zipIdx ⟨cvs⟩) = ⟨setCells ccs off cvs⟩ := by
        apply Array.ext'
        have e := foldl_set cvs ⟨ccs⟩ off 0
        rw [← Array.foldl_toList, Array.toList_zipIdx]
        exact e
      rw [e']
      exact h8

theorem run_build {t : TypeId} {parts : List (Nat × Operand)} {ev : Operand → Option Value} {ce : Operand → Value} (he : ∀ x v, ev x = some v → VRel ρ v (ce x))
    (h : aBuild P t parts ev K) : QOk P w ρ (Instr.build t (parts.map fun p => (p.1, ce p.2)).toArray) K := by
  unfold aBuild at h
  split at h
  · exact h.elim
  · rename_i z hz
    have rz := zero_rel (ρ := ρ) hz
    have hrz := run_zero hz w
    have hcells : VsRel ρ (valCells z) z.cells.toList := by
      cases z <;> first | exact .cons rz .nil | (cases rz; assumption)
    have hone : ∀ v ∈ z.cells.toList, v.oneCell' = true := by
      cases z <;> first | (intro v hv; simp [Value.cells] at hv; subst hv; rfl) | (cases rz; assumption) | skip
      cases (zero_ok hz)
    split at h
    · rename_i fs hu
      obtain ⟨h1, h⟩ := chk_elim h
      obtain ⟨vs, cvs, h2, h3, h30, h4⟩ := fill_elim he hcells hone h
      have hm : (fs.mapM fun f => (do pure (f.offset, ← sizeOf f.type) : Sem (Nat × Nat))).run P w = .ok (fs.map fun f => (f.offset, szOf P f.type)) w := by
        have key : ∀ l : List Field, (∀ f ∈ l, (P.info? f.type).isSome = true) → (l.mapM fun f => (do pure (f.offset, ← sizeOf f.type) : Sem (Nat × Nat))).run P w = .ok (l.map fun f => (f.offset, szOf P f.type)) w := by
          intro l
          induction l with
          | nil => intro _; rfl
          | cons f l ih =>
            intro hl
            simp only [List.mapM_cons, Sem.run_bind, run_size (hl f (by simp)) w, Result.andThen_ok, Sem.run_pure, ih (fun g hg => hl g (by simp [hg])), List.map_cons]
        rw [Array.mapM_eq_mapM_toList]
        simp only [Sem.run_map, key fs.toList (fun f hf => List.all_eq_true.mp h1 f hf), Result.andThen_ok]
        congr 1
        apply Array.ext'
        simp
      refine ⟨_, .agg ⟨cvs⟩, ?_, .agg h3 h30, h2⟩
      have hplace : (fun (i : Nat) => Option.map (fun p : TypeId × Nat => (p.2, szOf P p.1)) ((fs[i]?).map fun (f : Field) => (f.type, f.offset))) = fun (i : Nat) => (fs.map fun (f : Field) => (f.offset, szOf P f.type))[i]? := by
        funext i
        simp
        cases fs[i]? <;> rfl
      rw [hplace] at h4
      simp only [Instr.build, Sem.run_bind, hrz, Result.andThen_ok, run_underlying hu, hm, Sem.run_pure]
      rw [show z.cells = ⟨z.cells.toList⟩ from rfl, h4]
      rfl
    · rename_i n e hu
      obtain ⟨h1, h⟩ := chk_elim h
      obtain ⟨vs, cvs, h2, h3, h30, h4⟩ := fill_elim he hcells hone h
      refine ⟨_, .agg ⟨cvs⟩, ?_, .agg h3 h30, h2⟩
      have hplace : (fun i => Option.map (fun p : TypeId × Nat => (p.2, szOf P p.1)) (some (e, i * szOf P e))) = fun i => some (i * szOf P e, szOf P e) := by
        funext i; rfl
      rw [hplace] at h4
      simp only [Instr.build, Sem.run_bind, hrz, Result.andThen_ok, run_underlying hu, run_size h1 w, Sem.run_pure]
      rw [show z.cells = ⟨z.cells.toList⟩ from rfl, h4]
      rfl
    · exact h.elim
theorem q_entry (s : Sim ρ w.heap σ) {a : Addr} {cx : Value} (h0 : Nat.beq a.off 0 = true) (r : VRel ρ (.pointer (some a)) cx) (h : mentry σ a.block fun k v => K (.tuple ⟨[k, v]⟩)) :
    QOk P w ρ (Instr.entry cx) K := by
  obtain ⟨hsp, l, hl, rfl⟩ := ptr_elim r
  have h0 := Nat.eq_of_beq_eq_true h0
  unfold mentry at h
  split at h
  · rename_i m since seen stepped hj
    split at h
    · rename_i st hst
      split at h
      · rename_i es clock hm
        replace h := req_elim h
        obtain ⟨rfl, h⟩ := h
        obtain ⟨e, he, h⟩ := pSome_elim h
        obtain ⟨l1, e1, g0, cm, g1, g2⟩ := s.obj _ _ hj
        rw [hl] at e1
        injection e1 with e1
        subst e1
        obtain ⟨l2, e2, ces, g3, g4⟩ := s.obj _ _ hm
        cases cm with
        | none => exact g2.elim
        | some b =>
          obtain ⟨l3, e3, rfl⟩ := g2
          rw [e2] at e3
          injection e3 with e3
          subst e3
          -- the entry of that stamp
          have find : ∀ {es ces : List MapEntry}, L2 (EntRel ρ) es ces → ∀ {e : MapEntry}, es.find? (fun e => e.born == st) = some e → ∃ ce, ces.find? (fun e => e.born == st) = some ce ∧ EntRel ρ e ce := by
            intro es ces hl
            induction hl with
            | nil => intro e he; cases he
            | cons r rs ih =>
              intro e he
              rw [List.find?_cons] at he ⊢
              rw [← r.born]
              cases hb : (_ == st : Bool) with
              | true =>
                rw [hb] at he
                injection he with he
                subst he
                exact ⟨_, rfl, r⟩
              | false =>
                rw [hb] at he
                exact ih he
          obtain ⟨ce, c1, c2⟩ := find g4 he
          refine ⟨_, .tuple ⟨[ce.key, ce.val]⟩, ?_, .tuple (.cons c2.key (.cons c2.val .nil)), h⟩
          have hoff : a.off + l.shift = 0 := by omega
          have hg : (getObj l.block).run P w = .ok (.mapIter (some l2.block) since seen.toArray clock) w := by simp [getObj, Sem.run, g1]
          have hg2 : (getObj l2.block).run P w = .ok (.map ces clock) w := by simp [getObj, Sem.run, g3]
          have hb : seen.toArray.back? = some st := by simpa [Array.back?, List.getLast?_eq_getElem?] using hst
          have hf : ces.find? (fun e => e.born == st) = some ce := by rw [← Array.find?_toList]; exact c1
          simp [Instr.entry, hoff, hg, hg2, hb, hf]
      · exact h.elim
    · exact h.elim
  · exact h.elim

end
end Go.AI
