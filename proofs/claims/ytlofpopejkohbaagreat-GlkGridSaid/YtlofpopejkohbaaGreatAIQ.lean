/- Lemmas of the abstract condition ahead of code (a part of the library that the claim's proof stands on); they hold with no condition but those that each names. -/
import Derived.Test.YtlofpopejkohbaaGreatAIOps
import Derived.Laws.Sem
import Derived.Laws.Cells
import Derived.Laws.Entries
set_option linter.unusedSimpArgs false
set_option linter.unusedVariables false
/- What the abstract answer of a looking operation says is what the machine does. -/
namespace Go.AI

/-- The run answers, and leaves the world as it was. -/
def QOk (P : Program) (w : World) (ρ : RM) (s : Sem Value) (K : Value → Prop) : Prop :=
  ∃ v cv, s.run P w = .ok cv w ∧ VRel ρ v cv ∧ K v

section
variable {P : Program} {w : World} {ρ : RM} {σ : AS} {K : Value → Prop}

theorem pSome_elim {α : Type} {o : Option α} {K : α → Prop} (h : pSome o K) : ∃ a, o = some a ∧ K a := by
  cases o with
  | none => exact h.elim
  | some a => exact ⟨a, rfl, h⟩

theorem chk_elim {b : Bool} {K : Prop} (h : chk b K) : b = true ∧ K := by
  cases b with
  | true => exact ⟨rfl, h⟩
  | false => exact h.elim

theorem tV1_elim {k : Kd} {v cv : Value} {K : Value → Prop} (h : tV1 k v K) (r : VRel ρ v cv) : ∃ u, VRel ρ u cv ∧ K u := by
  cases k with
  | int k => cases v <;> simp only [tV1, tI] at h <;> first | exact h.elim | (obtain ⟨h1, h⟩ := chk_elim h; have h1 := ikEq_eq h1; subst h1; exact ⟨_, r, h⟩)
  | bool => cases v <;> simp only [tV1, tB] at h <;> first | exact h.elim | exact ⟨_, r, h⟩
  | str => cases v <;> simp only [tV1, tS] at h <;> first | exact h.elim | exact ⟨_, r, h⟩
  | ptr => cases v <;> simp only [tV1, tP] at h <;> first | exact h.elim | exact ⟨_, r, h⟩
  | ifc => cases v <;> simp only [tV1, tIf] at h <;> first | exact h.elim | exact ⟨_, r, h⟩
  | map => cases v <;> simp only [tV1, tM] at h <;> first | exact h.elim | exact ⟨_, r, h⟩
  | any => exact ⟨_, r, h⟩
  | sl e =>
    cases v <;> simp only [tV1, tL] at h <;> first | exact h.elim | skip
    rename_i a n c
    obtain ⟨h1, h⟩ := chk_elim h
    rcases nilOr_elim h1 with rfl | rfl
    · refine ⟨_, ?_, h⟩
      cases r with
      | nilslice e' => exact .nilslice e
    · exact ⟨_, r, h⟩

theorem tC_elim {ks : List Kd} : ∀ {l cl : List Value} {K : List Value → Prop}, tC ks l K → VsRel ρ l cl → ∃ vs, VsRel ρ vs cl ∧ K vs := by
  induction ks with
  | nil =>
    intro l cl K h r
    cases l with
    | nil => exact ⟨[], r, h⟩
    | cons => exact h.elim
  | cons k ks ih =>
    intro l cl K h r
    cases r with
    | nil => exact h.elim
    | cons r1 rs =>
      obtain ⟨u, h1, h2⟩ := tV1_elim h r1
      obtain ⟨vs, h3, h4⟩ := ih h2 rs
      exact ⟨u :: vs, .cons h1 h3, h4⟩

theorem tV_elim {k : KT} {v cv : Value} {K : Value → Prop} (h : tV k v K) (r : VRel ρ v cv) : ∃ u, VRel ρ u cv ∧ K u := by
  cases k with
  | one k => exact tV1_elim h r
  | agg ks =>
    cases r with
    | agg rs hone =>
      obtain ⟨vs, h1, h2⟩ := tC_elim h rs
      exact ⟨_, .agg h1 hone, h2⟩
    | _ => exact h.elim

theorem AS.cell_elim {a : Addr} {v : Value} (h : σ.cell a = some v) : a.spot = none ∧ ∃ k cs, σ a.block = some (.row k cs) ∧ cs[a.off]? = some v := by
  unfold AS.cell at h
  cases hs : a.spot with
  | some s => rw [hs] at h; cases h
  | none =>
    rw [hs] at h
    cases ho : σ a.block with
    | none => rw [ho] at h; cases h
    | some o =>
      rw [ho] at h
      cases o with
      | row k cs => exact ⟨rfl, k, cs, rfl, h⟩
      | _ => cases h

theorem AS.cells_elim {a : Addr} {n : Nat} {l : List Value} (h : σ.cells a n = some l) :
    (n = 0 ∧ l = []) ∨ (a.spot = none ∧ ∃ k cs, σ a.block = some (.row k cs) ∧ a.off + n ≤ cs.length ∧ l = (cs.drop a.off).take n) := by
  unfold AS.cells at h
  cases n with
  | zero =>
    injection h with h
    exact .inl ⟨rfl, h.symm⟩
  | succ n =>
    right
    simp only at h
    cases hs : a.spot with
    | some s => rw [hs] at h; cases h
    | none =>
      rw [hs] at h
      cases ho : σ a.block with
      | none => rw [ho] at h; cases h
      | some o =>
        rw [ho] at h
        cases o with
        | row k cs =>
          simp only at h
          split at h
          · rename_i hle
            injection h with h
            exact ⟨rfl, k, cs, rfl, hle, h.symm⟩
          · cases h
        | _ => cases h

theorem ptr_elim {a : Addr} {cv : Value} (r : VRel ρ (.pointer (some a)) cv) :
    a.spot = none ∧ ∃ l, ρ a.block = some l ∧ cv = .pointer (some ⟨l.block, a.off + l.shift, none⟩) := by
  cases r with
  | ptr h => exact ⟨rfl, _, h, rfl⟩

theorem run_ldc (s : Sim ρ w.heap σ) {a : Addr} {v : Value} (h : σ.cell a = some v) {l : Loc} (hl : ρ a.block = some l) :
    ∃ cv, (load ⟨l.block, a.off + l.shift, none⟩).run P w = .ok cv w ∧ VRel ρ v cv ∧ cv.oneCell' = true := by
  obtain ⟨_, k, cs, h1, h2⟩ := AS.cell_elim h
  obtain ⟨cv, h3, h4⟩ := s.load h1 hl h2
  exact ⟨cv, by simp [h3], h4⟩

theorem addr_add_block (a : Addr) (n : Nat) : (a.add n).block = a.block := by unfold Addr.add; split <;> rfl
theorem addr_add_off (a : Addr) (n : Nat) : (a.add n).off = a.off + n := by
  unfold Addr.add; split
  · rename_i h; simp [h]
  · rfl
theorem addr_add_none (b o n : Nat) : (Addr.mk b o none).add n = ⟨b, o + n, none⟩ := by
  unfold Addr.add; split
  · rename_i h; simp [h]
  · rfl
theorem addr_add_spot {a : Addr} (h : a.spot = none) (n : Nat) : (a.add n).spot = none := by
  unfold Addr.add; split
  · exact h
  · rfl

theorem list_of_get {l : List Value} {cl : List Value} (hl : l.length = cl.length) (h : ∀ (j : Nat) v, l[j]? = some v → ∃ cv, cl[j]? = some cv ∧ VRel ρ v cv) : VsRel ρ l cl :=
  .of_get hl fun j v cv h1 h2 => by
    obtain ⟨cv', h3, h4⟩ := h j v h1
    rw [h2] at h3
    injection h3 with h3
    subst h3
    exact h4

theorem run_lds (s : Sim ρ w.heap σ) {a : Addr} {n : Nat} {vs : List Value} (h : σ.cells a n = some vs) {l : Loc} (hl : ρ a.block = some l) :
    ∃ cvs, (loadCells ⟨l.block, a.off + l.shift, none⟩ n).run P w = .ok ⟨cvs⟩ w ∧ VsRel ρ vs cvs ∧ ∀ v ∈ cvs, v.oneCell' = true := by
  rcases AS.cells_elim h with ⟨rfl, rfl⟩ | ⟨_, k, cs, h1, h2, rfl⟩
  · exact ⟨[], by simp [loadCells, loadCellsFrom], .nil, by simp⟩
  have key : ∀ j, j < n → ∃ cv, w.cell? ⟨l.block, a.off + j + l.shift, none⟩ = some cv ∧ ∃ v, cs[a.off + j]? = some v ∧ VRel ρ v cv ∧ cv.oneCell' = true := by
    intro j hj
    have hlt : a.off + j < cs.length := by omega
    obtain ⟨cv, h3, h4⟩ := s.load h1 hl (List.getElem?_eq_getElem hlt)
    exact ⟨cv, h3, _, List.getElem?_eq_getElem hlt, h4⟩
  let f : Nat → Value := fun j => (w.cell? ⟨l.block, a.off + j + l.shift, none⟩).getD undef
  have hf : ∀ j, j < n → w.cell? ((⟨l.block, a.off + l.shift, none⟩ : Addr).add j) = some (f j) := by
    intro j hj
    obtain ⟨cv, h3, _⟩ := key j hj
    rw [addr_add_none, show a.off + l.shift + j = a.off + j + l.shift by omega]
    show _ = some ((w.cell? ⟨l.block, a.off + j + l.shift, none⟩).getD undef)
    rw [h3]; rfl
  refine ⟨(List.range n).map f, run_loadCells w _ n f hf, ?_, ?_⟩
  rotate_left
  · intro v hv
    obtain ⟨j, hj, rfl⟩ := List.mem_map.mp hv
    obtain ⟨cv, h3, u, h4, h5, h6⟩ := key j (List.mem_range.mp hj)
    show ((w.cell? ⟨l.block, a.off + j + l.shift, none⟩).getD undef).oneCell' = true
    rw [h3]; exact h6
  refine list_of_get (by simp; omega) fun j v hv => ?_
  have hj : j < n := by
    rcases Nat.lt_or_ge j n with h' | h'
    · exact h'
    · rw [List.getElem?_eq_none (by simp; omega)] at hv; cases hv
  obtain ⟨cv, h3, u, h4, h5, _⟩ := key j hj
  refine ⟨cv, ?_, ?_⟩
  · simp [hj]
    show (w.cell? ⟨l.block, a.off + j + l.shift, none⟩).getD undef = cv
    rw [h3]; rfl
  · rw [List.getElem?_take_of_lt hj, List.getElem?_drop, h4] at hv
    injection hv with hv
    subst hv
    exact h5

theorem info_of_under {t : TypeId} {d : TypeDesc} (h : P.underlying t = some d) : ∃ i, P.info? t = some i := by
  unfold Program.underlying at h
  cases hi : P.info? t with
  | none => rw [hi] at h; cases h
  | some i => exact ⟨i, rfl⟩

theorem run_sizeOf {t : TypeId} {d : TypeDesc} (h : P.underlying t = some d) (w : World) : (sizeOf t).run P w = .ok (szOf P t) w := by
  obtain ⟨i, hi⟩ := info_of_under h
  simp [sizeOf, typeInfo, hi, szOf]

theorem run_isAgg {t : TypeId} {d : TypeDesc} (h : P.underlying t = some d) (w : World) : (isAgg t).run P w = .ok (isAggT P t) w := by
  simp only [isAgg, Sem.run_bind, run_underlying h, Result.andThen_ok, isAggT, h]
  cases d <;> rfl

theorem q_load (s : Sim ρ w.heap σ) {t : TypeId} {a : Addr} {cv : Value} (r : VRel ρ (.pointer (some a)) cv) (h : aLoad P t a σ K) : QOk P w ρ (Instr.loadAt t cv) K := by
  obtain ⟨hsp, l, hl, rfl⟩ := ptr_elim r
  unfold aLoad at h
  cases hu : P.underlying t with
  | none => rw [hu] at h; exact h.elim
  | some d =>
    rw [hu] at h
    simp only at h
    have hagg := run_isAgg hu w
    cases hg : isAggT P t with
    | false =>
      rw [hg] at h hagg
      obtain ⟨v, h1, h2⟩ := pSome_elim h
      obtain ⟨cu, h3, h4, _⟩ := run_ldc (P := P) s h1 hl
      obtain ⟨u, h5, h6⟩ := tV_elim h2 h4
      exact ⟨u, cu, by simp only [Instr.loadAt, Instr.sureAddr, loadVar, Sem.run_bind, Sem.run_pure, Result.andThen_ok, hagg]; exact h3, h5, h6⟩
    | true =>
      rw [hg] at h hagg
      obtain ⟨vs, h1, h2⟩ := pSome_elim h
      obtain ⟨cvs, h3, h4, h7⟩ := run_lds (P := P) s h1 hl
      obtain ⟨us, h5, h6⟩ := tC_elim h2 h4
      exact ⟨_, _, by simp only [Instr.loadAt, Instr.sureAddr, loadVar, Sem.run_bind, Sem.run_pure, Result.andThen_ok, hagg, if_true, run_sizeOf hu, h3], .agg h5 h7, h6⟩

end
end Go.AI
