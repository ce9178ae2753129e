/- Lemmas of the abstract condition ahead of code (a part of the library that the claim's proof stands on); they hold with no condition but those that each names. -/
import Derived.Test.YtlofpopejkohbaaGreatAIChain2
set_option linter.unusedSimpArgs false
set_option linter.unusedVariables false
namespace Go.AI
section
variable {P : Program} {w : World} {ρ : RM} {σ : AS}

theorem run_puts {b : Nat} {k : RK} {l : Loc} (hk : k.own = true) (hl : ρ b = some l) (o : Nat) : ∀ {vs cvs : List Value}, VsRel ρ vs cvs → (∀ v ∈ cvs, v.oneCell' = true) →
    ∀ (i : Nat) (w : World) (σ : AS) (cs : List Value), Sim ρ w.heap σ → σ b = some (.row k cs) → o + i + vs.length ≤ cs.length →
      ∃ w', (storeCells ⟨l.block, o + l.shift, none⟩ cvs i).run P w = .ok () w' ∧ Sim ρ w'.heap (σ.set b (.row k (setCells cs (o + i) vs))) ∧ Step ρ w σ ρ w' (σ.set b (.row k (setCells cs (o + i) vs)))
  | _, _, .nil, _, i, w, σ, cs, s, hb, _ => by
    refine ⟨w, rfl, ?_, ?_⟩
    · simp only [setCells, AS.set_self σ b _ hb]; exact s
    · simp only [setCells, AS.set_self σ b _ hb]; exact .refl _ _ _
  | _, _, .cons (v := v) (cv := cv) (vs := vs) (cvs := cvs) r rs, hone, i, w, σ, cs, s, hb, hle => by
    simp only [List.length_cons] at hle
    obtain ⟨⟨u, h1⟩, h2, h3, h4⟩ := s.store hb hl hk (o := o + i) (by omega) r (hone cv (by simp))
    obtain ⟨w', h5, h6, h7⟩ := run_puts hk hl o rs (fun v hv => hone v (by simp [hv])) (i + 1) _ _ (cs.set (o + i) v) h3 (AS.set_same _ _ _) (by simp; omega)
    refine ⟨w', ?_, ?_, ?_⟩
    · simp only [storeCells, Sem.run_bind, addr_add_none, show o + l.shift + i = o + i + l.shift by omega]
      rw [run_store P w _ cv .plain (hone cv (by simp)), h1]
      simp only [h2, Bool.false_eq_true, if_false, Result.andThen_ok]
      exact h5
    · rw [AS.set_set] at h6
      exact h6
    · rw [AS.set_set] at h7
      exact h4.trans h7

theorem puts_elim (s : Sim ρ w.heap σ) {a : Addr} {vs cvs : List Value} {cv : Value} {K : AS → Prop} (ra : VRel ρ (.pointer (some a)) cv) (rs : VsRel ρ vs cvs) (hone : ∀ v ∈ cvs, v.oneCell' = true)
    (h : puts σ a vs K) : ∃ l w' σ', ρ a.block = some l ∧ cv = .pointer (some ⟨l.block, a.off + l.shift, none⟩) ∧ (storeCells ⟨l.block, a.off + l.shift, none⟩ cvs).run P w = .ok () w' ∧ K σ' ∧ Sim ρ w'.heap σ' ∧ Step ρ w σ ρ w' σ' := by
  obtain ⟨hsp, l, hl, rfl⟩ := ptr_elim ra
  unfold puts rowAt at h
  split at h
  · rename_i k cs hb
    obtain ⟨h1, h⟩ := chk_elim h
    obtain ⟨h2, h3, h4⟩ := req2_elim h
    obtain ⟨w', g1, g2, g3⟩ := run_puts (P := P) h1 hl a.off rs hone 0 w σ cs s hb (by omega)
    exact ⟨l, w', _, hl, rfl, g1, h4, g2, g3⟩
  · exact h.elim

theorem c_store (s : Sim ρ w.heap σ) {t : TypeId} {a : Addr} {v ca cv : Value} {K : Option Value → AS → Prop} (ra : VRel ρ (.pointer (some a)) ca) (rv : VRel ρ v cv)
    (hsz : ∃ i, P.info? t = some i)
    (h : match isAggT P t with
      | true => cellsAs P t v fun cs => puts σ a cs fun σ => K none σ
      | false => chk (Nat.beq (szOf P t) 1) <| chk (oneC v) <| put1 σ a v fun σ => K none σ) :
    ∃ w1, (Instr.storeAt t ca cv).run P w = .ok () w1 ∧ COk P ρ w σ .skip w1 K := by
  have hs := run_size (P := P) (t := t) (by obtain ⟨i, hi⟩ := hsz; rw [hi]; rfl) w
  have main : ∀ (vs cvs : List Value) , VsRel ρ vs cvs → (∀ v ∈ cvs, v.oneCell' = true) → cv.cells = ⟨cvs⟩ → cvs.length = szOf P t → puts σ a vs (fun σ => K none σ) →
      ∃ w1, (Instr.storeAt t ca cv).run P w = .ok () w1 ∧ COk P ρ w σ .skip w1 K := by
    intro vs cvs h1 h2 h3 h4 h
    obtain ⟨l, w', σ', hl, rfl, g1, g2, g3, g4⟩ := puts_elim (P := P) s ra h1 h2 h
    refine ⟨w', ?_, none, ρ, σ', g2, by simp, g3, g4⟩
    simp only [Instr.storeAt, Instr.sureAddr, storeVar, Sem.run_bind, Sem.run_pure, Result.andThen_ok, hs, h3]
    rw [if_neg (by simp [h4])]
    exact g1
  cases hg : isAggT P t with
  | true =>
    rw [hg] at h
    obtain ⟨vs, cvs, h, h1, h2, h3, h4⟩ := cellsAs_elim rv h
    exact main _ _ h1 h4 h2 h3 h
  | false =>
    rw [hg] at h
    obtain ⟨h1, h⟩ := chk_elim h
    obtain ⟨h2, h⟩ := chk_elim h
    refine main [v] [cv] (.cons rv .nil) (by simpa using oneC_one rv h2) (oneC_cells rv h2) (by simp [Nat.eq_of_beq_eq_true h1]) ?_
    unfold put1 rowAt at h
    unfold puts rowAt
    split at h
    · rename_i k cs hb
      obtain ⟨g1, h⟩ := chk_elim h
      obtain ⟨g2, g3, g4⟩ := req2_elim h
      exact chk_mk g1 (req_mk g2 (req_mk (by simp; omega) g4))
    · exact h.elim

theorem cell_heap {w w' : World} (h : w'.heap = w.heap) (a : Addr) : w'.cell? a = w.cell? a := by simp [World.cell?, h]

/-- Cells that are loaded, all or some of them, at any world of this heap. -/
theorem run_ldsm (s : Sim ρ w.heap σ) {a : Addr} {n : Nat} {vs : List Value} (h : σ.cells a n = some vs) {l : Loc} (hl : ρ a.block = some l) :
    ∃ cvs, VsRel ρ vs cvs ∧ (∀ v ∈ cvs, v.oneCell' = true) ∧ vs.length = n ∧
      ∀ m, m ≤ n → ∀ w', w'.heap = w.heap → (loadCells ⟨l.block, a.off + l.shift, none⟩ m).run P w' = .ok ⟨cvs.take m⟩ w' := by
  rcases AS.cells_elim h with ⟨rfl, rfl⟩ | ⟨_, k, cs, h1, h2, rfl⟩
  · refine ⟨[], .nil, by simp, rfl, fun m hm w' hw => ?_⟩
    have : m = 0 := by omega
    subst this
    simp [loadCells, loadCellsFrom]
  have key : ∀ j, j < n → ∃ cv, w.cell? ⟨l.block, a.off + j + l.shift, none⟩ = some cv ∧ ∃ v, cs[a.off + j]? = some v ∧ VRel ρ v cv ∧ cv.oneCell' = true := by
    intro j hj
    have hlt : a.off + j < cs.length := by omega
    obtain ⟨cv, h3, h4⟩ := s.load h1 hl (List.getElem?_eq_getElem hlt)
    exact ⟨cv, h3, _, List.getElem?_eq_getElem hlt, h4⟩
  let f : Nat → Value := fun j => (w.cell? ⟨l.block, a.off + j + l.shift, none⟩).getD undef
  have hlen : ((cs.drop a.off).take n).length = n := by simp; omega
  refine ⟨(List.range n).map f, ?_, ?_, hlen, ?_⟩
  · refine list_of_get (by rw [hlen]; simp) fun j v hv => ?_
    have hj : j < n := by
      rcases Nat.lt_or_ge j n with h' | h'
      · exact h'
      · rw [List.getElem?_eq_none (by omega)] at hv; cases hv
    obtain ⟨cv, h3, u, h4, h5, _⟩ := key j hj
    refine ⟨cv, ?_, ?_⟩
    · simp [hj]
      show (w.cell? ⟨l.block, a.off + j + l.shift, none⟩).getD undef = cv
      rw [h3]; rfl
    · rw [List.getElem?_take_of_lt hj, List.getElem?_drop, h4] at hv
      injection hv with hv
      subst hv
      exact h5
  · intro v hv
    obtain ⟨j, hj, rfl⟩ := List.mem_map.mp hv
    obtain ⟨cv, h3, u, h4, h5, h6⟩ := key j (List.mem_range.mp hj)
    show ((w.cell? ⟨l.block, a.off + j + l.shift, none⟩).getD undef).oneCell' = true
    rw [h3]; exact h6
  · intro m hm w' hw
    have hf : ∀ j, j < m → w'.cell? ((⟨l.block, a.off + l.shift, none⟩ : Addr).add j) = some (f j) := by
      intro j hj
      obtain ⟨cv, h3, _⟩ := key j (by omega)
      rw [cell_heap hw, addr_add_none, show a.off + l.shift + j = a.off + j + l.shift by omega]
      show _ = some ((w.cell? ⟨l.block, a.off + j + l.shift, none⟩).getD undef)
      rw [h3]; rfl
    rw [run_loadCells w' _ m f hf, ← List.map_take]
    congr 2
    simp [List.take_range, Nat.min_eq_left hm]

/-- No row lies where an empty slice of unknown address has its id. -/
theorem no_row (s : Sim ρ w.heap σ) {i : Nat} {k : RK} {cs : List Value} {l : Loc} (hi : σ i = some (.row k cs)) (hl : ρ i = some l) (he : l.size < l.shift) : False := by
  obtain ⟨l', e1, c, el, fz, q1, q2, q3, _⟩ := s.obj _ _ hi
  rw [hl] at e1
  injection e1 with e1
  subst e1
  omega

/-- The cells that are told, as the machine loads them. -/
theorem src_elim (s : Sim ρ w.heap σ) {size : Nat} {x cx : Value} {K : Nat → List Value → Prop} (rx : VRel ρ x cx) (h : srcCells σ size (some x) K) :
    ∃ n vs cvs, K n vs ∧ VsRel ρ vs cvs ∧ (∀ v ∈ cvs, v.oneCell' = true) ∧ Builtin.lenOf cx = pure n ∧ vs.length = n * size ∧
      ∀ m, m ≤ n → (∀ w', w'.heap = w.heap → (Builtin.firstCells size m cx).run P w' = .ok ⟨cvs.take (m * size)⟩ w') := by
  unfold srcCells at h
  split at h
  · rename_i a n c e
    injection e with e
    subst e
    cases rx with
    | nilslice =>
      refine ⟨0, [], [], h, .nil, by simp, rfl, by simp, fun m hm w' _ => ?_⟩
      simp [Builtin.firstCells]
    | emp hr he =>
      replace h := (req_elim h).2
      rw [Nat.zero_mul] at h
      refine ⟨0, [], [], h, .nil, by simp, rfl, by simp, fun m hm w' _ => ?_⟩
      have : m = 0 := by omega
      subst this
      simp [Builtin.firstCells, loadCells, loadCellsFrom]
    | slice hr hn ho hs hw =>
      rename_i i o cap o' l
      replace h := req_elim h
      obtain ⟨rfl, h⟩ := h
      obtain ⟨vs, h1, h2⟩ := pSome_elim h
      obtain ⟨cvs, h3, h4, h5, h6⟩ := run_ldsm (P := P) s h1 hr
      refine ⟨n, vs, cvs, h2, h3, h4, rfl, h5, fun m hm w' hw => ?_⟩
      by_cases h0 : n = 0
      · subst h0
        have : m = 0 := by omega
        subst this
        simp [Builtin.firstCells, loadCells, loadCellsFrom]
      · have := ho.resolve_left (by omega)
        subst this
        exact h6 _ (Nat.mul_le_mul_right _ hm) w' hw
  · rename_i b e
    injection e with e
    subst e
    cases rx
    obtain ⟨h1, h⟩ := chk_elim h
    have h1 := Nat.eq_of_beq_eq_true h1
    subst h1
    refine ⟨_, _, b.data.toList.map fun b => .int .u8 b.toNat, h, ?_, ?_, rfl, by simp, fun m hm w' hw => ?_⟩
    · refine list_of_get rfl fun j v hv => ⟨v, hv, ?_⟩
      rw [List.getElem?_map] at hv
      cases hb : b.data.toList[j]? with
      | none => rw [hb] at hv; cases hv
      | some x => rw [hb] at hv; injection hv with hv; subst hv; exact .int _ _
    · intro v hv
      obtain ⟨x, _, rfl⟩ := List.mem_map.mp hv
      rfl
    · simp only [Builtin.firstCells, Sem.run_pure, Nat.mul_one]
      congr 1
      apply Array.ext'
      simp [← List.map_take, ByteArray.data_extract]
  · exact h.elim

end
end Go.AI
