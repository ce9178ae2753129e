/- Lemmas of the abstract condition ahead of code (a part of the library that the claim's proof stands on); they hold with no condition but those that each names. -/
import Derived.Test.YtlofpopejkohbaaGreatAIChain
import Derived.IntWalk
set_option linter.unusedSimpArgs false
set_option linter.unusedVariables false
namespace Go.AI

def COk (P : Program) (ρ : RM) (w : World) (σ : AS) (nx : Next) (w1 : World) (K : Option Value → AS → Prop) : Prop :=
  After P nx w1 fun cv w' => ∃ v ρ' σ', K v σ' ∧ (∀ u, v = some u → VRel ρ' u cv) ∧ Sim ρ' w'.heap σ' ∧ Step ρ w σ ρ' w' σ'

section
variable {P : Program} {w : World} {ρ : RM} {σ : AS}

/-- A new object in a new block. -/
theorem sim_newObj (s : Sim ρ w.heap σ) {o : AObj} {ob : Obj} {n : Nat} {K : Nat → AS → Prop} {w' : World}
    (hn : ∀ j, ρ j = none → ORel (ρ.set j ⟨w.heap.size, 0, n, n⟩) (w.heap.push ob) ⟨w.heap.size, 0, n, n⟩ o)
    (hh : w'.heap = w.heap.push ob) (hos : w'.os = w.os) (hp : w'.output = w.output) (h : newAt σ o K) :
    ∃ i ρ', K i (σ.set i o) ∧ ρ' i = some ⟨w.heap.size, 0, n, n⟩ ∧ Sim ρ' w'.heap (σ.set i o) ∧ Step ρ w σ ρ' w' (σ.set i o) := by
  refine ⟨σ.n, ρ.set σ.n ⟨w.heap.size, 0, n, n⟩, h, RM.set_same _ _ _, ?_, Step.alloc s.fresh hh hos hp⟩
  rw [hh]
  exact s.alloc s.fresh (hn σ.n s.fresh)

theorem fzOk_new (k : RK) (n : Nat) : FzOk k (0, 0) n := by
  cases k
  · exact trivial
  · exact .inl rfl
  · exact rfl

/-- A new row, perhaps with something behind it. -/
theorem sim_new (s : Sim ρ w.heap σ) {k : RK} {cells : List Value} {c : Array Value} {e : TypeId} {K : Nat → AS → Prop} {w' : World}
    (hr : ∀ (j : Nat) v, cells[j]? = some v → ∃ cv, c[j]? = some cv ∧ VRel ρ v cv ∧ cv.oneCell' = true) (hle : cells.length ≤ c.size)
    (hh : w'.heap = w.heap.push (.cells c e)) (hos : w'.os = w.os) (hp : w'.output = w.output) (h : newAt σ (.row k cells) K) :
    ∃ i ρ', K i (σ.set i (.row k cells)) ∧ ρ' i = some ⟨w.heap.size, 0, c.size, c.size⟩ ∧ Sim ρ' w'.heap (σ.set i (.row k cells)) ∧ Step ρ w σ ρ' w' (σ.set i (.row k cells)) := by
  refine sim_newObj s (fun j hj => ⟨c, e, (0, 0), by simp, rfl, by simpa using hle, ?_, fzOk_new k _, fun _ => by simpa using hle⟩) hh hos hp h
  intro m v hv
  obtain ⟨cv, h1, h2, h3⟩ := hr m v hv
  exact ⟨cv, by simpa using h1, h2.mono (RM.le_set _ hj), h3⟩

theorem vs_get {a b : List Value} (h : VsRel ρ a b) (h1 : ∀ v ∈ b, v.oneCell' = true) : ∀ (j : Nat) v, a[j]? = some v → ∃ cv, (⟨b⟩ : Array Value)[j]? = some cv ∧ VRel ρ v cv ∧ cv.oneCell' = true := by
  intro j v hv
  obtain ⟨cv, h2, h3⟩ := h.get hv
  exact ⟨cv, by simpa using h2, h3, h1 cv (List.mem_of_getElem? h2)⟩

theorem valCells_rel {v cv : Value} (r : VRel ρ v cv) (h : zOk v = true) : ∃ l, cv.cells = ⟨l⟩ ∧ VsRel ρ (valCells v) l ∧ ∀ v ∈ l, v.oneCell' = true := by
  cases r with
  | agg rs hone => exact ⟨_, rfl, rs, hone⟩
  | tuple rs => simp [zOk, constOk] at h
  | ptr a => exact ⟨_, rfl, .cons (.ptr a) .nil, by intro v hv; simp at hv; subst hv; rfl⟩
  | slice a b c d e => exact ⟨_, rfl, .cons (.slice a b c d e) .nil, by intro v hv; simp at hv; subst hv; rfl⟩
  | emp a b => exact ⟨_, rfl, .cons (.emp a b) .nil, by intro v hv; simp at hv; subst hv; rfl⟩
  | map a => exact ⟨_, rfl, .cons (.map a) .nil, by intro v hv; simp at hv; subst hv; rfl⟩
  | func f a b => exact ⟨_, rfl, .cons (.func f a b) .nil, by intro v hv; simp at hv; subst hv; rfl⟩
  | iface t a => exact ⟨_, rfl, .cons (.iface t a) .nil, by intro v hv; simp at hv; subst hv; rfl⟩
  | bool b => exact ⟨_, rfl, .cons (.bool b) .nil, by intro v hv; simp at hv; subst hv; rfl⟩
  | int k n => exact ⟨_, rfl, .cons (.int k n) .nil, by intro v hv; simp at hv; subst hv; rfl⟩
  | str b => exact ⟨_, rfl, .cons (.str b) .nil, by intro v hv; simp at hv; subst hv; rfl⟩
  | nilptr => exact ⟨_, rfl, .cons .nilptr .nil, by intro v hv; simp at hv; subst hv; rfl⟩
  | nilslice e => exact ⟨_, rfl, .cons (.nilslice e) .nil, by intro v hv; simp at hv; subst hv; rfl⟩
  | nilmap => exact ⟨_, rfl, .cons .nilmap .nil, by intro v hv; simp at hv; subst hv; rfl⟩
  | nilfunc => exact ⟨_, rfl, .cons .nilfunc .nil, by intro v hv; simp at hv; subst hv; rfl⟩
  | nilif => exact ⟨_, rfl, .cons .nilif .nil, by intro v hv; simp at hv; subst hv; rfl⟩

theorem c_alloc (s : Sim ρ w.heap σ) {e : TypeId} {z : Value} {K : Option Value → AS → Prop} (hz : zeroOf P e = some z)
    (h : newAt σ (.row .plain (valCells z)) fun i σ => K (some (.pointer (some ⟨i, 0, none⟩))) σ) :
    ∃ cv w1, (Instr.alloc e true (.tuple #[])).run P w = .ok cv w1 ∧ COk P ρ w σ (.value cv) w1 K := by
  obtain ⟨l, h1, h2, hone⟩ := valCells_rel (zero_rel (ρ := ρ) hz) (zero_ok hz)
  refine ⟨_, { w with heap := w.heap.push (.cells z.cells e) }, by simp [Instr.alloc, run_zero hz, newVar, newRow]; rfl, ?_⟩
  obtain ⟨i, ρ', k1, k2, k3, k4⟩ := sim_new (w' := { w with heap := w.heap.push (.cells z.cells e) }) s (by rw [h1]; exact vs_get h2 hone) (by rw [h1]; simp [h2.length]) rfl rfl rfl h
  refine ⟨_, ρ', _, k1, ?_, k3, k4⟩
  rintro u ⟨⟩
  exact .ptr (l := ⟨w.heap.size, 0, z.cells.size, z.cells.size⟩) k2

theorem c_box (s : Sim ρ w.heap σ) {e : TypeId} {v cx : Value} {K : Option Value → AS → Prop} (r : VRel ρ v cx)
    (h : cellsAs P e v fun cs => newAt σ (.row .plain cs) fun i σ => K (some (.pointer (some ⟨i, 0, none⟩))) σ) :
    ∃ cv w1, (Instr.box e cx).run P w = .ok cv w1 ∧ COk P ρ w σ (.value cv) w1 K := by
  obtain ⟨vs, cvs, h, h1, h2, h3, hone⟩ := cellsAs_elim r h
  refine ⟨_, { w with heap := w.heap.push (.cells cx.cells e) }, by simp [Instr.box, newVar, newRow]; rfl, ?_⟩
  obtain ⟨i, ρ', k1, k2, k3, k4⟩ := sim_new (w' := { w with heap := w.heap.push (.cells cx.cells e) }) s (by rw [h2]; exact vs_get h1 hone) (by rw [h2]; simp [h1.length]) rfl rfl rfl h
  refine ⟨_, ρ', _, k1, ?_, k3, k4⟩
  rintro u ⟨⟩
  exact .ptr (l := ⟨w.heap.size, 0, cx.cells.size, cx.cells.size⟩) k2

theorem rep_rel {l cl : List Value} (h : VsRel ρ l cl) : ∀ n, VsRel ρ (List.replicate n l).flatten (List.replicate n cl).flatten
  | 0 => .nil
  | n + 1 => by simp only [List.replicate_succ, List.flatten_cons]; exact h.append (rep_rel h n)

theorem rep_one {l : List Value} (h : ∀ v ∈ l, v.oneCell' = true) (n : Nat) : ∀ v ∈ (List.replicate n l).flatten, v.oneCell' = true := by
  intro v hv
  obtain ⟨m, hm, hv⟩ := List.mem_flatten.mp hv
  have hm := (List.mem_replicate.mp hm).2
  rw [hm] at hv
  exact h v hv

theorem zeroCells_eq (z : Array Value) (hz : 0 < z.size) (n : Nat) : ((Array.range (n * z.size)).map fun i => z[i % z.size]!) = ⟨(List.replicate n z.toList).flatten⟩ := by
  apply Array.ext'
  rw [Array.toList_map, Array.toList_range]
  induction n with
  | zero => simp
  | succ n ih =>
    rw [List.replicate_succ', List.flatten_append, Nat.succ_mul, List.range_add, List.map_append, ih]
    congr 1
    simp only [List.map_map, List.flatten_cons, List.flatten_nil, List.append_nil]
    apply List.ext_getElem
    · simp
    · intro j h1 h2
      simp at h1
      simp [Nat.add_mod, Nat.mod_eq_of_lt h1, h1]

theorem c_buildSlice (s : Sim ρ w.heap σ) {t e : TypeId} {n : Nat} {z : Value} {parts : List (Nat × Operand)} {ev : Operand → Option Value} {ce : Operand → Value} {K : Option Value → AS → Prop}
    (he : ∀ x v, ev x = some v → VRel ρ v (ce x)) (hu : P.underlying t = some (.slice e)) (hz : zeroOf P e = some z) (hl : Nat.beq (valCells z).length (szOf P e) = true) (hb : Nat.ble (n * szOf P e) 16777216 = true)
    (h : aFill P (fun i => some (e, i * szOf P e)) ev parts (List.replicate n (valCells z)).flatten fun cs =>
          newAt σ (.row .rw cs) fun i σ => K (some (.slice (some ⟨i, 0, none⟩) n (szOf P e))) σ) :
    ∃ cv w1, (Instr.buildSlice t n (parts.map fun p => (p.1, ce p.2)).toArray).run P w = .ok cv w1 ∧ COk P ρ w σ (.value cv) w1 K := by
  obtain ⟨l, h1, h2, hone⟩ := valCells_rel (zero_rel (ρ := ρ) hz) (zero_ok hz)
  obtain ⟨vs, cvs, h, h3, h30, h4⟩ := fill_elim he (rep_rel h2 n) (rep_one hone n) h
  have hl := Nat.eq_of_beq_eq_true hl
  have hlen := h2.length
  have hb : n * szOf P e ≤ 16777216 := Nat.le_of_ble_eq_true hb
  have hk : (P.info? e).isSome = true := by
    unfold zeroOf at hz
    cases hi : P.info? e with
    | none => rw [hi] at hz; cases hz
    | some i => rfl
  have hplace : (fun i => Option.map (fun p : TypeId × Nat => (p.2, szOf P p.1)) (some (e, i * szOf P e))) = fun i => some (i * szOf P e, szOf P e) := by
    funext i; rfl
  rw [hplace] at h4
  have hcsize : ∀ {parts : List (Nat × Value)} {cs out : Array Value}, Instr.fill (fun i => some (i * szOf P e, szOf P e)) cs parts = some out → out.size = cs.size := by
    intro parts
    induction parts with
    | nil => intro cs out h; simp [Instr.fill] at h; rw [h]
    | cons p ps ih =>
      intro cs out h
      obtain ⟨i, v⟩ := p
      simp only [Instr.fill] at h
      split at h
      · cases h
      · rw [ih h]
        have : ∀ (l : List (Value × Nat)) (cs : Array Value), (l.foldl (fun cs (x : Value × Nat) => cs.setIfInBounds (i * szOf P e + x.2) x.1) cs).size = cs.size := by
          intro l
          induction l with
          | nil => intro cs; rfl
          | cons x l ih => intro cs; simp [ih]
        rw [← Array.foldl_toList]
        exact this _ _
  have hsz := hcsize h4
  simp only [List.size_toArray] at hsz
  have hfl : ∀ (m : Nat) (l : List Value), (List.replicate m l).flatten.length = m * l.length := by
    intro m l; simp
  have hszn : cvs.length = n * szOf P e := by
    have : (⟨cvs⟩ : Array Value).size = (List.replicate n l).flatten.length := hsz
    rw [hfl] at this
    simpa [← hlen, hl] using this
  refine ⟨.slice (some ⟨w.heap.size, 0, none⟩) n n, { w with heap := w.heap.push (.cells ⟨cvs⟩ e) }, ?_, ?_⟩
  · simp only [Instr.buildSlice, Sem.run_bind, run_underlying hu, Result.andThen_ok, run_size hk w]
    rw [if_neg (by show ¬ n * szOf P e > 2 ^ 24; omega)]
    by_cases h0 : n * szOf P e = 0
    · have hcs : ((Array.range (n * szOf P e)).map fun x => (#[] : Array Value)[x % (#[] : Array Value).size]!) = ⟨(List.replicate n l).flatten⟩ := by
        have : (List.replicate n l).flatten = [] := by
          apply List.eq_nil_of_length_eq_zero
          rw [hfl, ← hlen, hl]; exact h0
        rw [this, h0]
        simp
      rw [if_pos h0]
      simp only [Sem.run_bind, Sem.run_pure, Result.andThen_ok, hcs, h4]
      simp [newRow]
    · have hcs : ((Array.range (n * szOf P e)).map fun x => z.cells[x % z.cells.size]!) = ⟨(List.replicate n l).flatten⟩ := by
        rw [h1]
        have := zeroCells_eq ⟨l⟩ (by
          show 0 < l.length
          rw [← hlen, hl]
          rcases Nat.eq_zero_or_pos (szOf P e) with h | h
          · rw [h] at h0; simp at h0
          · exact h) n
        simp only [show (⟨l⟩ : Array Value).size = szOf P e by show l.length = _; rw [← hlen, hl]] at this ⊢
        exact this
      rw [if_neg h0]
      simp only [Sem.run_bind, run_zero hz, Sem.run_pure, Result.andThen_ok, hcs, h4]
      simp [newRow]
  · obtain ⟨i, ρ', k1, k2, k3, k4⟩ := sim_new (w' := { w with heap := w.heap.push (.cells ⟨cvs⟩ e) }) s (vs_get h3 h30) (by simp [h3.length]) rfl rfl rfl h
    refine ⟨_, ρ', _, k1, ?_, k3, k4⟩
    rintro u ⟨⟩
    exact .slice (l := ⟨w.heap.size, 0, cvs.length, cvs.length⟩) k2 (Nat.le_refl _) (.inr rfl) (by simp [hszn]) (by simp [hszn])

theorem c_makeSlice (s : Sim ρ w.heap σ) {t e : TypeId} {n c : Int} {k k' : IntKind} {z : Value} {K : Option Value → AS → Prop}
    (hu : P.underlying t = some (.slice e)) (hz : zeroOf P e = some z) (hl : Nat.beq (valCells z).length (szOf P e) = true) (hp : Nat.blt 0 (szOf P e) = true)
    (hpb : Nat.blt 0 (bytesOf P e) = true) (h0 : 0 ≤ n) (h1 : n ≤ c) (hc : c * bytesOf P e ≤ 140737488355328)
    (h : newAt σ (.row .rw (List.replicate n.toNat (valCells z)).flatten) fun i σ => K (some (.slice (some ⟨i, 0, none⟩) n.toNat (szOf P e))) σ) :
    ∃ cv w1, (Instr.makeSlice t (.int k n) (.int k' c)).run P w = .ok cv w1 ∧ COk P ρ w σ (.value cv) w1 K := by
  obtain ⟨l, g1, g2, hone⟩ := valCells_rel (zero_rel (ρ := ρ) hz) (zero_ok hz)
  have hl := Nat.eq_of_beq_eq_true hl
  have hlen := g2.length
  have hp : 0 < szOf P e := Nat.blt_eq.mp hp
  have hk : ∃ i, P.info? e = some i := by
    unfold zeroOf at hz
    cases hi : P.info? e with
    | none => rw [hi] at hz; cases hz
    | some i => exact ⟨i, rfl⟩
  obtain ⟨i, hi⟩ := hk
  have hby : bytesOf P e = i.bytes := by simp [bytesOf, hi]
  have hsz := run_size (P := P) (t := e) (by rw [hi]; rfl) w
  have hpb : 0 < bytesOf P e := Nat.blt_eq.mp hpb
  have hc2 : c ≤ 140737488355328 := by
    have : c * 1 ≤ c * (bytesOf P e : Int) := Int.mul_le_mul_of_nonneg_left (by omega) (by omega)
    omega
  have wc : IntKind.i64.wrap c = c := IntWalk.i64_in _ (by omega)
  have wn : IntKind.i64.wrap n = n := IntWalk.i64_in _ (by omega)
  have hcells : ((Array.range (c.toNat * szOf P e)).map fun x => z.cells[x % z.cells.size]!) = ⟨(List.replicate c.toNat l).flatten⟩ := by
    rw [g1]
    have := zeroCells_eq ⟨l⟩ (by show 0 < l.length; rw [← hlen, hl]; exact hp) c.toNat
    simp only [show (⟨l⟩ : Array Value).size = szOf P e by show l.length = _; rw [← hlen, hl]] at this ⊢
    exact this
  refine ⟨.slice (some ⟨w.heap.size, 0, none⟩) n.toNat c.toNat, { w with heap := w.heap.push (.cells ⟨(List.replicate c.toNat l).flatten⟩ e) }, ?_, ?_⟩
  · have hmul : (i.bytes : Int) * c = c * (bytesOf P e : Int) := by rw [hby, Int.mul_comm]
    simp only [Instr.makeSlice, Sem.run_bind, run_underlying hu, Result.andThen_ok, asInt, asIntOf, Sem.run_pure, wc, wn, typeInfo, run_program, hi]
    rw [if_neg (by simp [hmul]; omega)]
    by_cases h00 : c.toNat * szOf P e = 0
    · have : c.toNat = 0 := by
        rcases Nat.mul_eq_zero.mp h00 with h | h
        · exact h
        · omega
      have e0 : Array.map (fun _ : Nat => (default : Value)) (Array.range 0) = ⟨[]⟩ := by apply Array.ext'; simp
      simp [hsz, this, newRow, e0]
    · simp only [Sem.run_bind, run_askRoom, Result.andThen_ok, hsz, h00, if_false, run_zero hz, Sem.run_pure, hcells]
      simp [newRow]
  · obtain ⟨i, ρ', k1, k2, k3, k4⟩ := sim_new (w' := { w with heap := w.heap.push (.cells ⟨(List.replicate c.toNat l).flatten⟩ e) }) s (c := ⟨(List.replicate c.toNat l).flatten⟩) (by
        have hsplit : (List.replicate c.toNat l).flatten = (List.replicate n.toNat l).flatten ++ (List.replicate (c.toNat - n.toNat) l).flatten := by
          rw [← List.flatten_append, List.replicate_append_replicate]; congr 2; omega
        intro j v hv
        obtain ⟨cv, e1, e2⟩ := (rep_rel g2 n.toNat).get hv
        refine ⟨cv, ?_, e2, rep_one hone _ _ (List.mem_of_getElem? e1)⟩
        simp only [List.getElem?_toArray, hsplit]
        rw [List.getElem?_append_left]
        · exact e1
        · rcases Nat.lt_or_ge j (List.replicate n.toNat l).flatten.length with h | h
          · exact h
          · rw [List.getElem?_eq_none h] at e1; cases e1) (by
        simp only [List.size_toArray, List.length_flatten, List.map_replicate, List.sum_replicate_nat]
        rw [hlen]
        exact Nat.mul_le_mul_right _ (by omega)) rfl rfl rfl h
    refine ⟨_, ρ', _, k1, ?_, k3, k4⟩
    rintro u ⟨⟩
    exact .slice (l := ⟨w.heap.size, 0, _, _⟩) k2 (by omega) (.inr rfl) (by simp [← hlen, hl]) (by simp [← hlen, hl])
end
end Go.AI
