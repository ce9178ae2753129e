/- Lemmas of the abstract condition ahead of code (a part of the library that the claim's proof stands on); they hold with no condition but those that each names. -/
import Derived.Test.YtlofpopejkohbaaGreatAIEval
import Derived.ProofKit
set_option linter.unusedSimpArgs false
set_option linter.unusedVariables false
/- From the reading of the arguments to an abstract heap of rows that are only read. -/
namespace Go.AI

def NoOwn (σ : AS) : Prop := ∀ i o, σ i = some o → o.own = false

theorem Sim.addRo {ρ : RM} {h : Array Obj} {σ : AS} {l : Loc} {o : AObj} (s : Sim ρ h σ) (n : NoOwn σ) (ho : o.own = false) (hn : ORel (ρ.set σ.n l) h l o) : Sim (ρ.set σ.n l) h (σ.set σ.n o) where
  obj i oi e := by
    by_cases hi : i = σ.n
    · subst hi
      rw [AS.set_same] at e
      injection e with e
      subst e
      exact ⟨l, RM.set_same _ _ _, hn⟩
    · rw [AS.set_ne _ _ hi] at e
      obtain ⟨li, h1, h2⟩ := s.obj i oi e
      exact ⟨li, by rw [RM.set_ne _ _ hi]; exact h1, h2.keep (RM.le_set _ s.fresh) rfl⟩
  inj a b oa ob la lb hab ea eb ra rb hown hv := by
    exfalso
    by_cases ha : a = σ.n
    · subst ha
      rw [AS.set_same] at ea
      injection ea with ea
      subst ea
      rw [ho] at hown; cases hown
    · rw [AS.set_ne _ _ ha] at ea
      rw [n _ _ ea] at hown; cases hown
  dom i e := by
    by_cases hi : i = σ.n
    · subst hi; rw [AS.set_same] at e; cases e
    · rw [AS.set_ne _ _ hi] at e; rw [RM.set_ne _ _ hi]; exact s.dom i e
theorem NoOwn.set {σ : AS} (n : NoOwn σ) {i : Nat} {o : AObj} (ho : o.own = false) : NoOwn (σ.set i o) := by
  intro j oj e
  rw [AS.get_set] at e
  split at e
  · injection e with e; subst e; exact ho
  · exact n j oj e

/-- These cells are taken over. -/
def Take (W : World) (cs : List Value) (Q : AS → List Value → AS → Prop) : Prop :=
  ∀ (ρ : RM) (σ : AS), Sim ρ W.heap σ → NoOwn σ → ∃ av σ' ρ', Q σ av σ' ∧ ρ.le ρ' ∧ Sim ρ' W.heap σ' ∧ NoOwn σ' ∧ VsRel ρ' av cs ∧ ∀ v ∈ cs, v.oneCell' = true

section
variable {H : Type} {enc : TypeId × Value → H} {P : Program} {W : World}

/-- The values of a type, taken over by what is read of them. -/
def TK (enc : TypeId × Value → H) (P : Program) (W : World) (t : TypeId) (R : DataW H → AS → List Value → AS → Prop) : Prop :=
  ∀ (fuel : Nat) (cs : List Value) (x : DataW H × List MemPlace), DataW.trod enc P W 0 (fun _ => true) true fuel t cs = some x → Take W cs (R x.1)

def RInt (k : IntKind) (d : DataW H) (σ : AS) (av : List Value) (σ' : AS) : Prop := ∃ n, d = .lit (.int k n) ∧ (Lit.int k n).wf = true ∧ av = [.int k n] ∧ σ' = σ
def RBool (d : DataW H) (σ : AS) (av : List Value) (σ' : AS) : Prop := ∃ b, d = .lit (.bool b) ∧ av = [.bool b] ∧ σ' = σ
def RStr (d : DataW H) (σ : AS) (av : List Value) (σ' : AS) : Prop := ∃ s : ByteArray, d = .lit (.string s.data.toList) ∧ s.size ≤ maxLen ∧ av = [.string s] ∧ σ' = σ

theorem tk_int {t : TypeId} {k : IntKind} (ht : P.underlying t = some (.int k)) : TK enc P W t (RInt k) := by
  intro fuel cs x h ρ σ s n
  obtain ⟨m, rfl, rfl, hw⟩ := DataW.trod_int ht h
  exact ⟨_, σ, ρ, ⟨m, rfl, hw, rfl, rfl⟩, RM.le_refl _, s, n, .cons (.int _ _) .nil, by intro v hv; simp at hv; subst hv; rfl⟩
theorem tk_bool {t : TypeId} (ht : P.underlying t = some .bool) : TK enc P W t RBool := by
  intro fuel cs x h ρ σ s n
  obtain ⟨m, rfl, rfl⟩ := DataW.trod_bool ht h
  exact ⟨_, σ, ρ, ⟨m, rfl, rfl, rfl⟩, RM.le_refl _, s, n, .cons (.bool _) .nil, by intro v hv; simp at hv; subst hv; rfl⟩
theorem tk_str {t : TypeId} (ht : P.underlying t = some .string) : TK enc P W t RStr := by
  intro fuel cs x h ρ σ s n
  obtain ⟨m, rfl, rfl, hl⟩ := DataW.trod_string ht h
  exact ⟨_, σ, ρ, ⟨m, rfl, hl, rfl, rfl⟩, RM.le_refl _, s, n, .cons (.str _) .nil, by intro v hv; simp at hv; subst hv; rfl⟩

/-- One behind the other. -/
inductive Thr (R : DataW H → AS → List Value → AS → Prop) : List (DataW H) → AS → List (List Value) → AS → Prop
  | nil (σ : AS) : Thr R [] σ [] σ
  | cons {d : DataW H} {l : List (DataW H)} {σ σ1 σ2 : AS} {av : List Value} {avs : List (List Value)} (h : R d σ av σ1) (hs : Thr R l σ1 avs σ2) : Thr R (d :: l) σ (av :: avs) σ2

theorem take_thr {R : DataW H → AS → List Value → AS → Prop} : ∀ (l : List (DataW H)) (css : List (List Value)), L2 (fun d cs => Take W cs (R d)) l css →
    ∀ (ρ : RM) (σ : AS), Sim ρ W.heap σ → NoOwn σ → ∃ avs σ' ρ', Thr R l σ avs σ' ∧ ρ.le ρ' ∧ Sim ρ' W.heap σ' ∧ NoOwn σ' ∧ VsRel ρ' avs.flatten css.flatten ∧ ∀ v ∈ css.flatten, v.oneCell' = true
  | _, _, .nil, ρ, σ, s, n => ⟨[], σ, ρ, .nil σ, RM.le_refl _, s, n, .nil, by simp⟩
  | _, _, .cons h hs, ρ, σ, s, n => by
    obtain ⟨av, σ1, ρ1, h1, h2, h3, h4, h5, h6⟩ := h ρ σ s n
    obtain ⟨avs, σ2, ρ2, g1, g2, g3, g4, g5, g6⟩ := take_thr _ _ hs ρ1 σ1 h3 h4
    refine ⟨av :: avs, σ2, ρ2, .cons h1 g1, RM.le_trans h2 g2, g3, g4, ?_, ?_⟩
    · simp only [List.flatten_cons]
      exact (VsRel.mono g2 h5).append g5
    · intro v hv
      simp only [List.flatten_cons, List.mem_append] at hv
      rcases hv with hv | hv
      · exact h6 v hv
      · exact g6 v hv

def RSlice (sz : Nat) (R : DataW H → AS → List Value → AS → Prop) (d : DataW H) (σ : AS) (av : List Value) (σ' : AS) : Prop :=
  (d = .nil ∧ av = [.slice none 0 sz] ∧ σ' = σ) ∨
  (∃ spare, d = .slice [] spare ∧ av = [.slice (some ⟨σ.n, 0, none⟩) 0 sz] ∧ σ' = σ.set σ.n .dead) ∨
  ∃ elems spare avs σ1, d = .slice elems spare ∧ elems ≠ [] ∧ elems.length ≤ maxLen ∧ Thr R elems σ avs σ1 ∧ av = [.slice (some ⟨σ1.n, 0, none⟩) elems.length sz] ∧ σ' = σ1.set σ1.n (.row .ro avs.flatten)

theorem L2.of_get {α β : Type} {R : α → β → Prop} : ∀ {a : List α} {b : List β}, a.length = b.length → (∀ (j : Nat) x y, a[j]? = some x → b[j]? = some y → R x y) → L2 R a b
  | [], [], _, _ => .nil
  | [], _ :: _, h, _ => by simp at h
  | _ :: _, [], h, _ => by simp at h
  | x :: a, y :: b, h, hr => .cons (hr 0 x y (by simp) (by simp)) (L2.of_get (by simpa using h) fun j u v h1 h2 => hr (j + 1) u v (by simpa using h1) (by simpa using h2))

theorem flat_get {α : Type} {sz : Nat} : ∀ (css : List (List α)), (∀ cs ∈ css, cs.length = sz) → ∀ i r, r < sz → css.flatten[i * sz + r]? = (css[i]?).bind (·[r]?)
  | [], _, i, r, _ => by simp
  | cs :: css, h, 0, r, hr => by
    have hl := h cs (by simp)
    simp only [List.flatten_cons, Nat.zero_mul, Nat.zero_add, List.getElem?_cons_zero, Option.bind_some]
    rw [List.getElem?_append_left (by omega)]
  | cs :: css, h, i + 1, r, hr => by
    have hl := h cs (by simp)
    simp only [List.flatten_cons, List.getElem?_cons_succ]
    rw [List.getElem?_append_right (by rw [hl, Nat.succ_mul]; omega), ← flat_get css (fun c hc => h c (by simp [hc])) i r hr]
    congr 1
    rw [hl, Nat.succ_mul]
    omega

theorem cell_at {a : Addr} {k : Nat} {v : Value} (h : W.cell? (a.add k) = some v) (h0 : a.spot = none) : ∃ c e fz, W.heap[a.block]? = some (.cells c e fz) ∧ c[a.off + k]? = some v := by
  have ha : a.add k = ⟨a.block, a.off + k, none⟩ := by
    cases a
    simp only at h0
    subst h0
    exact addr_add_none _ _ _
  rw [ha] at h
  unfold World.cell? at h
  simp only at h
  split at h
  · rename_i c e fz hc
    exact ⟨c, e, fz, hc, by simpa using h⟩
  · cases h

theorem add_block (a : Addr) (k : Nat) : (a.add k).block = a.block := by
  unfold Addr.add; split <;> rfl

theorem tk_slice {t e : TypeId} {R : DataW H → AS → List Value → AS → Prop} (ht : P.underlying t = some (.slice e)) (hp : Nat.blt 0 (szOf P e) = true) (he : TK enc P W e R) : TK enc P W t (RSlice (szOf P e) R) := by
  have hp : 0 < szOf P e := Nat.blt_eq.mp hp
  have hsz : P.cellsOf e = szOf P e := rfl
  intro fuel cs x h ρ σ s n
  rcases DataW.trod_slice ht h with ⟨rfl, rfl⟩ | ⟨a, len, cap, elems, rest, m, rfl, rfl, rfl, hb, hl, hm, hlen, hel, hsp, hns⟩
  · exact ⟨_, σ, ρ, .inl ⟨rfl, rfl, rfl⟩, RM.le_refl _, s, n, .cons (.nilslice _) .nil, by intro v hv; simp at hv; subst hv; rfl⟩
  · have hone : ∀ v ∈ [Value.slice (some a) len cap], v.oneCell' = true := by intro v hv; simp at hv; subst hv; rfl
    by_cases h0 : len = 0
    · subst h0
      have : elems = [] := List.eq_nil_of_length_eq_zero hlen
      subst this
      refine ⟨_, _, ρ.set σ.n ⟨0, 1, 0, 0⟩, .inr (.inl ⟨_, rfl, rfl, rfl⟩), RM.le_set _ s.fresh, s.addRo n rfl trivial, n.set rfl, .cons (.emp (RM.set_same _ _ _) (by simp)) .nil, hone⟩
    · -- the elements' cells
      rw [hsz] at hel hsp
      have hcell : ∀ i, i < len → ∃ csi y, W.cells? 0 (a.add (i * szOf P e)) (szOf P e) = some csi ∧ elems[i]? = some y ∧ DataW.trod enc P W 0 (fun _ => true) true m e csi = some y := by
        intro i hi
        have h1 := hel i hi
        have h2 : elems[i]? = some elems[i] := List.getElem?_eq_getElem (by omega)
        rw [h2] at h1
        obtain ⟨csi, h3, h4⟩ := Option.bind_eq_some_iff.1 h1
        exact ⟨csi, _, h3, h2, h4⟩
      let css : List (List Value) := (List.range len).map fun i => (W.cells? 0 (a.add (i * szOf P e)) (szOf P e)).getD []
      have hcss : ∀ i, i < len → ∃ y, css[i]? = some ((W.cells? 0 (a.add (i * szOf P e)) (szOf P e)).getD []) ∧ elems[i]? = some y ∧ DataW.trod enc P W 0 (fun _ => true) true m e ((W.cells? 0 (a.add (i * szOf P e)) (szOf P e)).getD []) = some y ∧
          ((W.cells? 0 (a.add (i * szOf P e)) (szOf P e)).getD []).length = szOf P e ∧ ∀ r, r < szOf P e → W.cell? ((a.add (i * szOf P e)).add r) = ((W.cells? 0 (a.add (i * szOf P e)) (szOf P e)).getD [])[r]? := by
        intro i hi
        obtain ⟨csi, y, h1, h2, h3⟩ := hcell i hi
        obtain ⟨_, h4, h5⟩ := World.cells?_some h1
        refine ⟨y, by simp [css, hi], h2, ?_, ?_, ?_⟩
        · rw [h1]; exact h3
        · rw [h1]; exact h4
        · rw [h1]; exact h5
      have hcl : css.length = len := by simp [css]
      have hall : ∀ c ∈ css, c.length = szOf P e := by
        intro c hc
        obtain ⟨i, hi, rfl⟩ := List.mem_map.1 hc
        obtain ⟨_, _, _, _, h4, _⟩ := hcss i (List.mem_range.1 hi)
        exact h4
      have l2 : L2 (fun d cs => Take W cs (R d)) (elems.map (·.1)) css := by
        refine L2.of_get (by simp [hcl, hlen]) fun j x y hx hy => ?_
        have hj : j < len := by
          rcases Nat.lt_or_ge j len with h | h
          · exact h
          · rw [List.getElem?_eq_none (by omega)] at hy; cases hy
        obtain ⟨z, h1, h2, h3, _, _⟩ := hcss j hj
        rw [h1] at hy
        injection hy with hy
        subst hy
        rw [List.getElem?_map, h2] at hx
        injection hx with hx
        subst hx
        exact he m _ z h3
      obtain ⟨avs, σ1, ρ1, g1, g2, g3, g4, g5, g6⟩ := take_thr _ _ l2 ρ σ s n
      -- where the row lies
      have hlt0 : 0 < len := by omega
      obtain ⟨_, _, _, _, hc4, hc5⟩ := hcss 0 hlt0
      have hspot : a.spot = none := by
        have := hc5 0 hp
        have hs : ∃ v, W.cell? ((a.add (0 * szOf P e)).add 0) = some v := ⟨_, by rw [this]; exact List.getElem?_eq_getElem (by omega)⟩
        obtain ⟨v, hv⟩ := hs
        rw [Nat.zero_mul] at hv
        cases hsp' : a.spot with
        | none => rfl
        | some q =>
          exfalso
          have e0 : ∀ b : Addr, b.add 0 = b := fun b => by
            unfold Addr.add
            split <;> (cases b; simp_all)
          rw [e0, e0] at hv
          unfold World.cell? at hv
          split at hv
          · simp [hsp'] at hv
          · cases hv
      have ha : ∀ k, a.add k = ⟨a.block, a.off + k, none⟩ := fun k => by
        cases a
        simp only at hspot
        subst hspot
        exact addr_add_none _ _ _
      have hflat : ∀ j, j < len * szOf P e → ∃ v, W.cell? ⟨a.block, a.off + j, none⟩ = some v ∧ css.flatten[j]? = some v := by
        intro j hj
        have hi : j / szOf P e < len := by
          rw [Nat.div_lt_iff_lt_mul hp]; exact hj
        have hr : j % szOf P e < szOf P e := Nat.mod_lt _ hp
        have hd : j / szOf P e * szOf P e + j % szOf P e = j := by
          rw [Nat.mul_comm]; exact Nat.div_add_mod _ _
        obtain ⟨y, k1, k2, k3, k4, k5⟩ := hcss _ hi
        have := flat_get css hall (j / szOf P e) (j % szOf P e) hr
        rw [hd, k1] at this
        simp only [Option.bind_some] at this
        rw [← k5 _ hr, ha, addr_add_none, Nat.add_assoc, hd] at this
        rw [this]
        have hsome : ∃ v, W.cell? ⟨a.block, a.off + j, none⟩ = some v := by
          have q := k5 _ hr
          rw [ha, addr_add_none, Nat.add_assoc, hd] at q
          rw [q]
          rw [ha] at k4
          exact ⟨_, List.getElem?_eq_getElem (by rw [k4]; exact hr)⟩
        obtain ⟨v, hv⟩ := hsome
        exact ⟨v, hv, hv⟩
      have hpos : 0 < len * szOf P e := Nat.mul_pos hlt0 hp
      obtain ⟨v0, hv0, _⟩ := hflat 0 hpos
      obtain ⟨c, el, fz, hc⟩ : ∃ c el fz, W.heap[a.block]? = some (.cells c el fz) := by
        unfold World.cell? at hv0
        simp only at hv0
        split at hv0
        · exact ⟨_, _, _, by assumption⟩
        · cases hv0
      have hget : ∀ k v, W.cell? ⟨a.block, k, none⟩ = some v → c[k]? = some v := by
        intro k v hv
        unfold World.cell? at hv
        simp only [hc] at hv
        simpa using hv
      have hlt : ∀ k v, W.cell? ⟨a.block, k, none⟩ = some v → k < c.size := fun k v hv => (Array.getElem?_eq_some_iff.1 (hget k v hv)).1
      have hlenb : a.off + len * szOf P e ≤ c.size := by
        obtain ⟨v, hv, _⟩ := hflat (len * szOf P e - 1) (by omega)
        have := hlt _ _ hv
        omega
      have hcapb : a.off + cap * szOf P e ≤ c.size := by
        by_cases hcl : cap = len
        · rw [hcl]; exact hlenb
        · obtain ⟨hr1, hr2⟩ := hsp rfl
          have hj : cap - len - 1 < cap - len := by omega
          have h1 := hr2 _ hj
          rw [List.getElem?_eq_getElem (by omega)] at h1
          obtain ⟨csi, h3, _⟩ := Option.bind_eq_some_iff.1 h1
          obtain ⟨_, h4, h5⟩ := World.cells?_some h3
          have h6 := h5 (szOf P e - 1) (by omega)
          rw [ha, addr_add_none, List.getElem?_eq_getElem (by omega)] at h6
          have := hlt _ _ h6
          have e1 : len + (cap - len - 1) = cap - 1 := by omega
          rw [e1] at this
          have e2 : (cap - 1) * szOf P e + szOf P e = cap * szOf P e := by
            rw [← Nat.succ_mul]; congr 1; omega
          revert this e2
          generalize (cap - 1) * szOf P e = A
          generalize cap * szOf P e = B
          intro this e2
          omega
      have hfl : avs.flatten.length = len * szOf P e := by
        rw [g5.length]
        have : ∀ (l : List (List Value)), (∀ c ∈ l, c.length = szOf P e) → l.flatten.length = l.length * szOf P e := by
          intro l
          induction l with
          | nil => intro _; simp
          | cons c l ih =>
            intro hl
            simp only [List.flatten_cons, List.length_append, List.length_cons, Nat.succ_mul]
            rw [ih (fun c hc => hl c (by simp [hc])), hl c (by simp)]
            omega
        rw [this css hall, hcl]
      have hrow : ORel (ρ1.set σ1.n ⟨a.block, a.off, c.size, 0⟩) W.heap ⟨a.block, a.off, c.size, 0⟩ (.row .ro avs.flatten) := by
        refine ⟨c, el, fz, hc, rfl, by rw [hfl]; exact hlenb, ?_, trivial, fun h => by cases h⟩
        intro j v hv
        obtain ⟨cv, q1, q2⟩ := g5.get hv
        have hj : j < len * szOf P e := by
          rw [← hfl]
          rcases Nat.lt_or_ge j avs.flatten.length with h | h
          · exact h
          · rw [List.getElem?_eq_none h] at hv; cases hv
        obtain ⟨u, hu1, hu2⟩ := hflat j hj
        rw [q1] at hu2
        injection hu2 with hu2
        subst hu2
        exact ⟨cv, hget _ _ hu1, q2.mono (RM.le_set _ g3.fresh), g6 cv (List.mem_of_getElem? q1)⟩
      have hne : elems.map (·.1) ≠ [] := by
        intro hnil
        have h00 : (elems.map (·.1)).length = 0 := by rw [hnil]; rfl
        rw [List.length_map, hlen] at h00
        exact h0 h00
      have hab : a = ⟨a.block, a.off, none⟩ := by cases a; simp only at hspot; rw [hspot]
      refine ⟨_, _, ρ1.set σ1.n ⟨a.block, a.off, c.size, 0⟩, .inr (.inr ⟨_, _, avs, σ1, rfl, hne, by simp; omega, g1, rfl, rfl⟩), RM.le_trans g2 (RM.le_set _ g3.fresh), g3.addRo g4 rfl hrow, g4.set rfl, ?_, hone⟩
      have el : (elems.map (·.1)).length = len := by simp [hlen]
      rw [el]
      refine .cons ?_ .nil
      rw [hab]
      exact .slice (l := ⟨a.block, a.off, c.size, 0⟩) (RM.set_same _ _ _) hl (.inr (by simp)) hcapb (Nat.zero_le _)

/-- One behind the other, each in its own way. -/
inductive ThrH : List (DataW H → AS → List Value → AS → Prop) → List (DataW H) → AS → List (List Value) → AS → Prop
  | nil (σ : AS) : ThrH [] [] σ [] σ
  | cons {R : DataW H → AS → List Value → AS → Prop} {Rs : List (DataW H → AS → List Value → AS → Prop)} {d : DataW H} {l : List (DataW H)} {σ σ1 σ2 : AS} {av : List Value} {avs : List (List Value)} (h : R d σ av σ1) (hs : ThrH Rs l σ1 avs σ2) : ThrH (R :: Rs) (d :: l) σ (av :: avs) σ2

def splitOk (P : Program) : List Field → Nat → Nat → Bool
  | [], off, tot => Nat.beq off tot
  | f :: fs, off, tot => match Nat.beq f.offset off with
    | true => splitOk P fs (off + szOf P f.type) tot
    | false => false

def RStruct (Rs : List (DataW H → AS → List Value → AS → Prop)) (d : DataW H) (σ : AS) (av : List Value) (σ' : AS) : Prop := ∃ parts avs, d = .agg parts ∧ ThrH Rs parts σ avs σ' ∧ av = avs.flatten

theorem take_fields {m : Nat} {cs : List Value} : ∀ (Rs : List (DataW H → AS → List Value → AS → Prop)) (fs : List Field) (xs : List (DataW H × List MemPlace)) (off : Nat), L2 (fun R (f : Field) => TK enc P W f.type R) Rs fs → splitOk P fs off cs.length = true → xs.length = fs.length →
    (∀ (i : Nat) (f : Field), fs[i]? = some f → DataW.trod enc P W 0 (fun _ => true) true m f.type ((cs.drop f.offset).take (P.cellsOf f.type)) = xs[i]?) →
    ∀ (ρ : RM) (σ : AS), Sim ρ W.heap σ → NoOwn σ → ∃ avs σ' ρ', ThrH Rs (xs.map (·.1)) σ avs σ' ∧ ρ.le ρ' ∧ Sim ρ' W.heap σ' ∧ NoOwn σ' ∧ VsRel ρ' avs.flatten (cs.drop off) ∧ ∀ v ∈ cs.drop off, v.oneCell' = true
  | _, _, xs, off, .nil, hs, hl, _, ρ, σ, s, n => by
    have : xs = [] := List.eq_nil_of_length_eq_zero hl
    subst this
    have ho : off = cs.length := Nat.eq_of_beq_eq_true hs
    subst ho
    exact ⟨[], σ, ρ, .nil σ, RM.le_refl _, s, n, by simp; exact .nil, by simp⟩
  | _, _, xs, off, .cons (a := R) (b := f) (as := Rs) (bs := fs) h hR, hs, hl, hx, ρ, σ, s, n => by
    unfold splitOk at hs
    cases ho : Nat.beq f.offset off with
    | false => rw [ho] at hs; cases hs
    | true =>
    rw [ho] at hs
    have ho := Nat.eq_of_beq_eq_true ho
    cases xs with
    | nil => simp at hl
    | cons x xs =>
    have h0 := hx 0 f (by simp)
    simp only [List.getElem?_cons_zero] at h0
    obtain ⟨av, σ1, ρ1, h1, h2, h3, h4, h5, h6⟩ := h m _ x h0 ρ σ s n
    obtain ⟨avs, σ2, ρ2, g1, g2, g3, g4, g5, g6⟩ := take_fields Rs fs xs (off + szOf P f.type) hR hs (by simpa using hl) (fun i g hg => by simpa using hx (i + 1) g (by simpa using hg)) ρ1 σ1 h3 h4
    have e : cs.drop off = (cs.drop f.offset).take (P.cellsOf f.type) ++ cs.drop (off + szOf P f.type) := by
      rw [ho, show P.cellsOf f.type = szOf P f.type from rfl, ← List.drop_drop, List.take_append_drop]
    refine ⟨av :: avs, σ2, ρ2, .cons h1 g1, RM.le_trans h2 g2, g3, g4, ?_, ?_⟩
    · rw [e]
      simp only [List.flatten_cons]
      exact (VsRel.mono g2 h5).append g5
    · rw [e]
      intro v hv
      rcases List.mem_append.1 hv with hv | hv
      · exact h6 v hv
      · exact g6 v hv

theorem tk_struct {t : TypeId} {fs : Array Field} {Rs : List (DataW H → AS → List Value → AS → Prop)} (ht : P.underlying t = some (.struct fs)) (hs : splitOk P fs.toList 0 (szOf P t) = true) (hR : L2 (fun R (f : Field) => TK enc P W f.type R) Rs fs.toList) : TK enc P W t (RStruct Rs) := by
  intro fuel cs x h ρ σ s n
  obtain ⟨xs, m, rfl, rfl, h1, h2, h3⟩ := DataW.trod_struct ht h
  have h1 : cs.length = szOf P t := h1
  obtain ⟨avs, σ', ρ', g1, g2, g3, g4, g5, g6⟩ := take_fields Rs fs.toList xs 0 hR (by rw [h1]; exact hs) (by simpa using h2) (fun i f hf => h3 i f (by rw [← Array.getElem?_toList]; exact hf)) ρ σ s n
  exact ⟨_, σ', ρ', ⟨_, avs, rfl, g1, rfl⟩, g2, g3, g4, by simpa using g5, by simpa using g6⟩

/-- With another choice of spare places, that takes in all places met: the same reading. -/
def SP (enc : TypeId × Value → H) (P : Program) (W : World) (t : TypeId) : Prop :=
  ∀ (sp : Nat → Bool) (fuel : Nat) (cs : List Value) (x : DataW H × List MemPlace), DataW.trod enc P W 0 (fun _ => true) true fuel t cs = some x → (∀ p ∈ x.2, sp p.block = true) → DataW.trod enc P W 0 sp true fuel t cs = some x

theorem sp_int {t : TypeId} {k : IntKind} (ht : P.underlying t = some (.int k)) : SP enc P W t := by
  intro sp fuel cs x h _
  cases fuel with
  | zero => simp [DataW.trod] at h
  | succ m =>
    obtain ⟨n, rfl, rfl, hw⟩ := DataW.trod_int ht h
    unfold DataW.trod
    simp [ht, hw]
theorem sp_bool {t : TypeId} (ht : P.underlying t = some .bool) : SP enc P W t := by
  intro sp fuel cs x h _
  cases fuel with
  | zero => simp [DataW.trod] at h
  | succ m =>
    obtain ⟨n, rfl, rfl⟩ := DataW.trod_bool ht h
    unfold DataW.trod
    simp [ht]
theorem sp_str {t : TypeId} (ht : P.underlying t = some .string) : SP enc P W t := by
  intro sp fuel cs x h _
  cases fuel with
  | zero => simp [DataW.trod] at h
  | succ m =>
    obtain ⟨n, rfl, rfl, hw⟩ := DataW.trod_string ht h
    unfold DataW.trod
    simp [ht, hw]
theorem sp_struct {t : TypeId} {fs : Array Field} (ht : P.underlying t = some (.struct fs)) (hf : ∀ f ∈ fs.toList, SP enc P W f.type) : SP enc P W t := by
  intro sp fuel cs x h hp
  cases fuel with
  | zero => simp [DataW.trod] at h
  | succ m =>
    unfold DataW.trod at h ⊢
    rw [ht] at h ⊢
    simp only at h ⊢
    split at h
    · rename_i hl
      rw [if_pos hl]
      obtain ⟨xs, h1, h2⟩ := Option.map_eq_some_iff.1 h
      rw [mapM_carry h1 fun f y hmem hy hfy => hf f hmem sp m _ y hfy fun p hpp => hp p (by rw [← h2]; exact List.mem_flatMap.2 ⟨y, hy, hpp⟩)]
      exact Option.map_eq_some_iff.2 ⟨xs, rfl, h2⟩
    · cases h
theorem sp_slice {t e : TypeId} (ht : P.underlying t = some (.slice e)) (hpos : Nat.blt 0 (szOf P e) = true) (he : SP enc P W e) : SP enc P W t := by
  have hpos : 0 < P.cellsOf e := Nat.blt_eq.mp hpos
  intro sp fuel cs x h hp
  rcases DataW.trod_slice ht h with ⟨rfl, rfl⟩ | ⟨a, len, cap, el0, re0, m0, rfl, rfl, rfl, hb, hl, hm, hlen, hel, hsp0, hns⟩
  · cases fuel with
    | zero => simp [DataW.trod] at h
    | succ m =>
      unfold DataW.trod
      simp [ht]
  · have hsp : 0 < cap → sp a.block = true := by
      intro hc
      obtain ⟨hr, _⟩ := hsp0 rfl
      refine hp (.cell a.block (a.off + 0)) (List.mem_append_left _ (List.mem_map.2 ⟨0, List.mem_range.2 ?_, rfl⟩))
      exact Nat.mul_pos (by omega) hpos
    unfold DataW.trod at h ⊢
    rw [ht] at h ⊢
    simp only at h ⊢
    split at h
    · rename_i hc
      rw [if_pos hc]
      simp only [if_true] at h
      obtain ⟨elems, h1, h2⟩ := Option.bind_eq_some_iff.1 h
      obtain ⟨rest, h3, h4⟩ := Option.map_eq_some_iff.1 h2
      have pl : ∀ y, y ∈ elems ++ rest → ∀ p ∈ y.2, sp p.block = true := fun y hy p hpp => hp p (by
        have := congrArg Prod.snd h4
        simp only at this
        rw [← this]
        exact List.mem_append_right _ (List.mem_flatMap.2 ⟨y, hy, hpp⟩))
      rw [mapM_carry h1 fun i y _ hy hiy => by
        obtain ⟨c, k1, k2⟩ := Option.bind_eq_some_iff.1 hiy
        exact Option.bind_eq_some_iff.2 ⟨c, k1, he sp _ c y k2 (pl y (List.mem_append_left _ hy))⟩]
      simp only [Option.bind_some]
      rw [mapM_carry h3 fun i y _ hy hiy => by
        obtain ⟨c, k1, k2⟩ := Option.bind_eq_some_iff.1 hiy
        exact Option.bind_eq_some_iff.2 ⟨c, k1, he sp _ c y k2 (pl y (List.mem_append_right _ hy))⟩]
      by_cases hcap : 0 < cap
      · rw [hsp hcap, if_pos rfl]
        exact Option.map_eq_some_iff.2 ⟨rest, rfl, h4⟩
      · have : cap - len = 0 := by omega
        rw [this] at h3
        simp at h3
        subst h3
        split <;> exact Option.map_eq_some_iff.2 ⟨_, rfl, h4⟩
    · cases h
end
end Go.AI
