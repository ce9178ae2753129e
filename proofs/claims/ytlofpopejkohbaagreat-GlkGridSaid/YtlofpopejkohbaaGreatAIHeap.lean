/- Lemmas of the abstract condition ahead of code (a part of the library that the claim's proof stands on); they hold with no condition but those that each names. -/
import Derived.Test.YtlofpopejkohbaaGreatAIBase
namespace Go.AI

def RM.set (ρ : RM) (i : Nat) (l : Loc) : RM := fun j => if j = i then some l else ρ j
theorem RM.set_same (ρ : RM) (i : Nat) (l : Loc) : ρ.set i l i = some l := by simp [RM.set]
theorem RM.set_ne (ρ : RM) {i j : Nat} (l : Loc) (h : j ≠ i) : ρ.set i l j = ρ j := by simp [RM.set, h]
theorem RM.le_set {ρ : RM} {i : Nat} (l : Loc) (h : ρ i = none) : ρ.le (ρ.set i l) := by
  intro j m hm
  by_cases e : j = i
  · subst e; rw [h] at hm; cases hm
  · rw [RM.set_ne _ _ e]; exact hm

theorem dead_of {o : AObj} (h : ¬ o.live = true) : o = .dead := by
  cases o <;> first | rfl | exact absurd rfl h

/-- What an object is becomes another thing, in its own block. -/
theorem Sim.upd {ρ : RM} {h h' : Array Obj} {σ : AS} {i : Nat} {o o' : AObj} {l : Loc} (s : Sim ρ h σ) (hi : σ i = some o) (hl : ρ i = some l) (ho : o.own = true)
    (hoth : ∀ b, b ≠ l.block → h'[b]? = h[b]?) (hn : ORel ρ h' l o') : Sim ρ h' (σ.set i o') where
  obj j oj e := by
    by_cases hj : j = i
    · subst hj
      rw [AS.set_same] at e
      injection e with e
      subst e
      exact ⟨l, hl, hn⟩
    · rw [AS.set_ne _ _ hj] at e
      obtain ⟨lj, h1, h2⟩ := s.obj j oj e
      refine ⟨lj, h1, ?_⟩
      by_cases hb : lj.block = l.block
      · by_cases hv : oj.live = true
        · exact absurd hb.symm (s.inj i j o oj l lj (Ne.symm hj) hi e hl h1 ho hv)
        · rw [dead_of hv]
          trivial
      · exact h2.keep (RM.le_refl _) (hoth _ hb)
  inj a b oa ob la lb hab ea eb ra rb hown hv := by
    have hol : o.live = true := by cases o <;> first | rfl | cases ho
    by_cases ha : a = i
    · subst ha
      rw [AS.set_ne _ _ (Ne.symm hab)] at eb
      exact s.inj a b o ob la lb hab hi eb ra rb ho hv
    · rw [AS.set_ne _ _ ha] at ea
      by_cases hb : b = i
      · subst hb
        exact s.inj a b oa o la lb hab ea hi ra rb hown hol
      · rw [AS.set_ne _ _ hb] at eb
        exact s.inj a b oa ob la lb hab ea eb ra rb hown hv
  dom j e := by
    by_cases hj : j = i
    · subst hj; rw [AS.set_same] at e; cases e
    · rw [AS.set_ne _ _ hj] at e; exact s.dom j e

/-- An object goes. -/
theorem Sim.kill {ρ : RM} {h : Array Obj} {σ : AS} {i : Nat} {o : AObj} (s : Sim ρ h σ) (hi : σ i = some o) : Sim ρ h (σ.del i) where
  obj j oj e := by
    by_cases hj : j = i
    · subst hj
      rw [AS.del_same] at e
      injection e with e
      subst e
      obtain ⟨l, h1, h2⟩ := s.obj j o hi
      exact ⟨l, h1, trivial⟩
    · rw [AS.del_ne _ hj] at e
      exact s.obj j oj e
  inj a b oa ob la lb hab ea eb ra rb hown hv := by
    by_cases ha : a = i
    · subst ha; rw [AS.del_same] at ea; injection ea with ea; subst ea; cases hown
    · by_cases hb : b = i
      · subst hb; rw [AS.del_same] at eb; injection eb with eb; subst eb; cases hv
      · rw [AS.del_ne _ ha] at ea
        rw [AS.del_ne _ hb] at eb
        exact s.inj a b oa ob la lb hab ea eb ra rb hown hv
  dom j e := by
    by_cases hj : j = i
    · subst hj; rw [AS.del_same] at e; cases e
    · rw [AS.del_ne _ hj] at e; exact s.dom j e

/-- A new object in a block where no other one lies. -/
theorem Sim.add {ρ : RM} {h h' : Array Obj} {σ : AS} {j : Nat} {l : Loc} {o' : AObj} (s : Sim ρ h σ) (hj : ρ j = none)
    (hfree : ∀ i o li, σ i = some o → ρ i = some li → o.live = true → li.block ≠ l.block) (hoth : ∀ b, b ≠ l.block → b < h.size → h'[b]? = h[b]?)
    (hn : ORel (ρ.set j l) h' l o') : Sim (ρ.set j l) h' (σ.set j o') where
  obj i oi e := by
    by_cases hi : i = j
    · subst hi
      rw [AS.set_same] at e
      injection e with e
      subst e
      exact ⟨l, RM.set_same _ _ _, hn⟩
    · rw [AS.set_ne _ _ hi] at e
      obtain ⟨li, h1, h2⟩ := s.obj i oi e
      refine ⟨li, by rw [RM.set_ne _ _ hi]; exact h1, ?_⟩
      by_cases hv : oi.live = true
      · exact h2.keep (RM.le_set _ hj) (hoth _ (hfree _ _ _ e h1 hv) (h2.lt hv))
      · rw [dead_of hv]
        trivial
  inj a b oa ob la lb hab ea eb ra rb hown hv := by
    have live : ∀ o : AObj, o.own = true → o.live = true := fun o h => by cases o <;> first | rfl | cases h
    by_cases ha : a = j
    · subst ha
      rw [RM.set_same] at ra
      injection ra with ra
      subst ra
      rw [AS.set_ne _ _ (Ne.symm hab)] at eb
      rw [RM.set_ne _ _ (Ne.symm hab)] at rb
      exact Ne.symm (hfree _ _ _ eb rb hv)
    · rw [AS.set_ne _ _ ha] at ea
      rw [RM.set_ne _ _ ha] at ra
      by_cases hb : b = j
      · subst hb
        rw [RM.set_same] at rb
        injection rb with rb
        subst rb
        exact hfree _ _ _ ea ra (live _ hown)
      · rw [AS.set_ne _ _ hb] at eb
        rw [RM.set_ne _ _ hb] at rb
        exact s.inj a b oa ob la lb hab ea eb ra rb hown hv
  dom i e := by
    by_cases hi : i = j
    · subst hi; rw [AS.set_same] at e; cases e
    · rw [AS.set_ne _ _ hi] at e; rw [RM.set_ne _ _ hi]; exact s.dom i e

theorem Sim.fresh {ρ : RM} {h : Array Obj} {σ : AS} (s : Sim ρ h σ) : ρ σ.n = none := s.dom _ σ.free

theorem getElem?_push' (h : Array Obj) (o : Obj) (b : Nat) : (h.push o)[b]? = if b = h.size then some o else h[b]? := by
  rw [Array.getElem?_push]

/-- A new block. -/
theorem Sim.alloc {ρ : RM} {h : Array Obj} {σ : AS} {j : Nat} {n sh lo : Nat} {ob : Obj} {o' : AObj} (s : Sim ρ h σ) (hj : ρ j = none)
    (hn : ORel (ρ.set j ⟨h.size, sh, n, lo⟩) (h.push ob) ⟨h.size, sh, n, lo⟩ o') : Sim (ρ.set j ⟨h.size, sh, n, lo⟩) (h.push ob) (σ.set j o') := by
  refine s.add hj (fun i o li e r hv => ?_) (fun b hb hlt => ?_) hn
  · obtain ⟨l, h1, h2⟩ := s.obj i o e
    rw [r] at h1
    injection h1 with h1
    subst h1
    exact Nat.ne_of_lt (h2.lt hv)
  · rw [getElem?_push', if_neg hb]

theorem Step.alloc {ρ : RM} {w : World} {σ : AS} {j : Nat} {n sh lo : Nat} {ob : Obj} {o' : AObj} {w' : World} (hj : ρ j = none)
    (hh : w'.heap = w.heap.push ob) (ho : w'.os = w.os) (hp : w'.output = w.output) :
    Step ρ w σ (ρ.set j ⟨w.heap.size, sh, n, lo⟩) w' (σ.set j o') where
  ext := RM.le_set _ hj
  size := by rw [hh]; simp
  frame b hb _ := by rw [hh, getElem?_push', if_neg (by omega)]
  own b hb := by
    obtain ⟨i, o, l, h1, h2, h3, h4⟩ := hb
    by_cases hi : i = j
    · subst hi
      rw [RM.set_same] at h3
      injection h3 with h3
      subst h3
      exact .inr (by simp at h4; omega)
    · rw [RM.set_ne _ _ hi] at h3
      rw [AS.set_ne _ _ hi] at h1
      exact .inl ⟨i, o, l, h1, h2, h3, h4⟩
  os := ho
  out := hp

theorem Step.upd {ρ : RM} {w w' : World} {σ : AS} {i : Nat} {o o' : AObj} {l : Loc} (hi : σ i = some o) (hl : ρ i = some l) (ho : o.own = true)
    (hs : w'.heap.size = w.heap.size) (hoth : ∀ b, b ≠ l.block → w'.heap[b]? = w.heap[b]?) (hos : w'.os = w.os) (hp : w'.output = w.output) :
    Step ρ w σ ρ w' (σ.set i o') where
  ext := RM.le_refl _
  size := by omega
  frame b _ hn := hoth b fun e => hn ⟨i, o, l, hi, ho, hl, e.symm⟩
  own b hb := by
    obtain ⟨j, oj, lj, h1, h2, h3, h4⟩ := hb
    by_cases hj : j = i
    · subst hj
      rw [hl] at h3
      injection h3 with h3
      subst h3
      exact .inl ⟨j, o, l, hi, ho, hl, h4⟩
    · rw [AS.set_ne _ _ hj] at h1
      exact .inl ⟨j, oj, lj, h1, h2, h3, h4⟩
  os := hos
  out := hp

/-- An object goes, another one is laid in its block. -/
theorem Sim.moved {ρ : RM} {h h' : Array Obj} {σ : AS} {i j : Nat} {l l' : Loc} {o o' : AObj} (s : Sim ρ h σ) (hi : σ i = some o) (hl : ρ i = some l) (ho : o.own = true)
    (hj : ρ j = none) (hb : l'.block = l.block) (hoth : ∀ b, b ≠ l.block → b < h.size → h'[b]? = h[b]?) (hn : ORel (ρ.set j l') h' l' o') :
    Sim (ρ.set j l') h' ((σ.del i).set j o') := by
  refine (s.kill hi).add hj (fun a oa la e r hv => ?_) (fun b hb' hlt => hoth b (hb ▸ hb') hlt) hn
  by_cases ha : a = i
  · subst ha; rw [AS.del_same] at e; injection e with e; subst e; cases hv
  · rw [AS.del_ne _ ha] at e
    rw [hb]
    exact Ne.symm (s.inj i a o oa l la (Ne.symm ha) hi e hl r ho hv)

theorem Step.moved {ρ : RM} {w w' : World} {σ : AS} {i j : Nat} {l l' : Loc} {o o' : AObj} (hi : σ i = some o) (hl : ρ i = some l) (ho : o.own = true)
    (hj : ρ j = none) (hb : l'.block = l.block) (hs : w'.heap.size = w.heap.size) (hoth : ∀ b, b ≠ l.block → w'.heap[b]? = w.heap[b]?) (hos : w'.os = w.os) (hp : w'.output = w.output) :
    Step ρ w σ (ρ.set j l') w' ((σ.del i).set j o') where
  ext := RM.le_set _ hj
  size := by omega
  frame b _ hn := hoth b fun e => hn ⟨i, o, l, hi, ho, hl, e.symm⟩
  own b hb' := by
    obtain ⟨a, oa, la, h1, h2, h3, h4⟩ := hb'
    by_cases ha : a = j
    · subst ha
      rw [RM.set_same] at h3
      injection h3 with h3
      subst h3
      exact .inl ⟨i, o, l, hi, ho, hl, by rw [← hb, h4]⟩
    · rw [AS.set_ne _ _ ha] at h1
      rw [RM.set_ne _ _ ha] at h3
      by_cases hai : a = i
      · subst hai; rw [AS.del_same] at h1; injection h1 with h1; subst h1; cases h2
      · rw [AS.del_ne _ hai] at h1
        exact .inl ⟨a, oa, la, h1, h2, h3, h4⟩
  os := hos
  out := hp

section cells
variable {ρ : RM} {w : World} {σ : AS} {i : Nat} {k : RK} {cells : List Value} {l : Loc}

theorem Sim.load (s : Sim ρ w.heap σ) (hi : σ i = some (.row k cells)) (hl : ρ i = some l) {o : Nat} {v : Value} (hv : cells[o]? = some v) :
    ∃ cv, w.cell? ⟨l.block, o + l.shift, none⟩ = some cv ∧ VRel ρ v cv ∧ cv.oneCell' = true := by
  obtain ⟨l', h1, c, el, fz, h2, h3, h4, h5, h6⟩ := s.obj i _ hi
  rw [hl] at h1
  injection h1 with h1
  subst h1
  obtain ⟨cv, h7, h8⟩ := h5 o v hv
  exact ⟨cv, by simp [World.cell?, h2, Nat.add_comm o, h7], h8⟩

theorem setCell_heap (w : World) (b o : Nat) (v : Value) (c : Array Value) (el : TypeId) (fz : Nat × Nat) (hb : w.heap[b]? = some (.cells c el fz)) (b' : Nat) :
    (w.setCell ⟨b, o, none⟩ v).heap[b']? = if b' = b then some (.cells (c.setIfInBounds o v) el fz) else w.heap[b']? := by
  unfold World.setCell
  simp only [Array.getElem?_modify]
  by_cases e : b = b'
  · subst e
    simp [hb]
  · rw [if_neg e, if_neg (fun h => e h.symm)]

theorem setCell_size (w : World) (a : Addr) (v : Value) : (w.setCell a v).heap.size = w.heap.size := by simp [World.setCell]

theorem not_frozen {fz : Nat × Nat} {n o : Nat} (h : FzOk k fz n) (hk : k.own = true) (ho : o < n) : (decide (fz.1 ≤ o) && decide (o < fz.2)) = false := by
  cases k with
  | ro => cases hk
  | rw =>
    rcases h with h | h
    · subst h; simp
    · simp; omega
  | plain =>
    have h : fz = (0, 0) := h
    subst h; simp

theorem Sim.store (s : Sim ρ w.heap σ) (hi : σ i = some (.row k cells)) (hl : ρ i = some l) (hk : k.own = true) {o : Nat} (ho : o < cells.length) {v cv : Value} (hv : VRel ρ v cv) (hv1 : cv.oneCell' = true) :
    (∃ u, w.cell? ⟨l.block, o + l.shift, none⟩ = some u) ∧ w.frozen? ⟨l.block, o + l.shift, none⟩ = false ∧
    Sim ρ (w.setCell ⟨l.block, o + l.shift, none⟩ cv).heap (σ.set i (.row k (cells.set o v))) ∧
    Step ρ w σ ρ (w.setCell ⟨l.block, o + l.shift, none⟩ cv) (σ.set i (.row k (cells.set o v))) := by
  obtain ⟨l', h1, c, el, fz, h2, h3, h4, h5, h6⟩ := s.obj i _ hi
  rw [hl] at h1
  injection h1 with h1
  subst h1
  have hlt : o + l.shift < c.size := by omega
  have hoth : ∀ b, b ≠ l.block → (w.setCell ⟨l.block, o + l.shift, none⟩ cv).heap[b]? = w.heap[b]? := fun b hb => by rw [setCell_heap w _ _ _ c el fz h2, if_neg hb]
  refine ⟨⟨c[o + l.shift], by simp [World.cell?, h2, hlt]⟩, ?_, ?_, ?_⟩
  · simp only [World.frozen?, h2]
    exact not_frozen h6.1 hk hlt
  · refine s.upd hi hl hk hoth ⟨c.setIfInBounds (o + l.shift) cv, el, fz, by rw [setCell_heap w _ _ _ c el fz h2, if_pos rfl], by simp [h3], by simpa using h4, ?_, by simpa using h6⟩
    intro j u hu
    rw [List.getElem?_set] at hu
    split at hu
    · rename_i e
      subst e
      have hu : v = u := by simpa [ho] using hu
      subst hu
      exact ⟨cv, by rw [Array.getElem?_setIfInBounds]; simp [Nat.add_comm]; omega, hv, hv1⟩
    · rename_i e
      obtain ⟨cu, h7, h8⟩ := h5 j u hu
      exact ⟨cu, by rw [Array.getElem?_setIfInBounds, if_neg (by omega)]; exact h7, h8⟩
  · exact .upd hi hl hk (setCell_size _ _ _) hoth rfl rfl
end cells

end Go.AI
