/- Lemmas of the abstract condition ahead of code (a part of the library that the claim's proof stands on); they hold with no condition but those that each names. -/
import Derived.Test.YtpgedoljndppdaaGreatAISep
import Derived.Test.YtpgedoljndppdaaGreatAISepTop
import Derived.Sort.Grow
import Derived.Sort.Row
set_option linter.unusedVariables false
set_option linter.unusedSimpArgs false
/- A call that puts a row's cells in another order: from what the kit has proved of it to a contract over abstract states. -/
namespace Go.AI
open Go.Sort
theorem grow_heap (w : World) (os : Array Obj) : (grow w os).heap = w.heap ++ os := rfl
theorem get_app_lt {h os : Array Obj} {b : Nat} (hb : b < h.size) : (h ++ os)[b]? = h[b]? := by
  rw [Array.getElem?_append, if_pos hb]
/-- New blocks behind all. -/
theorem Sim.grown {ρ : RM} {h : Array Obj} {σ : AS} (s : Sim ρ h σ) (os : Array Obj) : Sim ρ (h ++ os) σ where
  obj i o e := by
    obtain ⟨l, h1, h2⟩ := s.obj i o e
    refine ⟨l, h1, ?_⟩
    cases hl : o.live with
    | false =>
      have hd : o = .dead := dead_of (by rw [hl]; decide)
      subst hd
      trivial
    | true => exact h2.keep (RM.le_refl _) (get_app_lt (h2.lt hl))
  inj := s.inj
  dom := s.dom
theorem heap_putRow {α : Type} [Inhabited α] (enc : α → Value) (w : World) (blk off : Nat) (d : Array α) {c : Array Value} {el : TypeId} {fz : Nat × Nat} (hb : w.heap[blk]? = some (.cells c el fz)) (b : Nat) :
    (putRow enc w blk off d).heap[b]? = if b = blk then some (.cells (putCells enc off d c) el fz) else w.heap[b]? := by
  unfold putRow mapBlock
  simp only [Array.getElem?_modify]
  by_cases e : blk = b
  · subst e
    simp [hb, onCells]
  · rw [if_neg e, if_neg (fun h => e h.symm)]
theorem size_putRow {α : Type} [Inhabited α] (enc : α → Value) (w : World) (blk off : Nat) (d : Array α) : (putRow enc w blk off d).heap.size = w.heap.size := by
  unfold putRow mapBlock; simp
section
variable {P : Program} {f : FuncId} {α : Type} [Inhabited α] {enc : α → Value} {le : α → α → Bool}
/-- What is asked of such a call. -/
def SortsTo (P : Program) (f : FuncId) (enc : α → Value) (so : List α → List α) : Prop :=
  ∀ (blk off cap : Nat) (zs : List α) (w : World), Holds enc w blk off zs.toArray → blk < w.heap.size → zs.length < 4611686018427387904 →
    Calls P f #[.slice (some ⟨blk, off, none⟩) zs.length cap] w fun e w' => e = .returned (.tuple #[]) ∧ ∃ n os, w' = grow (putRow enc (Sort.ahead w n) blk off (so zs).toArray) os
theorem tri_sort {so : List α → List α} (hen : ∀ args w, (callFunc f args).run P w = .ok (.enter f args) w) (hS : SortsTo P f enc so) (hlen : ∀ zs, (so zs).length = zs.length)
    (henc : ∀ (ρ : RM) (x : α) (cv : Value), VRel ρ (enc x) cv → cv = enc x) (hrel : ∀ (ρ : RM) (x : α), VRel ρ (enc x) (enc x)) (hone : ∀ x, (enc x).oneCell' = true)
    {σ : AS} {j : Nat} {k : RK} {zs : List α} {X : List (Nat × AObj)} {K : Value → AS → Prop} (H : Has σ ((j, .row k (zs.map enc)) :: X)) (hk : k.own = true) (hne : zs ≠ []) (hbig : zs.length ≤ 1048576)
    (hK : ∀ σ', Has σ' ((j, .row k ((so zs).map enc)) :: X) → K (.tuple ⟨[]⟩) σ') : Tri P f [.slice (some ⟨j, 0, none⟩) zs.length 1] σ K := by
  refine ⟨fun ρ w cargs hc hs => ?_⟩
  have hpos : 0 < zs.length := List.length_pos_iff.2 hne
  cases hc with
  | cons h1 h2 =>
    cases h2
    generalize hzl : zs.length = zl at h1
    cases h1 with
    | emp h he => omega
    | slice hl hn ho hsz hw =>
      rename_i cap o' l
      have ho' : o' = 0 + l.shift := ho.resolve_left (by omega)
      subst ho'
      subst hzl
      have hσ : σ j = some (.row k (zs.map enc)) := H.2 _ (List.mem_cons_self ..)
      obtain ⟨l', e1, c, el, fz, g1, g2, g3, g4, g5⟩ := hs.obj j _ hσ
      rw [hl] at e1
      cases e1
      rw [List.length_map] at g3
      have hblk : l.block < w.heap.size := by
        rcases Nat.lt_or_ge l.block w.heap.size with hl | hl
        · exact hl
        · simp [Array.getElem?_eq_none hl] at g1
      have hcell : ∀ q (hq : q < zs.length), c[l.shift + q]? = some (enc zs[q]) := by
        intro q hq
        obtain ⟨cv, h1, h2, _⟩ := g4 q (enc zs[q]) (by simp [hq])
        rw [henc _ _ _ h2] at h1
        exact h1
      have hH : Holds enc w l.block (0 + l.shift) zs.toArray := by
        intro q hq
        have hq' : q < zs.length := by simpa using hq
        have e : zs.toArray[q]! = zs[q] := by simp [hq']
        refine ⟨?_, ?_⟩
        · rw [e]
          simp only [World.cell?, g1, Nat.zero_add]
          exact hcell q hq'
        · simp only [World.frozen?, g1, Nat.zero_add]
          exact not_frozen g5.1 hk (by omega)
      refine ⟨_, _, hen _ _, ?_⟩
      show Calls P f _ w _
      refine (hS l.block (0 + l.shift) _ zs w hH hblk (by omega)).mono ?_
      rintro e w' ⟨rfl, n, os, rfl⟩
      refine ⟨_, rfl, .tuple ⟨[]⟩, ρ, σ.set j (.row k ((so zs).map enc)), hK _ ?_, .tuple .nil, ?_, ?_⟩
      · have := H.upd 0 rfl (.row k ((so zs).map enc))
        simpa using this
      · rw [grow_heap]
        refine Sim.grown ?_ os
        have hb : (Sort.ahead w n).heap[l.block]? = some (.cells c el fz) := g1
        refine hs.upd hσ hl hk (fun b hb' => ?_) ⟨putCells enc (0 + l.shift) (so zs).toArray c, el, fz, ?_, ?_, ?_, ?_, ?_⟩
        · rw [heap_putRow enc _ _ _ _ hb, if_neg hb']; rfl
        · rw [heap_putRow enc _ _ _ _ hb, if_pos rfl]
        · simp [putCells, g2]
        · rw [List.length_map, hlen]; simp [putCells, g3]
        · intro q v hv
          rw [List.getElem?_map] at hv
          cases hq : (so zs)[q]? with
          | none => rw [hq] at hv; cases hv
          | some x =>
            rw [hq] at hv
            cases hv
            have hql : q < (so zs).length := (List.getElem?_eq_some_iff.1 hq).1
            refine ⟨enc x, ?_, hrel _ _, hone _⟩
            unfold putCells
            rw [Array.getElem?_mapIdx]
            have hlt : l.shift + q < c.size := by rw [hlen] at hql; omega
            rw [Array.getElem?_eq_getElem hlt]
            simp only [Option.map_some]
            have hsz2 : (so zs).toArray.size = (so zs).length := by simp
            rw [if_pos (by rw [hsz2]; omega)]
            have e2 : l.shift + q - (0 + l.shift) = q := by omega
            rw [e2]
            congr 2
            have := (List.getElem?_eq_some_iff.1 hq).2
            simp [hql, this]
        · have : (putCells enc (0 + l.shift) (so zs).toArray c).size = c.size := by simp [putCells]
          rw [this]
          exact ⟨g5.1, fun hk2 => by have := g5.2 hk2; rw [List.length_map] at this ⊢; rw [hlen]; exact this⟩
      · have st : Step ρ w σ ρ (putRow enc (Sort.ahead w n) l.block (0 + l.shift) (so zs).toArray) (σ.set j (.row k ((so zs).map enc))) := by
          have hb : (Sort.ahead w n).heap[l.block]? = some (.cells c el fz) := g1
          refine Step.upd hσ hl hk (by rw [size_putRow]; rfl) (fun b hb' => ?_) rfl rfl
          rw [heap_putRow enc _ _ _ _ hb, if_neg hb']; rfl
        refine st.trans ⟨RM.le_refl _, ?_, fun b hb _ => ?_, fun b h => .inl h, rfl, rfl⟩
        · rw [grow_heap]; simp
        · rw [grow_heap]; exact get_app_lt hb
/-- Of no element: nothing is done. -/
theorem tri_sort_none (hen : ∀ args w, (callFunc f args).run P w = .ok (.enter f args) w) (hN : ∀ (p : Option Addr) (cap : Nat) (w : World), Calls P f #[.slice p 0 cap] w fun e w' => e = .returned (.tuple #[]) ∧ w' = w)
    {σ : AS} {a : Option Addr} {e : Nat} {K : Value → AS → Prop} (hK : K (.tuple ⟨[]⟩) σ) : Tri P f [.slice a 0 e] σ K := by
  refine ⟨fun ρ w cargs hc hs => ?_⟩
  cases hc with
  | cons h1 h2 =>
    cases h2
    have key : ∀ (p : Option Addr) (cap : Nat), ∃ nx w1, (callFunc f ⟨[.slice p 0 cap]⟩).run P w = .ok nx w1 ∧ After P nx w1 fun cv w' => ∃ v ρ' σ', K v σ' ∧ VRel ρ' v cv ∧ Sim ρ' w'.heap σ' ∧ Step ρ w σ ρ' w' σ' := by
      intro p cap
      refine ⟨_, _, hen _ _, ?_⟩
      show Calls P f _ w _
      refine (hN p cap w).mono ?_
      rintro e w' ⟨rfl, rfl⟩
      exact ⟨_, rfl, .tuple ⟨[]⟩, ρ, σ, hK, .tuple .nil, hs, .refl _ _ _⟩
    cases h1 with
    | nilslice e => exact key _ _
    | slice h hn ho hsz hw => exact key _ _
    | emp h he => exact key _ _
end
end Go.AI
