/- slices.AppendSeq of nil and slices.Values: as the abstract states see it; no condition. -/
import Derived.Test.YtfjbhgldbgamhaaTxSeq
import Derived.Test.YtfjbhgldbgamhaaAISep
set_option maxRecDepth 4000
set_option linter.unusedVariables false
set_option linter.unusedSimpArgs false
namespace Go.AI
open Go.Proofs Go.RowKit Go.Maps Go.Shelf
def isU32 : Value → Bool
  | .int .u32 _ => true
  | _ => false
/-- What is asked ahead of slices.AppendSeq(nil, slices.Values(s)). -/
def gAS (args : List Value) (σ : AS) (K : Value → AS → Prop) : Prop :=
  match args with
  | [.slice none 0 _, .func (.func 47) ⟨[]⟩ ⟨[.pointer (some ⟨i, o, none⟩)]⟩] => ldc σ ⟨i, o, none⟩ fun v => match v with
    | .slice a n e => match n with
      | 0 => K (.slice none 0 0) σ
      | n + 1 => pSome a fun a => req (e = 1) <| lds σ a (n + 1) fun cells => chk (cells.all isU32) <| req ((n + 1) * 4 ≤ 1048576) <| newAt σ (.row .rw cells) fun i σ => K (.slice (some ⟨i, 0, none⟩) (n + 1) 1) σ
    | _ => False
  | _ => False
theorem all_u32 : ∀ {cs : List Value}, cs.all isU32 = true → ∃ zs : List Int, cs = zs.map encU
  | [], _ => ⟨[], rfl⟩
  | c :: cs, h => by
    simp only [List.all_cons, Bool.and_eq_true] at h
    obtain ⟨zs, rfl⟩ := all_u32 h.2
    obtain ⟨x, rfl⟩ : ∃ x, c = encU x := by
      revert h
      cases c with
      | int k m =>
        cases k <;> intro h
        all_goals first | exact ⟨m, rfl⟩ | exact absurd (show false = true from h.1) (by decide)
      | _ => intro h; exact absurd h.1 (by simp [isU32])
    exact ⟨x :: zs, rfl⟩
theorem Sim.below {ρ : RM} {w w' : World} {σ : AS} (s : Sim ρ w.heap σ) (hb : Below w.heap.size w w') : Sim ρ w'.heap σ where
  obj i o e := by
    obtain ⟨l, h1, h2⟩ := s.obj i o e
    refine ⟨l, h1, ?_⟩
    cases hl : o.live with
    | false =>
      have hd : o = .dead := dead_of (by rw [hl]; decide)
      subst hd
      trivial
    | true => exact h2.keep (RM.le_refl _) (hb.block _ (h2.lt hl))
  inj := s.inj
  dom := s.dom
theorem step_below {ρ : RM} {w w' : World} {σ : AS} (hb : Below w.heap.size w w') : Step ρ w σ ρ w' σ :=
  ⟨RM.le_refl _, hb.size, fun b h _ => hb.block b h, fun b h => .inl h, hb.os, hb.output⟩
theorem as_tri {args : List Value} {σ : AS} {K : Value → AS → Prop} (h : gAS args σ K) : Tri Try.prog 48 args σ K := by
  unfold gAS at h
  split at h
  case h_2 => exact h.elim
  case h_1 e0 i o =>
    refine ⟨fun ρ w cargs hc s => ?_⟩
    rcases hc with _ | ⟨hv0, hc⟩
    rcases hc with _ | ⟨hv1, hc⟩
    cases hc
    cases hv0
    cases hv1 with
    | func _ ha hd =>
    cases ha
    rcases hd with _ | ⟨hp, hd⟩
    cases hd
    cases hp with
    | ptr hl =>
    rename_i l
    unfold ldc at h
    cases hcell : σ.cell ⟨i, o, none⟩ with
    | none => rw [hcell] at h; exact h.elim
    | some v =>
    rw [hcell] at h
    simp only [pSome_some] at h
    obtain ⟨_, k, cs, h1, h2⟩ := AS.cell_elim hcell
    obtain ⟨cv, hcv, rv, _⟩ := s.load h1 hl h2
    have hBlt : l.block < w.heap.size := by
      obtain ⟨l', e1, e2⟩ := s.obj _ _ h1
      rw [hl] at e1
      injection e1 with e1
      subst e1
      exact e2.lt rfl
    have hent : (callFunc 48 ⟨[.slice none 0 0, .func (.func 47) ⟨[]⟩ ⟨[.pointer (some ⟨l.block, o + l.shift, none⟩)]⟩]⟩).run Try.prog w = .ok (.enter 48 ⟨[.slice none 0 0, .func (.func 47) ⟨[]⟩ ⟨[.pointer (some ⟨l.block, o + l.shift, none⟩)]⟩]⟩) w :=
      enters_of Try.func48 (by kernel_rfl) rfl _ _
    refine ⟨_, _, hent, ?_⟩
    have none_case : (∃ a cap, w.cell? ⟨l.block, o + l.shift, none⟩ = some (.slice a 0 cap)) → K (.slice none 0 0) σ → After Try.prog (.enter 48 ⟨[.slice none 0 0, .func (.func 47) ⟨[]⟩ ⟨[.pointer (some ⟨l.block, o + l.shift, none⟩)]⟩]⟩) w fun cv w' => ∃ v ρ' σ', K v σ' ∧ VRel ρ' v cv ∧ Sim ρ' w'.heap σ' ∧ Step ρ w σ ρ' w' σ' := by
      rintro ⟨a, cap, hx⟩ hK
      refine (callsIn_wide.1 (txAppendSeq_in Fence.wide 2 trivial rfl (Nat.le_refl _) trivial l.block (o + l.shift) [] 0 (by decide) (by decide) w hBlt (.inl ⟨a, cap, hx, rfl⟩))).mono ?_
      rintro e w' ⟨v, rfl, hrow, hnil, hb⟩
      obtain rfl := hnil.2 rfl
      exact ⟨_, rfl, .slice none 0 0, ρ, σ, hK, .nilslice 0, s.below hb, step_below hb⟩
    cases rv with
    | bool _ => exact h.elim
    | int _ _ => exact h.elim
    | str _ => exact h.elim
    | nilptr => exact h.elim
    | ptr _ => exact h.elim
    | nilmap => exact h.elim
    | map _ => exact h.elim
    | nilfunc => exact h.elim
    | func _ _ _ => exact h.elim
    | nilif => exact h.elim
    | iface _ _ => exact h.elim
    | agg _ _ => exact h.elim
    | tuple _ => exact h.elim
    | nilslice e => exact none_case ⟨_, _, hcv⟩ h
    | emp hi he => exact none_case ⟨_, _, hcv⟩ h
    | slice hi hn ho hs =>
      rename_i i2 o2 n e cap o' l2 _
      cases n with
      | zero => exact none_case ⟨_, _, hcv⟩ h
      | succ n =>
        simp only [pSome_some] at h
        obtain ⟨rfl, h⟩ := req_iff.1 h
        unfold lds at h
        cases hcs : σ.cells ⟨i2, o2, none⟩ (n + 1) with
        | none => rw [hcs] at h; exact h.elim
        | some vs =>
        rw [hcs] at h
        simp only [pSome] at h
        obtain ⟨hall, h⟩ := chk_elim h
        obtain ⟨hbytes, h⟩ := req_iff.1 h
        obtain ⟨zs, rfl⟩ := all_u32 hall
        have ho' : o' = o2 + l2.shift := ho.resolve_left (by omega)
        subst ho'
        rcases AS.cells_elim hcs with ⟨hz, _⟩ | ⟨_, k2, cs2, g1, g2, g3⟩
        · omega
        have hlen : zs.length = n + 1 := by
          have := congrArg List.length g3
          simp at this
          simp at g2
          omega
        have hb2 : l2.block < w.heap.size := by
          obtain ⟨l', e1, e2⟩ := s.obj _ _ g1
          rw [hi] at e1
          injection e1 with e1
          subst e1
          exact e2.lt rfl
        have hcells : ∀ j, j < zs.length → w.cell? ⟨l2.block, o2 + l2.shift + j, none⟩ = some (.int .u32 (zs[j]?.getD 0)) := by
          intro j hj
          have hzj : (zs.map encU)[j]? = some (encU (zs[j]?.getD 0)) := by simp [hj]
          have hcj : cs2[o2 + j]? = some (encU (zs[j]?.getD 0)) := by
            rw [g3] at hzj
            rw [List.getElem?_take, List.getElem?_drop] at hzj
            split at hzj
            · exact hzj
            · cases hzj
          obtain ⟨cv, q1, q2, _⟩ := s.load g1 hi hcj
          cases q2
          rw [← q1]
          congr 2
          omega
        refine (callsIn_wide.1 (txAppendSeq_in Fence.wide 2 trivial rfl (Nat.le_refl _) trivial l.block (o + l.shift) zs (n + 1) (by simp only [maxLen]; omega) (by omega) w hBlt (.inr ⟨l2.block, o2 + l2.shift, cap, by rw [hlen]; exact hcv, hb2, by omega, hcells⟩))).mono ?_
        rintro e w' ⟨v, rfl, hrow, hnil, hb⟩
        refine ⟨_, rfl, ?_⟩
        rcases hrow.2 with ⟨rfl, h0⟩ | ⟨g, cap', cur, rfl, hbg, hg, hnc, hcm, hsz, htk⟩
        · omega
        rw [hlen] at hnc htk ⊢
        refine ⟨.slice (some ⟨σ.n, 0, none⟩) (n + 1) 1, ρ.set σ.n ⟨g, 0, cap'⟩, _, h, ?_, ?_, ?_⟩
        · exact .slice (RM.set_same _ _ _) hnc (.inr (by simp)) (by simp)
        · refine s.add s.fresh (fun i o li e r hv => ?_) (fun b hb' hlt => hb.block b hlt) ?_
          · obtain ⟨l, q1, q2⟩ := s.obj i o e
            rw [r] at q1
            injection q1 with q1
            subst q1
            have := q2.lt hv
            simp only
            omega
          · refine ⟨cur, 22, (0, 0), hg, by simp only; omega, by simp; omega, ?_, .inl rfl⟩
            intro j v hv
            rw [← htk, Nat.mul_one] at hv
            rw [List.getElem?_take] at hv
            split at hv
            · have hm : v ∈ zs.map encU := by
                rw [← htk, Nat.mul_one]
                exact List.mem_of_getElem? (by rw [List.getElem?_take]; rename_i hlt; rw [if_pos hlt]; exact hv)
              obtain ⟨x, _, rfl⟩ := List.mem_map.1 hm
              refine ⟨encU x, ?_, .int _ _, rfl⟩
              simp only [Nat.zero_add]
              rw [← Array.getElem?_toList]; exact hv
            · cases hv
        · refine ⟨RM.le_set _ s.fresh, hb.size, fun b h _ => hb.block b h, ?_, hb.os, hb.output⟩
          rintro b ⟨i, o, li, q1, q2, q3, q4⟩
          by_cases hi' : i = σ.n
          · subst hi'
            rw [RM.set_same] at q3
            injection q3 with q3
            subst q3
            exact .inr (by simp only at q4; omega)
          · rw [AS.set_ne _ _ hi'] at q1
            rw [RM.set_ne _ _ hi'] at q3
            exact .inl ⟨i, o, li, q1, q2, q3, q4⟩
end Go.AI
