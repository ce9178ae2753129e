/- What is known of slices.AppendSeq and slices.Grow, for the abstract reckoning; no condition. -/
import Derived.Test.YtfjbhgldbgamhaaTxGrow
set_option maxRecDepth 4000
set_option linter.unusedVariables false
set_option linter.unusedSimpArgs false
namespace Go.AI
open Go.Proofs Go.RowKit Go.Maps Go.Shelf
/-- What is asked ahead of slices.Grow(nil, n). -/
def gGrow (args : List Value) (σ : AS) (K : Value → AS → Prop) : Prop :=
  match args with
  | [.slice none 0 _, .int .i64 (.ofNat n)] => match n with
    | 0 => K (.slice none 0 0) σ
    | n + 1 => req (n + 1 ≤ 1048576) <| newAt σ (.row .rw []) fun i σ => K (.slice (some ⟨i, 0, none⟩) 0 1) σ
  | _ => False
theorem grow_tri {args : List Value} {σ : AS} {K : Value → AS → Prop} (h : gGrow args σ K) : Tri Try.prog 40 args σ K := by
  unfold gGrow at h
  split at h
  case h_2 => exact h.elim
  case h_1 e0 n =>
    refine ⟨fun ρ w cargs hc s => ?_⟩
    rcases hc with _ | ⟨hv0, hc⟩
    rcases hc with _ | ⟨hv1, hc⟩
    cases hc
    cases hv0
    cases hv1
    have hent : (callFunc 40 ⟨[.slice none 0 0, .int .i64 (.ofNat n)]⟩).run Try.prog w = .ok (.enter 40 ⟨[.slice none 0 0, .int .i64 (.ofNat n)]⟩) w :=
      enters_of Try.func40 (by kernel_rfl) rfl _ _
    refine ⟨_, _, hent, ?_⟩
    cases n with
    | zero =>
      refine (txGrow_room w).mono ?_
      rintro e w' ⟨rfl, rfl⟩
      exact ⟨_, rfl, .slice none 0 0, ρ, σ, h, .nilslice 0, s, Step.refl _ _ _⟩
    | succ n =>
      obtain ⟨hn, h⟩ := req_iff.1 h
      refine (txGrow_grow (n + 1) w (by omega) hn).mono ?_
      rintro e w' ⟨c, rfl, rfl⟩
      refine ⟨_, rfl, ?_⟩
      obtain ⟨i, ρ', h1, h2, h3, h4⟩ := sim_new s (k := .rw) (cells := []) (c := c) (e := 5) (w' := w.drew.alloc (.cells c 5)) (by intro j v hv; simp at hv) (by simp) rfl rfl rfl h
      exact ⟨_, ρ', _, h1, .slice h2 (Nat.zero_le _) (.inl rfl) (by simp), h3, h4⟩
def txE : Ex := fun f => match Nat.beq f 48 with
  | true => some gAS
  | false => match Nat.beq f 40 with
    | true => some gGrow
    | false => none
theorem txE_sound : ∀ f g, txE f = some g → ∀ args σ K, g args σ K → Tri Try.prog f args σ K := by
  intro f g h args σ K hg
  unfold txE at h
  split at h
  · rename_i e
    injection h with h
    subst h
    obtain rfl := Nat.eq_of_beq_eq_true e
    exact as_tri hg
  · split at h
    · rename_i e
      injection h with h
      subst h
      obtain rfl := Nat.eq_of_beq_eq_true e
      exact grow_tri hg
    · cases h
end Go.AI
