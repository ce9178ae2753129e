/- Two readings of one text, of which one may be longer. -/
import Derived.Test.YtfjbhgldbgamhaaTxMono
set_option maxRecDepth 4000
set_option linter.unusedVariables false
set_option linter.unusedSimpArgs false
namespace Go.AI
open Go.Proofs
theorem plR_err {N : AtS → NxR} {m m' : Nat} (hm : m ≤ m') {l r : List Int} {at_ : AtS} {i : Nat} {w : Bool} {e : Int} (h : PlR N m l at_ i r w e) : e ≠ 0 → r = [] ∧ w = false ∧ PlR N m' l at_ i [] false e := by
  induction h with
  | idle _ => exact fun h => absurd rfl h
  | err hi hn => exact fun _ => ⟨rfl, rfl, .err hi hn⟩
  | fin _ _ _ => exact fun h => absurd rfl h
  | ref hi hn hp => exact fun _ => ⟨rfl, rfl, .ref hi hn hp⟩
  | cut _ _ _ _ _ => exact fun h => absurd rfl h
  | more hi hn h1 h3 hc _ ih =>
    intro he
    obtain ⟨g1, g2, g3⟩ := ih he
    exact ⟨g1, g2, .more hi hn h1 h3 (by omega) g3⟩
theorem plR_pre {N : AtS → NxR} (hN : ∀ at_ e, N at_ = .error e → e ≠ 0) {m : Nat} {l r : List Int} {at_ : AtS} {i : Nat} {w : Bool} {e : Int} (h : PlR N m l at_ i r w e) : e = 0 → l <+: r := by
  induction h with
  | idle _ => exact fun _ => List.prefix_rfl
  | err hi hn => exact fun he => absurd he (hN _ _ hn)
  | fin _ _ _ => exact fun _ => List.prefix_rfl
  | ref _ _ _ => intro h; cases h
  | cut _ _ _ _ _ => exact fun _ => List.prefix_append _ _
  | more _ _ _ _ _ _ ih => exact fun he => (List.prefix_append _ _).trans (ih he)
theorem plR_two {N : AtS → NxR} (hN : ∀ at_ e, N at_ = .error e → e ≠ 0) {m m' : Nat} (hm : m ≤ m') {l r : List Int} {at_ : AtS} {i : Nat} {w : Bool} {e : Int} (h : PlR N m l at_ i r w e) :
    e = 0 → ∀ r' w', PlR N m' l at_ i r' w' 0 → r <+: r' ∧ (w = true → w' = true ∧ r' = r) := by
  induction h with
  | idle h =>
    intro _ r' w' h'
    cases h' with
    | idle _ => exact ⟨List.prefix_rfl, fun h => by cases h⟩
    | err h2 _ => exact absurd h2 h
    | fin h2 _ _ => exact absurd h2 h
    | cut h2 _ _ _ _ => exact absurd h2 h
    | more h2 _ _ _ _ _ => exact absurd h2 h
  | err hi hn => exact fun he => absurd he (hN _ _ hn)
  | fin hi hn hp =>
    intro _ r' w' h'
    cases h' with
    | idle h2 => exact absurd hi h2
    | err _ h3 => rw [hn] at h3; cases h3
    | fin _ h3 _ => exact ⟨List.prefix_rfl, fun _ => ⟨rfl, rfl⟩⟩
    | cut _ h3 h4 _ _ => rw [hn] at h3; cases h3; exact absurd hp h4
    | more _ h3 h4 _ _ _ => rw [hn] at h3; cases h3; exact absurd hp h4
  | ref _ _ _ => intro h; cases h
  | @cut l at_ at' i p hi hn h1 h3 hc =>
    intro _ r' w' h'
    cases h' with
    | idle h2 => exact absurd hi h2
    | err _ h4 => rw [hn] at h4; cases h4
    | fin _ h4 h5 => rw [hn] at h4; cases h4; exact absurd h5 h1
    | cut _ h4 _ _ _ =>
      rw [hn] at h4; cases h4
      refine ⟨?_, fun h => by cases h⟩
      have e1 : p.2.take (m - l.length) = (p.2.take (m' - l.length)).take (m - l.length) := by rw [List.take_take, Nat.min_eq_left (by omega)]
      rw [e1]
      exact (List.prefix_append_right_inj l).2 (List.take_prefix _ _)
    | more _ h4 _ _ _ h5 =>
      rw [hn] at h4; cases h4
      refine ⟨?_, fun h => by cases h⟩
      exact ((List.prefix_append_right_inj l).2 (List.take_prefix _ _)).trans (plR_pre hN h5 rfl)
  | more hi hn h1 h3 hc _ ih =>
    intro he r' w' h'
    cases h' with
    | idle h2 => exact absurd hi h2
    | err _ h4 => rw [hn] at h4; cases h4
    | fin _ h4 h5 => rw [hn] at h4; cases h4; exact absurd h5 h1
    | cut _ h4 _ _ h5 => rw [hn] at h4; cases h4; omega
    | more _ h4 _ _ _ h5 => rw [hn] at h4; cases h4; exact ih he r' w' h5
theorem walkL_err {bs : List Int} : ∀ (f : Nat) (node x b e : Int), walkL bs f node x b = .error e → e ≠ 0
  | 0, node, x, b, e, h => by
    simp only [walkL] at h
    split at h
    · cases h; decide
    · split at h
      · cases h
      · cases h; decide
  | f + 1, node, x, b, e, h => by
    simp only [walkL] at h
    split at h
    · cases h; decide
    · split at h
      · cases h
      · split at h
        · cases h; decide
        · split at h
          · cases h; decide
          · exact walkL_err f _ _ _ _ h
theorem leafS_err {bs : List Int} {x e : Int} (h : leafS bs x = .error e) : e ≠ 0 := by
  have one : ∀ {n : Nat}, oneS bs x n = .error e → e ≠ 0 := by
    intro n h
    unfold oneS at h
    split at h
    · cases h; decide
    · cases h
  have row : ∀ {n : Nat}, rowE bs x n = .error e → e ≠ 0 := by
    intro n h
    unfold rowE at h
    split at h
    · cases h; decide
    · cases h
  unfold leafS at h
  split at h
  · cases h; decide
  · unfold leafK at h
    split at h
    · cases h
    split at h
    · exact one h
    split at h
    · exact one h
    split at h
    · exact row h
    split at h
    · exact row h
    split at h
    · unfold refE at h
      split at h
      · cases h
      · cases h; decide
    · cases h; decide
theorem leafS_kind {bs : List Int} {x : Int} {p : Int × List Int} (h : leafS bs x = .ok p) : p.1 = 1 ∨ p.1 = 2 ∨ p.1 = 3 := by
  have one : ∀ {n : Nat}, oneS bs x n = .ok p → p.1 = 1 ∨ p.1 = 2 ∨ p.1 = 3 := by
    intro n h
    unfold oneS at h
    split at h
    · cases h
    · cases h; simp
  have row : ∀ {n : Nat}, rowE bs x n = .ok p → p.1 = 1 ∨ p.1 = 2 ∨ p.1 = 3 := by
    intro n h
    unfold rowE at h
    split at h
    · cases h
    · cases h; simp
  unfold leafS at h
  split at h
  · cases h
  · unfold leafK at h
    split at h
    · cases h; simp
    split at h
    · exact one h
    split at h
    · exact one h
    split at h
    · exact row h
    split at h
    · exact row h
    split at h
    · unfold refE at h
      split at h
      · cases h; simp
      · cases h
    · cases h
theorem nx1_kind {bs : List Int} {n : Nat} {at_ at' : AtS} {p : Int × List Int} (h : nx1 bs n at_ = .ok (p, at')) : p.1 = 1 ∨ p.1 = 2 ∨ p.1 = 3 := by
  unfold nx1 at h
  split at h
  · cases h
  · cases h
    unfold oneP
    split <;> simp
theorem nxA_kind {bs : List Int} {t : Int} {at_ at' : AtS} {p : Int × List Int} (h : nxA bs t at_ = .ok (p, at')) : p.1 = 1 ∨ p.1 = 2 ∨ p.1 = 3 := by
  unfold nxA at h
  split at h
  · exact nx1_kind h
  · split at h
    · exact nx1_kind h
    · unfold nxP at h
      split at h
      · cases h
      · split at h
        · cases h
        · rename_i hp
          cases h
          exact leafS_kind hp
theorem nxA_err {bs : List Int} {t : Int} : ∀ (at_ : AtS) (e : Int), nxA bs t at_ = .error e → e ≠ 0 := by
  intro at_ e h
  have one : ∀ {n : Nat}, nx1 bs n at_ = .error e → e ≠ 0 := by
    intro n h
    unfold nx1 at h
    split at h
    · cases h; decide
    · cases h
  unfold nxA at h
  split at h
  · exact one h
  · split at h
    · exact one h
    · unfold nxP at h
      split at h
      · rename_i hw
        cases h
        unfold walkS at hw
        split at hw
        · cases hw; decide
        · split at hw
          · cases hw; decide
          · split at hw
            · cases hw; decide
            · exact walkL_err _ _ _ _ _ hw
      · split at h
        · rename_i hp
          cases h
          exact leafS_err hp
        · cases h
theorem bgS_err {bs : List Int} {x : Int} : (bgS bs x).2 = 0 ∨ (bgS bs x).2 = 90 ∨ (bgS bs x).2 = 120 := by
  unfold bgS
  split
  · simp
  · split
    · simp
    · split <;> simp
end Go.AI
