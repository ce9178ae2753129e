/- Lemmas of the abstract condition ahead of code (a part of the library that the claim's proof stands on); they hold with no condition but those that each names. -/
import Derived.Test.YtfjbhgldbgamhaaTyWalk
import Derived.Test.YtfjbhgldbgamhaaTyRows
import Derived.Test.YtfjbhgldbgamhaaTyForm1
section
/- What is read of a memory is read of a longer one; a text has one reading. -/
set_option maxRecDepth 4000
set_option linter.unusedVariables false
set_option linter.unusedSimpArgs false
namespace Go.AI
open Go.Proofs
theorem rd_mono {bs tl : List Int} {x : Int} {n : Nat} {v : Int} (h : rd bs x n = some v) : rd (bs ++ tl) x n = some v := by
  unfold rd at h ⊢
  split at h
  · rename_i hc
    rw [if_pos (by rw [List.length_append]; omega)]
    rw [← h, List.drop_append_of_le_length (by omega), List.take_append_of_le_length (by rw [List.length_drop]; omega)]
  · cases h
theorem rowS_mono {bs tl : List Int} {n : Nat} : ∀ (f : Nat) (x : Int) (l : List Int), rowS bs n f x = some l → ∀ f', f ≤ f' → rowS (bs ++ tl) n f' x = some l
  | 0, x, l, h, _, _ => by simp [rowS] at h
  | f + 1, x, l, h, f', hf => by
    obtain ⟨g, rfl⟩ : ∃ g, f' = g + 1 := ⟨f' - 1, by omega⟩
    simp only [rowS] at h ⊢
    cases hr : rd bs x n with
    | none => rw [hr] at h; cases h
    | some c =>
      rw [hr] at h
      rw [rd_mono hr]
      simp only at h ⊢
      by_cases hc : c = 0
      · rw [if_pos hc] at h ⊢; exact h
      · rw [if_neg hc] at h ⊢
        cases hq : rowS bs n f (w32 (x + w32 n)) with
        | none => rw [hq] at h; cases h
        | some l2 =>
          rw [hq] at h
          rw [rowS_mono f _ l2 hq g (by omega)]
          exact h
theorem rowS_len {bs : List Int} {n : Nat} : ∀ (f : Nat) (x : Int) (l : List Int), rowS bs n f x = some l → l.length ≤ f
  | 0, x, l, h => by simp [rowS] at h
  | f + 1, x, l, h => by
    simp only [rowS] at h
    split at h
    · cases h
    · split at h
      · cases h; simp
      · rename_i c _ _
        cases hq : rowS bs n f (w32 (x + w32 n)) with
        | none => rw [hq] at h; cases h
        | some l2 =>
          rw [hq] at h
          cases h
          have := rowS_len f _ l2 hq
          simp only [List.length_cons]
          omega
theorem argsS_mono {bs tl : List Int} {x n : Int} : ∀ (f i : Nat), argsS bs x n f i = true → ∀ f', f ≤ f' → argsS (bs ++ tl) x n f' i = true
  | 0, i, h, _, _ => by simp [argsS] at h
  | f + 1, i, h, f', hf => by
    obtain ⟨g, rfl⟩ : ∃ g, f' = g + 1 := ⟨f' - 1, by omega⟩
    simp only [argsS] at h ⊢
    by_cases hi : (i : Int) < n
    · rw [if_pos hi] at h ⊢
      cases hr : rd bs (w32 (w32 (x + 9) + w32 (4 * (i : Int)))) 4 with
      | none => rw [hr] at h; cases h
      | some v =>
        rw [hr] at h
        rw [rd_mono hr]
        exact argsS_mono f (i + 1) h g (by omega)
    · rw [if_neg hi]
theorem refT_mono {bs tl : List Int} {x k : Int} (h : refT bs x k = true) : refT (bs ++ tl) x k = true := by
  unfold refT at h ⊢
  by_cases hk : k < 10
  · rw [if_pos hk]
  · rw [if_neg hk] at h ⊢
    cases hr : rd bs (w32 (x + 5)) 4 with
    | none => rw [hr] at h; cases h
    | some v =>
      rw [hr] at h
      rw [rd_mono hr]
      exact argsS_mono _ _ h _ (by rw [List.length_append]; omega)
theorem refS_mono {bs tl : List Int} {x k : Int} (h : refS bs x k = true) : refS (bs ++ tl) x k = true := by
  unfold refS at h ⊢
  cases hr : rd bs (w32 (x + 1)) 4 with
  | none => rw [hr] at h; cases h
  | some v =>
    rw [hr] at h
    rw [rd_mono hr]
    simp only at h ⊢
    by_cases hk : Int.tmod k 2 = 1
    · rw [if_pos hk] at h ⊢
      cases hr2 : rd bs v 4 with
      | none => rw [hr2] at h; cases h
      | some v2 =>
        rw [hr2] at h
        rw [rd_mono hr2]
        exact refT_mono h
    · rw [if_neg hk] at h ⊢
      exact refT_mono h
theorem oneS_mono {bs tl : List Int} {x : Int} {n : Nat} (h : oneS bs x n ≠ .error 90) : oneS (bs ++ tl) x n = oneS bs x n := by
  unfold oneS at h ⊢
  cases hr : rd bs (w32 (x + 1)) n with
  | none => rw [hr] at h; exact absurd rfl h
  | some v => rw [rd_mono hr]
theorem rowE_mono {bs tl : List Int} {x : Int} {n : Nat} (h : rowE bs x n ≠ .error 90) : rowE (bs ++ tl) x n = rowE bs x n := by
  unfold rowE at h ⊢
  cases hr : rowS bs n (bs.length + 1) (w32 (x + 1)) with
  | none => rw [hr] at h; exact absurd rfl h
  | some v => rw [rowS_mono _ _ _ hr _ (by rw [List.length_append]; omega)]
theorem refE_mono {bs tl : List Int} {x k : Int} (h : refE bs x k ≠ .error 90) : refE (bs ++ tl) x k = refE bs x k := by
  unfold refE at h ⊢
  cases hr : refS bs x k with
  | false => rw [hr] at h; exact absurd rfl h
  | true => rw [refS_mono hr]
theorem leafS_mono {bs tl : List Int} {x : Int} (h : leafS bs x ≠ .error 90) : leafS (bs ++ tl) x = leafS bs x := by
  unfold leafS at h ⊢
  cases hr : rd bs x 1 with
  | none => rw [hr] at h; exact absurd rfl h
  | some k =>
    rw [hr] at h
    rw [rd_mono hr]
    simp only at h ⊢
    unfold leafK at h ⊢
    by_cases c1 : k = 1
    · rw [if_pos c1, if_pos c1]
    rw [if_neg c1] at h; rw [if_neg c1, if_neg c1]
    by_cases c2 : k = 2
    · rw [if_pos c2] at h; rw [if_pos c2, if_pos c2]; exact oneS_mono h
    rw [if_neg c2] at h; rw [if_neg c2, if_neg c2]
    by_cases c4 : k = 4
    · rw [if_pos c4] at h; rw [if_pos c4, if_pos c4]; exact oneS_mono h
    rw [if_neg c4] at h; rw [if_neg c4, if_neg c4]
    by_cases c3 : k = 3
    · rw [if_pos c3] at h; rw [if_pos c3, if_pos c3]; exact rowE_mono h
    rw [if_neg c3] at h; rw [if_neg c3, if_neg c3]
    by_cases c5 : k = 5
    · rw [if_pos c5] at h; rw [if_pos c5, if_pos c5]; exact rowE_mono h
    rw [if_neg c5] at h; rw [if_neg c5, if_neg c5]
    by_cases c8 : k = 8 ∨ k = 9 ∨ k = 10 ∨ k = 11
    · rw [if_pos c8] at h; rw [if_pos c8, if_pos c8]; exact refE_mono h
    rw [if_neg c8, if_neg c8]
theorem walkL_mono {bs tl : List Int} : ∀ (f : Nat) (node x b : Int), walkL bs f node x b ≠ .error 90 → walkL (bs ++ tl) f node x b = walkL bs f node x b
  | 0, node, x, b, h => by
    simp only [walkL] at h ⊢
    cases hr : rd bs node 1 with
    | none => rw [hr] at h; exact absurd rfl h
    | some k => rw [rd_mono hr]
  | f + 1, node, x, b, h => by
    simp only [walkL] at h ⊢
    cases hr : rd bs node 1 with
    | none => rw [hr] at h; exact absurd rfl h
    | some k =>
      rw [hr] at h
      rw [rd_mono hr]
      simp only at h ⊢
      by_cases hk : k ≠ 0
      · rw [if_pos hk, if_pos hk]
      rw [if_neg hk] at h; rw [if_neg hk, if_neg hk]
      cases hr2 : rd bs x 1 with
      | none => rw [hr2] at h; exact absurd rfl h
      | some bits =>
        rw [hr2] at h
        rw [rd_mono hr2]
        simp only at h ⊢
        cases hr3 : rd bs (na node bits b) 4 with
        | none => rw [hr3] at h; exact absurd rfl h
        | some nd =>
          rw [hr3] at h
          rw [rd_mono hr3]
          exact walkL_mono f _ _ _ h
theorem walkS_mono {bs tl : List Int} {t x b : Int} (h : walkS bs t x b ≠ .error 90) : walkS (bs ++ tl) t x b = walkS bs t x b := by
  unfold walkS at h ⊢
  by_cases ht : t = 0
  · rw [if_pos ht, if_pos ht]
  rw [if_neg ht] at h; rw [if_neg ht, if_neg ht]
  by_cases hb : b > 7
  · rw [if_pos hb, if_pos hb]
  rw [if_neg hb] at h; rw [if_neg hb, if_neg hb]
  cases hr : rd bs (w32 (t + 8)) 4 with
  | none => rw [hr] at h; exact absurd rfl h
  | some nd =>
    rw [hr] at h
    rw [rd_mono hr]
    exact walkL_mono _ _ _ _ h
/-- The next piece, whichever kind of text it is. -/
def nxA (bs : List Int) (t : Int) (at_ : AtS) : NxR := if at_.k = 226 then nx1 bs 4 at_ else if at_.k = 224 then nx1 bs 1 at_ else nxP bs t at_
theorem nx1_mono {bs tl : List Int} {n : Nat} {at_ : AtS} (h : nx1 bs n at_ ≠ .error 90) : nx1 (bs ++ tl) n at_ = nx1 bs n at_ := by
  unfold nx1 at h ⊢
  cases hr : rd bs at_.x n with
  | none => rw [hr] at h; exact absurd rfl h
  | some v => rw [rd_mono hr]
theorem nxP_mono {bs tl : List Int} {t : Int} {at_ : AtS} (h : nxP bs t at_ ≠ .error 90) : nxP (bs ++ tl) t at_ = nxP bs t at_ := by
  unfold nxP at h ⊢
  cases hw : walkS bs t at_.x at_.b with
  | error e =>
    rw [hw] at h
    have hne : walkS bs t at_.x at_.b ≠ .error 90 := by rw [hw]; intro e2; cases e2; exact h rfl
    rw [walkS_mono hne, hw]
  | ok q =>
    rw [hw] at h
    have hne : walkS bs t at_.x at_.b ≠ .error 90 := by rw [hw]; intro e2; cases e2
    rw [walkS_mono hne, hw]
    obtain ⟨nd, x', b'⟩ := q
    simp only at h ⊢
    have hl : leafS bs nd ≠ .error 90 := by intro e; rw [e] at h; exact h rfl
    rw [leafS_mono hl]
theorem nxA_mono {bs tl : List Int} {t : Int} {at_ : AtS} (h : nxA bs t at_ ≠ .error 90) : nxA (bs ++ tl) t at_ = nxA bs t at_ := by
  unfold nxA at h ⊢
  by_cases h6 : at_.k = 226
  · rw [if_pos h6] at h; rw [if_pos h6, if_pos h6]; exact nx1_mono h
  rw [if_neg h6] at h; rw [if_neg h6, if_neg h6]
  by_cases h4 : at_.k = 224
  · rw [if_pos h4] at h; rw [if_pos h4, if_pos h4]; exact nx1_mono h
  rw [if_neg h4] at h; rw [if_neg h4, if_neg h4]
  exact nxP_mono h
theorem bgS_mono {bs tl : List Int} {x : Int} (h : (bgS bs x).2 ≠ 90) : bgS (bs ++ tl) x = bgS bs x := by
  unfold bgS at h ⊢
  cases hr : rd bs x 1 with
  | none => rw [hr] at h; exact absurd rfl h
  | some v => rw [rd_mono hr]
theorem plR_mono {bs tl : List Int} {t : Int} {m : Nat} {l r : List Int} {at_ : AtS} {i : Nat} {w : Bool} {e : Int} (h : PlR (nxA bs t) m l at_ i r w e) (he : e ≠ 90) : PlR (nxA (bs ++ tl) t) m l at_ i r w e := by
  have ok : ∀ {at_ : AtS} {q}, nxA bs t at_ = .ok q → nxA (bs ++ tl) t at_ = .ok q := fun h => by rw [nxA_mono (by rw [h]; intro e; cases e), h]
  induction h with
  | idle h => exact .idle h
  | err hi hn => exact .err hi (by rw [nxA_mono (by rw [hn]; intro e2; cases e2; exact he rfl), hn])
  | fin hi hn hp => exact .fin hi (ok hn) hp
  | ref hi hn hp => exact .ref hi (ok hn) hp
  | cut hi hn h1 h3 hc => exact .cut hi (ok hn) h1 h3 hc
  | more hi hn h1 h3 hc _ ih => exact .more hi (ok hn) h1 h3 hc (ih he)
theorem plR_one {N : AtS → NxR} {m : Nat} {l r : List Int} {at_ : AtS} {i : Nat} {w : Bool} {e : Int} (h : PlR N m l at_ i r w e) : ∀ {r' : List Int} {w' : Bool} {e' : Int}, PlR N m l at_ i r' w' e' → r = r' ∧ w = w' ∧ e = e' := by
  induction h with
  | idle h =>
    intro r' w' e' h'
    cases h' with
    | idle _ => exact ⟨rfl, rfl, rfl⟩
    | err h2 _ => exact absurd h2 h
    | fin h2 _ _ => exact absurd h2 h
    | ref h2 _ _ => exact absurd h2 h
    | cut h2 _ _ _ _ => exact absurd h2 h
    | more h2 _ _ _ _ _ => exact absurd h2 h
  | err hi hn =>
    intro r' w' e' h'
    cases h' with
    | idle h2 => exact absurd hi h2
    | err _ h3 => rw [hn] at h3; cases h3; exact ⟨rfl, rfl, rfl⟩
    | fin _ h3 _ => rw [hn] at h3; cases h3
    | ref _ h3 _ => rw [hn] at h3; cases h3
    | cut _ h3 _ _ _ => rw [hn] at h3; cases h3
    | more _ h3 _ _ _ _ => rw [hn] at h3; cases h3
  | fin hi hn hp =>
    intro r' w' e' h'
    cases h' with
    | idle h2 => exact absurd hi h2
    | err _ h3 => rw [hn] at h3; cases h3
    | fin _ h3 _ => exact ⟨rfl, rfl, rfl⟩
    | ref _ h3 h4 => rw [hn] at h3; cases h3; rw [hp] at h4; cases h4
    | cut _ h3 h4 _ _ => rw [hn] at h3; cases h3; exact absurd hp h4
    | more _ h3 h4 _ _ _ => rw [hn] at h3; cases h3; exact absurd hp h4
  | ref hi hn hp =>
    intro r' w' e' h'
    cases h' with
    | idle h2 => exact absurd hi h2
    | err _ h3 => rw [hn] at h3; cases h3
    | fin _ h3 h4 => rw [hn] at h3; cases h3; rw [hp] at h4; cases h4
    | ref _ h3 h4 => exact ⟨rfl, rfl, rfl⟩
    | cut _ h3 _ h4 _ => rw [hn] at h3; cases h3; exact absurd hp h4
    | more _ h3 _ h4 _ _ => rw [hn] at h3; cases h3; exact absurd hp h4
  | cut hi hn h1 h3 hc =>
    intro r' w' e' h'
    cases h' with
    | idle h2 => exact absurd hi h2
    | err _ h4 => rw [hn] at h4; cases h4
    | fin _ h4 h5 => rw [hn] at h4; cases h4; exact absurd h5 h1
    | ref _ h4 h5 => rw [hn] at h4; cases h4; exact absurd h5 h3
    | cut _ h4 _ _ _ => rw [hn] at h4; cases h4; exact ⟨rfl, rfl, rfl⟩
    | more _ h4 _ _ h5 _ => rw [hn] at h4; cases h4; omega
  | more hi hn h1 h3 hc _ ih =>
    intro r' w' e' h'
    cases h' with
    | idle h2 => exact absurd hi h2
    | err _ h4 => rw [hn] at h4; cases h4
    | fin _ h4 h5 => rw [hn] at h4; cases h4; exact absurd h5 h1
    | ref _ h4 h5 => rw [hn] at h4; cases h4; exact absurd h5 h3
    | cut _ h4 _ _ h5 => rw [hn] at h4; cases h4; omega
    | more _ h4 _ _ _ h5 => rw [hn] at h4; cases h4; exact ih h5
theorem plR_len {N : AtS → NxR} {m : Nat} {l r : List Int} {at_ : AtS} {i : Nat} {w : Bool} {e : Int} (h : PlR N m l at_ i r w e) : l.length ≤ m → r.length ≤ m := by
  induction h with
  | idle _ => exact id
  | err _ _ => intro _; simp
  | fin _ _ _ => exact id
  | ref _ _ _ => intro _; simp
  | cut _ _ _ _ hc => intro h; rw [List.length_append, List.length_take]; omega
  | more _ _ _ _ hc _ ih => intro h; exact ih (by rw [List.length_append]; omega)
/-- The places that a text comes to. -/
def RA (at_ : AtS) : Prop := (at_.k = 224 ∨ at_.k = 225 ∨ at_.k = 226) ∧ (0 ≤ at_.x ∧ at_.x ≤ 4294967295) ∧ (0 ≤ at_.b ∧ at_.b ≤ 7)
theorem NextOk.congr {a : Option Addr} {bs : List Int} {t : Int} {N N' : AtS → NxR} {at_ : AtS} (h : N at_ = N' at_) (ho : NextOk a bs t N' at_) : NextOk a bs t N at_ := by
  intro σ L K H hm hok herr
  exact ho σ L K H hm (fun σ' v p at' new hn => hok σ' v p at' new (h.trans hn)) (fun σ' v at' e hn => herr σ' v at' e (h.trans hn))
theorem nextA {a : Option Addr} {bs : List Int} {t : Int} (ht : 0 ≤ t) (at_ : AtS) (h : RA at_) : NextOk a bs t (nxA bs t) at_ := by
  obtain ⟨k, x, b⟩ := at_
  obtain ⟨hk, hx, hb⟩ := h
  simp only at hk hx hb
  rcases hk with rfl | rfl | rfl
  · exact NextOk.congr (N' := nx1 bs 1) rfl (c21n (.inr ⟨rfl, rfl⟩) hx.1 hx.2)
  · exact NextOk.congr (N' := nxP bs t) rfl (c21p rfl hx.1 hx.2 hb.1 ht)
  · exact NextOk.congr (N' := nx1 bs 4) rfl (c21n (.inl ⟨rfl, rfl⟩) hx.1 hx.2)
theorem leafS_len {bs : List Int} {x : Int} {p : Int × List Int} (h : leafS bs x = .ok p) : p.2.length ≤ bs.length + 1 := by
  unfold leafS at h
  split at h
  · cases h
  · have one : ∀ {n : Nat}, oneS bs x n = .ok p → p.2.length ≤ bs.length + 1 := by
      intro n h
      unfold oneS at h
      split at h
      · cases h
      · cases h; simp
    have row : ∀ {n : Nat}, rowE bs x n = .ok p → p.2.length ≤ bs.length + 1 := by
      intro n h
      unfold rowE at h
      split at h
      · cases h
      · rename_i l hl
        cases h
        exact rowS_len _ _ _ hl
    unfold leafK at h
    split at h
    · cases h; simp
    split at h
    · exact one h
    split at h
    · exact one h
    split at h
    · exact row h
    split at h
    · exact row h
    split at h
    · unfold refE at h
      split at h
      · cases h; simp
      · cases h
    · cases h
theorem walkS_in {bs : List Int} {t x b nd x' b' : Int} (h0 : 0 ≤ x) (h1 : x ≤ 4294967295) (hb : 0 ≤ b) (h : walkS bs t x b = .ok (nd, x', b')) : 0 ≤ x' ∧ x' ≤ 4294967295 ∧ 0 ≤ b' ∧ b' ≤ 7 := by
  unfold walkS at h
  split at h
  · cases h
  · split at h
    · cases h
    · split at h
      · cases h
      · exact walkL_in _ _ _ _ _ _ _ h0 h1 hb (by omega) h
theorem nxA_keeps {bs : List Int} {t : Int} (hl : bs.length ≤ 1048576) : ∀ (at_ : AtS) (p : Int × List Int) (at' : AtS), RA at_ → nxA bs t at_ = .ok (p, at') → RA at' ∧ p.2.length ≤ 1048577 := by
  intro at_ p at' hR hn
  have one : ∀ {n : Nat}, nx1 bs n at_ = .ok (p, at') → RA at' ∧ p.2.length ≤ 1048577 := by
    intro n hn
    unfold nx1 at hn
    split at hn
    · cases hn
    · cases hn
      refine ⟨⟨hR.1, w32_in _, hR.2.2⟩, ?_⟩
      unfold oneP
      split <;> simp
  unfold nxA at hn
  split at hn
  · exact one hn
  · split at hn
    · exact one hn
    · unfold nxP at hn
      split at hn
      · cases hn
      · rename_i nd x' b' hw
        split at hn
        · cases hn
        · rename_i p2 hp
          cases hn
          obtain ⟨g0, g1, g2, g3⟩ := walkS_in hR.2.1.1 hR.2.1.2 hR.2.2.1 hw
          refine ⟨⟨hR.1, ⟨g0, g1⟩, ⟨g2, g3⟩⟩, ?_⟩
          have := leafS_len hp
          omega
theorem bgS_RA {bs : List Int} {x : Int} (h : (bgS bs x).2 = 0) : RA (bgS bs x).1 := by
  unfold bgS at h ⊢
  cases hr : rd bs x 1 with
  | none => rw [hr] at h; cases h
  | some v =>
    rw [hr] at h
    simp only at h ⊢
    by_cases h1 : v = 224 ∨ v = 225
    · rw [if_pos h1]
      exact ⟨by simp only; omega, w32_in _, by simp⟩
    · rw [if_neg h1] at h ⊢
      by_cases h2 : v = 226
      · rw [if_pos h2]
        exact ⟨by simp only; omega, w32_in _, by simp⟩
      · rw [if_neg h2] at h; cases h
/-- What Plain gives. -/
def PlainS (bs : List Int) (t x : Int) (m : Nat) (r : List Int) (w : Bool) (e : Int) : Prop := ((bgS bs x).2 ≠ 0 ∧ r = [] ∧ w = false ∧ e = (bgS bs x).2) ∨ ((bgS bs x).2 = 0 ∧ PlR (nxA bs t) m [] (bgS bs x).1 0 r w e)
theorem PlainS.one {bs : List Int} {t x : Int} {m : Nat} {r r' : List Int} {w w' : Bool} {e e' : Int} (h : PlainS bs t x m r w e) (h' : PlainS bs t x m r' w' e') : r = r' ∧ w = w' ∧ e = e' := by
  rcases h with ⟨h0, rfl, rfl, rfl⟩ | ⟨h0, h⟩
  · rcases h' with ⟨_, rfl, rfl, rfl⟩ | ⟨h1, _⟩
    · exact ⟨rfl, rfl, rfl⟩
    · exact absurd h1 h0
  · rcases h' with ⟨h1, _⟩ | ⟨_, h'⟩
    · exact absurd h0 h1
    · exact plR_one h h'
theorem PlainS.mono {bs tl : List Int} {t x : Int} {m : Nat} {r : List Int} {w : Bool} {e : Int} (h : PlainS bs t x m r w e) (he : e ≠ 90) : PlainS (bs ++ tl) t x m r w e := by
  rcases h with ⟨h0, rfl, rfl, rfl⟩ | ⟨h0, h⟩
  · exact .inl ⟨by rw [bgS_mono he]; exact h0, rfl, rfl, by rw [bgS_mono he]⟩
  · have hb : bgS (bs ++ tl) x = bgS bs x := bgS_mono (by rw [h0]; decide)
    exact .inr ⟨by rw [hb]; exact h0, by rw [hb]; exact plR_mono h he⟩
section
variable {σ : AS} {K : Value → AS → Prop}
theorem c18A {L : List (Nat × AObj)} {a : Option Addr} {bs : List Int} {t x mo : Int} (H : Has σ L) (hm : Mem a bs L) (ht : 0 ≤ t) (h0 : 0 ≤ x) (h1 : x ≤ 4294967295) (hmo : mo ≤ 1073741824)
    (hK : ∀ σ' r w e ra re new, PlainS bs t x mo.toNat r w e → Has σ' (new ++ L) → nilOr ra re 1 = true → InU ra r new → K (.tuple ⟨[.slice ra r.length re, .bool w, i64 e]⟩) σ') :
    Tri Try.prog 18 [.slice a bs.length 1, u32 t, u32 x, i64 mo] σ K :=
  c18 (N := nxA bs t) (R := RA) H hm h0 h1 hmo bgS_RA (nxA_keeps hm.2.1) (fun at_ h => nextA ht at_ h)
    (fun σ' hne H' => hK σ' [] false _ none 0 [] (.inl ⟨hne, rfl, rfl, rfl⟩) H' rfl (.inl rfl))
    (fun σ' r w e ra re new hb hp H' hno hin => hK σ' r w e ra re new (.inr ⟨hb, hp⟩) H' hno hin)
theorem beyond_law {a c : Option Addr} {bs hs : List Int} {t x : Int} {L : List (Nat × AObj)} (H : Has σ L) (ha : In8 a bs L) (hc : In8 c hs L) (h8 : ∀ v ∈ bs, 0 ≤ v ∧ v < 256) (hh : ∀ v ∈ hs, 0 ≤ v ∧ v < 256)
    (lb : bs.length ≤ 4611686018427387903) (lh : hs.length ≤ 4611686018427387903) (ht : 0 ≤ t) (h0 : 0 ≤ x) (h1 : x ≤ 4294967295) : Tri Try.prog 7 [.slice a bs.length 1, u32 t, u32 x, .slice c hs.length 1] σ RB := tri_in (by
  rw [s7, wrap64 (by omega) (by omega)]
  refine bm_mk (fun _ => c9live (by simp only [tB_bool])) (fun hm => ?_)
  have hm : bs.length + hs.length ≤ 16384 := by have := of_decide_eq_false hm; omega
  refine c18A H ⟨h8, by omega, ha.mem⟩ ht h0 h1 (by omega) fun σ1 r w e ra re new hp H1 hno hin => ?_
  simp only [tTup_tup, pSome_some, tI_int, tB_bool, List.getElem?_cons_zero, List.getElem?_cons_succ]
  refine tL_ok hno ?_
  refine newAt_mk H1 fun i14 σ2 H2 => ?_
  have inL : ∀ p ∈ L, p ∈ (i14, AObj.row .rw (cells8 [])) :: (new ++ L) := fun p h => by simp [h]
  refine src8_mk H2 (ha.mono inL) ?_
  refine app8_mk (ys := []) (ms := bs) H2 (by simp; omega) rfl fun j1 σ3 H3 => ?_
  simp only [List.length_nil, Nat.zero_add, List.nil_append]
  refine src8_mk H3 (hc.mono fun p h => by simp [h]) ?_
  refine app8_mk (ys := [] ++ bs) (ms := hs) H3 (by simp; omega) rfl fun j2 σ4 H4 => ?_
  simp only [List.nil_append] at H4 ⊢
  rw [← List.length_append]
  refine c18A H4 ⟨?_, by rw [List.length_append]; omega, .inr ⟨j2, .rw, [], rfl, by simp⟩⟩ ht h0 h1 (by omega) fun σ5 r2 w2 e2 ra2 re2 new2 hp2 H5 hno2 hin2 => ?_
  · intro v hv
    rcases List.mem_append.1 hv with h | h
    · exact h8 v h
    · exact hh v h
  simp only [tTup_tup, pSome_some, tI_int, tB_bool, List.getElem?_cons_zero, List.getElem?_cons_succ]
  refine tL_ok hno2 ?_
  refine c15 (tI_mk (bm_mk (fun _ => c9live (by simp only [tB_bool])) (fun he => ?_)))
  have he : e ≠ 90 := by simpa using he
  obtain ⟨rfl, rfl, rfl⟩ := (hp.mono he).one hp2
  refine c16 H5 (hin.mono fun p h => by simp [h]) (hin2.mono fun p h => by simp [h]) ?_ ?_
  · rcases hin with h | ⟨_, _, _, h⟩
    · rw [h]; simp
    · rcases hp with ⟨_, h, _⟩ | ⟨_, h⟩
      · rw [h]; simp
      · exact Nat.le_trans (plR_len h (by simp)) (by decide)
  simp only [tB_bool, bm_true, beq_self_eq_true]
  exact c9live (by simp only [tB_bool]))
end
end Go.AI
end
section
/- Two readings of one text, of which one may be longer. -/
set_option maxRecDepth 4000
set_option linter.unusedVariables false
set_option linter.unusedSimpArgs false
namespace Go.AI
open Go.Proofs
theorem plR_err {N : AtS → NxR} {m m' : Nat} (hm : m ≤ m') {l r : List Int} {at_ : AtS} {i : Nat} {w : Bool} {e : Int} (h : PlR N m l at_ i r w e) : e ≠ 0 → r = [] ∧ w = false ∧ PlR N m' l at_ i [] false e := by
  induction h with
  | idle _ => exact fun h => absurd rfl h
  | err hi hn => exact fun _ => ⟨rfl, rfl, .err hi hn⟩
  | fin _ _ _ => exact fun h => absurd rfl h
  | ref hi hn hp => exact fun _ => ⟨rfl, rfl, .ref hi hn hp⟩
  | cut _ _ _ _ _ => exact fun h => absurd rfl h
  | more hi hn h1 h3 hc _ ih =>
    intro he
    obtain ⟨g1, g2, g3⟩ := ih he
    exact ⟨g1, g2, .more hi hn h1 h3 (by omega) g3⟩
theorem plR_pre {N : AtS → NxR} (hN : ∀ at_ e, N at_ = .error e → e ≠ 0) {m : Nat} {l r : List Int} {at_ : AtS} {i : Nat} {w : Bool} {e : Int} (h : PlR N m l at_ i r w e) : e = 0 → l <+: r := by
  induction h with
  | idle _ => exact fun _ => List.prefix_rfl
  | err hi hn => exact fun he => absurd he (hN _ _ hn)
  | fin _ _ _ => exact fun _ => List.prefix_rfl
  | ref _ _ _ => intro h; cases h
  | cut _ _ _ _ _ => exact fun _ => List.prefix_append _ _
  | more _ _ _ _ _ _ ih => exact fun he => (List.prefix_append _ _).trans (ih he)
theorem plR_two {N : AtS → NxR} (hN : ∀ at_ e, N at_ = .error e → e ≠ 0) {m m' : Nat} (hm : m ≤ m') {l r : List Int} {at_ : AtS} {i : Nat} {w : Bool} {e : Int} (h : PlR N m l at_ i r w e) :
    e = 0 → ∀ r' w', PlR N m' l at_ i r' w' 0 → r <+: r' ∧ (w = true → w' = true ∧ r' = r) := by
  induction h with
  | idle h =>
    intro _ r' w' h'
    cases h' with
    | idle _ => exact ⟨List.prefix_rfl, fun h => by cases h⟩
    | err h2 _ => exact absurd h2 h
    | fin h2 _ _ => exact absurd h2 h
    | cut h2 _ _ _ _ => exact absurd h2 h
    | more h2 _ _ _ _ _ => exact absurd h2 h
  | err hi hn => exact fun he => absurd he (hN _ _ hn)
  | fin hi hn hp =>
    intro _ r' w' h'
    cases h' with
    | idle h2 => exact absurd hi h2
    | err _ h3 => rw [hn] at h3; cases h3
    | fin _ h3 _ => exact ⟨List.prefix_rfl, fun _ => ⟨rfl, rfl⟩⟩
    | cut _ h3 h4 _ _ => rw [hn] at h3; cases h3; exact absurd hp h4
    | more _ h3 h4 _ _ _ => rw [hn] at h3; cases h3; exact absurd hp h4
  | ref _ _ _ => intro h; cases h
  | @cut l at_ at' i p hi hn h1 h3 hc =>
    intro _ r' w' h'
    cases h' with
    | idle h2 => exact absurd hi h2
    | err _ h4 => rw [hn] at h4; cases h4
    | fin _ h4 h5 => rw [hn] at h4; cases h4; exact absurd h5 h1
    | cut _ h4 _ _ _ =>
      rw [hn] at h4; cases h4
      refine ⟨?_, fun h => by cases h⟩
      have e1 : p.2.take (m - l.length) = (p.2.take (m' - l.length)).take (m - l.length) := by rw [List.take_take, Nat.min_eq_left (by omega)]
      rw [e1]
      exact (List.prefix_append_right_inj l).2 (List.take_prefix _ _)
    | more _ h4 _ _ _ h5 =>
      rw [hn] at h4; cases h4
      refine ⟨?_, fun h => by cases h⟩
      exact ((List.prefix_append_right_inj l).2 (List.take_prefix _ _)).trans (plR_pre hN h5 rfl)
  | more hi hn h1 h3 hc _ ih =>
    intro he r' w' h'
    cases h' with
    | idle h2 => exact absurd hi h2
    | err _ h4 => rw [hn] at h4; cases h4
    | fin _ h4 h5 => rw [hn] at h4; cases h4; exact absurd h5 h1
    | cut _ h4 _ _ h5 => rw [hn] at h4; cases h4; omega
    | more _ h4 _ _ _ h5 => rw [hn] at h4; cases h4; exact ih he r' w' h5
theorem walkL_err {bs : List Int} : ∀ (f : Nat) (node x b e : Int), walkL bs f node x b = .error e → e ≠ 0
  | 0, node, x, b, e, h => by
    simp only [walkL] at h
    split at h
    · cases h; decide
    · split at h
      · cases h
      · cases h; decide
  | f + 1, node, x, b, e, h => by
    simp only [walkL] at h
    split at h
    · cases h; decide
    · split at h
      · cases h
      · split at h
        · cases h; decide
        · split at h
          · cases h; decide
          · exact walkL_err f _ _ _ _ h
theorem leafS_err {bs : List Int} {x e : Int} (h : leafS bs x = .error e) : e ≠ 0 := by
  have one : ∀ {n : Nat}, oneS bs x n = .error e → e ≠ 0 := by
    intro n h
    unfold oneS at h
    split at h
    · cases h; decide
    · cases h
  have row : ∀ {n : Nat}, rowE bs x n = .error e → e ≠ 0 := by
    intro n h
    unfold rowE at h
    split at h
    · cases h; decide
    · cases h
  unfold leafS at h
  split at h
  · cases h; decide
  · unfold leafK at h
    split at h
    · cases h
    split at h
    · exact one h
    split at h
    · exact one h
    split at h
    · exact row h
    split at h
    · exact row h
    split at h
    · unfold refE at h
      split at h
      · cases h
      · cases h; decide
    · cases h; decide
theorem leafS_kind {bs : List Int} {x : Int} {p : Int × List Int} (h : leafS bs x = .ok p) : p.1 = 1 ∨ p.1 = 2 ∨ p.1 = 3 := by
  have one : ∀ {n : Nat}, oneS bs x n = .ok p → p.1 = 1 ∨ p.1 = 2 ∨ p.1 = 3 := by
    intro n h
    unfold oneS at h
    split at h
    · cases h
    · cases h; simp
  have row : ∀ {n : Nat}, rowE bs x n = .ok p → p.1 = 1 ∨ p.1 = 2 ∨ p.1 = 3 := by
    intro n h
    unfold rowE at h
    split at h
    · cases h
    · cases h; simp
  unfold leafS at h
  split at h
  · cases h
  · unfold leafK at h
    split at h
    · cases h; simp
    split at h
    · exact one h
    split at h
    · exact one h
    split at h
    · exact row h
    split at h
    · exact row h
    split at h
    · unfold refE at h
      split at h
      · cases h; simp
      · cases h
    · cases h
theorem nx1_kind {bs : List Int} {n : Nat} {at_ at' : AtS} {p : Int × List Int} (h : nx1 bs n at_ = .ok (p, at')) : p.1 = 1 ∨ p.1 = 2 ∨ p.1 = 3 := by
  unfold nx1 at h
  split at h
  · cases h
  · cases h
    unfold oneP
    split <;> simp
theorem nxA_kind {bs : List Int} {t : Int} {at_ at' : AtS} {p : Int × List Int} (h : nxA bs t at_ = .ok (p, at')) : p.1 = 1 ∨ p.1 = 2 ∨ p.1 = 3 := by
  unfold nxA at h
  split at h
  · exact nx1_kind h
  · split at h
    · exact nx1_kind h
    · unfold nxP at h
      split at h
      · cases h
      · split at h
        · cases h
        · rename_i hp
          cases h
          exact leafS_kind hp
theorem nxA_err {bs : List Int} {t : Int} : ∀ (at_ : AtS) (e : Int), nxA bs t at_ = .error e → e ≠ 0 := by
  intro at_ e h
  have one : ∀ {n : Nat}, nx1 bs n at_ = .error e → e ≠ 0 := by
    intro n h
    unfold nx1 at h
    split at h
    · cases h; decide
    · cases h
  unfold nxA at h
  split at h
  · exact one h
  · split at h
    · exact one h
    · unfold nxP at h
      split at h
      · rename_i hw
        cases h
        unfold walkS at hw
        split at hw
        · cases hw; decide
        · split at hw
          · cases hw; decide
          · split at hw
            · cases hw; decide
            · exact walkL_err _ _ _ _ _ hw
      · split at h
        · rename_i hp
          cases h
          exact leafS_err hp
        · cases h
theorem bgS_err {bs : List Int} {x : Int} : (bgS bs x).2 = 0 ∨ (bgS bs x).2 = 90 ∨ (bgS bs x).2 = 120 := by
  unfold bgS
  split
  · simp
  · split
    · simp
    · split <;> simp
end Go.AI
end
section
/- A text's characters are those of its pieces: the law. -/
set_option maxRecDepth 4000
set_option linter.unusedVariables false
set_option linter.unusedSimpArgs false
namespace Go.AI
open Go.Proofs
/-- A slice of numbers that lies anywhere in a row that is known. -/
def InO (a : Option Addr) (l : List Int) (L : List (Nat × AObj)) : Prop := l = [] ∨ ∃ r o k cs, a = some ⟨r, o, none⟩ ∧ (r, AObj.row k (cellsU cs)) ∈ L ∧ ∀ i v, l[i]? = some v → cs[o + i]? = some v
theorem InU.cut {a : Option Addr} {l : List Int} {L : List (Nat × AObj)} {x : Addr → Addr} {o n : Nat} (h : InU a l L) (hx : ∀ r, x ⟨r, 0, none⟩ = ⟨r, o, none⟩) : InO (a.map x) ((l.drop o).take n) L := by
  rcases h with rfl | ⟨r, k, rfl, h⟩
  · exact .inl (by simp)
  · refine .inr ⟨r, o, k, l, by simp [hx], h, fun i v hv => ?_⟩
    rw [List.getElem?_take] at hv
    split at hv
    · rw [List.getElem?_drop] at hv; exact hv
    · cases hv
theorem InO.of {a : Option Addr} {l : List Int} {L : List (Nat × AObj)} (h : InU a l L) : InO a l L := by
  rcases h with rfl | ⟨r, k, rfl, h⟩
  · exact .inl rfl
  · exact .inr ⟨r, 0, k, l, rfl, h, fun i v hv => by rw [Nat.zero_add]; exact hv⟩
theorem InO.mono {a : Option Addr} {l : List Int} {L L' : List (Nat × AObj)} (h : InO a l L) (hs : ∀ p ∈ L, p ∈ L') : InO a l L' := h.imp id fun ⟨r, o, k, cs, e, m, g⟩ => ⟨r, o, k, cs, e, hs _ m, g⟩
section
variable {σ : AS} {K : Value → AS → Prop}
theorem c16o {L : List (Nat × AObj)} {a b : Option Addr} {xs : List Int} {n : Nat} (H : Has σ L) (ha : InO a xs L) (hb : InO b xs L) (hn : xs.length = n) (hl : n ≤ 1099511627776) (hK : K (.bool true) σ) :
    Tri Try.prog 16 [.slice a n 1, .slice b n 1] σ K := tri_in (by
  subst hn
  rw [s16]
  refine bm_mk (fun h => by simp at h) (fun _ => ?_)
  refine aloop (sameI a b xs.length σ) (fun i => xs.length - i) ?_ (a := 0) ⟨Nat.zero_le _, rfl, rfl⟩
  rintro i r σ1 X hX ⟨hi, rfl, rfl⟩
  rw [s16l]
  refine bm_mk (fun h => ?_) (fun h => hK)
  have h : i < xs.length := by have := of_decide_eq_true h; omega
  obtain ⟨v, hv⟩ : ∃ v, xs[i]? = some v := ⟨xs[i], by simp [h]⟩
  have hne : xs ≠ [] := fun e => by rw [e] at h; simp at h
  obtain ⟨r1, o1, k1, c1, rfl, m1, w1⟩ := ha.resolve_left hne
  obtain ⟨r2, o2, k2, c2, rfl, m2, w2⟩ := hb.resolve_left hne
  obtain ⟨q1, g1⟩ := List.getElem?_of_mem m1
  obtain ⟨q2, g2⟩ := List.getElem?_of_mem m2
  have hz : szOf Try.prog 22 = 1 := by kernel_rfl
  refine req_mk (by omega) (req_mk (by omega) ?_)
  simp only [pSome_some, hz, add_none, Int.toNat_natCast, Nat.mul_one]
  refine req_mk trivial (ldc_mk H q1 g1 (cellsU_get (w1 i v hv)) (tI_mk ?_))
  refine req_mk (by omega) (req_mk (by omega) (req_mk trivial (ldc_mk H q2 g2 (cellsU_get (w2 i v hv)) (tI_mk ?_))))
  simp only [bne_self_eq_false, bm_false]
  rw [wrap64 (by omega) (by omega)]
  exact hX (i + 1) _ _ (by omega) ⟨h, rfl, by simp⟩)
end
/-- One more piece of a text that is not yet told whole. -/
theorem plR_step {N : AtS → NxR} (hN : ∀ at_ e, N at_ = .error e → e ≠ 0) (hk : ∀ at_ p at', N at_ = .ok (p, at') → p.1 = 1 ∨ p.1 = 2 ∨ p.1 = 3) {m : Nat} {l r : List Int} {at_ : AtS} {i : Nat} {w : Bool} (h : PlR N m l at_ i r w 0)
    (hlt : l.length < r.length) (hlm : l.length ≤ m) : ∃ p at', i < 256 ∧ N at_ = .ok (p, at') ∧ p.1 = 2 ∧ ∃ k, k ≤ p.2.length ∧ (p.2.length ≤ r.length - l.length → k = p.2.length) ∧ (¬ p.2.length ≤ r.length - l.length → k = r.length - l.length) ∧
      p.2.take k = (r.drop l.length).take k ∧ k ≤ r.length - l.length ∧
      (l.length + k = r.length ∨ k = p.2.length ∧ l.length + p.2.length ≤ m ∧ PlR N m (l ++ p.2) at' (if 0 < p.2.length then 0 else i + 1) r w 0) := by
  cases h with
  | idle _ => omega
  | err _ hn => exact absurd rfl (hN _ _ hn)
  | fin _ _ _ => omega
  | @cut _ _ at' _ p hi hn h1 h3 hc =>
    have h2 : p.1 = 2 := by rcases hk _ _ _ hn with h | h | h <;> first | exact absurd h h1 | exact absurd h h3 | exact h
    refine ⟨p, at', hi, hn, h2, m - l.length, by omega, fun h => ?_, fun h => ?_, ?_, ?_, .inl ?_⟩
    · simp only [List.length_append, List.length_take] at h hlt; omega
    · simp only [List.length_append, List.length_take] at h hlt ⊢; omega
    · rw [List.drop_left, List.take_take, Nat.min_self]
    · simp only [List.length_append, List.length_take]; omega
    · simp only [List.length_append, List.length_take]; omega
  | @more _ _ at' _ p _ _ _ hi hn h1 h3 hc hm =>
    have h2 : p.1 = 2 := by rcases hk _ _ _ hn with h | h | h <;> first | exact absurd h h1 | exact absurd h h3 | exact h
    obtain ⟨z, rfl⟩ := plR_pre hN hm rfl
    refine ⟨p, at', hi, hn, h2, p.2.length, Nat.le_refl _, fun _ => rfl, fun h => ?_, ?_, ?_, .inr ⟨rfl, hc, hm⟩⟩
    · simp only [List.length_append] at h; omega
    · rw [List.append_assoc, List.drop_left, List.take_left, List.take_length]
    · simp only [List.length_append]; omega
def RB6 : Value → AS → Prop := fun v _ => v = .bool true
def pcI (a : Option Addr) (bs : List Int) (t : Int) (m : Nat) (r : List Int) (la : Option Addr) (c : Nat) (L : List (Nat × AObj)) (i : Nat) (rg : Regs) (σ : AS) : Prop :=
  ∃ (n : Nat) (at_ : AtS), rg = [(0, some (.slice a bs.length 1)), (1, some (u32 t)), (11, some (.slice la r.length 1)), (17, some (ptr c)), (18, some (i64 0)), (19, some (i64 n)), (20, some (i64 i))] ∧
    Has σ ((c, .row .plain (atC at_)) :: L) ∧
    (n = r.length ∨ ∃ (lc : List Int) (idle : Nat) (w : Bool), lc.length = n ∧ n ≤ r.length ∧ n ≤ m ∧ i ≤ 256 * n + idle ∧ idle ≤ 256 ∧ RA at_ ∧ PlR (nxA bs t) m lc at_ idle r w 0)
section
variable {σ : AS}
theorem c6loop {L : List (Nat × AObj)} {a la : Option Addr} {bs r : List Int} {t : Int} {m : Nat} {w : Bool} {at0 : AtS} {c : Nat} (H : Has σ ((c, .row .plain (atC at0)) :: L)) (hm : Mem a bs L) (ht : 0 ≤ t)
    (hr : InU la r L) (hno : nilOr la 1 1 = true) (hrl : r.length ≤ m) (hm3 : m ≤ 300) (hR : RA at0) (hp : PlR (nxA bs t) m [] at0 0 r w 0) :
    ALoop (fl Try.prog hintsS (Tri Try.prog) 6 [true, true, true, true, true, true, true, true, false, true, false] [] RB6)
      [(0, some (.slice a bs.length 1)), (1, some (u32 t)), (11, some (.slice la r.length 1)), (17, some (ptr c)), (18, some (i64 0)), (19, some (i64 0)), (20, some (i64 0))] σ := by
  have hz : szOf Try.prog 22 = 1 := by kernel_rfl
  obtain ⟨B, hB⟩ : ∃ B : Nat, B = 77312 := ⟨_, rfl⟩
  refine aloop (pcI a bs t m r la c L) (fun i => B - i) ?_ (a := (0 : Nat)) ⟨0, at0, rfl, H, .inr ⟨[], 0, w, rfl, by omega, by omega, by omega, by omega, hR, hp⟩⟩
  intro i rg σ1 X hX hI
  unfold pcI at hI
  obtain ⟨n, at_, hrg, H1, hn⟩ := hI
  subst hrg
  rw [s6l]
  generalize hd : decide ((i : Int) < 77312) = d
  refine bm_mk (fun hi2 => bm_mk (fun hn2 => ?_) (fun hn2 => ?_)) (fun hi2 => ?_)
  · have hi2 : i < 77312 := by rw [hi2] at hd; have := of_decide_eq_true hd; omega
    have hn2 : n < r.length := by have := of_decide_eq_true hn2; omega
    obtain ⟨lc, idle, w1, rfl, _, hlm, hib, hid, hRat, hpl⟩ := hn.resolve_left (by omega)
    obtain ⟨p, at', hid2, hN, hp2, k, hk1, hk2, hk3, hxs, hk4, hnext⟩ := plR_step nxA_err (fun _ _ _ => nxA_kind) hpl hn2 hlm
    refine ls_mk H1 (q := 0) rfl rfl ?_
    simp only [tCons, tI_int, tNil]
    refine nextA ht at_ hRat σ1 _ _ H1 (hm.mono fun p h => List.mem_cons_of_mem _ h) (fun σ2 v p' at'' new hN' H2 hpv => ?_) (fun σ2 v at'' e hN' he H2 hpv => by rw [hN] at hN'; cases hN')
    rw [hN] at hN'
    cases hN'
    obtain ⟨hRat', _⟩ := nxA_keeps hm.2.1 _ _ _ hRat hN
    obtain ⟨pk, cs⟩ := p
    obtain ⟨ca, ad, aa, an, rfl, hin⟩ := hpv
    simp only at hp2 hin hk1 hk2 hk3 hxs hnext
    subst hp2
    simp only [tTup_tup, pSome_some, List.getElem?_cons_zero, List.getElem?_cons_succ, tAgg_agg, tCons, tI_int, tL_sl, tNil]
    refine newAt_mk H2 fun i42 σ3 H3 => newAt_mk H3 fun i44 σ4 H4 => ?_
    refine ps_mk (n := 4) H4 (q := 1) rfl rfl rfl fun σ5 H5 => ?_
    refine ps_mk (n := 3) H5 (q := 0) rfl rfl rfl fun σ6 H6 => ?_
    refine c15 (tI_mk (c15 (tI_mk ?_)))
    have e0 : (IntKind.wrap .i64 (0 + 0) != 0) = false := by decide
    have e2 : ((2 : Int) != 2) = false := by decide
    rw [e0, bm_false]
    have G : Has σ6 ([(i44, AObj.row .plain (atC at')), (c, .row .plain (atC at_)), (i42, .row .plain [i64 2, .slice ca cs.length 1, u32 ad, .slice aa an 1])] ++ (new ++ L)) := by
      refine H6.perm (.cons _ ?_)
      refine (List.Perm.swap _ _ _).trans (.cons _ ?_)
      exact (show (_ :: (new ++ L)).Perm _ from List.perm_middle.symm)
    refine ldc_mk G 2 rfl rfl (tI_mk ?_)
    rw [e2, bm_false]
    refine ldc_mk G 2 rfl rfl (tL_mk (ldc_mk G 2 rfl rfl (tL_mk ?_)))
    have ek : imin (cs.length : Int) (IntKind.wrap .i64 ((r.length : Int) - lc.length)) = (k : Int) := by
      rw [wrap64 (by omega) (by omega)]
      unfold imin
      by_cases h : cs.length ≤ r.length - lc.length
      · rw [hk2 h]; split <;> omega
      · rw [hk3 h]; split <;> omega
    simp only
    rw [ek]
    have en : IntKind.wrap .i64 ((lc.length : Int) + k) = ((lc.length + k : Nat) : Int) := by rw [wrap64 (by omega) (by omega)]; omega
    rw [en]
    refine req_mk (by omega) (req_mk (by omega) (req_mk (by omega) (req_mk (by omega) (req_mk (by omega) ?_))))
    rw [hz]
    refine chk_mk hno ?_
    have ek0 : ((k : Int) - 0).toNat = k := by omega
    have ek1 : (((lc.length + k : Nat) : Int) - lc.length).toNat = k := by omega
    rw [ek0, ek1]
    have hl : ((r.drop lc.length).take k).length = k := by rw [List.length_take, List.length_drop]; omega
    have hc1 : InO (ca.map fun x => Addr.add x (Int.toNat 0 * 1)) ((r.drop lc.length).take k) ([(i44, AObj.row .plain (atC at')), (c, .row .plain (atC at_)), (i42, .row .plain [i64 2, .slice ca cs.length 1, u32 ad, .slice aa an 1])] ++ (new ++ L)) := by
      rw [← hxs]
      have := hin.cut (x := fun x => Addr.add x (Int.toNat 0 * 1)) (o := 0) (n := k) (fun r => by rw [add_none]; rfl)
      rw [List.drop_zero] at this
      exact this.mono fun p h => by simp [h]
    have hc2 : InO (la.map fun x => Addr.add x (Int.toNat (lc.length : Int) * 1)) ((r.drop lc.length).take k) ([(i44, AObj.row .plain (atC at')), (c, .row .plain (atC at_)), (i42, .row .plain [i64 2, .slice ca cs.length 1, u32 ad, .slice aa an 1])] ++ (new ++ L)) :=
      (hr.cut (x := fun x => Addr.add x (Int.toNat (lc.length : Int) * 1)) (o := lc.length) (n := k) (fun r => by rw [add_none]; simp)).mono fun p h => by simp [h]
    refine c16o G hc1 hc2 hl (by omega) ?_
    simp only [tB_bool, Bool.not_true, bm_false]
    refine ls_mk G (q := 0) rfl rfl ?_
    simp only [tCons, tI_int, tNil]
    refine ps_mk (n := 3) G (q := 1) rfl rfl rfl fun σ7 H7 => ?_
    have ei : IntKind.wrap .i64 ((i : Int) + 1) = ((i + 1 : Nat) : Int) := by rw [wrap64 (by omega) (by omega)]; omega
    rw [ei]
    have hi3 : i < B := by rw [hB]; exact hi2
    have hmes : B - (i + 1) < B - i := by clear hi2 hB hd; omega
    have H8 : Has σ7 ((c, AObj.row .plain (atC at')) :: L) := H7.sub (.cons _ (.cons_cons _ (.cons _ (List.sublist_append_right new L))))
    refine hX (i + 1) _ _ hmes ⟨lc.length + k, at', rfl, H8, ?_⟩
    rcases hnext with h | ⟨rfl, hm2, hpl2⟩
    · exact .inl h
    · refine .inr ⟨lc ++ cs, _, w1, by simp, by omega, hm2, ?_, ?_, hRat', hpl2⟩
      · split <;> omega
      · split <;> omega
  · have hn2 : ¬ n < r.length := by have := of_decide_eq_false hn2; omega
    have e : n = r.length := by
      rcases hn with h | ⟨_, _, _, _, h, _⟩
      · exact h
      · omega
    subst e
    simp only [beq_self_eq_true, bm_true]
    exact c9live (by simp only [tB_bool]; rfl)
  · have hi2 : ¬ i < 77312 := by rw [hi2] at hd; have := of_decide_eq_false hd; omega
    have e : n = r.length := by
      rcases hn with h | ⟨lc, idle, _, h1, h2, h3, h4, h5, _, hpl⟩
      · exact h
      · omega
    subst e
    simp only [beq_self_eq_true, bm_true]
    exact c9live (by simp only [tB_bool]; rfl)
theorem c6tail {L : List (Nat × AObj)} {a la : Option Addr} {bs r : List Int} {t x : Int} {m : Nat} {w : Bool} (H : Has σ L) (hm : Mem a bs L) (ht : 0 ≤ t) (h0 : 0 ≤ x) (h1 : x ≤ 4294967295)
    (hr : InU la r L) (hno : nilOr la 1 1 = true) (hrl : r.length ≤ m) (hm3 : m ≤ 300) (hb : (bgS bs x).2 = 0) (hp : PlR (nxA bs t) m [] (bgS bs x).1 0 r w 0) :
    Tri Try.prog 20 [.slice a bs.length 1, u32 x] σ fun v49 σ50 => tTup v49 fun l51 => pSome l51[0]? fun u52 => tAgg u52 fun l53 => tCons l53 fun v54 l55 => tI .i64 v54 fun n56 => tCons l55 fun v57 l58 => tI .u32 v57 fun n59 =>
      tCons l58 fun v60 l61 => tI .u32 v60 fun n62 => tNil l61 (tTup v49 fun l63 => pSome l63[1]? fun u64 => tI .i64 u64 fun n65 => newAt σ50 (AObj.row RK.plain [i64 0, u32 0, u32 0]) fun i66 σ67 =>
        puts σ67 ⟨i66, 0, none⟩ [i64 n56, u32 n59, u32 n62] fun σ68 =>
          ALoop (fl Try.prog hintsS (Tri Try.prog) 6 [true, true, true, true, true, true, true, true, false, true, false] [] RB6)
            [(0, some (.slice a bs.length 1)), (1, some (u32 t)), (11, some (.slice la r.length 1)), (17, some (ptr i66)), (18, some (i64 n65)), (19, some (i64 0)), (20, some (i64 0))] σ68) := by
  refine c20 H hm h0 h1 fun σ1 H1 => ?_
  simp only [tTup_tup, pSome_some, List.getElem?_cons_zero, List.getElem?_cons_succ, tAgg_agg, tCons, tI_int, tNil]
  refine newAt_mk H1 fun c σ2 H2 => ?_
  refine ps_mk (n := 3) H2 (q := 0) rfl rfl rfl fun σ3 H3 => ?_
  have hR := bgS_RA hb
  rw [hb]
  exact c6loop H3 hm ht hr hno hrl hm3 hR hp
theorem pieces_law {L : List (Nat × AObj)} {a : Option Addr} {bs : List Int} {t x mo mr : Int} (H : Has σ L) (ha : In8 a bs L) (h8 : ∀ v ∈ bs, 0 ≤ v ∧ v < 256) (lb : bs.length ≤ 4611686018427387903) (ht : 0 ≤ t) (h0 : 0 ≤ x) (h1 : x ≤ 4294967295) :
    Tri Try.prog 6 [.slice a bs.length 1, u32 t, u32 x, i64 mo, i64 mr] σ RB6 := tri_in (by
  have live : ∀ {σ : AS}, Tri Try.prog 9 [] σ fun v0 σ1 => tB v0 fun b2 => RB6 (.bool b2) σ1 := c9live (by simp only [tB_bool]; rfl)
  rw [s6]
  refine bm_mk (fun _ => live) (fun hl => bm_mk (fun _ => live) (fun hm0 => bm_mk (fun _ => live) (fun hm1 => bm_mk (fun _ => live) (fun hr0 => bm_mk (fun _ => live) (fun hr1 => ?_)))))
  have hl := of_decide_eq_false hl
  have hm0 := of_decide_eq_false hm0
  have hm1 := of_decide_eq_false hm1
  have hr0 := of_decide_eq_false hr0
  have hr1 := of_decide_eq_false hr1
  have hm : Mem a bs L := ⟨h8, by omega, ha.mem⟩
  refine c18A H hm ht h0 h1 (by omega) fun σ1 r w e ra re new hp H1 hno hin => ?_
  simp only [tTup_tup, pSome_some, tI_int, tB_bool, List.getElem?_cons_zero, List.getElem?_cons_succ]
  refine tL_ok hno ?_
  rw [wrap64 (by omega) (by omega)]
  refine c18A H1 (hm.mono fun p h => by simp [h]) ht h0 h1 (by omega) fun σ2 r2 w2 e2 ra2 re2 new2 hp2 H2 hno2 hin2 => ?_
  simp only [tTup_tup, pSome_some, tI_int, tB_bool, List.getElem?_cons_zero, List.getElem?_cons_succ]
  refine tL_ok hno2 ?_
  refine c15 (tI_mk (bm_mk (fun he => ?_) (fun he => ?_)))
  · have he : e ≠ 0 := by simpa using he
    obtain ⟨rfl, rfl, rfl⟩ : r = [] ∧ w = false ∧ e = e2 := by
      rcases hp with ⟨hb, rfl, rfl, rfl⟩ | ⟨hb, hp⟩
      · obtain ⟨_, _, h⟩ := PlainS.one hp2 (.inl ⟨hb, rfl, rfl, rfl⟩)
        exact ⟨rfl, rfl, h.symm⟩
      · obtain ⟨g1, g2, g3⟩ := plR_err (m' := (mo + mr).toNat) (by omega) hp he
        obtain ⟨_, _, h⟩ := PlainS.one hp2 (.inr ⟨hb, g3⟩)
        exact ⟨g1, g2, h.symm⟩
    have e0 : (((([] : List Int).length : Nat) : Int) == 0) = true := rfl
    simp only [e0, beq_self_eq_true, bm_true, Bool.not_false]
    exact live
  have he : e = 0 := by simpa using he
  subst he
  obtain ⟨hb, hp⟩ : (bgS bs x).2 = 0 ∧ PlR (nxA bs t) mo.toNat [] (bgS bs x).1 0 r w 0 := by
    rcases hp with ⟨hb, _, _, h⟩ | h
    · exact absurd h.symm hb
    · exact h
  have hrl : r.length ≤ mo.toNat := plR_len hp (by simp)
  have hm2 : Mem a bs (new2 ++ (new ++ L)) := hm.mono fun p h => by simp [h]
  have hin' : InU ra r (new2 ++ (new ++ L)) := hin.mono fun p h => by simp [h]
  have hin2' : InU ra2 r2 (new2 ++ (new ++ L)) := hin2.mono fun p h => by simp [h]
  have hno1 : nilOr ra 1 1 = true := by cases ra <;> rfl
  refine c15 (tI_mk (bm_mk (fun he => ?_) (fun he => c6tail H2 hm2 ht h0 h1 hin' hno1 hrl (by omega) hb hp)))
  have he : e2 = 0 := by simpa using he
  subst he
  have hp2 : PlR (nxA bs t) (mo + mr).toNat [] (bgS bs x).1 0 r2 w2 0 := by
    rcases hp2 with ⟨hb2, _⟩ | ⟨_, h⟩
    · exact absurd hb hb2
    · exact h
  obtain ⟨⟨z, rfl⟩, hw⟩ := plR_two nxA_err (m' := (mo + mr).toNat) (by omega) hp rfl _ _ hp2
  refine bm_mk (fun h => ?_) (fun _ => ?_)
  · have h := of_decide_eq_true h
    simp only [List.length_append] at h
    omega
  refine req_mk (by omega) (req_mk (by simp only [List.length_append]; omega) ?_)
  have hz : szOf Try.prog 22 = 1 := by kernel_rfl
  have en : ((r.length : Int) - 0).toNat = r.length := by omega
  simp only
  rw [en]
  have hc1 : InO (ra2.map fun x => Addr.add x (Int.toNat 0 * szOf Try.prog 22)) r (new2 ++ (new ++ L)) := by
    have := hin2'.cut (x := fun x => Addr.add x (Int.toNat 0 * szOf Try.prog 22)) (o := 0) (n := r.length) (fun r => by rw [hz, add_none]; rfl)
    rw [List.drop_zero, List.take_left] at this
    exact this
  refine c16o H2 hc1 (.of hin') rfl (by omega) ?_
  simp only [tB_bool, Bool.not_true, bm_false]
  refine bm_mk (fun hww => ?_) (fun _ => c6tail H2 hm2 ht h0 h1 hin' hno1 hrl (by omega) hb hp)
  obtain ⟨rfl, hz⟩ := hw hww
  rw [hz]
  simp only [Bool.not_true, bm_false, bne_self_eq_false]
  exact c6tail H2 hm2 ht h0 h1 hin' hno1 hrl (by omega) hb hp)
end
end Go.AI
end
