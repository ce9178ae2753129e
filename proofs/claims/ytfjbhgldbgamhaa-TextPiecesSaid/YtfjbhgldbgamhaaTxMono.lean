/- What is read of a memory is read of a longer one; a text has one reading. -/
import Derived.Test.YtfjbhgldbgamhaaTxPacked
import Derived.Test.YtfjbhgldbgamhaaTxRowsLaw
set_option maxRecDepth 4000
set_option linter.unusedVariables false
set_option linter.unusedSimpArgs false
namespace Go.AI
open Go.Proofs
theorem rd_mono {bs tl : List Int} {x : Int} {n : Nat} {v : Int} (h : rd bs x n = some v) : rd (bs ++ tl) x n = some v := by
  unfold rd at h ⊢
  split at h
  · rename_i hc
    rw [if_pos (by rw [List.length_append]; omega)]
    rw [← h, List.drop_append_of_le_length (by omega), List.take_append_of_le_length (by rw [List.length_drop]; omega)]
  · cases h
theorem rowS_mono {bs tl : List Int} {n : Nat} : ∀ (f : Nat) (x : Int) (l : List Int), rowS bs n f x = some l → ∀ f', f ≤ f' → rowS (bs ++ tl) n f' x = some l
  | 0, x, l, h, _, _ => by simp [rowS] at h
  | f + 1, x, l, h, f', hf => by
    obtain ⟨g, rfl⟩ : ∃ g, f' = g + 1 := ⟨f' - 1, by omega⟩
    simp only [rowS] at h ⊢
    cases hr : rd bs x n with
    | none => rw [hr] at h; cases h
    | some c =>
      rw [hr] at h
      rw [rd_mono hr]
      simp only at h ⊢
      by_cases hc : c = 0
      · rw [if_pos hc] at h ⊢; exact h
      · rw [if_neg hc] at h ⊢
        cases hq : rowS bs n f (w32 (x + w32 n)) with
        | none => rw [hq] at h; cases h
        | some l2 =>
          rw [hq] at h
          rw [rowS_mono f _ l2 hq g (by omega)]
          exact h
theorem rowS_len {bs : List Int} {n : Nat} : ∀ (f : Nat) (x : Int) (l : List Int), rowS bs n f x = some l → l.length ≤ f
  | 0, x, l, h => by simp [rowS] at h
  | f + 1, x, l, h => by
    simp only [rowS] at h
    split at h
    · cases h
    · split at h
      · cases h; simp
      · rename_i c _ _
        cases hq : rowS bs n f (w32 (x + w32 n)) with
        | none => rw [hq] at h; cases h
        | some l2 =>
          rw [hq] at h
          cases h
          have := rowS_len f _ l2 hq
          simp only [List.length_cons]
          omega
theorem argsS_mono {bs tl : List Int} {x n : Int} : ∀ (f i : Nat), argsS bs x n f i = true → ∀ f', f ≤ f' → argsS (bs ++ tl) x n f' i = true
  | 0, i, h, _, _ => by simp [argsS] at h
  | f + 1, i, h, f', hf => by
    obtain ⟨g, rfl⟩ : ∃ g, f' = g + 1 := ⟨f' - 1, by omega⟩
    simp only [argsS] at h ⊢
    by_cases hi : (i : Int) < n
    · rw [if_pos hi] at h ⊢
      cases hr : rd bs (w32 (w32 (x + 9) + w32 (4 * (i : Int)))) 4 with
      | none => rw [hr] at h; cases h
      | some v =>
        rw [hr] at h
        rw [rd_mono hr]
        exact argsS_mono f (i + 1) h g (by omega)
    · rw [if_neg hi]
theorem refT_mono {bs tl : List Int} {x k : Int} (h : refT bs x k = true) : refT (bs ++ tl) x k = true := by
  unfold refT at h ⊢
  by_cases hk : k < 10
  · rw [if_pos hk]
  · rw [if_neg hk] at h ⊢
    cases hr : rd bs (w32 (x + 5)) 4 with
    | none => rw [hr] at h; cases h
    | some v =>
      rw [hr] at h
      rw [rd_mono hr]
      exact argsS_mono _ _ h _ (by rw [List.length_append]; omega)
theorem refS_mono {bs tl : List Int} {x k : Int} (h : refS bs x k = true) : refS (bs ++ tl) x k = true := by
  unfold refS at h ⊢
  cases hr : rd bs (w32 (x + 1)) 4 with
  | none => rw [hr] at h; cases h
  | some v =>
    rw [hr] at h
    rw [rd_mono hr]
    simp only at h ⊢
    by_cases hk : Int.tmod k 2 = 1
    · rw [if_pos hk] at h ⊢
      cases hr2 : rd bs v 4 with
      | none => rw [hr2] at h; cases h
      | some v2 =>
        rw [hr2] at h
        rw [rd_mono hr2]
        exact refT_mono h
    · rw [if_neg hk] at h ⊢
      exact refT_mono h
theorem oneS_mono {bs tl : List Int} {x : Int} {n : Nat} (h : oneS bs x n ≠ .error 90) : oneS (bs ++ tl) x n = oneS bs x n := by
  unfold oneS at h ⊢
  cases hr : rd bs (w32 (x + 1)) n with
  | none => rw [hr] at h; exact absurd rfl h
  | some v => rw [rd_mono hr]
theorem rowE_mono {bs tl : List Int} {x : Int} {n : Nat} (h : rowE bs x n ≠ .error 90) : rowE (bs ++ tl) x n = rowE bs x n := by
  unfold rowE at h ⊢
  cases hr : rowS bs n (bs.length + 1) (w32 (x + 1)) with
  | none => rw [hr] at h; exact absurd rfl h
  | some v => rw [rowS_mono _ _ _ hr _ (by rw [List.length_append]; omega)]
theorem refE_mono {bs tl : List Int} {x k : Int} (h : refE bs x k ≠ .error 90) : refE (bs ++ tl) x k = refE bs x k := by
  unfold refE at h ⊢
  cases hr : refS bs x k with
  | false => rw [hr] at h; exact absurd rfl h
  | true => rw [refS_mono hr]
theorem leafS_mono {bs tl : List Int} {x : Int} (h : leafS bs x ≠ .error 90) : leafS (bs ++ tl) x = leafS bs x := by
  unfold leafS at h ⊢
  cases hr : rd bs x 1 with
  | none => rw [hr] at h; exact absurd rfl h
  | some k =>
    rw [hr] at h
    rw [rd_mono hr]
    simp only at h ⊢
    unfold leafK at h ⊢
    by_cases c1 : k = 1
    · rw [if_pos c1, if_pos c1]
    rw [if_neg c1] at h; rw [if_neg c1, if_neg c1]
    by_cases c2 : k = 2
    · rw [if_pos c2] at h; rw [if_pos c2, if_pos c2]; exact oneS_mono h
    rw [if_neg c2] at h; rw [if_neg c2, if_neg c2]
    by_cases c4 : k = 4
    · rw [if_pos c4] at h; rw [if_pos c4, if_pos c4]; exact oneS_mono h
    rw [if_neg c4] at h; rw [if_neg c4, if_neg c4]
    by_cases c3 : k = 3
    · rw [if_pos c3] at h; rw [if_pos c3, if_pos c3]; exact rowE_mono h
    rw [if_neg c3] at h; rw [if_neg c3, if_neg c3]
    by_cases c5 : k = 5
    · rw [if_pos c5] at h; rw [if_pos c5, if_pos c5]; exact rowE_mono h
    rw [if_neg c5] at h; rw [if_neg c5, if_neg c5]
    by_cases c8 : k = 8 ∨ k = 9 ∨ k = 10 ∨ k = 11
    · rw [if_pos c8] at h; rw [if_pos c8, if_pos c8]; exact refE_mono h
    rw [if_neg c8, if_neg c8]
theorem walkL_mono {bs tl : List Int} : ∀ (f : Nat) (node x b : Int), walkL bs f node x b ≠ .error 90 → walkL (bs ++ tl) f node x b = walkL bs f node x b
  | 0, node, x, b, h => by
    simp only [walkL] at h ⊢
    cases hr : rd bs node 1 with
    | none => rw [hr] at h; exact absurd rfl h
    | some k => rw [rd_mono hr]
  | f + 1, node, x, b, h => by
    simp only [walkL] at h ⊢
    cases hr : rd bs node 1 with
    | none => rw [hr] at h; exact absurd rfl h
    | some k =>
      rw [hr] at h
      rw [rd_mono hr]
      simp only at h ⊢
      by_cases hk : k ≠ 0
      · rw [if_pos hk, if_pos hk]
      rw [if_neg hk] at h; rw [if_neg hk, if_neg hk]
      cases hr2 : rd bs x 1 with
      | none => rw [hr2] at h; exact absurd rfl h
      | some bits =>
        rw [hr2] at h
        rw [rd_mono hr2]
        simp only at h ⊢
        cases hr3 : rd bs (na node bits b) 4 with
        | none => rw [hr3] at h; exact absurd rfl h
        | some nd =>
          rw [hr3] at h
          rw [rd_mono hr3]
          exact walkL_mono f _ _ _ h
theorem walkS_mono {bs tl : List Int} {t x b : Int} (h : walkS bs t x b ≠ .error 90) : walkS (bs ++ tl) t x b = walkS bs t x b := by
  unfold walkS at h ⊢
  by_cases ht : t = 0
  · rw [if_pos ht, if_pos ht]
  rw [if_neg ht] at h; rw [if_neg ht, if_neg ht]
  by_cases hb : b > 7
  · rw [if_pos hb, if_pos hb]
  rw [if_neg hb] at h; rw [if_neg hb, if_neg hb]
  cases hr : rd bs (w32 (t + 8)) 4 with
  | none => rw [hr] at h; exact absurd rfl h
  | some nd =>
    rw [hr] at h
    rw [rd_mono hr]
    exact walkL_mono _ _ _ _ h
/-- The next piece, whichever kind of text it is. -/
def nxA (bs : List Int) (t : Int) (at_ : AtS) : NxR := if at_.k = 226 then nx1 bs 4 at_ else if at_.k = 224 then nx1 bs 1 at_ else nxP bs t at_
theorem nx1_mono {bs tl : List Int} {n : Nat} {at_ : AtS} (h : nx1 bs n at_ ≠ .error 90) : nx1 (bs ++ tl) n at_ = nx1 bs n at_ := by
  unfold nx1 at h ⊢
  cases hr : rd bs at_.x n with
  | none => rw [hr] at h; exact absurd rfl h
  | some v => rw [rd_mono hr]
theorem nxP_mono {bs tl : List Int} {t : Int} {at_ : AtS} (h : nxP bs t at_ ≠ .error 90) : nxP (bs ++ tl) t at_ = nxP bs t at_ := by
  unfold nxP at h ⊢
  cases hw : walkS bs t at_.x at_.b with
  | error e =>
    rw [hw] at h
    have hne : walkS bs t at_.x at_.b ≠ .error 90 := by rw [hw]; intro e2; cases e2; exact h rfl
    rw [walkS_mono hne, hw]
  | ok q =>
    rw [hw] at h
    have hne : walkS bs t at_.x at_.b ≠ .error 90 := by rw [hw]; intro e2; cases e2
    rw [walkS_mono hne, hw]
    obtain ⟨nd, x', b'⟩ := q
    simp only at h ⊢
    have hl : leafS bs nd ≠ .error 90 := by intro e; rw [e] at h; exact h rfl
    rw [leafS_mono hl]
theorem nxA_mono {bs tl : List Int} {t : Int} {at_ : AtS} (h : nxA bs t at_ ≠ .error 90) : nxA (bs ++ tl) t at_ = nxA bs t at_ := by
  unfold nxA at h ⊢
  by_cases h6 : at_.k = 226
  · rw [if_pos h6] at h; rw [if_pos h6, if_pos h6]; exact nx1_mono h
  rw [if_neg h6] at h; rw [if_neg h6, if_neg h6]
  by_cases h4 : at_.k = 224
  · rw [if_pos h4] at h; rw [if_pos h4, if_pos h4]; exact nx1_mono h
  rw [if_neg h4] at h; rw [if_neg h4, if_neg h4]
  exact nxP_mono h
theorem bgS_mono {bs tl : List Int} {x : Int} (h : (bgS bs x).2 ≠ 90) : bgS (bs ++ tl) x = bgS bs x := by
  unfold bgS at h ⊢
  cases hr : rd bs x 1 with
  | none => rw [hr] at h; exact absurd rfl h
  | some v => rw [rd_mono hr]
theorem plR_mono {bs tl : List Int} {t : Int} {m : Nat} {l r : List Int} {at_ : AtS} {i : Nat} {w : Bool} {e : Int} (h : PlR (nxA bs t) m l at_ i r w e) (he : e ≠ 90) : PlR (nxA (bs ++ tl) t) m l at_ i r w e := by
  have ok : ∀ {at_ : AtS} {q}, nxA bs t at_ = .ok q → nxA (bs ++ tl) t at_ = .ok q := fun h => by rw [nxA_mono (by rw [h]; intro e; cases e), h]
  induction h with
  | idle h => exact .idle h
  | err hi hn => exact .err hi (by rw [nxA_mono (by rw [hn]; intro e2; cases e2; exact he rfl), hn])
  | fin hi hn hp => exact .fin hi (ok hn) hp
  | ref hi hn hp => exact .ref hi (ok hn) hp
  | cut hi hn h1 h3 hc => exact .cut hi (ok hn) h1 h3 hc
  | more hi hn h1 h3 hc _ ih => exact .more hi (ok hn) h1 h3 hc (ih he)
theorem plR_one {N : AtS → NxR} {m : Nat} {l r : List Int} {at_ : AtS} {i : Nat} {w : Bool} {e : Int} (h : PlR N m l at_ i r w e) : ∀ {r' : List Int} {w' : Bool} {e' : Int}, PlR N m l at_ i r' w' e' → r = r' ∧ w = w' ∧ e = e' := by
  induction h with
  | idle h =>
    intro r' w' e' h'
    cases h' with
    | idle _ => exact ⟨rfl, rfl, rfl⟩
    | err h2 _ => exact absurd h2 h
    | fin h2 _ _ => exact absurd h2 h
    | ref h2 _ _ => exact absurd h2 h
    | cut h2 _ _ _ _ => exact absurd h2 h
    | more h2 _ _ _ _ _ => exact absurd h2 h
  | err hi hn =>
    intro r' w' e' h'
    cases h' with
    | idle h2 => exact absurd hi h2
    | err _ h3 => rw [hn] at h3; cases h3; exact ⟨rfl, rfl, rfl⟩
    | fin _ h3 _ => rw [hn] at h3; cases h3
    | ref _ h3 _ => rw [hn] at h3; cases h3
    | cut _ h3 _ _ _ => rw [hn] at h3; cases h3
    | more _ h3 _ _ _ _ => rw [hn] at h3; cases h3
  | fin hi hn hp =>
    intro r' w' e' h'
    cases h' with
    | idle h2 => exact absurd hi h2
    | err _ h3 => rw [hn] at h3; cases h3
    | fin _ h3 _ => exact ⟨rfl, rfl, rfl⟩
    | ref _ h3 h4 => rw [hn] at h3; cases h3; rw [hp] at h4; cases h4
    | cut _ h3 h4 _ _ => rw [hn] at h3; cases h3; exact absurd hp h4
    | more _ h3 h4 _ _ _ => rw [hn] at h3; cases h3; exact absurd hp h4
  | ref hi hn hp =>
    intro r' w' e' h'
    cases h' with
    | idle h2 => exact absurd hi h2
    | err _ h3 => rw [hn] at h3; cases h3
    | fin _ h3 h4 => rw [hn] at h3; cases h3; rw [hp] at h4; cases h4
    | ref _ h3 h4 => exact ⟨rfl, rfl, rfl⟩
    | cut _ h3 _ h4 _ => rw [hn] at h3; cases h3; exact absurd hp h4
    | more _ h3 _ h4 _ _ => rw [hn] at h3; cases h3; exact absurd hp h4
  | cut hi hn h1 h3 hc =>
    intro r' w' e' h'
    cases h' with
    | idle h2 => exact absurd hi h2
    | err _ h4 => rw [hn] at h4; cases h4
    | fin _ h4 h5 => rw [hn] at h4; cases h4; exact absurd h5 h1
    | ref _ h4 h5 => rw [hn] at h4; cases h4; exact absurd h5 h3
    | cut _ h4 _ _ _ => rw [hn] at h4; cases h4; exact ⟨rfl, rfl, rfl⟩
    | more _ h4 _ _ h5 _ => rw [hn] at h4; cases h4; omega
  | more hi hn h1 h3 hc _ ih =>
    intro r' w' e' h'
    cases h' with
    | idle h2 => exact absurd hi h2
    | err _ h4 => rw [hn] at h4; cases h4
    | fin _ h4 h5 => rw [hn] at h4; cases h4; exact absurd h5 h1
    | ref _ h4 h5 => rw [hn] at h4; cases h4; exact absurd h5 h3
    | cut _ h4 _ _ h5 => rw [hn] at h4; cases h4; omega
    | more _ h4 _ _ _ h5 => rw [hn] at h4; cases h4; exact ih h5
theorem plR_len {N : AtS → NxR} {m : Nat} {l r : List Int} {at_ : AtS} {i : Nat} {w : Bool} {e : Int} (h : PlR N m l at_ i r w e) : l.length ≤ m → r.length ≤ m := by
  induction h with
  | idle _ => exact id
  | err _ _ => intro _; simp
  | fin _ _ _ => exact id
  | ref _ _ _ => intro _; simp
  | cut _ _ _ _ hc => intro h; rw [List.length_append, List.length_take]; omega
  | more _ _ _ _ hc _ ih => intro h; exact ih (by rw [List.length_append]; omega)
/-- The places that a text comes to. -/
def RA (at_ : AtS) : Prop := (at_.k = 224 ∨ at_.k = 225 ∨ at_.k = 226) ∧ (0 ≤ at_.x ∧ at_.x ≤ 4294967295) ∧ (0 ≤ at_.b ∧ at_.b ≤ 7)
theorem NextOk.congr {a : Option Addr} {bs : List Int} {t : Int} {N N' : AtS → NxR} {at_ : AtS} (h : N at_ = N' at_) (ho : NextOk a bs t N' at_) : NextOk a bs t N at_ := by
  intro σ L K H hm hok herr
  exact ho σ L K H hm (fun σ' v p at' new hn => hok σ' v p at' new (h.trans hn)) (fun σ' v at' e hn => herr σ' v at' e (h.trans hn))
theorem nextA {a : Option Addr} {bs : List Int} {t : Int} (ht : 0 ≤ t) (at_ : AtS) (h : RA at_) : NextOk a bs t (nxA bs t) at_ := by
  obtain ⟨k, x, b⟩ := at_
  obtain ⟨hk, hx, hb⟩ := h
  simp only at hk hx hb
  rcases hk with rfl | rfl | rfl
  · exact NextOk.congr (N' := nx1 bs 1) rfl (c21n (.inr ⟨rfl, rfl⟩) hx.1 hx.2)
  · exact NextOk.congr (N' := nxP bs t) rfl (c21p rfl hx.1 hx.2 hb.1 ht)
  · exact NextOk.congr (N' := nx1 bs 4) rfl (c21n (.inl ⟨rfl, rfl⟩) hx.1 hx.2)
theorem leafS_len {bs : List Int} {x : Int} {p : Int × List Int} (h : leafS bs x = .ok p) : p.2.length ≤ bs.length + 1 := by
  unfold leafS at h
  split at h
  · cases h
  · have one : ∀ {n : Nat}, oneS bs x n = .ok p → p.2.length ≤ bs.length + 1 := by
      intro n h
      unfold oneS at h
      split at h
      · cases h
      · cases h; simp
    have row : ∀ {n : Nat}, rowE bs x n = .ok p → p.2.length ≤ bs.length + 1 := by
      intro n h
      unfold rowE at h
      split at h
      · cases h
      · rename_i l hl
        cases h
        exact rowS_len _ _ _ hl
    unfold leafK at h
    split at h
    · cases h; simp
    split at h
    · exact one h
    split at h
    · exact one h
    split at h
    · exact row h
    split at h
    · exact row h
    split at h
    · unfold refE at h
      split at h
      · cases h; simp
      · cases h
    · cases h
theorem walkS_in {bs : List Int} {t x b nd x' b' : Int} (h0 : 0 ≤ x) (h1 : x ≤ 4294967295) (hb : 0 ≤ b) (h : walkS bs t x b = .ok (nd, x', b')) : 0 ≤ x' ∧ x' ≤ 4294967295 ∧ 0 ≤ b' ∧ b' ≤ 7 := by
  unfold walkS at h
  split at h
  · cases h
  · split at h
    · cases h
    · split at h
      · cases h
      · exact walkL_in _ _ _ _ _ _ _ h0 h1 hb (by omega) h
theorem nxA_keeps {bs : List Int} {t : Int} (hl : bs.length ≤ 1048576) : ∀ (at_ : AtS) (p : Int × List Int) (at' : AtS), RA at_ → nxA bs t at_ = .ok (p, at') → RA at' ∧ p.2.length ≤ 1048577 := by
  intro at_ p at' hR hn
  have one : ∀ {n : Nat}, nx1 bs n at_ = .ok (p, at') → RA at' ∧ p.2.length ≤ 1048577 := by
    intro n hn
    unfold nx1 at hn
    split at hn
    · cases hn
    · cases hn
      refine ⟨⟨hR.1, w32_in _, hR.2.2⟩, ?_⟩
      unfold oneP
      split <;> simp
  unfold nxA at hn
  split at hn
  · exact one hn
  · split at hn
    · exact one hn
    · unfold nxP at hn
      split at hn
      · cases hn
      · rename_i nd x' b' hw
        split at hn
        · cases hn
        · rename_i p2 hp
          cases hn
          obtain ⟨g0, g1, g2, g3⟩ := walkS_in hR.2.1.1 hR.2.1.2 hR.2.2.1 hw
          refine ⟨⟨hR.1, ⟨g0, g1⟩, ⟨g2, g3⟩⟩, ?_⟩
          have := leafS_len hp
          omega
theorem bgS_RA {bs : List Int} {x : Int} (h : (bgS bs x).2 = 0) : RA (bgS bs x).1 := by
  unfold bgS at h ⊢
  cases hr : rd bs x 1 with
  | none => rw [hr] at h; cases h
  | some v =>
    rw [hr] at h
    simp only at h ⊢
    by_cases h1 : v = 224 ∨ v = 225
    · rw [if_pos h1]
      exact ⟨by simp only; omega, w32_in _, by simp⟩
    · rw [if_neg h1] at h ⊢
      by_cases h2 : v = 226
      · rw [if_pos h2]
        exact ⟨by simp only; omega, w32_in _, by simp⟩
      · rw [if_neg h2] at h; cases h
/-- What Plain gives. -/
def PlainS (bs : List Int) (t x : Int) (m : Nat) (r : List Int) (w : Bool) (e : Int) : Prop := ((bgS bs x).2 ≠ 0 ∧ r = [] ∧ w = false ∧ e = (bgS bs x).2) ∨ ((bgS bs x).2 = 0 ∧ PlR (nxA bs t) m [] (bgS bs x).1 0 r w e)
theorem PlainS.one {bs : List Int} {t x : Int} {m : Nat} {r r' : List Int} {w w' : Bool} {e e' : Int} (h : PlainS bs t x m r w e) (h' : PlainS bs t x m r' w' e') : r = r' ∧ w = w' ∧ e = e' := by
  rcases h with ⟨h0, rfl, rfl, rfl⟩ | ⟨h0, h⟩
  · rcases h' with ⟨_, rfl, rfl, rfl⟩ | ⟨h1, _⟩
    · exact ⟨rfl, rfl, rfl⟩
    · exact absurd h1 h0
  · rcases h' with ⟨h1, _⟩ | ⟨_, h'⟩
    · exact absurd h0 h1
    · exact plR_one h h'
theorem PlainS.mono {bs tl : List Int} {t x : Int} {m : Nat} {r : List Int} {w : Bool} {e : Int} (h : PlainS bs t x m r w e) (he : e ≠ 90) : PlainS (bs ++ tl) t x m r w e := by
  rcases h with ⟨h0, rfl, rfl, rfl⟩ | ⟨h0, h⟩
  · exact .inl ⟨by rw [bgS_mono he]; exact h0, rfl, rfl, by rw [bgS_mono he]⟩
  · have hb : bgS (bs ++ tl) x = bgS bs x := bgS_mono (by rw [h0]; decide)
    exact .inr ⟨by rw [hb]; exact h0, by rw [hb]; exact plR_mono h he⟩
section
variable {σ : AS} {K : Value → AS → Prop}
theorem c18A {L : List (Nat × AObj)} {a : Option Addr} {bs : List Int} {t x mo : Int} (H : Has σ L) (hm : Mem a bs L) (ht : 0 ≤ t) (h0 : 0 ≤ x) (h1 : x ≤ 4294967295) (hmo : mo ≤ 1073741824)
    (hK : ∀ σ' r w e ra re new, PlainS bs t x mo.toNat r w e → Has σ' (new ++ L) → nilOr ra re 1 = true → InU ra r new → K (.tuple ⟨[.slice ra r.length re, .bool w, i64 e]⟩) σ') :
    Tri Try.prog 18 [.slice a bs.length 1, u32 t, u32 x, i64 mo] σ K :=
  c18 (N := nxA bs t) (R := RA) H hm h0 h1 hmo bgS_RA (nxA_keeps hm.2.1) (fun at_ h => nextA ht at_ h)
    (fun σ' hne H' => hK σ' [] false _ none 0 [] (.inl ⟨hne, rfl, rfl, rfl⟩) H' rfl (.inl rfl))
    (fun σ' r w e ra re new hb hp H' hno hin => hK σ' r w e ra re new (.inr ⟨hb, hp⟩) H' hno hin)
theorem beyond_law {a c : Option Addr} {bs hs : List Int} {t x : Int} {L : List (Nat × AObj)} (H : Has σ L) (ha : In8 a bs L) (hc : In8 c hs L) (h8 : ∀ v ∈ bs, 0 ≤ v ∧ v < 256) (hh : ∀ v ∈ hs, 0 ≤ v ∧ v < 256)
    (lb : bs.length ≤ 4611686018427387903) (lh : hs.length ≤ 4611686018427387903) (ht : 0 ≤ t) (h0 : 0 ≤ x) (h1 : x ≤ 4294967295) : Tri Try.prog 7 [.slice a bs.length 1, u32 t, u32 x, .slice c hs.length 1] σ RB := tri_in (by
  rw [s7, wrap64 (by omega) (by omega)]
  refine bm_mk (fun _ => c9live (by simp only [tB_bool])) (fun hm => ?_)
  have hm : bs.length + hs.length ≤ 16384 := by have := of_decide_eq_false hm; omega
  refine c18A H ⟨h8, by omega, ha⟩ ht h0 h1 (by omega) fun σ1 r w e ra re new hp H1 hno hin => ?_
  simp only [tTup_tup, pSome_some, tI_int, tB_bool, List.getElem?_cons_zero, List.getElem?_cons_succ]
  refine tL_ok hno ?_
  refine newAt_mk H1 fun i14 σ2 H2 => ?_
  have inL : ∀ p ∈ L, p ∈ (i14, AObj.row .rw (cells8 [])) :: (new ++ L) := fun p h => by simp [h]
  refine src8_mk H2 (ha.mono inL) ?_
  refine app8_mk (ys := []) (ms := bs) H2 (by simp; omega) rfl fun j1 σ3 H3 => ?_
  simp only [List.length_nil, Nat.zero_add, List.nil_append]
  refine src8_mk H3 (hc.mono fun p h => by simp [h]) ?_
  refine app8_mk (ys := [] ++ bs) (ms := hs) H3 (by simp; omega) rfl fun j2 σ4 H4 => ?_
  simp only [List.nil_append] at H4 ⊢
  rw [← List.length_append]
  refine c18A H4 ⟨?_, by rw [List.length_append]; omega, .inr ⟨j2, .rw, rfl, by simp⟩⟩ ht h0 h1 (by omega) fun σ5 r2 w2 e2 ra2 re2 new2 hp2 H5 hno2 hin2 => ?_
  · intro v hv
    rcases List.mem_append.1 hv with h | h
    · exact h8 v h
    · exact hh v h
  simp only [tTup_tup, pSome_some, tI_int, tB_bool, List.getElem?_cons_zero, List.getElem?_cons_succ]
  refine tL_ok hno2 ?_
  refine c15 (tI_mk (bm_mk (fun _ => c9live (by simp only [tB_bool])) (fun he => ?_)))
  have he : e ≠ 90 := by simpa using he
  obtain ⟨rfl, rfl, rfl⟩ := (hp.mono he).one hp2
  refine c16 H5 (hin.mono fun p h => by simp [h]) (hin2.mono fun p h => by simp [h]) ?_ ?_
  · rcases hin with h | ⟨_, _, _, h⟩
    · rw [h]; simp
    · rcases hp with ⟨_, h, _⟩ | ⟨_, h⟩
      · rw [h]; simp
      · exact Nat.le_trans (plR_len h (by simp)) (by decide)
  simp only [tB_bool, bm_true, beq_self_eq_true]
  exact c9live (by simp only [tB_bool]))
end
end Go.AI
