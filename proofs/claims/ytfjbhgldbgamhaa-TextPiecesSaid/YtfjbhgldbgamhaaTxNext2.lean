/- The next piece of a text of bytes, of words. -/
import Derived.Test.YtfjbhgldbgamhaaTxNext
set_option maxRecDepth 4000
set_option linter.unusedVariables false
set_option linter.unusedSimpArgs false
namespace Go.AI
open Go.Proofs
theorem tAgg_agg (l : List Value) (K : List Value → Prop) : tAgg (.agg ⟨l⟩) K = K l := rfl
abbrev NxR : Type := Except Int ((Int × List Int) × AtS)
/-- What Next does at a place, if N says so. -/
def NextOk (a : Option Addr) (bs : List Int) (t : Int) (N : AtS → NxR) (at_ : AtS) : Prop :=
  ∀ (σ : AS) (L : List (Nat × AObj)) (K : Value → AS → Prop), Has σ L → Mem a bs L →
    (∀ σ' v p at' new, N at_ = .ok (p, at') → Has σ' (new ++ L) → PV p.1 p.2 v new → K (.tuple ⟨[v, atV at', i64 0]⟩) σ') →
    (∀ σ' v at' e, N at_ = .error e → e ≠ 0 → Has σ' L → PV 0 [] v [] → K (.tuple ⟨[v, atV at', i64 e]⟩) σ') → Tri Try.prog 21 [.slice a bs.length 1, u32 t, atV at_] σ K
def nx1 (bs : List Int) (n : Nat) (at_ : AtS) : NxR :=
  match rd bs at_.x n with
  | none => .error 90
  | some c => .ok (oneP c, ⟨at_.k, w32 (at_.x + n), at_.b⟩)
theorem c21n {a : Option Addr} {bs : List Int} {t k x b : Int} {n : Nat} (hk : (k = 226 ∧ n = 4) ∨ (k = 224 ∧ n = 1)) (h0 : 0 ≤ x) (h1 : x ≤ 4294967295) : NextOk a bs t (nx1 bs n) ⟨k, x, b⟩ := by
  intro σ L K H hm hok herr
  refine tri_in ?_
  rw [s21]
  refine newAt_mk H fun i0 σ1 H1 => newAt_mk H1 fun i2 σ2 H2 => newAt_mk H2 fun i4 σ3 H3 => ?_
  have hm3 : Mem a bs ((i4, AObj.row .plain [i64 0, u32 0, u32 0]) :: (i2, .row .plain [i64 0, .slice none 0 0, u32 0, .slice none 0 0]) :: (i0, .row .plain [i64 k, u32 x, u32 b]) :: L) := hm.mono fun p h => by simp [h]
  refine ldc_mk H3 2 rfl rfl (tI_mk ?_)
  obtain ⟨rfl, rfl⟩ | ⟨rfl, rfl⟩ := hk
  case inl =>
    refine bm_mk (fun _ => ?_) (fun h => by simp at h)
    refine ldc_mk H3 2 rfl rfl (tI_mk ?_)
    refine c33 (n := 4) H3 hm3 (.inr rfl) h0 h1 (fun v hv v0 v1 => ?_) (fun hv => ?_)
    · simp only [tTup_tup, pSome_some, tI_int, List.getElem?_cons_zero, List.getElem?_cons_succ, bne_self_eq_false, bm_false]
      refine ldc_mk H3 2 rfl rfl (tI_mk ?_)
      refine put1_mk H3 2 rfl rfl (by simp) fun σ4 H4 => ?_
      refine ls_mk H4 (q := 2) rfl rfl ?_
      simp only [tCons, tI_int, tNil, List.set]
      refine c36 H4 fun σ5 pv new H5 hpv => ?_
      obtain ⟨ca, ad, aa, an, rfl, hin⟩ := hpv
      have H6 := H5.perm (List.perm_append_comm_assoc [(i4, AObj.row .plain [i64 0, u32 0, u32 0]), (i2, .row .plain [i64 0, .slice none 0 0, u32 0, .slice none 0 0]), (i0, .row .plain [i64 226, u32 (w32 (x + w32 4)), u32 b])] new L)
      simp only [tAgg_agg, tCons, tI_int, tL_sl, tNil]
      refine ls_mk H6 (q := 2) rfl rfl ?_
      simp only [tCons, tI_int, tNil]
      refine ⟨by first | rfl | trivial, ?_⟩
      refine ps_mk (n := 4) H6 (q := 1) rfl rfl rfl fun σ6 H7 => ?_
      refine ls_mk H7 (q := 2) rfl rfl ?_
      simp only [tCons, tI_int, tNil]
      refine ⟨by first | rfl | trivial, ?_⟩
      refine ps_mk (n := 3) H7 (q := 0) rfl rfl rfl fun σ7 H8 => ?_
      refine ls_mk H8 (q := 1) rfl rfl ?_
      simp only [tCons, tI_int, tL_sl, tNil]
      refine ls_mk H8 (q := 0) rfl rfl ?_
      simp only [tCons, tI_int, tNil]
      refine hok σ7 _ (oneP v) ⟨226, w32 (x + w32 4), b⟩ new ?_ (H8.sub (.cons _ (.cons _ (.cons _ (.refl _))))) ⟨ca, ad, aa, an, rfl, hin⟩
      unfold nx1
      simp only [hv]
      rfl
    · have e2 : ((90 : Int) != 0) = true := by decide
      simp only [tTup_tup, pSome_some, tI_int, List.getElem?_cons_zero, List.getElem?_cons_succ, e2, bm_true]
      refine ls_mk H3 (q := 1) rfl rfl ?_
      simp only [tCons, tI_int, tL_nil, tNil]
      refine ls_mk H3 (q := 0) rfl rfl ?_
      simp only [tCons, tI_int, tNil]
      refine ps_mk (n := 4) H3 (q := 1) rfl rfl rfl fun σ4 H4 => ?_
      refine ls_mk H4 (q := 0) rfl rfl ?_
      simp only [tCons, tI_int, tNil]
      refine ⟨by first | rfl | trivial, ?_⟩
      refine ps_mk (n := 3) H4 (q := 0) rfl rfl rfl fun σ5 H5 => ?_
      refine ls_mk H5 (q := 1) rfl rfl ?_
      simp only [tCons, tI_int, tL_sl, tL_nil, tNil]
      refine ls_mk H5 (q := 0) rfl rfl ?_
      simp only [tCons, tI_int, tNil]
      refine herr σ5 _ ⟨0, 0, 0⟩ 90 ?_ (by decide) (H5.sub (.cons _ (.cons _ (.cons _ (.refl _))))) ⟨none, 0, none, 0, rfl, .inl rfl⟩
      unfold nx1
      simp only [hv]
  case inr =>
    refine bm_mk (fun h => by simp at h) (fun _ => bm_mk (fun _ => ?_) (fun h => by simp at h))
    refine ldc_mk H3 2 rfl rfl (tI_mk ?_)
    refine c33 (n := 1) H3 hm3 (.inl rfl) h0 h1 (fun v hv v0 v1 => ?_) (fun hv => ?_)
    · simp only [tTup_tup, pSome_some, tI_int, List.getElem?_cons_zero, List.getElem?_cons_succ, bne_self_eq_false, bm_false]
      refine ldc_mk H3 2 rfl rfl (tI_mk ?_)
      refine put1_mk H3 2 rfl rfl (by simp) fun σ4 H4 => ?_
      refine ls_mk H4 (q := 2) rfl rfl ?_
      simp only [tCons, tI_int, tNil, List.set]
      refine c36 H4 fun σ5 pv new H5 hpv => ?_
      obtain ⟨ca, ad, aa, an, rfl, hin⟩ := hpv
      have H6 := H5.perm (List.perm_append_comm_assoc [(i4, AObj.row .plain [i64 0, u32 0, u32 0]), (i2, .row .plain [i64 0, .slice none 0 0, u32 0, .slice none 0 0]), (i0, .row .plain [i64 224, u32 (w32 (x + w32 1)), u32 b])] new L)
      simp only [tAgg_agg, tCons, tI_int, tL_sl, tNil]
      refine ls_mk H6 (q := 2) rfl rfl ?_
      simp only [tCons, tI_int, tNil]
      refine ⟨by first | rfl | trivial, ?_⟩
      refine ps_mk (n := 4) H6 (q := 1) rfl rfl rfl fun σ6 H7 => ?_
      refine ls_mk H7 (q := 2) rfl rfl ?_
      simp only [tCons, tI_int, tNil]
      refine ⟨by first | rfl | trivial, ?_⟩
      refine ps_mk (n := 3) H7 (q := 0) rfl rfl rfl fun σ7 H8 => ?_
      refine ls_mk H8 (q := 1) rfl rfl ?_
      simp only [tCons, tI_int, tL_sl, tNil]
      refine ls_mk H8 (q := 0) rfl rfl ?_
      simp only [tCons, tI_int, tNil]
      refine hok σ7 _ (oneP v) ⟨224, w32 (x + w32 1), b⟩ new ?_ (H8.sub (.cons _ (.cons _ (.cons _ (.refl _))))) ⟨ca, ad, aa, an, rfl, hin⟩
      unfold nx1
      simp only [hv]
      rfl
    · have e2 : ((90 : Int) != 0) = true := by decide
      simp only [tTup_tup, pSome_some, tI_int, List.getElem?_cons_zero, List.getElem?_cons_succ, e2, bm_true]
      refine ls_mk H3 (q := 1) rfl rfl ?_
      simp only [tCons, tI_int, tL_nil, tNil]
      refine ls_mk H3 (q := 0) rfl rfl ?_
      simp only [tCons, tI_int, tNil]
      refine ps_mk (n := 4) H3 (q := 1) rfl rfl rfl fun σ4 H4 => ?_
      refine ls_mk H4 (q := 0) rfl rfl ?_
      simp only [tCons, tI_int, tNil]
      refine ⟨by first | rfl | trivial, ?_⟩
      refine ps_mk (n := 3) H4 (q := 0) rfl rfl rfl fun σ5 H5 => ?_
      refine ls_mk H5 (q := 1) rfl rfl ?_
      simp only [tCons, tI_int, tL_sl, tL_nil, tNil]
      refine ls_mk H5 (q := 0) rfl rfl ?_
      simp only [tCons, tI_int, tNil]
      refine herr σ5 _ ⟨0, 0, 0⟩ 90 ?_ (by decide) (H5.sub (.cons _ (.cons _ (.cons _ (.refl _))))) ⟨none, 0, none, 0, rfl, .inl rfl⟩
      unfold nx1
      simp only [hv]
end Go.AI
