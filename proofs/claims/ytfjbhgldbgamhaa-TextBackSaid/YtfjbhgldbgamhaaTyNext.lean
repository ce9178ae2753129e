/- Lemmas of the abstract condition ahead of code (a part of the library that the claim's proof stands on); they hold with no condition but those that each names. -/
import Derived.Test.YtfjbhgldbgamhaaTyBase
import Derived.Test.YtfjbhgldbgamhaaTyForm2
import Derived.Test.YtfjbhgldbgamhaaTyForm1
section
/- Where a text begins; a piece of one character; the next piece of a text of bytes, of words. -/
set_option maxRecDepth 4000
set_option linter.unusedVariables false
set_option linter.unusedSimpArgs false
namespace Go.AI
open Go.Proofs
structure AtS where
  k : Int
  x : Int
  b : Int
abbrev atC (a : AtS) : List Value := [i64 a.k, u32 a.x, u32 a.b]
abbrev atV (a : AtS) : Value := .agg ⟨atC a⟩
section
variable {σ : AS} {K : Value → AS → Prop}
theorem pl_mk {L : List (Nat × AObj)} {i q n : Nat} {cs vs : List Value} {G : List Value → AS → Prop} (H : Has σ L) (e : L[q]? = some (i, .row .plain cs)) (h1 : vs.length = n) (h2 : cs.length = n)
    (hG : ∀ σ', Has σ' (L.set q (i, .row .plain vs)) → G vs σ') : puts σ ⟨i, 0, none⟩ vs fun σ' => lds σ' ⟨i, 0, none⟩ n fun l => G l σ' := by
  have hq : q < L.length := (List.getElem?_eq_some_iff.1 e).1
  refine puts_mk H q e rfl (by omega) fun σ1 H1 => ?_
  have e1 : cs.take 0 ++ vs ++ cs.drop (0 + vs.length) = vs := by
    rw [List.take_zero, List.nil_append, List.drop_eq_nil_of_le (by omega), List.append_nil]
  rw [e1] at H1
  refine lds_mk H1 q (List.getElem?_set_self hq) (by omega) ?_
  rw [List.drop_zero, List.take_of_length_le (by omega)]
  exact hG σ1 H1
theorem ps_mk {L : List (Nat × AObj)} {i q n : Nat} {cs vs : List Value} {G : AS → Prop} (H : Has σ L) (e : L[q]? = some (i, .row .plain cs)) (h1 : vs.length = n) (h2 : cs.length = n)
    (hG : ∀ σ', Has σ' (L.set q (i, .row .plain vs)) → G σ') : puts σ ⟨i, 0, none⟩ vs fun σ' => G σ' := by
  refine puts_mk H q e rfl (by omega) fun σ1 H1 => ?_
  have e1 : cs.take 0 ++ vs ++ cs.drop (0 + vs.length) = vs := by
    rw [List.take_zero, List.nil_append, List.drop_eq_nil_of_le (by omega), List.append_nil]
  rw [e1] at H1
  exact hG σ1 H1
theorem ls_mk {L : List (Nat × AObj)} {i q n : Nat} {k : RK} {cs : List Value} {G : List Value → Prop} (H : Has σ L) (e : L[q]? = some (i, .row k cs)) (h2 : cs.length = n) (hG : G cs) : lds σ ⟨i, 0, none⟩ n G := by
  refine lds_mk H q e (by omega) ?_
  rw [List.drop_zero, List.take_of_length_le (by omega)]
  exact hG
def bgS (bs : List Int) (x : Int) : AtS × Int :=
  match rd bs x 1 with
  | none => (⟨0, 0, 0⟩, 90)
  | some v => if v = 224 ∨ v = 225 then (⟨v, w32 (x + 1), 0⟩, 0) else if v = 226 then (⟨v, w32 (x + 4), 0⟩, 0) else (⟨0, 0, 0⟩, 120)
theorem c20 {L : List (Nat × AObj)} {a : Option Addr} {bs : List Int} {x : Int} (H : Has σ L) (hm : Mem a bs L) (h0 : 0 ≤ x) (h1 : x ≤ 4294967295)
    (hK : ∀ σ', Has σ' L → K (.tuple ⟨[atV (bgS bs x).1, i64 (bgS bs x).2]⟩) σ') : Tri Try.prog 20 [.slice a bs.length 1, u32 x] σ K := tri_in (by
  rw [s20]
  refine newAt_mk H fun i0 σ1 H1 => ?_
  have out : ∀ {σ2 : AS} {k' x' b' e : Int}, Has σ2 ((i0, .row .plain [i64 0, u32 0, u32 0]) :: L) → bgS bs x = (⟨k', x', b'⟩, e) →
      puts σ2 ⟨i0, 0, none⟩ [i64 k', u32 x', u32 b'] fun σ10 => lds σ10 ⟨i0, 0, none⟩ 3 fun l11 => tCons l11 fun v12 l13 => tI .i64 v12 fun n14 => tCons l13 fun v15 l16 => tI .u32 v15 fun n17 => tCons l16 fun v18 l19 => tI .u32 v18 fun n20 => tNil l19 (K (.tuple ⟨[.agg ⟨[.int .i64 n14, .int .u32 n17, .int .u32 n20]⟩, .int .i64 e]⟩) σ10) := by
    intro σ2 k' x' b' e H2 hb
    refine pl_mk (vs := [i64 k', u32 x', u32 b']) H2 (q := 0) rfl rfl rfl fun σ3 H3 => ?_
    simp only [tCons, tI_int, tNil]
    have := hK σ3 (H3.sub (.cons _ (.refl _)))
    rw [hb] at this
    exact this
  refine c33 (n := 1) H1 (hm.mono fun p h => List.mem_cons_of_mem _ h) (.inl rfl) h0 h1 (fun v hv v0 v1 => ?_) (fun hv => ?_)
  · simp only [tTup_tup, pSome_some, tI_int, List.getElem?_cons_zero, List.getElem?_cons_succ, bne_self_eq_false, bm_false]
    rw [wrap64 (by omega) (by omega)]
    refine bm_mk (fun e1 => bm_mk (fun _ => ?_) (fun e2 => by rw [e1] at e2; cases e2)) (fun e1 => bm_mk (fun e2 => ?_) (fun e2 => bm_mk (fun e3 => ?_) (fun e3 => ?_)))
    · have e1 : v = 224 := by simpa using e1
      exact out H1 (by unfold bgS; rw [hv]; simp [e1])
    · have e2 : v = 225 := by simpa using e2
      exact out H1 (by unfold bgS; rw [hv]; simp [e2])
    · have e3 : v = 226 := by simpa using e3
      exact out H1 (by unfold bgS; rw [hv]; simp [e3])
    · have e1 : v ≠ 224 := by simpa using e1
      have e2 : v ≠ 225 := by simpa using e2
      have e3 : v ≠ 226 := by simpa using e3
      exact out H1 (by unfold bgS; rw [hv]; simp [e1, e2, e3])
  · have e2 : ((90 : Int) != 0) = true := by decide
    simp only [tTup_tup, pSome_some, tI_int, List.getElem?_cons_zero, List.getElem?_cons_succ, e2, bm_true]
    exact out H1 (by unfold bgS; rw [hv]))
/-- A piece: its kind, its characters. -/
def PV (k : Int) (cs : List Int) (v : Value) (L : List (Nat × AObj)) : Prop := ∃ ca ad aa an, v = .agg ⟨[i64 k, .slice ca cs.length 1, u32 ad, .slice aa an 1]⟩ ∧ InU ca cs L
def oneP (c : Int) : Int × List Int := if c = 0 then (1, []) else (2, [c])
theorem c36 {L : List (Nat × AObj)} {c : Int} (H : Has σ L) (hK : ∀ σ' v new, Has σ' (new ++ L) → PV (oneP c).1 (oneP c).2 v new → K v σ') : Tri Try.prog 36 [u32 c] σ K := tri_in (by
  rw [s36]
  refine newAt_mk H fun i0 σ1 H1 => bm_mk (fun h => ?_) (fun h => ?_)
  · have h : c = 0 := by simpa using h
    refine pl_mk (vs := [i64 1, .slice none 0 0, u32 0, .slice none 0 0]) H1 (q := 0) rfl rfl rfl fun σ2 H2 => ?_
    simp only [tCons, tI_int, tL_nil, tNil]
    refine hK σ2 _ [] (H2.sub (.cons _ (.refl _))) ?_
    unfold oneP
    rw [if_pos h]
    exact ⟨none, 0, none, 0, rfl, .inl rfl⟩
  · have h : c ≠ 0 := by simpa using h
    refine newAt_mk H1 fun i1 σ2 H2 => ?_
    refine pl_mk (vs := [i64 2, .slice (some ⟨i1, 0, none⟩) 1 1, u32 0, .slice none 0 0]) H2 (q := 1) rfl rfl rfl fun σ3 H3 => ?_
    simp only [tCons, tI_int, tL_sl, tL_nil, tNil]
    refine hK σ3 _ [(i1, .row .rw [u32 c])] (H3.sub (.cons_cons _ (.cons _ (.refl _)))) ?_
    unfold oneP
    rw [if_neg h]
    exact ⟨_, 0, none, 0, rfl, .inr ⟨i1, .rw, rfl, by simp⟩⟩)
end
end Go.AI
end
section
/- The next piece of a text of bytes, of words. -/
set_option maxRecDepth 4000
set_option linter.unusedVariables false
set_option linter.unusedSimpArgs false
namespace Go.AI
open Go.Proofs
theorem tAgg_agg (l : List Value) (K : List Value → Prop) : tAgg (.agg ⟨l⟩) K = K l := rfl
abbrev NxR : Type := Except Int ((Int × List Int) × AtS)
/-- What Next does at a place, if N says so. -/
def NextOk (a : Option Addr) (bs : List Int) (t : Int) (N : AtS → NxR) (at_ : AtS) : Prop :=
  ∀ (σ : AS) (L : List (Nat × AObj)) (K : Value → AS → Prop), Has σ L → Mem a bs L →
    (∀ σ' v p at' new, N at_ = .ok (p, at') → Has σ' (new ++ L) → PV p.1 p.2 v new → K (.tuple ⟨[v, atV at', i64 0]⟩) σ') →
    (∀ σ' v at' e, N at_ = .error e → e ≠ 0 → Has σ' L → PV 0 [] v [] → K (.tuple ⟨[v, atV at', i64 e]⟩) σ') → Tri Try.prog 21 [.slice a bs.length 1, u32 t, atV at_] σ K
def nx1 (bs : List Int) (n : Nat) (at_ : AtS) : NxR :=
  match rd bs at_.x n with
  | none => .error 90
  | some c => .ok (oneP c, ⟨at_.k, w32 (at_.x + n), at_.b⟩)
theorem c21n {a : Option Addr} {bs : List Int} {t k x b : Int} {n : Nat} (hk : (k = 226 ∧ n = 4) ∨ (k = 224 ∧ n = 1)) (h0 : 0 ≤ x) (h1 : x ≤ 4294967295) : NextOk a bs t (nx1 bs n) ⟨k, x, b⟩ := by
  intro σ L K H hm hok herr
  refine tri_in ?_
  rw [s21]
  refine newAt_mk H fun i0 σ1 H1 => newAt_mk H1 fun i2 σ2 H2 => newAt_mk H2 fun i4 σ3 H3 => ?_
  have hm3 : Mem a bs ((i4, AObj.row .plain [i64 0, u32 0, u32 0]) :: (i2, .row .plain [i64 0, .slice none 0 0, u32 0, .slice none 0 0]) :: (i0, .row .plain [i64 k, u32 x, u32 b]) :: L) := hm.mono fun p h => by simp [h]
  refine ldc_mk H3 2 rfl rfl (tI_mk ?_)
  obtain ⟨rfl, rfl⟩ | ⟨rfl, rfl⟩ := hk
  case inl =>
    refine bm_mk (fun _ => ?_) (fun h => by simp at h)
    refine ldc_mk H3 2 rfl rfl (tI_mk ?_)
    refine c33 (n := 4) H3 hm3 (.inr rfl) h0 h1 (fun v hv v0 v1 => ?_) (fun hv => ?_)
    · simp only [tTup_tup, pSome_some, tI_int, List.getElem?_cons_zero, List.getElem?_cons_succ, bne_self_eq_false, bm_false]
      refine ldc_mk H3 2 rfl rfl (tI_mk ?_)
      refine put1_mk H3 2 rfl rfl (by simp) fun σ4 H4 => ?_
      refine ls_mk H4 (q := 2) rfl rfl ?_
      simp only [tCons, tI_int, tNil, List.set]
      refine c36 H4 fun σ5 pv new H5 hpv => ?_
      obtain ⟨ca, ad, aa, an, rfl, hin⟩ := hpv
      have H6 := H5.perm (List.perm_append_comm_assoc [(i4, AObj.row .plain [i64 0, u32 0, u32 0]), (i2, .row .plain [i64 0, .slice none 0 0, u32 0, .slice none 0 0]), (i0, .row .plain [i64 226, u32 (w32 (x + w32 4)), u32 b])] new L)
      simp only [tAgg_agg, tCons, tI_int, tL_sl, tNil]
      refine ls_mk H6 (q := 2) rfl rfl ?_
      simp only [tCons, tI_int, tNil]
      refine ⟨by first | rfl | trivial, ?_⟩
      refine ps_mk (n := 4) H6 (q := 1) rfl rfl rfl fun σ6 H7 => ?_
      refine ls_mk H7 (q := 2) rfl rfl ?_
      simp only [tCons, tI_int, tNil]
      refine ⟨by first | rfl | trivial, ?_⟩
      refine ps_mk (n := 3) H7 (q := 0) rfl rfl rfl fun σ7 H8 => ?_
      refine ls_mk H8 (q := 1) rfl rfl ?_
      simp only [tCons, tI_int, tL_sl, tNil]
      refine ls_mk H8 (q := 0) rfl rfl ?_
      simp only [tCons, tI_int, tNil]
      refine hok σ7 _ (oneP v) ⟨226, w32 (x + w32 4), b⟩ new ?_ (H8.sub (.cons _ (.cons _ (.cons _ (.refl _))))) ⟨ca, ad, aa, an, rfl, hin⟩
      unfold nx1
      simp only [hv]
      rfl
    · have e2 : ((90 : Int) != 0) = true := by decide
      simp only [tTup_tup, pSome_some, tI_int, List.getElem?_cons_zero, List.getElem?_cons_succ, e2, bm_true]
      refine ls_mk H3 (q := 1) rfl rfl ?_
      simp only [tCons, tI_int, tL_nil, tNil]
      refine ls_mk H3 (q := 0) rfl rfl ?_
      simp only [tCons, tI_int, tNil]
      refine ps_mk (n := 4) H3 (q := 1) rfl rfl rfl fun σ4 H4 => ?_
      refine ls_mk H4 (q := 0) rfl rfl ?_
      simp only [tCons, tI_int, tNil]
      refine ⟨by first | rfl | trivial, ?_⟩
      refine ps_mk (n := 3) H4 (q := 0) rfl rfl rfl fun σ5 H5 => ?_
      refine ls_mk H5 (q := 1) rfl rfl ?_
      simp only [tCons, tI_int, tL_sl, tL_nil, tNil]
      refine ls_mk H5 (q := 0) rfl rfl ?_
      simp only [tCons, tI_int, tNil]
      refine herr σ5 _ ⟨0, 0, 0⟩ 90 ?_ (by decide) (H5.sub (.cons _ (.cons _ (.cons _ (.refl _))))) ⟨none, 0, none, 0, rfl, .inl rfl⟩
      unfold nx1
      simp only [hv]
  case inr =>
    refine bm_mk (fun h => by simp at h) (fun _ => bm_mk (fun _ => ?_) (fun h => by simp at h))
    refine ldc_mk H3 2 rfl rfl (tI_mk ?_)
    refine c33 (n := 1) H3 hm3 (.inl rfl) h0 h1 (fun v hv v0 v1 => ?_) (fun hv => ?_)
    · simp only [tTup_tup, pSome_some, tI_int, List.getElem?_cons_zero, List.getElem?_cons_succ, bne_self_eq_false, bm_false]
      refine ldc_mk H3 2 rfl rfl (tI_mk ?_)
      refine put1_mk H3 2 rfl rfl (by simp) fun σ4 H4 => ?_
      refine ls_mk H4 (q := 2) rfl rfl ?_
      simp only [tCons, tI_int, tNil, List.set]
      refine c36 H4 fun σ5 pv new H5 hpv => ?_
      obtain ⟨ca, ad, aa, an, rfl, hin⟩ := hpv
      have H6 := H5.perm (List.perm_append_comm_assoc [(i4, AObj.row .plain [i64 0, u32 0, u32 0]), (i2, .row .plain [i64 0, .slice none 0 0, u32 0, .slice none 0 0]), (i0, .row .plain [i64 224, u32 (w32 (x + w32 1)), u32 b])] new L)
      simp only [tAgg_agg, tCons, tI_int, tL_sl, tNil]
      refine ls_mk H6 (q := 2) rfl rfl ?_
      simp only [tCons, tI_int, tNil]
      refine ⟨by first | rfl | trivial, ?_⟩
      refine ps_mk (n := 4) H6 (q := 1) rfl rfl rfl fun σ6 H7 => ?_
      refine ls_mk H7 (q := 2) rfl rfl ?_
      simp only [tCons, tI_int, tNil]
      refine ⟨by first | rfl | trivial, ?_⟩
      refine ps_mk (n := 3) H7 (q := 0) rfl rfl rfl fun σ7 H8 => ?_
      refine ls_mk H8 (q := 1) rfl rfl ?_
      simp only [tCons, tI_int, tL_sl, tNil]
      refine ls_mk H8 (q := 0) rfl rfl ?_
      simp only [tCons, tI_int, tNil]
      refine hok σ7 _ (oneP v) ⟨224, w32 (x + w32 1), b⟩ new ?_ (H8.sub (.cons _ (.cons _ (.cons _ (.refl _))))) ⟨ca, ad, aa, an, rfl, hin⟩
      unfold nx1
      simp only [hv]
      rfl
    · have e2 : ((90 : Int) != 0) = true := by decide
      simp only [tTup_tup, pSome_some, tI_int, List.getElem?_cons_zero, List.getElem?_cons_succ, e2, bm_true]
      refine ls_mk H3 (q := 1) rfl rfl ?_
      simp only [tCons, tI_int, tL_nil, tNil]
      refine ls_mk H3 (q := 0) rfl rfl ?_
      simp only [tCons, tI_int, tNil]
      refine ps_mk (n := 4) H3 (q := 1) rfl rfl rfl fun σ4 H4 => ?_
      refine ls_mk H4 (q := 0) rfl rfl ?_
      simp only [tCons, tI_int, tNil]
      refine ⟨by first | rfl | trivial, ?_⟩
      refine ps_mk (n := 3) H4 (q := 0) rfl rfl rfl fun σ5 H5 => ?_
      refine ls_mk H5 (q := 1) rfl rfl ?_
      simp only [tCons, tI_int, tL_sl, tL_nil, tNil]
      refine ls_mk H5 (q := 0) rfl rfl ?_
      simp only [tCons, tI_int, tNil]
      refine herr σ5 _ ⟨0, 0, 0⟩ 90 ?_ (by decide) (H5.sub (.cons _ (.cons _ (.cons _ (.refl _))))) ⟨none, 0, none, 0, rfl, .inl rfl⟩
      unfold nx1
      simp only [hv]
end Go.AI
end
section
/- A text's characters: Plain, by what Next does. -/
set_option maxRecDepth 4000
set_option linter.unusedVariables false
set_option linter.unusedSimpArgs false
namespace Go.AI
open Go.Proofs
inductive PlR (N : AtS → NxR) (most : Nat) : List Int → AtS → Nat → List Int → Bool → Int → Prop
  | idle {l : List Int} {at_ : AtS} {i : Nat} : ¬ i < 256 → PlR N most l at_ i l false 0
  | err {l : List Int} {at_ : AtS} {i : Nat} {e : Int} : i < 256 → N at_ = .error e → PlR N most l at_ i [] false e
  | fin {l : List Int} {at_ at' : AtS} {i : Nat} {p : Int × List Int} : i < 256 → N at_ = .ok (p, at') → p.1 = 1 → PlR N most l at_ i l true 0
  | ref {l : List Int} {at_ at' : AtS} {i : Nat} {p : Int × List Int} : i < 256 → N at_ = .ok (p, at') → p.1 = 3 → PlR N most l at_ i [] false 5
  | cut {l : List Int} {at_ at' : AtS} {i : Nat} {p : Int × List Int} : i < 256 → N at_ = .ok (p, at') → p.1 ≠ 1 → p.1 ≠ 3 → most < l.length + p.2.length → PlR N most l at_ i (l ++ p.2.take (most - l.length)) false 0
  | more {l : List Int} {at_ at' : AtS} {i : Nat} {p : Int × List Int} {r : List Int} {w : Bool} {e : Int} : i < 256 → N at_ = .ok (p, at') → p.1 ≠ 1 → p.1 ≠ 3 → l.length + p.2.length ≤ most →
      PlR N most (l ++ p.2) at' (if 0 < p.2.length then 0 else i + 1) r w e → PlR N most l at_ i r w e
section
variable {σ : AS} {K : Value → AS → Prop}
theorem rowL_front {j : Nat} {ys : List Int} {A X : List (Nat × AObj)} (H : Has σ (rowL j ys (A ++ X))) : Has σ (A ++ rowL j ys X) := by
  obtain ⟨P, hP⟩ := rowL_app j ys
  rw [hP] at H ⊢
  exact H.perm (List.perm_append_comm_assoc _ _ _)
theorem rowL_back {j : Nat} {ys : List Int} {A X : List (Nat × AObj)} (H : Has σ (A ++ rowL j ys X)) : Has σ (rowL j ys (A ++ X)) := by
  obtain ⟨P, hP⟩ := rowL_app j ys
  rw [hP] at H ⊢
  exact H.perm (List.perm_append_comm_assoc _ _ _)
theorem AllS.inU {j : Nat} {ys : List Int} {c : Option Addr} {ce : Nat} (h : AllS j ys c ce) : ∃ P : List (Nat × AObj), (∀ fr, rowL j ys fr = P ++ fr) ∧ InU c ys P := by
  cases ys with
  | nil => exact ⟨[], fun _ => rfl, .inl rfl⟩
  | cons d t => exact ⟨[_], fun _ => rfl, .inr ⟨j, .rw, (h.2.1 (by simp)).1, by simp⟩⟩
def plI (a : Option Addr) (bs : List Int) (t : Int) (N : AtS → NxR) (R : AtS → Prop) (most : Nat) (at0 : AtS) (c : Nat) (L : List (Nat × AObj)) (q : List Int × AtS × Nat) (r : Regs) (σ : AS) : Prop :=
  ∃ (jr : Nat) (la : Option Addr) (le : Nat), q.1.length ≤ most ∧ q.2.2 ≤ 256 ∧ R q.2.1 ∧ AllS jr q.1 la le ∧
    r = [(0, some (.slice a bs.length 1)), (1, some (u32 t)), (3, some (i64 most)), (8, some (.slice la q.1.length le)), (11, some (ptr c)), (12, some (i64 q.2.2))] ∧
    Has σ (rowL jr q.1 ((c, .row .plain (atC q.2.1)) :: L)) ∧ ∀ r w e, PlR N most q.1 q.2.1 q.2.2 r w e → PlR N most [] at0 0 r w e
theorem c18 {L : List (Nat × AObj)} {a : Option Addr} {bs : List Int} {t x mo : Int} {N : AtS → NxR} {R : AtS → Prop} (H : Has σ L) (hm : Mem a bs L) (h0 : 0 ≤ x) (h1 : x ≤ 4294967295) (hmo : mo ≤ 1073741824)
    (hR0 : (bgS bs x).2 = 0 → R (bgS bs x).1) (hR : ∀ at_ p at', R at_ → N at_ = .ok (p, at') → R at' ∧ p.2.length ≤ 1048577) (hN : ∀ at_, R at_ → NextOk a bs t N at_)
    (hE : ∀ σ', (bgS bs x).2 ≠ 0 → Has σ' L → K (.tuple ⟨[.slice none 0 0, .bool false, i64 (bgS bs x).2]⟩) σ')
    (hK : ∀ σ' r w e ra re new, (bgS bs x).2 = 0 → PlR N mo.toNat [] (bgS bs x).1 0 r w e → Has σ' (new ++ L) → nilOr ra re 1 = true → InU ra r new → K (.tuple ⟨[.slice ra r.length re, .bool w, i64 e]⟩) σ') :
    Tri Try.prog 18 [.slice a bs.length 1, u32 t, u32 x, i64 mo] σ K := tri_in (by
  rw [s18]
  refine c20 H hm h0 h1 fun σ1 H1 => ?_
  simp only [tTup_tup, pSome_some, List.getElem?_cons_zero, List.getElem?_cons_succ, tAgg_agg, tCons, tI_int, tNil]
  refine newAt_mk H1 fun c σ2 H2 => ?_
  refine ps_mk (n := 3) H2 (q := 0) rfl rfl rfl fun σ3 H3 => ?_
  refine bm_mk (fun h => hE σ3 (by simpa using h) (H3.sub (.cons _ (.refl _)))) (fun h => ?_)
  have hb : (bgS bs x).2 = 0 := by simpa using h
  have emo : imax mo 0 = ((mo.toNat : Nat) : Int) := by unfold imax; split <;> omega
  rw [emo]
  have hmn : mo.toNat ≤ 1073741824 := by omega
  generalize hmost : mo.toNat = most at hK hmn
  generalize hat0 : (bgS bs x).1 = at0 at H3 hR0 hK
  have hz : szOf Try.prog 22 = 1 := by kernel_rfl
  refine aloop (plI a bs t N R most at0 c L) (fun q => (most - q.1.length) * 257 + (256 - q.2.2)) ?_ (a := ([], at0, 0)) ⟨0, none, 0, by simp, by simp, hR0 hb, AllS.none _ _, rfl, H3, fun _ _ _ h => h⟩
  rintro ⟨l, at_, idle⟩ r σ4 X hX ⟨jr, la, le, hlm, hidle, hRat, hs, rfl, H4, hpl⟩
  simp only at hlm hidle hRat hs H4 hpl
  obtain ⟨P, hP, hPin⟩ := hs.inU
  rw [s18l]
  refine bm_mk (fun hi => ?_) (fun hi => ?_)
  · have hi : idle < 256 := by have h : ((idle : Nat) : Int) < 256 := of_decide_eq_true hi; omega
    have H5 : Has σ4 ((c, .row .plain (atC at_)) :: rowL jr l L) := rowL_out H4
    refine ls_mk H5 (q := 0) rfl rfl ?_
    simp only [tCons, tI_int, tNil]
    refine hN at_ hRat σ4 _ _ H5 (hm.mono fun p h => List.mem_cons_of_mem _ (rowL_mem h)) (fun σ5 v p at' new hn H6 hpv => ?_) (fun σ5 v at' e hn he H6 hpv => ?_)
    · obtain ⟨hRat', hplen⟩ := hR at_ p at' hRat hn
      obtain ⟨pk, cs⟩ := p
      simp only at hplen
      obtain ⟨ca, ad, aa, an, rfl, hin⟩ := hpv
      simp only at hin
      simp only [tTup_tup, pSome_some, List.getElem?_cons_zero, List.getElem?_cons_succ, tAgg_agg, tCons, tI_int, tL_sl, tNil]
      refine newAt_mk H6 fun i42 σ6 H7 => newAt_mk H7 fun i44 σ7 H8 => ?_
      refine ps_mk (n := 4) H8 (q := 1) rfl rfl rfl fun σ8 H9 => ?_
      refine ps_mk (n := 3) H9 (q := 0) rfl rfl rfl fun σ9 H10 => ?_
      simp only [bne_self_eq_false, bm_false]
      have G : Has σ9 ([(i44, AObj.row .plain (atC at')), (c, .row .plain (atC at_)), (i42, .row .plain [i64 pk, .slice ca cs.length 1, u32 ad, .slice aa an 1])] ++ rowL jr l (new ++ L)) := by
        refine H10.perm ?_
        rw [hP, hP]
        refine .cons _ ?_
        refine (List.Perm.swap _ _ _).trans (.cons _ ?_)
        exact (List.Perm.cons _ (show (P ++ (new ++ L)).Perm (new ++ (P ++ L)) from List.perm_append_comm_assoc _ _ _)).trans List.perm_middle.symm
      refine ldc_mk G 2 rfl rfl (tI_mk ?_)
      have G' := G
      rw [hP] at G'
      have hnew : ∀ (Q : List (Nat × AObj)), [(i44, AObj.row .plain (atC at')), (c, AObj.row .plain (atC at_)), (i42, .row .plain [i64 pk, .slice ca cs.length 1, u32 ad, .slice aa an 1])] ++ (Q ++ (new ++ L)) = ([(i44, AObj.row .plain (atC at')), (c, .row .plain (atC at_)), (i42, .row .plain [i64 pk, .slice ca cs.length 1, u32 ad, .slice aa an 1])] ++ Q ++ new) ++ L := by
        intro Q; simp
      refine bm_mk (fun hk => ?_) (fun hk => ?_)
      · have hk : pk = 1 := by simpa using hk
        rw [hnew] at G'
        exact hK σ9 l true 0 la le _ hb (hpl _ _ _ (.fin hi hn hk)) G' hs.1 (hPin.mono fun p h => by simp [h])
      have hk1 : pk ≠ 1 := by simpa using hk
      refine bm_mk (fun hk => ?_) (fun hk => ?_)
      · have hk : pk = 3 := by simpa using hk
        rw [hnew] at G'
        exact hK σ9 [] false 5 none 0 _ hb (hpl _ _ _ (.ref hi hn hk)) G' rfl (.inl rfl)
      have hk3 : pk ≠ 3 := by simpa using hk
      refine ldc_mk G 2 rfl rfl (tL_mk ?_)
      simp only
      rw [wrap64 (n := (l.length : Int) + cs.length) (by omega) (by omega)]
      have hin' : InU ca cs (rowL jr l ([(i44, AObj.row .plain (atC at')), (c, AObj.row .plain (atC at_)), (i42, .row .plain [i64 pk, .slice ca cs.length 1, u32 ad, .slice aa an 1])] ++ (new ++ L))) :=
        hin.mono fun p h => rowL_mem (by simp [h])
      refine bm_mk (fun hc => ?_) (fun hc => ?_)
      · have hc : most < l.length + cs.length := by have := of_decide_eq_true hc; omega
        refine ldc_mk G 2 rfl rfl (tL_mk ?_)
        simp only
        rw [wrap64 (n := (most : Int) - l.length) (by omega) (by omega)]
        refine req_mk (by omega) (req_mk (by omega) ?_)
        rw [hz]
        refine chk_mk hs.1 ?_
        have hcs : cs ≠ [] := fun e => by rw [e] at hc; simp at hc; omega
        obtain ⟨rc, kc, rfl, hrc⟩ := hin.resolve_left hcs
        have en : ((most : Int) - l.length - 0).toNat = most - l.length := by omega
        simp only [Option.map, add_none, Int.toNat_zero, Nat.zero_mul, Nat.add_zero, en]
        have G2 := rowL_back G
        refine src_take G2 hin' (by omega) ?_
        have el : (cs.take (most - l.length)).length = most - l.length := by rw [List.length_take]; omega
        have := pushs_mk (jr := jr) (ys := l) (ms := cs.take (most - l.length)) (c := la) (ce := le) (G := fun s56 σ57 => K (.tuple ⟨[.slice s56.a s56.n 1, .bool false, i64 0]⟩) σ57) G2 hs (by omega) (fun j' σ10 c' H11 hs' => ?_)
        · rw [el] at this
          exact this
        · obtain ⟨P2, hP2, hPin2⟩ := hs'.inU
          rw [hP2, ← List.append_assoc, ← List.append_assoc] at H11
          simp only
          rw [← List.length_append]
          exact hK σ10 _ false 0 c' 1 _ hb (hpl _ _ _ (.cut hi hn hk1 hk3 hc)) H11 hs'.1 (hPin2.mono fun p h => by simp [h])
      · have hc : l.length + cs.length ≤ most := by have := of_decide_eq_false hc; omega
        refine ldc_mk G 2 rfl rfl (tL_mk ?_)
        rw [hz]
        refine chk_mk hs.1 ?_
        simp only
        have G2 := rowL_back G
        refine src_mk G2 hin' ?_
        refine pushs_mk G2 hs (by omega) fun j' σ10 c' H11 hs' => ?_
        have G3 := rowL_front H11
        refine ls_mk G3 (q := 0) rfl rfl ?_
        simp only [tCons, tI_int, tNil]
        refine ps_mk (n := 3) G3 (q := 1) rfl rfl rfl fun σ11 G4 => ?_
        refine ldc_mk G4 2 rfl rfl (tL_mk ?_)
        have G5 : Has σ11 (rowL j' (l ++ cs) ((c, .row .plain (atC at')) :: L)) := by
          obtain ⟨P2, hP2, hPin2⟩ := hs'.inU
          rw [hP2] at G4
          have G4 : Has σ11 ((i44, AObj.row .plain (atC at')) :: (c, .row .plain (atC at')) :: (i42, .row .plain [i64 pk, .slice ca cs.length 1, u32 ad, .slice aa an 1]) :: (P2 ++ (new ++ L))) := G4
          have G6 : Has σ11 ((c, .row .plain (atC at')) :: (P2 ++ L)) := G4.sub (.cons _ (.cons_cons _ (.cons _ (List.Sublist.append (.refl P2) (List.sublist_append_right new L)))))
          rw [← hP2] at G6
          exact rowL_swap G6
        have elen : l.length + cs.length = (l ++ cs).length := by simp
        rw [elen]
        refine bm_mk (fun hpos => ?_) (fun hpos => ?_)
        · have hpos : 0 < cs.length := by have := of_decide_eq_true hpos; simp only at this; omega
          refine hX (l ++ cs, at', 0) _ _ (by simp only [List.length_append]; omega) ⟨j', c', 1, by simp only [List.length_append]; omega, by simp, hRat', hs', rfl, G5, fun r w e hr => hpl _ _ _ (.more hi hn hk1 hk3 hc ?_)⟩
          simp only at hr ⊢
          rw [if_pos hpos]
          exact hr
        · have hpos : cs.length = 0 := by have := of_decide_eq_false hpos; simp only at this; omega
          rw [wrap64 (n := (idle : Int) + 1) (by omega) (by omega)]
          refine hX (l ++ cs, at', idle + 1) _ _ (by simp only [List.length_append]; omega) ⟨j', c', 1, by simp only [List.length_append]; omega, by simp only; omega, hRat', hs', by simp, G5, fun r w e hr => hpl _ _ _ (.more hi hn hk1 hk3 hc ?_)⟩
          simp only at hr ⊢
          rw [if_neg (by omega)]
          exact hr
    · obtain ⟨ca, ad, aa, an, rfl, hin⟩ := hpv
      simp only [tTup_tup, pSome_some, List.getElem?_cons_zero, List.getElem?_cons_succ, tAgg_agg, tCons, tI_int, tL_sl, tNil]
      refine newAt_mk H6 fun i42 σ6 H7 => newAt_mk H7 fun i44 σ7 H8 => ?_
      refine ps_mk (n := 4) H8 (q := 1) rfl rfl rfl fun σ8 H9 => ?_
      refine ps_mk (n := 3) H9 (q := 0) rfl rfl rfl fun σ9 H10 => ?_
      refine bm_mk (fun _ => ?_) (fun h => absurd he (by simpa using h))
      have G := H10.sub (L' := rowL jr l L) (.cons _ (.cons _ (.cons _ (.refl _))))
      rw [hP] at G
      exact hK σ9 [] false e none 0 P hb (hpl _ _ _ (.err hi hn)) G rfl (.inl rfl)
  · have hi : ¬ idle < 256 := by have h : ¬ ((idle : Nat) : Int) < 256 := of_decide_eq_false hi; omega
    have H5 := (rowL_out H4).sub (L' := rowL jr l L) (.cons _ (.refl _))
    rw [hP] at H5
    exact hK σ4 l false 0 la le P hb (hpl _ _ _ (.idle hi)) H5 hs.1 hPin)
end
end Go.AI
end
section
/- Rows of bytes, a number's four bytes, two rows of numbers that are alike. -/
set_option maxRecDepth 4000
set_option linter.unusedVariables false
set_option linter.unusedSimpArgs false
namespace Go.AI
open Go.Proofs
abbrev row8 (j : Nat) (ys : List Int) (fr : List (Nat × AObj)) : List (Nat × AObj) := match ys with | [] => fr | _ => (j, .row .rw (cells8 ys)) :: fr
theorem row8_ne {j : Nat} {ys : List Int} {fr : List (Nat × AObj)} (h : ys ≠ []) : row8 j ys fr = (j, .row .rw (cells8 ys)) :: fr := by
  cases ys with
  | nil => exact absurd rfl h
  | cons c t => rfl
/-- Four bytes of a number, the highest first. -/
def by4 (x : Int) : List Int := [x / 16777216 % 256, x / 65536 % 256, x / 256 % 256, x % 256]
theorem beV_by4 {x : Int} (h0 : 0 ≤ x) (h1 : x ≤ 4294967295) : beV (by4 x) = x := by
  simp only [beV, by4, List.foldl]
  omega
theorem by4_byte {x : Int} : ∀ c ∈ by4 x, 0 ≤ c ∧ c < 256 := by
  intro c h
  simp only [by4, List.mem_cons, List.not_mem_nil, or_false] at h
  rcases h with rfl | rfl | rfl | rfl <;> omega
def flat4 : List Int → List Int
  | [] => []
  | c :: r => by4 c ++ flat4 r
theorem flat4_len : ∀ l : List Int, (flat4 l).length = 4 * l.length
  | [] => rfl
  | c :: r => by simp [flat4, by4, flat4_len r]; omega
theorem flat4_app : ∀ a b : List Int, flat4 (a ++ b) = flat4 a ++ flat4 b
  | [], b => rfl
  | c :: r, b => by simp [flat4, flat4_app r b]
theorem flat4_drop : ∀ (i : Nat) (l : List Int), (flat4 l).drop (4 * i) = flat4 (l.drop i)
  | 0, l => by simp
  | i + 1, [] => by simp [flat4]
  | i + 1, c :: r => by
    have : 4 * (i + 1) = (by4 c).length + 4 * i := by simp [by4]; omega
    rw [flat4, this, List.drop_append]
    simp [flat4_drop i r]
theorem flat4_byte : ∀ {l : List Int}, ∀ c ∈ flat4 l, 0 ≤ c ∧ c < 256
  | [], c, h => by cases h
  | d :: r, c, h => by
    unfold flat4 at h
    rcases List.mem_append.1 h with h | h
    · exact by4_byte c h
    · exact flat4_byte c h
section
variable {σ : AS} {K : Value → AS → Prop}
theorem lds_row {L : List (Nat × AObj)} {i : Nat} {k : RK} {cs : List Value} {n : Nat} {G : List Value → Prop} (H : Has σ L) (q : Nat) (e : L[q]? = some (i, .row k cs)) (hn : n = cs.length) (hG : G cs) : lds σ ⟨i, 0, none⟩ n G := by
  refine lds_mk H q e (by omega) ?_
  rw [List.drop_zero, List.take_of_length_le (by omega)]
  exact hG
/-- A slice of bytes, among what is known. -/
def In8 (a : Option Addr) (l : List Int) (L : List (Nat × AObj)) : Prop := l = [] ∨ ∃ r k, a = some ⟨r, 0, none⟩ ∧ (r, AObj.row k (cells8 l)) ∈ L
theorem In8.mono {a : Option Addr} {l : List Int} {L L' : List (Nat × AObj)} (h : In8 a l L) (hs : ∀ p ∈ L, p ∈ L') : In8 a l L' := h.imp id fun ⟨r, k, e, m⟩ => ⟨r, k, e, hs _ m⟩
theorem In8.mem {a : Option Addr} {l : List Int} {L : List (Nat × AObj)} (h : In8 a l L) : l = [] ∨ ∃ r k ds, a = some ⟨r, 0, none⟩ ∧ (r, AObj.row k (cells8 l ++ ds)) ∈ L := h.imp id fun ⟨r, k, e, m⟩ => ⟨r, k, [], e, by rw [List.append_nil]; exact m⟩
theorem src8_mk {L : List (Nat × AObj)} {pa : Option Addr} {ms : List Int} {G : Nat → List Value → Prop} (H : Has σ L) (hin : In8 pa ms L) (hG : G ms.length (cells8 ms)) :
    srcCells σ 1 (some (.slice pa ms.length 1)) G := by
  unfold srcCells
  simp only
  by_cases hm : ms = []
  · subst hm
    cases pa with
    | none => exact hG
    | some a => exact req_mk trivial (by simp only [List.length_nil, Nat.zero_mul]; exact lds_zero hG)
  · obtain ⟨r, k, rfl, hr⟩ := hin.resolve_left hm
    obtain ⟨q, hq⟩ := List.getElem?_of_mem hr
    exact req_mk trivial (lds_row H q hq (by simp) hG)
/-- Bytes more behind a row of the call's own, which is not nil. -/
theorem app8_mk {L : List (Nat × AObj)} {j m : Nat} {ys ms : List Int} {G : Sl → AS → Prop} (H : Has σ ((j, .row .rw (cells8 ys)) :: L)) (hb : ys.length + ms.length ≤ 1099511627776) (hm : m = ms.length)
    (hG : ∀ j' σ', Has σ' ((j', .row .rw (cells8 (ys ++ ms))) :: L) → G ⟨some ⟨j', 0, none⟩, ys.length + ms.length⟩ σ') : appendTo σ 1 1 ⟨some ⟨j, 0, none⟩, ys.length⟩ (cells8 ms) m G := by
  subst hm
  refine append_mk (k := .rw) (cs := cells8 ys) H 0 rfl rfl (by omega) (by simp) fun j' σ2 H2 => hG j' σ2 ?_
  have et : (cells8 ys).take (ys.length * 1) = cells8 ys := by rw [Nat.mul_one]; exact List.take_of_length_le (by simp)
  rw [et, ← List.map_append] at H2
  exact H2
theorem pushB {L : List (Nat × AObj)} {j : Nat} {ys : List Int} {v : Int} {c : Option Addr} {ce : Nat} {G : Sl → AS → Prop} (H : Has σ (row8 j ys L)) (hs : AllS j ys c ce) (hb : ys.length ≤ 1048576)
    (hG : ∀ j' σ' c', Has σ' (row8 j' (ys ++ [v]) L) → AllS j' (ys ++ [v]) c' 1 → G ⟨c', ys.length + 1⟩ σ') :
    newAt σ (.row .rw [.int .u8 v]) fun i σ1 => chk (nilOr c ce (szOf Try.prog 5)) (lds σ1 ⟨i, 0, none⟩ 1 fun l2 => appendTo σ1 1 1 ⟨c, ys.length⟩ l2 1 G) := by
  have hz : szOf Try.prog 5 = 1 := by kernel_rfl
  obtain ⟨hno, hne, hnil⟩ := hs
  refine newAt_mk H fun i σ1 H1 => ?_
  rw [hz, hno]
  refine lds_row H1 0 rfl rfl ?_
  cases ys with
  | nil =>
    obtain rfl := hnil rfl
    refine append_nil_mk H1 (by omega) fun j' σ2 H2 => ?_
    exact hG j' σ2 (some ⟨j', 0, none⟩) (H2.sub (.cons_cons _ (.cons _ (.refl _)))) ⟨rfl, fun _ => ⟨rfl, rfl⟩, fun h => by cases h⟩
  | cons d t =>
    obtain ⟨rfl, rfl⟩ := hne (by simp)
    refine append_mk (k := .rw) (cs := cells8 (d :: t)) H1 1 rfl rfl (by omega) (by simp) fun j' σ2 H2 => ?_
    have H3 := H2.sub (.cons_cons _ (.cons _ (.refl _)))
    have et : (cells8 (d :: t)).take ((d :: t).length * 1) = cells8 (d :: t) := by rw [Nat.mul_one]; exact List.take_of_length_le (by simp)
    rw [et] at H3
    refine hG j' σ2 _ ?_ ⟨rfl, fun _ => ⟨rfl, rfl⟩, fun h => by cases h⟩
    rw [row8_ne (by simp)]
    simpa [cells8] using H3
theorem putByte {x p : Int} (h0 : 0 ≤ x) (h1 : x ≤ 4294967295) (hp : p = 16777216 ∨ p = 65536 ∨ p = 256 ∨ p = 1) :
    IntKind.wrap .u8 (Int.tmod (IntKind.wrap .i64 (Int.tdiv (IntKind.wrap .i64 x) p)) 256) = x / p % 256 := by
  rw [wrap64 (n := x) (by omega) (by omega)]
  have e1 : Int.tdiv x p = x / p := Int.tdiv_eq_ediv_of_nonneg h0
  rw [e1]
  rcases hp with rfl | rfl | rfl | rfl
  all_goals
    rw [wrap64 (by omega) (by omega), Int.tmod_eq_emod_of_nonneg (by omega)]
    simp [IntKind.wrap, IntKind.bits, IntKind.signed]
/-- Four bytes of a number. -/
theorem c19 {L : List (Nat × AObj)} {x : Int} (H : Has σ L) (h0 : 0 ≤ x) (h1 : x ≤ 4294967295) (hK : ∀ σ' j, Has σ' ((j, .row .rw (cells8 (by4 x))) :: L) → K (.slice (some ⟨j, 0, none⟩) 4 1) σ') :
    Tri Try.prog 19 [u32 x, i64 4] σ K := tri_in (by
  rw [s19]
  refine bm_mk (fun _ => bm_mk (fun _ => bm_mk (fun h => by simp at h) (fun _ => ?_)) (fun h => by simp at h)) (fun h => by simp at h)
  have g1 : IntKind.wrap .i64 ((256 : Int) * 1) = 256 := by decide
  have g2 : IntKind.wrap .i64 ((256 : Int) * 256) = 65536 := by decide
  have g3 : IntKind.wrap .i64 ((256 : Int) * 65536) = 16777216 := by decide
  have a0 : IntKind.wrap .i64 ((0 : Int) + 1) = 1 := by decide
  have a1 : IntKind.wrap .i64 ((1 : Int) + 1) = 2 := by decide
  have a2 : IntKind.wrap .i64 ((2 : Int) + 1) = 3 := by decide
  have a3 : IntKind.wrap .i64 ((3 : Int) + 1) = 4 := by decide
  have b0 : IntKind.wrap .i64 (65536 : Int) = 65536 := by decide
  have b1 : IntKind.wrap .i64 (256 : Int) = 256 := by decide
  have b2 : IntKind.wrap .i64 (1 : Int) = 1 := by decide
  have b3 : IntKind.wrap .i64 (0 : Int) = 0 := by decide
  intro X hX
  refine hX _ _ ?_
  rw [s19l]
  refine bm_mk (fun _ => hX _ _ ?_) (fun h => by simp at h)
  rw [s19l, g1, a1]
  refine bm_mk (fun _ => hX _ _ ?_) (fun h => by simp at h)
  rw [s19l, g2, a2]
  refine bm_mk (fun _ => hX _ _ ?_) (fun h => by simp at h)
  rw [s19l, g3, a3]
  refine bm_mk (fun h => by simp at h) (fun _ => ?_)
  clear hX X
  intro X hX
  have d0 : Int.tdiv (16777216 : Int) 256 = 65536 := by decide
  have d1 : Int.tdiv (65536 : Int) 256 = 256 := by decide
  have d2 : Int.tdiv (256 : Int) 256 = 1 := by decide
  have d3 : Int.tdiv (1 : Int) 256 = 0 := by decide
  refine hX _ _ ?_
  rw [s19k, putByte h0 h1 (.inl rfl), d0]
  refine bm_mk (fun _ => req_mk (by omega) ?_) (fun h => by simp at h)
  refine pushB (j := 0) (ys := []) H (AllS.none _ _) (by simp) fun j1 σ1 c1 H1 hs1 => ?_
  rw [b0, a0]
  refine hX _ _ ?_
  rw [s19k, putByte h0 h1 (.inr (.inl rfl)), d1]
  refine bm_mk (fun _ => req_mk (by omega) ?_) (fun h => by simp at h)
  refine pushB H1 hs1 (by simp) fun j2 σ2 c2 H2 hs2 => ?_
  rw [b1, a1]
  refine hX _ _ ?_
  rw [s19k, putByte h0 h1 (.inr (.inr (.inl rfl))), d2]
  refine bm_mk (fun _ => req_mk (by omega) ?_) (fun h => by simp at h)
  refine pushB H2 hs2 (by simp) fun j3 σ3 c3 H3 hs3 => ?_
  rw [b2, a2]
  refine hX _ _ ?_
  rw [s19k, putByte h0 h1 (.inr (.inr (.inr rfl))), d3]
  refine bm_mk (fun _ => req_mk (by omega) ?_) (fun h => by simp at h)
  refine pushB H3 hs3 (by simp) fun j4 σ4 c4 H4 hs4 => ?_
  rw [b3, a3]
  refine hX _ _ ?_
  rw [s19k]
  refine bm_mk (fun h => by simp at h) (fun _ => ?_)
  obtain ⟨rfl, _⟩ := hs4.2.1 (by simp)
  refine hK σ4 j4 ?_
  have e : [] ++ [x / 16777216 % 256] ++ [x / 65536 % 256] ++ [x / 256 % 256] ++ [x / 1 % 256] = by4 x := by simp [by4]
  rw [e] at H4
  exact H4)
theorem c15 {n : Int} (hK : K (i64 n) σ) : Tri Try.prog 15 [i64 n] σ K := tri_in (by rw [s15]; exact hK)
def sameI (a b : Option Addr) (m : Nat) (σ0 : AS) (i : Nat) (r : Regs) (σ : AS) : Prop :=
  i ≤ m ∧ σ = σ0 ∧ r = [(0, some (.slice a m 1)), (1, some (.slice b m 1)), (5, some (i64 i))]
theorem c16 {L : List (Nat × AObj)} {a b : Option Addr} {xs : List Int} (H : Has σ L) (ha : InU a xs L) (hb : InU b xs L) (hl : xs.length ≤ 1099511627776) (hK : K (.bool true) σ) :
    Tri Try.prog 16 [.slice a xs.length 1, .slice b xs.length 1] σ K := tri_in (by
  rw [s16]
  refine bm_mk (fun h => by simp at h) (fun _ => ?_)
  refine aloop (sameI a b xs.length σ) (fun i => xs.length - i) ?_ (a := 0) ⟨Nat.zero_le _, rfl, rfl⟩
  rintro i r σ1 X hX ⟨hi, rfl, rfl⟩
  rw [s16l]
  refine bm_mk (fun h => ?_) (fun h => hK)
  have h : i < xs.length := by have := of_decide_eq_true h; omega
  obtain ⟨v, hv⟩ : ∃ v, xs[i]? = some v := ⟨xs[i], by simp [h]⟩
  have hne : xs ≠ [] := fun e => by rw [e] at h; simp at h
  obtain ⟨r1, k1, rfl, m1⟩ := ha.resolve_left hne
  obtain ⟨r2, k2, rfl, m2⟩ := hb.resolve_left hne
  obtain ⟨q1, g1⟩ := List.getElem?_of_mem m1
  obtain ⟨q2, g2⟩ := List.getElem?_of_mem m2
  have hz : szOf Try.prog 22 = 1 := by kernel_rfl
  refine req_mk (by omega) (req_mk (by omega) ?_)
  simp only [pSome_some, hz, add_none, Int.toNat_natCast, Nat.mul_one, Nat.zero_add]
  refine req_mk trivial (ldc_mk H q1 g1 (cellsU_get hv) (tI_mk ?_))
  refine req_mk (by omega) (req_mk (by omega) (req_mk trivial (ldc_mk H q2 g2 (cellsU_get hv) (tI_mk ?_))))
  simp only [bne_self_eq_false, bm_false]
  rw [wrap64 (by omega) (by omega)]
  exact hX (i + 1) _ _ (by omega) ⟨h, rfl, by simp⟩)
theorem c16no {L : List (Nat × AObj)} {a b : Option Addr} {m n : Nat} (h : m ≠ n) (hK : K (.bool false) σ) : Tri Try.prog 16 [.slice a m 1, .slice b n 1] σ K := tri_in (by
  rw [s16]
  exact bm_mk (fun _ => hK) (fun e => absurd (by simpa using e) (by omega)))
end
end Go.AI
end
