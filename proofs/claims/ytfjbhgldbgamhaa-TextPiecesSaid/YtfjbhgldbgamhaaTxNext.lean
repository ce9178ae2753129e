/- Where a text begins; a piece of one character; the next piece of a text of bytes, of words. -/
import Derived.Test.YtfjbhgldbgamhaaTxBase
import Derived.Test.YtfjbhgldbgamhaaTxForm2
set_option maxRecDepth 4000
set_option linter.unusedVariables false
set_option linter.unusedSimpArgs false
namespace Go.AI
open Go.Proofs
structure AtS where
  k : Int
  x : Int
  b : Int
abbrev atC (a : AtS) : List Value := [i64 a.k, u32 a.x, u32 a.b]
abbrev atV (a : AtS) : Value := .agg ⟨atC a⟩
section
variable {σ : AS} {K : Value → AS → Prop}
theorem pl_mk {L : List (Nat × AObj)} {i q n : Nat} {cs vs : List Value} {G : List Value → AS → Prop} (H : Has σ L) (e : L[q]? = some (i, .row .plain cs)) (h1 : vs.length = n) (h2 : cs.length = n)
    (hG : ∀ σ', Has σ' (L.set q (i, .row .plain vs)) → G vs σ') : puts σ ⟨i, 0, none⟩ vs fun σ' => lds σ' ⟨i, 0, none⟩ n fun l => G l σ' := by
  have hq : q < L.length := (List.getElem?_eq_some_iff.1 e).1
  refine puts_mk H q e rfl (by omega) fun σ1 H1 => ?_
  have e1 : cs.take 0 ++ vs ++ cs.drop (0 + vs.length) = vs := by
    rw [List.take_zero, List.nil_append, List.drop_eq_nil_of_le (by omega), List.append_nil]
  rw [e1] at H1
  refine lds_mk H1 q (List.getElem?_set_self hq) (by omega) ?_
  rw [List.drop_zero, List.take_of_length_le (by omega)]
  exact hG σ1 H1
theorem ps_mk {L : List (Nat × AObj)} {i q n : Nat} {cs vs : List Value} {G : AS → Prop} (H : Has σ L) (e : L[q]? = some (i, .row .plain cs)) (h1 : vs.length = n) (h2 : cs.length = n)
    (hG : ∀ σ', Has σ' (L.set q (i, .row .plain vs)) → G σ') : puts σ ⟨i, 0, none⟩ vs fun σ' => G σ' := by
  refine puts_mk H q e rfl (by omega) fun σ1 H1 => ?_
  have e1 : cs.take 0 ++ vs ++ cs.drop (0 + vs.length) = vs := by
    rw [List.take_zero, List.nil_append, List.drop_eq_nil_of_le (by omega), List.append_nil]
  rw [e1] at H1
  exact hG σ1 H1
theorem ls_mk {L : List (Nat × AObj)} {i q n : Nat} {k : RK} {cs : List Value} {G : List Value → Prop} (H : Has σ L) (e : L[q]? = some (i, .row k cs)) (h2 : cs.length = n) (hG : G cs) : lds σ ⟨i, 0, none⟩ n G := by
  refine lds_mk H q e (by omega) ?_
  rw [List.drop_zero, List.take_of_length_le (by omega)]
  exact hG
def bgS (bs : List Int) (x : Int) : AtS × Int :=
  match rd bs x 1 with
  | none => (⟨0, 0, 0⟩, 90)
  | some v => if v = 224 ∨ v = 225 then (⟨v, w32 (x + 1), 0⟩, 0) else if v = 226 then (⟨v, w32 (x + 4), 0⟩, 0) else (⟨0, 0, 0⟩, 120)
theorem c20 {L : List (Nat × AObj)} {a : Option Addr} {bs : List Int} {x : Int} (H : Has σ L) (hm : Mem a bs L) (h0 : 0 ≤ x) (h1 : x ≤ 4294967295)
    (hK : ∀ σ', Has σ' L → K (.tuple ⟨[atV (bgS bs x).1, i64 (bgS bs x).2]⟩) σ') : Tri Try.prog 20 [.slice a bs.length 1, u32 x] σ K := tri_in (by
  rw [s20]
  refine newAt_mk H fun i0 σ1 H1 => ?_
  have out : ∀ {σ2 : AS} {k' x' b' e : Int}, Has σ2 ((i0, .row .plain [i64 0, u32 0, u32 0]) :: L) → bgS bs x = (⟨k', x', b'⟩, e) →
      puts σ2 ⟨i0, 0, none⟩ [i64 k', u32 x', u32 b'] fun σ10 => lds σ10 ⟨i0, 0, none⟩ 3 fun l11 => tCons l11 fun v12 l13 => tI .i64 v12 fun n14 => tCons l13 fun v15 l16 => tI .u32 v15 fun n17 => tCons l16 fun v18 l19 => tI .u32 v18 fun n20 => tNil l19 (K (.tuple ⟨[.agg ⟨[.int .i64 n14, .int .u32 n17, .int .u32 n20]⟩, .int .i64 e]⟩) σ10) := by
    intro σ2 k' x' b' e H2 hb
    refine pl_mk (vs := [i64 k', u32 x', u32 b']) H2 (q := 0) rfl rfl rfl fun σ3 H3 => ?_
    simp only [tCons, tI_int, tNil]
    have := hK σ3 (H3.sub (.cons _ (.refl _)))
    rw [hb] at this
    exact this
  refine c33 (n := 1) H1 (hm.mono fun p h => List.mem_cons_of_mem _ h) (.inl rfl) h0 h1 (fun v hv v0 v1 => ?_) (fun hv => ?_)
  · simp only [tTup_tup, pSome_some, tI_int, List.getElem?_cons_zero, List.getElem?_cons_succ, bne_self_eq_false, bm_false]
    rw [wrap64 (by omega) (by omega)]
    refine bm_mk (fun e1 => bm_mk (fun _ => ?_) (fun e2 => by rw [e1] at e2; cases e2)) (fun e1 => bm_mk (fun e2 => ?_) (fun e2 => bm_mk (fun e3 => ?_) (fun e3 => ?_)))
    · have e1 : v = 224 := by simpa using e1
      exact out H1 (by unfold bgS; rw [hv]; simp [e1])
    · have e2 : v = 225 := by simpa using e2
      exact out H1 (by unfold bgS; rw [hv]; simp [e2])
    · have e3 : v = 226 := by simpa using e3
      exact out H1 (by unfold bgS; rw [hv]; simp [e3])
    · have e1 : v ≠ 224 := by simpa using e1
      have e2 : v ≠ 225 := by simpa using e2
      have e3 : v ≠ 226 := by simpa using e3
      exact out H1 (by unfold bgS; rw [hv]; simp [e1, e2, e3])
  · have e2 : ((90 : Int) != 0) = true := by decide
    simp only [tTup_tup, pSome_some, tI_int, List.getElem?_cons_zero, List.getElem?_cons_succ, e2, bm_true]
    exact out H1 (by unfold bgS; rw [hv]))
/-- A piece: its kind, its characters. -/
def PV (k : Int) (cs : List Int) (v : Value) (L : List (Nat × AObj)) : Prop := ∃ ca ad aa an, v = .agg ⟨[i64 k, .slice ca cs.length 1, u32 ad, .slice aa an 1]⟩ ∧ InU ca cs L
def oneP (c : Int) : Int × List Int := if c = 0 then (1, []) else (2, [c])
theorem c36 {L : List (Nat × AObj)} {c : Int} (H : Has σ L) (hK : ∀ σ' v new, Has σ' (new ++ L) → PV (oneP c).1 (oneP c).2 v new → K v σ') : Tri Try.prog 36 [u32 c] σ K := tri_in (by
  rw [s36]
  refine newAt_mk H fun i0 σ1 H1 => bm_mk (fun h => ?_) (fun h => ?_)
  · have h : c = 0 := by simpa using h
    refine pl_mk (vs := [i64 1, .slice none 0 0, u32 0, .slice none 0 0]) H1 (q := 0) rfl rfl rfl fun σ2 H2 => ?_
    simp only [tCons, tI_int, tL_nil, tNil]
    refine hK σ2 _ [] (H2.sub (.cons _ (.refl _))) ?_
    unfold oneP
    rw [if_pos h]
    exact ⟨none, 0, none, 0, rfl, .inl rfl⟩
  · have h : c ≠ 0 := by simpa using h
    refine newAt_mk H1 fun i1 σ2 H2 => ?_
    refine pl_mk (vs := [i64 2, .slice (some ⟨i1, 0, none⟩) 1 1, u32 0, .slice none 0 0]) H2 (q := 1) rfl rfl rfl fun σ3 H3 => ?_
    simp only [tCons, tI_int, tL_sl, tL_nil, tNil]
    refine hK σ3 _ [(i1, .row .rw [u32 c])] (H3.sub (.cons_cons _ (.cons _ (.refl _)))) ?_
    unfold oneP
    rw [if_neg h]
    exact ⟨_, 0, none, 0, rfl, .inr ⟨i1, .rw, rfl, by simp⟩⟩)
end
end Go.AI
