/- Lemmas of the abstract condition ahead of code (a part of the library that the claim's proof stands on); they hold with no condition but those that each names. -/
import Derived.Test.YtfjbhgldbgamhaaTyNext
import Derived.Test.YtfjbhgldbgamhaaTyForm3
section
/- A packed text: from the root of its table to a leaf; a row of numbers; what a leaf tells instead of characters. -/
set_option maxRecDepth 4000
set_option linter.unusedVariables false
set_option linter.unusedSimpArgs false
namespace Go.AI
open Go.Proofs
def na (node bits b : Int) : Int := w32 (w32 (node + 1) + w32 (4 * iand .u32 (ishr .u32 bits b) 1))
def walkL (bs : List Int) : Nat → Int → Int → Int → Except Int (Int × Int × Int)
  | 0, node, x, b => match rd bs node 1 with
    | none => .error 90
    | some kd => if kd ≠ 0 then .ok (node, x, b) else .error 120
  | f + 1, node, x, b => match rd bs node 1 with
    | none => .error 90
    | some kd => if kd ≠ 0 then .ok (node, x, b) else match rd bs x 1 with
      | none => .error 90
      | some bits => match rd bs (na node bits b) 4 with
        | none => .error 90
        | some node' => walkL bs f node' (if b + 1 = 8 then w32 (x + 1) else x) (if b + 1 = 8 then 0 else b + 1)
def walkS (bs : List Int) (t x b : Int) : Except Int (Int × Int × Int) :=
  if t = 0 then .error 120 else if b > 7 then .error 120 else match rd bs (w32 (t + 8)) 4 with
    | none => .error 90
    | some node => walkL bs 256 node x b
section
variable {σ : AS} {K : Value → AS → Prop}
theorem at_tail {L : List (Nat × AObj)} {c q : Nat} {k x b : Int} {cs : List Value} {nd e : Int} (H : Has σ ((q, .row .plain cs) :: (c, .row .plain [i64 k, u32 x, u32 b]) :: L)) (hcs : cs.length = 3)
    (hK : ∀ σ', Has σ' L → K (.tuple ⟨[u32 nd, atV ⟨k, x, b⟩, i64 e]⟩) σ') :
    lds σ ⟨c, 0, none⟩ 3 fun l8 => tCons l8 fun v9 l10 => tI .i64 v9 fun n11 => tCons l10 fun v12 l13 => tI .u32 v12 fun n14 => tCons l13 fun v15 l16 => tI .u32 v15 fun n17 => tNil l16 (puts σ ⟨q, 0, none⟩ [.int .i64 n11, .int .u32 n14, .int .u32 n17] fun σ18 =>
      lds σ18 ⟨q, 0, none⟩ 3 fun l19 => tCons l19 fun v20 l21 => tI .i64 v20 fun n22 => tCons l21 fun v23 l24 => tI .u32 v23 fun n25 => tCons l24 fun v26 l27 => tI .u32 v26 fun n28 => tNil l27 (K (.tuple ⟨[.int .u32 nd, .agg ⟨[.int .i64 n22, .int .u32 n25, .int .u32 n28]⟩, .int .i64 e]⟩) σ18)) := by
  refine ls_mk H (q := 1) rfl rfl ?_
  simp only [tCons, tI_int, tNil]
  refine pl_mk (vs := [i64 k, u32 x, u32 b]) H (q := 0) rfl rfl hcs fun σ1 H1 => ?_
  simp only [tCons, tI_int, tNil]
  exact hK σ1 (H1.sub (.cons _ (.cons _ (.refl _))))
def wkI (bs : List Int) (a : Option Addr) (W : Except Int (Int × Int × Int)) (k : Int) (c q : Nat) (L : List (Nat × AObj)) (s : Nat × Int × Int × Int × Int) (r : Regs) (σ : AS) : Prop :=
  s.1 ≤ 257 ∧ (0 ≤ s.2.1 ∧ s.2.1 ≤ 4294967295) ∧ (0 ≤ s.2.2.2.1 ∧ s.2.2.2.1 ≤ 4294967295) ∧ (0 ≤ s.2.2.2.2 ∧ s.2.2.2.2 ≤ 7) ∧
    r = [(0, some (.slice a bs.length 1)), (5, some (ptr c)), (7, some (ptr q)), (9, some (u32 s.2.1)), (10, some (i64 s.2.2.1)), (11, some (i64 s.1))] ∧
    Has σ ((q, .row .plain [i64 0, u32 0, u32 0]) :: (c, .row .plain [i64 k, u32 s.2.2.2.1, u32 s.2.2.2.2]) :: L) ∧
    ((s.2.2.1 = 0 ∧ s.1 ≤ 256 ∧ W = walkL bs (256 - s.1) s.2.1 s.2.2.2.1 s.2.2.2.2) ∨ (s.2.2.1 = 90 ∧ W = .error 90))
theorem walkL_none {bs : List Int} {f : Nat} {node x b : Int} (h : rd bs node 1 = none) : walkL bs f node x b = .error 90 := by
  cases f <;> simp only [walkL, h]
theorem walkL_leaf {bs : List Int} {f : Nat} {node x b kd : Int} (h : rd bs node 1 = some kd) (hk : kd ≠ 0) : walkL bs f node x b = .ok (node, x, b) := by
  cases f <;> simp only [walkL, h, if_pos hk, ne_eq, hk, not_false_eq_true, if_true]
theorem c34 {L : List (Nat × AObj)} {a : Option Addr} {bs : List Int} {t k x b : Int} (H : Has σ L) (hm : Mem a bs L) (h0 : 0 ≤ x) (h1 : x ≤ 4294967295) (hb0 : 0 ≤ b) (ht : 0 ≤ t)
    (hok : ∀ σ' nd x' b', walkS bs t x b = .ok (nd, x', b') → 0 ≤ nd → nd ≤ 4294967295 → 0 ≤ x' → x' ≤ 4294967295 → 0 ≤ b' → b' ≤ 7 → Has σ' L → K (.tuple ⟨[u32 nd, atV ⟨k, x', b'⟩, i64 0]⟩) σ')
    (herr : ∀ σ' nd at' e, walkS bs t x b = .error e → e ≠ 0 → Has σ' L → K (.tuple ⟨[u32 nd, atV at', i64 e]⟩) σ') :
    Tri Try.prog 34 [.slice a bs.length 1, u32 t, atV ⟨k, x, b⟩] σ K := tri_in (by
  rw [s34]
  refine newAt_mk H fun c σ1 H1 => newAt_mk H1 fun q σ2 H2 => ?_
  refine bm_mk (fun ht0 => ?_) (fun ht0 => ?_)
  · have ht0 : t = 0 := by simpa using ht0
    exact at_tail H2 rfl fun σ' H' => herr σ' 0 _ 120 (by unfold walkS; rw [if_pos ht0]) (by decide) H'
  have ht0 : t ≠ 0 := by simpa using ht0
  refine ldc_mk H2 1 rfl rfl (tI_mk (bm_mk (fun hb7 => ?_) (fun hb7 => ?_)))
  · have hb7 : b > 7 := of_decide_eq_true hb7
    exact at_tail H2 rfl fun σ' H' => herr σ' 0 _ 120 (by unfold walkS; rw [if_neg ht0, if_pos hb7]) (by decide) H'
  have hb7 : ¬ b > 7 := of_decide_eq_false hb7
  have hm2 : ∀ {M : List (Nat × AObj)}, (∀ p ∈ L, p ∈ M) → Mem a bs M := fun h => hm.mono h
  have hw := w32_in (t + 8)
  have start : ∀ node e, (e = 0 ∧ walkS bs t x b = walkL bs 256 node x b ∧ 0 ≤ node ∧ node ≤ 4294967295) ∨ (e = 90 ∧ node = 0 ∧ walkS bs t x b = .error 90) →
      ALoop (fl Try.prog hintsS (Tri Try.prog) 34 [true, true, true, false, true, false] [] K) [(0, some (.slice a bs.length 1)), (5, some (ptr c)), (7, some (ptr q)), (9, some (u32 node)), (10, some (i64 e)), (11, some (i64 0))] σ2 := by
    intro node e he
    refine aloop (wkI bs a (walkS bs t x b) k c q L) (fun s => 300 - s.1) ?_ (a := (0, node, e, x, b)) ⟨by simp, ?_, ⟨h0, h1⟩, ⟨hb0, by simp only; omega⟩, rfl, H2, ?_⟩
    · rintro ⟨kk, node, e, y, d⟩ r σ3 X hX ⟨hkk, hnd, hx, hbb, rfl, H3, hW⟩
      simp only at hkk hnd hx hbb H3 hW
      rw [s34l]
      refine bm_mk (fun he0 => ?_) (fun he0 => ?_)
      · have he0 : e = 0 := by simpa using he0
        subst he0
        obtain ⟨_, hk2, hW⟩ := hW.resolve_right (fun h => absurd h.1 (by decide))
        refine c33 (n := 1) H3 (hm2 fun p h => by simp [h]) (.inl rfl) hnd.1 hnd.2 (fun kd hkd v0 v1 => ?_) (fun hkd => ?_)
        · simp only [tTup_tup, pSome_some, tI_int, List.getElem?_cons_zero, List.getElem?_cons_succ, bne_self_eq_false, bm_false]
          refine bm_mk (fun hk0 => ?_) (fun hk0 => ?_)
          · have hk0 : kd ≠ 0 := by simpa using hk0
            exact at_tail H3 rfl fun σ' H' => hok σ' node y d (by rw [hW]; exact walkL_leaf hkd hk0) hnd.1 hnd.2 hx.1 hx.2 hbb.1 hbb.2 H'
          have hk0 : kd = 0 := by simpa using hk0
          subst hk0
          refine bm_mk (fun h256 => ?_) (fun h256 => ?_)
          · have h256 : kk = 256 := by have : (kk : Int) = 256 := by simpa using h256
                                       omega
            subst h256
            exact at_tail H3 rfl fun σ' H' => herr σ' 0 _ 120 (by rw [hW]; simp [walkL, hkd]) (by decide) H'
          have h256 : kk ≠ 256 := by intro e; subst e; simp at h256
          obtain ⟨f, hf⟩ : ∃ f, 256 - kk = f + 1 := ⟨255 - kk, by omega⟩
          rw [hf] at hW
          simp only [walkL, hkd, ne_eq, not_true_eq_false, if_false] at hW
          refine ldc_mk H3 1 rfl rfl (tI_mk ?_)
          refine c33 (n := 1) H3 (hm2 fun p h => by simp [h]) (.inl rfl) hx.1 hx.2 (fun bits hbits v2 v3 => ?_) (fun hbits => ?_)
          · simp only [tTup_tup, pSome_some, tI_int, List.getElem?_cons_zero, List.getElem?_cons_succ, bne_self_eq_false, bm_false]
            refine ldc_mk H3 1 rfl rfl (tI_mk (req_mk hbb.1 ?_))
            simp only [hbits] at hW
            have hna : 0 ≤ na node bits d ∧ na node bits d ≤ 4294967295 := w32_in _
            have next : ∀ node' e', (e' = 0 ∧ walkS bs t x b = walkL bs f node' (if d + 1 = 8 then w32 (y + 1) else y) (if d + 1 = 8 then 0 else d + 1) ∧ 0 ≤ node' ∧ node' ≤ 4294967295) ∨ (e' = 90 ∧ node' = 0 ∧ walkS bs t x b = .error 90) →
                ldc σ3 ⟨c, 0 + 2, none⟩ fun v112 => tI .u32 v112 fun n113 => put1 σ3 ⟨c, 0 + 2, none⟩ (.int .u32 (w32 (n113 + 1))) fun σ114 => ldc σ114 ⟨c, 0 + 2, none⟩ fun v115 => tI .u32 v115 fun n116 =>
                  bmatch (n116 == 8) (put1 σ114 ⟨c, 0 + 2, none⟩ (.int .u32 0) fun σ117 => ldc σ117 ⟨c, 0 + 1, none⟩ fun v118 => tI .u32 v118 fun n119 => put1 σ117 ⟨c, 0 + 1, none⟩ (.int .u32 (w32 (n119 + 1))) fun σ120 =>
                    X [(0, some (.slice a bs.length 1)), (5, some (ptr c)), (7, some (ptr q)), (9, some (u32 node')), (10, some (i64 e')), (11, some (.int .i64 (IntKind.wrap .i64 ((kk : Int) + 1))))] σ120)
                    (X [(0, some (.slice a bs.length 1)), (5, some (ptr c)), (7, some (ptr q)), (9, some (u32 node')), (10, some (i64 e')), (11, some (.int .i64 (IntKind.wrap .i64 ((kk : Int) + 1))))] σ114) := by
              intro node' e' he'
              refine ldc_mk H3 1 rfl rfl (tI_mk ?_)
              rw [w32_eq (n := d + 1) (by omega) (by omega)]
              refine put1_mk H3 1 rfl rfl (by simp) fun σ4 H4 => ?_
              refine ldc_mk H4 1 rfl rfl (tI_mk ?_)
              rw [wrap64 (by omega) (by omega)]
              have hwx := w32_in (y + 1)
              refine bm_mk (fun h8 => ?_) (fun h8 => ?_)
              · have h8 : d + 1 = 8 := by simpa using h8
                refine put1_mk H4 1 rfl rfl (by simp) fun σ5 H5 => ?_
                refine ldc_mk H5 1 rfl rfl (tI_mk ?_)
                refine put1_mk H5 1 rfl rfl (by simp) fun σ6 H6 => ?_
                refine hX (kk + 1, node', e', w32 (y + 1), 0) _ _ (by simp only; omega) ⟨by simp only; omega, ?_, hwx, by simp, rfl, H6, ?_⟩
                · rcases he' with ⟨_, _, h⟩ | ⟨_, rfl, _⟩
                  · exact h
                  · simp
                · rcases he' with ⟨rfl, h, _⟩ | ⟨rfl, _, h⟩
                  · refine .inl ⟨rfl, by simp only; omega, ?_⟩
                    rw [h, if_pos h8, if_pos h8]
                    simp only
                    rw [show 256 - (kk + 1) = f by omega]
                  · exact .inr ⟨rfl, h⟩
              · have h8 : d + 1 ≠ 8 := by simpa using h8
                refine hX (kk + 1, node', e', y, d + 1) _ _ (by simp only; omega) ⟨by simp only; omega, ?_, hx, by simp only; omega, rfl, H4, ?_⟩
                · rcases he' with ⟨_, _, h⟩ | ⟨_, rfl, _⟩
                  · exact h
                  · simp
                · rcases he' with ⟨rfl, h, _⟩ | ⟨rfl, _, h⟩
                  · refine .inl ⟨rfl, by simp only; omega, ?_⟩
                    rw [h, if_neg h8, if_neg h8]
                    simp only
                    rw [show 256 - (kk + 1) = f by omega]
                  · exact .inr ⟨rfl, h⟩
            refine c33 (n := 4) H3 (hm2 fun p h => by simp [h]) (.inr rfl) hna.1 hna.2 (fun node' hnd' v4 v5 => ?_) (fun hnd' => ?_)
            · simp only [tTup_tup, pSome_some, tI_int, List.getElem?_cons_zero, List.getElem?_cons_succ]
              have hnd' : rd bs (na node bits d) 4 = some node' := hnd'
              simp only [hnd'] at hW
              exact next node' 0 (.inl ⟨rfl, hW, v4, v5⟩)
            · simp only [tTup_tup, pSome_some, tI_int, List.getElem?_cons_zero, List.getElem?_cons_succ]
              have hnd' : rd bs (na node bits d) 4 = none := hnd'
              simp only [hnd'] at hW
              exact next 0 90 (.inr ⟨rfl, rfl, hW⟩)
          · have e90 : ((90 : Int) != 0) = true := by decide
            simp only [tTup_tup, pSome_some, tI_int, List.getElem?_cons_zero, List.getElem?_cons_succ, e90, bm_true]
            simp only [hbits] at hW
            exact at_tail H3 rfl fun σ' H' => herr σ' node _ 90 hW (by decide) H'
        · have e90 : ((90 : Int) != 0) = true := by decide
          simp only [tTup_tup, pSome_some, tI_int, List.getElem?_cons_zero, List.getElem?_cons_succ, e90, bm_true]
          exact at_tail H3 rfl fun σ' H' => herr σ' node _ 90 (by rw [hW]; exact walkL_none hkd) (by decide) H'
      · have he0 : e ≠ 0 := by simpa using he0
        obtain ⟨rfl, hW2⟩ := hW.resolve_left (fun h => he0 h.1)
        exact at_tail H3 rfl fun σ' H' => herr σ' node _ 90 hW2 (by decide) H'
    · rcases he with ⟨_, _, h⟩ | ⟨_, rfl, _⟩
      · exact h
      · simp
    · rcases he with ⟨rfl, h, _⟩ | ⟨rfl, _, h⟩
      · exact .inl ⟨rfl, by simp, h⟩
      · exact .inr ⟨rfl, h⟩
  refine c33 (n := 4) H2 (hm2 fun p h => by simp [h]) (.inr rfl) hw.1 hw.2 (fun node hnd v0 v1 => ?_) (fun hnd => ?_)
  · simp only [tTup_tup, pSome_some, tI_int, List.getElem?_cons_zero, List.getElem?_cons_succ]
    exact start node 0 (.inl ⟨rfl, by unfold walkS; rw [if_neg ht0, if_neg hb7]; simp only [hnd], v0, v1⟩)
  · simp only [tTup_tup, pSome_some, tI_int, List.getElem?_cons_zero, List.getElem?_cons_succ]
    exact start 0 90 (.inr ⟨rfl, rfl, by unfold walkS; rw [if_neg ht0, if_neg hb7]; simp only [hnd]⟩))
end
end Go.AI
end
section
/- A packed text: a row of numbers; what a leaf tells instead of characters. -/
set_option maxRecDepth 4000
set_option linter.unusedVariables false
set_option linter.unusedSimpArgs false
namespace Go.AI
open Go.Proofs
/-- The numbers from a place on, up to one that is 0. -/
def rowS (bs : List Int) (n : Nat) : Nat → Int → Option (List Int)
  | 0, _ => none
  | f + 1, x => match rd bs x n with
    | none => none
    | some c => if c = 0 then some [] else (rowS bs n f (w32 (x + w32 n))).map (c :: ·)
def argsS (bs : List Int) (x n : Int) : Nat → Nat → Bool
  | 0, _ => false
  | f + 1, i => if (i : Int) < n then (match rd bs (w32 (w32 (x + 9) + w32 (4 * i))) 4 with | none => false | some _ => argsS bs x n f (i + 1)) else true
def refT (bs : List Int) (x k : Int) : Bool := if k < 10 then true else match rd bs (w32 (x + 5)) 4 with
  | none => false
  | some n => argsS bs x n (bs.length + 1) 0
def refS (bs : List Int) (x k : Int) : Bool := match rd bs (w32 (x + 1)) 4 with
  | none => false
  | some ad => if Int.tmod k 2 = 1 then (match rd bs ad 4 with | none => false | some _ => refT bs x k) else refT bs x k
abbrev pcZ : List Value := [i64 0, .slice none 0 0, u32 0, .slice none 0 0]
section
variable {σ : AS} {K : Value → AS → Prop}
theorem pc_set {L : List (Nat × AObj)} {q : Nat} {cs : List Value} {pk ad e : Int} {ca aa : Option Addr} {cn ce an ae : Nat} (H : Has σ ((q, .row .plain cs) :: L)) (hcs : cs.length = 4) (hc : nilOr ca ce 1 = true) (ha : nilOr aa ae 1 = true)
    (hK : ∀ σ', Has σ' L → K (.tuple ⟨[.agg ⟨[i64 pk, .slice ca cn 1, u32 ad, .slice aa an 1]⟩, i64 e]⟩) σ') :
    puts σ ⟨q, 0, none⟩ [i64 pk, .slice ca cn ce, u32 ad, .slice aa an ae] fun σ16 => lds σ16 ⟨q, 0, none⟩ 4 fun l17 => tCons l17 fun v18 l19 => tI .i64 v18 fun n20 => tCons l19 fun v21 l22 => tL 1 v21 fun s23 => tCons l22 fun v24 l25 => tI .u32 v24 fun n26 =>
      tCons l25 fun v27 l28 => tL 1 v27 fun s29 => tNil l28 (K (.tuple ⟨[.agg ⟨[.int .i64 n20, .slice s23.a s23.n 1, .int .u32 n26, .slice s29.a s29.n 1]⟩, .int .i64 e]⟩) σ16) := by
  refine pl_mk H (q := 0) rfl rfl hcs fun σ1 H1 => ?_
  simp only [tCons, tI_int, tNil]
  refine tL_ok hc ?_
  simp only [tCons, tI_int, tNil]
  refine tL_ok ha ?_
  simp only
  exact hK σ1 (H1.sub (.cons _ (.refl _)))
theorem pc_copy {L : List (Nat × AObj)} {p q : Nat} {cs : List Value} {pk ad e : Int} {ca aa : Option Addr} {cn ce an ae : Nat} (H : Has σ ((q, .row .plain cs) :: (p, .row .plain [i64 pk, .slice ca cn ce, u32 ad, .slice aa an ae]) :: L)) (hcs : cs.length = 4) (hc : nilOr ca ce 1 = true) (ha : nilOr aa ae 1 = true)
    (hK : ∀ σ', Has σ' L → K (.tuple ⟨[.agg ⟨[i64 pk, .slice ca cn 1, u32 ad, .slice aa an 1]⟩, i64 e]⟩) σ') :
    lds σ ⟨p, 0, none⟩ 4 fun l22 => tCons l22 fun v23 l24 => tI .i64 v23 fun n25 => tCons l24 fun v26 l27 => tL 1 v26 fun s28 => tCons l27 fun v29 l30 => tI .u32 v29 fun n31 => tCons l30 fun v32 l33 => tL 1 v32 fun s34 => tNil l33
      (puts σ ⟨q, 0, none⟩ [.int .i64 n25, .slice s28.a s28.n 1, .int .u32 n31, .slice s34.a s34.n 1] fun σ16 => lds σ16 ⟨q, 0, none⟩ 4 fun l17 => tCons l17 fun v18 l19 => tI .i64 v18 fun n20 => tCons l19 fun v21 l22 => tL 1 v21 fun s23 => tCons l22 fun v24 l25 => tI .u32 v24 fun n26 =>
      tCons l25 fun v27 l28 => tL 1 v27 fun s29 => tNil l28 (K (.tuple ⟨[.agg ⟨[.int .i64 n20, .slice s23.a s23.n 1, .int .u32 n26, .slice s29.a s29.n 1]⟩, .int .i64 e]⟩) σ16)) := by
  refine ls_mk H (q := 1) rfl rfl ?_
  simp only [tCons, tI_int, tNil]
  refine tL_ok hc ?_
  simp only [tCons, tI_int, tNil]
  refine tL_ok ha ?_
  simp only
  have one : ∀ (a : Option Addr), nilOr a 1 1 = true := fun a => by cases a <;> rfl
  exact pc_set H hcs (one _) (one _) fun σ' H' => hK σ' (H'.sub (.cons _ (.refl _)))
/-- One number more behind a slice. -/
theorem push1 {L : List (Nat × AObj)} {jr : Nat} {ys : List Int} {v : Int} {c : Option Addr} {ce : Nat} {G : Sl → AS → Prop} (H : Has σ (rowL jr ys L)) (hs : AllS jr ys c ce) (hb : ys.length ≤ 1048576)
    (hG : ∀ j' σ' c', Has σ' (rowL j' (ys ++ [v]) L) → AllS j' (ys ++ [v]) c' 1 → G ⟨c', ys.length + 1⟩ σ') : newAt σ (.row .rw [u32 v]) fun i σ1 => lds σ1 ⟨i, 0, none⟩ 1 fun l => appendTo σ1 1 4 ⟨c, ys.length⟩ l 1 G := by
  refine newAt_mk H fun i σ1 H1 => ?_
  refine lds_row H1 0 rfl rfl ?_
  refine pushs_mk (ms := [v]) (rowL_swap H1) hs (by simp; omega) fun j' σ2 c' H2 hs2 => hG j' σ2 c' ((rowL_out H2).sub (.cons _ (.refl _))) hs2
def rowI (a : Option Addr) (bs : List Int) (n : Nat) (W : Option (List Int)) (p q : Nat) (L : List (Nat × AObj)) (s : List Int × Int) (r : Regs) (σ : AS) : Prop :=
  ∃ (jr : Nat) (ca : Option Addr) (ce : Nat), s.1.length ≤ bs.length ∧ (0 ≤ s.2 ∧ s.2 ≤ 4294967295) ∧ (s.1 = [] ∨ ((s.1.length : Int) ≤ s.2 ∧ s.2 ≤ bs.length)) ∧ AllS jr s.1 ca ce ∧
    r = [(0, some (.slice a bs.length 1)), (1, some (u32 s.2)), (2, some (i64 n)), (6, some (ptr q)), (8, some (ptr p))] ∧
    Has σ (rowL jr s.1 ((p, .row .plain [i64 2, .slice ca s.1.length ce, u32 0, .slice none 0 0]) :: (q, .row .plain pcZ) :: L)) ∧ W = (rowS bs n (bs.length + 1 - s.1.length) s.2).map (s.1 ++ ·)
theorem rd_in {bs : List Int} {x : Int} {n : Nat} {v : Int} (h : rd bs x n = some v) : x + n ≤ bs.length := by
  unfold rd at h
  split at h
  · rename_i hc; exact hc.2
  · cases h
theorem c43 {L : List (Nat × AObj)} {a : Option Addr} {bs : List Int} {x : Int} {n : Nat} (H : Has σ L) (hm : Mem a bs L) (hn : n = 1 ∨ n = 4) (h0 : 0 ≤ x) (h1 : x ≤ 4294967295)
    (hok : ∀ σ' v new l, rowS bs n (bs.length + 1) x = some l → Has σ' (new ++ L) → PV 2 l v new → K (.tuple ⟨[v, i64 0]⟩) σ') (herr : ∀ σ' v, rowS bs n (bs.length + 1) x = none → Has σ' L → PV 0 [] v [] → K (.tuple ⟨[v, i64 90]⟩) σ') :
    Tri Try.prog 43 [.slice a bs.length 1, u32 x, i64 n] σ K := tri_in (by
  rw [s43]
  refine newAt_mk H fun q σ1 H1 => newAt_mk H1 fun p σ2 H2 => ?_
  refine ps_mk (n := 4) H2 (q := 0) rfl rfl rfl fun σ3 H3 => ?_
  have hwn : w32 n = n := w32_eq (by omega) (by omega)
  have hbl := hm.2.1
  obtain ⟨W, hWd⟩ : ∃ W, W = rowS bs n (bs.length + 1) x := ⟨_, rfl⟩
  rw [← hWd] at hok herr
  refine aloop (rowI a bs n W p q L) (fun s => bs.length + 1 - s.1.length) ?_ (a := ([], x)) ⟨0, none, 0, by simp, ⟨h0, h1⟩, .inl rfl, AllS.none _ _, rfl, H3, by rw [hWd]; simp⟩
  rintro ⟨l, y⟩ r σ4 X hX ⟨jr, ca, ce, hll, hy, hly, hs, rfl, H4, hW⟩
  simp only at hll hy hly hs H4 hW
  obtain ⟨P, hP, hPin⟩ := hs.inU
  rw [s43l]
  have G : Has σ4 ((p, .row .plain [i64 2, .slice ca l.length ce, u32 0, .slice none 0 0]) :: (q, .row .plain pcZ) :: rowL jr l L) := rowL_front (A := [(p, .row .plain [i64 2, .slice ca l.length ce, u32 0, .slice none 0 0]), (q, .row .plain pcZ)]) H4
  have G2 : Has σ4 ((q, .row .plain pcZ) :: (p, .row .plain [i64 2, .slice ca l.length ce, u32 0, .slice none 0 0]) :: rowL jr l L) := G.perm (.swap _ _ _)
  obtain ⟨f, hf⟩ : ∃ f, bs.length + 1 - l.length = f + 1 := ⟨bs.length - l.length, by omega⟩
  rw [hf] at hW
  refine c33 (n := n) H4 (hm.mono fun z h => rowL_mem (by simp [h])) hn hy.1 hy.2 (fun v hv v0 v1 => ?_) (fun hv => ?_)
  · simp only [tTup_tup, pSome_some, tI_int, List.getElem?_cons_zero, List.getElem?_cons_succ, bne_self_eq_false, bm_false]
    simp only [rowS, hv] at hW
    refine bm_mk (fun hz => ?_) (fun hz => ?_)
    · have hz : v = 0 := by simpa using hz
      rw [if_pos hz] at hW
      refine pc_copy G2 rfl hs.1 rfl fun σ5 H5 => ?_
      rw [hP] at H5
      exact hok σ5 _ P l (by rw [hW]; simp) H5 ⟨ca, 0, none, 0, rfl, hPin⟩
    · have hz : v ≠ 0 := by simpa using hz
      rw [if_neg hz] at hW
      have hin := rd_in hv
      refine ldc_mk G 0 rfl rfl (tL_ok hs.1 ?_)
      refine push1 H4 hs (by omega) fun j' σ5 c' H5 hs' => ?_
      have G3 := rowL_front (A := [(p, .row .plain [i64 2, .slice ca l.length ce, u32 0, .slice none 0 0]), (q, .row .plain pcZ)]) H5
      refine put1_mk G3 0 rfl rfl (by simp) fun σ6 H6 => ?_
      have hx' : w32 (y + w32 n) = y + n := by rw [hwn]; exact w32_eq (by omega) (by omega)
      refine hX (l ++ [v], w32 (y + w32 n)) _ _ (by simp only [List.length_append, List.length_cons, List.length_nil]; omega) ⟨j', c', 1, ?_, w32_in _, ?_, hs', rfl, ?_, ?_⟩
      · simp only [List.length_append, List.length_cons, List.length_nil]
        rcases hly with rfl | h
        · simp only [List.length_nil]; omega
        · omega
      · right
        simp only [List.length_append, List.length_cons, List.length_nil]
        rw [hx']
        rcases hly with rfl | h
        · simp only [List.length_nil]; omega
        · omega
      · simp only [List.length_append, List.length_cons, List.length_nil]
        exact rowL_back (A := [(p, .row .plain [i64 2, .slice c' (l.length + 1) 1, u32 0, .slice none 0 0]), (q, .row .plain pcZ)]) H6
      · simp only [List.length_append, List.length_cons, List.length_nil]
        rw [hW, show bs.length + 1 - (l.length + (0 + 1)) = f by omega]
        cases rowS bs n f (w32 (y + w32 n)) <;> simp
  · have e90 : ((90 : Int) != 0) = true := by decide
    simp only [tTup_tup, pSome_some, tI_int, List.getElem?_cons_zero, List.getElem?_cons_succ, e90, bm_true]
    simp only [rowS, hv] at hW
    refine pc_set G2 rfl rfl rfl fun σ5 H5 => ?_
    rw [hP] at H5
    exact herr σ5 _ (by rw [hW]; rfl) (H5.sub (.cons _ (List.sublist_append_right P L))) ⟨none, 0, none, 0, rfl, .inl rfl⟩)
def argI (a : Option Addr) (bs : List Int) (x n : Int) (W : Bool) (p q : Nat) (L : List (Nat × AObj)) (s : List Int × Int) (r : Regs) (σ : AS) : Prop :=
  ∃ (jr : Nat) (ad : Int) (aa : Option Addr) (ae : Nat), s.1.length ≤ bs.length + 1 ∧ AllS jr s.1 aa ae ∧
    r = [(0, some (.slice a bs.length 1)), (1, some (u32 x)), (6, some (ptr q)), (9, some (i64 s.2)), (10, some (ptr p)), (11, some (u32 n)), (12, some (u32 s.1.length))] ∧
    Has σ (rowL jr s.1 ((p, .row .plain [i64 3, .slice none 0 0, u32 ad, .slice aa s.1.length ae]) :: (q, .row .plain pcZ) :: L)) ∧
    ((s.2 = 0 ∧ s.1.length ≤ bs.length ∧ W = argsS bs x n (bs.length + 1 - s.1.length) s.1.length) ∨ (s.2 = 90 ∧ W = false))
theorem c44 {L : List (Nat × AObj)} {a : Option Addr} {bs : List Int} {x k : Int} (H : Has σ L) (hm : Mem a bs L) (h0 : 0 ≤ x) (hxl : x ≤ bs.length)
    (hok : ∀ σ' v new, refS bs x k = true → Has σ' (new ++ L) → PV 3 [] v new → K (.tuple ⟨[v, i64 0]⟩) σ') (herr : ∀ σ' v, refS bs x k = false → Has σ' L → PV 0 [] v [] → K (.tuple ⟨[v, i64 90]⟩) σ') :
    Tri Try.prog 44 [.slice a bs.length 1, u32 x, u32 k] σ K := tri_in (by
  rw [s44]
  have hbl := hm.2.1
  have e90 : ((90 : Int) != 0) = true := by decide
  have e90' : ((90 : Int) == 0) = false := by decide
  have hm2 : ∀ {M : List (Nat × AObj)}, (∀ p ∈ L, p ∈ M) → Mem a bs M := fun h => hm.mono h
  refine newAt_mk H fun q σ1 H1 => ?_
  have w1 := w32_in (x + 1)
  have w5 := w32_in (x + 5)
  -- behind the address
  have tail : ∀ (ad : Int) (σ2 : AS), Has σ2 ((q, .row .plain pcZ) :: L) → refS bs x k = refT bs x k →
      newAt σ2 (.row .plain pcZ) fun i32 σ33 => puts σ33 ⟨i32, 0, none⟩ [i64 3, .slice none 0 0, .int .u32 ad, .slice none 0 0] fun σ34 => bmatch (decide (k < 10))
        (lds σ34 ⟨i32, 0, none⟩ 4 fun l22 => tCons l22 fun v23 l24 => tI .i64 v23 fun n25 => tCons l24 fun v26 l27 => tL 1 v26 fun s28 => tCons l27 fun v29 l30 => tI .u32 v29 fun n31 => tCons l30 fun v32 l33 => tL 1 v32 fun s34 => tNil l33
          (puts σ34 ⟨q, 0, none⟩ [.int .i64 n25, .slice s28.a s28.n 1, .int .u32 n31, .slice s34.a s34.n 1] fun σ16 => lds σ16 ⟨q, 0, none⟩ 4 fun l17 => tCons l17 fun v18 l19 => tI .i64 v18 fun n20 => tCons l19 fun v21 l22 => tL 1 v21 fun s23 => tCons l22 fun v24 l25 => tI .u32 v24 fun n26 =>
            tCons l25 fun v27 l28 => tL 1 v27 fun s29 => tNil l28 (K (.tuple ⟨[.agg ⟨[.int .i64 n20, .slice s23.a s23.n 1, .int .u32 n26, .slice s29.a s29.n 1]⟩, i64 0]⟩) σ16)))
        (Tri Try.prog 33 [.slice a bs.length 1, .int .u32 (w32 (x + 5)), i64 4] σ34 fun v62 σ63 => tTup v62 fun l64 => pSome l64[(0 : Nat)]? fun u65 => tI .u32 u65 fun n66 => tTup v62 fun l67 => pSome l67[(1 : Nat)]? fun u68 => tI .i64 u68 fun n69 =>
          ALoop (fl Try.prog hintsS (Tri Try.prog) 44 [true, true, true, true, true, true, true, false, true, false] [] K) [(0, some (.slice a bs.length 1)), (1, some (u32 x)), (6, some (ptr q)), (9, some (.int .i64 n69)), (10, some (ptr i32)), (11, some (.int .u32 n66)), (12, some (u32 0))] σ63) := by
    intro ad σ2 H2 hR
    refine newAt_mk H2 fun p σ3 H3 => ?_
    refine ps_mk (n := 4) H3 (q := 0) rfl rfl rfl fun σ4 H4 => ?_
    refine bm_mk (fun h10 => ?_) (fun h10 => ?_)
    · have h10 : k < 10 := of_decide_eq_true h10
      have G : Has σ4 ((q, .row .plain pcZ) :: (p, .row .plain [i64 3, .slice none 0 0, u32 ad, .slice none 0 0]) :: L) := H4.perm (.swap _ _ _)
      refine pc_copy G rfl rfl rfl fun σ5 H5 => ?_
      exact hok σ5 _ [] (by rw [hR]; unfold refT; rw [if_pos h10]) H5 ⟨none, ad, none, 0, rfl, .inl rfl⟩
    · have h10 : ¬ k < 10 := of_decide_eq_false h10
      have start : ∀ n e, (e = 0 ∧ refS bs x k = argsS bs x n (bs.length + 1) 0) ∨ (e = 90 ∧ refS bs x k = false) →
          ALoop (fl Try.prog hintsS (Tri Try.prog) 44 [true, true, true, true, true, true, true, false, true, false] [] K) [(0, some (.slice a bs.length 1)), (1, some (u32 x)), (6, some (ptr q)), (9, some (i64 e)), (10, some (ptr p)), (11, some (u32 n)), (12, some (u32 0))] σ4 := by
        intro n e he
        refine aloop (argI a bs x n (refS bs x k) p q L) (fun s => bs.length + 2 - s.1.length) ?_ (a := ([], e)) ⟨0, ad, none, 0, by simp, AllS.none _ _, rfl, H4, ?_⟩
        · rintro ⟨l, e⟩ r σ5 X hX ⟨jr, ad, aa, ae, hll, hs, rfl, H5, hW⟩
          simp only at hll hs H5 hW
          obtain ⟨P, hP, hPin⟩ := hs.inU
          have G : Has σ5 ((p, .row .plain [i64 3, .slice none 0 0, u32 ad, .slice aa l.length ae]) :: (q, .row .plain pcZ) :: rowL jr l L) := rowL_front (A := [(p, .row .plain [i64 3, .slice none 0 0, u32 ad, .slice aa l.length ae]), (q, .row .plain pcZ)]) H5
          have G2 : Has σ5 ((q, .row .plain pcZ) :: (p, .row .plain [i64 3, .slice none 0 0, u32 ad, .slice aa l.length ae]) :: rowL jr l L) := G.perm (.swap _ _ _)
          have good : refS bs x k = true → ∀ σ6, Has σ6 (rowL jr l L) → K (.tuple ⟨[.agg ⟨[i64 3, .slice none 0 1, u32 ad, .slice aa l.length 1]⟩, i64 0]⟩) σ6 := by
            intro hR2 σ6 H6
            rw [hP] at H6
            exact hok σ6 _ P hR2 H6 ⟨none, ad, aa, l.length, rfl, .inl rfl⟩
          have bad : refS bs x k = false → ∀ σ6, Has σ6 ((p, .row .plain [i64 3, .slice none 0 0, u32 ad, .slice aa l.length ae]) :: rowL jr l L) → K (.tuple ⟨[.agg ⟨[i64 0, .slice none 0 1, u32 0, .slice none 0 1]⟩, i64 90]⟩) σ6 := by
            intro hR2 σ6 H6
            rw [hP] at H6
            exact herr σ6 _ hR2 (H6.sub (.cons _ (List.sublist_append_right P L))) ⟨none, 0, none, 0, rfl, .inl rfl⟩
          rw [s44l]
          refine bm_mk (fun hi' => ?_) (fun hi' => ?_)
          · have hi : (l.length : Int) < n := of_decide_eq_true hi'
            refine bm_mk (fun he0 => ?_) (fun he0 => ?_)
            · have he0 : e = 0 := by simpa using he0
              subst he0
              obtain ⟨_, hl2, hW⟩ := hW.resolve_right (fun h => absurd h.1 (by decide))
              obtain ⟨f, hf⟩ : ∃ f, bs.length + 1 - l.length = f + 1 := ⟨bs.length - l.length, by omega⟩
              rw [hf] at hW
              simp only [argsS, if_pos hi] at hW
              have w9 := w32_in (w32 (x + 9) + w32 (4 * (l.length : Int)))
              have e9 : w32 (w32 (x + 9) + w32 (4 * (l.length : Int))) = x + 9 + 4 * l.length := by
                rw [w32_eq (n := x + 9) (by omega) (by omega), w32_eq (n := 4 * (l.length : Int)) (by omega) (by omega), w32_eq (by omega) (by omega)]
              have go : ∀ v e', (e' = 0 ∧ l.length + 1 ≤ bs.length ∧ refS bs x k = argsS bs x n f (l.length + 1)) ∨ (e' = 90 ∧ refS bs x k = false) →
                  ldc σ5 ⟨p, 0 + 3, none⟩ fun v8 => tL 1 v8 fun s9 => newAt σ5 (.row .rw [.int .u32 v]) fun i10 σ11 => lds σ11 ⟨i10, 0, none⟩ 1 fun l12 => appendTo σ11 1 4 ⟨s9.a, s9.n⟩ l12 1 fun s13 σ14 => put1 σ14 ⟨p, 0 + 3, none⟩ (.slice s13.a s13.n 1) fun σ15 =>
                    X [(0, some (.slice a bs.length 1)), (1, some (u32 x)), (6, some (ptr q)), (9, some (.int .i64 e')), (10, some (ptr p)), (11, some (u32 n)), (12, some (.int .u32 (w32 ((l.length : Int) + 1))))] σ15 := by
                intro v e' he'
                refine ldc_mk G 0 rfl rfl (tL_ok hs.1 ?_)
                refine push1 H5 hs (by omega) fun j' σ6 c' H6 hs' => ?_
                have G3 := rowL_front (A := [(p, .row .plain [i64 3, .slice none 0 0, u32 ad, .slice aa l.length ae]), (q, .row .plain pcZ)]) H6
                refine put1_mk G3 0 rfl rfl (by simp) fun σ7 H7 => ?_
                rw [w32_eq (n := (l.length : Int) + 1) (by omega) (by omega)]
                refine hX (l ++ [v], e') _ _ (by simp only [List.length_append, List.length_cons, List.length_nil]; omega) ⟨j', ad, c', 1, by simp only [List.length_append, List.length_cons, List.length_nil]; omega, hs', by simp, ?_, ?_⟩
                · simp only [List.length_append, List.length_cons, List.length_nil]
                  exact rowL_back (A := [(p, .row .plain [i64 3, .slice none 0 0, u32 ad, .slice c' (l.length + 1) 1]), (q, .row .plain pcZ)]) H7
                · simp only [List.length_append, List.length_cons, List.length_nil]
                  rcases he' with ⟨rfl, h2, h⟩ | h
                  · refine .inl ⟨rfl, by omega, ?_⟩
                    rw [h, show bs.length + 1 - (l.length + (0 + 1)) = f by omega]
                  · exact .inr h
              refine c33 (n := 4) H5 (hm2 fun z h => rowL_mem (by simp [h])) (.inr rfl) w9.1 w9.2 (fun v hv v0 v1 => ?_) (fun hv => ?_)
              · simp only [tTup_tup, pSome_some, tI_int, List.getElem?_cons_zero, List.getElem?_cons_succ]
                have hv : rd bs (w32 (w32 (x + 9) + w32 (4 * (l.length : Int)))) 4 = some v := hv
                have hin := rd_in hv
                rw [e9] at hin
                simp only [hv] at hW
                exact go v 0 (.inl ⟨rfl, by omega, hW⟩)
              · simp only [tTup_tup, pSome_some, tI_int, List.getElem?_cons_zero, List.getElem?_cons_succ]
                have hv : rd bs (w32 (w32 (x + 9) + w32 (4 * (l.length : Int)))) 4 = none := hv
                simp only [hv] at hW
                exact go 0 90 (.inr ⟨rfl, hW⟩)
            · have he0 : e ≠ 0 := by simpa using he0
              obtain ⟨rfl, hW2⟩ := hW.resolve_left (fun h => he0 h.1)
              refine bm_mk (fun _ => ?_) (fun h => by simp at h)
              exact pc_set G2 rfl rfl rfl fun σ6 H6 => bad hW2 σ6 H6
          · have hi : ¬ (l.length : Int) < n := of_decide_eq_false hi'
            refine bm_mk (fun he0 => ?_) (fun he0 => ?_)
            · have he0 : e ≠ 0 := by simpa using he0
              obtain ⟨rfl, hW2⟩ := hW.resolve_left (fun h => he0 h.1)
              exact pc_set G2 rfl rfl rfl fun σ6 H6 => bad hW2 σ6 H6
            · have he0 : e = 0 := by simpa using he0
              subst he0
              obtain ⟨_, hl2, hW⟩ := hW.resolve_right (fun h => absurd h.1 (by decide))
              obtain ⟨f, hf⟩ : ∃ f, bs.length + 1 - l.length = f + 1 := ⟨bs.length - l.length, by omega⟩
              rw [hf] at hW
              simp only [argsS, if_neg hi] at hW
              exact pc_copy G2 rfl rfl hs.1 fun σ6 H6 => good hW σ6 H6
        · rcases he with ⟨rfl, h⟩ | ⟨rfl, h⟩
          · exact .inl ⟨rfl, by simp, by simpa using h⟩
          · exact .inr ⟨rfl, h⟩
      refine c33 (n := 4) H4 (hm2 fun z h => by simp [h]) (.inr rfl) w5.1 w5.2 (fun n hn v0 v1 => ?_) (fun hn => ?_)
      · simp only [tTup_tup, pSome_some, tI_int, List.getElem?_cons_zero, List.getElem?_cons_succ]
        exact start n 0 (.inl ⟨rfl, by rw [hR]; unfold refT; rw [if_neg h10]; simp only [hn]⟩)
      · simp only [tTup_tup, pSome_some, tI_int, List.getElem?_cons_zero, List.getElem?_cons_succ]
        exact start 0 90 (.inr ⟨rfl, by rw [hR]; unfold refT; rw [if_neg h10]; simp only [hn]⟩)
  have bad : ∀ σ2, Has σ2 ((q, .row .plain pcZ) :: L) → refS bs x k = false → ∀ σ6, Has σ6 L → K (.tuple ⟨[.agg ⟨[i64 0, .slice none 0 1, u32 0, .slice none 0 1]⟩, i64 90]⟩) σ6 := fun σ2 H2 hR σ6 H6 => herr σ6 _ hR H6 ⟨none, 0, none, 0, rfl, .inl rfl⟩
  refine c33 (n := 4) H1 (hm2 fun z h => by simp [h]) (.inr rfl) w1.1 w1.2 (fun ad had v0 v1 => ?_) (fun had => ?_)
  · simp only [tTup_tup, pSome_some, tI_int, List.getElem?_cons_zero, List.getElem?_cons_succ, beq_self_eq_true, bm_true]
    refine bm_mk (fun hodd => ?_) (fun hodd => ?_)
    · have hodd : Int.tmod k 2 = 1 := by simpa using hodd
      refine c33 (n := 4) H1 (hm2 fun z h => by simp [h]) (.inr rfl) v0 v1 (fun ad2 had2 v2 v3 => ?_) (fun had2 => ?_)
      · simp only [tTup_tup, pSome_some, tI_int, List.getElem?_cons_zero, List.getElem?_cons_succ, bne_self_eq_false, bm_false]
        exact tail ad2 σ1 H1 (by unfold refS; simp only [had, if_pos hodd, had2])
      · simp only [tTup_tup, pSome_some, tI_int, List.getElem?_cons_zero, List.getElem?_cons_succ, e90, bm_true]
        exact pc_set H1 rfl rfl rfl fun σ6 H6 => bad σ1 H1 (by unfold refS; simp only [had, if_pos hodd, had2]) σ6 H6
    · have hodd : ¬ Int.tmod k 2 = 1 := by simpa using hodd
      simp only [bne_self_eq_false, bm_false]
      exact tail ad σ1 H1 (by unfold refS; simp only [had, if_neg hodd])
  · simp only [tTup_tup, pSome_some, tI_int, List.getElem?_cons_zero, List.getElem?_cons_succ, e90, e90', bm_true, bm_false]
    exact pc_set H1 rfl rfl rfl fun σ6 H6 => bad σ1 H1 (by unfold refS; simp only [had]) σ6 H6)
end
end Go.AI
end
section
/- A packed text: a leaf; the next piece. -/
set_option maxRecDepth 4000
set_option linter.unusedVariables false
set_option linter.unusedSimpArgs false
namespace Go.AI
open Go.Proofs
def oneS (bs : List Int) (x : Int) (n : Nat) : Except Int (Int × List Int) := match rd bs (w32 (x + 1)) n with | none => .error 90 | some c => .ok (2, [c])
def rowE (bs : List Int) (x : Int) (n : Nat) : Except Int (Int × List Int) := match rowS bs n (bs.length + 1) (w32 (x + 1)) with | none => .error 90 | some l => .ok (2, l)
def refE (bs : List Int) (x k : Int) : Except Int (Int × List Int) := match refS bs x k with | true => .ok (3, []) | false => .error 90
def leafK (bs : List Int) (x k : Int) : Except Int (Int × List Int) :=
  if k = 1 then .ok (1, []) else if k = 2 then oneS bs x 1 else if k = 4 then oneS bs x 4 else if k = 3 then rowE bs x 1 else if k = 5 then rowE bs x 4
  else if k = 8 ∨ k = 9 ∨ k = 10 ∨ k = 11 then refE bs x k else .error 120
def leafS (bs : List Int) (x : Int) : Except Int (Int × List Int) := match rd bs x 1 with
  | none => .error 90
  | some k => leafK bs x k
abbrev SetK (K : Value → AS → Prop) (q : Nat) (vs : List Value) (e : Value) (σ : AS) : Prop :=
  puts σ ⟨q, 0, none⟩ vs fun σ16 => lds σ16 ⟨q, 0, none⟩ 4 fun l17 => tCons l17 fun v18 l19 => tI .i64 v18 fun n20 => tCons l19 fun v21 l22 => tL 1 v21 fun s23 => tCons l22 fun v24 l25 => tI .u32 v24 fun n26 =>
      tCons l25 fun v27 l28 => tL 1 v27 fun s29 => tNil l28 (K (.tuple ⟨[.agg ⟨[.int .i64 n20, .slice s23.a s23.n 1, .int .u32 n26, .slice s29.a s29.n 1]⟩, e]⟩) σ16)
abbrev PassK (K : Value → AS → Prop) (q : Nat) (v : Value) (σ : AS) : Prop :=
  tTup v fun l116 => pSome l116[(0 : Nat)]? fun u117 => tAgg u117 fun l118 => tCons l118 fun v119 l120 => tI .i64 v119 fun n121 => tCons l120 fun v122 l123 => tL 1 v122 fun s124 => tCons l123 fun v125 l126 => tI .u32 v125 fun n127 => tCons l126 fun v128 l129 => tL 1 v128 fun s130 => tNil l129
    (tTup v fun l131 => pSome l131[(1 : Nat)]? fun u132 => tI .i64 u132 fun n133 => SetK K q [.int .i64 n121, .slice s124.a s124.n 1, .int .u32 n127, .slice s130.a s130.n 1] (.int .i64 n133) σ)
section
variable {σ : AS} {K : Value → AS → Prop} {L : List (Nat × AObj)} {a : Option Addr} {bs : List Int} {x : Int}
theorem n1 (a : Option Addr) : nilOr a 1 1 = true := by cases a <;> rfl
theorem leaf_one {q n : Nat} (hn : n = 1 ∨ n = 4) (H : Has σ ((q, .row .plain pcZ) :: L)) (hm : Mem a bs L)
    (hok : ∀ σ' v new p, oneS bs x n = .ok p → Has σ' (new ++ L) → PV p.1 p.2 v new → K (.tuple ⟨[v, i64 0]⟩) σ') (herr : ∀ σ' v e, oneS bs x n = .error e → e ≠ 0 → Has σ' L → PV 0 [] v [] → K (.tuple ⟨[v, i64 e]⟩) σ') :
    Tri Try.prog 33 [.slice a bs.length 1, .int .u32 (IntKind.wrap .u32 (x + 1)), .int .i64 n] σ fun v40 σ39 => tTup v40 fun l41 => pSome l41[(0 : Nat)]? fun u => tI .u32 u fun n42 => tTup v40 fun l43 => pSome l43[(1 : Nat)]? fun u44 => tI .i64 u44 fun n45 =>
      bmatch (n45 != 0) (SetK K q pcZ (.int .i64 n45) σ39) (newAt σ39 (.row .rw [.int .u32 n42]) fun i60 σ61 => SetK K q [i64 2, .slice (some ⟨i60, 0, none⟩) 1 1, u32 0, .slice none 0 0] (i64 0) σ61) := by
  have hw := w32_in (x + 1)
  refine c33 (n := n) H (hm.mono fun z h => by simp [h]) hn hw.1 hw.2 (fun v hv v0 v1 => ?_) (fun hv => ?_)
  · simp only [tTup_tup, pSome_some, tI_int, List.getElem?_cons_zero, List.getElem?_cons_succ, bne_self_eq_false, bm_false]
    refine newAt_mk H fun i σ1 H1 => ?_
    have H2 : Has σ1 ((q, .row .plain pcZ) :: ([(i, .row .rw [u32 v])] ++ L)) := H1.perm (.swap _ _ _)
    refine pc_set H2 rfl rfl rfl fun σ2 H3 => hok σ2 _ [(i, .row .rw [u32 v])] (2, [v]) (by unfold oneS; simp only [hv]) H3 ⟨_, 0, none, 0, rfl, .inr ⟨i, .rw, rfl, by simp⟩⟩
  · have e90 : ((90 : Int) != 0) = true := by decide
    simp only [tTup_tup, pSome_some, tI_int, List.getElem?_cons_zero, List.getElem?_cons_succ, e90, bm_true]
    exact pc_set H rfl rfl rfl fun σ2 H3 => herr σ2 _ 90 (by unfold oneS; simp only [hv]) (by decide) H3 ⟨none, 0, none, 0, rfl, .inl rfl⟩
theorem passK {q : Nat} {k e : Int} {cs : List Int} {v : Value} {new : List (Nat × AObj)} (H : Has σ (new ++ ((q, .row .plain pcZ) :: L))) (hp : PV k cs v new) (hK : ∀ σ' v', Has σ' (new ++ L) → PV k cs v' new → K (.tuple ⟨[v', i64 e]⟩) σ') : PassK K q (.tuple ⟨[v, i64 e]⟩) σ := by
  obtain ⟨ca, ad, aa, an, rfl, hin⟩ := hp
  have H2 : Has σ ((q, .row .plain pcZ) :: (new ++ L)) := H.perm List.perm_middle.symm
  simp only [PassK, tTup_tup, pSome_some, List.getElem?_cons_zero, List.getElem?_cons_succ, tAgg_agg, tCons, tI_int, tL_sl, tNil]
  exact pc_set H2 rfl (n1 _) (n1 _) fun σ2 H3 => hK σ2 _ H3 ⟨ca, ad, aa, an, rfl, hin⟩
theorem leaf_row {q n : Nat} (hn : n = 1 ∨ n = 4) (H : Has σ ((q, .row .plain pcZ) :: L)) (hm : Mem a bs L)
    (hok : ∀ σ' v new p, rowE bs x n = .ok p → Has σ' (new ++ L) → PV p.1 p.2 v new → K (.tuple ⟨[v, i64 0]⟩) σ') (herr : ∀ σ' v e, rowE bs x n = .error e → e ≠ 0 → Has σ' L → PV 0 [] v [] → K (.tuple ⟨[v, i64 e]⟩) σ') :
    Tri Try.prog 43 [.slice a bs.length 1, .int .u32 (IntKind.wrap .u32 (x + 1)), .int .i64 n] σ (PassK K q) := by
  have hw := w32_in (x + 1)
  refine c43 (n := n) H (hm.mono fun z h => by simp [h]) hn hw.1 hw.2 (fun σ1 v new l hl H1 hp => ?_) (fun σ1 v hl H1 hp => ?_)
  · have hl : rowS bs n (bs.length + 1) (w32 (x + 1)) = some l := hl
    exact passK H1 hp fun σ2 v' H2 hp2 => hok σ2 v' new (2, l) (by unfold rowE; simp only [hl]) H2 hp2
  · have hl : rowS bs n (bs.length + 1) (w32 (x + 1)) = none := hl
    exact passK (new := []) H1 hp fun σ2 v' H2 hp2 => herr σ2 v' 90 (by unfold rowE; simp only [hl]) (by decide) H2 hp2
theorem leaf_ref {q : Nat} {k : Int} (H : Has σ ((q, .row .plain pcZ) :: L)) (hm : Mem a bs L) (h0 : 0 ≤ x) (h1 : x ≤ bs.length)
    (hok : ∀ σ' v new p, refE bs x k = .ok p → Has σ' (new ++ L) → PV p.1 p.2 v new → K (.tuple ⟨[v, i64 0]⟩) σ') (herr : ∀ σ' v e, refE bs x k = .error e → e ≠ 0 → Has σ' L → PV 0 [] v [] → K (.tuple ⟨[v, i64 e]⟩) σ') :
    Tri Try.prog 44 [.slice a bs.length 1, .int .u32 x, .int .u32 k] σ (PassK K q) := by
  refine c44 H (hm.mono fun z h => by simp [h]) h0 h1 (fun σ1 v new hl H1 hp => ?_) (fun σ1 v hl H1 hp => ?_)
  · exact passK H1 hp fun σ2 v' H2 hp2 => hok σ2 v' new (3, []) (by unfold refE; simp only [hl]) H2 hp2
  · exact passK (new := []) H1 hp fun σ2 v' H2 hp2 => herr σ2 v' 90 (by unfold refE; simp only [hl]) (by decide) H2 hp2
theorem c35 (H : Has σ L) (hm : Mem a bs L) (h0 : 0 ≤ x) (h1 : x ≤ 4294967295)
    (hok : ∀ σ' v new p, leafS bs x = .ok p → Has σ' (new ++ L) → PV p.1 p.2 v new → K (.tuple ⟨[v, i64 0]⟩) σ') (herr : ∀ σ' v e, leafS bs x = .error e → e ≠ 0 → Has σ' L → PV 0 [] v [] → K (.tuple ⟨[v, i64 e]⟩) σ') :
    Tri Try.prog 35 [.slice a bs.length 1, u32 x] σ K := tri_in (by
  rw [s35]
  refine newAt_mk H fun q σ1 H1 => ?_
  refine c33 (n := 1) H1 (hm.mono fun z h => by simp [h]) (.inl rfl) h0 h1 (fun k hk v0 v1 => ?_) (fun hk => ?_)
  · simp only [tTup_tup, pSome_some, tI_int, List.getElem?_cons_zero, List.getElem?_cons_succ, bne_self_eq_false, bm_false]
    have hl : leafS bs x = leafK bs x k := by unfold leafS; simp only [hk]
    rw [hl] at hok herr
    have hxl : x ≤ bs.length := by have := rd_in hk; omega
    by_cases c1 : k = 1
    · subst c1
      repeat (first | refine bm_mk (fun h => absurd h (by decide)) (fun _ => ?_) | refine bm_mk (fun _ => ?_) (fun h => absurd h (by decide)))
      exact pc_set H1 rfl rfl rfl fun σ2 H3 => hok σ2 _ [] (1, []) rfl H3 ⟨none, 0, none, 0, rfl, .inl rfl⟩
    by_cases c2 : k = 2
    · subst c2
      repeat (first | refine bm_mk (fun h => absurd h (by decide)) (fun _ => ?_) | refine bm_mk (fun _ => ?_) (fun h => absurd h (by decide)))
      exact leaf_one (n := 1) (.inl rfl) H1 hm hok herr
    by_cases c4 : k = 4
    · subst c4
      repeat (first | refine bm_mk (fun h => absurd h (by decide)) (fun _ => ?_) | refine bm_mk (fun _ => ?_) (fun h => absurd h (by decide)))
      exact leaf_one (n := 4) (.inr rfl) H1 hm hok herr
    by_cases c3 : k = 3
    · subst c3
      repeat (first | refine bm_mk (fun h => absurd h (by decide)) (fun _ => ?_) | refine bm_mk (fun _ => ?_) (fun h => absurd h (by decide)))
      exact leaf_row (n := 1) (.inl rfl) H1 hm hok herr
    by_cases c5 : k = 5
    · subst c5
      repeat (first | refine bm_mk (fun h => absurd h (by decide)) (fun _ => ?_) | refine bm_mk (fun _ => ?_) (fun h => absurd h (by decide)))
      exact leaf_row (n := 4) (.inr rfl) H1 hm hok herr
    by_cases c8 : k = 8
    · subst c8
      repeat (first | refine bm_mk (fun h => absurd h (by decide)) (fun _ => ?_) | refine bm_mk (fun _ => ?_) (fun h => absurd h (by decide)))
      exact leaf_ref H1 hm h0 hxl hok herr
    by_cases c9 : k = 9
    · subst c9
      repeat (first | refine bm_mk (fun h => absurd h (by decide)) (fun _ => ?_) | refine bm_mk (fun _ => ?_) (fun h => absurd h (by decide)))
      exact leaf_ref H1 hm h0 hxl hok herr
    by_cases c10 : k = 10
    · subst c10
      repeat (first | refine bm_mk (fun h => absurd h (by decide)) (fun _ => ?_) | refine bm_mk (fun _ => ?_) (fun h => absurd h (by decide)))
      exact leaf_ref H1 hm h0 hxl hok herr
    by_cases c11 : k = 11
    · subst c11
      repeat (first | refine bm_mk (fun h => absurd h (by decide)) (fun _ => ?_) | refine bm_mk (fun _ => ?_) (fun h => absurd h (by decide)))
      exact leaf_ref H1 hm h0 hxl hok herr
    have he : leafK bs x k = .error 120 := by
      unfold leafK
      rw [if_neg c1, if_neg c2, if_neg c4, if_neg c3, if_neg c5, if_neg (by omega)]
    repeat (refine bm_mk (fun h => by simp at h; omega) (fun _ => ?_))
    exact pc_set H1 rfl rfl rfl fun σ2 H3 => herr σ2 _ 120 he (by decide) H3 ⟨none, 0, none, 0, rfl, .inl rfl⟩
  · have e90 : ((90 : Int) != 0) = true := by decide
    simp only [tTup_tup, pSome_some, tI_int, List.getElem?_cons_zero, List.getElem?_cons_succ, e90, bm_true]
    exact pc_set H1 rfl rfl rfl fun σ2 H3 => herr σ2 _ 90 (by unfold leafS; simp only [hk]) (by decide) H3 ⟨none, 0, none, 0, rfl, .inl rfl⟩)
/-- The next piece of a packed text. -/
def nxP (bs : List Int) (t : Int) (at_ : AtS) : NxR := match walkS bs t at_.x at_.b with
  | .error e => .error e
  | .ok (nd, x', b') => match leafS bs nd with
    | .error e => .error e
    | .ok p => .ok (p, ⟨at_.k, x', b'⟩)
theorem walkL_in {bs : List Int} : ∀ (f : Nat) (node x b : Int) (nd x' b' : Int), 0 ≤ x → x ≤ 4294967295 → 0 ≤ b → b ≤ 7 → walkL bs f node x b = .ok (nd, x', b') → 0 ≤ x' ∧ x' ≤ 4294967295 ∧ 0 ≤ b' ∧ b' ≤ 7
  | 0, node, x, b, nd, x', b', h0, h1, h2, h3, h => by
    simp only [walkL] at h
    split at h
    · cases h
    · split at h
      · cases h; exact ⟨h0, h1, h2, h3⟩
      · cases h
  | f + 1, node, x, b, nd, x', b', h0, h1, h2, h3, h => by
    simp only [walkL] at h
    split at h
    · cases h
    · split at h
      · cases h; exact ⟨h0, h1, h2, h3⟩
      · split at h
        · cases h
        · split at h
          · cases h
          · have hw := w32_in (x + 1)
            by_cases h8 : b + 1 = 8
            · simp only [if_pos h8] at h
              exact walkL_in f _ _ _ nd x' b' hw.1 hw.2 (by omega) (by omega) h
            · simp only [if_neg h8] at h
              exact walkL_in f _ _ _ nd x' b' h0 h1 (by omega) (by omega) h
theorem c21p {t k y b : Int} (hk : k = 225) (h0 : 0 ≤ y) (h1 : y ≤ 4294967295) (hb0 : 0 ≤ b) (ht : 0 ≤ t) : NextOk a bs t (nxP bs t) ⟨k, y, b⟩ := by
  intro σ L K H hm hok herr
  subst hk
  refine tri_in ?_
  rw [s21]
  refine newAt_mk H fun i0 σ1 H1 => newAt_mk H1 fun i2 σ2 H2 => newAt_mk H2 fun i4 σ3 H3 => ?_
  have hm3 : ∀ {M : List (Nat × AObj)}, (∀ p ∈ L, p ∈ M) → Mem a bs M := fun h => hm.mono h
  refine ldc_mk H3 2 rfl rfl (tI_mk ?_)
  refine bm_mk (fun h => by simp at h) (fun _ => bm_mk (fun h => by simp at h) (fun _ => bm_mk (fun _ => ?_) (fun h => by simp at h)))
  refine ls_mk H3 (q := 2) rfl rfl ?_
  simp only [tCons, tI_int, tNil]
  refine c34 (k := 225) (x := y) (b := b) H3 (hm3 fun z h => by simp [h]) h0 h1 hb0 ht (fun σ4 nd x' b' hw n0 n1' x0 x1 b0 b1 H4 => ?_) (fun σ4 nd at' e hw he H4 => ?_)
  · simp only [tTup_tup, pSome_some, List.getElem?_cons_zero, List.getElem?_cons_succ, tAgg_agg, tCons, tI_int, tNil]
    refine newAt_mk H4 fun i5 σ5 H5 => ?_
    refine ps_mk (n := 3) H5 (q := 0) rfl rfl rfl fun σ6 H6 => ?_
    simp only [bne_self_eq_false, bm_false]
    refine c35 H6 (hm3 fun z h => by simp [h]) n0 n1' (fun σ7 v new p hp H7 hpv => ?_) (fun σ7 v e hp he H7 hpv => ?_)
    · obtain ⟨ca, ad, aa, an, rfl, hin⟩ := hpv
      simp only [tTup_tup, pSome_some, List.getElem?_cons_zero, List.getElem?_cons_succ, tAgg_agg, tCons, tI_int, tL_sl, tNil]
      refine newAt_mk H7 fun i6 σ8 H8 => ?_
      refine ps_mk (n := 4) H8 (q := 0) rfl rfl rfl fun σ9 H9 => ?_
      simp only [bne_self_eq_false, bm_false]
      have G : Has σ9 ((i6, .row .plain [i64 p.1, .slice ca p.2.length 1, u32 ad, .slice aa an 1]) :: (i5, .row .plain [i64 225, u32 x', u32 b']) :: (i4, .row .plain [i64 0, u32 0, u32 0]) :: (i2, .row .plain pcZ) :: (i0, .row .plain [i64 225, u32 y, u32 b]) :: (new ++ L)) :=
        H9.perm (.cons _ (List.perm_append_comm_assoc [(i5, AObj.row .plain [i64 225, u32 x', u32 b']), (i4, .row .plain [i64 0, u32 0, u32 0]), (i2, .row .plain pcZ), (i0, .row .plain [i64 225, u32 y, u32 b])] new L))
      refine ls_mk G (q := 0) rfl rfl ?_
      simp only [tCons, tI_int, tL_sl, tNil]
      refine ls_mk G (q := 1) rfl rfl ?_
      simp only [tCons, tI_int, tNil]
      refine ps_mk (n := 4) G (q := 3) rfl rfl rfl fun σ10 G2 => ?_
      refine ls_mk G2 (q := 1) rfl rfl ?_
      simp only [tCons, tI_int, tNil]
      refine ⟨by first | rfl | trivial, ?_⟩
      refine ps_mk (n := 3) G2 (q := 2) rfl rfl rfl fun σ11 G3 => ?_
      refine ls_mk G3 (q := 3) rfl rfl ?_
      simp only [tCons, tI_int, tL_sl, tNil]
      refine ls_mk G3 (q := 2) rfl rfl ?_
      simp only [tCons, tI_int, tNil]
      refine hok σ11 _ p ⟨225, x', b'⟩ new (by unfold nxP; simp only [hw, hp]) (G3.sub (.cons _ (.cons _ (.cons _ (.cons _ (.cons _ (.refl _))))))) ⟨ca, ad, aa, an, rfl, hin⟩
    · obtain ⟨ca, ad, aa, an, rfl, hin⟩ := hpv
      simp only [tTup_tup, pSome_some, List.getElem?_cons_zero, List.getElem?_cons_succ, tAgg_agg, tCons, tI_int, tL_sl, tNil]
      refine newAt_mk H7 fun i6 σ8 H8 => ?_
      refine ps_mk (n := 4) H8 (q := 0) rfl rfl rfl fun σ9 H9 => ?_
      refine bm_mk (fun _ => ?_) (fun h => absurd he (by simpa using h))
      refine ls_mk H9 (q := 3) rfl rfl ?_
      simp only [tCons, tI_int, tL_nil, tNil]
      refine ps_mk (n := 4) H9 (q := 3) rfl rfl rfl fun σ10 G2 => ?_
      refine ps_mk (n := 3) G2 (q := 2) rfl rfl rfl fun σ11 G3 => ?_
      refine ls_mk G3 (q := 3) rfl rfl ?_
      simp only [tCons, tI_int, tL_sl, tL_nil, tNil]
      refine ls_mk G3 (q := 2) rfl rfl ?_
      simp only [tCons, tI_int, tNil]
      refine herr σ11 _ ⟨0, 0, 0⟩ e (by unfold nxP; simp only [hw, hp]) he (G3.sub (.cons _ (.cons _ (.cons _ (.cons _ (.cons _ (.refl _))))))) ⟨none, 0, none, 0, rfl, .inl rfl⟩
  · simp only [tTup_tup, pSome_some, List.getElem?_cons_zero, List.getElem?_cons_succ, tAgg_agg, tCons, tI_int, tNil]
    refine newAt_mk H4 fun i5 σ5 H5 => ?_
    refine ps_mk (n := 3) H5 (q := 0) rfl rfl rfl fun σ6 H6 => ?_
    refine bm_mk (fun _ => ?_) (fun h => absurd he (by simpa using h))
    refine ls_mk H6 (q := 2) rfl rfl ?_
    simp only [tCons, tI_int, tL_nil, tNil]
    refine ps_mk (n := 4) H6 (q := 2) rfl rfl rfl fun σ7 G2 => ?_
    refine ps_mk (n := 3) G2 (q := 1) rfl rfl rfl fun σ8 G3 => ?_
    refine ls_mk G3 (q := 2) rfl rfl ?_
    simp only [tCons, tI_int, tL_sl, tL_nil, tNil]
    refine ls_mk G3 (q := 1) rfl rfl ?_
    simp only [tCons, tI_int, tNil]
    refine herr σ8 _ ⟨0, 0, 0⟩ e (by unfold nxP; simp only [hw]) he (G3.sub (.cons _ (.cons _ (.cons _ (.cons _ (.refl _)))))) ⟨none, 0, none, 0, rfl, .inl rfl⟩
end
end Go.AI
end
