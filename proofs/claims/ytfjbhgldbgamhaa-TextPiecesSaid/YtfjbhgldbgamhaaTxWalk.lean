/- A packed text: from the root of its table to a leaf; a row of numbers; what a leaf tells instead of characters. -/
import Derived.Test.YtfjbhgldbgamhaaTxBytes
import Derived.Test.YtfjbhgldbgamhaaTxForm3
set_option maxRecDepth 4000
set_option linter.unusedVariables false
set_option linter.unusedSimpArgs false
namespace Go.AI
open Go.Proofs
def na (node bits b : Int) : Int := w32 (w32 (node + 1) + w32 (4 * iand .u32 (ishr .u32 bits b) 1))
def walkL (bs : List Int) : Nat → Int → Int → Int → Except Int (Int × Int × Int)
  | 0, node, x, b => match rd bs node 1 with
    | none => .error 90
    | some kd => if kd ≠ 0 then .ok (node, x, b) else .error 120
  | f + 1, node, x, b => match rd bs node 1 with
    | none => .error 90
    | some kd => if kd ≠ 0 then .ok (node, x, b) else match rd bs x 1 with
      | none => .error 90
      | some bits => match rd bs (na node bits b) 4 with
        | none => .error 90
        | some node' => walkL bs f node' (if b + 1 = 8 then w32 (x + 1) else x) (if b + 1 = 8 then 0 else b + 1)
def walkS (bs : List Int) (t x b : Int) : Except Int (Int × Int × Int) :=
  if t = 0 then .error 120 else if b > 7 then .error 120 else match rd bs (w32 (t + 8)) 4 with
    | none => .error 90
    | some node => walkL bs 256 node x b
section
variable {σ : AS} {K : Value → AS → Prop}
theorem at_tail {L : List (Nat × AObj)} {c q : Nat} {k x b : Int} {cs : List Value} {nd e : Int} (H : Has σ ((q, .row .plain cs) :: (c, .row .plain [i64 k, u32 x, u32 b]) :: L)) (hcs : cs.length = 3)
    (hK : ∀ σ', Has σ' L → K (.tuple ⟨[u32 nd, atV ⟨k, x, b⟩, i64 e]⟩) σ') :
    lds σ ⟨c, 0, none⟩ 3 fun l8 => tCons l8 fun v9 l10 => tI .i64 v9 fun n11 => tCons l10 fun v12 l13 => tI .u32 v12 fun n14 => tCons l13 fun v15 l16 => tI .u32 v15 fun n17 => tNil l16 (puts σ ⟨q, 0, none⟩ [.int .i64 n11, .int .u32 n14, .int .u32 n17] fun σ18 =>
      lds σ18 ⟨q, 0, none⟩ 3 fun l19 => tCons l19 fun v20 l21 => tI .i64 v20 fun n22 => tCons l21 fun v23 l24 => tI .u32 v23 fun n25 => tCons l24 fun v26 l27 => tI .u32 v26 fun n28 => tNil l27 (K (.tuple ⟨[.int .u32 nd, .agg ⟨[.int .i64 n22, .int .u32 n25, .int .u32 n28]⟩, .int .i64 e]⟩) σ18)) := by
  refine ls_mk H (q := 1) rfl rfl ?_
  simp only [tCons, tI_int, tNil]
  refine pl_mk (vs := [i64 k, u32 x, u32 b]) H (q := 0) rfl rfl hcs fun σ1 H1 => ?_
  simp only [tCons, tI_int, tNil]
  exact hK σ1 (H1.sub (.cons _ (.cons _ (.refl _))))
def wkI (bs : List Int) (a : Option Addr) (W : Except Int (Int × Int × Int)) (k : Int) (c q : Nat) (L : List (Nat × AObj)) (s : Nat × Int × Int × Int × Int) (r : Regs) (σ : AS) : Prop :=
  s.1 ≤ 257 ∧ (0 ≤ s.2.1 ∧ s.2.1 ≤ 4294967295) ∧ (0 ≤ s.2.2.2.1 ∧ s.2.2.2.1 ≤ 4294967295) ∧ (0 ≤ s.2.2.2.2 ∧ s.2.2.2.2 ≤ 7) ∧
    r = [(0, some (.slice a bs.length 1)), (5, some (ptr c)), (7, some (ptr q)), (9, some (u32 s.2.1)), (10, some (i64 s.2.2.1)), (11, some (i64 s.1))] ∧
    Has σ ((q, .row .plain [i64 0, u32 0, u32 0]) :: (c, .row .plain [i64 k, u32 s.2.2.2.1, u32 s.2.2.2.2]) :: L) ∧
    ((s.2.2.1 = 0 ∧ s.1 ≤ 256 ∧ W = walkL bs (256 - s.1) s.2.1 s.2.2.2.1 s.2.2.2.2) ∨ (s.2.2.1 = 90 ∧ W = .error 90))
theorem walkL_none {bs : List Int} {f : Nat} {node x b : Int} (h : rd bs node 1 = none) : walkL bs f node x b = .error 90 := by
  cases f <;> simp only [walkL, h]
theorem walkL_leaf {bs : List Int} {f : Nat} {node x b kd : Int} (h : rd bs node 1 = some kd) (hk : kd ≠ 0) : walkL bs f node x b = .ok (node, x, b) := by
  cases f <;> simp only [walkL, h, if_pos hk, ne_eq, hk, not_false_eq_true, if_true]
theorem c34 {L : List (Nat × AObj)} {a : Option Addr} {bs : List Int} {t k x b : Int} (H : Has σ L) (hm : Mem a bs L) (h0 : 0 ≤ x) (h1 : x ≤ 4294967295) (hb0 : 0 ≤ b) (ht : 0 ≤ t)
    (hok : ∀ σ' nd x' b', walkS bs t x b = .ok (nd, x', b') → 0 ≤ nd → nd ≤ 4294967295 → 0 ≤ x' → x' ≤ 4294967295 → 0 ≤ b' → b' ≤ 7 → Has σ' L → K (.tuple ⟨[u32 nd, atV ⟨k, x', b'⟩, i64 0]⟩) σ')
    (herr : ∀ σ' nd at' e, walkS bs t x b = .error e → e ≠ 0 → Has σ' L → K (.tuple ⟨[u32 nd, atV at', i64 e]⟩) σ') :
    Tri Try.prog 34 [.slice a bs.length 1, u32 t, atV ⟨k, x, b⟩] σ K := tri_in (by
  rw [s34]
  refine newAt_mk H fun c σ1 H1 => newAt_mk H1 fun q σ2 H2 => ?_
  refine bm_mk (fun ht0 => ?_) (fun ht0 => ?_)
  · have ht0 : t = 0 := by simpa using ht0
    exact at_tail H2 rfl fun σ' H' => herr σ' 0 _ 120 (by unfold walkS; rw [if_pos ht0]) (by decide) H'
  have ht0 : t ≠ 0 := by simpa using ht0
  refine ldc_mk H2 1 rfl rfl (tI_mk (bm_mk (fun hb7 => ?_) (fun hb7 => ?_)))
  · have hb7 : b > 7 := of_decide_eq_true hb7
    exact at_tail H2 rfl fun σ' H' => herr σ' 0 _ 120 (by unfold walkS; rw [if_neg ht0, if_pos hb7]) (by decide) H'
  have hb7 : ¬ b > 7 := of_decide_eq_false hb7
  have hm2 : ∀ {M : List (Nat × AObj)}, (∀ p ∈ L, p ∈ M) → Mem a bs M := fun h => hm.mono h
  have hw := w32_in (t + 8)
  have start : ∀ node e, (e = 0 ∧ walkS bs t x b = walkL bs 256 node x b ∧ 0 ≤ node ∧ node ≤ 4294967295) ∨ (e = 90 ∧ node = 0 ∧ walkS bs t x b = .error 90) →
      ALoop (fl Try.prog hintsS (Tri Try.prog) 34 [true, true, true, false, true, false] [] K) [(0, some (.slice a bs.length 1)), (5, some (ptr c)), (7, some (ptr q)), (9, some (u32 node)), (10, some (i64 e)), (11, some (i64 0))] σ2 := by
    intro node e he
    refine aloop (wkI bs a (walkS bs t x b) k c q L) (fun s => 300 - s.1) ?_ (a := (0, node, e, x, b)) ⟨by simp, ?_, ⟨h0, h1⟩, ⟨hb0, by simp only; omega⟩, rfl, H2, ?_⟩
    · rintro ⟨kk, node, e, y, d⟩ r σ3 X hX ⟨hkk, hnd, hx, hbb, rfl, H3, hW⟩
      simp only at hkk hnd hx hbb H3 hW
      rw [s34l]
      refine bm_mk (fun he0 => ?_) (fun he0 => ?_)
      · have he0 : e = 0 := by simpa using he0
        subst he0
        obtain ⟨_, hk2, hW⟩ := hW.resolve_right (fun h => absurd h.1 (by decide))
        refine c33 (n := 1) H3 (hm2 fun p h => by simp [h]) (.inl rfl) hnd.1 hnd.2 (fun kd hkd v0 v1 => ?_) (fun hkd => ?_)
        · simp only [tTup_tup, pSome_some, tI_int, List.getElem?_cons_zero, List.getElem?_cons_succ, bne_self_eq_false, bm_false]
          refine bm_mk (fun hk0 => ?_) (fun hk0 => ?_)
          · have hk0 : kd ≠ 0 := by simpa using hk0
            exact at_tail H3 rfl fun σ' H' => hok σ' node y d (by rw [hW]; exact walkL_leaf hkd hk0) hnd.1 hnd.2 hx.1 hx.2 hbb.1 hbb.2 H'
          have hk0 : kd = 0 := by simpa using hk0
          subst hk0
          refine bm_mk (fun h256 => ?_) (fun h256 => ?_)
          · have h256 : kk = 256 := by have : (kk : Int) = 256 := by simpa using h256
                                       omega
            subst h256
            exact at_tail H3 rfl fun σ' H' => herr σ' 0 _ 120 (by rw [hW]; simp [walkL, hkd]) (by decide) H'
          have h256 : kk ≠ 256 := by intro e; subst e; simp at h256
          obtain ⟨f, hf⟩ : ∃ f, 256 - kk = f + 1 := ⟨255 - kk, by omega⟩
          rw [hf] at hW
          simp only [walkL, hkd, ne_eq, not_true_eq_false, if_false] at hW
          refine ldc_mk H3 1 rfl rfl (tI_mk ?_)
          refine c33 (n := 1) H3 (hm2 fun p h => by simp [h]) (.inl rfl) hx.1 hx.2 (fun bits hbits v2 v3 => ?_) (fun hbits => ?_)
          · simp only [tTup_tup, pSome_some, tI_int, List.getElem?_cons_zero, List.getElem?_cons_succ, bne_self_eq_false, bm_false]
            refine ldc_mk H3 1 rfl rfl (tI_mk (req_mk hbb.1 ?_))
            simp only [hbits] at hW
            have hna : 0 ≤ na node bits d ∧ na node bits d ≤ 4294967295 := w32_in _
            have next : ∀ node' e', (e' = 0 ∧ walkS bs t x b = walkL bs f node' (if d + 1 = 8 then w32 (y + 1) else y) (if d + 1 = 8 then 0 else d + 1) ∧ 0 ≤ node' ∧ node' ≤ 4294967295) ∨ (e' = 90 ∧ node' = 0 ∧ walkS bs t x b = .error 90) →
                ldc σ3 ⟨c, 0 + 2, none⟩ fun v112 => tI .u32 v112 fun n113 => put1 σ3 ⟨c, 0 + 2, none⟩ (.int .u32 (w32 (n113 + 1))) fun σ114 => ldc σ114 ⟨c, 0 + 2, none⟩ fun v115 => tI .u32 v115 fun n116 =>
                  bmatch (n116 == 8) (put1 σ114 ⟨c, 0 + 2, none⟩ (.int .u32 0) fun σ117 => ldc σ117 ⟨c, 0 + 1, none⟩ fun v118 => tI .u32 v118 fun n119 => put1 σ117 ⟨c, 0 + 1, none⟩ (.int .u32 (w32 (n119 + 1))) fun σ120 =>
                    X [(0, some (.slice a bs.length 1)), (5, some (ptr c)), (7, some (ptr q)), (9, some (u32 node')), (10, some (i64 e')), (11, some (.int .i64 (IntKind.wrap .i64 ((kk : Int) + 1))))] σ120)
                    (X [(0, some (.slice a bs.length 1)), (5, some (ptr c)), (7, some (ptr q)), (9, some (u32 node')), (10, some (i64 e')), (11, some (.int .i64 (IntKind.wrap .i64 ((kk : Int) + 1))))] σ114) := by
              intro node' e' he'
              refine ldc_mk H3 1 rfl rfl (tI_mk ?_)
              rw [w32_eq (n := d + 1) (by omega) (by omega)]
              refine put1_mk H3 1 rfl rfl (by simp) fun σ4 H4 => ?_
              refine ldc_mk H4 1 rfl rfl (tI_mk ?_)
              rw [wrap64 (by omega) (by omega)]
              have hwx := w32_in (y + 1)
              refine bm_mk (fun h8 => ?_) (fun h8 => ?_)
              · have h8 : d + 1 = 8 := by simpa using h8
                refine put1_mk H4 1 rfl rfl (by simp) fun σ5 H5 => ?_
                refine ldc_mk H5 1 rfl rfl (tI_mk ?_)
                refine put1_mk H5 1 rfl rfl (by simp) fun σ6 H6 => ?_
                refine hX (kk + 1, node', e', w32 (y + 1), 0) _ _ (by simp only; omega) ⟨by simp only; omega, ?_, hwx, by simp, rfl, H6, ?_⟩
                · rcases he' with ⟨_, _, h⟩ | ⟨_, rfl, _⟩
                  · exact h
                  · simp
                · rcases he' with ⟨rfl, h, _⟩ | ⟨rfl, _, h⟩
                  · refine .inl ⟨rfl, by simp only; omega, ?_⟩
                    rw [h, if_pos h8, if_pos h8]
                    simp only
                    rw [show 256 - (kk + 1) = f by omega]
                  · exact .inr ⟨rfl, h⟩
              · have h8 : d + 1 ≠ 8 := by simpa using h8
                refine hX (kk + 1, node', e', y, d + 1) _ _ (by simp only; omega) ⟨by simp only; omega, ?_, hx, by simp only; omega, rfl, H4, ?_⟩
                · rcases he' with ⟨_, _, h⟩ | ⟨_, rfl, _⟩
                  · exact h
                  · simp
                · rcases he' with ⟨rfl, h, _⟩ | ⟨rfl, _, h⟩
                  · refine .inl ⟨rfl, by simp only; omega, ?_⟩
                    rw [h, if_neg h8, if_neg h8]
                    simp only
                    rw [show 256 - (kk + 1) = f by omega]
                  · exact .inr ⟨rfl, h⟩
            refine c33 (n := 4) H3 (hm2 fun p h => by simp [h]) (.inr rfl) hna.1 hna.2 (fun node' hnd' v4 v5 => ?_) (fun hnd' => ?_)
            · simp only [tTup_tup, pSome_some, tI_int, List.getElem?_cons_zero, List.getElem?_cons_succ]
              have hnd' : rd bs (na node bits d) 4 = some node' := hnd'
              simp only [hnd'] at hW
              exact next node' 0 (.inl ⟨rfl, hW, v4, v5⟩)
            · simp only [tTup_tup, pSome_some, tI_int, List.getElem?_cons_zero, List.getElem?_cons_succ]
              have hnd' : rd bs (na node bits d) 4 = none := hnd'
              simp only [hnd'] at hW
              exact next 0 90 (.inr ⟨rfl, rfl, hW⟩)
          · have e90 : ((90 : Int) != 0) = true := by decide
            simp only [tTup_tup, pSome_some, tI_int, List.getElem?_cons_zero, List.getElem?_cons_succ, e90, bm_true]
            simp only [hbits] at hW
            exact at_tail H3 rfl fun σ' H' => herr σ' node _ 90 hW (by decide) H'
        · have e90 : ((90 : Int) != 0) = true := by decide
          simp only [tTup_tup, pSome_some, tI_int, List.getElem?_cons_zero, List.getElem?_cons_succ, e90, bm_true]
          exact at_tail H3 rfl fun σ' H' => herr σ' node _ 90 (by rw [hW]; exact walkL_none hkd) (by decide) H'
      · have he0 : e ≠ 0 := by simpa using he0
        obtain ⟨rfl, hW2⟩ := hW.resolve_left (fun h => he0 h.1)
        exact at_tail H3 rfl fun σ' H' => herr σ' node _ 90 hW2 (by decide) H'
    · rcases he with ⟨_, _, h⟩ | ⟨_, rfl, _⟩
      · exact h
      · simp
    · rcases he with ⟨rfl, h, _⟩ | ⟨rfl, _, h⟩
      · exact .inl ⟨rfl, by simp, h⟩
      · exact .inr ⟨rfl, h⟩
  refine c33 (n := 4) H2 (hm2 fun p h => by simp [h]) (.inr rfl) hw.1 hw.2 (fun node hnd v0 v1 => ?_) (fun hnd => ?_)
  · simp only [tTup_tup, pSome_some, tI_int, List.getElem?_cons_zero, List.getElem?_cons_succ]
    exact start node 0 (.inl ⟨rfl, by unfold walkS; rw [if_neg ht0, if_neg hb7]; simp only [hnd], v0, v1⟩)
  · simp only [tTup_tup, pSome_some, tI_int, List.getElem?_cons_zero, List.getElem?_cons_succ]
    exact start 0 90 (.inr ⟨rfl, rfl, by unfold walkS; rw [if_neg ht0, if_neg hb7]; simp only [hnd]⟩))
end
end Go.AI
