/- A packed text: a row of numbers; what a leaf tells instead of characters. -/
import Derived.Test.YtfjbhgldbgamhaaTxWalk
set_option maxRecDepth 4000
set_option linter.unusedVariables false
set_option linter.unusedSimpArgs false
namespace Go.AI
open Go.Proofs
/-- The numbers from a place on, up to one that is 0. -/
def rowS (bs : List Int) (n : Nat) : Nat → Int → Option (List Int)
  | 0, _ => none
  | f + 1, x => match rd bs x n with
    | none => none
    | some c => if c = 0 then some [] else (rowS bs n f (w32 (x + w32 n))).map (c :: ·)
def argsS (bs : List Int) (x n : Int) : Nat → Nat → Bool
  | 0, _ => false
  | f + 1, i => if (i : Int) < n then (match rd bs (w32 (w32 (x + 9) + w32 (4 * i))) 4 with | none => false | some _ => argsS bs x n f (i + 1)) else true
def refT (bs : List Int) (x k : Int) : Bool := if k < 10 then true else match rd bs (w32 (x + 5)) 4 with
  | none => false
  | some n => argsS bs x n (bs.length + 1) 0
def refS (bs : List Int) (x k : Int) : Bool := match rd bs (w32 (x + 1)) 4 with
  | none => false
  | some ad => if Int.tmod k 2 = 1 then (match rd bs ad 4 with | none => false | some _ => refT bs x k) else refT bs x k
abbrev pcZ : List Value := [i64 0, .slice none 0 0, u32 0, .slice none 0 0]
section
variable {σ : AS} {K : Value → AS → Prop}
theorem pc_set {L : List (Nat × AObj)} {q : Nat} {cs : List Value} {pk ad e : Int} {ca aa : Option Addr} {cn ce an ae : Nat} (H : Has σ ((q, .row .plain cs) :: L)) (hcs : cs.length = 4) (hc : nilOr ca ce 1 = true) (ha : nilOr aa ae 1 = true)
    (hK : ∀ σ', Has σ' L → K (.tuple ⟨[.agg ⟨[i64 pk, .slice ca cn 1, u32 ad, .slice aa an 1]⟩, i64 e]⟩) σ') :
    puts σ ⟨q, 0, none⟩ [i64 pk, .slice ca cn ce, u32 ad, .slice aa an ae] fun σ16 => lds σ16 ⟨q, 0, none⟩ 4 fun l17 => tCons l17 fun v18 l19 => tI .i64 v18 fun n20 => tCons l19 fun v21 l22 => tL 1 v21 fun s23 => tCons l22 fun v24 l25 => tI .u32 v24 fun n26 =>
      tCons l25 fun v27 l28 => tL 1 v27 fun s29 => tNil l28 (K (.tuple ⟨[.agg ⟨[.int .i64 n20, .slice s23.a s23.n 1, .int .u32 n26, .slice s29.a s29.n 1]⟩, .int .i64 e]⟩) σ16) := by
  refine pl_mk H (q := 0) rfl rfl hcs fun σ1 H1 => ?_
  simp only [tCons, tI_int, tNil]
  refine tL_ok hc ?_
  simp only [tCons, tI_int, tNil]
  refine tL_ok ha ?_
  simp only
  exact hK σ1 (H1.sub (.cons _ (.refl _)))
theorem pc_copy {L : List (Nat × AObj)} {p q : Nat} {cs : List Value} {pk ad e : Int} {ca aa : Option Addr} {cn ce an ae : Nat} (H : Has σ ((q, .row .plain cs) :: (p, .row .plain [i64 pk, .slice ca cn ce, u32 ad, .slice aa an ae]) :: L)) (hcs : cs.length = 4) (hc : nilOr ca ce 1 = true) (ha : nilOr aa ae 1 = true)
    (hK : ∀ σ', Has σ' L → K (.tuple ⟨[.agg ⟨[i64 pk, .slice ca cn 1, u32 ad, .slice aa an 1]⟩, i64 e]⟩) σ') :
    lds σ ⟨p, 0, none⟩ 4 fun l22 => tCons l22 fun v23 l24 => tI .i64 v23 fun n25 => tCons l24 fun v26 l27 => tL 1 v26 fun s28 => tCons l27 fun v29 l30 => tI .u32 v29 fun n31 => tCons l30 fun v32 l33 => tL 1 v32 fun s34 => tNil l33
      (puts σ ⟨q, 0, none⟩ [.int .i64 n25, .slice s28.a s28.n 1, .int .u32 n31, .slice s34.a s34.n 1] fun σ16 => lds σ16 ⟨q, 0, none⟩ 4 fun l17 => tCons l17 fun v18 l19 => tI .i64 v18 fun n20 => tCons l19 fun v21 l22 => tL 1 v21 fun s23 => tCons l22 fun v24 l25 => tI .u32 v24 fun n26 =>
      tCons l25 fun v27 l28 => tL 1 v27 fun s29 => tNil l28 (K (.tuple ⟨[.agg ⟨[.int .i64 n20, .slice s23.a s23.n 1, .int .u32 n26, .slice s29.a s29.n 1]⟩, .int .i64 e]⟩) σ16)) := by
  refine ls_mk H (q := 1) rfl rfl ?_
  simp only [tCons, tI_int, tNil]
  refine tL_ok hc ?_
  simp only [tCons, tI_int, tNil]
  refine tL_ok ha ?_
  simp only
  have one : ∀ (a : Option Addr), nilOr a 1 1 = true := fun a => by cases a <;> rfl
  exact pc_set H hcs (one _) (one _) fun σ' H' => hK σ' (H'.sub (.cons _ (.refl _)))
/-- One number more behind a slice. -/
theorem push1 {L : List (Nat × AObj)} {jr : Nat} {ys : List Int} {v : Int} {c : Option Addr} {ce : Nat} {G : Sl → AS → Prop} (H : Has σ (rowL jr ys L)) (hs : AllS jr ys c ce) (hb : ys.length ≤ 1048576)
    (hG : ∀ j' σ' c', Has σ' (rowL j' (ys ++ [v]) L) → AllS j' (ys ++ [v]) c' 1 → G ⟨c', ys.length + 1⟩ σ') : newAt σ (.row .rw [u32 v]) fun i σ1 => lds σ1 ⟨i, 0, none⟩ 1 fun l => appendTo σ1 1 4 ⟨c, ys.length⟩ l 1 G := by
  refine newAt_mk H fun i σ1 H1 => ?_
  refine lds_row H1 0 rfl rfl ?_
  refine pushs_mk (ms := [v]) (rowL_swap H1) hs (by simp; omega) fun j' σ2 c' H2 hs2 => hG j' σ2 c' ((rowL_out H2).sub (.cons _ (.refl _))) hs2
def rowI (a : Option Addr) (bs : List Int) (n : Nat) (W : Option (List Int)) (p q : Nat) (L : List (Nat × AObj)) (s : List Int × Int) (r : Regs) (σ : AS) : Prop :=
  ∃ (jr : Nat) (ca : Option Addr) (ce : Nat), s.1.length ≤ bs.length ∧ (0 ≤ s.2 ∧ s.2 ≤ 4294967295) ∧ (s.1 = [] ∨ ((s.1.length : Int) ≤ s.2 ∧ s.2 ≤ bs.length)) ∧ AllS jr s.1 ca ce ∧
    r = [(0, some (.slice a bs.length 1)), (1, some (u32 s.2)), (2, some (i64 n)), (6, some (ptr q)), (8, some (ptr p))] ∧
    Has σ (rowL jr s.1 ((p, .row .plain [i64 2, .slice ca s.1.length ce, u32 0, .slice none 0 0]) :: (q, .row .plain pcZ) :: L)) ∧ W = (rowS bs n (bs.length + 1 - s.1.length) s.2).map (s.1 ++ ·)
theorem rd_in {bs : List Int} {x : Int} {n : Nat} {v : Int} (h : rd bs x n = some v) : x + n ≤ bs.length := by
  unfold rd at h
  split at h
  · rename_i hc; exact hc.2
  · cases h
theorem c43 {L : List (Nat × AObj)} {a : Option Addr} {bs : List Int} {x : Int} {n : Nat} (H : Has σ L) (hm : Mem a bs L) (hn : n = 1 ∨ n = 4) (h0 : 0 ≤ x) (h1 : x ≤ 4294967295)
    (hok : ∀ σ' v new l, rowS bs n (bs.length + 1) x = some l → Has σ' (new ++ L) → PV 2 l v new → K (.tuple ⟨[v, i64 0]⟩) σ') (herr : ∀ σ' v, rowS bs n (bs.length + 1) x = none → Has σ' L → PV 0 [] v [] → K (.tuple ⟨[v, i64 90]⟩) σ') :
    Tri Try.prog 43 [.slice a bs.length 1, u32 x, i64 n] σ K := tri_in (by
  rw [s43]
  refine newAt_mk H fun q σ1 H1 => newAt_mk H1 fun p σ2 H2 => ?_
  refine ps_mk (n := 4) H2 (q := 0) rfl rfl rfl fun σ3 H3 => ?_
  have hwn : w32 n = n := w32_eq (by omega) (by omega)
  have hbl := hm.2.1
  obtain ⟨W, hWd⟩ : ∃ W, W = rowS bs n (bs.length + 1) x := ⟨_, rfl⟩
  rw [← hWd] at hok herr
  refine aloop (rowI a bs n W p q L) (fun s => bs.length + 1 - s.1.length) ?_ (a := ([], x)) ⟨0, none, 0, by simp, ⟨h0, h1⟩, .inl rfl, AllS.none _ _, rfl, H3, by rw [hWd]; simp⟩
  rintro ⟨l, y⟩ r σ4 X hX ⟨jr, ca, ce, hll, hy, hly, hs, rfl, H4, hW⟩
  simp only at hll hy hly hs H4 hW
  obtain ⟨P, hP, hPin⟩ := hs.inU
  rw [s43l]
  have G : Has σ4 ((p, .row .plain [i64 2, .slice ca l.length ce, u32 0, .slice none 0 0]) :: (q, .row .plain pcZ) :: rowL jr l L) := rowL_front (A := [(p, .row .plain [i64 2, .slice ca l.length ce, u32 0, .slice none 0 0]), (q, .row .plain pcZ)]) H4
  have G2 : Has σ4 ((q, .row .plain pcZ) :: (p, .row .plain [i64 2, .slice ca l.length ce, u32 0, .slice none 0 0]) :: rowL jr l L) := G.perm (.swap _ _ _)
  obtain ⟨f, hf⟩ : ∃ f, bs.length + 1 - l.length = f + 1 := ⟨bs.length - l.length, by omega⟩
  rw [hf] at hW
  refine c33 (n := n) H4 (hm.mono fun z h => rowL_mem (by simp [h])) hn hy.1 hy.2 (fun v hv v0 v1 => ?_) (fun hv => ?_)
  · simp only [tTup_tup, pSome_some, tI_int, List.getElem?_cons_zero, List.getElem?_cons_succ, bne_self_eq_false, bm_false]
    simp only [rowS, hv] at hW
    refine bm_mk (fun hz => ?_) (fun hz => ?_)
    · have hz : v = 0 := by simpa using hz
      rw [if_pos hz] at hW
      refine pc_copy G2 rfl hs.1 rfl fun σ5 H5 => ?_
      rw [hP] at H5
      exact hok σ5 _ P l (by rw [hW]; simp) H5 ⟨ca, 0, none, 0, rfl, hPin⟩
    · have hz : v ≠ 0 := by simpa using hz
      rw [if_neg hz] at hW
      have hin := rd_in hv
      refine ldc_mk G 0 rfl rfl (tL_ok hs.1 ?_)
      refine push1 H4 hs (by omega) fun j' σ5 c' H5 hs' => ?_
      have G3 := rowL_front (A := [(p, .row .plain [i64 2, .slice ca l.length ce, u32 0, .slice none 0 0]), (q, .row .plain pcZ)]) H5
      refine put1_mk G3 0 rfl rfl (by simp) fun σ6 H6 => ?_
      have hx' : w32 (y + w32 n) = y + n := by rw [hwn]; exact w32_eq (by omega) (by omega)
      refine hX (l ++ [v], w32 (y + w32 n)) _ _ (by simp only [List.length_append, List.length_cons, List.length_nil]; omega) ⟨j', c', 1, ?_, w32_in _, ?_, hs', rfl, ?_, ?_⟩
      · simp only [List.length_append, List.length_cons, List.length_nil]
        rcases hly with rfl | h
        · simp only [List.length_nil]; omega
        · omega
      · right
        simp only [List.length_append, List.length_cons, List.length_nil]
        rw [hx']
        rcases hly with rfl | h
        · simp only [List.length_nil]; omega
        · omega
      · simp only [List.length_append, List.length_cons, List.length_nil]
        exact rowL_back (A := [(p, .row .plain [i64 2, .slice c' (l.length + 1) 1, u32 0, .slice none 0 0]), (q, .row .plain pcZ)]) H6
      · simp only [List.length_append, List.length_cons, List.length_nil]
        rw [hW, show bs.length + 1 - (l.length + (0 + 1)) = f by omega]
        cases rowS bs n f (w32 (y + w32 n)) <;> simp
  · have e90 : ((90 : Int) != 0) = true := by decide
    simp only [tTup_tup, pSome_some, tI_int, List.getElem?_cons_zero, List.getElem?_cons_succ, e90, bm_true]
    simp only [rowS, hv] at hW
    refine pc_set G2 rfl rfl rfl fun σ5 H5 => ?_
    rw [hP] at H5
    exact herr σ5 _ (by rw [hW]; rfl) (H5.sub (.cons _ (List.sublist_append_right P L))) ⟨none, 0, none, 0, rfl, .inl rfl⟩)
def argI (a : Option Addr) (bs : List Int) (x n : Int) (W : Bool) (p q : Nat) (L : List (Nat × AObj)) (s : List Int × Int) (r : Regs) (σ : AS) : Prop :=
  ∃ (jr : Nat) (ad : Int) (aa : Option Addr) (ae : Nat), s.1.length ≤ bs.length + 1 ∧ AllS jr s.1 aa ae ∧
    r = [(0, some (.slice a bs.length 1)), (1, some (u32 x)), (6, some (ptr q)), (9, some (i64 s.2)), (10, some (ptr p)), (11, some (u32 n)), (12, some (u32 s.1.length))] ∧
    Has σ (rowL jr s.1 ((p, .row .plain [i64 3, .slice none 0 0, u32 ad, .slice aa s.1.length ae]) :: (q, .row .plain pcZ) :: L)) ∧
    ((s.2 = 0 ∧ s.1.length ≤ bs.length ∧ W = argsS bs x n (bs.length + 1 - s.1.length) s.1.length) ∨ (s.2 = 90 ∧ W = false))
theorem c44 {L : List (Nat × AObj)} {a : Option Addr} {bs : List Int} {x k : Int} (H : Has σ L) (hm : Mem a bs L) (h0 : 0 ≤ x) (hxl : x ≤ bs.length)
    (hok : ∀ σ' v new, refS bs x k = true → Has σ' (new ++ L) → PV 3 [] v new → K (.tuple ⟨[v, i64 0]⟩) σ') (herr : ∀ σ' v, refS bs x k = false → Has σ' L → PV 0 [] v [] → K (.tuple ⟨[v, i64 90]⟩) σ') :
    Tri Try.prog 44 [.slice a bs.length 1, u32 x, u32 k] σ K := tri_in (by
  rw [s44]
  have hbl := hm.2.1
  have e90 : ((90 : Int) != 0) = true := by decide
  have e90' : ((90 : Int) == 0) = false := by decide
  have hm2 : ∀ {M : List (Nat × AObj)}, (∀ p ∈ L, p ∈ M) → Mem a bs M := fun h => hm.mono h
  refine newAt_mk H fun q σ1 H1 => ?_
  have w1 := w32_in (x + 1)
  have w5 := w32_in (x + 5)
  -- behind the address
  have tail : ∀ (ad : Int) (σ2 : AS), Has σ2 ((q, .row .plain pcZ) :: L) → refS bs x k = refT bs x k →
      newAt σ2 (.row .plain pcZ) fun i32 σ33 => puts σ33 ⟨i32, 0, none⟩ [i64 3, .slice none 0 0, .int .u32 ad, .slice none 0 0] fun σ34 => bmatch (decide (k < 10))
        (lds σ34 ⟨i32, 0, none⟩ 4 fun l22 => tCons l22 fun v23 l24 => tI .i64 v23 fun n25 => tCons l24 fun v26 l27 => tL 1 v26 fun s28 => tCons l27 fun v29 l30 => tI .u32 v29 fun n31 => tCons l30 fun v32 l33 => tL 1 v32 fun s34 => tNil l33
          (puts σ34 ⟨q, 0, none⟩ [.int .i64 n25, .slice s28.a s28.n 1, .int .u32 n31, .slice s34.a s34.n 1] fun σ16 => lds σ16 ⟨q, 0, none⟩ 4 fun l17 => tCons l17 fun v18 l19 => tI .i64 v18 fun n20 => tCons l19 fun v21 l22 => tL 1 v21 fun s23 => tCons l22 fun v24 l25 => tI .u32 v24 fun n26 =>
            tCons l25 fun v27 l28 => tL 1 v27 fun s29 => tNil l28 (K (.tuple ⟨[.agg ⟨[.int .i64 n20, .slice s23.a s23.n 1, .int .u32 n26, .slice s29.a s29.n 1]⟩, i64 0]⟩) σ16)))
        (Tri Try.prog 33 [.slice a bs.length 1, .int .u32 (w32 (x + 5)), i64 4] σ34 fun v62 σ63 => tTup v62 fun l64 => pSome l64[(0 : Nat)]? fun u65 => tI .u32 u65 fun n66 => tTup v62 fun l67 => pSome l67[(1 : Nat)]? fun u68 => tI .i64 u68 fun n69 =>
          ALoop (fl Try.prog hintsS (Tri Try.prog) 44 [true, true, true, true, true, true, true, false, true, false] [] K) [(0, some (.slice a bs.length 1)), (1, some (u32 x)), (6, some (ptr q)), (9, some (.int .i64 n69)), (10, some (ptr i32)), (11, some (.int .u32 n66)), (12, some (u32 0))] σ63) := by
    intro ad σ2 H2 hR
    refine newAt_mk H2 fun p σ3 H3 => ?_
    refine ps_mk (n := 4) H3 (q := 0) rfl rfl rfl fun σ4 H4 => ?_
    refine bm_mk (fun h10 => ?_) (fun h10 => ?_)
    · have h10 : k < 10 := of_decide_eq_true h10
      have G : Has σ4 ((q, .row .plain pcZ) :: (p, .row .plain [i64 3, .slice none 0 0, u32 ad, .slice none 0 0]) :: L) := H4.perm (.swap _ _ _)
      refine pc_copy G rfl rfl rfl fun σ5 H5 => ?_
      exact hok σ5 _ [] (by rw [hR]; unfold refT; rw [if_pos h10]) H5 ⟨none, ad, none, 0, rfl, .inl rfl⟩
    · have h10 : ¬ k < 10 := of_decide_eq_false h10
      have start : ∀ n e, (e = 0 ∧ refS bs x k = argsS bs x n (bs.length + 1) 0) ∨ (e = 90 ∧ refS bs x k = false) →
          ALoop (fl Try.prog hintsS (Tri Try.prog) 44 [true, true, true, true, true, true, true, false, true, false] [] K) [(0, some (.slice a bs.length 1)), (1, some (u32 x)), (6, some (ptr q)), (9, some (i64 e)), (10, some (ptr p)), (11, some (u32 n)), (12, some (u32 0))] σ4 := by
        intro n e he
        refine aloop (argI a bs x n (refS bs x k) p q L) (fun s => bs.length + 2 - s.1.length) ?_ (a := ([], e)) ⟨0, ad, none, 0, by simp, AllS.none _ _, rfl, H4, ?_⟩
        · rintro ⟨l, e⟩ r σ5 X hX ⟨jr, ad, aa, ae, hll, hs, rfl, H5, hW⟩
          simp only at hll hs H5 hW
          obtain ⟨P, hP, hPin⟩ := hs.inU
          have G : Has σ5 ((p, .row .plain [i64 3, .slice none 0 0, u32 ad, .slice aa l.length ae]) :: (q, .row .plain pcZ) :: rowL jr l L) := rowL_front (A := [(p, .row .plain [i64 3, .slice none 0 0, u32 ad, .slice aa l.length ae]), (q, .row .plain pcZ)]) H5
          have G2 : Has σ5 ((q, .row .plain pcZ) :: (p, .row .plain [i64 3, .slice none 0 0, u32 ad, .slice aa l.length ae]) :: rowL jr l L) := G.perm (.swap _ _ _)
          have good : refS bs x k = true → ∀ σ6, Has σ6 (rowL jr l L) → K (.tuple ⟨[.agg ⟨[i64 3, .slice none 0 1, u32 ad, .slice aa l.length 1]⟩, i64 0]⟩) σ6 := by
            intro hR2 σ6 H6
            rw [hP] at H6
            exact hok σ6 _ P hR2 H6 ⟨none, ad, aa, l.length, rfl, .inl rfl⟩
          have bad : refS bs x k = false → ∀ σ6, Has σ6 ((p, .row .plain [i64 3, .slice none 0 0, u32 ad, .slice aa l.length ae]) :: rowL jr l L) → K (.tuple ⟨[.agg ⟨[i64 0, .slice none 0 1, u32 0, .slice none 0 1]⟩, i64 90]⟩) σ6 := by
            intro hR2 σ6 H6
            rw [hP] at H6
            exact herr σ6 _ hR2 (H6.sub (.cons _ (List.sublist_append_right P L))) ⟨none, 0, none, 0, rfl, .inl rfl⟩
          rw [s44l]
          refine bm_mk (fun hi' => ?_) (fun hi' => ?_)
          · have hi : (l.length : Int) < n := of_decide_eq_true hi'
            refine bm_mk (fun he0 => ?_) (fun he0 => ?_)
            · have he0 : e = 0 := by simpa using he0
              subst he0
              obtain ⟨_, hl2, hW⟩ := hW.resolve_right (fun h => absurd h.1 (by decide))
              obtain ⟨f, hf⟩ : ∃ f, bs.length + 1 - l.length = f + 1 := ⟨bs.length - l.length, by omega⟩
              rw [hf] at hW
              simp only [argsS, if_pos hi] at hW
              have w9 := w32_in (w32 (x + 9) + w32 (4 * (l.length : Int)))
              have e9 : w32 (w32 (x + 9) + w32 (4 * (l.length : Int))) = x + 9 + 4 * l.length := by
                rw [w32_eq (n := x + 9) (by omega) (by omega), w32_eq (n := 4 * (l.length : Int)) (by omega) (by omega), w32_eq (by omega) (by omega)]
              have go : ∀ v e', (e' = 0 ∧ l.length + 1 ≤ bs.length ∧ refS bs x k = argsS bs x n f (l.length + 1)) ∨ (e' = 90 ∧ refS bs x k = false) →
                  ldc σ5 ⟨p, 0 + 3, none⟩ fun v8 => tL 1 v8 fun s9 => newAt σ5 (.row .rw [.int .u32 v]) fun i10 σ11 => lds σ11 ⟨i10, 0, none⟩ 1 fun l12 => appendTo σ11 1 4 ⟨s9.a, s9.n⟩ l12 1 fun s13 σ14 => put1 σ14 ⟨p, 0 + 3, none⟩ (.slice s13.a s13.n 1) fun σ15 =>
                    X [(0, some (.slice a bs.length 1)), (1, some (u32 x)), (6, some (ptr q)), (9, some (.int .i64 e')), (10, some (ptr p)), (11, some (u32 n)), (12, some (.int .u32 (w32 ((l.length : Int) + 1))))] σ15 := by
                intro v e' he'
                refine ldc_mk G 0 rfl rfl (tL_ok hs.1 ?_)
                refine push1 H5 hs (by omega) fun j' σ6 c' H6 hs' => ?_
                have G3 := rowL_front (A := [(p, .row .plain [i64 3, .slice none 0 0, u32 ad, .slice aa l.length ae]), (q, .row .plain pcZ)]) H6
                refine put1_mk G3 0 rfl rfl (by simp) fun σ7 H7 => ?_
                rw [w32_eq (n := (l.length : Int) + 1) (by omega) (by omega)]
                refine hX (l ++ [v], e') _ _ (by simp only [List.length_append, List.length_cons, List.length_nil]; omega) ⟨j', ad, c', 1, by simp only [List.length_append, List.length_cons, List.length_nil]; omega, hs', by simp, ?_, ?_⟩
                · simp only [List.length_append, List.length_cons, List.length_nil]
                  exact rowL_back (A := [(p, .row .plain [i64 3, .slice none 0 0, u32 ad, .slice c' (l.length + 1) 1]), (q, .row .plain pcZ)]) H7
                · simp only [List.length_append, List.length_cons, List.length_nil]
                  rcases he' with ⟨rfl, h2, h⟩ | h
                  · refine .inl ⟨rfl, by omega, ?_⟩
                    rw [h, show bs.length + 1 - (l.length + (0 + 1)) = f by omega]
                  · exact .inr h
              refine c33 (n := 4) H5 (hm2 fun z h => rowL_mem (by simp [h])) (.inr rfl) w9.1 w9.2 (fun v hv v0 v1 => ?_) (fun hv => ?_)
              · simp only [tTup_tup, pSome_some, tI_int, List.getElem?_cons_zero, List.getElem?_cons_succ]
                have hv : rd bs (w32 (w32 (x + 9) + w32 (4 * (l.length : Int)))) 4 = some v := hv
                have hin := rd_in hv
                rw [e9] at hin
                simp only [hv] at hW
                exact go v 0 (.inl ⟨rfl, by omega, hW⟩)
              · simp only [tTup_tup, pSome_some, tI_int, List.getElem?_cons_zero, List.getElem?_cons_succ]
                have hv : rd bs (w32 (w32 (x + 9) + w32 (4 * (l.length : Int)))) 4 = none := hv
                simp only [hv] at hW
                exact go 0 90 (.inr ⟨rfl, hW⟩)
            · have he0 : e ≠ 0 := by simpa using he0
              obtain ⟨rfl, hW2⟩ := hW.resolve_left (fun h => he0 h.1)
              refine bm_mk (fun _ => ?_) (fun h => by simp at h)
              exact pc_set G2 rfl rfl rfl fun σ6 H6 => bad hW2 σ6 H6
          · have hi : ¬ (l.length : Int) < n := of_decide_eq_false hi'
            refine bm_mk (fun he0 => ?_) (fun he0 => ?_)
            · have he0 : e ≠ 0 := by simpa using he0
              obtain ⟨rfl, hW2⟩ := hW.resolve_left (fun h => he0 h.1)
              exact pc_set G2 rfl rfl rfl fun σ6 H6 => bad hW2 σ6 H6
            · have he0 : e = 0 := by simpa using he0
              subst he0
              obtain ⟨_, hl2, hW⟩ := hW.resolve_right (fun h => absurd h.1 (by decide))
              obtain ⟨f, hf⟩ : ∃ f, bs.length + 1 - l.length = f + 1 := ⟨bs.length - l.length, by omega⟩
              rw [hf] at hW
              simp only [argsS, if_neg hi] at hW
              exact pc_copy G2 rfl rfl hs.1 fun σ6 H6 => good hW σ6 H6
        · rcases he with ⟨rfl, h⟩ | ⟨rfl, h⟩
          · exact .inl ⟨rfl, by simp, by simpa using h⟩
          · exact .inr ⟨rfl, h⟩
      refine c33 (n := 4) H4 (hm2 fun z h => by simp [h]) (.inr rfl) w5.1 w5.2 (fun n hn v0 v1 => ?_) (fun hn => ?_)
      · simp only [tTup_tup, pSome_some, tI_int, List.getElem?_cons_zero, List.getElem?_cons_succ]
        exact start n 0 (.inl ⟨rfl, by rw [hR]; unfold refT; rw [if_neg h10]; simp only [hn]⟩)
      · simp only [tTup_tup, pSome_some, tI_int, List.getElem?_cons_zero, List.getElem?_cons_succ]
        exact start 0 90 (.inr ⟨rfl, by rw [hR]; unfold refT; rw [if_neg h10]; simp only [hn]⟩)
  have bad : ∀ σ2, Has σ2 ((q, .row .plain pcZ) :: L) → refS bs x k = false → ∀ σ6, Has σ6 L → K (.tuple ⟨[.agg ⟨[i64 0, .slice none 0 1, u32 0, .slice none 0 1]⟩, i64 90]⟩) σ6 := fun σ2 H2 hR σ6 H6 => herr σ6 _ hR H6 ⟨none, 0, none, 0, rfl, .inl rfl⟩
  refine c33 (n := 4) H1 (hm2 fun z h => by simp [h]) (.inr rfl) w1.1 w1.2 (fun ad had v0 v1 => ?_) (fun had => ?_)
  · simp only [tTup_tup, pSome_some, tI_int, List.getElem?_cons_zero, List.getElem?_cons_succ, beq_self_eq_true, bm_true]
    refine bm_mk (fun hodd => ?_) (fun hodd => ?_)
    · have hodd : Int.tmod k 2 = 1 := by simpa using hodd
      refine c33 (n := 4) H1 (hm2 fun z h => by simp [h]) (.inr rfl) v0 v1 (fun ad2 had2 v2 v3 => ?_) (fun had2 => ?_)
      · simp only [tTup_tup, pSome_some, tI_int, List.getElem?_cons_zero, List.getElem?_cons_succ, bne_self_eq_false, bm_false]
        exact tail ad2 σ1 H1 (by unfold refS; simp only [had, if_pos hodd, had2])
      · simp only [tTup_tup, pSome_some, tI_int, List.getElem?_cons_zero, List.getElem?_cons_succ, e90, bm_true]
        exact pc_set H1 rfl rfl rfl fun σ6 H6 => bad σ1 H1 (by unfold refS; simp only [had, if_pos hodd, had2]) σ6 H6
    · have hodd : ¬ Int.tmod k 2 = 1 := by simpa using hodd
      simp only [bne_self_eq_false, bm_false]
      exact tail ad σ1 H1 (by unfold refS; simp only [had, if_neg hodd])
  · simp only [tTup_tup, pSome_some, tI_int, List.getElem?_cons_zero, List.getElem?_cons_succ, e90, e90', bm_true, bm_false]
    exact pc_set H1 rfl rfl rfl fun σ6 H6 => bad σ1 H1 (by unfold refS; simp only [had]) σ6 H6)
end
end Go.AI
