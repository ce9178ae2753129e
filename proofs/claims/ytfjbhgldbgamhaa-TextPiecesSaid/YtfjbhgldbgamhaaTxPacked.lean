/- A packed text: a leaf; the next piece. -/
import Derived.Test.YtfjbhgldbgamhaaTxLeaf
set_option maxRecDepth 4000
set_option linter.unusedVariables false
set_option linter.unusedSimpArgs false
namespace Go.AI
open Go.Proofs
def oneS (bs : List Int) (x : Int) (n : Nat) : Except Int (Int × List Int) := match rd bs (w32 (x + 1)) n with | none => .error 90 | some c => .ok (2, [c])
def rowE (bs : List Int) (x : Int) (n : Nat) : Except Int (Int × List Int) := match rowS bs n (bs.length + 1) (w32 (x + 1)) with | none => .error 90 | some l => .ok (2, l)
def refE (bs : List Int) (x k : Int) : Except Int (Int × List Int) := match refS bs x k with | true => .ok (3, []) | false => .error 90
def leafK (bs : List Int) (x k : Int) : Except Int (Int × List Int) :=
  if k = 1 then .ok (1, []) else if k = 2 then oneS bs x 1 else if k = 4 then oneS bs x 4 else if k = 3 then rowE bs x 1 else if k = 5 then rowE bs x 4
  else if k = 8 ∨ k = 9 ∨ k = 10 ∨ k = 11 then refE bs x k else .error 120
def leafS (bs : List Int) (x : Int) : Except Int (Int × List Int) := match rd bs x 1 with
  | none => .error 90
  | some k => leafK bs x k
abbrev SetK (K : Value → AS → Prop) (q : Nat) (vs : List Value) (e : Value) (σ : AS) : Prop :=
  puts σ ⟨q, 0, none⟩ vs fun σ16 => lds σ16 ⟨q, 0, none⟩ 4 fun l17 => tCons l17 fun v18 l19 => tI .i64 v18 fun n20 => tCons l19 fun v21 l22 => tL 1 v21 fun s23 => tCons l22 fun v24 l25 => tI .u32 v24 fun n26 =>
      tCons l25 fun v27 l28 => tL 1 v27 fun s29 => tNil l28 (K (.tuple ⟨[.agg ⟨[.int .i64 n20, .slice s23.a s23.n 1, .int .u32 n26, .slice s29.a s29.n 1]⟩, e]⟩) σ16)
abbrev PassK (K : Value → AS → Prop) (q : Nat) (v : Value) (σ : AS) : Prop :=
  tTup v fun l116 => pSome l116[(0 : Nat)]? fun u117 => tAgg u117 fun l118 => tCons l118 fun v119 l120 => tI .i64 v119 fun n121 => tCons l120 fun v122 l123 => tL 1 v122 fun s124 => tCons l123 fun v125 l126 => tI .u32 v125 fun n127 => tCons l126 fun v128 l129 => tL 1 v128 fun s130 => tNil l129
    (tTup v fun l131 => pSome l131[(1 : Nat)]? fun u132 => tI .i64 u132 fun n133 => SetK K q [.int .i64 n121, .slice s124.a s124.n 1, .int .u32 n127, .slice s130.a s130.n 1] (.int .i64 n133) σ)
section
variable {σ : AS} {K : Value → AS → Prop} {L : List (Nat × AObj)} {a : Option Addr} {bs : List Int} {x : Int}
theorem n1 (a : Option Addr) : nilOr a 1 1 = true := by cases a <;> rfl
theorem leaf_one {q n : Nat} (hn : n = 1 ∨ n = 4) (H : Has σ ((q, .row .plain pcZ) :: L)) (hm : Mem a bs L)
    (hok : ∀ σ' v new p, oneS bs x n = .ok p → Has σ' (new ++ L) → PV p.1 p.2 v new → K (.tuple ⟨[v, i64 0]⟩) σ') (herr : ∀ σ' v e, oneS bs x n = .error e → e ≠ 0 → Has σ' L → PV 0 [] v [] → K (.tuple ⟨[v, i64 e]⟩) σ') :
    Tri Try.prog 33 [.slice a bs.length 1, .int .u32 (IntKind.wrap .u32 (x + 1)), .int .i64 n] σ fun v40 σ39 => tTup v40 fun l41 => pSome l41[(0 : Nat)]? fun u => tI .u32 u fun n42 => tTup v40 fun l43 => pSome l43[(1 : Nat)]? fun u44 => tI .i64 u44 fun n45 =>
      bmatch (n45 != 0) (SetK K q pcZ (.int .i64 n45) σ39) (newAt σ39 (.row .rw [.int .u32 n42]) fun i60 σ61 => SetK K q [i64 2, .slice (some ⟨i60, 0, none⟩) 1 1, u32 0, .slice none 0 0] (i64 0) σ61) := by
  have hw := w32_in (x + 1)
  refine c33 (n := n) H (hm.mono fun z h => by simp [h]) hn hw.1 hw.2 (fun v hv v0 v1 => ?_) (fun hv => ?_)
  · simp only [tTup_tup, pSome_some, tI_int, List.getElem?_cons_zero, List.getElem?_cons_succ, bne_self_eq_false, bm_false]
    refine newAt_mk H fun i σ1 H1 => ?_
    have H2 : Has σ1 ((q, .row .plain pcZ) :: ([(i, .row .rw [u32 v])] ++ L)) := H1.perm (.swap _ _ _)
    refine pc_set H2 rfl rfl rfl fun σ2 H3 => hok σ2 _ [(i, .row .rw [u32 v])] (2, [v]) (by unfold oneS; simp only [hv]) H3 ⟨_, 0, none, 0, rfl, .inr ⟨i, .rw, rfl, by simp⟩⟩
  · have e90 : ((90 : Int) != 0) = true := by decide
    simp only [tTup_tup, pSome_some, tI_int, List.getElem?_cons_zero, List.getElem?_cons_succ, e90, bm_true]
    exact pc_set H rfl rfl rfl fun σ2 H3 => herr σ2 _ 90 (by unfold oneS; simp only [hv]) (by decide) H3 ⟨none, 0, none, 0, rfl, .inl rfl⟩
theorem passK {q : Nat} {k e : Int} {cs : List Int} {v : Value} {new : List (Nat × AObj)} (H : Has σ (new ++ ((q, .row .plain pcZ) :: L))) (hp : PV k cs v new) (hK : ∀ σ' v', Has σ' (new ++ L) → PV k cs v' new → K (.tuple ⟨[v', i64 e]⟩) σ') : PassK K q (.tuple ⟨[v, i64 e]⟩) σ := by
  obtain ⟨ca, ad, aa, an, rfl, hin⟩ := hp
  have H2 : Has σ ((q, .row .plain pcZ) :: (new ++ L)) := H.perm List.perm_middle.symm
  simp only [PassK, tTup_tup, pSome_some, List.getElem?_cons_zero, List.getElem?_cons_succ, tAgg_agg, tCons, tI_int, tL_sl, tNil]
  exact pc_set H2 rfl (n1 _) (n1 _) fun σ2 H3 => hK σ2 _ H3 ⟨ca, ad, aa, an, rfl, hin⟩
theorem leaf_row {q n : Nat} (hn : n = 1 ∨ n = 4) (H : Has σ ((q, .row .plain pcZ) :: L)) (hm : Mem a bs L)
    (hok : ∀ σ' v new p, rowE bs x n = .ok p → Has σ' (new ++ L) → PV p.1 p.2 v new → K (.tuple ⟨[v, i64 0]⟩) σ') (herr : ∀ σ' v e, rowE bs x n = .error e → e ≠ 0 → Has σ' L → PV 0 [] v [] → K (.tuple ⟨[v, i64 e]⟩) σ') :
    Tri Try.prog 43 [.slice a bs.length 1, .int .u32 (IntKind.wrap .u32 (x + 1)), .int .i64 n] σ (PassK K q) := by
  have hw := w32_in (x + 1)
  refine c43 (n := n) H (hm.mono fun z h => by simp [h]) hn hw.1 hw.2 (fun σ1 v new l hl H1 hp => ?_) (fun σ1 v hl H1 hp => ?_)
  · have hl : rowS bs n (bs.length + 1) (w32 (x + 1)) = some l := hl
    exact passK H1 hp fun σ2 v' H2 hp2 => hok σ2 v' new (2, l) (by unfold rowE; simp only [hl]) H2 hp2
  · have hl : rowS bs n (bs.length + 1) (w32 (x + 1)) = none := hl
    exact passK (new := []) H1 hp fun σ2 v' H2 hp2 => herr σ2 v' 90 (by unfold rowE; simp only [hl]) (by decide) H2 hp2
theorem leaf_ref {q : Nat} {k : Int} (H : Has σ ((q, .row .plain pcZ) :: L)) (hm : Mem a bs L) (h0 : 0 ≤ x) (h1 : x ≤ bs.length)
    (hok : ∀ σ' v new p, refE bs x k = .ok p → Has σ' (new ++ L) → PV p.1 p.2 v new → K (.tuple ⟨[v, i64 0]⟩) σ') (herr : ∀ σ' v e, refE bs x k = .error e → e ≠ 0 → Has σ' L → PV 0 [] v [] → K (.tuple ⟨[v, i64 e]⟩) σ') :
    Tri Try.prog 44 [.slice a bs.length 1, .int .u32 x, .int .u32 k] σ (PassK K q) := by
  refine c44 H (hm.mono fun z h => by simp [h]) h0 h1 (fun σ1 v new hl H1 hp => ?_) (fun σ1 v hl H1 hp => ?_)
  · exact passK H1 hp fun σ2 v' H2 hp2 => hok σ2 v' new (3, []) (by unfold refE; simp only [hl]) H2 hp2
  · exact passK (new := []) H1 hp fun σ2 v' H2 hp2 => herr σ2 v' 90 (by unfold refE; simp only [hl]) (by decide) H2 hp2
theorem c35 (H : Has σ L) (hm : Mem a bs L) (h0 : 0 ≤ x) (h1 : x ≤ 4294967295)
    (hok : ∀ σ' v new p, leafS bs x = .ok p → Has σ' (new ++ L) → PV p.1 p.2 v new → K (.tuple ⟨[v, i64 0]⟩) σ') (herr : ∀ σ' v e, leafS bs x = .error e → e ≠ 0 → Has σ' L → PV 0 [] v [] → K (.tuple ⟨[v, i64 e]⟩) σ') :
    Tri Try.prog 35 [.slice a bs.length 1, u32 x] σ K := tri_in (by
  rw [s35]
  refine newAt_mk H fun q σ1 H1 => ?_
  refine c33 (n := 1) H1 (hm.mono fun z h => by simp [h]) (.inl rfl) h0 h1 (fun k hk v0 v1 => ?_) (fun hk => ?_)
  · simp only [tTup_tup, pSome_some, tI_int, List.getElem?_cons_zero, List.getElem?_cons_succ, bne_self_eq_false, bm_false]
    have hl : leafS bs x = leafK bs x k := by unfold leafS; simp only [hk]
    rw [hl] at hok herr
    have hxl : x ≤ bs.length := by have := rd_in hk; omega
    by_cases c1 : k = 1
    · subst c1
      repeat (first | refine bm_mk (fun h => absurd h (by decide)) (fun _ => ?_) | refine bm_mk (fun _ => ?_) (fun h => absurd h (by decide)))
      exact pc_set H1 rfl rfl rfl fun σ2 H3 => hok σ2 _ [] (1, []) rfl H3 ⟨none, 0, none, 0, rfl, .inl rfl⟩
    by_cases c2 : k = 2
    · subst c2
      repeat (first | refine bm_mk (fun h => absurd h (by decide)) (fun _ => ?_) | refine bm_mk (fun _ => ?_) (fun h => absurd h (by decide)))
      exact leaf_one (n := 1) (.inl rfl) H1 hm hok herr
    by_cases c4 : k = 4
    · subst c4
      repeat (first | refine bm_mk (fun h => absurd h (by decide)) (fun _ => ?_) | refine bm_mk (fun _ => ?_) (fun h => absurd h (by decide)))
      exact leaf_one (n := 4) (.inr rfl) H1 hm hok herr
    by_cases c3 : k = 3
    · subst c3
      repeat (first | refine bm_mk (fun h => absurd h (by decide)) (fun _ => ?_) | refine bm_mk (fun _ => ?_) (fun h => absurd h (by decide)))
      exact leaf_row (n := 1) (.inl rfl) H1 hm hok herr
    by_cases c5 : k = 5
    · subst c5
      repeat (first | refine bm_mk (fun h => absurd h (by decide)) (fun _ => ?_) | refine bm_mk (fun _ => ?_) (fun h => absurd h (by decide)))
      exact leaf_row (n := 4) (.inr rfl) H1 hm hok herr
    by_cases c8 : k = 8
    · subst c8
      repeat (first | refine bm_mk (fun h => absurd h (by decide)) (fun _ => ?_) | refine bm_mk (fun _ => ?_) (fun h => absurd h (by decide)))
      exact leaf_ref H1 hm h0 hxl hok herr
    by_cases c9 : k = 9
    · subst c9
      repeat (first | refine bm_mk (fun h => absurd h (by decide)) (fun _ => ?_) | refine bm_mk (fun _ => ?_) (fun h => absurd h (by decide)))
      exact leaf_ref H1 hm h0 hxl hok herr
    by_cases c10 : k = 10
    · subst c10
      repeat (first | refine bm_mk (fun h => absurd h (by decide)) (fun _ => ?_) | refine bm_mk (fun _ => ?_) (fun h => absurd h (by decide)))
      exact leaf_ref H1 hm h0 hxl hok herr
    by_cases c11 : k = 11
    · subst c11
      repeat (first | refine bm_mk (fun h => absurd h (by decide)) (fun _ => ?_) | refine bm_mk (fun _ => ?_) (fun h => absurd h (by decide)))
      exact leaf_ref H1 hm h0 hxl hok herr
    have he : leafK bs x k = .error 120 := by
      unfold leafK
      rw [if_neg c1, if_neg c2, if_neg c4, if_neg c3, if_neg c5, if_neg (by omega)]
    repeat (refine bm_mk (fun h => by simp at h; omega) (fun _ => ?_))
    exact pc_set H1 rfl rfl rfl fun σ2 H3 => herr σ2 _ 120 he (by decide) H3 ⟨none, 0, none, 0, rfl, .inl rfl⟩
  · have e90 : ((90 : Int) != 0) = true := by decide
    simp only [tTup_tup, pSome_some, tI_int, List.getElem?_cons_zero, List.getElem?_cons_succ, e90, bm_true]
    exact pc_set H1 rfl rfl rfl fun σ2 H3 => herr σ2 _ 90 (by unfold leafS; simp only [hk]) (by decide) H3 ⟨none, 0, none, 0, rfl, .inl rfl⟩)
/-- The next piece of a packed text. -/
def nxP (bs : List Int) (t : Int) (at_ : AtS) : NxR := match walkS bs t at_.x at_.b with
  | .error e => .error e
  | .ok (nd, x', b') => match leafS bs nd with
    | .error e => .error e
    | .ok p => .ok (p, ⟨at_.k, x', b'⟩)
theorem walkL_in {bs : List Int} : ∀ (f : Nat) (node x b : Int) (nd x' b' : Int), 0 ≤ x → x ≤ 4294967295 → 0 ≤ b → b ≤ 7 → walkL bs f node x b = .ok (nd, x', b') → 0 ≤ x' ∧ x' ≤ 4294967295 ∧ 0 ≤ b' ∧ b' ≤ 7
  | 0, node, x, b, nd, x', b', h0, h1, h2, h3, h => by
    simp only [walkL] at h
    split at h
    · cases h
    · split at h
      · cases h; exact ⟨h0, h1, h2, h3⟩
      · cases h
  | f + 1, node, x, b, nd, x', b', h0, h1, h2, h3, h => by
    simp only [walkL] at h
    split at h
    · cases h
    · split at h
      · cases h; exact ⟨h0, h1, h2, h3⟩
      · split at h
        · cases h
        · split at h
          · cases h
          · have hw := w32_in (x + 1)
            by_cases h8 : b + 1 = 8
            · simp only [if_pos h8] at h
              exact walkL_in f _ _ _ nd x' b' hw.1 hw.2 (by omega) (by omega) h
            · simp only [if_neg h8] at h
              exact walkL_in f _ _ _ nd x' b' h0 h1 (by omega) (by omega) h
theorem c21p {t k y b : Int} (hk : k = 225) (h0 : 0 ≤ y) (h1 : y ≤ 4294967295) (hb0 : 0 ≤ b) (ht : 0 ≤ t) : NextOk a bs t (nxP bs t) ⟨k, y, b⟩ := by
  intro σ L K H hm hok herr
  subst hk
  refine tri_in ?_
  rw [s21]
  refine newAt_mk H fun i0 σ1 H1 => newAt_mk H1 fun i2 σ2 H2 => newAt_mk H2 fun i4 σ3 H3 => ?_
  have hm3 : ∀ {M : List (Nat × AObj)}, (∀ p ∈ L, p ∈ M) → Mem a bs M := fun h => hm.mono h
  refine ldc_mk H3 2 rfl rfl (tI_mk ?_)
  refine bm_mk (fun h => by simp at h) (fun _ => bm_mk (fun h => by simp at h) (fun _ => bm_mk (fun _ => ?_) (fun h => by simp at h)))
  refine ls_mk H3 (q := 2) rfl rfl ?_
  simp only [tCons, tI_int, tNil]
  refine c34 (k := 225) (x := y) (b := b) H3 (hm3 fun z h => by simp [h]) h0 h1 hb0 ht (fun σ4 nd x' b' hw n0 n1' x0 x1 b0 b1 H4 => ?_) (fun σ4 nd at' e hw he H4 => ?_)
  · simp only [tTup_tup, pSome_some, List.getElem?_cons_zero, List.getElem?_cons_succ, tAgg_agg, tCons, tI_int, tNil]
    refine newAt_mk H4 fun i5 σ5 H5 => ?_
    refine ps_mk (n := 3) H5 (q := 0) rfl rfl rfl fun σ6 H6 => ?_
    simp only [bne_self_eq_false, bm_false]
    refine c35 H6 (hm3 fun z h => by simp [h]) n0 n1' (fun σ7 v new p hp H7 hpv => ?_) (fun σ7 v e hp he H7 hpv => ?_)
    · obtain ⟨ca, ad, aa, an, rfl, hin⟩ := hpv
      simp only [tTup_tup, pSome_some, List.getElem?_cons_zero, List.getElem?_cons_succ, tAgg_agg, tCons, tI_int, tL_sl, tNil]
      refine newAt_mk H7 fun i6 σ8 H8 => ?_
      refine ps_mk (n := 4) H8 (q := 0) rfl rfl rfl fun σ9 H9 => ?_
      simp only [bne_self_eq_false, bm_false]
      have G : Has σ9 ((i6, .row .plain [i64 p.1, .slice ca p.2.length 1, u32 ad, .slice aa an 1]) :: (i5, .row .plain [i64 225, u32 x', u32 b']) :: (i4, .row .plain [i64 0, u32 0, u32 0]) :: (i2, .row .plain pcZ) :: (i0, .row .plain [i64 225, u32 y, u32 b]) :: (new ++ L)) :=
        H9.perm (.cons _ (List.perm_append_comm_assoc [(i5, AObj.row .plain [i64 225, u32 x', u32 b']), (i4, .row .plain [i64 0, u32 0, u32 0]), (i2, .row .plain pcZ), (i0, .row .plain [i64 225, u32 y, u32 b])] new L))
      refine ls_mk G (q := 0) rfl rfl ?_
      simp only [tCons, tI_int, tL_sl, tNil]
      refine ls_mk G (q := 1) rfl rfl ?_
      simp only [tCons, tI_int, tNil]
      refine ps_mk (n := 4) G (q := 3) rfl rfl rfl fun σ10 G2 => ?_
      refine ls_mk G2 (q := 1) rfl rfl ?_
      simp only [tCons, tI_int, tNil]
      refine ⟨by first | rfl | trivial, ?_⟩
      refine ps_mk (n := 3) G2 (q := 2) rfl rfl rfl fun σ11 G3 => ?_
      refine ls_mk G3 (q := 3) rfl rfl ?_
      simp only [tCons, tI_int, tL_sl, tNil]
      refine ls_mk G3 (q := 2) rfl rfl ?_
      simp only [tCons, tI_int, tNil]
      refine hok σ11 _ p ⟨225, x', b'⟩ new (by unfold nxP; simp only [hw, hp]) (G3.sub (.cons _ (.cons _ (.cons _ (.cons _ (.cons _ (.refl _))))))) ⟨ca, ad, aa, an, rfl, hin⟩
    · obtain ⟨ca, ad, aa, an, rfl, hin⟩ := hpv
      simp only [tTup_tup, pSome_some, List.getElem?_cons_zero, List.getElem?_cons_succ, tAgg_agg, tCons, tI_int, tL_sl, tNil]
      refine newAt_mk H7 fun i6 σ8 H8 => ?_
      refine ps_mk (n := 4) H8 (q := 0) rfl rfl rfl fun σ9 H9 => ?_
      refine bm_mk (fun _ => ?_) (fun h => absurd he (by simpa using h))
      refine ls_mk H9 (q := 3) rfl rfl ?_
      simp only [tCons, tI_int, tL_nil, tNil]
      refine ps_mk (n := 4) H9 (q := 3) rfl rfl rfl fun σ10 G2 => ?_
      refine ps_mk (n := 3) G2 (q := 2) rfl rfl rfl fun σ11 G3 => ?_
      refine ls_mk G3 (q := 3) rfl rfl ?_
      simp only [tCons, tI_int, tL_sl, tL_nil, tNil]
      refine ls_mk G3 (q := 2) rfl rfl ?_
      simp only [tCons, tI_int, tNil]
      refine herr σ11 _ ⟨0, 0, 0⟩ e (by unfold nxP; simp only [hw, hp]) he (G3.sub (.cons _ (.cons _ (.cons _ (.cons _ (.cons _ (.refl _))))))) ⟨none, 0, none, 0, rfl, .inl rfl⟩
  · simp only [tTup_tup, pSome_some, List.getElem?_cons_zero, List.getElem?_cons_succ, tAgg_agg, tCons, tI_int, tNil]
    refine newAt_mk H4 fun i5 σ5 H5 => ?_
    refine ps_mk (n := 3) H5 (q := 0) rfl rfl rfl fun σ6 H6 => ?_
    refine bm_mk (fun _ => ?_) (fun h => absurd he (by simpa using h))
    refine ls_mk H6 (q := 2) rfl rfl ?_
    simp only [tCons, tI_int, tL_nil, tNil]
    refine ps_mk (n := 4) H6 (q := 2) rfl rfl rfl fun σ7 G2 => ?_
    refine ps_mk (n := 3) G2 (q := 1) rfl rfl rfl fun σ8 G3 => ?_
    refine ls_mk G3 (q := 2) rfl rfl ?_
    simp only [tCons, tI_int, tL_sl, tL_nil, tNil]
    refine ls_mk G3 (q := 1) rfl rfl ?_
    simp only [tCons, tI_int, tNil]
    refine herr σ8 _ ⟨0, 0, 0⟩ e (by unfold nxP; simp only [hw]) he (G3.sub (.cons _ (.cons _ (.cons _ (.cons _ (.refl _)))))) ⟨none, 0, none, 0, rfl, .inl rfl⟩
end
end Go.AI
