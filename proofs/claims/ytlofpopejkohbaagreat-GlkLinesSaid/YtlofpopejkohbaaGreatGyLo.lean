/- Lemmas of the abstract condition ahead of code (a part of the library that the claim's proof stands on); they hold with no condition but those that each names. -/
import Derived.Test.YtlofpopejkohbaaGreatGyLn
import Derived.Test.YtlofpopejkohbaaGreatGyFormL
section
set_option linter.unusedSimpArgs false
set_option linter.unusedVariables false
set_option maxRecDepth 1000000
/- A window of text opened in a world with what comes from outside; which window waits; small functions; no condition but those that each names. -/
namespace Go.AI
open Go.Proofs
theorem nopenA : ∀ (B : List Int) (n e : Nat) (K : Value → AS → Prop), callN Tryz.prog hints glE 80 16 [ptr 6, .iface 29 (ptr 7), u32 35, .slice (some ⟨9, 0, none⟩) 5 1]
    (can [.map [] 0, .row .plain [i64 20, i64 10, i64 0, i64 0, .map (some 0)], .map [] 0, .map [] 0, .row .plain [i64 1048576, i64 0, .map (some 2), .map (some 3)], .map [] 0, glI (.slice none n e) 0 5 1 4 none 0 0 0, spO 8 none 0 0, .row .rw (cells8 B), .row .rw [u32 0, u32 0, u32 0, u32 3, u32 0]]) K =
    K (.tuple ⟨[u32 1, i64 0]⟩) (can ([.map [.mk (i64 1) (ptr 11) 0] 1, .row .plain [i64 20, i64 10, i64 1, i64 1, .map (some 0)], .map [] 0, .map [] 0, .row .plain [i64 1048576, i64 0, .map (some 2), .map (some 3)], .map [.mk (u32 1) (ptr 12) 0, .mk (u32 2) (ptr 13) 1] 2, glI (.slice none n e) 2 5 1 4 none 0 0 0, spO 8 none 0 0, .row .rw (cells8 B), .row .rw [u32 0, u32 0, u32 0, u32 3, u32 0]] ++
      [.row .plain [ptr 6, .iface 29 (ptr 7), .slice (some ⟨9, 0, none⟩) 5 1], .row .plain [i64 2, i64 0, i64 0, i64 0, i64 0, u32 0, i64 0], winI (rsL 0 0 0) 1 2 none 0 0, strO 1 0])) := by
  intros
  kernel_rfl
theorem nopenB : ∀ (B : List Int) (n e : Nat) (K : Value → AS → Prop), callN Tryz.prog hints glE 80 16 [ptr 6, .iface 29 (ptr 7), u32 35, .slice (some ⟨9, 0, none⟩) 5 1]
    (can [.map [] 0, .row .plain [i64 20, i64 10, i64 0, i64 0, .map (some 0)], .map [] 0, .map [] 0, .row .plain [i64 1048576, i64 0, .map (some 2), .map (some 3)], .map [] 0, glI (.slice (some ⟨10, 0, none⟩) n e) 0 5 1 4 none 0 0 0, spO 8 none 0 0, .row .rw (cells8 B), .row .rw [u32 0, u32 0, u32 0, u32 3, u32 0], .dead]) K =
    K (.tuple ⟨[u32 1, i64 0]⟩) (can ([.map [.mk (i64 1) (ptr 12) 0] 1, .row .plain [i64 20, i64 10, i64 1, i64 1, .map (some 0)], .map [] 0, .map [] 0, .row .plain [i64 1048576, i64 0, .map (some 2), .map (some 3)], .map [.mk (u32 1) (ptr 13) 0, .mk (u32 2) (ptr 14) 1] 2, glI (.slice (some ⟨10, 0, none⟩) n e) 2 5 1 4 none 0 0 0, spO 8 none 0 0, .row .rw (cells8 B), .row .rw [u32 0, u32 0, u32 0, u32 3, u32 0], .dead] ++
      [.row .plain [ptr 6, .iface 29 (ptr 7), .slice (some ⟨9, 0, none⟩) 5 1], .row .plain [i64 2, i64 0, i64 0, i64 0, i64 0, u32 0, i64 0], winI (rsL 0 0 0) 1 2 none 0 0, strO 1 0])) := by
  intros
  kernel_rfl
/-- The numbers that are known once a window is open. -/
def es2 (wa sa : Nat) : List MapEntry := [.mk (u32 1) (ptr wa) 0, .mk (u32 2) (ptr sa) 1]
section
variable {σ : AS} {K : Value → AS → Prop} {L M : List (Nat × AObj)}
theorem ren8 (π : Nat → Nat) : renV π ∘ u8 = u8 := by funext a; simp [renV]
theorem c16o {tm tr fm sm sh al g m bj ar n je : Nat} {ja : Option Addr} {cells : List Value} {rI : List (Nat × AObj)} {B : List Int} (hI : SlC 2 ja je cells rI)
    (H : Has σ ((ar, .row .rw [u32 0, u32 0, u32 0, u32 3, u32 0]) :: (m, spO bj none 0 0) :: (bj, .row .rw (cells8 B)) :: ([(tm, .map [] 0), (tr, .row .plain [i64 20, i64 10, i64 0, i64 0, .map (some tm)]), (fm, .map [] 0), (sm, .map [] 0), (sh, .row .plain [i64 1048576, i64 0, .map (some fm), .map (some sm)]), (al, .map [] 0), (g, glI (.slice ja n je) 0 al tr sh none 0 0 0)] ++ (rI ++ M))))
    (hK : ∀ wa sa σ', Has σ' ((al, .map (es2 wa sa) 2) :: (g, glI (.slice ja n je) 2 al tr sh none 0 0 0) :: (m, spO bj none 0 0) :: (bj, .row .rw (cells8 B)) :: (wa, winI (rsL 0 0 0) 1 2 none 0 0) :: (sa, strO 1 0) :: (rI ++ M)) → K (.tuple ⟨[u32 1, i64 0]⟩) σ') :
    Tri Tryz.prog 16 [ptr g, .iface 29 (ptr m), u32 35, .slice (some ⟨ar, 0, none⟩) 5 1] σ K := by
  rcases hI with ⟨rfl, rfl, rfl⟩ | ⟨j, rfl, he, rfl⟩
  · refine tri_gh2 (Eq.tri (nopenA B n je _) ⟨rfl, rfl⟩) (ids := [tm, tr, fm, sm, sh, al, g, m, bj, ar]) (zs := [.map [] 0, .row .plain [i64 20, i64 10, i64 0, i64 0, .map (some tm)], .map [] 0, .map [] 0, .row .plain [i64 1048576, i64 0, .map (some fm), .map (some sm)], .map [] 0, glI (.slice none n je) 0 al tr sh none 0 0 0, spO bj none 0 0, .row .rw (cells8 B), .row .rw [u32 0, u32 0, u32 0, u32 3, u32 0]]) (Fr := M) rfl rfl rfl rfl ?_ ?_ ?_ fun q σ' H' => ?_
    · exact H.sep fun a => by simp only [pairs, cnt_app, cnt_cons, cnt_nil]; omega
    · simp [mixG, AObj.live, renO, renV, renE, pf, glI, spO, ren8]
    · simp [renVs, renV, pf]
    · simp [mixG, AObj.live, AObj.own, RK.own, extraP, pairs, renO, renV, renE, pf, glI, spO, winI, rsL, strO, ren8] at H'
      have := hK (q + 12) (q + 13) σ' (H'.sep fun a => by simp only [es2, cnt_app, cnt_cons, cnt_nil, glI, spO, winI, rsL, strO, i64, u32, u8, ptr, cells8]; omega)
      simpa [renVs, renV, pf] using this
  · refine tri_gh2 (Eq.tri (nopenB B n je _) ⟨rfl, rfl⟩) (ids := [tm, tr, fm, sm, sh, al, g, m, bj, ar, j]) (zs := [.map [] 0, .row .plain [i64 20, i64 10, i64 0, i64 0, .map (some tm)], .map [] 0, .map [] 0, .row .plain [i64 1048576, i64 0, .map (some fm), .map (some sm)], .map [] 0, glI (.slice (some ⟨j, 0, none⟩) n je) 0 al tr sh none 0 0 0, spO bj none 0 0, .row .rw (cells8 B), .row .rw [u32 0, u32 0, u32 0, u32 3, u32 0], .row .rw cells]) (Fr := M) rfl rfl rfl rfl ?_ ?_ ?_ fun q σ' H' => ?_
    · exact H.sep fun a => by simp only [pairs, cnt_app, cnt_cons, cnt_nil]; omega
    · simp [mixG, AObj.live, renO, renV, renE, pf, glI, spO, ren8]
    · simp [renVs, renV, pf]
    · simp [mixG, AObj.live, AObj.own, RK.own, extraP, pairs, renO, renV, renE, pf, glI, spO, winI, rsL, strO, ren8] at H'
      have := hK (q + 13) (q + 14) σ' (H'.sep fun a => by simp only [es2, cnt_app, cnt_cons, cnt_nil, glI, spO, winI, rsL, strO, i64, u32, u8, ptr, cells8]; omega)
      simpa [renVs, renV, pf] using this
end
-- a map's entries, one by one
section
variable {α : Type} {ent : α → MapEntry}
def BornOk (ent : α → MapEntry) (ws : List α) (c : Nat) : Prop := (ws.map fun x => (ent x).born).Nodup ∧ ∀ x ∈ ws, (ent x).born < c
theorem find_born {ws : List α} (h : (ws.map fun x => (ent x).born).Nodup) {q : α} (hq : q ∈ ws) : (ws.map ent).find? (fun e => e.born == (ent q).born) = some (ent q) := by
  induction ws with
  | nil => cases hq
  | cons r ws ih =>
    rw [List.map_cons, List.nodup_cons] at h
    rw [List.map_cons, List.find?_cons]
    by_cases e : (ent r).born = (ent q).born
    · rcases List.mem_cons.1 hq with rfl | hq
      · simp
      · exact absurd (by rw [e]; exact List.mem_map_of_mem (f := fun q => (ent q).born) hq) h.1
    · have e' : ((ent r).born == (ent q).born) = false := by simpa using e
      rw [e']
      rcases List.mem_cons.1 hq with rfl | hq
      · exact absurd rfl e
      · exact ih h.2 hq
theorem nodup_b {ws : List α} {c : Nat} (hb : BornOk ent ws c) : ws.Nodup := by
  have := hb.1
  rw [List.Nodup, List.pairwise_map] at this
  exact this.imp fun h e => h (by rw [e])
theorem mnext_m {σ : AS} {ws : List α} {m c j : Nat} {S R : List α} {Y : List (Nat × AObj)} {G : Option (Value × Value) → AS → Prop} (Hh : Has σ ((j, .iter (some m) c (S.map fun x => (ent x).born) c) :: Y)) (hm : (m, AObj.map (ws.map ent) c) ∈ Y) (hb : BornOk ent ws c) (hp : (S ++ R).Perm ws)
    (hQ : ∀ q R', R.Perm (q :: R') → ∀ σ', Has σ' ((j, .iter (some m) c ((S ++ [q]).map fun x => (ent x).born) c) :: Y) → G (some ((ent q).key, (ent q).val)) σ') (hZ : R = [] → G none σ) : mnext σ j G := by
  unfold mnext
  rw [Hh.2 _ (List.mem_cons_self ..)]
  simp only
  unfold mapAt
  rw [Hh.2 _ (List.mem_cons_of_mem _ hm)]
  simp only
  have hnb : ((S ++ R).map fun x => (ent x).born).Nodup := ((hp.map fun x => (ent x).born).nodup_iff).2 hb.1
  have hun : ∀ q ∈ ws, unseen (S.map fun x => (ent x).born) (ent q) = true ↔ q ∈ R := by
    intro q hq
    unfold unseen
    rw [Bool.not_eq_true', List.contains_eq_mem, decide_eq_false_iff_not]
    constructor
    · intro h
      rcases List.mem_append.1 (hp.mem_iff.2 hq) with h' | h'
      · exact absurd (List.mem_map_of_mem (f := fun x => (ent x).born) h') h
      · exact h'
    · intro h h'
      rw [List.map_append, List.nodup_append] at hnb
      obtain ⟨r, hr, e⟩ := List.mem_map.1 h'
      exact hnb.2.2 _ (List.mem_map_of_mem (f := fun x => (ent x).born) hr) _ (List.mem_map_of_mem (f := fun x => (ent x).born) h) e
  refine chk_mk ?_ ?_
  · unfold iterOk
    cases hS : S with
    | nil => rfl
    | cons s S' =>
      have hsw : s ∈ ws := hp.mem_iff.1 (by rw [hS]; simp)
      have : (ws.map ent).any (fun e => Nat.blt e.born c) = true := List.any_eq_true.2 ⟨ent s, List.mem_map_of_mem hsw, by simpa [Nat.blt_eq] using hb.2 s hsw⟩
      rw [this]
      simp
  · rw [mcase_iff]
    refine ⟨fun e he => ?_, fun h => ?_⟩
    · obtain ⟨he1, he2⟩ := List.mem_filter.1 he
      obtain ⟨q, hq, rfl⟩ := List.mem_map.1 he1
      have hqR := (hun q hq).1 he2
      obtain ⟨r1, r2, hr⟩ := List.append_of_mem hqR
      refine hQ q (r1 ++ r2) (by rw [hr]; exact List.perm_middle) _ ?_
      have := Hh.upd 0 rfl (.iter (some m) c ((S ++ [q]).map fun x => (ent x).born) c)
      have e : (S.map fun x => (ent x).born) ++ [(ent q).born] = (S ++ [q]).map fun x => (ent x).born := by rw [List.map_append]; rfl
      rw [e]
      exact this
    · refine hZ ?_
      cases hR : R with
      | nil => rfl
      | cons r R' =>
        have hrw : r ∈ ws := hp.mem_iff.1 (by rw [hR]; simp)
        have h1 := (hun r hrw).2 (by rw [hR]; simp)
        have : ((ws.map ent).any fun e => unseen (S.map fun x => (ent x).born) e && Nat.blt e.born c) = true := List.any_eq_true.2 ⟨ent r, List.mem_map_of_mem hrw, by
          rw [h1, Bool.true_and]
          simpa [Nat.blt_eq] using hb.2 r hrw⟩
        rw [this] at h
        cases h
theorem mentry_m {σ : AS} {ws : List α} {m c j : Nat} {S : List α} {q : α} {Y : List (Nat × AObj)} {G : Value → Value → Prop} (Hh : Has σ ((j, .iter (some m) c ((S ++ [q]).map fun x => (ent x).born) c) :: Y)) (hm : (m, AObj.map (ws.map ent) c) ∈ Y) (hb : BornOk ent ws c) (hq : q ∈ ws) (hG : G (ent q).key (ent q).val) : mentry σ j G := by
  unfold mentry
  rw [Hh.2 _ (List.mem_cons_self ..)]
  simp only
  have e : ((S ++ [q]).map fun x => (ent x).born).getLast? = some (ent q).born := by rw [List.map_append]; simp
  rw [e]
  simp only
  rw [Hh.2 _ (List.mem_cons_of_mem _ hm)]
  simp only
  refine req_mk (by first | trivial | rfl) ?_
  rw [find_born hb.1 hq]
  exact hG
theorem rngM_m {σ : AS} {ws : List α} {m c : Nat} {Y : List (Nat × AObj)} {G : Nat → AS → Prop} (Hh : Has σ Y) (hm : (m, AObj.map (ws.map ent) c) ∈ Y) (hG : ∀ j σ', Has σ' ((j, .iter (some m) c [] c) :: Y) → G j σ') : rngM σ (some m) G := by
  unfold rngM
  simp only
  unfold mapAt
  rw [Hh.2 _ hm]
  exact newAt_mk Hh hG
end
-- which window waits
def entI (x : Int × Nat × Nat) : MapEntry := ⟨u32 x.1, ptr x.2.1, x.2.2⟩
section
variable {σ : AS} {K : Value → AS → Prop} {L M X : List (Nat × AObj)}
theorem c161 {iv : Value} {g al tr sh w s : Nat} {n cur pane str a0 b0 m0 asks win wr : Int} {oa ta : Option Addr} {on oe tn te : Nat} (hg : (g, glI iv n al tr sh oa on oe cur) ∈ L) (hal : (al, AObj.map (es2 w s) 2) ∈ L) (hw : (w, winI (rsL a0 b0 m0) pane str ta tn te) ∈ L) (hs : (s, strO win wr) ∈ L)
    (H : Has σ L) (hK : ∀ σ', Has σ' L → K (u32 (if a0 = asks then 1 else 0)) σ') : Tri Tryz.prog 161 [ptr g, i64 asks] σ K := tri_in (by
  rw [s161]
  refine ldm H hg rfl ?_
  simp only [tM_map]
  have hal2 : (al, AObj.map (([(1, w, 0), (2, s, 1)] : List (Int × Nat × Nat)).map entI) 2) ∈ L := hal
  have hb : BornOk entI ([(1, w, 0), (2, s, 1)] : List (Int × Nat × Nat)) 2 := ⟨by simp [entI], by simp [entI]⟩
  refine rngM_m H hal2 fun j σ1 H1 => ?_
  refine aloop (fun (y : List (Int × Nat × Nat) × List (Int × Nat × Nat)) rg σ' => (y.1 ++ y.2).Perm [(1, w, 0), (2, s, 1)] ∧ Has σ' ((j, .iter (some al) 2 (y.1.map fun x => (entI x).born) 2) :: L) ∧
    rg = [(1, some (i64 asks)), (5, some (u32 (if a0 = asks ∧ ((1, w, 0) : Int × Nat × Nat) ∈ y.1 then 1 else 0))), (12, some (ptr j))]) (fun y => y.2.length) ?_ (a := ([], [(1, w, 0), (2, s, 1)])) ⟨by simp, H1, by simp⟩
  rintro ⟨A, R⟩ rg σ2 Y hY ⟨hp, H2, rfl⟩
  rw [s161l]
  refine mnext_m H2 hal2 hb hp (fun q R' hR σ3 H3 => ?_) (fun hR => ?_)
  · have hq : q ∈ ([(1, w, 0), (2, s, 1)] : List (Int × Nat × Nat)) := hp.mem_iff.1 (List.mem_append_right _ (hR.mem_iff.2 (by simp)))
    have hp' : ((A ++ [q]) ++ R').Perm [(1, w, 0), (2, s, 1)] := by
      rw [List.append_assoc]
      exact (hR.symm.append_left A).trans hp
    have go : ∀ (best : Int), best = (if a0 = asks ∧ ((1, w, 0) : Int × Nat × Nat) ∈ A ++ [q] then 1 else 0) → Y [(1, some (i64 asks)), (5, some (u32 best)), (12, some (ptr j))] σ3 := by
      intro best hbest
      subst hbest
      exact hY (A ++ [q], R') _ _ (by show R'.length < R.length; rw [hR.length_eq]; simp) ⟨hp', H3, rfl⟩
    simp only [onNx]
    refine mentry_m H3 hal2 hb hq ?_
    simp only [List.mem_cons, List.not_mem_nil, or_false] at hq
    rcases hq with rfl | rfl
    · simp only [entI, tI_int, tP_ptr, pSome_some, add_none]
      refine ldm H3 (List.mem_cons_of_mem _ hw) rfl (tI_mk (beq_mk (fun _ => ?_) (fun h => absurd rfl h)))
      refine ldm H3 (List.mem_cons_of_mem _ hw) rfl (tI_mk (beq_mk (fun e => ?_) (fun e => ?_)))
      · have h1 := go 1 (by simp [e])
        refine beq_mk (fun _ => h1) (fun h0 => ?_)
        by_cases hA : ((1, w, 0) : Int × Nat × Nat) ∈ A
        · refine bmd_mk (fun _ => h1) (fun _ => ?_)
          simpa [hA, e] using h1
        · exact absurd (by simp [hA]) h0
      · exact go _ (by simp [e])
    · simp only [entI, tI_int, tP_ptr, pSome_some, add_none]
      refine ldm H3 (List.mem_cons_of_mem _ hs) rfl (tI_mk (beq_mk (fun h => absurd h (by decide)) (fun _ => ?_)))
      exact go _ (by simp)
  · simp only [onNx]
    have hR : R = [] := hR
    subst hR
    rw [List.append_nil] at hp
    have hm : ((1, w, 0) : Int × Nat × Nat) ∈ A := hp.mem_iff.2 (by simp)
    have := hK σ2 (H2.sub (List.sublist_cons_self _ _))
    simpa [hm] using this)
/-- A character of a line. -/
def lowI (x : Int) : Int := if x > 255 then 63 else x
theorem n82 : ∀ (x : Int) (σ : AS) (K : Value → AS → Prop), callN Tryz.prog hints glE 80 82 [u32 x] σ K = bmatch (decide (x > 255)) (K (u32 63) σ) (K (u32 x) σ) := by
  intros
  kernel_rfl
theorem c82 {x : Int} (hK : K (u32 (lowI x)) σ) : Tri Tryz.prog 82 [u32 x] σ K := tri_hard (by
  rw [n82]
  unfold lowI at hK
  exact bmd_mk (fun h => by rw [if_pos h] at hK; exact hK) (fun h => by rw [if_neg h] at hK; exact hK))
theorem c158 {a : Int} (h0 : a ≠ 0) (h1 : a ≠ 4294967295) (hK : K (.bool false) σ) : Tri Tryz.prog 158 [u32 a] σ K := tri_in (by
  rw [s158]
  refine beq_mk (fun h => absurd h h0) (fun _ => ?_)
  have : (a == 4294967295) = false := by simpa using h1
  rw [this]
  exact hK)
theorem inCells_1 {is : Ins} {i : Nat} {p : Bool × Option Addr × List Int} (h : is[i]? = some p) : (inCells is)[i * 2 + 1]? = some (.slice p.2.1 p.2.2.length 1) := by
  have := congrArg (·[1]?) (inCells_at h)
  simpa using this
theorem inCells_0 {is : Ins} {i : Nat} {p : Bool × Option Addr × List Int} (h : is[i]? = some p) : (inCells is)[i * 2]? = some (.bool p.1) := by
  have := congrArg (·[0]?) (inCells_at h)
  simpa using this
def totI (is : Ins) : Nat := (is.map fun p => p.2.2.length).sum
theorem totI_snoc {is : Ins} {i : Nat} {p : Bool × Option Addr × List Int} (h : is[i]? = some p) : totI (is.take (i + 1)) = totI (is.take i) + p.2.2.length := by
  unfold totI
  rw [List.take_add_one, h]
  simp
theorem totI_mem {is : Ins} {p : Bool × Option Addr × List Int} (h : p ∈ is) : p.2.2.length ≤ totI is := by
  unfold totI
  induction is with
  | nil => cases h
  | cons q is ih =>
    rw [List.map_cons, List.sum_cons]
    rcases List.mem_cons.1 h with rfl | h
    · omega
    · have := ih h; omega
theorem totI_le {is : Ins} (h : ∀ p ∈ is, p.2.2.length ≤ 140737488355328) : totI is ≤ is.length * 140737488355328 := by
  unfold totI
  induction is with
  | nil => simp
  | cons q is ih =>
    rw [List.map_cons, List.sum_cons, List.length_cons]
    have := ih fun p hp => h p (List.mem_cons_of_mem _ hp)
    have := h q List.mem_cons_self
    omega
/-- Too much from outside. -/
theorem c27 {ia : Option Addr} {is : Ins} (hia : is = [] ∨ ∃ r k, ia = some ⟨r, 0, none⟩ ∧ (r, AObj.row k (inCells is)) ∈ X) (hl : ∀ p ∈ is, p.2.2.length ≤ 140737488355328) (H : Has σ X)
    (hK1 : K (.bool true) σ) (hK2 : is.length ≤ 80 → totI is ≤ 2000 → K (.bool false) σ) : Tri Tryz.prog 27 [.slice ia is.length 2] σ K := tri_in (by
  rw [s27]
  refine aloop (fun (i : Nat) rg σ' => i ≤ is.length ∧ i ≤ 81 ∧ σ' = σ ∧ rg = [(0, some (.slice ia is.length 2)), (3, some (i64 (totI (is.take i)))), (4, some (i64 i))]) (fun i => is.length - i) ?_ (a := 0) ⟨Nat.zero_le _, Nat.zero_le _, rfl, by simp [totI]⟩
  rintro i rg σ1 Y hX ⟨hi, hi2, rfl, rfl⟩
  have hti := totI_le (is := is.take i) fun p hp => hl p (List.mem_of_mem_take hp)
  have hlen : (is.take i).length = i := by simp; omega
  rw [hlen] at hti
  rw [s27l]
  have fin : i = is.length ∨ ¬ (i ≤ 80) → bmatch (decide ((is.length : Int) > 80)) (K (.bool true) σ1) (K (.bool (decide ((totI (is.take i) : Int) > 2000))) σ1) := by
    intro h
    refine bmd_mk (fun _ => hK1) (fun h80 => ?_)
    have e : i = is.length := by omega
    rw [e, List.take_length]
    by_cases ht : totI is ≤ 2000
    · have : decide ((totI is : Int) > 2000) = false := by simp; omega
      rw [this]
      exact hK2 (by omega) ht
    · have : decide ((totI is : Int) > 2000) = true := by simp; omega
      rw [this]
      exact hK1
  refine bmd_mk (fun h => bmd_mk (fun h80 => ?_) (fun h80 => fin (.inr (by omega)))) (fun h => fin (.inl (by omega)))
  have hi3 : i < is.length := by omega
  obtain ⟨p, hpi⟩ : ∃ p, is[i]? = some p := ⟨is[i], List.getElem?_eq_getElem hi3⟩
  obtain ⟨r, kk, rfl, hr⟩ := hia.resolve_left (by intro h0; rw [h0] at hpi; simp at hpi)
  have hpl := hl p (List.mem_of_getElem? hpi)
  refine req_mk (by omega) (req_mk h ?_)
  simp only [pSome_some, aadd_none, szP70, Int.toNat_natCast, Nat.zero_add]
  refine req_mk trivial (ldm H hr (inCells_1 hpi) (tL_mk ?_))
  simp only
  rw [wrap1 (by omega), wrap64 (by omega) (by omega)]
  refine hX (i + 1) _ _ (by omega) ⟨by omega, by omega, rfl, ?_⟩
  rw [totI_snoc hpi]
  simp)
end
end Go.AI
end
section
set_option linter.unusedSimpArgs false
set_option linter.unusedVariables false
set_option maxRecDepth 100000
/- A world with one window of text, as it stands between calls; no condition but those that each names. -/
namespace Go.AI
open Go.Proofs
def oneP (T : List Int) : List (Int × List Int) := if T = [] then [] else [(1, T)]
theorem say_one (T : List Int) (x : Int) : sayL (oneP T) 1 x = oneP (T ++ [x]) := by
  unfold oneP sayL
  by_cases h : T = []
  · subst h; simp
  · simp [h]
/-- The world, its window, the window's text, what was told. -/
def WF (g al tr sh w : Nat) (iv : Value) (rest : List Value) (T : List Int) (F : List (Nat × AObj)) : Prop :=
  ∃ oa on oe os ta te rowsO rowsT, SlC 1 ta te (cellsU T) rowsT ∧ SlC 2 oa oe (outCells os) rowsO ∧ on = os.length ∧ outP os = oneP T ∧ F = (g, glI iv 2 al tr sh oa on oe 0) :: (w, winI rest 1 2 ta T.length te) :: (rowsT ++ (rowsO ++ outRows os))
def Wst (g al tr sh w : Nat) (iv : Value) (rest : List Value) (T : List Int) (M : List (Nat × AObj)) (σ : AS) : Prop := ∃ F, WF g al tr sh w iv rest T F ∧ Has σ (F ++ M)
theorem oneP_ok {os : Outs} {T : List Int} (h : outP os = oneP T) : os.length ≤ 1 ∧ ∀ p ∈ os, p.2.2.length = T.length := by
  have hl : os.length = (oneP T).length := by rw [← h]; unfold outP; simp
  refine ⟨?_, fun p hp => ?_⟩
  · rw [hl]; unfold oneP; split <;> simp
  · have : (p.1, p.2.2) ∈ oneP T := by rw [← h]; unfold outP; exact List.mem_map.2 ⟨p, hp, rfl⟩
    unfold oneP at this
    split at this
    · cases this
    · simp only [List.mem_singleton, Prod.mk.injEq] at this
      rw [this.2]
section
variable {σ : AS} {K : Value → AS → Prop} {G : Value → Prop} {Gs : AS → Prop} {L M N : List (Nat × AObj)} {g al tr sh w : Nat} {iv v : Value} {rest : List Value} {T : List Int}
theorem Wst.sep (h : Wst g al tr sh w iv rest T M σ) (hc : ∀ a, cnt a N ≤ cnt a M) : Wst g al tr sh w iv rest T N σ := by
  obtain ⟨F, hF, H⟩ := h
  exact ⟨F, hF, H.sep fun a => by have := hc a; simp only [cnt_app]; omega⟩
theorem Wst.has (h : Wst g al tr sh w iv rest T M σ) : Has σ M := by
  obtain ⟨F, hF, H⟩ := h
  exact H.sub (List.sublist_append_right _ _)
theorem Wst.newAt {o : AObj} {Gn : Nat → AS → Prop} (h : Wst g al tr sh w iv rest T M σ) (hG : ∀ i σ', Wst g al tr sh w iv rest T ((i, o) :: M) σ' → Gn i σ') : newAt σ o Gn := by
  obtain ⟨F, hF, H⟩ := h
  exact newAt_mk H fun i σ' H' => hG i σ' ⟨F, hF, H'.sep fun a => by simp only [cnt_app, cnt_cons]; omega⟩
theorem Wst.ld4 (h : Wst g al tr sh w iv rest T M σ) (hG : G iv) : ldc σ ⟨g, 4, none⟩ G := by
  obtain ⟨F, ⟨oa, on, oe, os, ta, te, rowsO, rowsT, hsT, hsO, hon, hop, rfl⟩, H⟩ := h
  exact ldm H List.mem_cons_self rfl hG
theorem Wst.ld1 (h : Wst g al tr sh w iv rest T M σ) (hG : G (.map (some al))) : ldc σ ⟨g, 1, none⟩ G := by
  obtain ⟨F, ⟨oa, on, oe, os, ta, te, rowsO, rowsT, hsT, hsO, hon, hop, rfl⟩, H⟩ := h
  exact ldm H List.mem_cons_self rfl hG
theorem Wst.ld7 (h : Wst g al tr sh w iv rest T M σ) (hG : G (.bool false)) : ldc σ ⟨g, 7, none⟩ G := by
  obtain ⟨F, ⟨oa, on, oe, os, ta, te, rowsO, rowsT, hsT, hsO, hon, hop, rfl⟩, H⟩ := h
  exact ldm H List.mem_cons_self rfl hG
theorem Wst.ldk (h : Wst g al tr sh w iv rest T M σ) (hG : G (u32 3)) : ldc σ ⟨w, 3, none⟩ G := by
  obtain ⟨F, ⟨oa, on, oe, os, ta, te, rowsO, rowsT, hsT, hsO, hon, hop, rfl⟩, H⟩ := h
  exact ldm H (List.mem_cons_of_mem _ List.mem_cons_self) rfl hG
theorem Wst.ldr (h : Wst g al tr sh w iv rest T M σ) {j : Nat} (hj : rest[j]? = some v) (hG : G v) : ldc σ ⟨w, 6 + j, none⟩ G := by
  obtain ⟨F, ⟨oa, on, oe, os, ta, te, rowsO, rowsT, hsT, hsO, hon, hop, rfl⟩, H⟩ := h
  refine ldm H (List.mem_cons_of_mem _ List.mem_cons_self) (v := v) ?_ hG
  rw [Nat.add_comm]
  exact hj
theorem Wst.st4 {iv2 : Value} (h : Wst g al tr sh w iv rest T M σ) (hG : ∀ σ', Wst g al tr sh w iv2 rest T M σ' → Gs σ') : put1 σ ⟨g, 4, none⟩ iv2 Gs := by
  obtain ⟨F, ⟨oa, on, oe, os, ta, te, rowsO, rowsT, hsT, hsO, hon, hop, rfl⟩, H⟩ := h
  refine put0 (k := .plain) (H.sep (M := (g, glI iv 2 al tr sh oa on oe 0) :: ((w, winI rest 1 2 ta T.length te) :: (rowsT ++ (rowsO ++ (outRows os ++ M))))) (fun a => by simp only [cnt_app, cnt_cons]; omega)) rfl (by simp [glI]) fun σ' H' => ?_
  exact hG σ' ⟨_, ⟨oa, on, oe, os, ta, te, rowsO, rowsT, hsT, hsO, hon, hop, rfl⟩, H'.sep fun a => by simp only [cnt_app, cnt_cons, glI, List.set_cons_zero, List.set_cons_succ]; omega⟩
theorem Wst.str {j : Nat} (h : Wst g al tr sh w iv rest T M σ) (hj : j < rest.length) (hG : ∀ σ', Wst g al tr sh w iv (rest.set j v) T M σ' → Gs σ') : put1 σ ⟨w, 6 + j, none⟩ v Gs := by
  obtain ⟨F, ⟨oa, on, oe, os, ta, te, rowsO, rowsT, hsT, hsO, hon, hop, rfl⟩, H⟩ := h
  refine put0 (k := .plain) (H.sep (M := (w, winI rest 1 2 ta T.length te) :: ((g, glI iv 2 al tr sh oa on oe 0) :: (rowsT ++ (rowsO ++ (outRows os ++ M))))) (fun a => by simp only [cnt_app, cnt_cons]; omega)) rfl (by simp [winI]; omega) fun σ' H' => ?_
  refine hG σ' ⟨_, ⟨oa, on, oe, os, ta, te, rowsO, rowsT, hsT, hsO, hon, hop, rfl⟩, H'.sep fun a => ?_⟩
  rw [Nat.add_comm 6 j]
  simp only [cnt_app, cnt_cons, winI, List.set_cons_zero, List.set_cons_succ]; omega
/-- A character is shown. -/
theorem Wst.show {s : Nat} {x : Int} (h : Wst g al tr sh w iv rest T M σ) (hal : (al, AObj.map (es2 w s) 2) ∈ M) (hT : T.length ≤ 100000) (hK : ∀ σ', Wst g al tr sh w iv rest (T ++ [x]) M σ' → K unit0 σ') : Tri Tryz.prog 132 [ptr g, u32 1, u32 x] σ K := by
  obtain ⟨F, ⟨oa, on, oe, os, ta, te, rowsO, rowsT, hsT, hsO, hon, hop, rfl⟩, H⟩ := h
  have hbd := oneP_ok hop
  refine c132 (iv := iv) (rest := rest) (n := 2) (cur := 0) (tr := tr) (sh := sh) (pane := 1) (str := 2) (al := al) (es := es2 w s) (ec := 2) (i := 0) (M := M) hal rfl hsT rfl hT hsO hon (by omega) (fun p hp => by have := hbd.2 p hp; omega) (H.sep fun a => by simp only [cnt_app, cnt_cons]; omega) fun oa' on' oe' rowsO' os' ta' rowsT' σ' h1 h2 h3 h4 H' => ?_
  exact hK σ' ⟨_, ⟨oa', on', oe', os', ta', 1, rowsO', rowsT', h1, h2, h3, by rw [h4, hop, say_one], rfl⟩, H'.sep fun a => by simp only [cnt_app, cnt_cons, List.length_append, List.length_singleton]; omega⟩
/-- Which window waits. -/
theorem Wst.waits {s : Nat} {a0 b0 m0 asks : Int} (h : Wst g al tr sh w iv (rsL a0 b0 m0) T M σ) (hal : (al, AObj.map (es2 w s) 2) ∈ M) (hs : (s, strO 1 0) ∈ M) (hK : ∀ σ', Wst g al tr sh w iv (rsL a0 b0 m0) T M σ' → K (u32 (if a0 = asks then 1 else 0)) σ') : Tri Tryz.prog 161 [ptr g, i64 asks] σ K := by
  obtain ⟨F, ⟨oa, on, oe, os, ta, te, rowsO, rowsT, hsT, hsO, hon, hop, rfl⟩, H⟩ := h
  refine c161 (iv := iv) (n := 2) (cur := 0) (tr := tr) (sh := sh) (al := al) (w := w) (s := s) (pane := 1) (str := 2) (a0 := a0) (b0 := b0) (m0 := m0) (win := 1) (wr := 0) List.mem_cons_self (by simp [hal]) (List.mem_cons_of_mem _ List.mem_cons_self) (by simp [hs]) H fun σ' H' => ?_
  exact hK σ' ⟨_, ⟨oa, on, oe, os, ta, te, rowsO, rowsT, hsT, hsO, hon, hop, rfl⟩, H'⟩
end
end Go.AI
end
section
set_option linter.unusedSimpArgs false
set_option linter.unusedVariables false
set_option maxRecDepth 100000
/- The next event: a line comes where it was asked for; no condition but those that each names. -/
namespace Go.AI
open Go.Proofs
/-- A text that lies somewhere. -/
def InpP (a : Option Addr) (V : List Int) (N : List (Nat × AObj)) : Prop := V = [] ∨ ∃ r kk cs, a = some ⟨r, 0, none⟩ ∧ (r, AObj.row kk cs) ∈ N ∧ ∀ (k : Nat) (v : Int), V[k]? = some v → cs[k]? = some (u32 v)
/-- What is left of what comes from outside. -/
def IvAt (is : Ins) (p : Nat) (N : List (Nat × AObj)) (iv : Value) : Prop := ∃ a e, iv = .slice a (is.length - p) e ∧ nilOr a e 2 = true ∧ (p < is.length → ∃ q, a = some ⟨q, p * 2, none⟩ ∧ (q, AObj.row .rw (inCells is)) ∈ N)
section
variable {σ : AS} {K : Value → AS → Prop} {X : Regs → AS → Prop} {L M N : List (Nat × AObj)} {g al tr sh w : Nat} {iv v : Value} {rest : List Value} {T V : List Int}
def callO (g m ar : Nat) : AObj := .row .plain [ptr g, .iface 29 (ptr m), .slice (some ⟨ar, 0, none⟩) 1 1]
theorem ev2 {c m ar bj s : Nat} {la lla : Option Addr} {lle : Nat} {S B : List Int} {rowsS : List (Nat × AObj)} (hc : (c, callO g m ar) ∈ N) (har : (ar, AObj.row .rw [u32 4294967295]) ∈ N) (hal : (al, AObj.map (es2 w s) 2) ∈ N) (hV : InpP la V N) (hV2 : V.length ≤ 255) (hT : T.length ≤ 90000)
    (hsS : SlC 1 lla lle (cellsU S) rowsS) (hS : S.length ≤ 100)
    (W : Wst g al tr sh w iv rest T ((bj, .row .rw (cells8 B)) :: (m, spO bj lla S.length lle) :: (rowsS ++ N)) σ)
    (hK : ∀ a' e' rows' σ', SlC 1 a' e' (cellsU (S ++ [3, 1, (V.length : Int), 0])) rows' → Wst g al tr sh w iv rest (T ++ V.map lowI ++ [10]) ((bj, .row .rw (cells8 B)) :: (m, spO bj a' (S.length + 4) e') :: (rows' ++ N)) σ' → K (.tuple ⟨[u32 0, i64 0]⟩) σ') :
    ALoop (fl Tryz.prog hintsS (Tri Tryz.prog) 103 [true, false, false, false, true, false, true, true, true, true, true, true, true, true, true, true, true, false, true, false, false, true, false] [X] K)
      [(0, some (ptr c)), (6, some (u32 1)), (9, some (.slice la V.length 1)), (143, some (.slice la V.length 1)), (144, some (i64 V.length)), (145, some (i64 0))] σ := by
  have inN : ∀ {B' : List Int} {p : Nat × AObj}, p ∈ N → p ∈ (bj, AObj.row .rw (cells8 B')) :: (m, spO bj lla S.length lle) :: (rowsS ++ N) := fun h => by simp [h]
  refine aloop (fun (i : Nat) rg σ' => i ≤ V.length ∧ Wst g al tr sh w iv rest (T ++ (V.take i).map lowI) ((bj, .row .rw (cells8 B)) :: (m, spO bj lla S.length lle) :: (rowsS ++ N)) σ' ∧
    rg = [(0, some (ptr c)), (6, some (u32 1)), (9, some (.slice la V.length 1)), (143, some (.slice la V.length 1)), (144, some (i64 V.length)), (145, some (i64 i))]) (fun i => V.length - i) ?_ (a := 0) ⟨Nat.zero_le _, by simpa using W, rfl⟩
  rintro i rg σ1 Y hY ⟨hi, W1, rfl⟩
  rw [s103l2]
  refine bmd_mk (fun h => ?_) (fun h => ?_)
  · have hi2 : i < V.length := by omega
    obtain ⟨x, hx⟩ : ∃ x, V[i]? = some x := ⟨V[i], List.getElem?_eq_getElem hi2⟩
    obtain ⟨r, kk, cs, rfl, hr, hcs⟩ := hV.resolve_left (by intro h0; rw [h0] at hx; simp at hx)
    refine req_mk (by omega) (req_mk h ?_)
    simp only [pSome_some, aadd_none, szP32, Int.toNat_natCast, Nat.mul_one, Nat.zero_add]
    refine req_mk trivial (ldm W1.has (inN hr) (hcs i x hx) (tI_mk ?_))
    refine ldm W1.has (inN hc) rfl ?_
    simp only [tP_ptr]
    refine c82 (tI_mk ?_)
    refine ldm W1.has (inN hc) rfl ?_
    simp only [tP_ptr]
    refine ⟨trivial, W1.show (inN hal) (by simp; omega) fun σ2 W2 => ?_⟩
    rw [wrap1 (by omega)]
    refine hY (i + 1) _ _ (by omega) ⟨by omega, ?_, rfl⟩
    rw [List.take_add_one, hx]
    simpa [List.append_assoc] using W2
  · have ei : i = V.length := by omega
    subst ei
    rw [List.take_length] at W1
    refine ldm W1.has (inN hc) rfl ?_
    simp only [tP_ptr]
    refine W1.show (inN hal) (by simp; omega) fun σ2 W2 => ?_
    refine ldm W2.has (inN hc) rfl (tL_mk (req_mk (by simp only; omega) ?_))
    simp only [pSome_some, aadd_none, szP32]
    refine ldm W2.has (inN har) rfl (tI_mk ?_)
    rw [wrapU32 (by omega) (by omega)]
    refine W2.newAt fun j σ3 W3 => ?_
    obtain ⟨F, hF, H⟩ := W3
    refine c92 (m := m) (bj := bj) (c := c) (V := [3, 1, (V.length : Int), 0]) (S := S) (ln := S.length) (M := (j, .row .rw (cellsU [3, 1, (V.length : Int), 0])) :: (F ++ ((bj, .row .rw (cells8 B)) :: N))) (cg := ptr g) (ca := .slice (some ⟨ar, 0, none⟩) 1 1) hsS rfl (by simp; omega) (by
      have : (c, callO g m ar) ∈ (j, .row .rw (cellsU [3, 1, (V.length : Int), 0])) :: (F ++ ((bj, .row .rw (cells8 B)) :: N)) := by simp [hc]
      exact this) List.mem_cons_self (H.sep fun a => by simp only [cellsU, List.map_cons, List.map_nil, cnt_app, cnt_cons, cnt_nil, u32]; omega) fun a' e' rows' σ4 hs' H' => ?_
    simp only [tTup_tup, pSome_some, List.getElem?_cons_zero, List.getElem?_cons_succ, tI_int]
    have H2 : Has σ4 (rows' ++ ((m, spO bj a' (S.length + 4) e') :: (j, .row .rw (cellsU [3, 1, (V.length : Int), 0])) :: (F ++ ((bj, .row .rw (cells8 B)) :: N)))) := H'
    exact hK a' e' rows' σ4 hs' ⟨F, hF, H2.sep fun a => by simp only [cnt_app, cnt_cons, cnt_nil]; omega⟩
theorem setN1 {B : List Int} {a : Nat} {v : Int} (h : a < B.length) : setN B a [v] = B.set a v := by
  have := setN_snoc (B := B) (P := []) (a := a) (v := v) (by simpa using h)
  rw [setN_nil] at this
  simpa using this.symm
theorem lowI_r {x : Int} (h : 0 ≤ x) : 0 ≤ lowI x ∧ lowI x ≤ 255 := by unfold lowI; split <;> omega
theorem ev1 {c m ar bj s : Nat} {most : Int} {la lla : Option Addr} {lle : Nat} {S B : List Int} {rowsS : List (Nat × AObj)} (hc : (c, callO g m ar) ∈ N) (har : (ar, AObj.row .rw [u32 4294967295]) ∈ N) (hal : (al, AObj.map (es2 w s) 2) ∈ N) (hV : InpP la V N) (hV2 : V.length ≤ 255) (hVr : ∀ x ∈ V, 0 ≤ x) (hT : T.length ≤ 90000)
    (hsS : SlC 1 lla lle (cellsU S) rowsS) (hS : S.length ≤ 100) (hB : B.length = 1024)
    (W : Wst g al tr sh w iv (rsL 0 200 most) T ((bj, .row .rw (cells8 B)) :: (m, spO bj lla S.length lle) :: (rowsS ++ N)) σ)
    (hK : ∀ a' e' rows' B' σ', SlC 1 a' e' (cellsU (S ++ [3, 1, (V.length : Int), 0])) rows' → B'.length = 1024 → (∀ k v, V[k]? = some v → B'[200 + k]? = some (lowI v)) → Wst g al tr sh w iv (rsL 0 200 most) (T ++ V.map lowI ++ [10]) ((bj, .row .rw (cells8 B')) :: (m, spO bj a' (S.length + 4) e') :: (rows' ++ N)) σ' → K (.tuple ⟨[u32 0, i64 0]⟩) σ') :
    ALoop (fl Tryz.prog hintsS (Tri Tryz.prog) 103 [true, false, false, false, true, false, true, true, true, true, true, true, true, true, true, true, false, true, false] [X] K)
      [(0, some (ptr c)), (6, some (u32 1)), (7, some (ptr w)), (9, some (.slice la V.length 1)), (106, some (.slice la V.length 1)), (107, some (i64 V.length)), (108, some (i64 0))] σ := by
  have inN : ∀ {B' : List Int} {p : Nat × AObj}, p ∈ N → p ∈ (bj, AObj.row .rw (cells8 B')) :: (m, spO bj lla S.length lle) :: (rowsS ++ N) := fun h => by simp [h]
  refine aloop (fun (i : Nat) rg σ' => i ≤ V.length ∧ (∃ B', B'.length = 1024 ∧ (∀ k v, k < i → V[k]? = some v → B'[200 + k]? = some (lowI v)) ∧ Wst g al tr sh w iv (rsL 0 200 most) T ((bj, .row .rw (cells8 B')) :: (m, spO bj lla S.length lle) :: (rowsS ++ N)) σ') ∧
    rg = [(0, some (ptr c)), (6, some (u32 1)), (7, some (ptr w)), (9, some (.slice la V.length 1)), (106, some (.slice la V.length 1)), (107, some (i64 V.length)), (108, some (i64 i))]) (fun i => V.length - i) ?_ (a := 0) ⟨Nat.zero_le _, ⟨B, hB, by intro k v h; omega, W⟩, rfl⟩
  rintro i rg σ1 Y hY ⟨hi, ⟨B', hB', hBv, W1⟩, rfl⟩
  rw [s103l1]
  refine bmd_mk (fun h => ?_) (fun h => ?_)
  · have hi2 : i < V.length := by omega
    obtain ⟨x, hx⟩ : ∃ x, V[i]? = some x := ⟨V[i], List.getElem?_eq_getElem hi2⟩
    have hx0 := hVr x (List.mem_of_getElem? hx)
    have hlow := lowI_r hx0
    have hV' := hV
    obtain ⟨r, kk, cs, rfl, hr, hcs⟩ := hV.resolve_left (by intro h0; rw [h0] at hx; simp at hx)
    refine req_mk (by omega) (req_mk h ?_)
    simp only [pSome_some, aadd_none, szP32, Int.toNat_natCast, Nat.mul_one, Nat.zero_add]
    refine req_mk trivial (ldm W1.has (inN hr) (hcs i x hx) (tI_mk ?_))
    refine W1.ldr (j := 4) rfl (tI_mk ?_)
    refine c158 (by decide) (by decide) ?_
    simp only [tB_bool, bm_false]
    refine ldm W1.has (inN hc) rfl ?_
    simp only [tIf_if]
    refine W1.ldr (j := 4) rfl (tI_mk ?_)
    refine c82 (tI_mk ⟨trivial, ?_⟩)
    refine W1.ldr (j := 4) rfl (tI_mk ⟨rfl, ?_⟩)
    refine ldm W1.has (inN hc) rfl ?_
    simp only [tIf_if, mSet, pSome_some]
    refine ⟨trivial, ?_⟩
    have ew : IntKind.wrap .u32 (200 + IntKind.wrap .u32 (i : Int)) = ((200 + i : Nat) : Int) := by
      rw [wrapU32 (n := (i : Int)) (by omega) (by omega), wrapU32 (by omega) (by omega)]; omega
    rw [ew]
    obtain ⟨F, hF, H⟩ := W1
    refine c128 (m := m) (bj := bj) (la := lla) (ln := S.length) (le := lle) (n := 1) (M := F ++ (rowsS ++ N)) (H.sep fun a => by simp only [cnt_app, cnt_cons]; omega) hB' (.inl rfl) (by omega) (by omega) fun σ2 H2 => ?_
    refine tI_mk (bne_mk (fun h => absurd rfl h) (fun _ => ?_))
    have eb : setN B' (200 + i) (beP 1 (lowI x)) = B'.set (200 + i) (lowI x) := by
      have : beP 1 (lowI x) = [lowI x] := by
        unfold beP
        rw [if_pos rfl]
        congr 1
        omega
      rw [this, setN1 (by omega)]
    rw [eb] at H2
    rw [wrap1 (by omega)]
    refine hY (i + 1) _ _ (by omega) ⟨by omega, ⟨B'.set (200 + i) (lowI x), by simpa using hB', ?_, ⟨F, hF, H2.sep fun a => by simp only [cnt_app, cnt_cons]; omega⟩⟩, rfl⟩
    intro k v hk hv
    rcases Nat.lt_or_ge k i with h1 | h1
    · rw [List.getElem?_set_ne (by omega)]
      exact hBv k v h1 hv
    · have ek : k = i := by omega
      subst ek
      rw [hx] at hv
      obtain rfl := Option.some.inj hv
      rw [List.getElem?_set_self (by omega)]
  · have ei : i = V.length := by omega
    subst ei
    refine W1.ldk (tI_mk (beq_mk (fun _ => ?_) (fun h => absurd rfl h)))
    exact ev2 (s := s) hc har hal hV hV2 hT hsS hS W1 fun a' e' rows' σ2 hs' W2 => hK a' e' rows' B' σ2 hs' hB' (fun k v hv => hBv k v (List.getElem?_eq_some_iff.1 hv).1 hv) W2
end
end Go.AI
end
section
set_option linter.unusedSimpArgs false
set_option linter.unusedVariables false
set_option maxRecDepth 100000
/- The next event, from the first thing that is left; no condition but those that each names. -/
namespace Go.AI
open Go.Proofs
theorem imin_nat (a b : Nat) : imin (a : Int) (b : Int) = ((min a b : Nat) : Int) := by unfold imin; split <;> omega
theorem wrapN64 {n : Nat} (h : n ≤ 4611686018427387904) : IntKind.wrap .u64 (n : Int) = (n : Int) := by
  simp [IntKind.wrap, IntKind.signed, IntKind.bits]
  omega
section
variable {σ : AS} {K : Value → AS → Prop} {X : Regs → AS → Prop} {L M N : List (Nat × AObj)} {g al tr sh w : Nat} {iv v : Value} {rest : List Value} {T V : List Int}
theorem c103 {c m ar bj s p0 : Nat} {most : Nat} {lla : Option Addr} {lle : Nat} {S B : List Int} {rowsS : List (Nat × AObj)} {is : Ins} (hc : (c, callO g m ar) ∈ N) (har : (ar, AObj.row .rw [u32 4294967295]) ∈ N) (hal : (al, AObj.map (es2 w s) 2) ∈ N) (hs : (s, strO 1 0) ∈ N) (hmost : most ≤ 255) (hT : T.length ≤ 90000)
    (hib : is.length ≤ 80) (hin : ∀ p ∈ is, Inp u32 p.2.1 p.2.2 N) (hil : ∀ p ∈ is, p.2.2.length ≤ 2000) (hir : ∀ p ∈ is, ∀ x ∈ p.2.2, 0 ≤ x) (hp0 : p0 ≤ is.length) {J : List (Nat × AObj)} (hJ : ∀ x ∈ J, x ∈ N) (hiv : IvAt is p0 J iv)
    (hsS : SlC 1 lla lle (cellsU S) rowsS) (hS : S.length ≤ 100) (hB : B.length = 1024)
    (W : Wst g al tr sh w iv (rsL 1 200 most) T ((bj, .row .rw (cells8 B)) :: (m, spO bj lla S.length lle) :: (rowsS ++ N)) σ)
    (hKn : (∀ i p, p0 ≤ i → is[i]? = some p → p.1 = false) → ∀ iv' σ', IvAt is is.length J iv' → Wst g al tr sh w iv' (rsL 1 200 most) T ((bj, .row .rw (cells8 B)) :: (m, spO bj lla S.length lle) :: (rowsS ++ N)) σ' → K (.tuple ⟨[u32 0, i64 161]⟩) σ')
    (hKs : ∀ i p, p0 ≤ i → is[i]? = some p → p.1 = true → (∀ j q, p0 ≤ j → j < i → is[j]? = some q → q.1 = false) → ∀ iv' a' e' rows' B' σ', IvAt is (i + 1) J iv' → SlC 1 a' e' (cellsU (S ++ [3, 1, ((min p.2.2.length most : Nat) : Int), 0])) rows' → B'.length = 1024 →
      (∀ k v, k < most → p.2.2[k]? = some v → B'[200 + k]? = some (lowI v)) → Wst g al tr sh w iv' (rsL 0 200 most) (T ++ (p.2.2.take most).map lowI ++ [10]) ((bj, .row .rw (cells8 B')) :: (m, spO bj a' (S.length + 4) e') :: (rows' ++ N)) σ' → K (.tuple ⟨[u32 0, i64 0]⟩) σ') :
    Tri Tryz.prog 103 [ptr c] σ K := tri_in (by
  have inN : ∀ {B' : List Int} {p : Nat × AObj}, p ∈ N → p ∈ (bj, AObj.row .rw (cells8 B')) :: (m, spO bj lla S.length lle) :: (rowsS ++ N) := fun h => by simp [h]
  rw [s103]
  refine aloop (fun (p : Nat) rg σ' => p0 ≤ p ∧ p ≤ is.length ∧ (∀ j q, p0 ≤ j → j < p → is[j]? = some q → q.1 = false) ∧ (∃ iv, IvAt is p J iv ∧ Wst g al tr sh w iv (rsL 1 200 most) T ((bj, .row .rw (cells8 B)) :: (m, spO bj lla S.length lle) :: (rowsS ++ N)) σ') ∧ rg = [(0, some (ptr c))]) (fun p => is.length - p) ?_ (a := p0)
    ⟨Nat.le_refl _, hp0, by intro j q h1 h2; omega, ⟨iv, hiv, W⟩, rfl⟩
  rintro p rg σ1 Y hY ⟨h0p, hpn, hno, ⟨iv1, ⟨a, e, rfl, hn, hq⟩, W1⟩, rfl⟩
  rw [s103l]
  refine ldm W1.has (inN hc) rfl ?_
  simp only [tP_ptr, pSome_some]
  refine W1.ld4 (tL_ok hn ?_)
  refine bmd_mk (fun h => ?_) (fun h => ?_)
  · simp only at h
    have hp : p < is.length := by omega
    obtain ⟨q, rfl, hqr⟩ := hq hp
    obtain ⟨⟨b, xa, xt⟩, hpi⟩ : ∃ x, is[p]? = some x := ⟨is[p], List.getElem?_eq_getElem hp⟩
    have hpm := List.mem_of_getElem? hpi
    have hxt := hil _ hpm
    simp only at hxt
    refine ldm W1.has (inN hc) rfl ?_
    simp only [tP_ptr, pSome_some]
    refine W1.ld4 (tL_ok hn ?_)
    refine req_mk (by simp only; omega) ?_
    simp only [pSome_some, aadd_none, szP70, szP32, Int.toNat_zero, Nat.zero_mul, Nat.add_zero]
    refine ldsm W1.has (inN (hJ _ hqr)) (by rw [inCells_len]; omega) ?_
    rw [inCells_at hpi]
    simp only [tCons_cons, tB_bool]
    refine tL_mk ?_
    simp only [tNil_nil]
    refine W1.newAt fun i0 σ2 W2 => ?_
    obtain ⟨F, hF, H2⟩ := W2
    refine puts0 (k := .plain) (H2.sep (M := (i0, .row .plain [.bool false, .slice none 0 0]) :: (F ++ ((bj, .row .rw (cells8 B)) :: (m, spO bj lla S.length lle) :: (rowsS ++ N)))) fun a => by simp only [cnt_app, cnt_cons]; omega) rfl (by simp) fun σ3 H3 => ?_
    have W3 : Wst g al tr sh w (.slice (some ⟨q, p * 2, none⟩) (is.length - p) e) (rsL 1 200 most) T ((i0, .row .plain [.bool b, .slice xa xt.length 1]) :: (bj, .row .rw (cells8 B)) :: (m, spO bj lla S.length lle) :: (rowsS ++ N)) σ3 := ⟨F, hF, H3.sep fun a => by simp only [List.take_zero, List.nil_append, List.length_cons, List.length_nil, Nat.zero_add, List.drop_succ_cons, List.drop_zero, List.append_nil, cnt_app, cnt_cons]; omega⟩
    clear H3 H2
    refine ldm W3.has (List.mem_cons_of_mem _ (inN hc)) rfl ?_
    simp only [tP_ptr, pSome_some]
    refine ldm W3.has (List.mem_cons_of_mem _ (inN hc)) rfl ?_
    simp only [tP_ptr, pSome_some]
    refine W3.ld4 (tL_ok hn ?_)
    refine req_mk (by simp only; omega) (req_mk (by simp only; have := cap_ge σ3 (some ⟨q, p * 2, none⟩) 2 (is.length - p); omega) ?_)
    simp only [Option.map_some, aadd_none]
    rw [show p * 2 + Int.toNat 1 * 2 = (p + 1) * 2 from by simp; omega, show (((is.length - p : Nat) : Int) - 1).toNat = is.length - (p + 1) from by omega]
    refine W3.st4 (iv2 := .slice (some ⟨q, (p + 1) * 2, none⟩) (is.length - (p + 1)) 2) fun σ4 W4 => ?_
    have inM : ∀ {y p : Nat × AObj}, p ∈ N → p ∈ y :: (bj, AObj.row .rw (cells8 B)) :: (m, spO bj lla S.length lle) :: (rowsS ++ N) := fun h => List.mem_cons_of_mem _ (inN h)
    have hiv4 : IvAt is (p + 1) J (.slice (some ⟨q, (p + 1) * 2, none⟩) (is.length - (p + 1)) 2) := ⟨_, 2, rfl, by unfold nilOr; rw [Nat.beq_refl], fun _ => ⟨q, rfl, hqr⟩⟩
    refine ldm W4.has List.mem_cons_self rfl ?_
    simp only [tB_bool]
    refine bm_mk (fun hb => ?_) (fun hb => ?_)
    · subst hb
      refine ldm W4.has (inM hc) rfl ?_
      simp only [tP_ptr]
      refine W4.waits (s := s) (inM hal) (inM hs) fun σ5 W5 => ?_
      rw [if_pos rfl]
      refine tI_mk (beq_mk (fun h => absurd h (by decide)) (fun _ => ?_))
      refine ldm W5.has (inM hc) rfl ?_
      simp only [tP_ptr, pSome_some]
      refine W5.ld1 ?_
      simp only [tM_map]
      have hfn : Instr.findNow (.int .u32) (u32 1) (es2 w s) 0 = some (some (0, ptr w)) := rfl
      rw [mget_eq (W5.has.g (inM hal)), hfn]
      simp only [pSome_some, Option.map, Option.getD, tP_ptr]
      refine W5.str (j := 3) (by simp [rsL]) fun σ6 W6 => ?_
      have W7 : Wst g al tr sh w (.slice (some ⟨q, (p + 1) * 2, none⟩) (is.length - (p + 1)) 2) (rsL 0 200 most) T ((i0, .row .plain [.bool true, .slice xa xt.length 1]) :: (bj, .row .rw (cells8 B)) :: (m, spO bj lla S.length lle) :: (rowsS ++ N)) σ6 := W6
      clear W6 W5 W4 W3
      refine ldm W7.has List.mem_cons_self rfl ?_
      simp only [tB_bool, Bool.not_true, bm_false]
      refine ldm W7.has List.mem_cons_self rfl (tL_mk ?_)
      refine ldm W7.has List.mem_cons_self rfl (tL_mk ?_)
      refine W7.ldr (j := 5) rfl (tI_mk ?_)
      simp only
      rw [wrapN64 (by omega), wrapN64 (by omega), imin_nat]
      have ecnt : (((min xt.length most : Nat) : Int) - 0).toNat = (xt.take most).length := by simp; omega
      rw [ecnt]
      have hcap := cap_ge σ6 xa 1 xt.length
      refine req_mk (by omega) (req_mk (by omega) ?_)
      have hV : InpP (xa.map fun x => aadd x 0) (xt.take most) N := by
        rcases hin _ hpm with h0 | ⟨r, k, h1, h2⟩
        · exact .inl (by simp only at h0; rw [h0]; simp)
        · refine .inr ⟨r, k, xt.map u32, by simp only at h1; rw [h1]; rfl, h2, fun k v hv => ?_⟩
          have hk : k < most := by
            have := (List.getElem?_eq_some_iff.1 hv).1
            simp at this; omega
          rw [List.getElem?_take_of_lt hk] at hv
          rw [List.getElem?_map, hv]; rfl
      have W8 := W7.sep (N := (bj, .row .rw (cells8 B)) :: (m, spO bj lla S.length lle) :: (rowsS ++ N)) (fun a => by simp only [cnt_app, cnt_cons]; omega)
      refine ev1 (s := s) (most := most) hc har hal hV (by simp; omega) (fun x hx => hir _ hpm x (List.mem_of_mem_take hx)) hT hsS hS hB W8 fun a' e' rows' B' σ7 hs' hB' hv W9 => ?_
      refine hKs p _ h0p hpi rfl hno _ a' e' rows' B' σ7 hiv4 ?_ hB' (fun k v hk hkv => hv k v (by rw [List.getElem?_take_of_lt hk]; exact hkv)) W9
      simpa [Nat.min_comm] using hs'
    · subst hb
      refine ldm W4.has (inM hc) rfl ?_
      simp only [tP_ptr]
      refine W4.waits (s := s) (inM hal) (inM hs) fun σ5 W5 => ?_
      rw [if_neg (by decide)]
      refine tI_mk (beq_mk (fun _ => ?_) (fun h => absurd rfl h))
      refine hY (p + 1) _ _ (by omega) ⟨by omega, by omega, ?_, ⟨_, hiv4, W5.sep fun a => by simp only [cnt_app, cnt_cons]; omega⟩, rfl⟩
      intro j q h1 h2 h3
      rcases Nat.lt_or_ge j p with h4 | h4
      · exact hno j q h1 h4 h3
      · have ej : j = p := by omega
        subst ej
        rw [hpi] at h3
        rw [← Option.some.inj h3]
  · have ep : p = is.length := by simp only at h; omega
    subst ep
    exact hKn (fun i q h1 h2 => hno i q h1 (List.getElem?_eq_some_iff.1 h2).1 h2) _ σ1 ⟨a, e, rfl, hn, hq⟩ W1)
end
end Go.AI
end
section
set_option linter.unusedSimpArgs false
set_option linter.unusedVariables false
set_option maxRecDepth 100000
/- Calls upon a world with one window: a line asked for, the next event, what is left; no condition but those that each names. -/
namespace Go.AI
open Go.Proofs
section
variable {σ : AS} {K : Value → AS → Prop} {X : Regs → AS → Prop} {L M N : List (Nat × AObj)} {g al tr sh w : Nat} {iv v : Value} {rest : List Value} {T V : List Int}
theorem Inp.cons {a : Option Addr} {l : List Int} {y : Nat × AObj} (h : Inp u32 a l N) : Inp u32 a l (y :: N) := h.mono fun p hp => List.mem_cons_of_mem _ hp
theorem c16se {m ar bj s p0 : Nat} {most : Nat} {lla : Option Addr} {lle : Nat} {S B : List Int} {rowsS : List (Nat × AObj)} {is : Ins} (har : (ar, AObj.row .rw [u32 4294967295]) ∈ N) (hal : (al, AObj.map (es2 w s) 2) ∈ N) (hs : (s, strO 1 0) ∈ N) (hmost : most ≤ 255) (hT : T.length ≤ 90000)
    (hib : is.length ≤ 80) (hin : ∀ p ∈ is, Inp u32 p.2.1 p.2.2 N) (hil : ∀ p ∈ is, p.2.2.length ≤ 2000) (hir : ∀ p ∈ is, ∀ x ∈ p.2.2, 0 ≤ x) (hp0 : p0 ≤ is.length) {J : List (Nat × AObj)} (hJ : ∀ x ∈ J, x ∈ N) (hiv : IvAt is p0 J iv)
    (hsS : SlC 1 lla lle (cellsU S) rowsS) (hS : S.length ≤ 100) (hB : B.length = 1024)
    (W : Wst g al tr sh w iv (rsL 1 200 most) T ((bj, .row .rw (cells8 B)) :: (m, spO bj lla S.length lle) :: (rowsS ++ N)) σ)
    (hKn : (∀ i p, p0 ≤ i → is[i]? = some p → p.1 = false) → ∀ iv' σ', IvAt is is.length J iv' → Wst g al tr sh w iv' (rsL 1 200 most) T ((bj, .row .rw (cells8 B)) :: (m, spO bj lla S.length lle) :: (rowsS ++ N)) σ' → K (.tuple ⟨[u32 0, i64 161]⟩) σ')
    (hKs : ∀ i p, p0 ≤ i → is[i]? = some p → p.1 = true → (∀ j q, p0 ≤ j → j < i → is[j]? = some q → q.1 = false) → ∀ iv' a' e' rows' B' σ', IvAt is (i + 1) J iv' → SlC 1 a' e' (cellsU (S ++ [3, 1, ((min p.2.2.length most : Nat) : Int), 0])) rows' → B'.length = 1024 →
      (∀ k v, k < most → p.2.2[k]? = some v → B'[200 + k]? = some (lowI v)) → Wst g al tr sh w iv' (rsL 0 200 most) (T ++ (p.2.2.take most).map lowI ++ [10]) ((bj, .row .rw (cells8 B')) :: (m, spO bj a' (S.length + 4) e') :: (rows' ++ N)) σ' → K (.tuple ⟨[u32 0, i64 0]⟩) σ') :
    Tri Tryz.prog 16 [ptr g, .iface 29 (ptr m), u32 192, .slice (some ⟨ar, 0, none⟩) 1 1] σ K := tri_in (by
  rw [s16se]
  refine W.ld7 ?_
  simp only [tB_bool, bm_false]
  refine tri_hard ?_
  rw [n46i]
  refine tI_mk (bne_mk (fun h => absurd rfl h) (fun _ => ?_))
  refine W.newAt fun c σ1 W1 => tri_in ?_
  rw [s52se]
  refine c103 (m := m) (bj := bj) (N := (c, callO g m ar) :: N) (s := s) (ar := ar) (most := most) (is := is) (p0 := p0) List.mem_cons_self (List.mem_cons_of_mem _ har) (List.mem_cons_of_mem _ hal) (List.mem_cons_of_mem _ hs) hmost hT hib (fun p hp => (hin p hp).cons) hil hir hp0 (fun x hx => List.mem_cons_of_mem _ (hJ x hx)) hiv hsS hS hB (W1.sep fun a => by simp only [callO, ptr, cnt_app, cnt_cons]; omega) ?_ ?_
  · intro h iv' σ2 h2 W2
    simp only [tTup_tup, pSome_some, List.getElem?_cons_zero, List.getElem?_cons_succ, tI_int]
    exact hKn h iv' σ2 h2 (W2.sep fun a => by simp only [cnt_app, cnt_cons]; omega)
  · intro i p h1 h2 h3 h4 iv' a' e' rows' B' σ2 h5 h6 h7 h8 W2
    simp only [tTup_tup, pSome_some, List.getElem?_cons_zero, List.getElem?_cons_succ, tI_int]
    exact hKs i p h1 h2 h3 h4 iv' a' e' rows' B' σ2 h5 h6 h7 h8 (W2.sep fun a => by simp only [cnt_app, cnt_cons]; omega))
theorem Wst.put0 {j o : Nat} {k : RK} {cs : List Value} {Gs : AS → Prop} (h : Wst g al tr sh w iv rest T ((j, .row k cs) :: M) σ) (hk : k.own = true) (ho : o < cs.length) (hG : ∀ σ', Wst g al tr sh w iv rest T ((j, .row k (cs.set o v)) :: M) σ' → Gs σ') : put1 σ ⟨j, o, none⟩ v Gs := by
  obtain ⟨F, hF, H⟩ := h
  refine Go.AI.put0 (H.sep (M := (j, .row k cs) :: (F ++ M)) fun a => by simp only [cnt_app, cnt_cons]; omega) hk ho fun σ' H' => ?_
  exact hG σ' ⟨F, hF, H'.sep fun a => by simp only [cnt_app, cnt_cons]; omega⟩
theorem Wst.ask {s m ar : Nat} {b0 m0 most : Int} (h : Wst g al tr sh w iv (rsL 0 b0 m0) T M σ) (hal : (al, AObj.map (es2 w s) 2) ∈ M) (har : (ar, AObj.row .rw [u32 1, u32 200, u32 most, u32 0]) ∈ M) (hK : ∀ σ', Wst g al tr sh w iv (rsL 1 200 most) T M σ' → K (.tuple ⟨[u32 0, i64 0]⟩) σ') :
    Tri Tryz.prog 16 [ptr g, .iface 29 (ptr m), u32 208, .slice (some ⟨ar, 0, none⟩) 4 1] σ K := by
  obtain ⟨F, ⟨oa, on, oe, os, ta, te, rowsO, rowsT, hsT, hsO, hon, hop, rfl⟩, H⟩ := h
  refine c16la (M := (g, glI iv 2 al tr sh oa on oe 0) :: (rowsT ++ (rowsO ++ (outRows os ++ M)))) (id := 1) (buf := 200) (most := most) (b0 := b0) (m0 := m0) (pane := 1) (str := 2) (es := es2 w s) (ec := 2) (i := 0) (n := 2) (cur := 0) (tr := tr) (sh := sh) (al := al) (oa := oa) (on := on) (oe := oe) (w := w) (ta := ta) (tn := T.length) (te := te) List.mem_cons_self (by simp [hal]) rfl (by simp [har]) (H.sep fun a => by simp only [cnt_app, cnt_cons]; omega) fun σ' H' => ?_
  exact hK σ' ⟨_, ⟨oa, on, oe, os, ta, te, rowsO, rowsT, hsT, hsO, hon, hop, rfl⟩, H'.sep fun a => by simp only [cnt_app, cnt_cons]; omega⟩
theorem Wst.left {is : Ins} {p : Nat} (h : Wst g al tr sh w iv rest T M σ) (hiv : IvAt is p N iv) (hK : K (i64 ((is.length - p : Nat) : Int)) σ) : Tri Tryz.prog 28 [ptr g] σ K := tri_in (by
  rw [s28]
  obtain ⟨a, e, rfl, h2, h3⟩ := hiv
  exact h.ld4 (tL_ok h2 hK))
theorem Wst.wstr {s m ar : Nat} (h : Wst g al tr sh w iv rest T M σ) (hal : (al, AObj.map (es2 w s) 2) ∈ M) (har : (ar, AObj.row .rw [u32 1]) ∈ M) (hK : ∀ σ', Wst g al tr sh w iv rest T M σ' → K (.tuple ⟨[u32 2, i64 0]⟩) σ') :
    Tri Tryz.prog 16 [ptr g, .iface 29 (ptr m), u32 44, .slice (some ⟨ar, 0, none⟩) 1 1] σ K := by
  obtain ⟨F, ⟨oa, on, oe, os, ta, te, rowsO, rowsT, hsT, hsO, hon, hop, rfl⟩, H⟩ := h
  refine c16ws (M := (w, winI rest 1 2 ta T.length te) :: (rowsT ++ (rowsO ++ (outRows os ++ M)))) (id := 1) (pane := 1) (str := 2) (es := es2 w s) (ec := 2) (i := 0) (n := 2) (cur := 0) (iv := iv) (tr := tr) (sh := sh) (al := al) (oa := oa) (on := on) (oe := oe) (w := w) (rest := rest) (ta := ta) (tn := T.length) (te := te) (by simp [hal]) rfl List.mem_cons_self (by simp [har]) (H.sep fun a => by simp only [cnt_app, cnt_cons]; omega) fun σ' H' => ?_
  exact hK σ' ⟨_, ⟨oa, on, oe, os, ta, te, rowsO, rowsT, hsT, hsO, hon, hop, rfl⟩, H'.sep fun a => by simp only [cnt_app, cnt_cons]; omega⟩
theorem Wst.tell {s m ar : Nat} (h : Wst g al tr sh w iv rest T M σ) (hal : (al, AObj.map (es2 w s) 2) ∈ M) (hs : (s, strO 1 0) ∈ M) (har : (ar, AObj.row .rw [u32 2]) ∈ M) (hK : ∀ σ', Wst g al tr sh w iv rest T M σ' → K (.tuple ⟨[u32 0, i64 0]⟩) σ') :
    Tri Tryz.prog 16 [ptr g, .iface 29 (ptr m), u32 70, .slice (some ⟨ar, 0, none⟩) 1 1] σ K := by
  obtain ⟨F, ⟨oa, on, oe, os, ta, te, rowsO, rowsT, hsT, hsO, hon, hop, rfl⟩, H⟩ := h
  refine c16tl (M := (w, winI rest 1 2 ta T.length te) :: (rowsT ++ (rowsO ++ (outRows os ++ M)))) (id := 2) (win := 1) (wr := 0) (es := es2 w s) (ec := 2) (i := 1) (s := s) (n := 2) (cur := 0) (iv := iv) (tr := tr) (sh := sh) (al := al) (oa := oa) (on := on) (oe := oe) (by decide) (by simp [hal]) rfl (by simp [hs]) (by simp [har]) (H.sep fun a => by simp only [cnt_app, cnt_cons]; omega) fun σ' H' => ?_
  exact hK σ' ⟨_, ⟨oa, on, oe, os, ta, te, rowsO, rowsT, hsT, hsO, hon, hop, rfl⟩, H'.sep fun a => by simp only [cnt_app, cnt_cons]; omega⟩
theorem Wst.text {s : Nat} (h : Wst g al tr sh w iv rest T M σ) (hal : (al, AObj.map (es2 w s) 2) ∈ M) (hT : T.length ≤ 100000) (hK : ∀ a' e' rows' σ', SlC 1 a' e' (cellsU T) rows' → Has σ' (rows' ++ M) → K (.slice a' T.length e') σ') : Tri Tryz.prog 19 [ptr g, u32 1] σ K := by
  obtain ⟨F, ⟨oa, on, oe, os, ta, te, rowsO, rowsT, hsT, hsO, hon, hop, hFe⟩, H⟩ := h
  refine c19 (al := al) (es := es2 w s) (ec := 2) (w := w) (id := 1) (pane := 1) (str := 2) (i := 0) (iv := iv) (n := 2) (cur := 0) (tr := tr) (sh := sh) (oa := oa) (on := on) (oe := oe) (rest := rest) (ta := ta) (te := te) (L := F ++ M) (by rw [hFe]; simp) (by simp [hal]) rfl (by rw [hFe]; simp) hsT (fun p hp => by rw [hFe]; simp [hp]) hT H fun a' e' rows' σ' hs' H' => ?_
  exact hK a' e' rows' σ' hs' (H'.sep fun a => by simp only [cnt_app, cnt_cons]; omega)
theorem c18g {a a2 : Option Addr} {e e2 : Nat} {V : List Int} {rows rows2 : List (Nat × AObj)} (hs : SlC 1 a e (cellsU V) rows) (hr : ∀ p ∈ rows, p ∈ L) (hs2 : SlC 1 a2 e2 (cellsU V) rows2) (hr2 : ∀ p ∈ rows2, p ∈ L) (hV : V.length ≤ 4096) (H : Has σ L) (hK : K (.bool true) σ) :
    Tri Tryz.prog 18 [.slice a V.length e, .slice a2 V.length e2] σ K := tri_in (by
  rw [s18g]
  refine bne_mk (fun h => absurd rfl h) (fun _ => ?_)
  refine aloop (fun (i : Nat) rg σ' => i ≤ V.length ∧ σ' = σ ∧ rg = [(0, some (.slice a V.length e)), (1, some (.slice a2 V.length e2)), (5, some (i64 i))]) (fun i => V.length - i) ?_ (a := 0) ⟨Nat.zero_le _, rfl, rfl⟩
  rintro i rg σ1 X hX ⟨hi, rfl, rfl⟩
  rw [s18l]
  refine bmd_mk (fun h => ?_) (fun h => hK)
  have hi2 : i < V.length := by omega
  obtain ⟨v, hv⟩ : ∃ v, V[i]? = some v := ⟨V[i]'hi2, by simp⟩
  obtain ⟨q, rfl, rfl, rfl⟩ := hs.at (p := i) (by simpa using hi2)
  obtain ⟨q2, rfl, rfl, rfl⟩ := hs2.at (p := i) (by simpa using hi2)
  refine req_mk (by omega) (req_mk h ?_)
  simp only [pSome_some, aadd_none, szP32, Int.toNat_natCast, Nat.mul_one, Nat.zero_add]
  refine req_mk trivial (ldm H (hr _ (List.mem_singleton.2 rfl)) (cU hv) (tI_mk ?_))
  refine req_mk (by omega) (req_mk h (req_mk trivial (ldm H (hr2 _ (List.mem_singleton.2 rfl)) (cU hv) (tI_mk ?_))))
  refine bne_mk (fun h => absurd rfl h) (fun _ => ?_)
  rw [wrap1 (by omega)]
  exact hX (i + 1) _ _ (by omega) ⟨by omega, rfl, rfl⟩)
end
end Go.AI
end
section
set_option linter.unusedSimpArgs false
set_option linter.unusedVariables false
set_option maxRecDepth 100000
/- The law of lines holds for all plain inputs; no condition but those that each names. -/
namespace Go.AI
open Go.Proofs
section
variable {σ : AS} {K : Value → AS → Prop} {X : Regs → AS → Prop} {L M N : List (Nat × AObj)} {g al tr sh w : Nat} {iv v : Value} {rest : List Value} {T V : List Int}
def lnR (ia : Option Addr) (n : Nat) (most g m : Nat) (sa : Option Addr) (sn se : Nat) (i : Nat) : Regs :=
  [(0, some (.slice ia n 2)), (1, some (.int .u8 most)), (5, some (ptr g)), (7, some (ptr m)), (8, some (u32 1)), (10, some (.slice sa sn se)), (11, some (i64 i))]
/-- Each character of a line is seen where it was asked for. -/
theorem ln_in {ia : Option Addr} {is : Ins} {i m bj most : Nat} {p : Bool × Option Addr × List Int} {sa : Option Addr} {se : Nat} {rowsN : List (Nat × AObj)} {cnt : Nat} {B S : List Int} {lla : Option Addr} {lle : Nat}
    (hia : is = [] ∨ ∃ r k, ia = some ⟨r, 0, none⟩ ∧ (r, AObj.row k (inCells is)) ∈ N) (hp : is[i]? = some p) (hib : is.length ≤ 80) (hin : Inp u32 p.2.1 p.2.2 N) (hir : ∀ x ∈ p.2.2, 0 ≤ x ∧ x ≤ 4294967295) (hcnt : cnt = min p.2.2.length most) (hmost : most ≤ 255)
    (hT : T.length ≤ 80000) (hsN : SlC 1 sa se (cellsU T) rowsN) (hB : B.length = 1024) (hBv : ∀ k v, k < most → p.2.2[k]? = some v → B[200 + k]? = some (lowI v))
    (hbj : (bj, AObj.row .rw (cells8 B)) ∈ N) (hm : (m, spO bj lla S.length lle) ∈ N) (H : Has σ (rowsN ++ N))
    (hX : ∀ sa' rowsN' σ', SlC 1 sa' 1 (cellsU (T ++ (p.2.2.take most).map lowI ++ [10])) rowsN' → Has σ' (rowsN' ++ N) → X (lnR ia is.length most g m sa' (T.length + cnt + 1) 1 (i + 1)) σ') :
    ALoop (fl Tryz.prog hintsS (Tri Tryz.prog) 7 [true, true, true, true, true, true, true, false, true, false, false, true, false, false, true, true, true, true, true, true, false, true, false] [X] K)
      [(0, some (.slice ia is.length 2)), (1, some (.int .u8 most)), (5, some (ptr g)), (7, some (ptr m)), (8, some (u32 1)), (10, some (.slice sa T.length se)), (11, some (i64 i)), (12, some (i64 cnt)), (15, some (i64 0))] σ := by
  have hil : i < is.length := (List.getElem?_eq_some_iff.1 hp).1
  obtain ⟨r, kk, rfl, hr⟩ := hia.resolve_left (by intro h0; rw [h0] at hp; simp at hp)
  refine aloop (fun (k : Nat) rg σ' => k ≤ cnt ∧ (∃ sa se rowsN, SlC 1 sa se (cellsU (T ++ (p.2.2.take k).map lowI)) rowsN ∧ Has σ' (rowsN ++ N) ∧
    rg = [(0, some (.slice (some ⟨r, 0, none⟩) is.length 2)), (1, some (.int .u8 most)), (5, some (ptr g)), (7, some (ptr m)), (8, some (u32 1)), (10, some (.slice sa (T.length + k) se)), (11, some (i64 i)), (12, some (i64 cnt)), (15, some (i64 k))])) (fun k => cnt - k) ?_ (a := 0)
    ⟨Nat.zero_le _, sa, se, rowsN, by simpa using hsN, H, rfl⟩
  rintro k rg σ1 Y hY ⟨hk, sa1, se1, rowsN1, hs1, H1, rfl⟩
  rw [s7l1]
  refine bmd_mk (fun h => ?_) (fun h => ?_)
  · have hk2 : k < p.2.2.length := by omega
    obtain ⟨x, hx⟩ : ∃ x, p.2.2[k]? = some x := ⟨p.2.2[k], List.getElem?_eq_getElem hk2⟩
    obtain ⟨r2, kk2, ha2, hr2⟩ := hin.resolve_left (by intro h0; rw [h0] at hx; simp at hx)
    have hxr := hir x (List.mem_of_getElem? hx)
    have hb := hBv k x (by omega) hx
    have hlow := lowI_r hxr.1
    have htk : p.2.2.take (k + 1) = p.2.2.take k ++ [x] := by rw [List.take_add_one, hx]; rfl
    have hlk : (p.2.2.take k).length = k := by simp; omega
    refine req_mk (by omega) (req_mk (by omega) ?_)
    simp only [pSome_some, aadd_none, szP70, szP32, szP5, Int.toNat_natCast, Nat.mul_one, Nat.zero_add]
    refine req_mk trivial (ldm H1 (List.mem_append_right _ hr) (inCells_1 hp) (tL_mk ?_))
    simp only
    refine req_mk (by omega) (req_mk (by omega) ?_)
    rw [ha2]
    simp only [pSome_some, aadd_none, Nat.zero_add]
    have hxu : (p.2.2.map u32)[k]? = some (u32 x) := by rw [List.getElem?_map, hx]; rfl
    refine ldm H1 (List.mem_append_right _ hr2) hxu (tI_mk ?_)
    have ew : IntKind.wrap .i64 (200 + (k : Int)) = ((200 + k : Nat) : Int) := by rw [wrap64 (by omega) (by omega)]; omega
    rw [ew]
    have hb8 : (cells8 B)[200 + k]? = some (u8 (lowI x)) := c8get hb
    have done : ∀ (y : Int), y = lowI x → newAt σ1 (.row .rw [u32 y]) fun i0 σ2 => chk (nilOr sa1 se1 1) (lds σ2 ⟨i0, 0, none⟩ 1 fun l => appendTo σ2 1 4 ⟨sa1, T.length + k⟩ l 1 fun s14 σ15 =>
        Y [(0, some (.slice (some ⟨r, 0, none⟩) is.length 2)), (1, some (.int .u8 most)), (5, some (ptr g)), (7, some (ptr m)), (8, some (u32 1)), (10, some (.slice s14.a s14.n 1)), (11, some (i64 i)), (12, some (i64 cnt)), (15, some (i64 (IntKind.wrap .i64 ((k : Int) + 1))))] σ15) := by
      intro y hy
      subst hy
      refine pushC (new := [u32 (lowI x)]) (X := N) hs1 H1 (by simp [hlk]; omega) rfl (by omega) (by omega) fun sa' σ2 rows' hs' H2 => ?_
      rw [wrap1 (by omega)]
      refine hY (k + 1) _ _ (by omega) ⟨by omega, sa', 1, rows', ?_, H2, rfl⟩
      rw [htk, List.map_append, ← List.append_assoc]
      simpa [cellsU] using hs'
    refine bmd_mk (fun hgt => ?_) (fun hle => ?_)
    · refine ldm H1 (List.mem_append_right _ hm) rfl (tL_mk ?_)
      simp only
      refine req_mk (by omega) (req_mk (by omega) ?_)
      simp only [pSome_some, aadd_none, Int.toNat_natCast, Nat.mul_one, Nat.zero_add]
      refine ldm H1 (List.mem_append_right _ hbj) hb8 (tI_mk ?_)
      rw [wrapU32 (by omega) (by omega)]
      have e63 : lowI x = 63 := by unfold lowI; rw [if_pos hgt]
      refine bne_mk (fun h => absurd e63 h) (fun _ => done 63 e63.symm)
    · refine ldm H1 (List.mem_append_right _ hm) rfl (tL_mk ?_)
      simp only
      refine req_mk (by omega) (req_mk (by omega) ?_)
      simp only [pSome_some, aadd_none, Int.toNat_natCast, Nat.mul_one, Nat.zero_add]
      refine ldm H1 (List.mem_append_right _ hbj) hb8 (tI_mk ?_)
      rw [wrapU32 (by omega) (by omega)]
      have ex : lowI x = x := by unfold lowI; rw [if_neg hle]
      refine bne_mk (fun h => absurd ex h) (fun _ => done x ex.symm)
  · have ek : k = cnt := by omega
    have etk : p.2.2.take k = p.2.2.take most := by
      rw [ek, hcnt]
      rcases Nat.le_total p.2.2.length most with h1 | h1
      · rw [Nat.min_eq_left h1, List.take_length, List.take_of_length_le h1]
      · rw [Nat.min_eq_right h1]
    have hlk : (p.2.2.take k).length = k := by simp; omega
    simp only [szP32]
    refine pushC (new := [u32 10]) (X := N) hs1 H1 (by simp [hlk]; omega) rfl (by omega) (by omega) fun sa' σ2 rows' hs' H2 => ?_
    rw [wrap1 (by omega), ek]
    refine hX sa' rows' σ2 ?_ H2
    rw [← etk]
    simpa [cellsU, List.append_assoc] using hs'
theorem inP_at {is is2 : Ins} (h : inP is2 = inP is) {i : Nat} {p : Bool × Option Addr × List Int} (hp : is[i]? = some p) : ∃ a2, is2[i]? = some (p.1, a2, p.2.2) := by
  have h1 : (inP is2)[i]? = some (p.1, p.2.2) := by rw [h]; unfold inP; rw [List.getElem?_map, hp]; rfl
  unfold inP at h1
  rw [List.getElem?_map] at h1
  cases h2 : is2[i]? with
  | none => rw [h2] at h1; simp at h1
  | some q =>
    rw [h2] at h1
    obtain ⟨b, a2, t⟩ := q
    simp only [Option.map_some, Option.some.injEq, Prod.mk.injEq] at h1
    exact ⟨a2, by rw [← h1.1, ← h1.2]⟩
theorem inP_mem {is is2 : Ins} (h : inP is2 = inP is) {p : Bool × Option Addr × List Int} (hp : p ∈ is2) : ∃ q ∈ is, q.1 = p.1 ∧ q.2.2 = p.2.2 := by
  have h1 : (p.1, p.2.2) ∈ inP is := by rw [← h]; unfold inP; exact List.mem_map.2 ⟨p, hp, rfl⟩
  unfold inP at h1
  obtain ⟨q, hq, he⟩ := List.mem_map.1 h1
  simp only [Prod.mk.injEq] at he
  exact ⟨q, hq, he.1, he.2⟩
theorem inP_len {is is2 : Ins} (h : inP is2 = inP is) : is2.length = is.length := by
  have := congrArg List.length h
  unfold inP at this
  simpa using this
theorem ln_law {ia : Option Addr} {is : Ins} {most : Nat} (H : Has σ M) (hia : is = [] ∨ ∃ r k, ia = some ⟨r, 0, none⟩ ∧ (r, AObj.row k (inCells is)) ∈ M) (hin : ∀ p ∈ is, Inp u32 p.2.1 p.2.2 M) (hl : ∀ p ∈ is, p.2.2.length ≤ 140737488355328) (hir : ∀ p ∈ is, ∀ x ∈ p.2.2, 0 ≤ x ∧ x ≤ 4294967295) (hmost : most ≤ 255) :
    Tri Tryz.prog 7 [.slice ia is.length 2, .int .u8 most] σ RB := tri_in (by
  rw [s7]
  refine c27 hia hl H ?_ (fun h80 ht => ?_)
  · simp only [tB_bool, bm_true]
    exact c12 rfl
  simp only [tB_bool, bm_false]
  refine c13in hia hin h80 (fun p hp => Nat.le_trans (totI_mem hp) ht) H fun tm tr fm sm sh al g ja je is2 rI rL σ1 hsI hpI hin2 H1 => ?_
  simp only [tTup_tup, pSome_some, List.getElem?_cons_zero, List.getElem?_cons_succ, tI_int, tP_ptr]
  refine c15 (tI_mk (bne_mk (fun h => absurd rfl h) (fun _ => ?_)))
  simp only [ptrEq_some, bm_false]
  refine c14 H1 fun m bj σ2 H2 => ?_
  simp only [tP_ptr]
  refine newAt_mk H2 fun ar σ3 H3 => ?_
  refine c16o (M := rL ++ M) (n := is2.length) (B := List.replicate 1024 0) (tm := tm) (tr := tr) (fm := fm) (sm := sm) (sh := sh) (al := al) (g := g) (m := m) (bj := bj) hsI (H3.sep fun a => by simp only [u32, cnt_app, cnt_cons, cnt_nil]; omega) fun w s σ4 H4 => ?_
  simp only [tTup_tup, pSome_some, List.getElem?_cons_zero, List.getElem?_cons_succ, tI_int]
  have hlen2 := inP_len hpI
  have hil2 : ∀ p ∈ is2, p.2.2.length ≤ 2000 := fun p hp => by
    obtain ⟨q, hq, h1, h2⟩ := inP_mem hpI hp
    rw [← h2]; exact Nat.le_trans (totI_mem hq) ht
  have hir2 : ∀ p ∈ is2, ∀ x ∈ p.2.2, 0 ≤ x := fun p hp x hx => by
    obtain ⟨q, hq, h1, h2⟩ := inP_mem hpI hp
    rw [← h2] at hx
    exact (hir q hq x hx).1
  generalize hN : (al, AObj.map (es2 w s) 2) :: (s, strO 1 0) :: (rI ++ (rL ++ M)) = N
  have hal : (al, AObj.map (es2 w s) 2) ∈ N := by rw [← hN]; simp
  have hs : (s, strO 1 0) ∈ N := by rw [← hN]; simp
  have hJ : ∀ x ∈ rI, x ∈ N := fun x hx => by rw [← hN]; simp [hx]
  have hM : ∀ x ∈ M, x ∈ N := fun x hx => by rw [← hN]; simp [hx]
  have hinN : ∀ p ∈ is2, Inp u32 p.2.1 p.2.2 N := fun p hp => (hin2 p hp).mono fun x hx => by rw [← hN]; simp [hx]
  have W0 : Wst g al tr sh w (.slice ja is2.length je) (rsL 0 0 0) [] ((bj, .row .rw (cells8 (List.replicate 1024 0))) :: (m, spO bj none 0 0) :: N) σ4 := by
    rw [← hN]
    exact ⟨_, ⟨none, 0, 0, [], none, 0, [], [], SlC.nil 0, SlC.nil 0, rfl, rfl, rfl⟩, H4.sep fun a => by simp only [outRows, List.map_nil, List.length_nil, cnt_app, cnt_cons, cnt_nil]; omega⟩
  have hiv0 : IvAt is2 0 rI (.slice ja is2.length je) := ⟨ja, je, rfl, hsI.no, fun h => by
    obtain ⟨j, h1, h2, h3⟩ := hsI.at (p := 0) (by rw [inCells_len]; omega)
    exact ⟨j, by simpa using h1, by rw [h3]; simp⟩⟩
  clear H4 H3 H2 H1
  refine aloop (fun (i : Nat) rg σ' => i ≤ is.length ∧ ∃ p T sa se rowsN B S lla lle rowsS iv b0 m0, p ≤ i ∧ (∀ j q, p ≤ j → j < i → is2[j]? = some q → q.1 = false) ∧ IvAt is2 p rI iv ∧ SlC 1 sa se (cellsU T) rowsN ∧ B.length = 1024 ∧ SlC 1 lla lle (cellsU S) rowsS ∧ S.length ≤ 4 ∧ T.length ≤ totI (is.take i) + i ∧
      Wst g al tr sh w iv (rsL 0 b0 m0) T ((bj, .row .rw (cells8 B)) :: (m, spO bj lla S.length lle) :: (rowsS ++ (rowsN ++ N))) σ' ∧ rg = lnR ia is.length most g m sa T.length se i) (fun i => is.length - i) ?_ (a := 0)
    ⟨Nat.zero_le _, 0, [], none, 0, [], List.replicate 1024 0, [], none, 0, [], _, 0, 0, Nat.le_refl _, (by intro j q h1 h2; omega), hiv0, SlC.nil 0, by simp, SlC.nil 0, by simp, by simp, W0, rfl⟩
  rintro i rg σ5 Y hY ⟨hi, p, T, sa, se, rowsN, B, S, lla, lle, rowsS, iv, b0, m0, hpi, hno, hiv, hsN, hB, hsS, hS, hT, W, rfl⟩
  have htt : totI (is.take i) ≤ 2000 := by
    have e : totI is = totI (is.take i) + totI (is.drop i) := by
      unfold totI
      rw [← List.sum_append, ← List.map_append, List.take_append_drop]
    omega
  unfold lnR
  rw [s7l]
  refine bmd_mk (fun h => ?_) (fun h => ?_)
  · have hil : i < is.length := by omega
    obtain ⟨⟨b, xa, xt⟩, hx⟩ : ∃ x, is[i]? = some x := ⟨is[i], List.getElem?_eq_getElem hil⟩
    have hxm := List.mem_of_getElem? hx
    obtain ⟨a2, hx2⟩ := inP_at hpI hx
    simp only at hx2
    obtain ⟨r, kk, hra, hr⟩ := hia.resolve_left (by intro h0; rw [h0] at hx; simp at hx)
    rw [hra]
    have hxt : xt.length ≤ 2000 := Nat.le_trans (totI_mem hxm) ht
    refine req_mk (by omega) (req_mk h ?_)
    simp only [pSome_some, aadd_none, add_none, szP70, Int.toNat_natCast, Nat.zero_add, Nat.add_zero]
    have hrW : ∀ {σ' : AS} {iv' rest' T' M'}, Wst g al tr sh w iv' rest' T' M' σ' → (∀ x ∈ N, x ∈ M') → Has σ' M' ∧ (r, AObj.row kk (inCells is)) ∈ M' := fun W' h' => ⟨W'.has, h' _ (hM _ hr)⟩
    have hw1 := hrW W (fun x hx => by simp [hx])
    refine req_mk trivial (ldm hw1.1 hw1.2 (inCells_0 hx) ?_)
    simp only [tB_bool]
    refine bnot_mk (fun hb => ?_) (fun hb => ?_)
    · rw [wrap1 (by omega)]
      refine hY (i + 1) _ _ (by omega) ⟨by omega, p, T, sa, se, rowsN, B, S, lla, lle, rowsS, iv, b0, m0, by omega, ?_, hiv, hsN, hB, hsS, hS, ?_, W, by rw [hra]; rfl⟩
      · intro j q h1 h2 h3
        rcases Nat.lt_or_ge j i with h4 | h4
        · exact hno j q h1 h4 h3
        · have ej : j = i := by omega
          subst ej
          rw [hx2] at h3
          rw [← Option.some.inj h3]
          exact hb
      · rw [totI_snoc hx]; omega
    · subst hb
      refine req_mk (by omega) (req_mk h ?_)
      refine req_mk trivial (ldm hw1.1 hw1.2 (inCells_1 hx) (tL_mk ?_))
      simp only
      have W1 := W.sep (N := (m, spO bj lla S.length lle) :: (bj, .row .rw (cells8 B)) :: (rowsN ++ N)) (fun a => by simp only [cnt_app, cnt_cons]; omega)
      refine W1.put0 (k := .plain) rfl (by simp) fun σ6 W2 => ?_
      rw [wrapU32 (n := (most : Int)) (by omega) (by omega)]
      refine W2.newAt fun ar1 σ7 W3 => ?_
      refine W3.ask (s := s) (by simp [hal]) List.mem_cons_self fun σ8 W4 => ?_
      refine W4.newAt fun ar2 σ9 W5 => ?_
      refine c16se (m := m) (bj := bj) (N := (ar2, .row .rw [u32 4294967295]) :: (rowsN ++ N)) (S := []) (lla := none) (lle := 0) (rowsS := []) (B := B) (s := s) (p0 := p) (most := most) (is := is2) (J := rI) (T := T) (iv := iv) List.mem_cons_self (by simp [hal]) (by simp [hs]) hmost (by omega) (by omega) (fun q hq => (hinN q hq).mono fun x hx => by simp [hx]) hil2 hir2 (by omega) (fun x hx => by simp [hJ x hx]) hiv (SlC.nil 0) (by simp) hB
        (W5.sep fun a => by simp only [u32, List.length_nil, spO, List.set_cons_zero, List.set_cons_succ, Int.natCast_zero, cnt_app, cnt_cons, cnt_nil]; omega) (fun hnone => ?_) ?_
      · have := hnone i _ hpi hx2
        simp at this
      intro i' q hi1 hi2 hi3 hi4 iv' a' e' rows' B' σ10 hiv' hs' hB' hBv W6
      have ei : i' = i := by
        rcases Nat.lt_trichotomy i' i with h1 | h1 | h1
        · have := hno i' q hi1 h1 hi2
          rw [this] at hi3; cases hi3
        · exact h1
        · have := hi4 i _ hpi h1 hx2
          simp at this
      subst ei
      rw [hx2] at hi2
      obtain rfl := Option.some.inj hi2
      simp only at hs' hBv W6
      simp only [List.nil_append] at hs'
      simp only [tTup_tup, pSome_some, List.getElem?_cons_zero, List.getElem?_cons_succ, tI_int]
      refine c15 (tI_mk (bne_mk (fun h => absurd rfl h) (fun _ => ?_)))
      refine ldm W6.has (List.mem_cons_of_mem _ List.mem_cons_self) rfl (tL_ok hs'.no ?_)
      rw [wrap64 (n := (most : Int)) (by omega) (by omega), imin_nat, wrapU32 (by omega) (by omega)]
      simp only
      refine W6.newAt fun j σ11 W7 => ?_
      refine c18 (V := [3, 1, ((min xt.length most : Nat) : Int), 0]) (kk := .rw) (L := (j, .row .rw [u32 3, u32 1, u32 ((min xt.length most : Nat) : Int), u32 0]) :: (bj, .row .rw (cells8 B')) :: (m, spO bj a' ([].length + 4) e') :: (rows' ++ ((ar2, .row .rw [u32 4294967295]) :: (rowsN ++ N)))) hs' (fun p hp => by simp [hp]) List.mem_cons_self (by simp) W7.has ?_
      simp only [tB_bool, Bool.not_true, bm_false]
      refine W7.left hiv' (tI_mk ?_)
      have ew : IntKind.wrap .i64 (IntKind.wrap .i64 ((is.length : Int) - (i' : Int)) - 1) = ((is2.length - (i' + 1) : Nat) : Int) := by
        rw [wrap64 (n := (is.length : Int) - (i' : Int)) (by omega) (by omega), wrap64 (by omega) (by omega)]; omega
      rw [ew]
      refine bne_mk (fun h => absurd rfl h) (fun _ => ?_)
      obtain ⟨F, hF, H7⟩ := W7
      refine ln_in (N := F ++ ((bj, .row .rw (cells8 B')) :: (m, spO bj a' 4 e') :: (rows' ++ N))) (S := [3, 1, ((min xt.length most : Nat) : Int), 0]) (B := B') (bj := bj) (m := m) (most := most) (lla := a') (lle := e') (p := (true, xa, xt)) (is := is) (.inr ⟨r, kk, rfl, by simp [hM _ hr]⟩) hx h80 ((hin _ hxm).mono fun x hx => by simp [hM x hx]) (hir _ hxm) rfl hmost (by omega) hsN hB' hBv (by simp) (by simp) (H7.sep fun a => by simp only [List.length_nil, Nat.zero_add, cnt_app, cnt_cons]; omega) fun sa' rowsN' σ12 hsN' H8 => ?_
      have hmin : ((xt.take most).map lowI).length = min xt.length most := by simp [Nat.min_comm]
      have hlT : (T ++ (xt.take most).map lowI ++ [10]).length = T.length + min xt.length most + 1 := by
        rw [List.length_append, List.length_append, hmin]; rfl
      have W9 : Wst g al tr sh w iv' (rsL 0 200 most) (T ++ (xt.take most).map lowI ++ [10]) ((bj, .row .rw (cells8 B')) :: (m, spO bj a' 4 e') :: (rows' ++ (rowsN' ++ N))) σ12 := ⟨F, hF, H8.sep fun a => by simp only [cnt_app, cnt_cons]; omega⟩
      refine hY (i' + 1) _ _ (by omega) ⟨by omega, i' + 1, T ++ (xt.take most).map lowI ++ [10], sa', 1, rowsN', B', [3, 1, ((min xt.length most : Nat) : Int), 0], a', e', rows', iv', 200, most, Nat.le_refl _, (by intro j q h1 h2; omega), hiv', hsN', hB', hs', by simp, ?_, W9, ?_⟩
      · rw [totI_snoc hx, hlT]
        simp only
        omega
      · rw [hlT, hra]
  · have ei : i = is.length := by omega
    subst ei
    rw [wrapU32 (n := (most : Int)) (by omega) (by omega)]
    refine W.newAt fun ar1 σ7 W3 => ?_
    refine W3.ask (s := s) (by simp [hal]) List.mem_cons_self fun σ8 W4 => ?_
    refine W4.newAt fun ar2 σ9 W5 => ?_
    refine c16se (m := m) (bj := bj) (N := (ar2, .row .rw [u32 4294967295]) :: (rowsN ++ N)) (S := S) (lla := lla) (lle := lle) (rowsS := rowsS) (B := B) (s := s) (p0 := p) (most := most) (is := is2) (J := rI) (T := T) (iv := iv) List.mem_cons_self (by simp [hal]) (by simp [hs]) hmost (by omega) (by omega) (fun q hq => (hinN q hq).mono fun x hx => by simp [hx]) hil2 hir2 (by omega) (fun x hx => by simp [hJ x hx]) hiv hsS (by omega) hB
      (W5.sep fun a => by simp only [u32, cnt_app, cnt_cons, cnt_nil]; omega) ?_ (fun i' q hi1 hi2 hi3 => ?_)
    · intro _ iv' σ10 hiv' W6
      simp only [tTup_tup, pSome_some, List.getElem?_cons_zero, List.getElem?_cons_succ, tI_int]
      refine W6.newAt fun ar3 σ11 W7 => ?_
      refine W7.wstr (s := s) (by simp [hal]) List.mem_cons_self fun σ12 W8 => ?_
      simp only [tTup_tup, pSome_some, List.getElem?_cons_zero, List.getElem?_cons_succ, tI_int]
      refine W8.newAt fun ar4 σ13 W9 => ?_
      refine W9.tell (s := s) (by simp [hal]) (by simp [hs]) List.mem_cons_self fun σ14 WA => ?_
      simp only [tTup_tup, pSome_some, List.getElem?_cons_zero, List.getElem?_cons_succ, tI_int]
      refine c15 (tI_mk (beq_mk (fun _ => ?_) (fun h => absurd rfl h)))
      refine WA.left hiv' (tI_mk ?_)
      refine beq_mk (fun _ => ?_) (fun h => absurd (by omega) h)
      refine WA.text (s := s) (by simp [hal]) (by omega) fun a1 e1 r1 σ15 hs1 HB => ?_
      refine tL_ok hs1.no ?_
      refine c18g hs1.e1 (fun p hp => by simp [hp]) hsN (fun p hp => by simp [hp]) (by omega) HB ?_
      simp only [tB_bool, bm_true]
      refine beq_mk (fun _ => ?_) (fun h => absurd rfl h)
      exact c12 rfl
    · have hl := (List.getElem?_eq_some_iff.1 hi2).1
      have := hno i' q hi1 (by omega) hi2
      rw [this] at hi3; cases hi3)
end
end Go.AI
end
