/- Lemmas of the abstract condition ahead of code (a part of the library that the claim's proof stands on); they hold with no condition but those that each names. -/
import Derived.Test.YtlofpopejkohbaaGreatGyLaw
import Derived.Test.YtlofpopejkohbaaGreatAIGhost
import Derived.Test.YtlofpopejkohbaaGreatGyFormG
section
set_option linter.unusedSimpArgs false
set_option linter.unusedVariables false
set_option maxRecDepth 1000000
/- A world with one window of rows; no condition but those that each names. -/
namespace Go.AI
open Go.Proofs
-- characters by their places
def keyC (W p : Nat) : Value := .agg ⟨[u32 ((p % W : Nat) : Int), u32 ((p / W : Nat) : Int)]⟩
def esC (W : Nat) : Nat → List (Nat × Int) → List MapEntry
  | _, [] => []
  | i, p :: C => ⟨keyC W p.1, u32 p.2, i⟩ :: esC W (i + 1) C
theorem esC_app (W : Nat) : ∀ (i : Nat) (C : List (Nat × Int)) (p : Nat × Int), esC W i (C ++ [p]) = esC W i C ++ [⟨keyC W p.1, u32 p.2, i + C.length⟩]
  | i, [], p => by simp [esC]
  | i, q :: C, p => by
    have := esC_app W (i + 1) C p
    simp only [List.cons_append, esC, this, List.length_cons]
    rw [show i + 1 + C.length = i + (C.length + 1) by omega]
def valO (C : List (Nat × Int)) (p : Nat) : Option Int := (C.find? fun q => q.1 == p).map (·.2)
def valC (C : List (Nat × Int)) (p : Nat) : Int := (valO C p).getD 32
theorem find_C {W x y : Nat} (hx : x < W) : ∀ (C : List (Nat × Int)) (i j : Nat), ∃ r, find2 .u32 ((x : Int), (y : Int)) (esC W i C) j = some r ∧ r.map (·.2) = (valO C (y * W + x)).map u32
  | [], i, j => ⟨none, rfl, rfl⟩
  | q :: C, i, j => by
    obtain ⟨r, h1, h2⟩ := find_C hx C (i + 1) (j + 1)
    have hk : int2 .u32 (keyC W q.1) = some (((q.1 % W : Nat) : Int), ((q.1 / W : Nat) : Int)) := int2_mk .u32 (((q.1 % W : Nat) : Int), ((q.1 / W : Nat) : Int))
    simp only [esC, find2, hk]
    by_cases e : q.1 = y * W + x
    · have e1 : q.1 % W = x := by rw [e, Nat.mul_comm, Nat.mul_add_mod, Nat.mod_eq_of_lt hx]
      have e2 : q.1 / W = y := by rw [e, Nat.mul_comm, Nat.mul_add_div (by omega), Nat.div_eq_of_lt hx, Nat.add_zero]
      rw [e1, e2, if_pos rfl]
      refine ⟨_, rfl, ?_⟩
      unfold valO
      rw [List.find?_cons_of_pos (by simpa using e)]
      rfl
    · have hne : ¬ (((x : Int), (y : Int)) = (((q.1 % W : Nat) : Int), ((q.1 / W : Nat) : Int))) := by
        intro h
        simp only [Prod.mk.injEq] at h
        have h3 := Nat.div_add_mod q.1 W
        have e1 : q.1 % W = x := by omega
        have e2 : q.1 / W = y := by omega
        rw [e1, e2] at h3
        rw [Nat.mul_comm] at h3
        exact e h3.symm
      rw [if_neg hne]
      refine ⟨r, h1, ?_⟩
      rw [h2]
      unfold valO
      rw [List.find?_cons_of_neg (by simpa using e)]
theorem valO_none {C : List (Nat × Int)} {p : Nat} (h : ∀ q ∈ C, q.1 < p) : valO C p = none := by
  unfold valO
  rw [List.find?_eq_none.2 fun q hq => by have := h q hq; simp; omega]
  rfl
theorem valO_snoc {C : List (Nat × Int)} {p : Nat} {v : Int} (h : ∀ q ∈ C, q.1 < p) (r : Nat) : valC (C ++ [(p, v)]) r = if r = p then v else valC C r := by
  unfold valC valO
  rw [List.find?_append]
  by_cases e : r = p
  · subst e
    rw [List.find?_eq_none.2 fun q hq => by have := h q hq; simp; omega]
    simp
  · rw [if_neg e]
    cases hf : C.find? (fun q => q.1 == r) with
    | some q => simp
    | none =>
      have : (List.find? (fun q : Nat × Int => q.1 == r) [(p, v)]) = none := by simp [Ne.symm e]
      rw [this]
      rfl
-- the world
def gO (cur : Int) (al tr sh : Nat) : AObj := .row .plain [u32 2, .map (some al), ptr tr, ptr sh, .slice none 0 0, .slice none 0 0, u32 cur, .bool false]
def wG (cm : Option Nat) (x y : Int) : AObj := .row .plain [i64 1, u32 0, i64 1, u32 4, u32 2, .slice none 0 0, .map cm, u32 x, u32 y, i64 0, u32 0, u32 0, u32 0, i64 0, u32 0, i64 0, .bool false, u32 0, .string (ByteArray.mk #[])]
def stG (wr : Int) : AObj := .row .plain [i64 2, u32 0, i64 0, u32 0, u32 0, .slice none 0 0, .map none, u32 0, u32 0, i64 0, u32 0, u32 0, u32 1, i64 0, u32 0, i64 0, .bool false, u32 wr, .string (ByteArray.mk #[])]
def trG (W H : Int) (tm : Nat) : AObj := .row .plain [i64 W, i64 H, i64 1, i64 1, .map (some tm)]
def ndG : AObj := .row .plain [i64 3, i64 0, i64 0, i64 0, i64 0, u32 0, i64 0]
def esG (w s : Nat) : List MapEntry := [.mk (u32 1) (ptr w) 0, .mk (u32 2) (ptr s) 1]
theorem n43g : ∀ (W H : Int) (K : Value → AS → Prop), callN Tryz.prog hints glE 80 43 [i64 W, i64 H] (can []) K =
    bmatch (decide (W ≥ 0)) (bmatch (!decide (W ≤ 1000)) (K (.tuple ⟨[.pointer none, i64 1]⟩) (can [])) (bmatch (decide (H ≥ 0)) (bmatch (!decide (H ≤ 1000)) (K (.tuple ⟨[.pointer none, i64 1]⟩) (can []))
      (K (.tuple ⟨[ptr 1, i64 0]⟩) (can ([] ++ [.map [] 0, .row .plain [i64 W, i64 H, i64 0, i64 0, .map (some 0)]])))) (K (.tuple ⟨[.pointer none, i64 1]⟩) (can [])))) (K (.tuple ⟨[.pointer none, i64 1]⟩) (can [])) := by
  intros
  kernel_rfl
theorem n44g : ∀ (K : Value → AS → Prop), callN Tryz.prog hints glE 80 44 [i64 1048576] (can []) K = K (.tuple ⟨[ptr 2, i64 0]⟩) (can ([] ++ [.map [] 0, .map [] 0, .row .plain [i64 1048576, i64 0, .map (some 0), .map (some 1)]])) := by
  intros
  kernel_rfl
theorem nopenG : ∀ (W H : Int) (B : List Int) (K : Value → AS → Prop), callN Tryz.prog hints glE 80 16 [ptr 6, .iface 29 (ptr 7), u32 35, .slice (some ⟨9, 0, none⟩) 5 1]
    (can [.map [] 0, .row .plain [i64 W, i64 H, i64 0, i64 0, .map (some 0)], .map [] 0, .map [] 0, .row .plain [i64 1048576, i64 0, .map (some 2), .map (some 3)], .map [] 0, .row .plain [u32 0, .map (some 5), ptr 1, ptr 4, .slice none 0 0, .slice none 0 0, u32 0, .bool false], spO 8 none 0 0, .row .rw (cells8 B), .row .rw [u32 0, u32 0, u32 0, u32 4, u32 0]]) K =
    K (.tuple ⟨[u32 1, i64 0]⟩) (can ([.map [.mk (i64 1) (ptr 11) 0] 1, trG W H 0, .map [] 0, .map [] 0, .row .plain [i64 1048576, i64 0, .map (some 2), .map (some 3)], .map (esG 12 13) 2, gO 0 5 1 4, spO 8 none 0 0, .row .rw (cells8 B), .row .rw [u32 0, u32 0, u32 0, u32 4, u32 0]] ++
      [.row .plain [ptr 6, .iface 29 (ptr 7), .slice (some ⟨9, 0, none⟩) 5 1], ndG, wG none 0 0, stG 0])) := by
  intros
  kernel_rfl
theorem n73g : ∀ (W H x y cur : Int) (cm : Option Nat) (K : Value → AS → Prop), callN Tryz.prog hints glE 80 73 [ptr 2, ptr 3] (can [.map [.mk (i64 1) (ptr 4) 0] 1, trG W H 0, gO cur 5 1 6, wG cm x y, ndG, .dead, .dead, .dead]) K =
    ((i64 1 = i64 1 ∧ ptr 1 = ptr 1 ∧ K (.agg ⟨[i64 0, i64 0, i64 W, i64 H]⟩) (can ([.map [.mk (i64 1) (ptr 4) 0] 1, trG W H 0, gO cur 5 1 6, wG cm x y, ndG, .dead, .dead, .dead] ++ [.row .plain [i64 0, i64 0, i64 W, i64 H], .row .plain [i64 0, i64 0, i64 W, i64 H], .row .plain [i64 0, i64 0, i64 W, i64 H]]))) ∧
      K (.agg ⟨[i64 0, i64 0, i64 W, i64 H]⟩) (can ([.map [.mk (i64 1) (ptr 4) 0] 1, trG W H 0, gO cur 5 1 6, wG cm x y, ndG, .dead, .dead, .dead] ++ [.row .plain [i64 0, i64 0, i64 W, i64 H], .row .plain [i64 0, i64 0, i64 W, i64 H], .row .plain [i64 0, i64 0, i64 W, i64 H]]))) := by
  intros
  kernel_rfl
end Go.AI
end
section
set_option linter.unusedSimpArgs false
set_option linter.unusedVariables false
set_option maxRecDepth 1000000
/- A world with one window of rows: made, opened; where the window lies; a character put; no condition but those that each names. -/
namespace Go.AI
open Go.Proofs
theorem n73h : ∀ (W H x y cur : Int) (K : Value → AS → Prop), callN Tryz.prog hints glE 80 73 [ptr 2, ptr 3] (can [.map [.mk (i64 1) (ptr 4) 0] 1, trG W H 0, gO cur 5 1 6, wG none x y, ndG, .dead, .dead]) K =
    ((i64 1 = i64 1 ∧ ptr 1 = ptr 1 ∧ K (.agg ⟨[i64 0, i64 0, i64 W, i64 H]⟩) (can ([.map [.mk (i64 1) (ptr 4) 0] 1, trG W H 0, gO cur 5 1 6, wG none x y, ndG, .dead, .dead] ++ [.row .plain [i64 0, i64 0, i64 W, i64 H], .row .plain [i64 0, i64 0, i64 W, i64 H], .row .plain [i64 0, i64 0, i64 W, i64 H]]))) ∧
      K (.agg ⟨[i64 0, i64 0, i64 W, i64 H]⟩) (can ([.map [.mk (i64 1) (ptr 4) 0] 1, trG W H 0, gO cur 5 1 6, wG none x y, ndG, .dead, .dead] ++ [.row .plain [i64 0, i64 0, i64 W, i64 H], .row .plain [i64 0, i64 0, i64 W, i64 H], .row .plain [i64 0, i64 0, i64 W, i64 H]]))) := by
  intros
  kernel_rfl
def ex13 (W H : Int) : List AObj := [.map [] 0, .row .plain [i64 W, i64 H, i64 0, i64 0, .map (some 0)], .map [] 0, .map [] 0, .row .plain [i64 1048576, i64 0, .map (some 2), .map (some 3)], .map [] 0, .row .plain [u32 0, .map (some 5), ptr 1, ptr 4, .slice none 0 0, .slice none 0 0, u32 0, .bool false]]
theorem n13g : ∀ (W H : Int) (K : Value → AS → Prop), callN Tryz.prog hints glE 80 13 [i64 W, i64 H, .slice none 0 0] (can []) K =
    bmatch (decide (W ≥ 0)) (bmatch (!decide (W ≤ 1000)) (K (.tuple ⟨[.pointer none, i64 1]⟩) (can [])) (bmatch (decide (H ≥ 0)) (bmatch (!decide (H ≤ 1000)) (K (.tuple ⟨[.pointer none, i64 1]⟩) (can []))
      (K (.tuple ⟨[ptr 6, i64 0]⟩) (can ([] ++ ex13 W H)))) (K (.tuple ⟨[.pointer none, i64 1]⟩) (can [])))) (K (.tuple ⟨[.pointer none, i64 1]⟩) (can [])) := by
  intros
  kernel_rfl
def WR (W : Nat) (C : List (Nat × Int)) (cm : Option Nat) (R : List (Nat × AObj)) : Prop := (cm = none ∧ C = [] ∧ R = []) ∨ ∃ i, cm = some i ∧ R = [(i, .map (esC W 0 C) C.length)]
/-- The world, its window of rows, what was put there. -/
def gL (W H g al tr sh w s tm nd : Nat) (shq : AObj) (cur : Int) (cm : Option Nat) (at_ wr : Nat) (R : List (Nat × AObj)) : List (Nat × AObj) :=
  (g, gO cur al tr sh) :: (w, wG cm (at_ % W : Nat) (at_ / W : Nat)) :: (s, stG wr) :: (al, .map (esG w s) 2) :: (tm, .map [.mk (i64 1) (ptr nd) 0] 1) :: (tr, trG W H tm) :: (nd, ndG) :: (sh, shq) :: R
def Gst (W H g al tr sh w s tm nd : Nat) (shq : AObj) (cur : Int) (C : List (Nat × Int)) (at_ wr : Nat) (M : List (Nat × AObj)) (σ : AS) : Prop :=
  ∃ cm R, WR W C cm R ∧ Has σ (gL W H g al tr sh w s tm nd shq cur cm at_ wr R ++ M)
section
variable {σ : AS} {K : Value → AS → Prop} {L M N : List (Nat × AObj)} {W H g al tr sh w s tm nd : Nat} {shq : AObj} {cur : Int} {C : List (Nat × Int)} {at_ wr : Nat}
theorem Gst.sep (h : Gst W H g al tr sh w s tm nd shq cur C at_ wr M σ) (hc : ∀ a, cnt a N ≤ cnt a M) : Gst W H g al tr sh w s tm nd shq cur C at_ wr N σ := by
  obtain ⟨cm, R, hR, Hh⟩ := h
  exact ⟨cm, R, hR, Hh.sep fun a => by have := hc a; simp only [cnt_app]; omega⟩
theorem Gst.has (h : Gst W H g al tr sh w s tm nd shq cur C at_ wr M σ) : Has σ M := by
  obtain ⟨cm, R, hR, Hh⟩ := h
  exact Hh.sub (List.sublist_append_right _ _)
theorem Gst.newAt {o : AObj} {Gn : Nat → AS → Prop} (h : Gst W H g al tr sh w s tm nd shq cur C at_ wr M σ) (hG : ∀ i σ', Gst W H g al tr sh w s tm nd shq cur C at_ wr ((i, o) :: M) σ' → Gn i σ') : Go.AI.newAt σ o Gn := by
  obtain ⟨cm, R, hR, Hh⟩ := h
  exact newAt_mk Hh fun i σ' H' => hG i σ' ⟨cm, R, hR, H'.sep fun a => by simp only [cnt_app, cnt_cons]; omega⟩
theorem c13g (hW : W ≤ 1000) (hH : H ≤ 1000) (Hh : Has σ L)
    (hK : ∀ (tm tr fm sm sh al g : Nat) σ', Has σ' ([(tm, .map [] 0), (tr, .row .plain [i64 W, i64 H, i64 0, i64 0, .map (some tm)]), (fm, .map [] 0), (sm, .map [] 0), (sh, .row .plain [i64 1048576, i64 0, .map (some fm), .map (some sm)]), (al, .map [] 0),
      (g, .row .plain [u32 0, .map (some al), ptr tr, ptr sh, .slice none 0 0, .slice none 0 0, u32 0, .bool false])] ++ L) → K (.tuple ⟨[ptr g, i64 0]⟩) σ') : Tri Tryz.prog 13 [i64 W, i64 H, .slice none 0 0] σ K := by
  have post : callN Tryz.prog hints glE 80 13 [i64 W, i64 H, .slice none 0 0] (can []) (fun v σ0 => v = .tuple ⟨[ptr 6, i64 0]⟩ ∧ σ0 = can ([] ++ ex13 W H)) := by
    rw [n13g]
    refine bmd_mk (fun _ => bnot_mk (fun h => absurd h (by simp; omega)) (fun _ => bmd_mk (fun _ => bnot_mk (fun h => absurd h (by simp; omega)) (fun _ => ⟨rfl, rfl⟩)) (fun h => absurd h (by omega)))) (fun h => absurd h (by omega))
  refine tri_gh2 (tri_hard post) (ids := []) (zs := []) (Fr := L) rfl rfl rfl rfl (by simpa [pairs] using Hh) rfl (by simp [renVs, renV]) fun q σ' H' => ?_
  have := hK (q + 0) (q + 1) (q + 2) (q + 3) (q + 4) (q + 5) (q + 6) σ' (by simpa [ex13, mixG, AObj.own, RK.own, extraP, pairs, renO, renV, renE, pf] using H')
  simpa [renVs, renV, pf] using this
end
end Go.AI
end
section
set_option linter.unusedSimpArgs false
set_option linter.unusedVariables false
set_option maxRecDepth 1000000
/- A window of rows opened; where it lies; a character put; no condition but those that each names. -/
namespace Go.AI
open Go.Proofs
section
variable {σ : AS} {K : Value → AS → Prop} {L M N : List (Nat × AObj)} {W H g al tr sh w s tm nd : Nat} {shq : AObj} {cur : Int} {C : List (Nat × Int)} {at_ wr : Nat}
theorem ren8 (π : Nat → Nat) : renV π ∘ u8 = u8 := by funext a; simp [renV]
theorem c16og {fm sm m bj ar : Nat} {B : List Int}
    (Hh : Has σ ((ar, .row .rw [u32 0, u32 0, u32 0, u32 4, u32 0]) :: (m, spO bj none 0 0) :: (bj, .row .rw (cells8 B)) :: ([(tm, .map [] 0), (tr, .row .plain [i64 W, i64 H, i64 0, i64 0, .map (some tm)]), (fm, .map [] 0), (sm, .map [] 0), (sh, .row .plain [i64 1048576, i64 0, .map (some fm), .map (some sm)]), (al, .map [] 0), (g, .row .plain [u32 0, .map (some al), ptr tr, ptr sh, .slice none 0 0, .slice none 0 0, u32 0, .bool false])] ++ M)))
    (hK : ∀ nd w s σ', Gst W H g al tr sh w s tm nd (.row .plain [i64 1048576, i64 0, .map (some fm), .map (some sm)]) 0 [] 0 0 ((m, spO bj none 0 0) :: (bj, .row .rw (cells8 B)) :: M) σ' → K (.tuple ⟨[u32 1, i64 0]⟩) σ') :
    Tri Tryz.prog 16 [ptr g, .iface 29 (ptr m), u32 35, .slice (some ⟨ar, 0, none⟩) 5 1] σ K := by
  refine tri_gh2 (Eq.tri (nopenG W H B _) ⟨rfl, rfl⟩) (ids := [tm, tr, fm, sm, sh, al, g, m, bj, ar]) (zs := [.map [] 0, .row .plain [i64 W, i64 H, i64 0, i64 0, .map (some tm)], .map [] 0, .map [] 0, .row .plain [i64 1048576, i64 0, .map (some fm), .map (some sm)], .map [] 0, .row .plain [u32 0, .map (some al), ptr tr, ptr sh, .slice none 0 0, .slice none 0 0, u32 0, .bool false], spO bj none 0 0, .row .rw (cells8 B), .row .rw [u32 0, u32 0, u32 0, u32 4, u32 0]]) (Fr := M) rfl rfl rfl rfl ?_ ?_ ?_ fun q σ' H' => ?_
  · exact Hh.sep fun a => by simp only [pairs, cnt_app, cnt_cons, cnt_nil]; omega
  · simp [mixG, AObj.live, renO, renV, renE, pf, spO, ren8]
  · simp [renVs, renV, pf]
  · simp [mixG, AObj.live, AObj.own, RK.own, extraP, pairs, renO, renV, renE, pf, gO, spO, wG, stG, trG, ndG, esG, ren8] at H'
    have := hK (q + 11) (q + 12) (q + 13) σ' ⟨none, [], .inl ⟨rfl, rfl, rfl⟩, H'.sep fun a => by simp only [gL, Nat.zero_mod, Nat.zero_div, Int.natCast_zero, cnt_app, cnt_cons, cnt_nil, gO, spO, wG, stG, trG, ndG, esG, i64, u32, u8, ptr, cells8]; omega⟩
    simpa [renVs, renV, pf] using this
/-- Where the window lies. -/
theorem c73g (h : Gst W H g al tr sh w s tm nd shq cur C at_ wr M σ) (hK : ∀ σ', Gst W H g al tr sh w s tm nd shq cur C at_ wr M σ' → K (.agg ⟨[i64 0, i64 0, i64 W, i64 H]⟩) σ') : Tri Tryz.prog 73 [ptr g, ptr w] σ K := by
  obtain ⟨cm, R, hR, Hh⟩ := h
  rcases hR with ⟨rfl, rfl, rfl⟩ | ⟨i, rfl, rfl⟩
  · refine tri_gh3 (R := fun _ => True) (os2 := [.map [.mk (i64 1) (ptr 4) 0] 1, trG W H 0, gO cur 5 1 6, wG none (at_ % W : Nat) (at_ / W : Nat), ndG, .dead, .dead]) (Eq.tri (n73h W H (at_ % W : Nat) (at_ / W : Nat) cur _) ⟨⟨rfl, rfl, rfl, _, trivial, rfl⟩, rfl, _, trivial, rfl⟩) (ids := [tm, tr, g, w, nd, al, sh])
      (zs := [.map [.mk (i64 1) (ptr nd) 0] 1, trG W H tm, gO cur al tr sh, wG none (at_ % W : Nat) (at_ / W : Nat), ndG, .map (esG w s) 2, shq]) (Fr := (s, stG wr) :: M) rfl rfl rfl rfl ?_ ?_ ?_ fun q ex _ σ' H' => ?_
    · exact Hh.sep fun a => by simp only [gL, pairs, cnt_app, cnt_cons, cnt_nil]; omega
    · simp [mixG, AObj.live, renO, renV, renE, pf, gO, wG, trG, ndG]
    · simp [renVs, renV, pf]
    · simp [mixG, AObj.live, pairs, renO, renV, renE, pf, gO, wG, trG, ndG] at H'
      have := hK σ' ⟨none, [], .inl ⟨rfl, rfl, rfl⟩, H'.sep fun a => by simp only [gL, cnt_app, cnt_cons, cnt_nil, gO, wG, trG, ndG, i64, u32, ptr, Int.natCast_emod, Int.natCast_ediv]; omega⟩
      simpa [renVs, renV, pf] using this
  · refine tri_gh3 (R := fun _ => True) (os2 := [.map [.mk (i64 1) (ptr 4) 0] 1, trG W H 0, gO cur 5 1 6, wG (some 7) (at_ % W : Nat) (at_ / W : Nat), ndG, .dead, .dead, .dead]) (Eq.tri (n73g W H (at_ % W : Nat) (at_ / W : Nat) cur (some 7) _) ⟨⟨rfl, rfl, rfl, _, trivial, rfl⟩, rfl, _, trivial, rfl⟩) (ids := [tm, tr, g, w, nd, al, sh, i])
      (zs := [.map [.mk (i64 1) (ptr nd) 0] 1, trG W H tm, gO cur al tr sh, wG (some i) (at_ % W : Nat) (at_ / W : Nat), ndG, .map (esG w s) 2, shq, .map (esC W 0 C) C.length]) (Fr := (s, stG wr) :: M) rfl rfl rfl rfl ?_ ?_ ?_ fun q ex _ σ' H' => ?_
    · exact Hh.sep fun a => by simp only [gL, pairs, cnt_app, cnt_cons, cnt_nil]; omega
    · simp [mixG, AObj.live, renO, renV, renE, pf, gO, wG, trG, ndG]
    · simp [renVs, renV, pf]
    · simp [mixG, AObj.live, pairs, renO, renV, renE, pf, gO, wG, trG, ndG] at H'
      have := hK σ' ⟨some i, _, .inr ⟨i, rfl, rfl⟩, H'.sep fun a => by simp only [gL, cnt_app, cnt_cons, cnt_nil, gO, wG, trG, ndG, i64, u32, ptr, Int.natCast_emod, Int.natCast_ediv]; omega⟩
      simpa [renVs, renV, pf] using this
end
end Go.AI
end
section
set_option linter.unusedSimpArgs false
set_option linter.unusedVariables false
set_option maxRecDepth 1000000
/- A character put to a window of rows; no condition but those that each names. -/
namespace Go.AI
open Go.Proofs
def stepG (W H : Nat) (C : List (Nat × Int)) (at_ : Nat) (c : Int) : List (Nat × Int) × Nat :=
  if c = 10 then (C, (at_ / W + 1) * W) else if at_ < W * H then (C ++ [(at_, c)], at_ + 1) else (C, at_)
theorem at_lt {W H a : Nat} (hW : 0 < W) : a < W * H ↔ a / W < H := by rw [Nat.div_lt_iff_lt_mul hW, Nat.mul_comm]
theorem at_nl {W a : Nat} (hW : 0 < W) : ((a / W + 1) * W) % W = 0 ∧ ((a / W + 1) * W) / W = a / W + 1 := ⟨Nat.mul_mod_left .., Nat.mul_div_cancel _ hW⟩
theorem at_end {W a : Nat} (hW : 0 < W) (h : a % W + 1 = W) : (a + 1) % W = 0 ∧ (a + 1) / W = a / W + 1 := by
  have h1 := Nat.div_add_mod a W
  have e : a + 1 = (a / W + 1) * W := by
    rw [Nat.add_mul, Nat.one_mul, Nat.mul_comm (a / W) W]; omega
  rw [e]
  exact at_nl hW
theorem at_go {W a : Nat} (hW : 0 < W) (h : a % W + 1 ≠ W) : (a + 1) % W = a % W + 1 ∧ (a + 1) / W = a / W := by
  have h1 := Nat.div_add_mod a W
  have h2 := Nat.mod_lt a hW
  have h3 : a % W + 1 < W := by omega
  have e : a + 1 = W * (a / W) + (a % W + 1) := by omega
  exact ⟨by rw [e, Nat.mul_add_mod, Nat.mod_eq_of_lt h3], by rw [e, Nat.mul_add_div hW, Nat.div_eq_of_lt h3, Nat.add_zero]⟩
theorem wrapUs {n : Nat} (h : n < 4294967295) : IntKind.wrap .u32 ((n : Int) + 1) = ((n + 1 : Nat) : Int) := by rw [wrapU32 (by omega) (by omega)]; omega
section
variable {σ : AS} {K : Value → AS → Prop} {L M N : List (Nat × AObj)} {W H g al tr sh w s tm nd : Nat} {shq : AObj} {cur : Int} {C : List (Nat × Int)} {at_ wr : Nat}
theorem mset2_new {Gs : AS → Prop} {i : Nat} {kk : IntKind} {kv v : Value} {p : Int × Int} {es : List MapEntry} {c : Nat} (Hh : Has σ ((i, .map es c) :: M)) (hp : int2 kk kv = some p) (hx : find2 kk p es 0 = some none) (hG : ∀ σ', Has σ' ((i, .map (es ++ [{ key := kv, val := v, born := c }]) (c + 1)) :: M) → Gs σ') : mset2 σ kk i kv v Gs := by
  unfold mset2
  exact pSome_mk hp (mapAt_mk Hh 0 rfl (pSome_mk hx (hG _ (Hh.upd 0 rfl _))))
theorem find_new {x y : Nat} (hx : x < W) (hC : ∀ q ∈ C, q.1 < y * W + x) : find2 .u32 ((x : Int), (y : Int)) (esC W 0 C) 0 = some none := by
  obtain ⟨r, h1, h2⟩ := find_C (y := y) hx C 0 0
  rw [valO_none hC] at h2
  rw [h1]
  cases r with
  | none => rfl
  | some q => simp at h2
/-- A character comes to the window. -/
theorem c132g {x : Int} (hW : 0 < W) (hW2 : W ≤ 1000) (hH2 : H ≤ 1000) (hat : at_ < 100000) (hx : 0 ≤ x) (hC : ∀ q ∈ C, q.1 < at_) (h : Gst W H g al tr sh w s tm nd shq cur C at_ wr M σ)
    (hK : ∀ σ', Gst W H g al tr sh w s tm nd shq cur (stepG W H C at_ x).1 (stepG W H C at_ x).2 wr M σ' → K unit0 σ') : Tri Tryz.prog 132 [ptr g, u32 1, u32 x] σ K := tri_in (by
  have hxW := Nat.mod_lt at_ hW
  have hyb : at_ / W < 100000 := Nat.lt_of_le_of_lt (Nat.div_le_self ..) hat
  have hda := Nat.div_add_mod at_ W
  rw [s132]
  have h0 := h
  obtain ⟨cm0, R0, hR0, Hh0⟩ := h
  refine ldm Hh0 List.mem_cons_self rfl ?_
  simp only [tM_map]
  have hal : (al, AObj.map (esG w s) 2) ∈ gL W H g al tr sh w s tm nd shq cur cm0 at_ wr R0 ++ M := by simp [gL]
  have hfn : Instr.findNow (.int .u32) (u32 1) (esG w s) 0 = some (some (0, ptr w)) := rfl
  rw [mget_eq (Hh0.g hal), hfn]
  simp only [pSome_some, Option.map, Option.getD, tP_ptr]
  refine ldm Hh0 (List.mem_cons_of_mem _ List.mem_cons_self) rfl (tI_mk ?_)
  refine beq_mk (fun h => absurd h (by decide)) (fun _ => beq_mk (fun _ => ?_) (fun h => absurd rfl h))
  refine c73g h0 fun σ1 h1 => ?_
  simp only [tAgg_agg, tCons_cons, tI_int, tNil_nil]
  obtain ⟨cm, R, hR, H1⟩ := h1
  refine newAt_mk H1 fun j σ2 H2 => puts0 (k := .plain) H2 rfl (by simp) fun σ3 H3 => ?_
  have H4 : Has σ3 ((w, wG cm (at_ % W : Nat) (at_ / W : Nat)) :: (j, .row .plain [i64 0, i64 0, i64 W, i64 H]) :: (g, gO cur al tr sh) :: (s, stG wr) :: (al, .map (esG w s) 2) :: (tm, .map [.mk (i64 1) (ptr nd) 0] 1) :: (tr, trG W H tm) :: (nd, ndG) :: (sh, shq) :: (R ++ M)) := H3.sep fun a => by simp only [gL, List.take_zero, List.nil_append, List.length_cons, List.length_nil, Nat.zero_add, List.drop_succ_cons, List.drop_zero, List.append_nil, i64, cnt_app, cnt_cons, cnt_nil]; omega
  clear H3 H2 H1 Hh0 h0
  have hw : ∀ {cm : Option Nat} {a b : Int} {Q : List (Nat × AObj)}, (w, wG cm a b) ∈ (w, wG cm a b) :: Q := List.mem_cons_self
  refine beq_mk (fun e10 => ?_) (fun e10 => ?_)
  · refine ldm H4 hw rfl (tI_mk ?_)
    refine put0 H4 rfl (by simp [wG]) fun σ4 H5 => ?_
    refine put0 H5 rfl (by simp [wG]) fun σ5 H6 => ?_
    refine hK σ5 ?_
    unfold stepG
    rw [if_pos e10]
    refine ⟨cm, R, hR, H6.sep fun a => ?_⟩
    rw [wrapUs (n := at_ / W) (Nat.lt_trans hyb (by decide))]
    simp only [gL, (at_nl (a := at_) hW).1, (at_nl (a := at_) hW).2, wG, i64, u32, List.set_cons_zero, List.set_cons_succ, Int.natCast_zero, cnt_app, cnt_cons]
    omega
  · have hj : ∀ {p : Nat × AObj}, (j, AObj.row .plain [i64 0, i64 0, i64 W, i64 H]) ∈ p :: (j, AObj.row .plain [i64 0, i64 0, i64 W, i64 H]) :: (g, gO cur al tr sh) :: (s, stG wr) :: (al, .map (esG w s) 2) :: (tm, .map [.mk (i64 1) (ptr nd) 0] 1) :: (tr, trG W H tm) :: (nd, ndG) :: (sh, shq) :: (R ++ M) := List.mem_cons_of_mem _ List.mem_cons_self
    refine ldm H4 hw rfl (tI_mk ?_)
    refine ldm H4 hj rfl (tI_mk ?_)
    rw [wrapU32 (n := (W : Int)) (by omega) (by omega)]
    refine bmd_mk (fun _ => ?_) (fun h => absurd (Int.ofNat_lt.2 hxW) h)
    refine ldm H4 hw rfl (tI_mk ?_)
    refine ldm H4 hj rfl (tI_mk ?_)
    rw [wrapU32 (n := (H : Int)) (by omega) (by omega)]
    have hiff := at_lt (W := W) (H := H) (a := at_) hW
    refine bmd_mk (fun hy => ?_) (fun hy => ?_)
    · have hlt : at_ < W * H := hiff.2 (Int.ofNat_lt.1 hy)
      have est : stepG W H C at_ x = (C ++ [(at_, x)], at_ + 1) := by unfold stepG; rw [if_neg e10, if_pos hlt]
      rw [est] at hK
      have ekey : (Value.agg ⟨[u32 ((at_ % W : Nat) : Int), u32 ((at_ / W : Nat) : Int)]⟩) = keyC W at_ := rfl
      have eat : at_ / W * W + at_ % W = at_ := by rw [Nat.mul_comm]; exact hda
      have hfind : find2 .u32 (((at_ % W : Nat) : Int), ((at_ / W : Nat) : Int)) (esC W 0 C) 0 = some none := find_new hxW (by rw [eat]; exact hC)
      have hint : int2 .u32 (keyC W at_) = some (((at_ % W : Nat) : Int), ((at_ / W : Nat) : Int)) := int2_mk .u32 (((at_ % W : Nat) : Int), ((at_ / W : Nat) : Int))
      have tail : ∀ (i : Nat) (σ6 : AS), Has σ6 ((i, .map (esC W 0 C ++ [⟨keyC W at_, u32 x, C.length⟩]) (C.length + 1)) :: ((w, wG (some i) (at_ % W : Nat) (at_ / W : Nat)) :: (j, .row .plain [i64 0, i64 0, i64 W, i64 H]) :: (g, gO cur al tr sh) :: (s, stG wr) :: (al, .map (esG w s) 2) :: (tm, .map [.mk (i64 1) (ptr nd) 0] 1) :: (tr, trG W H tm) :: (nd, ndG) :: (sh, shq) :: M)) →
          ldc σ6 ⟨w, 0 + 7, none⟩ fun v => tI .u32 v fun n => put1 σ6 ⟨w, 0 + 7, none⟩ (u32 (IntKind.wrap .u32 (n + 1))) fun σ7 => ldc σ7 ⟨w, 0 + 7, none⟩ fun v => tI .u32 v fun n2 => ldc σ7 ⟨j, 0 + 2, none⟩ fun v => tI .i64 v fun n3 =>
            bmatch (n2 == IntKind.wrap .u32 n3) (ldc σ7 ⟨w, 0 + 8, none⟩ fun v => tI .u32 v fun n4 => put1 σ7 ⟨w, 0 + 7, none⟩ (u32 0) fun σ8 => put1 σ8 ⟨w, 0 + 8, none⟩ (u32 (IntKind.wrap .u32 (n4 + 1))) fun σ9 => K unit0 σ9) (K unit0 σ7) := by
        intro i σ6 H6
        have H7 : Has σ6 ((w, wG (some i) (at_ % W : Nat) (at_ / W : Nat)) :: (j, .row .plain [i64 0, i64 0, i64 W, i64 H]) :: ((g, gO cur al tr sh) :: (s, stG wr) :: (al, .map (esG w s) 2) :: (tm, .map [.mk (i64 1) (ptr nd) 0] 1) :: (tr, trG W H tm) :: (nd, ndG) :: (sh, shq) :: (i, .map (esC W 0 C ++ [⟨keyC W at_, u32 x, C.length⟩]) (C.length + 1)) :: M)) := H6.sep fun a => by simp only [cnt_app, cnt_cons]; omega
        refine ldm H7 hw rfl (tI_mk ?_)
        rw [wrapUs (n := at_ % W) (Nat.lt_of_lt_of_le hxW (Nat.le_trans hW2 (by decide)))]
        refine put0 H7 rfl (by simp [wG]) fun σ7 H8 => ?_
        refine ldm H8 List.mem_cons_self rfl (tI_mk ?_)
        refine ldm H8 (List.mem_cons_of_mem _ List.mem_cons_self) rfl (tI_mk ?_)
        rw [wrapU32 (n := (W : Int)) (by omega) (by omega)]
        have eW : esC W 0 (C ++ [(at_, x)]) = esC W 0 C ++ [⟨keyC W at_, u32 x, C.length⟩] := by rw [esC_app, Nat.zero_add]
        have eL : (C ++ [(at_, x)]).length = C.length + 1 := by simp
        refine beq_mk (fun he => ?_) (fun he => ?_)
        · refine ldm H8 List.mem_cons_self rfl (tI_mk ?_)
          refine put0 H8 rfl (by simp [wG]) fun σ8 H9 => ?_
          refine put0 H9 rfl (by simp [wG]) fun σ9 H10 => ?_
          have hend := at_end (a := at_) hW (by exact_mod_cast he)
          refine hK σ9 ⟨some i, _, .inr ⟨i, rfl, rfl⟩, H10.sep fun a => ?_⟩
          rw [wrapUs (n := at_ / W) (Nat.lt_trans hyb (by decide))]
          simp only [gL, eW, eL, hend.1, hend.2, wG, List.set_cons_zero, List.set_cons_succ, Int.natCast_zero, cnt_app, cnt_cons, cnt_nil]
          omega
        · have hgo := at_go (a := at_) hW (by exact_mod_cast he)
          refine hK σ7 ⟨some i, _, .inr ⟨i, rfl, rfl⟩, H8.sep fun a => ?_⟩
          simp only [gL, eW, eL, hgo.1, hgo.2, wG, List.set_cons_zero, List.set_cons_succ, cnt_app, cnt_cons, cnt_nil]
          omega
      refine ldm H4 hw rfl ?_
      simp only [tM_map]
      rcases hR with ⟨rfl, rfl, rfl⟩ | ⟨i, rfl, rfl⟩
      · simp only [Option.isNone_none, bm_true]
        refine newAt_mk H4 fun i σ5 H5 => ?_
        refine put0 (H5.sep (M := (w, wG none (at_ % W : Nat) (at_ / W : Nat)) :: (i, .map [] 0) :: ((j, .row .plain [i64 0, i64 0, i64 W, i64 H]) :: (g, gO cur al tr sh) :: (s, stG wr) :: (al, .map (esG w s) 2) :: (tm, .map [.mk (i64 1) (ptr nd) 0] 1) :: (tr, trG W H tm) :: (nd, ndG) :: (sh, shq) :: M)) fun a => by simp only [cnt_app, cnt_cons, cnt_nil]; omega) rfl (by simp [wG]) fun σ6 H6 => ?_
        have H7 : Has σ6 ((w, wG (some i) (at_ % W : Nat) (at_ / W : Nat)) :: (i, .map [] 0) :: ((j, .row .plain [i64 0, i64 0, i64 W, i64 H]) :: (g, gO cur al tr sh) :: (s, stG wr) :: (al, .map (esG w s) 2) :: (tm, .map [.mk (i64 1) (ptr nd) 0] 1) :: (tr, trG W H tm) :: (nd, ndG) :: (sh, shq) :: M)) := H6
        refine ldm H7 hw rfl ?_
        simp only [tM_map]
        refine ldm H7 hw rfl (tI_mk ?_)
        refine ldm H7 hw rfl (tI_mk ?_)
        simp only [pSome_some]
        rw [ekey]
        refine mset2_new (H7.sep (M := (i, .map [] 0) :: ((w, wG (some i) (at_ % W : Nat) (at_ / W : Nat)) :: (j, .row .plain [i64 0, i64 0, i64 W, i64 H]) :: (g, gO cur al tr sh) :: (s, stG wr) :: (al, .map (esG w s) 2) :: (tm, .map [.mk (i64 1) (ptr nd) 0] 1) :: (tr, trG W H tm) :: (nd, ndG) :: (sh, shq) :: M)) fun a => by simp only [cnt_app, cnt_cons, cnt_nil]; omega) hint hfind fun σ8 H8 => ?_
        exact tail i σ8 H8
      · simp only [Option.isNone_some, bm_false]
        refine ldm H4 hw rfl ?_
        simp only [tM_map]
        refine ldm H4 hw rfl (tI_mk ?_)
        refine ldm H4 hw rfl (tI_mk ?_)
        simp only [pSome_some]
        rw [ekey]
        refine mset2_new (H4.sep (M := (i, .map (esC W 0 C) C.length) :: ((w, wG (some i) (at_ % W : Nat) (at_ / W : Nat)) :: (j, .row .plain [i64 0, i64 0, i64 W, i64 H]) :: (g, gO cur al tr sh) :: (s, stG wr) :: (al, .map (esG w s) 2) :: (tm, .map [.mk (i64 1) (ptr nd) 0] 1) :: (tr, trG W H tm) :: (nd, ndG) :: (sh, shq) :: M)) fun a => by simp only [cnt_app, cnt_cons, cnt_nil]; omega) hint hfind fun σ8 H8 => ?_
        exact tail i σ8 H8
    · have hlt : ¬ at_ < W * H := fun h => hy (Int.ofNat_lt.2 (hiff.1 h))
      have est : stepG W H C at_ x = (C, at_) := by unfold stepG; rw [if_neg e10, if_neg hlt]
      rw [est] at hK
      exact hK σ3 ⟨cm, R, hR, H4.sep fun a => by simp only [gL, cnt_app, cnt_cons]; omega⟩)
/-- A character put to the world's current stream. -/
theorem c29g {x : Int} (hW : 0 < W) (hW2 : W ≤ 1000) (hH2 : H ≤ 1000) (hat : at_ < 100000) (hwr : wr < 100000) (hx : 0 ≤ x) (hC : ∀ q ∈ C, q.1 < at_) (h : Gst W H g al tr sh w s tm nd shq 2 C at_ wr M σ)
    (hK : ∀ σ', Gst W H g al tr sh w s tm nd shq 2 (stepG W H C at_ x).1 (stepG W H C at_ x).2 (wr + 1) M σ' → K unit0 σ') : Tri Tryz.prog 29 [ptr g, u32 x] σ K := tri_in (by
  rw [s29]
  obtain ⟨cm, R, hR, Hh⟩ := h
  refine ldm Hh List.mem_cons_self rfl ?_
  simp only [tB_bool, Bool.not_false, bm_true]
  refine ldm Hh List.mem_cons_self rfl (tI_mk (tri_in ?_))
  rw [s72]
  refine c54 (y := u32 2) (al := al) (gs := [ptr tr, ptr sh, .slice none 0 0, .slice none 0 0, u32 2, .bool false]) (es := esG w s) (n := 2) (ob := s) (i := 1) (os := [u32 0, i64 0, u32 0, u32 0, .slice none 0 0, .map none, u32 0, u32 0, i64 0, u32 0, u32 0, u32 1, i64 0, u32 0, i64 0, .bool false, u32 wr, .string (ByteArray.mk #[])]) List.mem_cons_self (by simp [gL]) (by simp [gL, stG]) rfl Hh ?_
  simp only [tP_ptr, ptrEq_some, bm_false, pSome_some]
  have hs : (s, stG wr) ∈ gL W H g al tr sh w s tm nd shq 2 cm at_ wr R ++ M := by simp [gL]
  refine ldm Hh hs rfl (tI_mk (bne_mk (fun _ => ?_) (fun h => absurd h (by decide))))
  refine ldm Hh hs rfl (tI_mk ?_)
  rw [wrapUs (n := wr) (by omega)]
  refine put0 (Hh.sep (M := (s, stG wr) :: ((g, gO 2 al tr sh) :: (w, wG cm (at_ % W : Nat) (at_ / W : Nat)) :: (al, .map (esG w s) 2) :: (tm, .map [.mk (i64 1) (ptr nd) 0] 1) :: (tr, trG W H tm) :: (nd, ndG) :: (sh, shq) :: (R ++ M))) fun a => by simp only [gL, cnt_app, cnt_cons]; omega) rfl (by simp [stG]) fun σ1 H1 => ?_
  have W1 : Gst W H g al tr sh w s tm nd shq 2 C at_ (wr + 1) M σ1 := ⟨cm, R, hR, H1.sep fun a => by simp only [gL, stG, i64, u32, List.set_cons_zero, List.set_cons_succ, cnt_app, cnt_cons]; omega⟩
  refine ldm H1 List.mem_cons_self rfl (tI_mk ?_)
  exact c132g hW hW2 hH2 hat hx hC W1 hK)
end
end Go.AI
end
section
set_option linter.unusedSimpArgs false
set_option linter.unusedVariables false
set_option maxRecDepth 1000000
/- Calls on a window of rows: set, a place, cleared; what was told; no condition but those that each names. -/
namespace Go.AI
open Go.Proofs
section
variable {σ : AS} {K : Value → AS → Prop} {G : Value → Prop} {Gs : AS → Prop} {L M N : List (Nat × AObj)} {W H g al tr sh w s tm nd : Nat} {shq : AObj} {cur : Int} {C : List (Nat × Int)} {at_ wr : Nat}
theorem n46q : ∀ (σ : AS) (K : Value → AS → Prop), callN Tryz.prog hints glE 80 46 [u32 43] σ K = K (i64 3) σ := by intros; kernel_rfl
theorem n46r : ∀ (σ : AS) (K : Value → AS → Prop), callN Tryz.prog hints glE 80 46 [u32 42] σ K = K (i64 1) σ := by intros; kernel_rfl
theorem n46s : ∀ (σ : AS) (K : Value → AS → Prop), callN Tryz.prog hints glE 80 46 [u32 47] σ K = K (i64 1) σ := by intros; kernel_rfl
theorem Gst.ldM {i o : Nat} {k : RK} {cs : List Value} {v : Value} (h : Gst W H g al tr sh w s tm nd shq cur C at_ wr M σ) (hi : (i, AObj.row k cs) ∈ M) (hv : cs[o]? = some v) (hG : G v) : ldc σ ⟨i, o, none⟩ G := ldm h.has hi hv hG
theorem Gst.ld7 (h : Gst W H g al tr sh w s tm nd shq cur C at_ wr M σ) (hG : G (.bool false)) : ldc σ ⟨g, 7, none⟩ G := by
  obtain ⟨cm, R, hR, Hh⟩ := h
  exact ldm Hh List.mem_cons_self rfl hG
theorem Gst.ld5 (h : Gst W H g al tr sh w s tm nd shq cur C at_ wr M σ) (hG : G (.slice none 0 0)) : ldc σ ⟨g, 5, none⟩ G := by
  obtain ⟨cm, R, hR, Hh⟩ := h
  exact ldm Hh List.mem_cons_self rfl hG
theorem Gst.ldk (h : Gst W H g al tr sh w s tm nd shq cur C at_ wr M σ) (hG : G (u32 4)) : ldc σ ⟨w, 3, none⟩ G := by
  obtain ⟨cm, R, hR, Hh⟩ := h
  exact ldm Hh (List.mem_cons_of_mem _ List.mem_cons_self) rfl hG
theorem Gst.ofw (h : Gst W H g al tr sh w s tm nd shq cur C at_ wr M σ) (hK : K (ptr w) σ) : Tri Tryz.prog 54 [ptr g, u32 1, i64 1] σ K := by
  obtain ⟨cm, R, hR, Hh⟩ := h
  exact c54 (y := u32 2) (al := al) (gs := [ptr tr, ptr sh, .slice none 0 0, .slice none 0 0, u32 cur, .bool false]) (es := esG w s) (n := 2) (ob := w) (i := 0) (os := [u32 0, i64 1, u32 4, u32 2, .slice none 0 0, .map cm, u32 (at_ % W : Nat), u32 (at_ / W : Nat), i64 0, u32 0, u32 0, u32 0, i64 0, u32 0, i64 0, .bool false, u32 0, .string (ByteArray.mk #[])]) List.mem_cons_self (by simp [gL]) (List.mem_cons_of_mem _ List.mem_cons_self) rfl Hh hK
theorem Gst.put0 {j o : Nat} {k : RK} {cs : List Value} {v : Value} (h : Gst W H g al tr sh w s tm nd shq cur C at_ wr ((j, .row k cs) :: M) σ) (hk : k.own = true) (ho : o < cs.length) (hG : ∀ σ', Gst W H g al tr sh w s tm nd shq cur C at_ wr ((j, .row k (cs.set o v)) :: M) σ' → Gs σ') : put1 σ ⟨j, o, none⟩ v Gs := by
  obtain ⟨cm, R, hR, Hh⟩ := h
  refine Go.AI.put0 (Hh.sep (M := (j, .row k cs) :: (gL W H g al tr sh w s tm nd shq cur cm at_ wr R ++ M)) fun a => by simp only [cnt_app, cnt_cons]; omega) hk ho fun σ' H' => ?_
  exact hG σ' ⟨cm, R, hR, H'.sep fun a => by simp only [cnt_app, cnt_cons]; omega⟩
/-- A character looked for. -/
theorem Gst.char {x y : Nat} {Gm : Option Value → Prop} (hx : x < W) (h : Gst W H g al tr sh w s tm nd shq cur C at_ wr M σ) (hG : Gm ((valO C (y * W + x)).map u32)) : ldc σ ⟨w, 6, none⟩ fun v => tM v fun b => mget2 σ .u32 b (.agg ⟨[u32 (x : Int), u32 (y : Int)]⟩) Gm := by
  obtain ⟨cm, R, hR, Hh⟩ := h
  refine ldm Hh (List.mem_cons_of_mem _ List.mem_cons_self) rfl ?_
  simp only [tM_map]
  have hint : int2 .u32 (.agg ⟨[u32 (x : Int), u32 (y : Int)]⟩) = some ((x : Int), (y : Int)) := int2_mk .u32 ((x : Int), (y : Int))
  obtain ⟨r, h1, h2⟩ := find_C (y := y) hx C 0 0
  unfold mget2
  refine pSome_mk hint ?_
  rcases hR with ⟨rfl, rfl, rfl⟩ | ⟨i, rfl, rfl⟩
  · refine pSome_mk rfl (pSome_mk rfl ?_)
    exact hG
  · have hi : σ i = some (.map (esC W 0 C) C.length) := Hh.g (by simp [gL])
    have he : σ.ents (some i) = some (esC W 0 C) := by simp only [AS.ents, hi]
    refine pSome_mk he (pSome_mk h1 ?_)
    rw [h2]
    exact hG
theorem c16sg {m ar : Nat} (har : (ar, AObj.row .rw [u32 1]) ∈ M) (h : Gst W H g al tr sh w s tm nd shq cur C at_ wr M σ) (hK : ∀ σ', Gst W H g al tr sh w s tm nd shq 2 C at_ wr M σ' → K (.tuple ⟨[u32 0, i64 0]⟩) σ') :
    Tri Tryz.prog 16 [ptr g, .iface 29 (ptr m), u32 47, .slice (some ⟨ar, 0, none⟩) 1 1] σ K := tri_in (by
  rw [s16set]
  refine h.ld7 ?_
  simp only [tB_bool, bm_false]
  refine tri_hard ?_
  rw [n46s]
  refine tI_mk (bne_mk (fun h => absurd rfl h) (fun _ => ?_))
  refine h.newAt fun c σ1 h1 => tri_in ?_
  rw [s49set]
  refine h1.ldM List.mem_cons_self rfl (tL_mk (req_mk (by simp only; omega) ?_))
  simp only [pSome_some, aadd_none, szP32]
  refine h1.ldM (List.mem_cons_of_mem _ har) rfl (tI_mk ?_)
  refine beq_mk (fun h => absurd h (by decide)) (fun _ => ?_)
  refine h1.ldM List.mem_cons_self rfl ?_
  simp only [tP_ptr]
  refine h1.ldM List.mem_cons_self rfl (tL_mk (req_mk (by simp only; omega) ?_))
  simp only [pSome_some, aadd_none, szP32]
  refine h1.ldM (List.mem_cons_of_mem _ har) rfl (tI_mk ?_)
  refine h1.ofw ?_
  simp only [tP_ptr, ptrEq_some, bm_false]
  refine h1.ldM List.mem_cons_self rfl ?_
  simp only [tP_ptr, pSome_some]
  obtain ⟨cm, R, hR, Hh⟩ := h1
  refine ldm Hh (List.mem_cons_of_mem _ List.mem_cons_self) rfl (tI_mk ?_)
  refine put0 (Hh.sep (M := (g, gO cur al tr sh) :: ((w, wG cm (at_ % W : Nat) (at_ / W : Nat)) :: (s, stG wr) :: (al, .map (esG w s) 2) :: (tm, .map [.mk (i64 1) (ptr nd) 0] 1) :: (tr, trG W H tm) :: (nd, ndG) :: (sh, shq) :: (R ++ M))) fun a => by simp only [gL, cnt_app, cnt_cons]; omega) rfl (by simp [gO]) fun σ2 H2 => ?_
  simp only [tTup_tup, pSome_some, List.getElem?_cons_zero, List.getElem?_cons_succ, tI_int]
  exact hK σ2 ⟨cm, R, hR, H2.sep fun a => by simp only [gL, gO, u32, List.set_cons_zero, List.set_cons_succ, cnt_app, cnt_cons]; omega⟩)
theorem c16wc {m ar x y : Nat} (hx : x < W) (har : (ar, AObj.row .rw [u32 1, u32 x, u32 y]) ∈ M) (h : Gst W H g al tr sh w s tm nd shq cur C at_ wr M σ) (hK : ∀ σ', Gst W H g al tr sh w s tm nd shq cur C (y * W + x) wr M σ' → K (.tuple ⟨[u32 0, i64 0]⟩) σ') :
    Tri Tryz.prog 16 [ptr g, .iface 29 (ptr m), u32 43, .slice (some ⟨ar, 0, none⟩) 3 1] σ K := tri_in (by
  rw [s16wc]
  refine h.ld7 ?_
  simp only [tB_bool, bm_false]
  refine tri_hard ?_
  rw [n46q]
  refine tI_mk (bne_mk (fun h => absurd rfl h) (fun _ => ?_))
  refine h.newAt fun c σ1 h1 => tri_in ?_
  rw [s49wc]
  refine h1.ldM List.mem_cons_self rfl ?_
  simp only [tP_ptr]
  refine h1.ldM List.mem_cons_self rfl (tL_mk (req_mk (by simp only; omega) ?_))
  simp only [pSome_some, aadd_none, szP32]
  refine h1.ldM (List.mem_cons_of_mem _ har) rfl (tI_mk ?_)
  refine h1.ofw ?_
  simp only [tP_ptr, ptrEq_some, bm_false, pSome_some]
  refine h1.ldk (tI_mk (beq_mk (fun _ => ?_) (fun h => absurd rfl h)))
  refine h1.ldM List.mem_cons_self rfl (tL_mk (req_mk (by simp only; omega) ?_))
  simp only [pSome_some, aadd_none, szP32]
  refine h1.ldM (List.mem_cons_of_mem _ har) rfl (tI_mk ?_)
  refine h1.ldM List.mem_cons_self rfl (tL_mk (req_mk (by simp only; omega) ?_))
  simp only [pSome_some, aadd_none, szP32]
  refine h1.ldM (List.mem_cons_of_mem _ har) rfl (tI_mk ?_)
  obtain ⟨cm, R, hR, Hh⟩ := h1
  refine put0 (Hh.sep (M := (w, wG cm (at_ % W : Nat) (at_ / W : Nat)) :: ((g, gO cur al tr sh) :: (s, stG wr) :: (al, .map (esG w s) 2) :: (tm, .map [.mk (i64 1) (ptr nd) 0] 1) :: (tr, trG W H tm) :: (nd, ndG) :: (sh, shq) :: (R ++ M))) fun a => by simp only [gL, cnt_app, cnt_cons]; omega) rfl (by simp [wG]) fun σ2 H2 => ?_
  refine put0 H2 rfl (by simp [wG]) fun σ3 H3 => ?_
  simp only [tTup_tup, pSome_some, List.getElem?_cons_zero, List.getElem?_cons_succ, tI_int]
  have e1 : (y * W + x) % W = x := by rw [Nat.mul_comm, Nat.mul_add_mod, Nat.mod_eq_of_lt hx]
  have e2 : (y * W + x) / W = y := by rw [Nat.mul_comm, Nat.mul_add_div (by omega), Nat.div_eq_of_lt hx, Nat.add_zero]
  exact hK σ3 ⟨cm, R, hR, H3.sep fun a => by simp only [gL, wG, e1, e2, i64, u32, List.set_cons_zero, List.set_cons_succ, cnt_app, cnt_cons]; omega⟩)
theorem c16wk {m ar : Nat} (har : (ar, AObj.row .rw [u32 1]) ∈ M) (h : Gst W H g al tr sh w s tm nd shq cur C at_ wr M σ) (hK : ∀ σ', Gst W H g al tr sh w s tm nd shq cur [] 0 wr M σ' → K (.tuple ⟨[u32 0, i64 0]⟩) σ') :
    Tri Tryz.prog 16 [ptr g, .iface 29 (ptr m), u32 42, .slice (some ⟨ar, 0, none⟩) 1 1] σ K := tri_in (by
  rw [s16wk]
  refine h.ld7 ?_
  simp only [tB_bool, bm_false]
  refine tri_hard ?_
  rw [n46r]
  refine tI_mk (bne_mk (fun h => absurd rfl h) (fun _ => ?_))
  refine h.newAt fun c σ1 h1 => tri_in ?_
  rw [s49wk]
  refine h1.ldM List.mem_cons_self rfl ?_
  simp only [tP_ptr]
  refine h1.ldM List.mem_cons_self rfl (tL_mk (req_mk (by simp only; omega) ?_))
  simp only [pSome_some, aadd_none, szP32]
  refine h1.ldM (List.mem_cons_of_mem _ har) rfl (tI_mk ?_)
  refine h1.ofw ?_
  simp only [tP_ptr, ptrEq_some, bm_false, pSome_some]
  obtain ⟨cm, R, hR, Hh⟩ := h1
  refine put0 (Hh.sep (M := (w, wG cm (at_ % W : Nat) (at_ / W : Nat)) :: ((g, gO cur al tr sh) :: (s, stG wr) :: (al, .map (esG w s) 2) :: (tm, .map [.mk (i64 1) (ptr nd) 0] 1) :: (tr, trG W H tm) :: (nd, ndG) :: (sh, shq) :: M)) fun a => by simp only [gL, cnt_app, cnt_cons]; omega) rfl (by simp [wG]) fun σ2 H2 => ?_
  refine put0 H2 rfl (by simp [wG]) fun σ3 H3 => ?_
  refine put0 H3 rfl (by simp [wG]) fun σ4 H4 => ?_
  refine put0 H4 rfl (by simp [wG]) fun σ5 H5 => ?_
  simp only [tTup_tup, pSome_some, List.getElem?_cons_zero, List.getElem?_cons_succ, tI_int]
  exact hK σ5 ⟨none, [], .inl ⟨rfl, rfl, rfl⟩, H5.sep fun a => by simp only [gL, wG, Nat.zero_mod, Nat.zero_div, Int.natCast_zero, i64, u32, List.set_cons_zero, List.set_cons_succ, cnt_app, cnt_cons, cnt_nil]; omega⟩)
/-- Nothing was told. -/
theorem c17g (h : Gst W H g al tr sh w s tm nd shq cur C at_ wr M σ) (hK : K (.slice none 0 0) σ) : Tri Tryz.prog 17 [ptr g] σ K := tri_in (by
  rw [s17]
  refine h.ld5 (tL_ok rfl ?_)
  refine aloop (fun (_ : Nat) rg σ' => σ' = σ ∧ rg = [(3, some (.slice none 0 0)), (11, some (.slice none 0 2)), (12, some (i64 0)), (13, some (i64 0))]) (fun k => k) ?_ (a := 0) ⟨rfl, rfl⟩
  rintro _ rg σ1 Y hY ⟨rfl, rfl⟩
  rw [s17l]
  refine bmd_mk (fun h => absurd h (by decide)) (fun _ => ?_)
  exact hK)
end
end Go.AI
end
section
set_option linter.unusedSimpArgs false
set_option linter.unusedVariables false
set_option maxRecDepth 1000000
/- The rows of a window, told; no condition but those that each names. -/
namespace Go.AI
open Go.Proofs
def rowG (W : Nat) (C : List (Nat × Int)) (y : Nat) : List Int := (List.range W).map fun x => valC C (y * W + x)
def slG (W j : Nat) : Value := .slice (some ⟨j, 0, none⟩) W 1
def rowsR (W : Nat) (C : List (Nat × Int)) : Nat → List Nat → List (Nat × AObj)
  | _, [] => []
  | y, j :: js => (j, .row .rw (cellsU (rowG W C y))) :: rowsR W C (y + 1) js
theorem rowsR_app (W : Nat) (C : List (Nat × Int)) : ∀ (y : Nat) (js : List Nat) (j : Nat), rowsR W C y (js ++ [j]) = rowsR W C y js ++ [(j, .row .rw (cellsU (rowG W C (y + js.length))))]
  | y, [], j => by simp [rowsR]
  | y, i :: js, j => by
    have := rowsR_app W C (y + 1) js j
    simp only [List.cons_append, rowsR, this, List.length_cons]
    rw [show y + 1 + js.length = y + (js.length + 1) by omega]
theorem rowsR_mem {W : Nat} {C : List (Nat × Int)} : ∀ {y : Nat} {js : List Nat} {k j : Nat}, js[k]? = some j → (j, AObj.row .rw (cellsU (rowG W C (y + k)))) ∈ rowsR W C y js
  | y, [], k, j, h => by simp at h
  | y, i :: js, 0, j, h => by
    simp at h
    subst h
    simp [rowsR]
  | y, i :: js, k + 1, j, h => by
    have := rowsR_mem (W := W) (C := C) (y := y + 1) (js := js) (k := k) (j := j) (by simpa using h)
    rw [show y + 1 + k = y + (k + 1) by omega] at this
    simp [rowsR, this]
theorem rowG_len (W : Nat) (C : List (Nat × Int)) (y : Nat) : (rowG W C y).length = W := by unfold rowG; simp
theorem rowG_get {W : Nat} {C : List (Nat × Int)} {y x : Nat} (h : x < W) : (rowG W C y)[x]? = some (valC C (y * W + x)) := by
  unfold rowG
  rw [List.getElem?_map, List.getElem?_range h]
  rfl
theorem flat_repG {α : Type} (z : α) : ∀ m, (List.replicate m [z]).flatten = List.replicate m z
  | 0 => rfl
  | m + 1 => by simp [List.replicate_succ, flat_repG z m]
theorem set_repG {α : Type} {A : List α} {z v : α} {n i : Nat} (h : A.length = i) : (A ++ List.replicate (n + 1) z).set i v = A ++ [v] ++ List.replicate n z := by
  subst h
  rw [List.set_append_right _ _ (Nat.le_refl _), Nat.sub_self, List.replicate_succ, List.set_cons_zero]
  simp
theorem set_midG {α : Type} {A B : List α} {z v : α} {i : Nat} (h : A.length = i) : (A ++ [z] ++ B).set i v = A ++ [v] ++ B := by
  subst h
  rw [List.append_assoc, List.set_append_right _ _ (Nat.le_refl _), Nat.sub_self]
  simp
theorem by22 : bytesOf Tryz.prog 22 = 24 := by kernel_rfl
theorem by32 : bytesOf Tryz.prog 32 = 4 := by kernel_rfl
theorem szP22 : szOf Tryz.prog 22 = 1 := by kernel_rfl
section
variable {σ : AS} {K : Value → AS → Prop} {G : Value → Prop} {Gs : AS → Prop} {L M N : List (Nat × AObj)} {W H g al tr sh w s tm nd : Nat} {shq : AObj} {cur : Int} {C : List (Nat × Int)} {at_ wr : Nat}
theorem Gst.puts0 {j o : Nat} {k : RK} {cs vs : List Value} (h : Gst W H g al tr sh w s tm nd shq cur C at_ wr ((j, .row k cs) :: M) σ) (hk : k.own = true) (ho : o + vs.length ≤ cs.length) (hG : ∀ σ', Gst W H g al tr sh w s tm nd shq cur C at_ wr ((j, .row k (cs.take o ++ vs ++ cs.drop (o + vs.length))) :: M) σ' → Gs σ') : puts σ ⟨j, o, none⟩ vs Gs := by
  obtain ⟨cm, R, hR, Hh⟩ := h
  refine Go.AI.puts0 (Hh.sep (M := (j, .row k cs) :: (gL W H g al tr sh w s tm nd shq cur cm at_ wr R ++ M)) fun a => by simp only [cnt_app, cnt_cons]; omega) hk ho fun σ' H' => ?_
  exact hG σ' ⟨cm, R, hR, H'.sep fun a => by simp only [cnt_app, cnt_cons]; omega⟩
theorem Gst.win {Gm : Option Addr → Prop} (h : Gst W H g al tr sh w s tm nd shq cur C at_ wr M σ) (hG : Gm (some ⟨w, 0, none⟩)) : ldc σ ⟨g, 1, none⟩ fun v => tM v fun b => mget σ (.int .u32) b (u32 1) fun o => tP (o.getD (.pointer none)) Gm := by
  obtain ⟨cm, R, hR, Hh⟩ := h
  refine ldm Hh List.mem_cons_self rfl ?_
  simp only [tM_map]
  have hal : (al, AObj.map (esG w s) 2) ∈ gL W H g al tr sh w s tm nd shq cur cm at_ wr R ++ M := by simp [gL]
  have hfn : Instr.findNow (.int .u32) (u32 1) (esG w s) 0 = some (some (0, ptr w)) := rfl
  rw [mget_eq (Hh.g hal), hfn]
  exact hG
/-- One row. -/
theorem row_g {LL r0 j y : Nat} {cl : List Value} {X : Regs → AS → Prop} (hW : 0 < W) (hW2 : W ≤ 1000) (hH2 : H ≤ 1000) (hy : y < H) (hcl : cl[y]? = some (slG W j))
    (h : Gst W H g al tr sh w s tm nd shq cur C at_ wr ((j, .row .rw (cellsU (List.replicate W 0))) :: (LL, .row .rw cl) :: M) σ)
    (hX : ∀ σ', Gst W H g al tr sh w s tm nd shq cur C at_ wr ((j, .row .rw (cellsU (rowG W C y))) :: (LL, .row .rw cl) :: M) σ' → X [(5, some (ptr w)), (6, some (ptr r0)), (7, some (.slice (some ⟨LL, 0, none⟩) H 1)), (45, some (i64 H)), (46, some (i64 ((y + 1 : Nat) : Int)))] σ') :
    ALoop (fl Tryz.prog hintsS (Tri Tryz.prog) 30 [true, true, true, true, true, false, true, false, false, true, true, false, false, true, true, true, false] [X] K)
      [(5, some (ptr w)), (6, some (ptr r0)), (7, some (.slice (some ⟨LL, 0, none⟩) H 1)), (8, some (i64 y)), (45, some (i64 H)), (46, some (i64 y)), (59, some (i64 W)), (60, some (i64 0))] σ := by
  refine aloop (fun (x : Nat) rg σ' => x ≤ W ∧ Gst W H g al tr sh w s tm nd shq cur C at_ wr ((j, .row .rw (cellsU ((rowG W C y).take x ++ List.replicate (W - x) 0))) :: (LL, .row .rw cl) :: M) σ' ∧
    rg = [(5, some (ptr w)), (6, some (ptr r0)), (7, some (.slice (some ⟨LL, 0, none⟩) H 1)), (8, some (i64 y)), (45, some (i64 H)), (46, some (i64 y)), (59, some (i64 W)), (60, some (i64 x))]) (fun x => W - x) ?_ (a := 0) ⟨Nat.zero_le _, by simpa using h, rfl⟩
  rintro x rg σ1 Y hY ⟨hx, h1, rfl⟩
  rw [s30l1]
  refine bmd_mk (fun hlt => ?_) (fun hge => ?_)
  · have hxW : x < W := by omega
    obtain ⟨n, hn⟩ : ∃ n, W - x = n + 1 := ⟨W - x - 1, by omega⟩
    have hn2 : W - (x + 1) = n := by omega
    have hget := rowG_get (C := C) (y := y) hxW
    have htk : (rowG W C y).take (x + 1) = (rowG W C y).take x ++ [valC C (y * W + x)] := by rw [List.take_add_one, hget]; rfl
    have hlk : ((rowG W C y).take x).length = x := by simp [rowG_len]; omega
    have hcell : ∀ {cs : List Value} {σ' : AS}, Gst W H g al tr sh w s tm nd shq cur C at_ wr ((j, .row .rw cs) :: (LL, .row .rw cl) :: M) σ' → ∀ {G : Value → Prop}, G (slG W j) → ldc σ' ⟨LL, y, none⟩ G := by
      intro cs σ' h' G hG
      exact h'.ldM (List.mem_cons_of_mem _ List.mem_cons_self) hcl hG
    have done : ∀ σ', Gst W H g al tr sh w s tm nd shq cur C at_ wr ((j, .row .rw (cellsU ((rowG W C y).take x ++ [valC C (y * W + x)] ++ List.replicate n 0))) :: (LL, .row .rw cl) :: M) σ' → Y [(5, some (ptr w)), (6, some (ptr r0)), (7, some (.slice (some ⟨LL, 0, none⟩) H 1)), (8, some (i64 y)), (45, some (i64 H)), (46, some (i64 y)), (59, some (i64 W)), (60, some (i64 (IntKind.wrap .i64 ((x : Int) + 1))))] σ' := fun σ' h' => by
      rw [wrap1 (by omega)]
      refine hY (x + 1) _ _ (by omega) ⟨by omega, ?_, rfl⟩
      rw [htk, hn2]
      exact h'
    refine req_mk (by omega) (req_mk (by omega) ?_)
    simp only [pSome_some, aadd_none, szP22, szP32, Int.toNat_natCast, Nat.mul_one, Nat.zero_add]
    refine req_mk trivial (hcell h1 ?_)
    unfold slG
    refine tL_mk (req_mk (by omega) (req_mk (by simp only; omega) ?_))
    simp only [pSome_some, aadd_none, Nat.zero_add]
    refine h1.put0 rfl (by simp [rowG_len]; omega) fun σ2 h2 => ?_
    have e2 : (cellsU ((rowG W C y).take x ++ List.replicate (W - x) 0)).set x (u32 32) = cellsU ((rowG W C y).take x ++ [32] ++ List.replicate n 0) := by
      rw [hn, ← set_repG (A := (rowG W C y).take x) hlk]
      simp [cellsU, List.map_set]
    rw [e2] at h2
    rw [wrapU32 (n := (x : Int)) (by omega) (by omega), wrapU32 (n := (y : Int)) (by omega) (by omega)]
    refine h2.char hxW ?_
    cases hv : valO C (y * W + x) with
    | none =>
      simp only [Option.map_none, Option.getD_none, tI_int, Option.isSome_none, bm_false]
      refine done σ2 ?_
      unfold valC
      rw [hv]
      exact h2
    | some v =>
      simp only [Option.map_some, Option.getD_some, tI_int, Option.isSome_some, bm_true]
      refine req_mk (by omega) (req_mk (by omega) ?_)
      refine req_mk trivial (hcell h2 ?_)
      unfold slG
      refine tL_mk (req_mk (by omega) (req_mk (by simp only; omega) ?_))
      simp only [pSome_some, aadd_none, Nat.zero_add]
      refine h2.put0 rfl (by simp [rowG_len]; omega) fun σ3 h3 => ?_
      have e3 : (cellsU ((rowG W C y).take x ++ [32] ++ List.replicate n 0)).set x (u32 v) = cellsU ((rowG W C y).take x ++ [v] ++ List.replicate n 0) := by
        rw [← set_midG (z := (32 : Int)) (v := v) hlk]
        exact List.map_set.symm
      rw [e3] at h3
      refine done σ3 ?_
      unfold valC
      rw [hv]
      exact h3
  · have ex : x = W := by omega
    subst ex
    rw [List.take_of_length_le (by rw [rowG_len]; exact Nat.le_refl _), Nat.sub_self, List.replicate_zero, List.append_nil] at h1
    rw [wrap1 (by omega)]
    exact hX σ1 h1
theorem c30g (hW : 0 < W) (hW2 : W ≤ 1000) (hH2 : H ≤ 1000) (h : Gst W H g al tr sh w s tm nd shq cur C at_ wr M σ)
    (hK : ∀ LL js σ', js.length = H → Gst W H g al tr sh w s tm nd shq cur C at_ wr ((LL, .row .rw (js.map (slG W))) :: (rowsR W C 0 js ++ M)) σ' → K (.slice (some ⟨LL, 0, none⟩) H 1) σ') : Tri Tryz.prog 30 [ptr g, u32 1] σ K := tri_in (by
  rw [s30]
  refine h.ofw ?_
  simp only [tP_ptr, ptrEq_some, bm_false]
  refine h.win ?_
  simp only [pSome_some]
  refine h.ldk (tI_mk (bne_mk (fun h => absurd rfl h) (fun _ => ?_)))
  refine h.win ?_
  refine c73g h fun σ1 h1 => ?_
  simp only [tAgg_agg, tCons_cons, tI_int, tNil_nil]
  refine h1.newAt fun r0 σ2 h2 => ?_
  refine h2.puts0 (k := .plain) rfl (by simp) fun σ3 h3 => ?_
  have h4 : Gst W H g al tr sh w s tm nd shq cur C at_ wr ((r0, .row .plain [i64 0, i64 0, i64 W, i64 H]) :: M) σ3 := by simpa using h3
  refine h4.ldM List.mem_cons_self rfl (tI_mk ?_)
  rw [by22]
  refine req_mk (by omega) (req_mk (Int.le_refl _) (req_mk (by omega) ?_))
  have ev : ∀ v : Value, v.oneCell' = true → valCells v = [v] := fun v hv => by cases v <;> first | rfl | cases hv
  rw [ev _ rfl, flat_repG, Int.toNat_natCast]
  refine h4.newAt fun LL σ4 h5 => ?_
  refine aloop (fun (y : Nat) rg σ' => y ≤ H ∧ (∃ js, js.length = y ∧ Gst W H g al tr sh w s tm nd shq cur C at_ wr ((LL, .row .rw (js.map (slG W) ++ List.replicate (H - y) (.slice none 0 0))) :: (r0, .row .plain [i64 0, i64 0, i64 W, i64 H]) :: (rowsR W C 0 js ++ M)) σ') ∧
    rg = [(5, some (ptr w)), (6, some (ptr r0)), (7, some (.slice (some ⟨LL, 0, none⟩) H 1)), (45, some (i64 H)), (46, some (i64 y))]) (fun y => H - y) ?_ (a := 0) ⟨Nat.zero_le _, ⟨[], rfl, h5⟩, rfl⟩
  rintro y rg σ5 Y hY ⟨hy, ⟨js, hjs, h6⟩, rfl⟩
  rw [s30l]
  refine bmd_mk (fun hlt => ?_) (fun hge => ?_)
  · have hyH : y < H := by omega
    obtain ⟨n, hn⟩ : ∃ n, H - y = n + 1 := ⟨H - y - 1, by omega⟩
    refine h6.ldM (List.mem_cons_of_mem _ List.mem_cons_self) rfl (tI_mk ?_)
    rw [by32]
    refine req_mk (by omega) (req_mk (Int.le_refl _) (req_mk (by omega) ?_))
    rw [ev _ rfl, flat_repG, Int.toNat_natCast]
    refine h6.newAt fun j σ6 h7 => ?_
    refine req_mk (by omega) (req_mk (by omega) ?_)
    simp only [pSome_some, aadd_none, szP22, Int.toNat_natCast, Nat.mul_one, Nat.zero_add]
    refine req_mk trivial ?_
    have h8 := h7.sep (N := (LL, .row .rw (js.map (slG W) ++ List.replicate (H - y) (.slice none 0 0))) :: (j, .row .rw (List.replicate W (u32 0))) :: (r0, .row .plain [i64 0, i64 0, i64 W, i64 H]) :: (rowsR W C 0 js ++ M)) (fun a => by simp only [u32, cnt_app, cnt_cons]; omega)
    refine h8.put0 rfl (by simp [hjs]; omega) fun σ7 h9 => ?_
    have ecl : (js.map (slG W) ++ List.replicate (H - y) (Value.slice none 0 0)).set y (slG W j) = js.map (slG W) ++ [slG W j] ++ List.replicate n (.slice none 0 0) := by
      rw [hn, set_repG (by simp [hjs])]
    have h10 : Gst W H g al tr sh w s tm nd shq cur C at_ wr ((LL, .row .rw (js.map (slG W) ++ [slG W j] ++ List.replicate n (.slice none 0 0))) :: (j, .row .rw (List.replicate W (u32 0))) :: (r0, .row .plain [i64 0, i64 0, i64 W, i64 H]) :: (rowsR W C 0 js ++ M)) σ7 := by rw [← ecl]; exact h9
    have hcl : (js.map (slG W) ++ [slG W j] ++ List.replicate n (Value.slice none 0 0))[y]? = some (slG W j) := by
      rw [List.append_assoc, List.getElem?_append_right (by simp [hjs]), List.length_map, hjs, Nat.sub_self]
      rfl
    refine req_mk (by omega) (req_mk (by omega) (req_mk trivial ?_))
    refine h10.ldM List.mem_cons_self hcl ?_
    refine tL_mk ?_
    have erep : List.replicate W (u32 0) = cellsU (List.replicate W 0) := by simp [cellsU]
    refine row_g (j := j) (LL := LL) (r0 := r0) (M := (r0, .row .plain [i64 0, i64 0, i64 W, i64 H]) :: (rowsR W C 0 js ++ M)) hW hW2 hH2 hyH hcl (h10.sep fun a => by rw [erep]; simp only [cnt_app, cnt_cons]; omega) fun σ8 h11 => ?_
    refine hY (y + 1) _ _ (by omega) ⟨by omega, ⟨js ++ [j], by simp [hjs], h11.sep fun a => ?_⟩, rfl⟩
    rw [rowsR_app, Nat.zero_add, hjs, show H - (y + 1) = n by omega, List.map_append]
    simp only [List.map_cons, List.map_nil, cnt_app, cnt_cons, cnt_nil]
    omega
  · have ey : y = H := by omega
    subst ey
    rw [Nat.sub_self, List.replicate_zero, List.append_nil] at h6
    exact hK LL js σ5 hjs (h6.sep fun a => by simp only [cnt_app, cnt_cons]; omega))
end
end Go.AI
end
section
set_option linter.unusedSimpArgs false
set_option linter.unusedVariables false
set_option maxRecDepth 1000000
/- The law of rows: characters fill a grid row by row; no condition but those that each names. -/
namespace Go.AI
open Go.Proofs
theorem stepG_bound {W H : Nat} {C : List (Nat × Int)} {at_ : Nat} {c : Int} (hW : 0 < W) : (stepG W H C at_ c).2 ≤ at_ + W ∧ at_ ≤ (stepG W H C at_ c).2 := by
  have h1 := Nat.div_add_mod at_ W
  have h2 := Nat.mod_lt at_ hW
  have e : (at_ / W + 1) * W = W * (at_ / W) + W := by rw [Nat.add_mul, Nat.one_mul, Nat.mul_comm]
  unfold stepG
  split
  · simp only
    rw [e]
    omega
  · split <;> simp only <;> omega
/-- What was put lies behind the place, and on the screen. -/
def OkC (W H : Nat) (C : List (Nat × Int)) (at_ : Nat) : Prop := ∀ q ∈ C, q.1 < at_ ∧ q.1 < W * H
theorem stepG_ok {W H : Nat} {C : List (Nat × Int)} {at_ : Nat} {c : Int} (hW : 0 < W) (h : OkC W H C at_) : OkC W H (stepG W H C at_ c).1 (stepG W H C at_ c).2 := by
  have hb := (stepG_bound (H := H) (C := C) (at_ := at_) (c := c) hW).2
  intro q hq
  unfold stepG at hq hb ⊢
  split at hq
  · rename_i h10
    rw [if_pos h10] at hb ⊢
    have := h q hq
    simp only at hb ⊢
    omega
  · rename_i h10
    rw [if_neg h10] at hb ⊢
    split at hq
    · rename_i hlt
      rw [if_pos hlt]
      simp only at hq ⊢
      rcases List.mem_append.1 hq with hq | hq
      · have := h q hq; omega
      · simp only [List.mem_singleton] at hq
        subst hq
        simp only
        omega
    · rename_i hlt
      rw [if_neg hlt]
      exact h q hq
/-- What is wanted. -/
def Want (W H : Nat) (C : List (Nat × Int)) (V : List Int) : Prop := V.length = W * H ∧ ∀ p, p < W * H → V[p]? = some (valC C p)
section
variable {σ : AS} {K : Value → AS → Prop} {L M N : List (Nat × AObj)} {W H g al tr sh w s tm nd : Nat} {shq : AObj} {cur : Int} {C : List (Nat × Int)} {at_ wr : Nat}
/-- Two pieces of rows that are the same. -/
theorem c18o {r o r2 o2 n : Nat} {k k2 : RK} {cs cs2 : List Value} (hr : (r, AObj.row k cs) ∈ L) (hr2 : (r2, AObj.row k2 cs2) ∈ L) (hn : n ≤ 4096) (hsame : ∀ i, i < n → ∃ v, cs[o + i]? = some (u32 v) ∧ cs2[o2 + i]? = some (u32 v)) (Hh : Has σ L) (hK : K (.bool true) σ) :
    Tri Tryz.prog 18 [.slice (some ⟨r, o, none⟩) n 1, .slice (some ⟨r2, o2, none⟩) n 1] σ K := tri_in (by
  rw [s18]
  refine bne_mk (fun h => absurd rfl h) (fun _ => ?_)
  refine aloop (fun (i : Nat) rg σ' => i ≤ n ∧ σ' = σ ∧ rg = [(0, some (.slice (some ⟨r, o, none⟩) n 1)), (1, some (.slice (some ⟨r2, o2, none⟩) n 1)), (5, some (i64 i))]) (fun i => n - i) ?_ (a := 0) ⟨Nat.zero_le _, rfl, rfl⟩
  rintro i rg σ1 X hX ⟨hi, rfl, rfl⟩
  rw [s18l]
  refine bmd_mk (fun h => ?_) (fun h => hK)
  obtain ⟨v, h1, h2⟩ := hsame i (by omega)
  refine req_mk (by omega) (req_mk h ?_)
  simp only [pSome_some, aadd_none, szP32, Int.toNat_natCast, Nat.mul_one, Nat.zero_add]
  refine req_mk trivial (ldm Hh hr h1 (tI_mk ?_))
  refine req_mk (by omega) (req_mk h (req_mk trivial (ldm Hh hr2 h2 (tI_mk ?_))))
  refine bne_mk (fun h => absurd rfl h) (fun _ => ?_)
  rw [wrap1 (by omega)]
  exact hX (i + 1) _ _ (by omega) ⟨by omega, rfl, rfl⟩)
/-- The rows are those wanted; cleared, they are blank. -/
theorem gr_end {m VV LL : Nat} {V : List Int} {js : List Nat} (hW : 0 < W) (hW2 : W ≤ 20) (hH : 0 < H) (hH2 : H ≤ 10) (hV : Want W H C V) (hjs : js.length = H) (hVV : (VV, AObj.row .rw (cellsU V)) ∈ M)
    (h : Gst W H g al tr sh w s tm nd shq cur C at_ wr ((LL, .row .rw (js.map (slG W))) :: (rowsR W C 0 js ++ M)) σ) :
    ALoop (fl Tryz.prog hintsS (Tri Tryz.prog) 8 [true, true, true, true, true, true, true, true, true, true, true, true, true, true, true, false, true, false] [] RB)
      [(11, some (i64 W)), (12, some (i64 H)), (13, some (ptr g)), (15, some (ptr m)), (16, some (u32 1)), (19, some (.slice (some ⟨VV, 0, none⟩) (W * H) 1)), (22, some (.slice (some ⟨LL, 0, none⟩) H 1)), (23, some (i64 0))] σ := by
  have hWH : W * H ≤ 20 * 10 := Nat.mul_le_mul hW2 hH2
  have hslot : ∀ {js : List Nat} {i : Nat}, js.length = H → i < H → ∃ j, js[i]? = some j ∧ (js.map (slG W))[i]? = some (slG W j) := by
    intro js i hl hi
    refine ⟨js[i]'(by omega), List.getElem?_eq_getElem (by omega), ?_⟩
    rw [List.getElem?_map, List.getElem?_eq_getElem (by omega)]
    rfl
  refine aloop (fun (i : Nat) rg σ' => i ≤ H ∧ σ' = σ ∧ rg = [(11, some (i64 W)), (12, some (i64 H)), (13, some (ptr g)), (15, some (ptr m)), (16, some (u32 1)), (19, some (.slice (some ⟨VV, 0, none⟩) (W * H) 1)), (22, some (.slice (some ⟨LL, 0, none⟩) H 1)), (23, some (i64 i))]) (fun i => H - i) ?_ (a := 0) ⟨Nat.zero_le _, rfl, rfl⟩
  rintro i rg σ1 Y hY ⟨hi, rfl, rfl⟩
  rw [s8l2]
  refine bmd_mk (fun hlt => ?_) (fun hge => ?_)
  · have hiH : i < H := by omega
    obtain ⟨j, hj, hcell⟩ := hslot hjs hiH
    have hiW : (i + 1) * W ≤ W * H := by rw [Nat.mul_comm W H]; exact Nat.mul_le_mul_right _ (by omega)
    have hiW2 : i * W + W ≤ W * H := by rw [Nat.add_mul, Nat.one_mul] at hiW; exact hiW
    have e1 : IntKind.wrap .i64 ((i : Int) * (W : Int)) = ((i * W : Nat) : Int) := by rw [wrap64 (n := (i : Int) * (W : Int)) (by rw [← Int.natCast_mul]; omega) (by rw [← Int.natCast_mul]; omega), Int.natCast_mul]
    have e2 : IntKind.wrap .i64 (((i * W : Nat) : Int) + (W : Int)) = ((i * W + W : Nat) : Int) := by rw [wrap64 (by omega) (by omega)]; omega
    rw [e1, e2]
    refine req_mk (by omega) (req_mk (by omega) ?_)
    simp only [pSome_some, aadd_none, szP22, szP32, Int.toNat_natCast, Nat.mul_one, Nat.zero_add, Option.map_some]
    refine req_mk trivial (h.ldM List.mem_cons_self hcell ?_)
    unfold slG
    refine tL_mk (req_mk (by omega) (req_mk (by omega) (cap_mk (by omega) (chk_mk rfl ?_))))
    rw [show (((i * W + W : Nat) : Int) - ((i * W : Nat) : Int)).toNat = W by omega]
    have hrow := rowsR_mem (W := W) (C := C) (y := 0) hj
    rw [Nat.zero_add] at hrow
    refine c18o (n := W) (k := .rw) (k2 := .rw) (cs := cellsU (rowG W C i)) (cs2 := cellsU V) (by simp [hrow]) (by simp [hVV]) (by omega) (fun x hx => ?_) h.has ?_
    · refine ⟨valC C (i * W + x), ?_, ?_⟩
      · rw [Nat.zero_add]; exact cU (rowG_get hx)
      · exact cU (hV.2 (i * W + x) (by omega))
    simp only [tB_bool, Bool.not_true, bm_false]
    rw [wrap1 (by omega)]
    exact hY (i + 1) _ _ (by omega) ⟨by omega, rfl, rfl⟩
  · refine h.newAt fun ar σ2 h2 => ?_
    refine c16wk (m := m) List.mem_cons_self h2 fun σ3 h3 => ?_
    refine c30g hW (by omega) (by omega) h3 fun LL2 js2 σ4 hjs2 h4 => ?_
    refine tL_mk ?_
    refine beq_mk (fun _ => ?_) (fun h => absurd rfl h)
    obtain ⟨j0, hj0, hc0⟩ := hslot hjs2 hH
    obtain ⟨j1, hj1, hc1⟩ := hslot (i := H - 1) hjs2 (by omega)
    have hr0 := rowsR_mem (W := W) (C := []) (y := 0) hj0
    have hr1 := rowsR_mem (W := W) (C := []) (y := 0) hj1
    have hv : ∀ p, valC [] p = 32 := fun p => rfl
    have hv0 : (cellsU (rowG W [] (0 + 0)))[0]? = some (u32 32) := cU (by have := rowG_get (C := []) (y := 0 + 0) hW; rw [this, hv])
    have hv1 : (cellsU (rowG W [] (0 + (H - 1))))[W - 1]? = some (u32 32) := cU (by have := rowG_get (C := []) (y := 0 + (H - 1)) (x := W - 1) (W := W) (by omega); rw [this, hv])
    have ew : IntKind.wrap .i64 ((W : Int) - 1) = ((W - 1 : Nat) : Int) := by rw [wrap64 (by omega) (by omega)]; omega
    have eh : IntKind.wrap .i64 ((H : Int) - 1) = ((H - 1 : Nat) : Int) := by rw [wrap64 (by omega) (by omega)]; omega
    rw [ew, eh]
    refine req_mk (by simp only; omega) ?_
    simp only [pSome_some, aadd_none, szP22, szP32, Int.toNat_natCast, Int.toNat_zero, Nat.mul_one, Nat.zero_mul, Nat.zero_add, Nat.add_zero]
    refine h4.ldM List.mem_cons_self hc0 ?_
    unfold slG
    refine tL_mk (beq_mk (fun _ => ?_) (fun h => absurd rfl h))
    refine req_mk (by omega) ?_
    refine h4.ldM List.mem_cons_self hc0 ?_
    unfold slG
    refine tL_mk (req_mk (by simp only; omega) ?_)
    simp only [pSome_some, aadd_none, Nat.zero_add, Nat.add_zero]
    refine h4.ldM (List.mem_cons_of_mem _ (List.mem_append_left _ hr0)) hv0 (tI_mk (beq_mk (fun _ => ?_) (fun h => absurd rfl h)))
    refine req_mk (by omega) (req_mk (by omega) ?_)
    refine h4.ldM List.mem_cons_self hc1 ?_
    unfold slG
    refine tL_mk (req_mk (by omega) (req_mk (by simp only; omega) ?_))
    simp only [pSome_some, aadd_none, Nat.zero_add, Nat.add_zero]
    refine h4.ldM (List.mem_cons_of_mem _ (List.mem_append_left _ hr1)) hv1 (tI_mk (beq_mk (fun _ => ?_) (fun h => absurd rfl h)))
    exact c12 rfl
end
end Go.AI
end
section
set_option linter.unusedSimpArgs false
set_option linter.unusedVariables false
set_option maxRecDepth 1000000
/- The law of rows holds for all plain inputs; no condition but those that each names. -/
namespace Go.AI
open Go.Proofs
section
variable {σ : AS} {K : Value → AS → Prop} {L M N : List (Nat × AObj)} {W H g al tr sh w s tm nd : Nat} {shq : AObj} {cur : Int} {C : List (Nat × Int)} {at_ wr : Nat} {la : Option Addr} {l : List Int}
/-- Each character is put, and wanted. -/
theorem gr_chars {m VV : Nat} {V : List Int} (hW : 0 < W) (hW2 : W ≤ 20) (hH : 0 < H) (hH2 : H ≤ 10) (hla : Inp u32 la l M) (hlr : ∀ x ∈ l, 0 ≤ x ∧ x ≤ 4294967295) (hl3 : l.length ≤ 300) (hat : at_ < W * H) (hV : Want W H [] V)
    (h : Gst W H g al tr sh w s tm nd shq 2 [] at_ 0 ((VV, .row .rw (cellsU V)) :: M) σ) :
    ALoop (fl Tryz.prog hintsS (Tri Tryz.prog) 8 [true, true, true, true, true, true, true, true, true, true, true, true, false, true, false] [] RB)
      [(4, some (.slice la l.length 1)), (11, some (i64 W)), (12, some (i64 H)), (13, some (ptr g)), (15, some (ptr m)), (16, some (u32 1)), (18, some (i64 at_)), (19, some (.slice (some ⟨VV, 0, none⟩) (W * H) 1)), (21, some (i64 0))] σ := by
  have hWH : W * H ≤ 20 * 10 := Nat.mul_le_mul hW2 hH2
  have eWH : IntKind.wrap .i64 ((W : Int) * (H : Int)) = ((W * H : Nat) : Int) := by rw [wrap64 (n := (W : Int) * (H : Int)) (by rw [← Int.natCast_mul]; omega) (by rw [← Int.natCast_mul]; omega), Int.natCast_mul]
  refine aloop (fun (i : Nat) rg σ' => i ≤ l.length ∧ (∃ C a V, OkC W H C a ∧ a ≤ W * H + 20 * i ∧ Want W H C V ∧ Gst W H g al tr sh w s tm nd shq 2 C a i ((VV, .row .rw (cellsU V)) :: M) σ' ∧
    rg = [(4, some (.slice la l.length 1)), (11, some (i64 W)), (12, some (i64 H)), (13, some (ptr g)), (15, some (ptr m)), (16, some (u32 1)), (18, some (i64 a)), (19, some (.slice (some ⟨VV, 0, none⟩) (W * H) 1)), (21, some (i64 i))])) (fun i => l.length - i) ?_ (a := 0)
    ⟨Nat.zero_le _, [], at_, V, (by intro q hq; cases hq), (by omega), hV, h, rfl⟩
  rintro i rg σ1 Y hY ⟨hi, C, a, V, hC, ha, hV, h1, rfl⟩
  rw [s8l1]
  refine bmd_mk (fun hlt => ?_) (fun hge => ?_)
  · have hil : i < l.length := by omega
    obtain ⟨c, hc⟩ : ∃ c, l[i]? = some c := ⟨l[i], List.getElem?_eq_getElem hil⟩
    have hcr := hlr c (List.mem_of_getElem? hc)
    obtain ⟨r, kk, rfl, hr⟩ := hla.resolve_left (by intro h0; rw [h0] at hc; simp at hc)
    have hcu : (l.map u32)[i]? = some (u32 c) := by rw [List.getElem?_map, hc]; rfl
    refine req_mk (by omega) (req_mk hlt ?_)
    simp only [pSome_some, aadd_none, szP32, Int.toNat_natCast, Nat.mul_one, Nat.zero_add]
    refine req_mk trivial (h1.ldM (List.mem_cons_of_mem _ hr) hcu (tI_mk ?_))
    refine c29g hW (by omega) (by omega) (by omega) (by omega) hcr.1 (fun q hq => (hC q hq).1) h1 fun σ2 h2 => ?_
    have hok := stepG_ok (c := c) hW hC
    have hbd := stepG_bound (H := H) (C := C) (at_ := a) (c := c) hW
    refine req_mk (by omega) (req_mk hlt (req_mk trivial (h2.ldM (List.mem_cons_of_mem _ hr) hcu (tI_mk ?_))))
    rw [wrap1 (by omega), eWH]
    refine beq_mk (fun e10 => ?_) (fun e10 => ?_)
    · have est : stepG W H C a c = (C, (a / W + 1) * W) := by unfold stepG; rw [if_pos e10]
      rw [est] at hok hbd h2
      simp only at hok hbd h2
      have hdiv : a / W ≤ a := Nat.div_le_self ..
      have e1 : Int.tdiv (a : Int) (W : Int) = ((a / W : Nat) : Int) := by rw [Int.tdiv_eq_ediv_of_nonneg (by omega)]; rfl
      have e2 : IntKind.wrap .i64 (IntKind.wrap .i64 (IntKind.wrap .i64 ((a / W : Nat) : Int) + 1) * (W : Int)) = (((a / W + 1) * W : Nat) : Int) := by
        rw [wrap64 (n := ((a / W : Nat) : Int)) (Int.le_trans (by decide) (Int.natCast_nonneg _)) (Int.le_trans (Int.ofNat_le.2 hdiv) (by omega)), wrap1 (Nat.le_trans hdiv (by omega)), ← Int.natCast_mul, wrap64 (by omega) (by omega)]
      rw [e1, e2]
      refine req_mk (by omega) ?_
      exact hY (i + 1) _ _ (by omega) ⟨by omega, C, _, V, hok, by omega, hV, h2, rfl⟩
    · refine bmd_mk (fun hlt2 => ?_) (fun hge2 => ?_)
      · have hlt3 : a < W * H := Int.ofNat_lt.1 hlt2
        have est : stepG W H C a c = (C ++ [(a, c)], a + 1) := by unfold stepG; rw [if_neg e10, if_pos hlt3]
        rw [est] at hok hbd h2
        simp only at hok hbd h2
        refine req_mk (by omega) (req_mk hlt (req_mk trivial (h2.ldM (List.mem_cons_of_mem _ hr) hcu (tI_mk ?_))))
        refine req_mk (by omega) (req_mk hlt2 (req_mk trivial ?_))
        have hVl := hV.1
        refine h2.put0 rfl (by simp; omega) fun σ3 h3 => ?_
        have eset : (cellsU V).set a (u32 c) = cellsU (V.set a c) := List.map_set.symm
        rw [eset] at h3
        rw [wrap1 (by omega)]
        refine hY (i + 1) _ _ (by omega) ⟨by omega, _, _, V.set a c, hok, by omega, ⟨by simpa using hVl, fun p hp => ?_⟩, h3, rfl⟩
        rw [valO_snoc fun q hq => (hC q hq).1]
        by_cases e : p = a
        · subst e
          rw [if_pos rfl, List.getElem?_set_self (by omega)]
        · rw [if_neg e, List.getElem?_set_ne (by omega)]
          exact hV.2 p hp
      · have hlt3 : ¬ a < W * H := fun h => hge2 (Int.ofNat_lt.2 h)
        have est : stepG W H C a c = (C, a) := by unfold stepG; rw [if_neg e10, if_neg hlt3]
        rw [est] at hok hbd h2
        exact hY (i + 1) _ _ (by omega) ⟨by omega, C, a, V, hok, by omega, hV, h2, rfl⟩
  · refine c30g hW (by omega) (by omega) h1 fun LL js σ2 hjs h2 => ?_
    refine tL_mk (bne_mk (fun h => absurd rfl h) (fun _ => ?_))
    refine c17g h2 ?_
    refine tL_ok rfl (bne_mk (fun h => absurd rfl h) (fun _ => ?_))
    exact gr_end (M := (VV, .row .rw (cellsU V)) :: M) hW hW2 hH hH2 hV hjs List.mem_cons_self h2
/-- What is wanted, blank at first. -/
theorem gr_fill {m VV : Nat} (hW : 0 < W) (hW2 : W ≤ 20) (hH : 0 < H) (hH2 : H ≤ 10) (hla : Inp u32 la l M) (hlr : ∀ x ∈ l, 0 ≤ x ∧ x ≤ 4294967295) (hl3 : l.length ≤ 300) (hat : at_ < W * H)
    (h : Gst W H g al tr sh w s tm nd shq 2 [] at_ 0 ((VV, .row .rw (cellsU (List.replicate (W * H) 0))) :: M) σ) :
    ALoop (fl Tryz.prog hintsS (Tri Tryz.prog) 8 [true, true, true, true, true, true, true, true, true, true, true, false, true, false] [] RB)
      [(4, some (.slice la l.length 1)), (11, some (i64 W)), (12, some (i64 H)), (13, some (ptr g)), (15, some (ptr m)), (16, some (u32 1)), (18, some (i64 at_)), (19, some (.slice (some ⟨VV, 0, none⟩) (W * H) 1)), (20, some (i64 0))] σ := by
  have hWH : W * H ≤ 20 * 10 := Nat.mul_le_mul hW2 hH2
  have eWH : IntKind.wrap .i64 ((W : Int) * (H : Int)) = ((W * H : Nat) : Int) := by rw [wrap64 (n := (W : Int) * (H : Int)) (by rw [← Int.natCast_mul]; omega) (by rw [← Int.natCast_mul]; omega), Int.natCast_mul]
  refine aloop (fun (i : Nat) rg σ' => i ≤ W * H ∧ Gst W H g al tr sh w s tm nd shq 2 [] at_ 0 ((VV, .row .rw (cellsU (List.replicate i 32 ++ List.replicate (W * H - i) 0))) :: M) σ' ∧
    rg = [(4, some (.slice la l.length 1)), (11, some (i64 W)), (12, some (i64 H)), (13, some (ptr g)), (15, some (ptr m)), (16, some (u32 1)), (18, some (i64 at_)), (19, some (.slice (some ⟨VV, 0, none⟩) (W * H) 1)), (20, some (i64 i))]) (fun i => W * H - i) ?_ (a := 0) ⟨Nat.zero_le _, by simpa using h, rfl⟩
  rintro i rg σ1 Y hY ⟨hi, h1, rfl⟩
  rw [s8l, eWH]
  refine bmd_mk (fun hlt => ?_) (fun hge => ?_)
  · have hil : i < W * H := Int.ofNat_lt.1 hlt
    obtain ⟨n, hn⟩ : ∃ n, W * H - i = n + 1 := ⟨W * H - i - 1, by omega⟩
    refine req_mk (by omega) (req_mk hlt ?_)
    simp only [pSome_some, aadd_none, szP32, Int.toNat_natCast, Nat.mul_one, Nat.zero_add]
    refine req_mk trivial (h1.put0 rfl (by simp; omega) fun σ2 h2 => ?_)
    have e2 : (cellsU (List.replicate i 32 ++ List.replicate (W * H - i) 0)).set i (u32 32) = cellsU (List.replicate (i + 1) 32 ++ List.replicate (W * H - (i + 1)) 0) := by
      rw [hn, show W * H - (i + 1) = n by omega]
      have e3 : (List.replicate i (32 : Int) ++ List.replicate (n + 1) 0).set i 32 = List.replicate (i + 1) 32 ++ List.replicate n 0 := by
        rw [set_repG (by simp), List.replicate_succ' (n := i)]
      rw [← e3]
      exact List.map_set.symm
    rw [e2] at h2
    rw [wrap1 (by omega)]
    exact hY (i + 1) _ _ (by omega) ⟨by omega, h2, rfl⟩
  · have ei : i = W * H := by
      have : ¬ i < W * H := fun h => hge (Int.ofNat_lt.2 h)
      omega
    subst ei
    rw [Nat.sub_self, List.replicate_zero, List.append_nil] at h1
    refine gr_chars hW hW2 hH hH2 hla hlr hl3 hat ⟨by simp, fun p hp => ?_⟩ h1
    rw [List.getElem?_replicate, if_pos hp]
    rfl
theorem gr_law {wide high x y : Nat} (Hh : Has σ M) (hwide : wide ≤ 255) (hhigh : high ≤ 255) (hx : x ≤ 255) (hy : y ≤ 255) (hla : Inp u32 la l M) (hlr : ∀ c ∈ l, 0 ≤ c ∧ c ≤ 4294967295) :
    Tri Tryz.prog 8 [.int .u8 wide, .int .u8 high, .int .u8 x, .int .u8 y, .slice la l.length 1] σ RB := tri_in (by
  rw [s8]
  refine bmd_mk (fun _ => c12 rfl) (fun hl3 => ?_)
  obtain ⟨W, hWd⟩ : ∃ W, 1 + wide % 20 = W := ⟨_, rfl⟩
  obtain ⟨H, hHd⟩ : ∃ H, 1 + high % 10 = H := ⟨_, rfl⟩
  have hW : 0 < W := by omega
  have hW2 : W ≤ 20 := by omega
  have hH : 0 < H := by omega
  have hH2 : H ≤ 10 := by omega
  have tm20 : ∀ {a b : Nat}, 0 < b → Int.tmod (a : Int) (b : Int) = ((a % b : Nat) : Int) := fun {a b} hb => by rw [Int.tmod_eq_emod_of_nonneg (by omega)]; rfl
  have eW : IntKind.wrap .i64 (1 + Int.tmod (IntKind.wrap .i64 (wide : Int)) 20) = (W : Int) := by
    rw [wrap64 (n := (wide : Int)) (by omega) (by omega)]
    have := tm20 (a := wide) (b := 20) (by omega)
    rw [show ((20 : Nat) : Int) = 20 by rfl] at this
    rw [this, wrap64 (by omega) (by omega)]
    omega
  have eH : IntKind.wrap .i64 (1 + Int.tmod (IntKind.wrap .i64 (high : Int)) 10) = (H : Int) := by
    rw [wrap64 (n := (high : Int)) (by omega) (by omega)]
    have := tm20 (a := high) (b := 10) (by omega)
    rw [show ((10 : Nat) : Int) = 10 by rfl] at this
    rw [this, wrap64 (by omega) (by omega)]
    omega
  have ex : Int.tmod (IntKind.wrap .i64 (x : Int)) (W : Int) = ((x % W : Nat) : Int) := by rw [wrap64 (n := (x : Int)) (by omega) (by omega), tm20 hW]
  have ey : Int.tmod (IntKind.wrap .i64 (y : Int)) (H : Int) = ((y % H : Nat) : Int) := by rw [wrap64 (n := (y : Int)) (by omega) (by omega), tm20 hH]
  simp only [eW, eH, ex, ey]
  have hxW := Nat.mod_lt x hW
  have hyH := Nat.mod_lt y hH
  generalize x % W = x0 at hxW
  generalize y % H = y0 at hyH
  have hWH : W * H ≤ 20 * 10 := Nat.mul_le_mul hW2 hH2
  have eWH : IntKind.wrap .i64 ((W : Int) * (H : Int)) = ((W * H : Nat) : Int) := by rw [wrap64 (n := (W : Int) * (H : Int)) (by rw [← Int.natCast_mul]; omega) (by rw [← Int.natCast_mul]; omega), Int.natCast_mul]
  have hat : y0 * W + x0 < W * H := by
    have h1 : (y0 + 1) * W ≤ H * W := Nat.mul_le_mul_right _ (by omega)
    rw [Nat.add_mul, Nat.one_mul, Nat.mul_comm H W] at h1
    omega
  have eat : IntKind.wrap .i64 (IntKind.wrap .i64 ((y0 : Int) * (W : Int)) + (x0 : Int)) = ((y0 * W + x0 : Nat) : Int) := by
    rw [← Int.natCast_mul, wrap64 (n := ((y0 * W : Nat) : Int)) (by omega) (by omega), wrap64 (by omega) (by omega)]
    omega
  refine c13g (by omega) (by omega) Hh fun tm tr fm sm sh al g σ1 H1 => ?_
  simp only [tTup_tup, pSome_some, List.getElem?_cons_zero, List.getElem?_cons_succ, tI_int, tP_ptr]
  refine c14 H1 fun m bj σ2 H2 => ?_
  simp only [tP_ptr]
  refine c15 (tI_mk (bne_mk (fun h => absurd rfl h) (fun _ => ?_)))
  simp only [ptrEq_some, bm_false]
  refine newAt_mk H2 fun ar σ3 H3 => ?_
  refine c16og (fm := fm) (sm := sm) (tm := tm) (tr := tr) (sh := sh) (al := al) (g := g) (W := W) (H := H) (m := m) (bj := bj) (B := List.replicate 1024 0) (M := M) (H3.sep fun a => by simp only [u32, cnt_app, cnt_cons, cnt_nil]; omega) fun nd w s σ4 h4 => ?_
  simp only [tTup_tup, pSome_some, List.getElem?_cons_zero, List.getElem?_cons_succ, tI_int]
  refine h4.newAt fun a1 σ5 h5 => ?_
  refine c16sg List.mem_cons_self h5 fun σ6 h6 => ?_
  refine req_mk (by omega) (req_mk (by omega) ?_)
  rw [wrapU32 (n := (x0 : Int)) (by omega) (by omega), wrapU32 (n := (y0 : Int)) (by omega) (by omega)]
  refine h6.newAt fun a2 σ7 h7 => ?_
  refine c16wc hxW List.mem_cons_self h7 fun σ8 h8 => ?_
  rw [eWH, eat, by32]
  refine req_mk (by omega) (req_mk (by omega) (req_mk (by omega) (req_mk (Int.le_refl _) (req_mk (by omega) ?_))))
  have ev : valCells (u32 0) = [u32 0] := rfl
  rw [ev, flat_repG, Int.toNat_natCast]
  refine h8.newAt fun VV σ9 h9 => ?_
  have erep : List.replicate (W * H) (u32 0) = cellsU (List.replicate (W * H) 0) := by simp [cellsU]
  rw [erep] at h9
  exact gr_fill (m := m) hW hW2 hH hH2 (hla.mono fun p hp => by simp [hp]) hlr (by omega) hat h9)
end
end Go.AI
end
