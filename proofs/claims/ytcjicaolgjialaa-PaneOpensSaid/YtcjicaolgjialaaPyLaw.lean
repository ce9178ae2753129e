/- Lemmas of the abstract condition ahead of code (a part of the library that the claim's proof stands on); they hold with no condition but those that each names. -/
import Derived.Test.YtcjicaolgjialaaPyJoin
import Derived.Test.YtcjicaolgjialaaPyForm4
import Derived.Test.YtcjicaolgjialaaAISepTop
import Derived.Test.YtcjicaolgjialaaAITop2
import Derived.Test.YtcjicaolgjialaaRows
import Derived.JoinedCond
import Derived.WalkKit
import Derived.ProofKit
import Derived.OpenShut
section
set_option linter.unusedSimpArgs false
set_option linter.unusedVariables false
set_option maxRecDepth 10000
/- A screen behind acts, and the small parts of the laws; no condition but those that each names. -/
namespace Go.AI
open Go.Proofs Go.Pane
structure ActM where
  (k a b c z : Int) (near : Bool)
abbrev ActM.cells (q : ActM) : List Value := actL q.k q.a q.b q.c q.z q.near
def cellsA : List ActM → List Value
  | [] => []
  | q :: l => q.cells ++ cellsA l
theorem cellsA_len : ∀ l : List ActM, (cellsA l).length = l.length * 6
  | [] => rfl
  | q :: l => by simp [cellsA, cellsA_len l]; omega
theorem cellsA_at : ∀ (l : List ActM) (i : Nat) (q : ActM), l[i]? = some q → ((cellsA l).drop (i * 6)).take 6 = q.cells
  | [], i, q, h => by simp at h
  | p :: l, 0, q, h => by
    simp at h
    subst h
    simp [cellsA]
  | p :: l, i + 1, q, h => by
    have := cellsA_at l i q (by simpa using h)
    have e : (i + 1) * 6 = p.cells.length + i * 6 := by simp; omega
    rw [cellsA, e, List.drop_append, List.drop_of_length_le (by omega), List.nil_append]
    rw [show p.cells.length + i * 6 - p.cells.length = i * 6 by omega]
    exact this
/-- A row of acts that is known. -/
def RdA (a : Option Addr) (l : List ActM) (X : List (Nat × AObj)) : Prop := l = [] ∨ ∃ r, a = some ⟨r, 0, none⟩ ∧ (r, AObj.row .ro (cellsA l)) ∈ X
section
variable {σ : AS} {K : Value → AS → Prop} {X fr : List (Nat × AObj)} {t m x c : Nat} {n W H root last b w h : Int} {L : List Win} {tr : Option T} {ws : List PW} {l : List ActM} {a : Option Addr}
theorem Jt.has (J : Jt t m x b W H last L tr fr σ) : ∃ Y, Has σ Y ∧ ∀ p ∈ fr, p ∈ Y := by
  obtain ⟨ws, c, a, e, rw', hw, hb, h, Hh⟩ := J.st
  exact ⟨_, Hh, fun p hp => by simp [hp]⟩
/-- An act of the row, read. -/
theorem rdA {G : List Value → Prop} {i : Nat} {q : ActM} (ha : RdA a l fr) (J : Jt t m x b W H last L tr fr σ) (hi : l[i]? = some q) (hG : G q.cells) :
    req (0 ≤ (i : Int)) (req ((i : Int) < (l.length : Int)) (pSome a fun a0 => req (6 = szOf Try.prog 26) (lds σ (Addr.add a0 (Int.toNat (i : Int) * szOf Try.prog 26)) 6 G))) := by
  have hlt := (List.getElem?_eq_some_iff.1 hi).1
  rcases ha with rfl | ⟨r, rfl, hm⟩
  · simp at hi
  · obtain ⟨Y, HY, hY⟩ := J.has
    refine req_mk (by omega) (req_mk (by omega) ?_)
    rw [pSome_some]
    refine req_mk (by kernel_rfl) ?_
    have e : szOf Try.prog 26 = 6 := by kernel_rfl
    rw [e, add_none, Int.toNat_natCast, Nat.zero_add]
    refine ldsm HY (hY _ hm) (by rw [cellsA_len]; omega) ?_
    rw [cellsA_at l i q hi]
    exact hG
theorem c14 {p q : Int} (hp : 0 ≤ p ∧ p ≤ 255) (hq : 0 ≤ q ∧ q ≤ 255) (hK : ∀ w h : Int, 0 ≤ w ∧ w < 60 → 0 ≤ h ∧ h < 40 → K (.tuple ⟨[i64 w, i64 h]⟩) σ) : Tri Try.prog 14 [.int .u8 p, .int .u8 q] σ K := tri_in (by
  rw [s14, wrap64 (by omega) (by omega), wrap64 (by omega) (by omega), Int.tmod_eq_emod_of_nonneg hp.1, Int.tmod_eq_emod_of_nonneg hq.1]
  exact hK _ _ (by omega) (by omega))
/-- A screen behind some acts. -/
theorem c15 (hw : 0 ≤ w ∧ w ≤ 1000) (hh : 0 ≤ h ∧ h ≤ 1000) (Hh : Has σ X) (ha : RdA a l X) (hl : l.length ≤ 80) (ho : ∀ q ∈ l, ActOk q.b q.c q.z)
    (hK : ∀ σ' t m x W H last L tr, Jt t m x 160 W H last L tr X σ' → ((∀ q ∈ l, q.k ≠ 7) → W = w ∧ H = h) → K (.tuple ⟨[ptr t, ptr x]⟩) σ') : Tri Try.prog 15 [i64 w, i64 h, .slice a l.length 6] σ K := tri_in (by
  rw [s15]
  have hf : (fitsB w && fitsB h) = true := by unfold fitsB; rw [decide_eq_true hw, decide_eq_true hh]; rfl
  refine c31 Hh (fun g => by rw [hf] at g; cases g) (fun _ σ1 t m H1 => ?_)
  simp only [tTup_tup, pSome_some, List.getElem?_cons_zero, List.getElem?_cons_succ, tP_ptr, tI_int]
  refine c32 H1 (fun g => by rw [hf] at g; cases g) (fun _ σ2 x S2 => ?_)
  simp only [tTup_tup, pSome_some, List.getElem?_cons_zero, List.getElem?_cons_succ, tP_ptr, tI_int]
  refine c23 ?_
  rw [tI_int]
  refine bne_mk (fun g => absurd (by decide) g) (fun _ => ?_)
  rw [ptrEq_some, bm_false]
  have ok0 : Ok [] 0 none := ⟨.refl _, by simp, by simp, by simp, by simp, by simp⟩
  have J0 : Jt t m x 0 w h 0 [] none X σ2 := ⟨st_of (B := []) (ws := []) rfl ⟨by simp, by simp⟩ S2, ok0, hw.1, hw.2, hh.1, hh.2, Int.le_refl _, Int.le_refl _⟩
  refine aloop (fun (i : Nat) rg σ' => i ≤ l.length ∧ (∃ W H last L tr, Jt t m x (2 * i) W H last L tr X σ' ∧ ((∀ q ∈ l, q.k ≠ 7) → W = w ∧ H = h)) ∧ rg = [(2, some (.slice a l.length 6)), (8, some (ptr t)), (10, some (ptr x)), (12, some (i64 i))]) (fun i => l.length - i) ?_ (a := 0) ⟨Nat.zero_le _, ⟨w, h, 0, [], none, J0, fun _ => ⟨rfl, rfl⟩⟩, rfl⟩
  rintro i rg σ3 Y hY ⟨hi, ⟨W, H, last, L, tr, J, h7⟩, rfl⟩
  rw [s15l]
  refine bmd_mk (fun g => ?_) (fun g => ?_)
  · obtain ⟨q, hq⟩ : ∃ q, l[i]? = some q := ⟨l[i]'(by omega), by simp⟩
    have hm := List.mem_of_getElem? hq
    refine rdA ha J hq ?_
    simp only [ActM.cells, tCons, tI_int, tB_bool, tNil]
    refine c33 (by omega) (ho q hm) J fun σ4 W' H' last' L' tr' J4 h74 => ?_
    rw [tB_bool, Bool.not_true, bm_false]
    have e1 : IntKind.wrap .i64 ((i : Int) + 1) = ((i + 1 : Nat) : Int) := by rw [wrap64 (by omega) (by omega)]; omega
    rw [e1]
    refine hY (i + 1) _ _ (by omega) ⟨by omega, ⟨W', H', last', L', tr', ?_, fun g => ?_⟩, rfl⟩
    · have : (2 * ((i + 1 : Nat) : Int)) = 2 * (i : Int) + 2 := by omega
      rw [this]
      exact J4
    · obtain ⟨e2, e3⟩ := h74 (g q hm)
      rw [e2, e3]
      exact h7 g
  · exact hK _ _ _ _ _ _ _ _ _ ⟨J.st, J.ok, J.w0, J.w1, J.h0, J.h1, J.l0, by have := J.l1; omega⟩ h7)
end
section
theorem thr_acts {H : Type} {ds : List (DataW H)} {σ σ' : AS} {avs : List (List Value)} (h : Thr (RStruct [RInt .i64, RInt .i64, RInt .i64, RInt .i64, RInt .u32, RBool]) ds σ avs σ') :
    σ' = σ ∧ ∃ l : List ActM, l.length = ds.length ∧ avs = l.map (fun q => q.cells) ∧ ∀ q ∈ l, ActOk q.b q.c q.z := by
  induction h with
  | nil => exact ⟨rfl, [], rfl, rfl, by simp⟩
  | cons h _ ih =>
    obtain ⟨rfl, l, h1, rfl, h2⟩ := ih
    obtain ⟨parts, avs, rfl, ht, rfl⟩ := h
    rcases ht with _ | ⟨h0, ht⟩
    rcases ht with _ | ⟨h1', ht⟩
    rcases ht with _ | ⟨h2', ht⟩
    rcases ht with _ | ⟨h3, ht⟩
    rcases ht with _ | ⟨h4, ht⟩
    rcases ht with _ | ⟨h5, ht⟩
    cases ht
    obtain ⟨x1, rfl, w1, rfl, rfl⟩ := h0
    obtain ⟨x2, rfl, w2, rfl, rfl⟩ := h1'
    obtain ⟨x3, rfl, w3, rfl, rfl⟩ := h2'
    obtain ⟨x4, rfl, w4, rfl, rfl⟩ := h3
    obtain ⟨x5, rfl, w5, rfl, rfl⟩ := h4
    obtain ⟨b1, rfl, rfl, rfl⟩ := h5
    refine ⟨rfl, ⟨x1, x2, x3, x4, x5, b1⟩ :: l, by simp [h1], rfl, fun q hq => ?_⟩
    rcases List.mem_cons.1 hq with rfl | hq
    · refine ⟨?_, ?_⟩
      · have : (-9223372036854775808 ≤ x3 ∧ x3 ≤ 9223372036854775807) := by simpa [Lit.wf, IntKind.min, IntKind.max, IntKind.signed, IntKind.bits] using w3
        exact this
      · have := wf_u32 w5
        simp only
        omega
    · exact h2 q hq
theorem flat_acts : ∀ l : List ActM, (l.map fun q => q.cells).flatten = cellsA l
  | [] => rfl
  | q :: l => by rw [List.map_cons, List.flatten_cons, flat_acts l]; rfl
theorem slice_acts {H : Type} {d : DataW H} {σ σ' : AS} {av : List Value} (h : RSlice 6 (RStruct [RInt .i64, RInt .i64, RInt .i64, RInt .i64, RInt .u32, RBool]) d σ av σ') {L : List (Nat × AObj)} (HL : Has σ L) :
    ∃ (a : Option Addr) (l : List ActM) (fr : List (Nat × AObj)), av = [.slice a l.length 6] ∧ (∀ q ∈ l, ActOk q.b q.c q.z) ∧ Has σ' (fr ++ L) ∧ RdA a l (fr ++ L) := by
  rcases h with ⟨_, rfl, rfl⟩ | ⟨_, _, rfl, rfl⟩ | ⟨elems, spare, avs, σ1, _, hne, _, ht, rfl, rfl⟩
  · exact ⟨none, [], [], rfl, by simp, HL, .inl rfl⟩
  · exact ⟨_, [], [(σ.n, .dead)], rfl, by simp, HL.new _, .inl rfl⟩
  · obtain ⟨rfl, l, h1, rfl, h2⟩ := thr_acts ht
    rw [flat_acts]
    exact ⟨_, l, [(σ1.n, .row .ro (cellsA l))], by rw [h1], h2, HL.new _, .inr ⟨_, rfl, by simp⟩⟩
end
end Go.AI
end
section
set_option linter.unusedSimpArgs false
set_option linter.unusedVariables false
set_option maxRecDepth 10000
/- The page's example, by what each call does; no condition. -/
namespace Go.AI
open Go.Proofs Go.Pane
section
variable {σ : AS} {K : Value → AS → Prop}
def lv1 : List Win := [⟨1, 2, 0, 0, 0, 0, 0, 0⟩]
def lv2 : List Win := [⟨1, 2, 3, 0, 0, 0, 0, 0⟩, ⟨2, 3, 3, 0, 0, 0, 0, 0⟩, ⟨3, 4, 0, 2, 1, 18, 3, 2⟩]
def lv3 : List Win := [⟨1, 2, 5, 0, 0, 0, 0, 0⟩, ⟨2, 3, 3, 0, 0, 0, 0, 0⟩, ⟨3, 4, 0, 2, 5, 18, 3, 2⟩, ⟨4, 2, 5, 0, 0, 0, 0, 0⟩, ⟨5, 4, 3, 1, 4, 33, 25, 4⟩]
def lv4 : List Win := [⟨1, 2, 5, 0, 0, 0, 0, 0⟩, ⟨4, 2, 5, 0, 0, 0, 0, 0⟩, ⟨5, 4, 0, 1, 4, 33, 25, 4⟩]
theorem lv1_eq : openN [] 0 0 0 0 2 = lv1 := by rfl
theorem lv2_eq : openN lv1 1 1 18 3 3 = lv2 := by rfl
theorem lv3_eq : openN lv2 3 1 33 25 2 = lv3 := by rfl
theorem lv4_eq : closeL lv3 2 = lv4 := by rfl
theorem lvg_eq : (goneL lv3 2).map (·.n) = [2, 3] := by rfl
theorem lvr_eq : rho lv3 80 24 4 = ⟨60, 3, 20, 21⟩ := by rfl
theorem lvs_eq : rho lv4 80 24 1 = ⟨0, 0, 60, 24⟩ := by rfl
theorem c13 (hK : ∀ σ', K (.bool true) σ') : Tri Try.prog 13 [] σ K := tri_in (by
  rw [s13]
  refine c31 (Has.nil σ) (fun g => absurd g (by decide)) (fun _ σ1 t m H1 => ?_)
  simp only [tTup_tup, pSome_some, List.getElem?_cons_zero, List.getElem?_cons_succ, tP_ptr, tI_int]
  refine c23 ?_
  rw [tI_int]
  refine bne_mk (fun g => absurd rfl g) (fun _ => ?_)
  rw [ptrEq_some, bm_false]
  have ok0 : Ok [] 0 none := ⟨.refl _, by simp, by simp, by simp, by simp, by simp⟩
  refine c22 (ws := []) ok0 ⟨by simp, by simp⟩ rfl (by omega) (by omega) ⟨by omega, by omega⟩ (by omega) H1 (fun g => absurd (by rfl) g) (fun _ σ2 ws2 n2 r2 hw2 hr2 hb2 H2 => ?_)
  simp only [tTup_tup, pSome_some, List.getElem?_cons_zero, List.getElem?_cons_succ, tI_int]
  have hw2 : wl ws2 = lv1 := hw2.trans lv1_eq
  obtain ⟨t1, ok1⟩ := ok0.openN (split := 0) (m := 0) (sz := 0) (kind := 2) (by omega) (by omega) rfl
  rw [lv1_eq, ← hw2] at ok1
  refine c22 ok1 hb2 hr2 (by decide) (by decide) ⟨by omega, by omega⟩ (by omega) H2 (fun g => absurd (by rw [hw2]; rfl) g) (fun _ σ3 ws3 n3 r3 hw3 hr3 hb3 H3 => ?_)
  simp only [tTup_tup, pSome_some, List.getElem?_cons_zero, List.getElem?_cons_succ, tI_int]
  obtain ⟨t2, ok2⟩ := ok1.openN (split := 1) (m := 18) (sz := 3) (kind := 3) (by decide) (by omega) (by rw [hw2]; rfl)
  rw [← hw3] at ok2
  have hw3 : wl ws3 = lv2 := by rw [hw3, hw2]; rfl
  refine c22 ok2 hb3 hr3 (by decide) (by decide) ⟨by omega, by omega⟩ (by omega) H3 (fun g => absurd (by rw [hw3]; rfl) g) (fun _ σ4 ws4 n4 r4 hw4 hr4 hb4 H4 => ?_)
  simp only [tTup_tup, pSome_some, List.getElem?_cons_zero, List.getElem?_cons_succ, tI_int]
  obtain ⟨t3, ok3⟩ := ok2.openN (split := 1) (m := 33) (sz := 25) (kind := 2) (by decide) (by omega) (by rw [hw3]; rfl)
  rw [← hw4] at ok3
  have hw4 : wl ws4 = lv3 := by rw [hw4, hw3]; rfl
  refine c17' ok3 (by omega) (by omega) (by omega) (by omega) H4 pin_of fun σ5 new5 H5 => ?_
  rw [hw4, lvr_eq]
  refine tupRB ?_
  refine newAt_mk H5 fun i56 σ6 H6 => ?_
  refine puts_mk H6 0 rfl rfl (by simp) fun σ7 H7 => ?_
  have H7' : Has σ7 (((i56, .row .plain [i64 60, i64 3, i64 20, i64 21]) :: new5) ++ progL t m 80 24 r4 5 ws4 n4 []) := H7
  have F7 := front H7'
  refine c28 ok3 hb4 hr4 F7 (fun g => by rw [hw4] at g; cases g) (fun _ σ8 ws8 r8 a8 fr8 new8 hw8 hr8 hb8 hs8 H8 => ?_)
  simp only [tTup_tup, pSome_some, List.getElem?_cons_zero, List.getElem?_cons_succ, tI_int]
  refine tL_ok hs8.no ?_
  obtain ⟨t4, ok4⟩ := ok3.closeL (n := 2) (by rw [hw4]; rfl)
  rw [← hw8] at ok4
  have hw8 : wl ws8 = lv4 := by rw [hw8, hw4]; rfl
  have hg : (goneL (wl ws4) 2).map (·.n) = [2, 3] := by rw [hw4]; rfl
  rw [hg] at hs8 ⊢
  refine c17' ok4 (by omega) (by omega) (by omega) (by omega) H8 pin_of.new.new fun σ9 new9 H9 => ?_
  rw [hw8, lvs_eq]
  refine tupRB ?_
  refine newAt_mk H9 fun i87 σ10 H10 => ?_
  refine puts_mk H10 0 rfl rfl (by simp) fun σ11 H11 => ?_
  have H11' : Has σ11 ((i87, .row .plain [i64 0, i64 0, i64 60, i64 24]) :: (new9 ++ (fr8 ++ (new8 ++ progL t m 80 24 r8 5 ws8 n4 ([] ++ ((i56, .row .plain [i64 60, i64 3, i64 20, i64 21]) :: new5)))))) := H11
  refine c23 ?_
  rw [tI_int]
  refine c23 ?_
  rw [tI_int]
  refine c23 ?_
  rw [tI_int]
  refine c23 ?_
  rw [tI_int]
  refine beq_mk (fun _ => ?_) (fun g => absurd (by rfl) g)
  refine beq_mk (fun _ => ?_) (fun g => absurd (by rfl) g)
  refine beq_mk (fun _ => ?_) (fun g => absurd (by rfl) g)
  refine beq_mk (fun _ => ?_) (fun g => absurd (by rfl) g)
  rw [show hasL lv3 4 = true from rfl, show hasL lv4 1 = true from rfl, bm_true, bm_true]
  refine ldsm H11' (show (i56, AObj.row .plain [i64 60, i64 3, i64 20, i64 21]) ∈ _ by simp) (by simp) ?_
  simp only [List.drop_zero, List.take_succ_cons, List.take_zero, tCons, tI_int, tNil]
  rw [show ((60 : Int) == 60 && ((3 : Int) == 3 && ((20 : Int) == 20 && ((21 : Int) == 21 && true)))) = true from rfl, bm_true]
  refine ldsm H11' (show (i87, AObj.row .plain [i64 0, i64 0, i64 60, i64 24]) ∈ _ by simp) (by simp) ?_
  simp only [List.drop_zero, List.take_succ_cons, List.take_zero, tCons, tI_int, tNil]
  rw [show ((0 : Int) == 0 && ((0 : Int) == 0 && ((60 : Int) == 60 && ((24 : Int) == 24 && true)))) = true from rfl, bm_true]
  refine newAt_mk H11' fun i128 σ12 H12 => ?_
  refine c35 (xs := [2, 3]) (ys := [2, 3]) (hs8.rd fun p hp => by simp [hp]) (.inr ⟨i128, .rw, rfl, rfl, by simp⟩) H12 (by simp) ?_
  rw [tB_bool]
  exact hK _)
end
end Go.AI
end
section
/- How an act, and a row of acts, are laid as arguments; data. -/
set_option maxRecDepth 1000000
namespace Go.AI
open Go.Proofs Go.ChangeShapes Go.WideShapes Go.ChangeAt Go.RowKit
variable {H : Type} {enc : TypeId × Value → H} {W : World}
abbrev RAct {H : Type} : DataW H → AS → List Value → AS → Prop := RStruct [RInt .i64, RInt .i64, RInt .i64, RInt .i64, RInt .u32, RBool]
theorem tk_act : TK enc Try.prog W 26 (RAct (H := H)) := tk_struct Try.underlying26 (by kernel_rfl) (.cons (tk_int Try.underlying3) (.cons (tk_int Try.underlying3) (.cons (tk_int Try.underlying3) (.cons (tk_int Try.underlying3) (.cons (tk_int Try.underlying24) (.cons (tk_bool Try.underlying4) .nil))))))
theorem tk_acts : TK enc Try.prog W 22 (RSlice 6 (RAct (H := H))) := tk_slice Try.underlying22 (by kernel_rfl) tk_act
theorem sp_act : SP enc Try.prog W 26 := by
  refine sp_struct Try.underlying26 fun f hf => ?_
  simp only [List.mem_cons, List.not_mem_nil, or_false] at hf
  rcases hf with rfl | rfl | rfl | rfl | rfl | rfl
  · exact sp_int Try.underlying3
  · exact sp_int Try.underlying3
  · exact sp_int Try.underlying3
  · exact sp_int Try.underlying3
  · exact sp_int Try.underlying24
  · exact sp_bool Try.underlying4
theorem sp_acts : SP enc Try.prog W 22 := sp_slice Try.underlying22 (by kernel_rfl) sp_act
end Go.AI
end
