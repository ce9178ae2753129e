/- Lemmas of the abstract condition ahead of code (a part of the library that the claim's proof stands on); they hold with no condition but those that each names. -/
import Derived.Test.YtcjicaolgjialaaPySort
section
set_option linter.unusedSimpArgs false
set_option linter.unusedVariables false
set_option maxRecDepth 10000
/- The reference's windows in memory; what its looking functions tell; no condition but those that each names. -/
namespace Go.AI
open Go.Proofs Go.Pane
abbrev winR (w : Win) : List Value := [i64 w.n, i64 w.k, i64 w.p, i64 w.a, i64 w.b, i64 w.m, u32 w.s, i64 w.key]
def cellsR (L : List Win) : List Value := L.flatMap winR
theorem sz58 : szOf Try.prog 58 = 8 := by kernel_rfl
theorem cellsR_len : ∀ L : List Win, (cellsR L).length = L.length * 8
  | [] => rfl
  | w :: L => by
    have := cellsR_len L
    unfold cellsR at this ⊢
    rw [List.flatMap_cons, List.length_append, this]
    simp
    omega
theorem cellsR_drop : ∀ (L : List Win) (i : Nat) (w : Win), L[i]? = some w → ∃ r, (cellsR L).drop (i * 8) = winR w ++ r
  | [], i, w, h => by simp at h
  | v :: L, 0, w, h => by
    simp at h
    subst h
    exact ⟨cellsR L, by simp [cellsR]⟩
  | v :: L, i + 1, w, h => by
    obtain ⟨r, hr⟩ := cellsR_drop L i w (by simpa using h)
    refine ⟨r, ?_⟩
    rw [← hr]
    have e : (i + 1) * 8 = 8 + i * 8 := by omega
    rw [e, ← List.drop_drop]
    congr 1
theorem cellsR_get {L : List Win} {i o : Nat} {w : Win} (h : L[i]? = some w) (ho : o < 8) : (cellsR L)[i * 8 + o]? = (winR w)[o]? := by
  obtain ⟨r, hr⟩ := cellsR_drop L i w h
  have : (cellsR L)[i * 8 + o]? = ((cellsR L).drop (i * 8))[o]? := by rw [List.getElem?_drop]
  rw [this, hr, List.getElem?_append_left (by simpa using ho)]
theorem cellsR_take {L : List Win} {i : Nat} {w : Win} (h : L[i]? = some w) : ((cellsR L).drop (i * 8)).take 8 = winR w := by
  obtain ⟨r, hr⟩ := cellsR_drop L i w h
  rw [hr]
  exact List.take_left' rfl
theorem cellsR_set : ∀ (L : List Win) (i o : Nat) (w w' : Win) (v : Value), L[i]? = some w → o < 8 → (winR w).set o v = winR w' → (cellsR L).set (i * 8 + o) v = cellsR (L.set i w')
  | [], i, o, w, w', v, h, _, _ => by simp at h
  | x :: L, 0, o, w, w', v, h, ho, hv => by
    simp at h
    subst h
    unfold cellsR
    rw [List.flatMap_cons, List.set_cons_zero, List.flatMap_cons, List.set_append_left _ _ (by simpa using ho), Nat.zero_mul, Nat.zero_add, hv]
  | x :: L, i + 1, o, w, w', v, h, ho, hv => by
    have := cellsR_set L i o w w' v (by simpa using h) ho hv
    unfold cellsR at this ⊢
    rw [List.flatMap_cons, List.set_cons_succ, List.flatMap_cons, List.set_append_right _ _ (by simp; omega)]
    congr 1
    rw [← this]
    congr 1
    simp
    omega
theorem cellsR_app (L M : List Win) : cellsR (L ++ M) = cellsR L ++ cellsR M := List.flatMap_append
abbrev refO (W H : Int) (a : Option Addr) (n e : Nat) (last : Int) : AObj := .row .plain [i64 W, i64 H, .slice a n e, i64 last]
/-- The reference's tree is known. -/
structure RIn (x : Nat) (W H last : Int) (L : List Win) (X : List (Nat × AObj)) : Prop where
  ex : ∃ a e, (x, refO W H a L.length e last) ∈ X ∧ nilOr a e 8 = true ∧ (L = [] ∨ ∃ r k, a = some ⟨r, 0, none⟩ ∧ (r, .row k (cellsR L)) ∈ X)
section
variable {σ : AS} {K : Value → AS → Prop} {X : List (Nat × AObj)} {x : Nat} {n W H last : Int} {L : List Win} {tr : Option T}
theorem RIn.mono {Y : List (Nat × AObj)} (h : RIn x W H last L X) (hs : ∀ p ∈ X, p ∈ Y) : RIn x W H last L Y := by
  obtain ⟨a, e, h1, h2, h3⟩ := h.ex
  refine ⟨a, e, hs _ h1, h2, ?_⟩
  rcases h3 with h | ⟨r, k, h4, h5⟩
  · exact .inl h
  · exact .inr ⟨r, k, h4, hs _ h5⟩
theorem RIn.new {new : List (Nat × AObj)} (h : RIn x W H last L X) : RIn x W H last L (new ++ X) := h.mono fun p hp => List.mem_append_right _ hp
theorem RIn.cons {p : Nat × AObj} (h : RIn x W H last L X) : RIn x W H last L (p :: X) := h.mono fun p hp => List.mem_cons_of_mem _ hp
/-- The row of windows, looked at. -/
theorem lenR {G : Sl → Prop} (Hh : Has σ X) (R : RIn x W H last L X) (hG : ∀ a, (L = [] ∨ ∃ r k, a = some ⟨r, 0, none⟩ ∧ (r, AObj.row k (cellsR L)) ∈ X) → G ⟨a, L.length⟩) : ldc σ ⟨x, 0 + 2, none⟩ fun v => tL 8 v G := by
  obtain ⟨a, e, h1, h2, h3⟩ := R.ex
  exact ldm Hh h1 rfl (tL_ok h2 (hG a h3))
theorem elR {G : Addr → Prop} {i : Nat} {w : Win} (Hh : Has σ X) (R : RIn x W H last L X) (hi : L[i]? = some w) (hG : ∀ r k, (r, AObj.row k (cellsR L)) ∈ X → G ⟨r, 0, none⟩) :
    ldc σ ⟨x, 0 + 2, none⟩ fun v => tL 8 v fun s => req (0 ≤ (i : Int)) (req ((i : Int) < (s.n : Int)) (pSome s.a G)) := by
  have hlt := (List.getElem?_eq_some_iff.1 hi).1
  refine lenR Hh R fun a ha => ?_
  rcases ha with h | ⟨r, k, rfl, h⟩
  · subst h; simp at hi
  · refine req_mk (by omega) (req_mk (by simp only; omega) ?_)
    rw [pSome_some]
    exact hG r k h
theorem flR {G : Value → Prop} {i o r : Nat} {k : RK} {w : Win} {v : Value} (Hh : Has σ X) (hr : (r, AObj.row k (cellsR L)) ∈ X) (hi : L[i]? = some w) (ho : o < 8) (hv : (winR w)[o]? = some v) (hG : G v) : ldc σ ⟨r, 0 + i * 8 + o, none⟩ G := by
  rw [Nat.zero_add]
  exact ldm Hh hr (by rw [cellsR_get hi ho]; exact hv) hG
theorem add8 (r i : Nat) : Addr.add ⟨r, 0, none⟩ (Int.toNat (i : Int) * szOf Try.prog 58) = ⟨r, 0 + i * 8, none⟩ := by rw [sz58, add_none, Int.toNat_natCast]
theorem add80 (r o : Nat) : Addr.add ⟨r, o, none⟩ 0 = ⟨r, o + 0, none⟩ := by rw [add_none]
/-- The place of a number. -/
theorem c47 (Hh : Has σ X) (R : RIn x W H last L X) (hl : L.length ≤ 1000) (hN : hasL L n = false → K (i64 (-1)) σ) (hK : ∀ (i : Nat) w, L[i]? = some w → w.n = n → hasL L n = true → K (i64 i) σ) : Tri Try.prog 47 [ptr x, i64 n] σ K := tri_in (by
  rw [s47]
  refine aloop (fun (i : Nat) rg σ' => σ' = σ ∧ i ≤ L.length ∧ (∀ w ∈ L.take i, w.n ≠ n) ∧ rg = [(0, some (ptr x)), (1, some (i64 n)), (5, some (i64 i))]) (fun i => L.length - i) ?_ (a := 0) ⟨rfl, Nat.zero_le _, by simp, rfl⟩
  rintro i rg σ1 Y hY ⟨rfl, hi, hno, rfl⟩
  rw [s47l]
  refine lenR Hh R fun a _ => bmd_mk (fun g => ?_) (fun g => ?_)
  · obtain ⟨w, hw⟩ : ∃ w, L[i]? = some w := ⟨L[i]'(by simp only at g; omega), by simp⟩
    refine elR Hh R hw fun r k hr => ?_
    rw [add8, add80]
    refine flR Hh hr hw (by omega) rfl ?_
    rw [tI_int]
    refine beq_mk (fun g2 => hK i w hw g2 (hasL_iff.2 ⟨w, List.mem_of_getElem? hw, g2⟩)) (fun g2 => ?_)
    rw [wrap64 (by omega) (by omega)]
    refine hY (i + 1) _ _ (by simp only at g; omega) ⟨rfl, by simp only at g; omega, ?_, rfl⟩
    intro v hv
    rw [List.take_add_one, hw] at hv
    rcases List.mem_append.1 hv with h | h
    · exact hno v h
    · simp at h; subst h; exact g2
  · have e : i = L.length := by simp only at g; omega
    rw [e, List.take_length] at hno
    exact hN (hasL_false.2 hno))
/-- A window; a zero one. -/
theorem c29 (Hh : Has σ X) (R : RIn x W H last L X) (hs : Srt L) (hl : L.length ≤ 1000) (hK : ∀ σ' new, Has σ' (new ++ X) → K (.agg ⟨winR (ofL L n)⟩) σ') : Tri Try.prog 29 [ptr x, i64 n] σ K := tri_in (by
  rw [s29]
  refine newAt_mk Hh fun c σ1 H1 => ?_
  refine c47 H1 R.cons hl (fun h => ?_) (fun i w hw hwn hh => ?_)
  · rw [tI_int]
    refine bmd_mk (fun _ => ?_) (fun g => absurd (by decide) g)
    refine puts_mk H1 0 rfl rfl (by simp) fun σ2 H2 => ?_
    refine lds_mk H2 0 rfl (by simp) ?_
    simp only [List.drop_zero, List.take_zero, List.nil_append, List.append_nil, List.take_succ_cons, tCons, tI_int, tNil, List.cons_append, List.drop_succ_cons, List.length_cons, List.length_nil, Nat.zero_add]
    have := hK σ2 [_] H2
    rw [ofL_none h] at this
    exact this
  · rw [tI_int]
    refine bmd_mk (fun g => by omega) (fun _ => ?_)
    refine elR H1 R.cons hw fun r k hr => ?_
    rw [add8, Nat.zero_add]
    refine ldsm H1 hr (by rw [cellsR_len]; have := (List.getElem?_eq_some_iff.1 hw).1; omega) ?_
    rw [cellsR_take hw]
    simp only [winR, tCons, tI_int, tNil]
    refine puts_mk H1 0 rfl rfl (by simp) fun σ2 H2 => ?_
    refine lds_mk H2 0 rfl (by simp) ?_
    simp only [List.drop_zero, List.take_zero, List.nil_append, List.append_nil, List.take_succ_cons, tCons, tI_int, tNil, List.cons_append, List.drop_succ_cons, List.length_cons, List.length_nil, Nat.zero_add]
    have := hK σ2 [_] H2
    have e : ofL L n = w := by rw [← hwn]; exact ofL_mem hs (List.mem_of_getElem? hw)
    rw [e] at this
    exact this)
theorem rootL_take {L : List Win} {i : Nat} {w : Win} (hno : ∀ v ∈ L.take i, v.p ≠ 0) (hw : L[i]? = some w) (hp : w.p = 0) : rootL L = w.n := by
  have e : L = L.take i ++ w :: L.drop (i + 1) := by
    have hlt := (List.getElem?_eq_some_iff.1 hw).1
    have := (List.getElem?_eq_some_iff.1 hw).2
    rw [← this, ← List.drop_eq_getElem_cons hlt, List.take_append_drop]
  unfold rootL
  rw [e, List.find?_append]
  have h1 : (L.take i).find? (·.p == 0) = none := by
    rw [List.find?_eq_none]
    intro v hv
    simpa using hno v hv
  rw [h1, List.find?_cons]
  simp [hp]
theorem c55 (Hh : Has σ X) (R : RIn x W H last L X) (hl : L.length ≤ 1000) (hK : K (i64 (rootL L)) σ) : Tri Try.prog 55 [ptr x] σ K := tri_in (by
  rw [s55]
  refine aloop (fun (i : Nat) rg σ' => σ' = σ ∧ i ≤ L.length ∧ (∀ w ∈ L.take i, w.p ≠ 0) ∧ rg = [(0, some (ptr x)), (3, some (i64 i))]) (fun i => L.length - i) ?_ (a := 0) ⟨rfl, Nat.zero_le _, by simp, rfl⟩
  rintro i rg σ1 Y hY ⟨rfl, hi, hno, rfl⟩
  rw [s55l]
  refine lenR Hh R fun a _ => bmd_mk (fun g => ?_) (fun g => ?_)
  · obtain ⟨w, hw⟩ : ∃ w, L[i]? = some w := ⟨L[i]'(by simp only at g; omega), by simp⟩
    refine elR Hh R hw fun r k hr => ?_
    rw [add8]
    refine flR Hh hr hw (by omega) rfl ?_
    rw [tI_int]
    refine beq_mk (fun g2 => ?_) (fun g2 => ?_)
    · refine elR Hh R hw fun r k hr => ?_
      rw [add8, add80]
      refine flR Hh hr hw (by omega) rfl ?_
      rw [tI_int]
      rw [rootL_take hno hw g2] at hK
      exact hK
    · rw [wrap64 (by omega) (by omega)]
      refine hY (i + 1) _ _ (by simp only at g; omega) ⟨rfl, by simp only at g; omega, ?_, rfl⟩
      intro v hv
      rw [List.take_add_one, hw] at hv
      rcases List.mem_append.1 hv with h | h
      · exact hno v h
      · simp at h; subst h; exact g2
  · have e : i = L.length := by simp only at g; omega
    rw [e, List.take_length] at hno
    have : rootL L = 0 := by
      unfold rootL
      have : L.find? (·.p == 0) = none := by
        rw [List.find?_eq_none]
        intro v hv
        simpa using hno v hv
      rw [this]; rfl
    rw [this] at hK
    exact hK)
theorem c63 (hK : K (.bool (validB n)) σ) : Tri Try.prog 63 [i64 n] σ K := tri_in (by
  rw [s63]
  have res : ∀ b : Bool, b = validB n → K (.bool b) σ := fun b e => by rw [e]; exact hK
  refine bmd_mk (fun g1 => bmd_mk (fun g2 => res _ ?_) (fun g2 => bmd_mk (fun g3 => res _ ?_) (fun g3 => res _ ?_))) (fun g1 => bmd_mk (fun g3 => res _ ?_) (fun g3 => res _ ?_))
  · unfold validB; symm; apply decide_eq_true; omega
  · unfold validB; apply decide_eq_decide.2; omega
  · unfold validB; symm; apply decide_eq_false; omega
  · unfold validB; apply decide_eq_decide.2; omega
  · unfold validB; symm; apply decide_eq_false; omega)
theorem c64 (h0 : 0 ≤ n) (hK : K (.bool (cols n)) σ) : Tri Try.prog 64 [i64 n] σ K := tri_in (by
  rw [s64, Int.tmod_eq_emod_of_nonneg h0]
  exact hK)
theorem c62 (Hh : Has σ X) (R : RIn x W H last L X) (hs : Srt L) (hl : L.length ≤ 1000) (hK : ∀ σ' new, Has σ' (new ++ X) → K (i64 (pairE L n)) σ') : Tri Try.prog 62 [ptr x, i64 n] σ K := tri_in (by
  rw [s62]
  refine c47 Hh R hl (fun h => ?_) (fun i w hw hwn hh => ?_)
  · rw [tI_int]
    refine bmd_mk (fun _ => ?_) (fun g => absurd (by decide) g)
    have := hK σ [] Hh
    unfold pairE at this
    rw [if_pos h] at this
    exact this
  · rw [tI_int]
    refine bmd_mk (fun g => by omega) (fun _ => ?_)
    refine c29 Hh R hs hl fun σ1 new1 H1 => ?_
    simp only [tAgg, tCons, tI_int, tNil]
    have := hK σ1 new1 H1
    unfold pairE at this
    rw [hh, if_neg (by simp)] at this
    refine bne_mk (fun g => ?_) (fun g => ?_)
    · rw [if_neg g] at this; exact this
    · rw [if_pos g] at this; exact this)
theorem c61 (Hh : Has σ X) (R : RIn x W H last L X) (hs : Srt L) (hl : L.length ≤ 1000) (hK : ∀ σ' new, Has σ' (new ++ X) → K (i64 (sibL L n)) σ') : Tri Try.prog 61 [ptr x, i64 n] σ K := tri_in (by
  rw [s61]
  refine c29 Hh R hs hl fun σ1 new1 H1 => ?_
  simp only [tAgg, tCons, tI_int, tNil]
  refine c29 H1 R.new hs hl fun σ2 new2 H2 => ?_
  simp only [tAgg, tCons, tI_int, tNil]
  refine newAt_mk H2 fun c σ3 H3 => ?_
  refine puts_mk H3 0 rfl rfl (by simp) fun σ4 H4 => ?_
  obtain ⟨new4, hF⟩ : ∃ new, Has σ4 (new ++ X) := ⟨(c, _) :: (new2 ++ new1), by rw [List.cons_append, List.append_assoc]; exact H4⟩
  have := hK σ4 new4 hF
  unfold sibL at this
  refine ldc_mk H4 0 rfl rfl ?_
  rw [tI_int]
  refine beq_mk (fun g => ?_) (fun g => ?_)
  · rw [if_pos g] at this
    refine ldc_mk H4 0 rfl rfl ?_
    rw [tI_int]
    exact this
  · rw [if_neg g] at this
    refine ldc_mk H4 0 rfl rfl ?_
    rw [tI_int]
    exact this)
/-- Is a window below another one? -/
theorem c25 {win top : Int} (Hh : Has σ X) (R : RIn x W H last L X) (hs : Srt L) (hl : L.length ≤ 1000) (hK : ∀ σ' new, Has σ' (new ++ X) → K (.bool (belF L 100 win top)) σ') : Tri Try.prog 25 [ptr x, i64 win, i64 top] σ K := tri_in (by
  rw [s25]
  refine aloop (fun (p : Nat × Int) rg σ' => p.1 ≤ 100 ∧ (∃ new, Has σ' (new ++ X)) ∧ belF L (100 - p.1) p.2 top = belF L 100 win top ∧ rg = [(0, some (ptr x)), (1, some (i64 p.2)), (2, some (i64 top)), (7, some (i64 p.1))]) (fun p => 100 - p.1) ?_ (a := (0, win)) ⟨by simp, ⟨[], Hh⟩, rfl, rfl⟩
  rintro ⟨i, w⟩ rg σ1 Y hY ⟨hi, ⟨new, H1⟩, hb, rfl⟩
  simp only at hi hb
  rw [s25l]
  have fin : ∀ b, belF L (100 - i) w top = b → K (.bool b) σ1 := fun b e => by
    have := hK σ1 new H1
    rw [← hb, e] at this
    exact this
  refine bne_mk (fun g => bmd_mk (fun g1 => beq_mk (fun g2 => ?_) (fun g2 => ?_)) (fun g1 => ?_)) (fun g => ?_)
  · refine fin true ?_
    obtain ⟨q, hq⟩ : ∃ q, 100 - i = q + 1 := ⟨100 - i - 1, by simp only at g1; omega⟩
    rw [hq]
    simp only [belF]
    rw [if_neg g, if_pos g2]
  · refine c29 H1 R.new hs hl fun σ2 new2 H2 => ?_
    simp only [tAgg, tCons, tI_int, tNil]
    rw [wrap64 (by omega) (by omega)]
    refine hY (i + 1, (ofL L w).p) _ _ (by simp only at g1 ⊢; omega) ⟨by simp only at g1 ⊢; omega, ⟨new2 ++ new, by rw [List.append_assoc]; exact H2⟩, ?_, rfl⟩
    simp only
    rw [← hb]
    obtain ⟨q, hq⟩ : ∃ q, 100 - i = q + 1 := ⟨100 - i - 1, by simp only at g1; omega⟩
    have hq2 : 100 - (i + 1) = q := by omega
    rw [hq, hq2]
    simp only [belF]
    rw [if_neg g, if_neg g2]
  · refine fin false ?_
    have : 100 - i = 0 := by simp only at g1; omega
    rw [this]
    rfl
  · refine fin false ?_
    cases h : 100 - i with
    | zero => rfl
    | succ q => simp only [belF]; rw [if_pos g])
end
end Go.AI
end
section
set_option linter.unusedSimpArgs false
set_option linter.unusedVariables false
set_option maxRecDepth 10000
/- Where the reference's windows lie; its screens; no condition but those that each names. -/
namespace Go.AI
open Go.Proofs Go.Pane
section
variable {σ : AS} {K : Value → AS → Prop} {X : List (Nat × AObj)} {x : Nat} {n W H last : Int} {L : List Win} {tr : Option T}
theorem partF_if (κ : Int → Int) (m s key n q : Int) (h : (if 32 ≤ m then n * s / 100 else if key = 0 ∨ κ key = 1 then 0 else s) = q) : partF κ m s key n = if q > n then n else q := by
  unfold partF
  rw [h]
theorem c78 {w : Win} (Hh : Has σ X) (R : RIn x W H last L X) (hs : Srt L) (hl : L.length ≤ 1000) (hv : validM w.m) (h0 : 0 ≤ w.s) (h1 : w.s < 4294967296) (hn0 : 0 ≤ n) (hn1 : n ≤ 1000)
    (hK : ∀ σ' new, Has σ' (new ++ X) → K (i64 (partF (kof L) w.m w.s w.key n)) σ') : Tri Try.prog 78 [ptr x, .agg ⟨winR w⟩, i64 n] σ K := tri_in (by
  rw [s78]
  refine newAt_mk Hh fun c σ1 H1 => ?_
  refine ldc_mk H1 0 rfl rfl ?_
  rw [tI_int]
  refine ldc_mk H1 0 rfl rfl ?_
  rw [tI_int]
  have hmul : 0 ≤ n * w.s ∧ n * w.s ≤ 1000 * 4294967296 := ⟨Int.mul_nonneg hn0 h0, Int.mul_le_mul hn1 (by omega) h0 (by omega)⟩
  have e1 : IntKind.wrap .i64 w.s = w.s := wrap64 (by omega) (by omega)
  have e2 : IntKind.wrap .i64 (n * w.s) = n * w.s := wrap64 (by omega) (by omega)
  have e3 : Int.tdiv (n * w.s) 100 = n * w.s / 100 := Int.tdiv_eq_ediv_of_nonneg hmul.1
  have e4 : 0 ≤ n * w.s / 100 := Int.ediv_nonneg hmul.1 (by decide)
  have e5 : n * w.s / 100 ≤ 9223372036854775807 := by generalize n * w.s = q at *; omega
  have e6 : IntKind.wrap .i64 (n * w.s / 100) = n * w.s / 100 := wrap64 (by omega) e5
  have fin : ∀ q σ' new, Has σ' (new ++ X) → (if 32 ≤ w.m then n * w.s / 100 else if w.key = 0 ∨ kof L w.key = 1 then 0 else w.s) = q → bmatch (decide (q > n)) (K (i64 n) σ') (K (i64 q) σ') := by
    intro q σ' new H' hq
    have := hK σ' new H'
    rw [partF_if _ _ _ _ _ q hq] at this
    refine bmd_mk (fun g => ?_) (fun g => ?_)
    · rw [if_pos g] at this; exact this
    · rw [if_neg g] at this; exact this
  refine bmd_mk (fun g => ?_) (fun g => ?_)
  · rw [e1, e2, e3, e6]
    exact fin _ σ1 [_] H1 (if_pos (by omega))
  · refine ldc_mk H1 0 rfl rfl ?_
    rw [tI_int]
    refine beq_mk (fun g2 => ?_) (fun g2 => ?_)
    · exact fin 0 σ1 [_] H1 (by rw [if_neg (by omega), if_pos (.inl g2)])
    · refine ldc_mk H1 0 rfl rfl ?_
      rw [tI_int]
      refine c29 H1 R.cons hs hl fun σ2 new2 H2 => ?_
      simp only [tAgg, tCons, tI_int, tNil]
      have H2' : Has σ2 ((new2 ++ [(c, .row .plain (winR w))]) ++ X) := by simpa using H2
      refine beq_mk (fun g3 => ?_) (fun g3 => ?_)
      · exact fin 0 σ2 _ H2' (by rw [if_neg (by omega), if_pos (.inr g3)])
      · rw [e1]
        exact fin w.s σ2 _ H2' (by rw [if_neg (by omega), if_neg (by intro h; rcases h with h | h; exact g2 h; exact g3 h)]))
abbrev r6 : List Bool := [true, true, true, true, true, true]
abbrev r8 : List Bool := [true, true, true, true, true, true, true, true]
theorem c65c {r cc p : Nat} {q : R4} {f l : Int} {w : Win} {cs : List Value} {Y : List (Nat × AObj)} (Hh : Has σ ((cc, .row .plain cs) :: Y)) (hc : cs.length = 4) (hr : (r, AObj.row .plain (rL q)) ∈ Y) (hp : (p, AObj.row .plain (winR w)) ∈ Y) (hm : 0 ≤ w.m)
    (h0 : 0 ≤ q.x) (h1 : q.x ≤ 1000) (h2 : 0 ≤ q.y) (h3 : q.y ≤ 1000) (h4 : 0 ≤ f) (h5 : f ≤ 1000)
    (hK : ∀ σ' u, Has σ' (u :: Y) → K (.tuple ⟨[rV (match cols w.m with | true => ⟨q.x + f, q.y, l, q.h⟩ | false => ⟨q.x, q.y + f, q.w, l⟩), .bool true]⟩) σ') :
    jn Try.prog hintsS (Tri Try.prog) 65 jA [] K [(4, some (ptr cc)), (6, some (ptr p)), (7, some (ptr r)), (11, some (i64 f)), (12, some (i64 l))] σ := by
  rw [s65c]
  refine ldm Hh (List.mem_cons_of_mem _ hp) rfl ?_
  rw [tI_int]
  refine c64 hm ?_
  rw [tB_bool]
  refine bm_mk (fun g => ?_) (fun g => ?_)
  · rw [g] at hK
    refine ldm Hh (List.mem_cons_of_mem _ hr) rfl ?_
    rw [tI_int]
    refine ldm Hh (List.mem_cons_of_mem _ hr) rfl ?_
    rw [tI_int]
    refine ldm Hh (List.mem_cons_of_mem _ hr) rfl ?_
    rw [tI_int, wrap64 (by omega) (by omega)]
    refine puts_mk Hh 0 rfl rfl (by simp [hc]) fun σ' H' => ?_
    have ed : cs.drop (0 + [i64 (q.x + f), i64 q.y, i64 l, i64 q.h].length) = [] := List.drop_eq_nil_of_le (by simp [hc])
    rw [ed] at H'
    refine lds_mk H' 0 rfl (by simp) ?_
    simp only [List.drop_zero, List.take_zero, List.nil_append, List.append_nil, List.take_succ_cons, tCons, tI_int, tNil]
    exact hK σ' _ H'
  · rw [g] at hK
    refine ldm Hh (List.mem_cons_of_mem _ hr) rfl ?_
    rw [tI_int]
    refine ldm Hh (List.mem_cons_of_mem _ hr) rfl ?_
    rw [tI_int]
    refine ldm Hh (List.mem_cons_of_mem _ hr) rfl ?_
    rw [tI_int, wrap64 (by omega) (by omega)]
    refine puts_mk Hh 0 rfl rfl (by simp [hc]) fun σ' H' => ?_
    have ed : cs.drop (0 + [i64 q.x, i64 (q.y + f), i64 q.w, i64 l].length) = [] := List.drop_eq_nil_of_le (by simp [hc])
    rw [ed] at H'
    refine lds_mk H' 0 rfl (by simp) ?_
    simp only [List.drop_zero, List.take_zero, List.nil_append, List.append_nil, List.take_succ_cons, tCons, tI_int, tNil]
    exact hK σ' _ H'
theorem c65 (ok : Ok L last tr) (hW : 0 ≤ W) (hW1 : W ≤ 1000) (hH : 0 ≤ H) (hH1 : H ≤ 1000) : ∀ (fs : List Fr) (s : T) {σ : AS} {K : Value → AS → Prop} {X : List (Nat × AObj)}, Pane.At tr fs s → Has σ X → RIn x W H last L X →
    (∀ σ' new, Has σ' (new ++ X) → K (.tuple ⟨[rV (rectC (kof L) W H fs), .bool true]⟩) σ') → Tri Try.prog 65 [ptr x, i64 s.num] σ K := by
  intro fs
  have hl : L.length ≤ 1000 := by have := ok.len; omega
  induction fs with
  | nil =>
    intro s σ K X a Hh R hK
    refine tri_in ?_
    rw [s65]
    refine newAt_mk Hh fun cc σ1 H1 => ?_
    refine c47 H1 R.cons hl (fun h => by rw [ok.has_at a] at h; cases h) (fun i w hw hwn hh => ?_)
    rw [tI_int]
    refine bmd_mk (fun g => by omega) (fun _ => ?_)
    refine c29 H1 R.cons ok.srt hl fun σ2 new2 H2 => ?_
    simp only [tAgg, tCons, tI_int, tNil]
    have R2 : RIn x W H last L (new2 ++ (cc, AObj.row .plain [i64 0, i64 0, i64 0, i64 0]) :: X) := R.mono fun p hp => by simp [hp]
    refine c29 H2 R2 ok.srt hl fun σ3 new3 H3 => ?_
    simp only [tAgg, tCons, tI_int, tNil]
    refine newAt_mk H3 fun pc σ4 H4 => ?_
    refine puts_mk H4 0 rfl rfl (by simp) fun σ5 H5 => ?_
    refine ldc_mk H5 0 rfl rfl ?_
    rw [tI_int]
    have e : (ofL L (ofL L s.num).p).n = 0 := by
      rw [ok.of_at a, T.win_p]
      rw [show top [] = 0 from rfl, ofL_none ok.has0]
      rfl
    rw [e]
    refine beq_mk (fun _ => ?_) (fun g => absurd rfl g)
    obtain ⟨a0, e0, hx, _, _⟩ := R.ex
    refine ldm H5 (show (x, refO W H a0 L.length e0 last) ∈ _ by simp [hx]) rfl ?_
    rw [tI_int]
    refine ldm H5 (show (x, refO W H a0 L.length e0 last) ∈ _ by simp [hx]) rfl ?_
    rw [tI_int]
    have H5' : Has σ5 ((pc, AObj.row .plain (winR (ofL L (ofL L s.num).p))) :: (new3 ++ (new2 ++ (cc, AObj.row .plain [i64 0, i64 0, i64 0, i64 0]) :: X))) := H5
    have H6 : Has σ5 ((cc, AObj.row .plain [i64 0, i64 0, i64 0, i64 0]) :: (((pc, AObj.row .plain (winR (ofL L (ofL L s.num).p))) :: (new3 ++ new2)) ++ X)) := by
      refine H5'.perm ?_
      have e : ∀ (A B : List (Nat × AObj)) (u z : Nat × AObj), u :: (A ++ (B ++ z :: X)) = (u :: (A ++ B)) ++ z :: X := by intros; simp
      rw [e]
      exact List.perm_middle.symm
    refine puts_mk H6 0 rfl rfl (by simp) fun σ6 H7 => ?_
    refine lds_mk H7 0 rfl (by simp) ?_
    simp only [List.drop_zero, List.take_zero, List.nil_append, List.append_nil, List.take_succ_cons, tCons, tI_int, tNil, List.cons_append, List.drop_succ_cons, List.length_cons, List.length_nil, Nat.zero_add]
    exact hK σ6 ((cc, _) :: ((pc, _) :: (new3 ++ new2))) H7
  | cons f fs ih =>
    intro s σ K X a Hh R hK
    refine tri_in ?_
    rw [s65]
    refine newAt_mk Hh fun cc σ1 H1 => ?_
    refine c47 H1 R.cons hl (fun h => by rw [ok.has_at a] at h; cases h) (fun i w hw hwn hh => ?_)
    rw [tI_int]
    refine bmd_mk (fun g => by omega) (fun _ => ?_)
    refine c29 H1 R.cons ok.srt hl fun σ2 new2 H2 => ?_
    simp only [tAgg, tCons, tI_int, tNil]
    have R2 : RIn x W H last L (new2 ++ (cc, AObj.row .plain [i64 0, i64 0, i64 0, i64 0]) :: X) := R.mono fun p hp => by simp [hp]
    refine c29 H2 R2 ok.srt hl fun σ3 new3 H3 => ?_
    simp only [tAgg, tCons, tI_int, tNil]
    have ew : ofL L (ofL L s.num).p = f.win s.num (top fs) := by
      rw [ok.of_at a, T.win_p]
      have := ok.of_at a.up
      rw [Fr.fill_num, Fr.fill_win] at this
      exact this
    rw [ew]
    have hfn : (f.win s.num (top fs)).n = f.n := Fr.win_n _ _ _
    refine newAt_mk H3 fun pc σ4 H4 => ?_
    refine puts_mk H4 0 rfl rfl (by simp) fun σ5 H5 => ?_
    have H5' : Has σ5 ((pc, .row .plain (winR (f.win s.num (top fs)))) :: (new3 ++ (new2 ++ (cc, AObj.row .plain [i64 0, i64 0, i64 0, i64 0]) :: X))) := H5
    refine ldc_mk H5' 0 rfl rfl ?_
    have hf := (ok.num_pos a.up).1
    rw [Fr.fill_num] at hf
    rw [tI_int, hfn]
    refine beq_mk (fun g => by omega) (fun _ => ?_)
    refine ldc_mk H5' 0 rfl rfl ?_
    rw [tI_int, hfn]
    have R5 : RIn x W H last L ((pc, .row .plain (winR (f.win s.num (top fs)))) :: (new3 ++ (new2 ++ (cc, AObj.row .plain [i64 0, i64 0, i64 0, i64 0]) :: X))) := R.mono fun p hp => by simp [hp]
    have ih' := @ih (f.fill s) σ5
    rw [Fr.fill_num] at ih'
    refine ih' a.up H5' R5 fun σ6 new6 H6 => ?_
    simp only [tTup_tup, pSome_some, List.getElem?_cons_zero, List.getElem?_cons_succ, tAgg, tCons, tI_int, tNil, tB_bool]
    refine newAt_mk H6 fun r σ7 H7 => ?_
    refine puts_mk H7 0 rfl rfl (by simp) fun σ8 H8 => ?_
    have fr := ok.frame a
    have ewm : (f.win s.num (top fs)).m = f.m ∧ (f.win s.num (top fs)).s = f.s ∧ (f.win s.num (top fs)).key = f.key := by
      unfold Fr.win; cases f.side <;> exact ⟨rfl, rfl, rfl⟩
    have hm0 : 0 ≤ (f.win s.num (top fs)).m := by rw [ewm.1]; have := fr.1; unfold validM at this; omega
    have H8' : Has σ8 ((r, .row .plain (rL (rectC (kof L) W H fs))) :: (new6 ++ ((pc, .row .plain (winR (f.win s.num (top fs)))) :: (new3 ++ (new2 ++ (cc, AObj.row .plain [i64 0, i64 0, i64 0, i64 0]) :: X))))) := H8
    have hpm : (pc, AObj.row .plain (winR (f.win s.num (top fs)))) ∈ (r, AObj.row .plain (rL (rectC (kof L) W H fs))) :: (new6 ++ ((pc, AObj.row .plain (winR (f.win s.num (top fs)))) :: (new3 ++ (new2 ++ (cc, AObj.row .plain [i64 0, i64 0, i64 0, i64 0]) :: X)))) := by simp
    have b := ok.bounds hW hH fs _ a.up
    have R8 : RIn x W H last L ((r, AObj.row .plain (rL (rectC (kof L) W H fs))) :: (new6 ++ ((pc, AObj.row .plain (winR (f.win s.num (top fs)))) :: (new3 ++ (new2 ++ (cc, AObj.row .plain [i64 0, i64 0, i64 0, i64 0]) :: X))))) := R.mono fun p hp => by simp [hp]
    -- behind the first join
    have tail : ∀ N : Int, (N = if cols f.m = true then (rectC (kof L) W H fs).w else (rectC (kof L) W H fs).h) → jn Try.prog hintsS (Tri Try.prog) 65 r6 [] K [(0, some (ptr x)), (1, some (i64 s.num)), (4, some (ptr cc)), (6, some (ptr pc)), (7, some (ptr r)), (9, some (i64 N))] σ8 := by
      intro N hN
      have hN0 : 0 ≤ N ∧ N ≤ 1000 := by rw [hN]; split <;> omega
      rw [s65a]
      refine ldsm H8' hpm (by simp) ?_
      simp only [List.drop_zero, List.take_succ_cons, List.take_zero, tCons, tI_int, tNil]
      refine c78 (w := f.win s.num (top fs)) H8' R8 ok.srt hl (by rw [ewm.1]; exact fr.1) (by rw [ewm.2.1]; exact fr.2.1) (by rw [ewm.2.1]; exact fr.2.2.1) hN0.1 hN0.2 fun σ9 new9 H9 => ?_
      rw [ewm.1, ewm.2.1, ewm.2.2, tI_int]
      have pl := partF_le (κ := kof L) (m := f.m) (key := f.key) hN0.1 fr.2.1
      have fl := firstF_le (κ := kof L) (m := f.m) (key := f.key) hN0.1 fr.2.1
      refine ldm H9 (List.mem_append_right _ hpm) rfl ?_
      have hmm : 0 ≤ f.m := by rw [ewm.1] at hm0; exact hm0
      rw [tI_int, ewm.1, Int.tmod_eq_emod_of_nonneg hmm]
      -- the rest
      have rest : ∀ q, q = firstF (kof L) f.m f.s f.key N → jn Try.prog hintsS (Tri Try.prog) 65 r8 [] K [(1, some (i64 s.num)), (4, some (ptr cc)), (6, some (ptr pc)), (7, some (ptr r)), (9, some (i64 N)), (10, some (i64 q))] σ9 := by
        intro q hq
        rw [← hq] at fl
        rw [s65b]
        refine ldm H9 (List.mem_append_right _ hpm) rfl ?_
        rw [tI_int]
        obtain ⟨Z, hZp, hZX⟩ : ∃ Z, Has σ9 ((cc, AObj.row .plain [i64 0, i64 0, i64 0, i64 0]) :: (Z ++ X)) ∧ ((r, AObj.row .plain (rL (rectC (kof L) W H fs))) ∈ Z ++ X ∧ (pc, AObj.row .plain (winR (f.win s.num (top fs)))) ∈ Z ++ X) := by
          refine ⟨new9 ++ ((r, AObj.row .plain (rL (rectC (kof L) W H fs))) :: (new6 ++ ((pc, AObj.row .plain (winR (f.win s.num (top fs)))) :: (new3 ++ new2)))), H9.perm ?_, by simp, by simp⟩
          have e : ∀ (A B C D : List (Nat × AObj)) (u v z : Nat × AObj), A ++ (u :: (B ++ (v :: (C ++ (D ++ z :: X))))) = (A ++ (u :: (B ++ (v :: (C ++ D))))) ++ z :: X := by intros; simp
          rw [e]
          exact List.perm_middle.symm
        have hb : (f.win s.num (top fs)).b = if f.side = true then f.o.num else s.num := by unfold Fr.win; cases f.side <;> rfl
        have hsd := ok.side_ne a
        have go : ∀ from' long, 0 ≤ from' → from' ≤ 1000 → (match cols f.m with | true => (⟨(rectC (kof L) W H fs).x + from', (rectC (kof L) W H fs).y, long, (rectC (kof L) W H fs).h⟩ : R4) | false => ⟨(rectC (kof L) W H fs).x, (rectC (kof L) W H fs).y + from', (rectC (kof L) W H fs).w, long⟩) = rectC (kof L) W H (f :: fs) →
            jn Try.prog hintsS (Tri Try.prog) 65 jA [] K [(4, some (ptr cc)), (6, some (ptr pc)), (7, some (ptr r)), (11, some (i64 from')), (12, some (i64 long))] σ9 := by
          intro from' long g0 g1 ge
          refine c65c (w := f.win s.num (top fs)) (q := rectC (kof L) W H fs) hZp rfl hZX.1 hZX.2 hm0 b.1 (by omega) b.2.2.2.1 (by omega) g0 g1 fun σA u HA => ?_
          rw [ewm.1, ge]
          exact hK σA (u :: Z) HA
        refine beq_mk (fun g => ⟨?_⟩) (fun g => ⟨?_⟩)
        · have hside : f.side = false := by
            cases hs : f.side
            · rfl
            · rw [hs, if_pos rfl] at hb
              exact absurd (g.trans hb).symm hsd
          rw [wrap64 (by omega) (by omega)]
          refine go q (N - q) fl.1 (by omega) ?_
          simp only [rectC]
          unfold childR
          rw [hside, hq]
          cases hcm : cols f.m
          · rw [hcm, if_neg (by simp)] at hN; simp only [hN]
          · rw [hcm, if_pos rfl] at hN; simp only [hN]
        · have hside : f.side = true := by
            cases hs : f.side
            · rw [hs, if_neg (by simp)] at hb
              exact absurd hb.symm g
            · rfl
          refine go 0 q (by omega) (by omega) ?_
          simp only [rectC]
          unfold childR
          rw [hside, hq]
          cases hcm : cols f.m
          · rw [hcm, if_neg (by simp)] at hN; simp only [hN, Int.add_zero]
          · rw [hcm, if_pos rfl] at hN; simp only [hN, Int.add_zero]
      refine beq_mk (fun g => ⟨rest _ ?_⟩) (fun g => ⟨rest _ ?_⟩)
      · unfold firstF
        rw [if_pos g, wrap64 (by omega) (by omega)]
      · unfold firstF
        rw [if_neg g]
    refine ldc_mk H8' 0 rfl rfl ?_
    rw [tI_int]
    refine ldm H8' hpm rfl ?_
    rw [tI_int]
    refine c64 hm0 ?_
    rw [tB_bool, ewm.1]
    refine bm_mk (fun g => ?_) (fun g => ⟨tail _ (by rw [if_neg (by rw [g]; simp)])⟩)
    refine ldc_mk H8' 0 rfl rfl ?_
    rw [tI_int]
    exact ⟨tail _ (by rw [if_pos g])⟩
theorem c65n (hs : Srt L) (hl : L.length ≤ 1000) (hn : hasL L n = false) (Hh : Has σ X) (R : RIn x W H last L X) (hK : ∀ σ' new, Has σ' (new ++ X) → K (.tuple ⟨[rV zeroR, .bool false]⟩) σ') : Tri Try.prog 65 [ptr x, i64 n] σ K := tri_in (by
  rw [s65]
  refine newAt_mk Hh fun cc σ1 H1 => ?_
  refine c47 H1 R.cons hl (fun h => ?_) (fun i w hw hwn hh => by rw [hn] at hh; cases hh)
  rw [tI_int]
  refine bmd_mk (fun _ => ?_) (fun g => absurd (by decide) g)
  refine puts_mk H1 0 rfl rfl (by simp) fun σ3 H4 => ?_
  refine lds_mk H4 0 rfl (by simp) ?_
  simp only [List.drop_zero, List.take_zero, List.nil_append, List.append_nil, List.take_succ_cons, tCons, tI_int, tNil, List.cons_append, List.drop_succ_cons, List.length_cons, List.length_nil, Nat.zero_add]
  exact hK σ3 [(cc, _)] H4)
end
end Go.AI
end
section
set_option linter.unusedSimpArgs false
set_option linter.unusedVariables false
set_option maxRecDepth 10000
/- The reference's tree, written: hung elsewhere, opened; no condition but those that each names. -/
namespace Go.AI
open Go.Proofs Go.Pane
def RRow (a : Option Addr) (e : Nat) (L : List Win) (rw : List (Nat × AObj)) : Prop := (a = none ∧ L = [] ∧ rw = []) ∨ ∃ r, a = some ⟨r, 0, none⟩ ∧ e = 8 ∧ rw = [(r, .row .rw (cellsR L))]
abbrev refL (x : Nat) (W H : Int) (a : Option Addr) (e : Nat) (last : Int) (L : List Win) (rw fr : List (Nat × AObj)) : List (Nat × AObj) := (x, refO W H a L.length e last) :: (rw ++ fr)
/-- The reference's tree, and what lies beside it. -/
def RSt (x : Nat) (W H last : Int) (L : List Win) (fr : List (Nat × AObj)) (σ : AS) : Prop := ∃ a e rw, RRow a e L rw ∧ Has σ (refL x W H a e last L rw fr)
section
variable {σ : AS} {K : Value → AS → Prop} {fr : List (Nat × AObj)} {x : Nat} {n W H last : Int} {L : List Win} {tr : Option T}
theorem rrow_no {a : Option Addr} {e : Nat} {rw : List (Nat × AObj)} (h : RRow a e L rw) : nilOr a e 8 = true := by
  rcases h with ⟨rfl, _⟩ | ⟨j, rfl, rfl, _⟩
  · unfold nilOr; cases Nat.beq e 8 <;> rfl
  · rfl
theorem rin_of {a : Option Addr} {e : Nat} {rw : List (Nat × AObj)} (h : RRow a e L rw) : RIn x W H last L (refL x W H a e last L rw fr) := by
  refine ⟨a, e, List.mem_cons_self .., rrow_no h, ?_⟩
  rcases h with ⟨_, h, _⟩ | ⟨r, h1, _, h3⟩
  · exact .inl h
  · exact .inr ⟨r, .rw, h1, by rw [h3]; simp⟩
theorem RSt.rin (S : RSt x W H last L fr σ) : ∃ X, Has σ X ∧ RIn x W H last L X := by
  obtain ⟨a, e, rw, h, H⟩ := S
  exact ⟨_, H, rin_of h⟩
theorem RSt.drop {new : List (Nat × AObj)} {a : Option Addr} {e : Nat} {rw : List (Nat × AObj)} (h : RRow a e L rw) (Hh : Has σ (new ++ refL x W H a e last L rw fr)) : RSt x W H last L fr σ :=
  ⟨a, e, rw, h, Hh.sub (List.sublist_append_right _ _)⟩
/-- A number of a window, read. -/
theorem rdS0 {G : Value → Prop} {i : Nat} {w : Win} (S : RSt x W H last L fr σ) (hi : L[i]? = some w) (hG : G (i64 w.n)) :
    ldc σ ⟨x, 0 + 2, none⟩ fun v => tL 8 v fun s => req (0 ≤ (i : Int)) (req ((i : Int) < (s.n : Int)) (pSome s.a fun a => ldc σ (Addr.add (Addr.add a (Int.toNat (i : Int) * szOf Try.prog 58)) 0) G)) := by
  obtain ⟨X, Hh, R⟩ := S.rin
  refine elR Hh R hi fun r k hr => ?_
  rw [add8, add80]
  exact flR Hh hr hi (by omega) rfl hG
theorem rdS {G : Value → Prop} {i : Nat} (o : Nat) {w : Win} {v : Value} (S : RSt x W H last L fr σ) (hi : L[i]? = some w) (ho : o < 8) (hv : (winR w)[o]? = some v) (hG : G v) :
    ldc σ ⟨x, 0 + 2, none⟩ fun v => tL 8 v fun s => req (0 ≤ (i : Int)) (req ((i : Int) < (s.n : Int)) (pSome s.a fun a => ldc σ (Addr.mk (Addr.block (Addr.add a (Int.toNat (i : Int) * szOf Try.prog 58))) (Addr.off (Addr.add a (Int.toNat (i : Int) * szOf Try.prog 58)) + o) none) G)) := by
  obtain ⟨X, Hh, R⟩ := S.rin
  refine elR Hh R hi fun r k hr => ?_
  rw [add8]
  exact flR Hh hr hi ho hv hG
theorem lenS {G : Sl → Prop} (S : RSt x W H last L fr σ) (hG : ∀ a, G ⟨a, L.length⟩) : ldc σ ⟨x, 0 + 2, none⟩ fun v => tL 8 v G := by
  obtain ⟨X, Hh, R⟩ := S.rin
  exact lenR Hh R fun a _ => hG a
/-- A part of a window, written. -/
theorem putR {G : AS → Prop} {i : Nat} (o : Nat) {w : Win} (w' : Win) {v : Value} (S : RSt x W H last L fr σ) (hi : L[i]? = some w) (ho : o < 8) (hv : (winR w).set o v = winR w') (hG : ∀ σ', RSt x W H last (L.set i w') fr σ' → G σ') :
    ldc σ ⟨x, 0 + 2, none⟩ fun v2 => tL 8 v2 fun s => req (0 ≤ (i : Int)) (req ((i : Int) < (s.n : Int)) (pSome s.a fun a => put1 σ (Addr.mk (Addr.block (Addr.add a (Int.toNat (i : Int) * szOf Try.prog 58))) (Addr.off (Addr.add a (Int.toNat (i : Int) * szOf Try.prog 58)) + o) none) v G)) := by
  obtain ⟨a, e, rw', h, Hh⟩ := S
  have hlt := (List.getElem?_eq_some_iff.1 hi).1
  rcases h with ⟨_, h, _⟩ | ⟨r, rfl, rfl, rfl⟩
  · subst h; simp at hi
  · refine ldc_mk Hh 0 rfl rfl (tL_mk ?_)
    refine req_mk (by omega) (req_mk (by simp only; omega) ?_)
    rw [pSome_some, add8]
    refine put1_mk Hh 1 rfl rfl (by rw [cellsR_len]; simp only; omega) fun σ' H' => hG σ' ⟨some ⟨r, 0, none⟩, 8, [(r, .row .rw (cellsR (L.set i w')))], .inr ⟨r, rfl, rfl, rfl⟩, ?_⟩
    simp only [Nat.zero_add] at H'
    rw [cellsR_set L i o w w' v hi ho hv] at H'
    unfold refL
    rw [List.length_set]
    exact H'
/-- In a parent one child is another one now. -/
theorem c60 {p was now : Int} (S : RSt x W H last L fr σ) (hl : L.length ≤ 1000) (hK : ∀ σ', RSt x W H last (L.map (turnW p was now)) fr σ' → K unit0 σ') : Tri Try.prog 60 [ptr x, i64 p, i64 was, i64 now] σ K := tri_in (by
  rw [s60]
  have hS0 : RSt x W H last ((L.take 0).map (turnW p was now) ++ L.drop 0) fr σ := S
  refine aloop (fun (i : Nat) rg σ' => i ≤ L.length ∧ RSt x W H last ((L.take i).map (turnW p was now) ++ L.drop i) fr σ' ∧ rg = [(0, some (ptr x)), (1, some (i64 p)), (2, some (i64 was)), (3, some (i64 now)), (8, some (i64 i))]) (fun i => L.length - i) ?_ (a := 0) ⟨Nat.zero_le _, hS0, rfl⟩
  rintro i rg σ1 Y hY ⟨hi, S1, rfl⟩
  rw [s60l]
  have hlen : ((L.take i).map (turnW p was now) ++ L.drop i).length = L.length := by simp; omega
  refine lenS S1 fun a => bmd_mk (fun g => ?_) (fun g => ?_)
  · simp only [hlen] at g
    obtain ⟨w, hw⟩ : ∃ w, L[i]? = some w := ⟨L[i]'(by omega), by simp⟩
    have hat : ((L.take i).map (turnW p was now) ++ L.drop i)[i]? = some w := by
      rw [List.getElem?_append_right (by simp; omega)]
      have : i - ((L.take i).map (turnW p was now)).length = 0 := by simp; omega
      rw [this, List.getElem?_drop, Nat.add_zero, hw]
    have hset : ∀ v, ((L.take i).map (turnW p was now) ++ L.drop i).set i v = (L.take i).map (turnW p was now) ++ v :: L.drop (i + 1) := by
      intro v
      rw [List.set_append_right _ _ (by simp; omega)]
      have : i - ((L.take i).map (turnW p was now)).length = 0 := by simp; omega
      have hlt := (List.getElem?_eq_some_iff.1 hw).1
      rw [this, List.drop_eq_getElem_cons hlt, List.set_cons_zero]
    have hfin : (L.take i).map (turnW p was now) ++ turnW p was now w :: L.drop (i + 1) = (L.take (i + 1)).map (turnW p was now) ++ L.drop (i + 1) := by
      rw [List.take_add_one, hw]
      simp
    have e1 : IntKind.wrap .i64 ((i : Int) + 1) = ((i + 1 : Nat) : Int) := by rw [wrap64 (by omega) (by omega)]; omega
    have done : ∀ σ2, RSt x W H last ((L.take i).map (turnW p was now) ++ turnW p was now w :: L.drop (i + 1)) fr σ2 → Y [(0, some (ptr x)), (1, some (i64 p)), (2, some (i64 was)), (3, some (i64 now)), (8, some (i64 (IntKind.wrap .i64 ((i : Int) + 1))))] σ2 := by
      intro σ2 S2
      rw [e1]
      rw [hfin] at S2
      exact hY (i + 1) _ _ (by omega) ⟨by omega, S2, rfl⟩
    -- behind the first parting
    have tail : ∀ σ2 (v : Win), v.n = w.n → (turnW p was now w = if v.n = p ∧ v.a = was then { v with a := now } else if v.n = p ∧ v.b = was then { v with b := now } else v) → RSt x W H last ((L.take i).map (turnW p was now) ++ v :: L.drop (i + 1)) fr σ2 →
        jn Try.prog hintsS (Tri Try.prog) 60 [true, false, false, true, false, false] [Y] K [(0, some (ptr x)), (1, some (i64 p)), (2, some (i64 was)), (3, some (i64 now)), (8, some (i64 i))] σ2 := by
      intro σ2 v hvn ht S2
      have hv2 : ((L.take i).map (turnW p was now) ++ v :: L.drop (i + 1))[i]? = some v := by
        rw [List.getElem?_append_right (by simp; omega)]
        have : i - ((L.take i).map (turnW p was now)).length = 0 := by simp; omega
        rw [this]; rfl
      have hset2 : ∀ u, ((L.take i).map (turnW p was now) ++ v :: L.drop (i + 1)).set i u = (L.take i).map (turnW p was now) ++ u :: L.drop (i + 1) := by
        intro u
        rw [List.set_append_right _ _ (by simp; omega)]
        have : i - ((L.take i).map (turnW p was now)).length = 0 := by simp; omega
        rw [this, List.set_cons_zero]
      rw [s60j]
      refine rdS0 S2 hv2 ?_
      rw [tI_int]
      refine beq_mk (fun g1 => ?_) (fun g1 => ?_)
      · refine rdS 3 S2 hv2 (by omega) rfl ?_
        rw [tI_int]
        refine beq_mk (fun g2 => ?_) (fun g2 => ?_)
        · refine putR 3 { v with a := now } S2 hv2 (by omega) rfl fun σ3 S3 => ?_
          rw [hset2] at S3
          rw [if_pos ⟨g1, g2⟩] at ht
          rw [← ht] at S3
          exact done σ3 S3
        · rw [if_neg (fun h => g2 h.2)] at ht
          refine rdS0 S2 hv2 ?_
          rw [tI_int]
          refine beq_mk (fun _ => ?_) (fun g => absurd g1 g)
          refine rdS 4 S2 hv2 (by omega) rfl ?_
          rw [tI_int]
          refine beq_mk (fun g3 => ?_) (fun g3 => ?_)
          · refine putR 4 { v with b := now } S2 hv2 (by omega) rfl fun σ3 S3 => ?_
            rw [hset2] at S3
            rw [if_pos ⟨g1, g3⟩] at ht
            rw [← ht] at S3
            exact done σ3 S3
          · rw [if_neg (fun h => g3 h.2)] at ht
            rw [← ht] at S2
            exact done σ2 S2
      · rw [if_neg (fun h => g1 h.1), if_neg (fun h => g1 h.1)] at ht
        refine rdS0 S2 hv2 ?_
        rw [tI_int]
        refine beq_mk (fun g => absurd g g1) (fun _ => ?_)
        rw [← ht] at S2
        exact done σ2 S2
    refine rdS0 S1 hat ?_
    rw [tI_int]
    refine beq_mk (fun g1 => ?_) (fun g1 => ⟨?_⟩)
    · refine putR 2 { w with p := p } S1 hat (by omega) rfl fun σ2 S2 => ⟨?_⟩
      rw [hset] at S2
      exact tail σ2 { w with p := p } rfl (by unfold turnW; simp only [if_pos g1]) S2
    · refine tail σ1 w rfl (by unfold turnW; simp only [if_neg g1]) ?_
      have : L.drop i = w :: L.drop (i + 1) := by
        have hlt := (List.getElem?_eq_some_iff.1 hw).1
        rw [List.drop_eq_getElem_cons hlt, (List.getElem?_eq_some_iff.1 hw).2]
      rw [← this]
      exact S1
  · simp only [hlen] at g
    have e : i = L.length := by omega
    rw [e, List.take_length, List.drop_length, List.append_nil] at S1
    exact hK σ1 S1)
theorem c52 {w h : Int} (S : RSt x W H last L fr σ) (hE : (fitsB w && fitsB h) = false → K (i64 1) σ) (hK : (fitsB w && fitsB h) = true → ∀ σ', RSt x w h last L fr σ' → K (i64 0) σ') : Tri Try.prog 52 [ptr x, i64 w, i64 h] σ K := tri_in (by
  rw [s52]
  refine bmd_mk (fun g => hE ?_) (fun g1 => bmd_mk (fun g => hE ?_) (fun g2 => bmd_mk (fun g => hE ?_) (fun g3 => bmd_mk (fun g => hE ?_) (fun g4 => ?_))))
  · have : fitsB w = false := decide_eq_false (by omega)
    rw [this]; rfl
  · have : fitsB w = false := decide_eq_false (by omega)
    rw [this]; rfl
  · have : fitsB h = false := decide_eq_false (by omega)
    rw [this]; cases fitsB w <;> rfl
  · have : fitsB h = false := decide_eq_false (by omega)
    rw [this]; cases fitsB w <;> rfl
  obtain ⟨a, e, rw', h', Hh⟩ := S
  refine put1_mk Hh 0 rfl rfl (by simp) fun σ1 H1 => put1_mk H1 0 rfl rfl (by simp) fun σ2 H2 => ?_
  refine hK ?_ σ2 ⟨a, e, rw', h', H2⟩
  have h1 : fitsB w = true := decide_eq_true (by omega)
  have h2 : fitsB h = true := decide_eq_true (by omega)
  rw [h1, h2]; rfl)
theorem c32 {w h : Int} (Hh : Has σ fr) (hE : (fitsB w && fitsB h) = false → K (.tuple ⟨[.pointer none, i64 1]⟩) σ) (hK : (fitsB w && fitsB h) = true → ∀ σ' x, RSt x w h 0 [] fr σ' → K (.tuple ⟨[ptr x, i64 0]⟩) σ') : Tri Try.prog 32 [i64 w, i64 h] σ K := tri_in (by
  rw [s32]
  refine bmd_mk (fun g => hE ?_) (fun g1 => bmd_mk (fun g => hE ?_) (fun g2 => bmd_mk (fun g => hE ?_) (fun g3 => bmd_mk (fun g => hE ?_) (fun g4 => ?_))))
  · have : fitsB w = false := decide_eq_false (by omega)
    rw [this]; rfl
  · have : fitsB w = false := decide_eq_false (by omega)
    rw [this]; rfl
  · have : fitsB h = false := decide_eq_false (by omega)
    rw [this]; cases fitsB w <;> rfl
  · have : fitsB h = false := decide_eq_false (by omega)
    rw [this]; cases fitsB w <;> rfl
  refine newAt_mk Hh fun i σ1 H1 => ?_
  refine hK ?_ σ1 i ⟨none, 0, [], .inl ⟨rfl, rfl, rfl⟩, H1⟩
  have h1 : fitsB w = true := decide_eq_true (by omega)
  have h2 : fitsB h = true := decide_eq_true (by omega)
  rw [h1, h2]; rfl)
end
end Go.AI
end
section
set_option linter.unusedSimpArgs false
set_option linter.unusedVariables false
set_option maxRecDepth 10000
/- The reference opens a window, arranges a pair, is copied; no condition but those that each names. -/
namespace Go.AI
open Go.Proofs Go.Pane
section
variable {σ : AS} {K : Value → AS → Prop} {fr : List (Nat × AObj)} {x : Nat} {n W H last : Int} {L : List Win} {tr : Option T}
/-- New windows behind all. -/
theorem appR {M : List Win} {G : AS → Prop} {a : Option Addr} {e m j : Nat} {rw new : List (Nat × AObj)} {c8 : List Value} (hm : M.length = m) (hm0 : m ≠ 0) (hc : c8 = cellsR M) (h : RRow a e L rw) (hl : L.length ≤ 1000) (hml : m ≤ 1000) (Hh : Has σ ((j, .row .rw c8) :: refL x W H a e last L rw fr))
    (hG : ∀ σ', RSt x W H last (L ++ M) fr σ' → G σ') :
    lds σ ⟨j, 0, none⟩ (m * 8) fun l => appendTo σ 8 64 ⟨a, L.length⟩ l m fun s σ' => put1 σ' ⟨x, 0 + 2, none⟩ (.slice s.a s.n 8) G := by
  subst hc
  refine lds_mk Hh 0 rfl (by rw [cellsR_len]; omega) ?_
  have el : ((cellsR M).drop 0).take (m * 8) = cellsR M := by rw [List.drop_zero]; exact List.take_of_length_le (by rw [cellsR_len]; omega)
  rw [el]
  obtain ⟨k, rfl⟩ : ∃ k, m = k + 1 := ⟨m - 1, by omega⟩
  rcases h with ⟨rfl, rfl, rfl⟩ | ⟨r, rfl, rfl, rfl⟩
  · refine append_nil_mk Hh (by omega) fun j' σ1 H1 => ?_
    refine put1_mk H1 2 rfl rfl (by simp) fun σ2 H2 => hG σ2 ⟨some ⟨j', 0, none⟩, 8, [(j', .row .rw (cellsR M))], .inr ⟨j', rfl, rfl, rfl⟩, ?_⟩
    have H3 : Has σ2 ((j', .row .rw (cellsR M)) :: (j, .row .rw (cellsR M)) :: (x, refO W H (some ⟨j', 0, none⟩) (k + 1) 8 last) :: fr) := H2
    have H4 := (H3.sub (L' := (j', .row .rw (cellsR M)) :: (x, refO W H (some ⟨j', 0, none⟩) (k + 1) 8 last) :: fr) (.cons_cons _ (.cons _ (.refl _))))
    rw [← hm] at H4
    exact H4.perm (.swap _ _ _)
  · refine append_mk Hh 2 rfl rfl (by omega) (by rw [cellsR_len]; omega) fun j' σ1 H1 => ?_
    refine put1_mk H1 2 rfl rfl (by simp) fun σ2 H2 => hG σ2 ⟨some ⟨j', 0, none⟩, 8, [(j', .row .rw (cellsR (L ++ M)))], .inr ⟨j', rfl, rfl, rfl⟩, ?_⟩
    have et : (cellsR L).take (L.length * 8) = cellsR L := List.take_of_length_le (by rw [cellsR_len]; omega)
    have H3 : Has σ2 ((j', .row .rw (cellsR L ++ cellsR M)) :: (j, .row .rw (cellsR M)) :: (x, refO W H (some ⟨j', 0, none⟩) (L.length + (k + 1)) 8 last) :: fr) := by
      rw [et] at H2
      exact H2
    have H4 := (H3.sub (L' := (j', .row .rw (cellsR L ++ cellsR M)) :: (x, refO W H (some ⟨j', 0, none⟩) (L.length + (k + 1)) 8 last) :: fr) (.cons_cons _ (.cons _ (.refl _))))
    rw [← cellsR_app] at H4
    unfold refL
    rw [List.length_append, hm]
    exact H4.perm (.swap _ _ _)
theorem RSt.last' {v : Int} {G : AS → Prop} (S : RSt x W H last L fr σ) (hG : ∀ σ', RSt x W H v L fr σ' → G σ') : put1 σ ⟨x, 0 + 3, none⟩ (i64 v) G := by
  obtain ⟨a, e, rw', h, Hh⟩ := S
  exact put1_mk Hh 0 rfl rfl (by simp) fun σ' H' => hG σ' ⟨a, e, rw', h, H'⟩
theorem c53 {split m sz kind : Int} (ok : Ok L last tr) (hl0 : 0 ≤ last) (hl1 : last ≤ 1000) (hm : In64 m) (S : RSt x W H last L fr σ)
    (hE : openE L split m kind ≠ 0 → ∀ σ', RSt x W H last L fr σ' → K (.tuple ⟨[i64 0, i64 (openE L split m kind)]⟩) σ')
    (hK : openE L split m kind = 0 → ∀ σ', RSt x W H (openLast last split) (openN L last split m sz kind) fr σ' → K (.tuple ⟨[i64 (last + 1), i64 0]⟩) σ') :
    Tri Try.prog 53 [ptr x, i64 split, i64 m, u32 sz, i64 kind] σ K := tri_in (by
  rw [s53]
  have hlen := ok.len
  refine bmd_mk (fun g => ?_) (fun g1 => bmd_mk (fun g => ?_) (fun g2 => ?_))
  · have e : openE L split m kind = 1 := by unfold openE; rw [if_pos (.inl g)]
    rw [e] at hE
    exact hE (by omega) σ S
  · have e : openE L split m kind = 1 := by unfold openE; rw [if_pos (.inr g)]
    rw [e] at hE
    exact hE (by omega) σ S
  have hkn : ¬ (kind < 1 ∨ kind > 3) := by omega
  have ew1 : IntKind.wrap .i64 (last + 1) = last + 1 := wrap64 (by omega) (by omega)
  have ew2 : IntKind.wrap .i64 (last + 1 + 1) = last + 2 := by rw [wrap64 (by omega) (by omega)]; omega
  by_cases hs0 : split = 0
  · have q1 : (split == 0) = true := by simpa using hs0
    have q2 : (split != 0) = false := by simp [hs0]
    simp only [q1, q2, bm_true, bm_false]
    refine lenS S fun a => bmd_mk (fun g => ?_) (fun g => ?_)
    · have hne : L ≠ [] := by intro h; subst h; simp at g
      have e : openE L split m kind = 6 := by unfold openE; rw [if_neg hkn, if_pos hs0, if_neg hne]
      rw [e] at hE
      exact hE (by omega) σ S
    have hnil : L = [] := List.length_eq_zero_iff.1 (by simp only at g; omega)
    have e0 : openE L split m kind = 0 := by unfold openE; rw [if_neg hkn, if_pos hs0, if_pos hnil]
    obtain ⟨a0, e1, rw', h, Hh⟩ := S
    refine ldc_mk Hh 0 rfl rfl ?_
    rw [tI_int, ew1]
    refine ldc_mk Hh 0 rfl rfl (tL_ok (rrow_no h) ?_)
    refine newAt_mk Hh fun j σ1 H1 => ?_
    refine appR (M := [⟨last + 1, kind, 0, 0, 0, 0, 0, 0⟩]) (m := 1) (new := []) rfl (by omega) rfl h (by omega) (by omega) H1 fun σ2 S2 => ?_
    refine S2.last' fun σ3 S3 => ?_
    refine hK e0 σ3 ?_
    have eo : openN L last split m sz kind = L ++ [⟨last + 1, kind, 0, 0, 0, 0, 0, 0⟩] := by unfold openN; rw [if_pos hs0, hnil]; rfl
    have el : openLast last split = last + 1 := by unfold openLast; rw [if_pos hs0]
    rw [eo, el]
    exact S3
  · have q1 : (split == 0) = false := by simpa using hs0
    have q2 : (split != 0) = true := by simpa using hs0
    simp only [q1, q2, bm_true, bm_false]
    obtain ⟨a0, e1, rw', h, Hh⟩ := S
    have R := rin_of (x := x) (W := W) (H := H) (last := last) (fr := fr) h
    refine c47 Hh R (by omega) (fun hh => ?_) (fun i w hw hwn hh => ?_)
    · rw [tI_int]
      refine bmd_mk (fun _ => ?_) (fun g => absurd (by decide) g)
      have e : openE L split m kind = 5 := by unfold openE; rw [if_neg hkn, if_neg hs0, if_pos hh]
      rw [e] at hE
      exact hE (by omega) σ ⟨a0, e1, rw', h, Hh⟩
    rw [tI_int]
    refine bmd_mk (fun g => by omega) (fun _ => ?_)
    refine c63 ?_
    rw [tB_bool]
    refine bnot_mk (fun hv => ?_) (fun hv => ?_)
    · have e : openE L split m kind = 1 := by unfold openE; rw [if_neg hkn, if_neg hs0, hh, if_neg (by simp), if_pos hv]
      rw [e] at hE
      exact hE (by omega) σ ⟨a0, e1, rw', h, Hh⟩
    refine lenS ⟨a0, e1, rw', h, Hh⟩ fun a => bmd_mk (fun g => ?_) (fun g => ?_)
    · have e : openE L split m kind = 4 := by unfold openE; rw [if_neg hkn, if_neg hs0, hh, if_neg (by simp), hv, if_neg (by simp), if_pos (by simp only at g; omega)]
      rw [e] at hE
      exact hE (by omega) σ ⟨a0, e1, rw', h, Hh⟩
    have e0 : openE L split m kind = 0 := by unfold openE; rw [if_neg hkn, if_neg hs0, hh, if_neg (by simp), hv, if_neg (by simp), if_neg (by simp only at g; omega)]
    refine ldc_mk Hh 0 rfl rfl ?_
    rw [tI_int, ew1, ew2]
    refine c29 Hh R ok.srt (by omega) fun σ1 new1 H1 => ?_
    simp only [tAgg, tCons, tI_int, tNil]
    refine newAt_mk H1 fun o σ2 H2 => ?_
    refine puts_mk H2 0 rfl rfl (by simp) fun σ3 H3 => ?_
    refine newAt_mk H3 fun p σ4 H4 => ?_
    refine puts_mk H4 0 rfl rfl (by simp) fun σ5 H5 => ?_
    obtain ⟨fs, s, at', hsn⟩ := ok.at_has hh
    have hof : (ofL L split).p = top fs := by rw [← hsn, ok.of_at at', T.win_p]
    have hvm := validB_iff.1 hv
    have hm0 : 0 ≤ m := by unfold validM at hvm; omega
    have H5' : Has σ5 ((p, .row .plain [i64 (last + 2), i64 4, i64 0, i64 split, i64 (last + 1), i64 m, u32 sz, i64 (last + 1)]) :: (o, .row .plain (winR (ofL L split))) :: (new1 ++ refL x W H a0 e1 last L rw' fr)) := H5
    -- behind the join
    have fin : ∀ σ6, Has σ6 ((p, .row .plain (winR (openPair split m sz (last + 1) (last + 2)))) :: (o, .row .plain (winR (ofL L split))) :: (new1 ++ refL x W H a0 e1 last L rw' fr)) →
        jn Try.prog hintsS (Tri Try.prog) 53 [true, true, true, true, true, true, true, true, true, true] [] K [(0, some (ptr x)), (1, some (i64 split)), (4, some (i64 kind)), (12, some (i64 (last + 1))), (13, some (ptr o)), (14, some (ptr p))] σ6 := by
      intro σ6 H6
      rw [s53j]
      have hx : (x, refO W H a0 L.length e1 last) ∈ (p, AObj.row .plain (winR (openPair split m sz (last + 1) (last + 2)))) :: (o, AObj.row .plain (winR (ofL L split))) :: (new1 ++ refL x W H a0 e1 last L rw' fr) := by simp
      refine ldm H6 hx rfl (tL_ok (rrow_no h) ?_)
      refine lds_mk H6 0 rfl (by simp) ?_
      simp only [List.drop_zero, List.take_succ_cons, List.take_zero, tCons, tI_int, tNil, ew2]
      refine newAt_mk H6 fun j σ7 H7 => ?_
      refine ldm H7 (List.mem_cons_of_mem _ hx) rfl (tL_ok (rrow_no h) ?_)
      refine ⟨rfl, ?_⟩
      have ec : [i64 (last + 1), i64 kind, i64 (last + 2), i64 0, i64 0, i64 0, u32 0, i64 0, i64 (openPair split m sz (last + 1) (last + 2)).n, i64 (openPair split m sz (last + 1) (last + 2)).k, i64 (openPair split m sz (last + 1) (last + 2)).p, i64 (openPair split m sz (last + 1) (last + 2)).a,
          i64 (openPair split m sz (last + 1) (last + 2)).b, i64 (openPair split m sz (last + 1) (last + 2)).m, u32 (openPair split m sz (last + 1) (last + 2)).s, i64 (openPair split m sz (last + 1) (last + 2)).key] = cellsR [⟨last + 1, kind, last + 2, 0, 0, 0, 0, 0⟩, openPair split m sz (last + 1) (last + 2)] := rfl
      rw [ec] at H7
      have H7' : Has σ7 ((j, .row .rw (cellsR [⟨last + 1, kind, last + 2, 0, 0, 0, 0, 0⟩, openPair split m sz (last + 1) (last + 2)])) :: refL x W H a0 e1 last L rw' (fr ++ ((p, AObj.row .plain (winR (openPair split m sz (last + 1) (last + 2)))) :: (o, AObj.row .plain (winR (ofL L split))) :: new1))) := by
        refine H7.perm (.cons _ ?_)
        have pp : ∀ (A B C : List (Nat × AObj)) (u v z : Nat × AObj), (u :: (A ++ (B ++ v :: z :: C))).Perm (v :: z :: (C ++ u :: (A ++ B))) := by
          intro A B C u v z
          have e1 : u :: (A ++ (B ++ v :: z :: C)) = (u :: (A ++ B)) ++ (v :: z :: C) := by simp
          have e2 : v :: z :: (C ++ u :: (A ++ B)) = (v :: z :: C) ++ (u :: (A ++ B)) := by simp
          rw [e1, e2]
          exact List.perm_append_comm
        exact pp rw' fr _ _ _ _
      refine appR (m := 2) (new := []) rfl (by omega) rfl h (by omega) (by omega) H7' fun σ8 S8 => ?_
      obtain ⟨a8, e8, rw8, h8, H8⟩ := S8
      refine ldm H8 (show (o, AObj.row .plain (winR (ofL L split))) ∈ _ by simp) rfl ?_
      rw [tI_int]
      refine c60 ⟨a8, e8, rw8, h8, H8⟩ (by simp; omega) fun σ9 S9 => ?_
      -- the last loop
      let M : List Win := (L ++ [⟨last + 1, kind, last + 2, 0, 0, 0, 0, 0⟩, openPair split m sz (last + 1) (last + 2)]).map (turnW (ofL L split).p split (last + 2))
      let fr9 : List (Nat × AObj) := fr ++ ((p, AObj.row .plain (winR (openPair split m sz (last + 1) (last + 2)))) :: (o, AObj.row .plain (winR (ofL L split))) :: new1)
      have hML : M.length ≤ 1000 := by simp [M]; omega
      have S9' : RSt x W H last ((M.take 0).map (setP split (last + 2)) ++ M.drop 0) fr9 σ9 := S9
      refine aloop (fun (i : Nat) rg σ' => i ≤ M.length ∧ RSt x W H last ((M.take i).map (setP split (last + 2)) ++ M.drop i) fr9 σ' ∧ rg = [(0, some (ptr x)), (1, some (i64 split)), (12, some (i64 (last + 1))), (15, some (i64 i))]) (fun i => M.length - i) ?_ (a := 0) ⟨Nat.zero_le _, S9', rfl⟩
      rintro i rg σA Y hY ⟨hi, SA, rfl⟩
      rw [s53l]
      have hlen9 : ((M.take i).map (setP split (last + 2)) ++ M.drop i).length = M.length := by simp; omega
      refine lenS SA fun a => bmd_mk (fun g => ?_) (fun g => ?_)
      · simp only [hlen9] at g
        obtain ⟨w, hw⟩ : ∃ w, M[i]? = some w := ⟨M[i]'(by omega), by simp⟩
        have hlt := (List.getElem?_eq_some_iff.1 hw).1
        have hd : M.drop i = w :: M.drop (i + 1) := by rw [List.drop_eq_getElem_cons hlt, (List.getElem?_eq_some_iff.1 hw).2]
        have hidx : i - ((M.take i).map (setP split (last + 2))).length = 0 := by simp; omega
        have hat : ((M.take i).map (setP split (last + 2)) ++ M.drop i)[i]? = some w := by
          rw [List.getElem?_append_right (by simp; omega), hidx, hd]; rfl
        have e1 : IntKind.wrap .i64 ((i : Int) + 1) = ((i + 1 : Nat) : Int) := by rw [wrap64 (by omega) (by omega)]; omega
        have hfin : (M.take i).map (setP split (last + 2)) ++ setP split (last + 2) w :: M.drop (i + 1) = (M.take (i + 1)).map (setP split (last + 2)) ++ M.drop (i + 1) := by
          rw [List.take_add_one, hw]; simp
        refine rdS0 SA hat ?_
        rw [tI_int]
        refine beq_mk (fun g1 => ?_) (fun g1 => ?_)
        · rw [ew2]
          refine putR 2 { w with p := last + 2 } SA hat (by omega) rfl fun σB SB => ?_
          rw [List.set_append_right _ _ (by simp; omega), hidx, hd, List.set_cons_zero] at SB
          have es : setP split (last + 2) w = { w with p := last + 2 } := by unfold setP; rw [if_pos g1]
          rw [← es, hfin] at SB
          rw [e1]
          exact hY (i + 1) _ _ (by omega) ⟨by omega, SB, rfl⟩
        · have es : setP split (last + 2) w = w := by unfold setP; rw [if_neg g1]
          rw [hd, ← es, hfin] at SA
          rw [e1]
          exact hY (i + 1) _ _ (by omega) ⟨by omega, SA, rfl⟩
      · simp only [hlen9] at g
        have e : i = M.length := by omega
        rw [e, List.take_length, List.drop_length, List.append_nil] at SA
        have ew3 : IntKind.wrap .i64 (IntKind.wrap .i64 (last + 1 + 2) - 1) = last + 2 := by rw [wrap64 (n := last + 1 + 2) (by omega) (by omega), wrap64 (by omega) (by omega)]; omega
        rw [ew3]
        refine SA.last' fun σC SC => ?_
        refine hK e0 σC ?_
        have eo : openN L last split m sz kind = M.map (setP split (last + 2)) := by unfold openN openL; rw [if_neg hs0]
        have el : openLast last split = last + 2 := by unfold openLast; rw [if_neg hs0]
        rw [eo, el]
        obtain ⟨aC, eC, rwC, hC, HC⟩ := SC
        refine ⟨aC, eC, rwC, hC, HC.sub ?_⟩
        unfold refL
        refine .cons_cons _ ?_
        simp only [fr9]
        rw [← List.append_assoc]
        exact List.sublist_append_left _ _
    rw [Int.tmod_eq_emod_of_nonneg hm0]
    refine beq_mk (fun g => ?_) (fun g => ⟨fin σ5 ?_⟩)
    · refine put1_mk H5' 0 rfl rfl (by simp) fun σ6 H6 => put1_mk H6 0 rfl rfl (by simp) fun σ7 H7 => ⟨fin σ7 ?_⟩
      have e : winR (openPair split m sz (last + 1) (last + 2)) = [i64 (last + 2), i64 4, i64 0, i64 (last + 1), i64 split, i64 m, u32 sz, i64 (last + 1)] := by
        unfold openPair winR; simp only [if_pos g]
      rw [e]
      exact H7
    · have e : winR (openPair split m sz (last + 1) (last + 2)) = [i64 (last + 2), i64 4, i64 0, i64 split, i64 (last + 1), i64 m, u32 sz, i64 (last + 1)] := by
        unfold openPair winR; simp only [if_neg g]
      rw [e]
      exact H5')
end
end Go.AI
end
section
set_option linter.unusedSimpArgs false
set_option linter.unusedVariables false
set_option maxRecDepth 10000
/- The reference arranges a pair, closes a window, is copied; no condition but those that each names. -/
namespace Go.AI
open Go.Proofs Go.Pane
theorem arrL_set {L : List Win} (hs : Srt L) {i : Nat} {w : Win} (hw : L[i]? = some w) (m sz key : Int) : arrL L w.n m sz key = L.set i { w with m := m, s := sz, key := if key = 0 then w.key else key } := by
  apply List.ext_getElem?
  intro j
  unfold arrL
  rw [List.getElem?_map, List.getElem?_set]
  have hlt := (List.getElem?_eq_some_iff.1 hw).1
  by_cases e : i = j
  · subst e
    rw [if_pos rfl, if_pos hlt, hw]
    simp only [Option.map_some]
    unfold arrW
    rw [if_pos rfl]
  · rw [if_neg e]
    cases hj : L[j]? with
    | none => rfl
    | some v =>
      simp only [Option.map_some]
      have hne : v.n ≠ w.n := by
        have hlj := (List.getElem?_eq_some_iff.1 hj)
        have hli := (List.getElem?_eq_some_iff.1 hw)
        have hp := List.pairwise_iff_getElem.1 hs
        rcases Nat.lt_or_gt_of_ne e with h | h
        · have := hp i j hlt hlj.1 h
          rw [hli.2, hlj.2] at this
          omega
        · have := hp j i hlj.1 hlt h
          rw [hli.2, hlj.2] at this
          omega
      unfold arrW
      rw [if_neg hne]
section
variable {σ : AS} {K : Value → AS → Prop} {fr : List (Nat × AObj)} {x : Nat} {n W H last : Int} {L : List Win} {tr : Option T}
theorem c51 {pair m sz key : Int} (ok : Ok L last tr) (S : RSt x W H last L fr σ)
    (hE : arrE L pair m key ≠ 0 → ∀ σ', RSt x W H last L fr σ' → K (i64 (arrE L pair m key)) σ')
    (hK : arrE L pair m key = 0 → ∀ σ', RSt x W H last (arrL L pair m sz key) fr σ' → K (i64 0) σ') :
    Tri Try.prog 51 [ptr x, i64 pair, i64 m, u32 sz, i64 key] σ K := tri_in (by
  rw [s51]
  have hl : L.length ≤ 1000 := by have := ok.len; omega
  obtain ⟨a0, e0, rw', h, Hh⟩ := S
  have R := rin_of (x := x) (W := W) (H := H) (last := last) (fr := fr) h
  refine c62 Hh R ok.srt hl fun σ1 new1 H1 => ?_
  rw [tI_int]
  refine bne_mk (fun g => ?_) (fun ep => ?_)
  · have e : arrE L pair m key = pairE L pair := by unfold arrE; rw [if_pos g]
    rw [e] at hE
    exact hE g σ1 (RSt.drop h H1)
  refine c63 ?_
  rw [tB_bool]
  refine bnot_mk (fun hv => ?_) (fun hv => ?_)
  · have e : arrE L pair m key = 1 := by unfold arrE; rw [ep, if_neg (by simp), if_pos (.inl hv)]
    rw [e] at hE
    exact hE (by omega) σ1 (RSt.drop h H1)
  have hvm := validB_iff.1 hv
  have hm0 : 0 ≤ m := by unfold validM at hvm; omega
  refine c64 hm0 ?_
  rw [tB_bool]
  refine c29 H1 R.new ok.srt hl fun σ2 new2 H2 => ?_
  simp only [tAgg, tCons, tI_int, tNil]
  have hhas : hasL L pair = true := by
    cases hh : hasL L pair
    · unfold pairE at ep; rw [hh, if_pos rfl] at ep; cases ep
    · rfl
  have hk4 : (ofL L pair).k = 4 := by
    unfold pairE at ep
    rw [hhas, if_neg (by simp)] at ep
    by_cases h4 : (ofL L pair).k = 4
    · exact h4
    · rw [if_neg h4] at ep; cases ep
  obtain ⟨wp, hwpm, hwpn⟩ := hasL_iff.1 hhas
  have hofp : ofL L pair = wp := by rw [← hwpn]; exact ofL_mem ok.srt hwpm
  have hpm : 0 ≤ (ofL L pair).m := by
    rw [hofp] at hk4 ⊢
    rcases ok.wok wp hwpm with h | h
    · have := h.2.1; unfold validM at this; omega
    · omega
  refine c64 hpm ?_
  rw [tB_bool]
  have R2 : RIn x W H last L (new2 ++ (new1 ++ refL x W H a0 e0 last L rw' fr)) := R.new.new
  refine bm_mk (fun g => ?_) (fun g => ?_)
  · have hne : cols m ≠ cols (ofL L pair).m := by
      intro h
      rw [h] at g
      cases hc : cols (ofL L pair).m <;> rw [hc] at g <;> cases g
    have e : arrE L pair m key = 1 := by unfold arrE; rw [ep, if_neg (by simp), if_pos (.inr hne)]
    rw [e] at hE
    exact hE (by omega) σ2 (RSt.drop h (by rw [← List.append_assoc] at H2; exact H2))
  have hcc : cols m = cols (ofL L pair).m := by
    cases h1 : cols m <;> cases h2 : cols (ofL L pair).m <;> rw [h1, h2] at g <;> first | rfl | cases g
  have eA : arrE L pair m key = (if key ≠ 0 ∧ (hasL L key = false ∨ (ofL L key).k = 4 ∨ belF L 100 key pair = false) then 1 else 0) := by
    unfold arrE
    rw [ep, if_neg (by simp), if_neg (by rw [hv, hcc]; simp)]
  -- what is written
  have fin : ∀ σ3 new3, arrE L pair m key = 0 → Has σ3 (new3 ++ refL x W H a0 e0 last L rw' fr) →
      Tri Try.prog 47 [ptr x, i64 pair] σ3 fun v72 σ73 => tI .i64 v72 fun n74 => ldc σ73 ⟨x, 0 + 2, none⟩ fun v75 => tL 8 v75 fun s76 => ldc σ73 ⟨x, 0 + 2, none⟩ fun v77 => tL 8 v77 fun s78 =>
        req (0 ≤ n74) (req (n74 < (s76.n : Int)) (pSome s76.a fun a79 => put1 σ73 (Addr.mk (Addr.block (Addr.add a79 (Int.toNat n74 * szOf Try.prog 58))) (Addr.off (Addr.add a79 (Int.toNat n74 * szOf Try.prog 58)) + 5) none) (i64 m) fun σ80 =>
          req (0 ≤ n74) (req (n74 < (s78.n : Int)) (pSome s78.a fun a81 => put1 σ80 (Addr.mk (Addr.block (Addr.add a81 (Int.toNat n74 * szOf Try.prog 58))) (Addr.off (Addr.add a81 (Int.toNat n74 * szOf Try.prog 58)) + 6) none) (u32 sz) fun σ82 =>
            bmatch (key != 0) (ldc σ82 ⟨x, 0 + 2, none⟩ fun v83 => tL 8 v83 fun s84 => req (0 ≤ n74) (req (n74 < (s84.n : Int)) (pSome s84.a fun a85 => put1 σ82 (Addr.mk (Addr.block (Addr.add a85 (Int.toNat n74 * szOf Try.prog 58))) (Addr.off (Addr.add a85 (Int.toNat n74 * szOf Try.prog 58)) + 7) none) (i64 key) fun σ86 => K (i64 0) σ86))) (K (i64 0) σ82))))) := by
    intro σ3 new3 e0' H3
    refine c47 H3 R.new hl (fun hh => by rw [hhas] at hh; cases hh) (fun i w hw hwn _ => ?_)
    rw [tI_int]
    have hwlt := (List.getElem?_eq_some_iff.1 hw).1
    rcases h with ⟨_, h, _⟩ | ⟨r, rfl, rfl, rfl⟩
    · subst h; simp at hw
    have H3f := H3.sub (List.sublist_append_right new3 _)
    refine ldc_mk H3f 0 rfl rfl (tL_mk ?_)
    refine ldc_mk H3f 0 rfl rfl (tL_mk ?_)
    refine req_mk (by omega) (req_mk (by simp only; omega) ?_)
    rw [pSome_some, add8]
    refine put1_mk H3f 1 rfl rfl (by rw [cellsR_len]; simp only; omega) fun σ4 H4 => ?_
    refine req_mk (by omega) (req_mk (by simp only; omega) ?_)
    rw [pSome_some, add8]
    refine put1_mk H4 1 rfl rfl (by rw [List.length_set, cellsR_len]; simp only; omega) fun σ5 H5 => ?_
    simp only [Nat.zero_add] at H5
    rw [cellsR_set L i 5 w { w with m := m } (i64 m) hw (by omega) rfl] at H5
    have hw5 : (L.set i { w with m := m })[i]? = some { w with m := m } := by rw [List.getElem?_set_self hwlt]
    rw [cellsR_set _ i 6 { w with m := m } { w with m := m, s := sz } (u32 sz) hw5 (by omega) rfl, show (L.set i { w with m := m }).set i { w with m := m, s := sz } = L.set i { w with m := m, s := sz } from List.set_set ..] at H5
    have S5 : RSt x W H last (L.set i { w with m := m, s := sz }) fr σ5 := ⟨some ⟨r, 0, none⟩, 8, [(r, .row .rw (cellsR (L.set i { w with m := m, s := sz })))], .inr ⟨r, rfl, rfl, rfl⟩, by
      unfold refL
      rw [List.length_set]
      exact H5⟩
    have hw6 : (L.set i { w with m := m, s := sz })[i]? = some { w with m := m, s := sz } := by rw [List.getElem?_set_self hwlt]
    have ea : arrL L pair m sz key = L.set i { w with m := m, s := sz, key := if key = 0 then w.key else key } := by rw [← hwn]; exact arrL_set ok.srt hw m sz key
    refine bne_mk (fun gk => ?_) (fun gk => ?_)
    · refine putR 7 { w with m := m, s := sz, key := key } S5 hw6 (by omega) rfl fun σ6 S6 => ?_
      rw [List.set_set] at S6
      refine hK e0' σ6 ?_
      rw [ea, if_neg gk]
      exact S6
    · refine hK e0' σ5 ?_
      rw [ea, if_pos gk]
      exact S5
  refine bne_mk (fun gk => ?_) (fun gk => ?_)
  · refine c47 H2 R2 hl (fun hh => ?_) (fun i w hw hwn hh => ?_)
    · rw [tI_int]
      refine bmd_mk (fun _ => ?_) (fun g => absurd (by decide) g)
      have e : arrE L pair m key = 1 := by rw [eA, if_pos ⟨gk, .inl hh⟩]
      rw [e] at hE
      exact hE (by omega) σ2 (RSt.drop h (by rw [← List.append_assoc] at H2; exact H2))
    rw [tI_int]
    refine bmd_mk (fun g => by omega) (fun _ => ?_)
    refine c29 H2 R2 ok.srt hl fun σ3 new3 H3 => ?_
    simp only [tAgg, tCons, tI_int, tNil]
    have H3' : Has σ3 ((new3 ++ (new2 ++ new1)) ++ refL x W H a0 e0 last L rw' fr) := by simpa using H3
    refine beq_mk (fun g4 => ?_) (fun g4 => ?_)
    · have e : arrE L pair m key = 1 := by rw [eA, if_pos ⟨gk, .inr (.inl g4)⟩]
      rw [e] at hE
      exact hE (by omega) σ3 (RSt.drop h H3')
    refine c25 H3' R.new ok.srt hl fun σ4 new4 H4 => ?_
    have H4' : Has σ4 ((new4 ++ (new3 ++ (new2 ++ new1))) ++ refL x W H a0 e0 last L rw' fr) := by rw [List.append_assoc]; exact H4
    rw [tB_bool]
    refine bnot_mk (fun g5 => ?_) (fun g5 => ?_)
    · have e : arrE L pair m key = 1 := by rw [eA, if_pos ⟨gk, .inr (.inr g5)⟩]
      rw [e] at hE
      exact hE (by omega) σ4 (RSt.drop h H4')
    · have e0' : arrE L pair m key = 0 := by
        rw [eA, if_neg]
        rintro ⟨_, h | h | h⟩
        · rw [hh] at h; cases h
        · exact g4 h
        · rw [g5] at h; cases h
      exact fin σ4 _ e0' H4'
  · have e0' : arrE L pair m key = 0 := by rw [eA, if_neg (fun h => h.1 gk)]
    exact fin σ2 _ e0' (by rw [← List.append_assoc] at H2; exact H2))
/-- A copy. -/
theorem c38 {a : Option Addr} {e : Nat} {rw : List (Nat × AObj)} (h : RRow a e L rw) (Hh : Has σ (refL x W H a e last L rw fr)) (hl : L.length ≤ 1000)
    (hK : ∀ σ' y a' e' rw' b f sw, RRow a' e' L rw' → RRow b f L sw → Has σ' (refL y W H b f last L sw (refL x W H a' e' last L rw' fr)) → K (ptr y) σ') : Tri Try.prog 38 [ptr x] σ K := tri_in (by
  rw [s38]
  refine ldc_mk Hh 0 rfl rfl ?_
  rw [tI_int]
  refine ldc_mk Hh 0 rfl rfl ?_
  rw [tI_int]
  refine ldc_mk Hh 0 rfl rfl (tL_ok (rrow_no h) ?_)
  refine ldc_mk Hh 0 rfl rfl ?_
  rw [tI_int]
  refine newAt_mk Hh fun j σ1 H1 => ?_
  refine ldc_mk H1 1 rfl rfl ?_
  rw [tI_int]
  refine ⟨rfl, ?_⟩
  refine ldc_mk H1 1 rfl rfl (tL_ok (rrow_no h) ?_)
  refine ⟨rfl, ?_⟩
  refine ldc_mk H1 1 rfl rfl ?_
  rw [tI_int]
  refine ⟨rfl, ?_⟩
  refine ldc_mk H1 1 rfl rfl ?_
  rw [tI_int]
  refine ⟨rfl, ?_⟩
  rcases h with ⟨rfl, rfl, rfl⟩ | ⟨r, rfl, rfl, rfl⟩
  · unfold srcCells
    simp only
    unfold appendTo
    simp only
    refine req_mk (by omega) ?_
    refine rowAt_mk H1 0 rfl (chk_mk rfl (req_mk (by first | trivial | rfl) (req_mk (by simp) ?_)))
    have H2 := (Has.del H1 0 rfl)
    have hn : (σ1.del j).n = σ1.n := by
      have := H1.lt 0 rfl
      show Nat.max σ1.n (j + 1) = σ1.n
      exact Nat.max_eq_left this
    have H3 := H2.new (.row .rw [])
    rw [hn] at H3
    have H3' : Has ((σ1.del j).set σ1.n (.row .rw [])) ((σ1.n, .row .rw []) :: (x, refO W H none 0 e last) :: fr) := H3
    simp only [List.drop_zero, List.take_zero, List.append_nil, List.length_nil, Nat.zero_mul, Nat.add_zero]
    refine ldc_mk H3' 1 rfl rfl ?_
    rw [tI_int]
    refine ⟨rfl, ?_⟩
    refine ldc_mk H3' 1 rfl rfl ?_
    rw [tI_int]
    refine ⟨rfl, ?_⟩
    refine ldc_mk H3' 1 rfl rfl ?_
    rw [tI_int]
    refine ⟨rfl, ?_⟩
    refine newAt_mk H3' fun y σ2 H4 => ?_
    refine hK σ2 y none e [] (some ⟨σ1.n, 0, none⟩) 8 [(σ1.n, .row .rw [])] (.inl ⟨rfl, rfl, rfl⟩) (.inr ⟨_, rfl, rfl, rfl⟩) H4
  · unfold srcCells
    simp only
    refine req_mk (by first | trivial | rfl) ?_
    refine lds_mk H1 2 rfl (by rw [cellsR_len]; omega) ?_
    have el : ((cellsR L).drop 0).take (L.length * 8) = cellsR L := by rw [List.drop_zero]; exact List.take_of_length_le (by rw [cellsR_len]; omega)
    rw [el]
    refine append_mk H1 0 rfl rfl (by omega) (by simp) fun j' σ2 H2 => ?_
    have H3 : Has σ2 ((j', .row .rw (cellsR L)) :: (x, refO W H (some ⟨r, 0, none⟩) L.length 8 last) :: (r, .row .rw (cellsR L)) :: fr) := H2
    refine ldc_mk H3 1 rfl rfl ?_
    rw [tI_int]
    refine ⟨rfl, ?_⟩
    refine ldc_mk H3 1 rfl rfl ?_
    rw [tI_int]
    refine ⟨rfl, ?_⟩
    refine ldc_mk H3 1 rfl rfl ?_
    rw [tI_int]
    refine ⟨rfl, ?_⟩
    refine newAt_mk H3 fun y σ3 H4 => ?_
    refine hK σ3 y (some ⟨r, 0, none⟩) 8 [(r, .row .rw (cellsR L))] (some ⟨j', 0, none⟩) 8 [(j', .row .rw (cellsR L))] (.inr ⟨_, rfl, rfl, rfl⟩) (.inr ⟨_, rfl, rfl, rfl⟩) ?_
    have e0 : 0 + L.length = L.length := Nat.zero_add _
    rw [e0] at H4
    exact H4)
end
end Go.AI
end
section
set_option linter.unusedSimpArgs false
set_option linter.unusedVariables false
set_option maxRecDepth 10000
/- The reference closes a window; no condition but those that each names. -/
namespace Go.AI
open Go.Proofs Go.Pane
def SlB (a : Option Addr) (e : Nat) (bs : List Bool) (fr : List (Nat × AObj)) : Prop :=
  (a = none ∧ bs = [] ∧ fr = []) ∨ ∃ j, a = some ⟨j, 0, none⟩ ∧ e = 1 ∧ fr = [(j, .row .rw (bs.map Value.bool))]
theorem SlB.no {a : Option Addr} {e : Nat} {bs : List Bool} {fr : List (Nat × AObj)} (h : SlB a e bs fr) : nilOr a e 1 = true := by
  rcases h with ⟨rfl, _⟩ | ⟨j, rfl, rfl, _⟩
  · unfold nilOr; cases Nat.beq e 1 <;> rfl
  · rfl
theorem sz4 : szOf Try.prog 4 = 1 := by kernel_rfl
section
variable {σ : AS} {K : Value → AS → Prop} {fr X : List (Nat × AObj)} {x : Nat} {n W H last : Int} {L : List Win} {tr : Option T}
theorem pushB {a : Option Addr} {e : Nat} {bs : List Bool} {fr : List (Nat × AObj)} {v : Bool} {G : Sl → AS → Prop} (hs : SlB a e bs fr) (Hh : Has σ (fr ++ X)) (hl : bs.length ≤ 1000000)
    (hG : ∀ a' σ' fr', SlB a' 1 (bs ++ [v]) fr' → Has σ' (fr' ++ X) → G ⟨a', (bs ++ [v]).length⟩ σ') :
    newAt σ (.row .rw [.bool v]) fun i0 σ1 => chk (nilOr a e (szOf Try.prog 4)) (lds σ1 ⟨i0, 0, none⟩ 1 fun l => appendTo σ1 1 1 ⟨a, bs.length⟩ l 1 G) := by
  refine newAt_mk Hh fun i0 σ1 H1 => ?_
  rw [sz4]
  refine chk_mk hs.no (lds_mk H1 0 rfl (by simp) ?_)
  rcases hs with ⟨rfl, rfl, rfl⟩ | ⟨j, rfl, rfl, rfl⟩
  · refine append_nil_mk H1 (by omega) fun j' σ2 H2 => ?_
    exact hG _ σ2 [_] (.inr ⟨j', rfl, rfl, rfl⟩) (H2.sub (.cons_cons _ (.cons _ (.refl _))))
  · refine append_mk H1 1 rfl rfl (by omega) (by simp) fun j' σ2 H2 => ?_
    have e2 : (bs ++ [v]).length = bs.length + 1 := by simp
    have e3 : (bs.map Value.bool).take (bs.length * 1) ++ (List.drop 0 [Value.bool v]).take 1 = (bs ++ [v]).map Value.bool := by
      rw [Nat.mul_one, List.take_of_length_le (by simp)]; simp
    have H3 := H2.sub (L' := (j', .row .rw ((bs ++ [v]).map Value.bool)) :: X) (by
      rw [e3]
      exact .cons_cons _ (.cons _ (.refl _)))
    rw [← e2]
    exact hG _ σ2 [_] (.inr ⟨j', rfl, rfl, rfl⟩) H3
/-- A window more in a row of windows. -/
theorem pushW {a : Option Addr} {e : Nat} {M : List Win} {fr : List (Nat × AObj)} {v : Win} {G : Sl → AS → Prop} (hs : RRow a e M fr) (Hh : Has σ (fr ++ X)) (hl : M.length ≤ 1000000)
    (hG : ∀ a' σ' fr', RRow a' 8 (M ++ [v]) fr' → Has σ' (fr' ++ X) → G ⟨a', (M ++ [v]).length⟩ σ') :
    newAt σ (.row .rw (winR v)) fun i0 σ1 => chk (nilOr a e (szOf Try.prog 58)) (lds σ1 ⟨i0, 0, none⟩ 8 fun l => appendTo σ1 8 64 ⟨a, M.length⟩ l 1 G) := by
  refine newAt_mk Hh fun i0 σ1 H1 => ?_
  rw [sz58]
  refine chk_mk (rrow_no hs) (lds_mk H1 0 rfl (by simp) ?_)
  rcases hs with ⟨rfl, rfl, rfl⟩ | ⟨j, rfl, rfl, rfl⟩
  · refine append_nil_mk H1 (by omega) fun j' σ2 H2 => ?_
    exact hG _ σ2 [_] (.inr ⟨j', rfl, rfl, rfl⟩) (H2.sub (.cons_cons _ (.cons _ (.refl _))))
  · refine append_mk H1 1 rfl rfl (by omega) (by rw [cellsR_len]; omega) fun j' σ2 H2 => ?_
    have e2 : (M ++ [v]).length = M.length + 1 := by simp
    have e3 : (cellsR M).take (M.length * 8) ++ (List.drop 0 (winR v)).take 8 = cellsR (M ++ [v]) := by
      rw [List.take_of_length_le (by rw [cellsR_len]; omega), cellsR_app]; rfl
    have H3 := H2.sub (L' := (j', .row .rw (cellsR (M ++ [v]))) :: X) (by
      rw [e3]
      exact .cons_cons _ (.cons _ (.refl _)))
    rw [← e2]
    exact hG _ σ2 [_] (.inr ⟨j', rfl, rfl, rfl⟩) H3
abbrev l50 : List Bool := [true, true, true, true, true, false, true, false]
abbrev k50 : List Bool := [true, true, true, true, true, true, true, true, false, true, false]
abbrev m50 : List Bool := [true, true, true, true, true, true, true, true, true, true, false, true, false]
/-- Keys that are gone are none any more. -/
theorem c50m {gs : List Int} {a : Option Addr} {e : Nat} (S : RSt x W H last L fr σ) (hl : L.length ≤ 1000) (h0 : hasL L 0 = false) (hK : ∀ σ', RSt x W H last (L.map (clrW L)) fr σ' → K (.tuple ⟨[.slice a gs.length e, i64 0]⟩) σ') :
    ALoop (fl Try.prog hintsS (Tri Try.prog) 50 m50 [] K) [(0, some (ptr x)), (7, some (.slice a gs.length e)), (13, some (i64 0))] σ := by
  have hS0 : RSt x W H last ((L.take 0).map (clrW L) ++ L.drop 0) fr σ := S
  refine aloop (fun (i : Nat) rg σ' => i ≤ L.length ∧ RSt x W H last ((L.take i).map (clrW L) ++ L.drop i) fr σ' ∧ rg = [(0, some (ptr x)), (7, some (.slice a gs.length e)), (13, some (i64 i))]) (fun i => L.length - i) ?_ (a := 0) ⟨Nat.zero_le _, hS0, rfl⟩
  rintro i rg σ1 Y hY ⟨hi, S1, rfl⟩
  rw [s50m]
  have hlen : ((L.take i).map (clrW L) ++ L.drop i).length = L.length := by simp; omega
  refine lenS S1 fun a' => bmd_mk (fun g => ?_) (fun g => ?_)
  · simp only [hlen] at g
    obtain ⟨w, hw⟩ : ∃ w, L[i]? = some w := ⟨L[i]'(by omega), by simp⟩
    have hlt := (List.getElem?_eq_some_iff.1 hw).1
    have hd : L.drop i = w :: L.drop (i + 1) := by rw [List.drop_eq_getElem_cons hlt, (List.getElem?_eq_some_iff.1 hw).2]
    have hidx : i - ((L.take i).map (clrW L)).length = 0 := by simp; omega
    have hat : ((L.take i).map (clrW L) ++ L.drop i)[i]? = some w := by
      rw [List.getElem?_append_right (by simp; omega), hidx, hd]; rfl
    have e1 : IntKind.wrap .i64 ((i : Int) + 1) = ((i + 1 : Nat) : Int) := by rw [wrap64 (by omega) (by omega)]; omega
    have hfin : (L.take i).map (clrW L) ++ clrW L w :: L.drop (i + 1) = (L.take (i + 1)).map (clrW L) ++ L.drop (i + 1) := by
      rw [List.take_add_one, hw]; simp
    refine rdS 7 S1 hat (by omega) rfl ?_
    rw [tI_int]
    have hh : ∀ n, hasL ((L.take i).map (clrW L) ++ L.drop i) n = hasL L n := by
      intro n
      have : hasL L n = (hasL (L.take i) n || hasL (L.drop i) n) := by
        unfold hasL
        rw [← List.any_append, List.take_append_drop]
      rw [this, ← hasL_map (L := L.take i) (clrW_n L) n]
      unfold hasL
      rw [List.any_append]
    obtain ⟨ax, ex, rwx, hx, Hx⟩ := S1
    refine c47 Hx (rin_of hx) (by rw [hlen]; exact hl) (fun h => ?_) (fun i' w' hw' hwn' h => ?_)
    · rw [hh] at h
      rw [tI_int]
      refine bmd_mk (fun _ => ?_) (fun g => absurd (by decide) g)
      refine putR 7 { w with key := 0 } ⟨ax, ex, rwx, hx, Hx⟩ hat (by omega) rfl fun σ2 S2 => ?_
      rw [List.set_append_right _ _ (by simp; omega), hidx, hd, List.set_cons_zero] at S2
      have es : clrW L w = { w with key := 0 } := by unfold clrW; rw [if_neg (by rw [h]; simp)]
      rw [← es, hfin] at S2
      rw [e1]
      exact hY (i + 1) _ _ (by omega) ⟨by omega, S2, rfl⟩
    · rw [hh] at h
      rw [tI_int]
      refine bmd_mk (fun g => by omega) (fun _ => ?_)
      have es : clrW L w = w := by unfold clrW; rw [if_pos h]
      rw [e1]
      refine hY (i + 1) _ _ (by omega) ⟨by omega, ⟨ax, ex, rwx, ?_⟩, rfl⟩
      rw [← hfin, es, ← hd]
      exact ⟨hx, Hx⟩
  · simp only [hlen] at g
    have e : i = L.length := by omega
    rw [e, List.take_length, List.drop_length, List.append_nil] at S1
    exact hK σ1 S1
/-- Those that stay. -/
theorem c50k {gs : List Int} {a b : Option Addr} {e f : Nat} {q : Win → Bool} {frb : List (Nat × AObj)} (hb : SlB b f (L.map q) frb) (S : RSt x W H last L (frb ++ fr) σ) (hl : L.length ≤ 1000) (h0 : hasL L 0 = false)
    (hK : ∀ σ', RSt x W H last ((L.filter fun w => !q w).map (clrW (L.filter fun w => !q w))) fr σ' → K (.tuple ⟨[.slice a gs.length e, i64 0]⟩) σ') :
    ALoop (fl Try.prog hintsS (Tri Try.prog) 50 k50 [] K) [(0, some (ptr x)), (7, some (.slice a gs.length e)), (8, some (.slice b (L.map q).length f)), (11, some (.slice none 0 0)), (12, some (i64 0))] σ := by
  obtain ⟨a0, e0, rw', h, Hh⟩ := S
  refine aloop (fun (i : Nat) rg σ' => i ≤ L.length ∧ ∃ c g rwc, RRow c g ((L.take i).filter fun w => !q w) rwc ∧ Has σ' (rwc ++ refL x W H a0 e0 last L rw' (frb ++ fr)) ∧
    rg = [(0, some (ptr x)), (7, some (.slice a gs.length e)), (8, some (.slice b (L.map q).length f)), (11, some (.slice c ((L.take i).filter fun w => !q w).length g)), (12, some (i64 i))]) (fun i => L.length - i) ?_ (a := 0) ⟨Nat.zero_le _, none, 0, [], .inl ⟨rfl, rfl, rfl⟩, Hh, rfl⟩
  rintro i rg σ1 Y hY ⟨hi, c, g', rwc, hc, H1, rfl⟩
  rw [s50k]
  have R : RIn x W H last L (rwc ++ refL x W H a0 e0 last L rw' (frb ++ fr)) := (rin_of h).new
  refine lenR H1 R fun a' _ => bmd_mk (fun g => ?_) (fun g => ?_)
  · simp only at g
    obtain ⟨w, hw⟩ : ∃ w, L[i]? = some w := ⟨L[i]'(by omega), by simp⟩
    have e1 : IntKind.wrap .i64 ((i : Int) + 1) = ((i + 1 : Nat) : Int) := by rw [wrap64 (by omega) (by omega)]; omega
    have hfl : ((L.take i).filter fun w => !q w).length ≤ 1000 := Nat.le_trans (List.length_filter_le _ _) (by simp; omega)
    refine req_mk (by omega) (req_mk (by simp; omega) ?_)
    rcases hb with ⟨_, hb2, _⟩ | ⟨jb, rfl, rfl, rfl⟩
    · have : L = [] := by simpa using hb2
      subst this
      simp at g
      omega
    rw [pSome_some, sz4]
    refine req_mk rfl ?_
    rw [add_none, Int.toNat_natCast, Nat.mul_one, Nat.zero_add]
    refine ldm H1 (show (jb, AObj.row .rw ((L.map q).map Value.bool)) ∈ _ by simp) (v := .bool (q w)) (by simp [hw]) ?_
    rw [tB_bool]
    have htk : L.take (i + 1) = L.take i ++ [w] := by rw [List.take_add_one, hw]; rfl
    refine bnot_mk (fun hq => ?_) (fun hq => ?_)
    · refine elR H1 R hw fun r k hr => ?_
      rw [sz58, add_none, Nat.zero_add]
      refine ldsm H1 hr (by rw [cellsR_len]; omega) ?_
      rw [cellsR_take hw]
      simp only [winR, tCons, tI_int, tNil]
      have hf : (L.take (i + 1)).filter (fun w => !q w) = (L.take i).filter (fun w => !q w) ++ [w] := by
        rw [htk, List.filter_append]
        simp [hq]
      refine pushW (v := w) hc H1 (by omega) fun c' σ2 rwc' hc' H2 => ?_
      rw [← hf] at hc' ⊢
      rw [e1]
      exact hY (i + 1) _ _ (by omega) ⟨by omega, c', 8, rwc', hc', H2, rfl⟩
    · have hf : (L.take (i + 1)).filter (fun w => !q w) = (L.take i).filter (fun w => !q w) := by
        rw [htk, List.filter_append]
        simp [hq]
      rw [e1]
      refine hY (i + 1) _ _ (by omega) ⟨by omega, c, g', rwc, by rw [hf]; exact hc, H1, by rw [hf]⟩
  · simp only at g
    have ei : i = L.length := by omega
    subst ei
    rw [List.take_length] at hc ⊢
    have H1' : Has σ1 ((x, refO W H a0 L.length e0 last) :: (rwc ++ fr)) := by
      have H2 : Has σ1 ((x, refO W H a0 L.length e0 last) :: (rwc ++ (rw' ++ (frb ++ fr)))) := H1.perm List.perm_middle.symm
      refine H2.sub (.cons_cons _ (.append (.refl _) ?_))
      rw [← List.append_assoc]
      exact List.sublist_append_right _ _
    refine put1_mk H1' 0 rfl rfl (by simp) fun σ2 H2 => ?_
    have S2 : RSt x W H last (L.filter fun w => !q w) fr σ2 := ⟨c, g', rwc, hc, H2⟩
    have hf0 : hasL (L.filter fun w => !q w) 0 = false := by
      rw [hasL_false] at h0 ⊢
      intro w hw
      exact h0 w (List.mem_filter.1 hw).1
    exact c50m S2 (Nat.le_trans (List.length_filter_le _ _) hl) hf0 hK
/-- A window closed. -/
theorem c50 (ok : Ok L last tr) (S : RSt x W H last L fr σ) (hE : hasL L n = false → K (.tuple ⟨[.slice none 0 0, i64 5]⟩) σ)
    (hK : hasL L n = true → ∀ σ' a e frg, SlR a e ((goneL L n).map (·.n)) frg → RSt x W H last (closeL L n) (frg ++ fr) σ' → K (.tuple ⟨[.slice a ((goneL L n).map (·.n)).length e, i64 0]⟩) σ') :
    Tri Try.prog 50 [ptr x, i64 n] σ K := tri_in (by
  rw [s50]
  have hl : L.length ≤ 1000 := by have := ok.len; omega
  obtain ⟨a0, e0, rw', h, Hh⟩ := S
  have R0 := rin_of (x := x) (W := W) (H := H) (last := last) (fr := fr) h
  refine c47 Hh R0 hl (fun hh => ?_) (fun i w hw hwn hh => ?_)
  · rw [tI_int]
    refine bmd_mk (fun _ => hE hh) (fun g => absurd (by decide) g)
  rw [tI_int]
  refine bmd_mk (fun g => by omega) (fun _ => ?_)
  refine c29 Hh R0 ok.srt hl fun σ1 new1 H1 => ?_
  simp only [tAgg, tCons, tI_int, tNil]
  have H1' := H1.sub (List.sublist_append_right new1 _)
  refine aloop (fun (i : Nat) rg σ' => i ≤ L.length ∧ ∃ a e b f frg frb, SlR a e (((L.take i).filter (outW L n)).map (·.n)) frg ∧ SlB b f ((L.take i).map (outW L n)) frb ∧ Has σ' (frg ++ (frb ++ refL x W H a0 e0 last L rw' fr)) ∧
    rg = [(0, some (ptr x)), (1, some (i64 n)), (6, some (i64 (ofL L n).p)), (7, some (.slice a (((L.take i).filter (outW L n)).map (·.n)).length e)), (8, some (.slice b ((L.take i).map (outW L n)).length f)), (9, some (i64 i))]) (fun i => L.length - i) ?_ (a := 0)
    ⟨Nat.zero_le _, none, 0, none, 0, [], [], .inl ⟨rfl, rfl, rfl⟩, .inl ⟨rfl, rfl, rfl⟩, H1', rfl⟩
  rintro i rg σ2 Y hY ⟨hi, a, e, b, f, frg, frb, hg, hbs, H2, rfl⟩
  rw [s50l]
  have R2 : RIn x W H last L (frg ++ (frb ++ refL x W H a0 e0 last L rw' fr)) := R0.new.new
  refine lenR H2 R2 fun a' _ => bmd_mk (fun g => ?_) (fun g => ?_)
  · simp only at g
    obtain ⟨w, hw⟩ : ∃ w, L[i]? = some w := ⟨L[i]'(by omega), by simp⟩
    have hwL : w ∈ L := List.mem_of_getElem? hw
    have e1 : IntKind.wrap .i64 ((i : Int) + 1) = ((i + 1 : Nat) : Int) := by rw [wrap64 (by omega) (by omega)]; omega
    have htk : L.take (i + 1) = L.take i ++ [w] := by rw [List.take_add_one, hw]; rfl
    have hmap : (L.take (i + 1)).map (outW L n) = (L.take i).map (outW L n) ++ [outW L n w] := by rw [htk]; simp
    have hfT : outW L n w = true → ((L.take (i + 1)).filter (outW L n)).map (·.n) = ((L.take i).filter (outW L n)).map (·.n) ++ [w.n] := by
      intro ho; rw [htk, List.filter_append]; simp [ho]
    have hfF : outW L n w = false → ((L.take (i + 1)).filter (outW L n)).map (·.n) = ((L.take i).filter (outW L n)).map (·.n) := by
      intro ho; rw [htk, List.filter_append]; simp [ho]
    have bl1 : ((L.take i).map (outW L n)).length ≤ 1000 := by simp; omega
    have bl2 : (((L.take i).filter (outW L n)).map (·.n)).length ≤ 1000 := by rw [List.length_map]; exact Nat.le_trans (List.length_filter_le _ _) (by simp; omega)
    refine elR H2 R2 hw fun r k hr => ?_
    rw [add8, add80]
    refine flR H2 hr hw (by omega) rfl ?_
    rw [tI_int]
    refine c25 H2 R2 ok.srt hl fun σ3 new3 H3 => ?_
    rw [tB_bool]
    -- the flag, then the number
    have H3b : Has σ3 (frb ++ (frg ++ refL x W H a0 e0 last L rw' fr)) := by
      refine (H3.sub (List.sublist_append_right new3 _)).perm ?_
      rw [← List.append_assoc, ← List.append_assoc]
      exact List.perm_append_comm.append_right _
    have step2 : ∀ {σ4 : AS} {b' : Option Addr} {frb' : List (Nat × AObj)}, outW L n w = true → SlB b' 1 ((L.take (i + 1)).map (outW L n)) frb' → Has σ4 (frb' ++ (frg ++ refL x W H a0 e0 last L rw' fr)) →
        ldc σ4 ⟨x, 0 + 2, none⟩ fun v15 => tL 8 v15 fun s16 => req (0 ≤ (i : Int)) (req ((i : Int) < (s16.n : Int)) (pSome s16.a fun a17 => ldc σ4 (Addr.add (Addr.add a17 (Int.toNat (i : Int) * szOf Try.prog 58)) 0) fun v18 => tI .i64 v18 fun n19 => newAt σ4 (.row .rw [i64 n19]) fun i20 σ21 =>
          chk (nilOr a e (szOf Try.prog 3)) (lds σ21 ⟨i20, 0, none⟩ 1 fun l22 => appendTo σ21 1 8 ⟨a, (((L.take i).filter (outW L n)).map (·.n)).length⟩ l22 1 fun s23 σ24 =>
            Y [(0, some (ptr x)), (1, some (i64 n)), (6, some (i64 (ofL L n).p)), (7, some (.slice s23.a s23.n 1)), (8, some (.slice b' ((L.take (i + 1)).map (outW L n)).length 1)), (9, some (i64 (IntKind.wrap .i64 ((i : Int) + 1))))] σ24))) := by
      intro σ4 b' frb' ho hb' H4
      have R4 : RIn x W H last L (frb' ++ (frg ++ refL x W H a0 e0 last L rw' fr)) := R0.new.new
      refine elR H4 R4 hw fun r k hr => ?_
      rw [add8, add80]
      refine flR H4 hr hw (by omega) rfl ?_
      rw [tI_int]
      have H4b : Has σ4 (frg ++ (frb' ++ refL x W H a0 e0 last L rw' fr)) := by
        refine H4.perm ?_
        rw [← List.append_assoc, ← List.append_assoc]
        exact List.perm_append_comm.append_right _
      refine pushI hg H4b (by omega) fun a5 σ5 fr5 hs5 H5 => ?_
      rw [← hfT ho] at hs5 ⊢
      rw [e1]
      exact hY (i + 1) _ _ (by omega) ⟨by omega, a5, 1, b', 1, fr5, frb', hs5, hb', H5, rfl⟩
    cases hbel : belF L 100 w.n n with
    | true =>
      have ho : outW L n w = true := by unfold outW; rw [hbel]; rfl
      rw [bm_true]
      refine pushB (v := true) hbs H3b (by omega) fun b4 σ4 fr4 hs4 H4 => ?_
      rw [← ho, ← hmap] at hs4
      have el : ((L.take i).map (outW L n) ++ [true]).length = ((L.take (i + 1)).map (outW L n)).length := by rw [hmap]; simp
      rw [el]
      exact step2 ho hs4 H4
    | false =>
      have ho : outW L n w = (w.n == (ofL L n).p) := by unfold outW; rw [hbel]; rfl
      rw [bm_false]
      have R3 : RIn x W H last L (frb ++ (frg ++ refL x W H a0 e0 last L rw' fr)) := R0.new.new
      refine elR H3 R2.new hw fun r k hr => ?_
      rw [add8, add80]
      refine flR H3 hr hw (by omega) rfl ?_
      rw [tI_int]
      refine pushB (v := (w.n == (ofL L n).p)) hbs H3b (by omega) fun b4 σ4 fr4 hs4 H4 => ?_
      rw [← ho, ← hmap] at hs4
      have el : ((L.take i).map (outW L n) ++ [w.n == (ofL L n).p]).length = ((L.take (i + 1)).map (outW L n)).length := by rw [hmap]; simp
      rw [el]
      refine bm_mk (fun g1 => step2 (ho.trans g1) hs4 H4) (fun g1 => ?_)
      have hF := hfF (ho.trans g1)
      have H4b : Has σ4 (frg ++ (fr4 ++ refL x W H a0 e0 last L rw' fr)) := by
        refine H4.perm ?_
        rw [← List.append_assoc, ← List.append_assoc]
        exact List.perm_append_comm.append_right _
      rw [e1]
      exact hY (i + 1) _ _ (by omega) ⟨by omega, a, e, b4, 1, frg, fr4, by rw [hF]; exact hg, hs4, H4b, by rw [hF]⟩
  · simp only at g
    have ei : i = L.length := by omega
    subst ei
    rw [List.take_length] at hg hbs ⊢
    have hgone : L.filter (outW L n) = goneL L n := rfl
    rw [hgone] at hg ⊢
    have h0 := ok.has0
    -- behind the join
    have tail : ∀ {σ3 : AS} {L' : List Win}, L'.map (outW L n) = L.map (outW L n) → (L'.filter fun w => !outW L n w) = closeK L n → L'.length ≤ 1000 → hasL L' 0 = false → RSt x W H last L' (frb ++ (frg ++ fr)) σ3 →
        jn Try.prog hintsS (Tri Try.prog) 50 r6 [] K [(0, some (ptr x)), (7, some (.slice a ((goneL L n).map (·.n)).length e)), (8, some (.slice b (L.map (outW L n)).length f))] σ3 := by
      intro σ3 L' hm hf hl' h0' S3
      rw [s50j, ← hm]
      refine c50k (q := outW L n) (by rw [hm]; exact hbs) S3 hl' h0' fun σ4 S4 => ?_
      rw [hf] at S4
      exact hK hh σ4 a e frg hg S4
    have pp : (frg ++ (frb ++ refL x W H a0 e0 last L rw' fr)).Perm (refL x W H a0 e0 last L rw' (frb ++ (frg ++ fr))) := by
      unfold refL
      have q1 : (frg ++ (frb ++ (x, refO W H a0 L.length e0 last) :: (rw' ++ fr))).Perm ((x, refO W H a0 L.length e0 last) :: (frg ++ (frb ++ (rw' ++ fr)))) := by
        rw [← List.append_assoc, ← List.append_assoc]
        exact List.perm_middle
      refine q1.trans (.cons _ ?_)
      have sw : ∀ (A B Z : List (Nat × AObj)), (A ++ (B ++ Z)).Perm (B ++ (A ++ Z)) := by
        intro A B Z
        rw [← List.append_assoc, ← List.append_assoc]; exact List.perm_append_comm.append_right _
      have q2 : ∀ (A B C D : List (Nat × AObj)), (A ++ (B ++ (C ++ D))).Perm (C ++ (B ++ (A ++ D))) := fun A B C D =>
        (sw A B (C ++ D)).trans ((List.Perm.append_left B (sw A C D)).trans (sw B C (A ++ D)))
      exact q2 _ _ _ _
    refine bne_mk (fun gp => ?_) (fun gp => ⟨?_⟩)
    · have H2r : Has σ2 (refL x W H a0 e0 last L rw' (frb ++ (frg ++ fr))) := H2.perm pp.symm
      refine c29 H2r (rin_of h) ok.srt hl fun σ3 new3 H3 => ?_
      simp only [tAgg, tCons, tI_int, tNil]
      refine c61 H3 (rin_of h).new ok.srt hl fun σ4 new4 H4 => ?_
      rw [tI_int]
      have S4 : RSt x W H last L (frb ++ (frg ++ fr)) σ4 := RSt.drop (new := new4 ++ new3) h (by rw [List.append_assoc]; exact H4)
      refine c60 S4 hl fun σ5 S5 => ⟨?_⟩
      refine tail ?_ ?_ (by simp; omega) ?_ S5
      · rw [List.map_map]
        refine List.map_congr_left fun w _ => ?_
        simp only [Function.comp, turn_out]
      · unfold closeK
        rw [if_neg gp]
      · rw [hasL_map (turnW_n _ _ _)]; exact h0
    · have S2 : RSt x W H last L (frb ++ (frg ++ fr)) σ2 := ⟨a0, e0, rw', h, H2.perm pp.symm⟩
      refine tail rfl ?_ hl h0 S2
      unfold closeK
      rw [if_pos gp])
end
end Go.AI
end
