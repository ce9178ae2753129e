/- Lemmas of the abstract condition ahead of code (a part of the library that the claim's proof stands on); they hold with no condition but those that each names. -/
import Derived.Test.YtcjicaolgjialaaPaView
set_option linter.unusedSimpArgs false
set_option linter.unusedVariables false
set_option maxRecDepth 10000
/- PaneFamily: pairs, parents, siblings, the root; no condition but those that each names. -/
namespace Go.Pane
variable {L : List Win} {last : Int} {tr : Option T}
theorem Ok.at_root (ok : Ok L last tr) {s : T} (a : At tr [] s) : rootL L = s.num := by
  rw [ok.root]
  unfold At at a
  rw [a]
  rfl
theorem Ok.par (ok : Ok L last tr) {fs : List Fr} {s : T} (a : At tr fs s) : (ofL L s.num).p = top fs := by rw [ok.of_at a, T.win_p]
theorem Ok.par_win (ok : Ok L last tr) {f : Fr} {fs : List Fr} {s : T} (a : At tr (f :: fs) s) : ofL L f.n = f.win s.num (top fs) := by
  have := ok.of_at a.up
  rwa [Fr.fill_num, Fr.fill_win] at this
theorem Ok.sib_back (ok : Ok L last tr) {f : Fr} {fs : List Fr} {s : T} (a : At tr (f :: fs) s) : sibL L (sibL L s.num) = s.num := by
  rw [ok.sib a]
  exact ok.sib a.sib
theorem Ok.depthL (ok : Ok L last tr) {fs : List Fr} {s : T} (a : At tr fs s) : fs.length < L.length := by
  have h1 := (ok.perm.trans a.perm).length_eq
  have h2 := winsC_len fs s.num
  have h3 : 0 < (s.wins (top fs)).length := List.length_pos_of_mem (s.win_mem _)
  rw [List.length_append] at h1
  omega
theorem Fr.kids (f : Fr) (x p : Int) : ((f.win x p).a = x ∧ (f.win x p).b = f.o.num) ∨ ((f.win x p).a = f.o.num ∧ (f.win x p).b = x) := by
  unfold Fr.win
  cases f.side
  · exact .inr ⟨rfl, rfl⟩
  · exact .inl ⟨rfl, rfl⟩
end Go.Pane
namespace Go.AI
open Go.Proofs Go.Pane
section
variable {σ : AS} {K : Value → AS → Prop} {X fr : List (Nat × AObj)} {t m x c : Nat} {n W H root last b : Int} {L : List Win} {tr : Option T} {ws : List PW} {l : List ActM} {a : Option Addr}
/-- A window's way up. -/
theorem fam_up (V : Vw t m x W H last L tr X) (h : HX σ X) {k i pairs : Int} {e N : Nat} {Y : Regs → AS → Prop} (hN : N = L.length) (hk : ∃ fs s, Pane.At tr fs s ∧ s.num = k)
    (hK : ∀ σ', HX σ' X → Y [(9, some (ptr t)), (11, some (.slice a N e)), (12, some (i64 pairs)), (13, some (i64 (IntKind.wrap .i64 (i + 1))))] σ') :
    ALoop (fl Try.prog hintsS (Tri Try.prog) 5 [true, true, true, true, true, true, true, false, true, false, false, true, false, false, true, true, true, true, true, true, false, true, false] [Y] K) [(9, some (ptr t)), (11, some (.slice a N e)), (12, some (i64 pairs)), (13, some (i64 i)), (19, some (i64 k)), (20, some (i64 0))] σ := by
  obtain ⟨fs0, s0, a0, rfl⟩ := hk
  subst hN
  have len := V.ok.len
  refine aloop (fun (p : List Fr × T × Nat) rg σ' => Pane.At tr p.1 p.2.1 ∧ HX σ' X ∧ p.2.2 + p.1.length < L.length ∧ rg = [(9, some (ptr t)), (11, some (.slice a L.length e)), (12, some (i64 pairs)), (13, some (i64 i)), (19, some (i64 p.2.1.num)), (20, some (i64 p.2.2))]) (fun p => p.1.length) ?_ (a := (fs0, s0, 0)) ⟨a0, h, by have := V.ok.depthL a0; simp only; omega, rfl⟩
  rintro ⟨fs, s, q⟩ rg σ1 Z hZ ⟨at1, h1, hq, rfl⟩
  simp only at at1 hq
  rw [s5u]
  refine bmd_mk (fun _ => ?_) (fun g => absurd (show (q : Int) < (L.length : Int) by omega) g)
  refine v24 V h1 fun σ2 h2 => ?_
  rw [tI_int, V.ok.par at1]
  refine bne_mk (fun g => ?_) (fun g => ?_)
  · cases fs with
    | nil => exact absurd rfl g
    | cons f fs =>
      refine v24 V h2 fun σ3 h3 => ?_
      rw [tI_int, V.ok.par at1]
      have e1 : IntKind.wrap .i64 ((q : Int) + 1) = ((q + 1 : Nat) : Int) := by rw [wrap64 (by omega) (by omega)]; omega
      rw [e1]
      have at2 := at1.up
      refine hZ (fs, f.fill s, q + 1) _ _ (by simp) ⟨at2, h3, ?_, ?_⟩
      · simp only [List.length_cons] at hq; simp only; omega
      · simp only [Fr.fill_num]; rfl
  · have hfs : fs = [] := (V.ok.top_ne at1).1 g
    subst hfs
    refine v27 V h2 ?_
    rw [tI_int, V.ok.at_root at1]
    simp only [bne_self_eq_false, bm_false]
    exact hK σ2 h2
theorem family_law {p q : Int} (hp : 0 ≤ p ∧ p ≤ 255) (hq : 0 ≤ q ∧ q ≤ 255) (Hh : Has σ X) (ha : RdA a l X) (ho : ∀ q ∈ l, ActOk q.b q.c q.z) (hK : ∀ σ', K (.bool true) σ') : Tri Try.prog 5 [.int .u8 p, .int .u8 q, .slice a l.length 6] σ K := tri_in (by
  rw [s5]
  refine bmd_mk (fun _ => c13' hK) (fun hl => ?_)
  refine c14 hp hq fun w h hw hh => ?_
  simp only [tTup_tup, pSome_some, List.getElem?_cons_zero, List.getElem?_cons_succ, tI_int]
  refine c15 (by omega) (by omega) Hh ha (by omega) ho fun σ1 t m x W H last L tr J _ => ?_
  simp only [tTup_tup, pSome_some, List.getElem?_cons_zero, List.getElem?_cons_succ, tP_ptr]
  rw [ptrEq_some, bm_false]
  refine c16J J fun σ2 b fr' hs J2 => ?_
  refine tL_ok hs.no ?_
  obtain ⟨Z, V, h2, hZ⟩ := J2.view
  have hr : RdI b 1 (L.map (·.n)) Z := hs.rd fun p hp => hZ p (List.mem_append_left _ hp)
  have len := V.ok.len
  have hlm : (L.map (·.n)).length = L.length := List.length_map ..
  simp only
  refine aloop (fun (i : Nat) rg σ' => i ≤ L.length ∧ HX σ' Z ∧ rg = [(9, some (ptr t)), (11, some (.slice b (L.map (·.n)).length 1)), (12, some (i64 ((L.take i).countP fun w => w.k == 4))), (13, some (i64 i))]) (fun i => L.length - i) ?_ (a := 0) ⟨Nat.zero_le _, h2, rfl⟩
  rintro i rg σ3 Y hY ⟨hi, h3, rfl⟩
  rw [s5l]
  refine bmd_mk (fun g => ?_) (fun g => ?_)
  · rw [hlm] at g
    obtain ⟨v, hv⟩ : ∃ v, L[i]? = some v := ⟨L[i]'(by omega), by simp⟩
    refine vrd h3 hr (v := v.n) (by rw [List.getElem?_map, hv]; rfl) rfl ?_
    rw [tI_int]
    refine v18 V h3 fun σ4 h4 => ?_
    have hvm := List.mem_of_getElem? hv
    rw [tI_int, ofL_mem V.ok.srt hvm]
    have e2 : (L.take (i + 1)).countP (fun w => w.k == 4) = (L.take i).countP (fun w => w.k == 4) + (if v.k == 4 then 1 else 0) := by
      rw [List.take_add_one, hv, List.countP_append]
      simp [List.countP_cons]
    have hc : (L.take i).countP (fun w => w.k == 4) ≤ 64 := by
      have h1 := List.countP_le_length (p := fun w : Win => w.k == 4) (l := L.take i)
      rw [List.length_take] at h1
      omega
    have e1 : IntKind.wrap .i64 ((i : Int) + 1) = ((i + 1 : Nat) : Int) := by rw [wrap64 (by omega) (by omega)]; omega
    obtain ⟨fs, s, a0, hsn⟩ := V.ok.at_has (n := v.n) (hasL_iff.2 ⟨v, hvm, rfl⟩)
    have go : ∀ P : Nat, P = (L.take (i + 1)).countP (fun w => w.k == 4) → JoinS (jn Try.prog hintsS (Tri Try.prog) 5 [true, true, true, true, true, true, true, false, true, false, false, true, false, false, true] [Y] K) [(9, some (ptr t)), (11, some (.slice b (L.map (·.n)).length 1)), (12, some (i64 P)), (13, some (i64 i)), (14, some (i64 v.n))] σ4 := by
      intro P hP
      refine ⟨?_⟩
      rw [s5j]
      have fin : ∀ σ', HX σ' Z → ALoop (fl Try.prog hintsS (Tri Try.prog) 5 [true, true, true, true, true, true, true, false, true, false, false, true, false, false, true, true, true, true, true, true, false, true, false] [Y] K) [(9, some (ptr t)), (11, some (.slice b (L.map (·.n)).length 1)), (12, some (i64 P)), (13, some (i64 i)), (19, some (i64 v.n)), (20, some (i64 0))] σ' := by
        intro σ' h'
        refine fam_up V h' hlm ⟨fs, s, a0, hsn⟩ fun σ5 h5 => ?_
        rw [e1]
        exact hY (i + 1) _ _ (by omega) ⟨by omega, h5, by rw [hP]⟩
      rw [← hsn] at fin ⊢
      refine v24 V h4 fun σ5 h5 => ?_
      rw [tI_int]
      refine v26 V h5 fun σ6 h6 => ?_
      rw [tI_int]
      refine v20 V h6 fun σ7 h7 => ?_
      simp only [tTup_tup, pSome_some, List.getElem?_cons_zero, List.getElem?_cons_succ, tI_int]
      rw [V.ok.par a0]
      cases fs with
      | nil =>
        have hs0 : sibL L s.num = 0 := sib_zero V.ok.has0 (V.ok.par a0)
        rw [hs0]
        refine beq_mk (fun _ => ?_) (fun g => absurd rfl g)
        refine bne_mk (fun g => absurd rfl g) (fun _ => ?_)
        refine v27 V h7 ?_
        rw [tI_int, V.ok.at_root a0, bne_self_eq_false, bm_false]
        refine bne_mk (fun g => absurd rfl g) (fun _ => ?_)
        exact fin σ7 h7
      | cons f fs =>
        have hf : f.n ≠ 0 := fun g => by
          have h0 := (V.ok.top_ne a0).1 g
          cases h0
        simp only [top]
        rw [V.ok.par_win a0]
        refine beq_mk (fun g => absurd g hf) (fun _ => ?_)
        refine bne_mk (fun _ => ?_) (fun g => absurd g hf)
        refine beq_mk (fun g => absurd ((V.ok.sib a0).symm.trans g) (V.ok.side_ne a0)) (fun _ => ?_)
        refine v26 V h7 fun σ8 h8 => ?_
        rw [tI_int, V.ok.sib_back a0, bne_self_eq_false, bm_false]
        rcases f.kids s.num (top fs) with ⟨k1, k2⟩ | ⟨k1, k2⟩
        · rw [k1, k2, bne_self_eq_false, bm_false]
          refine beq_mk (fun g => absurd g.symm (V.ok.side_ne a0)) (fun _ => ?_)
          exact fin σ8 h8
        · rw [k1, k2]
          refine bne_mk (fun _ => ?_) (fun g => absurd g (V.ok.side_ne a0))
          rw [bne_self_eq_false, bm_false]
          refine beq_mk (fun g => absurd g (V.ok.side_ne a0)) (fun _ => ?_)
          exact fin σ8 h8
    refine beq_mk (fun g4 => ?_) (fun g4 => ?_)
    · have e3 : IntKind.wrap .i64 (((L.take i).countP (fun w => w.k == 4) : Nat) + 1 : Int) = (((L.take i).countP (fun w => w.k == 4) + 1 : Nat) : Int) := by rw [wrap64 (by omega) (by omega)]; omega
      rw [e3]
      refine go _ ?_
      rw [e2, if_pos (by simpa using g4)]
    · refine go _ ?_
      rw [e2, if_neg (by simpa using g4)]
      rfl
  · rw [hlm] at g ⊢
    have ei : i = L.length := by omega
    rw [ei, List.take_length]
    refine bmd_mk (fun _ => ?_) (fun g => absurd (show (L.length : Int) ≤ 64 by omega) g)
    rcases V.ok.pairsL with e0 | e0
    · subst e0
      refine beq_mk (fun _ => ?_) (fun g => absurd rfl g)
      refine v27 V h3 ?_
      rw [tI_int]
      refine beq_mk (fun _ => c13' hK) (fun g => absurd rfl g)
    · have hc : L.countP (fun w => w.k == 4) ≤ 64 := by omega
      have e5 : IntKind.wrap .i64 (IntKind.wrap .i64 (2 * ((L.countP (fun w => w.k == 4) : Nat) : Int)) + 1) = (L.length : Int) := by
        rw [wrap64 (n := 2 * ((L.countP (fun w => w.k == 4) : Nat) : Int)) (by omega) (by omega), wrap64 (by omega) (by omega)]
        omega
      rw [e5, beq_self_eq_true, bm_true]
      refine beq_mk (fun g => ?_) (fun _ => c13' hK)
      omega)
end
end Go.AI
