/- Lemmas of the abstract condition ahead of code (a part of the library that the claim's proof stands on); they hold with no condition but those that each names. -/
import Derived.Test.YtcjicaolgjialaaPaGoneL
set_option linter.unusedSimpArgs false
set_option linter.unusedVariables false
set_option maxRecDepth 10000
/- PaneTiles: each place of the screen lies in just one window; no condition but those that each names. -/
namespace Go.Pane
open Go.AI
variable {L M : List Win} {last : Int} {tr : Option T} {W H : Int}
def Rb (r : R4) : Prop := 0 ≤ r.x ∧ 0 ≤ r.w ∧ r.x + r.w ≤ 1000 ∧ 0 ≤ r.y ∧ 0 ≤ r.h ∧ r.y + r.h ≤ 1000
theorem Ok.rb (ok : Ok L last tr) (hW : 0 ≤ W ∧ W ≤ 1000) (hH : 0 ≤ H ∧ H ≤ 1000) (n : Int) : Rb (Go.Pane.rho L W H n) := by
  cases hh : hasL L n with
  | false => unfold Go.Pane.rho; rw [hh, if_neg (by simp)]; unfold Rb zeroR; simp only; omega
  | true =>
    obtain ⟨fs, s, a, rfl⟩ := ok.at_has hh
    rw [ok.rho a]
    have := ok.bounds hW.1 hH.1 fs s a
    unfold Rb
    omega
theorem Ok.tile_pair (ok : Ok L last tr) (hW : 0 ≤ W ∧ W ≤ 1000) (hH : 0 ≤ H ∧ H ≤ 1000) {n : Int} (hh : hasL L n = true) (hk : (ofL L n).k = 4) (x y : Int) :
    inR (Go.Pane.rho L W H n) x y = (inR (Go.Pane.rho L W H (ofL L n).a) x y || inR (Go.Pane.rho L W H (ofL L n).b) x y) := by
  obtain ⟨fs, s, a, rfl⟩ := ok.at_has hh
  have hwo := ok.wok _ (ok.at a)
  have e0 := ok.of_at a
  rw [e0] at hk
  cases s with
  | lf n k =>
    rcases hwo with g | g
    · have := g.2.1; unfold validM T.win at this; simp only at this; omega
    · rw [hk] at g; omega
  | nd n m s key x' y' =>
    have ax : Pane.At tr (⟨n, m, s, key, true, y'⟩ :: fs) x' := a
    have ay : Pane.At tr (⟨n, m, s, key, false, x'⟩ :: fs) y' := a
    have ex : (ofL L (T.nd n m s key x' y').num).a = x'.num := by rw [e0]; rfl
    have ey : (ofL L (T.nd n m s key x' y').num).b = y'.num := by rw [e0]; rfl
    have bd := ok.bounds hW.1 hH.1 fs _ a
    have hs : 0 ≤ s := by
      rcases hwo with g | g
      · exact g.2.2.1
      · rw [hk] at g; omega
    rw [ex, ey, ok.rho a, ok.rho ax, ok.rho ay]
    have tl := (tile (κ := kof L) (m := m) (s := s) (key := key) (r := rectC (kof L) W H fs) (by omega) (by omega) hs x y).1
    show inR (rectC (kof L) W H fs) x y = (inR (childR (kof L) m s key true (rectC (kof L) W H fs)) x y || inR (childR (kof L) m s key false (rectC (kof L) W H fs)) x y)
    rw [Bool.eq_iff_iff, Bool.or_eq_true]
    exact tl
end Go.Pane
namespace Go.AI
open Go.Proofs Go.Pane
section
variable {σ : AS} {K : Value → AS → Prop} {X F0 fr : List (Nat × AObj)} {t m c : Nat} {n W H W1 H1 root last b : Int} {L : List Win} {tr : Option T} {ws : List PW} {l : List ActM} {a : Option Addr}
theorem p19 {r : R4} {x y : Int} (S : PS t m W H last ws c F0 σ) (hb : Rb r) (hK : ∀ σ', PS t m W H last ws c F0 σ' → K (.bool (inR r x y)) σ') : Tri Try.prog 19 [.agg ⟨[i64 r.x, i64 r.y, i64 r.w, i64 r.h]⟩, i64 x, i64 y] σ K := tri_in (by
  rw [s19]
  refine pnew S fun i0 σ1 S1 => ?_
  have hi := List.mem_cons_self (a := (i0, AObj.row .plain [i64 r.x, i64 r.y, i64 r.w, i64 r.h])) (l := F0)
  have fin : ∀ v : Bool, v = inR r x y → K (.bool v) σ1 := fun v e => by rw [e]; exact hK σ1 (S1.sub fun p hp => List.mem_cons_of_mem _ hp)
  unfold Rb at hb
  have w1 : IntKind.wrap .i64 (r.x + r.w) = r.x + r.w := wrap64 (by omega) (by omega)
  have w2 : IntKind.wrap .i64 (r.y + r.h) = r.y + r.h := wrap64 (by omega) (by omega)
  have nin : ¬ (r.x ≤ x ∧ x < r.x + r.w ∧ r.y ≤ y ∧ y < r.y + r.h) → false = inR r x y := fun g => by
    cases h : inR r x y with
    | false => rfl
    | true => exact absurd (inR_iff.1 h) g
  refine pld S1 hi rfl ?_
  rw [tI_int]
  refine bmd_mk (fun g1 => ?_) (fun g1 => fin _ (nin (by omega)))
  refine pld S1 hi rfl ?_
  rw [tI_int]
  refine pld S1 hi rfl ?_
  rw [tI_int, w1]
  refine bmd_mk (fun g2 => ?_) (fun g2 => fin _ (nin (by omega)))
  refine pld S1 hi rfl ?_
  rw [tI_int]
  refine bmd_mk (fun g3 => ?_) (fun g3 => fin _ (nin (by omega)))
  refine pld S1 hi rfl ?_
  rw [tI_int]
  refine pld S1 hi rfl ?_
  rw [tI_int, w2]
  refine fin _ ?_
  rw [Bool.eq_iff_iff, inR_iff, decide_eq_true_eq]
  omega)
theorem plds {G : List Value → Prop} {i : Nat} {r : R4} (S : PS t m W H last ws c F0 σ) (hi : (i, AObj.row .plain (rL r)) ∈ F0) (hG : G (rL r)) : lds σ ⟨i, 0, none⟩ 4 G := by
  obtain ⟨Z, HZ, hZ, _⟩ := S.view
  exact ldsm HZ (hZ _ hi) (by simp) hG
theorem rL4 {P : Int → Int → Int → Int → Prop} {r : R4} (h : P r.x r.y r.w r.h) : tCons (rL r) fun v33 l34 => tI .i64 v33 fun n35 => tCons l34 fun v36 l37 => tI .i64 v36 fun n38 => tCons l37 fun v39 l40 => tI .i64 v39 fun n41 => tCons l40 fun v42 l43 => tI .i64 v42 fun n44 => tNil l43 (P n35 n38 n41 n44) := by
  simp only [tCons, tI_int, tNil]
  exact h
abbrev l3y : List Bool := [true, true, true, true, true, true, true, false, true, false]
abbrev l3x : List Bool := [true, true, true, true, true, true, true, false, true, false, false, true, false, false, true, false]
abbrev l3i : List Bool := [true, true, true, true, true, true, true, false, true, false, false, true, false, false, true, false, false, true, false, false, true, false, true, false]
/-- All windows at one place. -/
theorem tiles_i {pa : Option Addr} {x y : Int} {X' Y' : Regs → AS → Prop} (ok : Ok (wl ws) last tr) (hW : 0 ≤ W ∧ W ≤ 1000) (hH : 0 ≤ H ∧ H ≤ 1000) (hx : 0 ≤ x ∧ x < W) (hy : 0 ≤ y ∧ y < H) (hp : RdI pa 1 ((wl ws).map (·.n)) F0) (S : PS t m W H last ws c F0 σ)
    (hY : ∀ σ', PS t m W H last ws c F0 σ' → Y' [(8, some (i64 W)), (9, some (i64 H)), (10, some (ptr t)), (12, some (.slice pa ((wl ws).map (·.n)).length 1)), (13, some (i64 y)), (14, some (i64 (IntKind.wrap .i64 (x + 1))))] σ') :
    ALoop (fl Try.prog hintsS (Tri Try.prog) 3 l3i [X', Y'] K) [(8, some (i64 W)), (9, some (i64 H)), (10, some (ptr t)), (12, some (.slice pa ((wl ws).map (·.n)).length 1)), (13, some (i64 y)), (14, some (i64 x)), (15, some (i64 0)), (16, some (i64 0))] σ := by
  have hlm : ((wl ws).map (·.n)).length = (wl ws).length := List.length_map ..
  have len := ok.len
  have hbb : ∀ b : Bool, (!(b == b)) = false := by intro b; cases b <;> rfl
  refine aloop (fun (i : Nat) rg σ' => i ≤ (wl ws).length ∧ PS t m W H last ws c F0 σ' ∧ rg = [(8, some (i64 W)), (9, some (i64 H)), (10, some (ptr t)), (12, some (.slice pa ((wl ws).map (·.n)).length 1)), (13, some (i64 y)), (14, some (i64 x)), (15, some (i64 (((wl ws).take i).countP fun w => w.k != 4 && inR (rho (wl ws) W H w.n) x y))), (16, some (i64 i))]) (fun i => (wl ws).length - i) ?_ (a := 0) ⟨Nat.zero_le _, S, rfl⟩
  rintro i rg σ1 Z hZ ⟨hi, S1, rfl⟩
  rw [s3i]
  refine bmd_mk (fun g => ?_) (fun g => ?_)
  · rw [hlm] at g
    obtain ⟨v, hv⟩ : ∃ v, (wl ws)[i]? = some v := ⟨(wl ws)[i]'(by omega), List.getElem?_eq_getElem _⟩
    have hvm := List.mem_of_getElem? hv
    have hxi : ((wl ws).map (·.n))[i]? = some v.n := by rw [List.getElem?_map, hv]; rfl
    have hN : ((wl ws).take i).countP (fun w => w.k != 4 && inR (rho (wl ws) W H w.n) x y) ≤ 64 := by
      have h1 := List.countP_le_length (p := fun w : Win => w.k != 4 && inR (rho (wl ws) W H w.n) x y) (l := (wl ws).take i)
      rw [List.length_take] at h1
      omega
    have en : ((wl ws).take (i + 1)).countP (fun w => w.k != 4 && inR (rho (wl ws) W H w.n) x y) = ((wl ws).take i).countP (fun w => w.k != 4 && inR (rho (wl ws) W H w.n) x y) + (if (v.k != 4 && inR (rho (wl ws) W H v.n) x y) = true then 1 else 0) := by
      rw [List.take_add_one, hv, List.countP_append]
      simp [List.countP_cons]
    have hm1 : (wl ws).length - (i + 1) < (wl ws).length - i := by clear hN en; omega
    have hm2 : i + 1 ≤ (wl ws).length := by clear hN en; omega
    have e1 : IntKind.wrap .i64 ((i : Int) + 1) = ((i + 1 : Nat) : Int) := by clear hN en; rw [wrap64 (by omega) (by omega)]; omega
    have fin : ∀ (N : Nat) (σ' : AS), N = ((wl ws).take (i + 1)).countP (fun w => w.k != 4 && inR (rho (wl ws) W H w.n) x y) → PS t m W H last ws c F0 σ' → Z [(8, some (i64 W)), (9, some (i64 H)), (10, some (ptr t)), (12, some (.slice pa ((wl ws).map (·.n)).length 1)), (13, some (i64 y)), (14, some (i64 x)), (15, some (i64 N)), (16, some (i64 (IntKind.wrap .i64 ((i : Int) + 1))))] σ' := fun N σ' hN' S' => by
      rw [e1]
      exact hZ (i + 1) _ _ hm1 ⟨hm2, S', by rw [hN']⟩
    have hb : Rb (rho (wl ws) W H v.n) := ok.rb hW hH v.n
    have hhas : hasL (wl ws) v.n = true := hasL_iff.2 ⟨v, hvm, rfl⟩
    have hov := ofL_mem ok.srt hvm
    generalize hk : ((wl ws).take i).countP (fun w => w.k != 4 && inR (rho (wl ws) W H w.n) x y) = N at *
    have e3 : IntKind.wrap .i64 ((N : Int) + 1) = ((N + 1 : Nat) : Int) := by clear fin en; rw [wrap64 (by omega) (by omega)]; omega
    clear hZ
    refine prd S1 hp hxi rfl ?_
    rw [tI_int]
    refine p17 S1 ok hW hH fun σ2 S2 => ?_
    refine tupRB ?_
    refine pnewR S2 fun i23 σ3 S3 => ?_
    rw [hhas, Bool.not_true, bm_false]
    have hp3 : RdI pa 1 ((wl ws).map (·.n)) ((i23, .row .plain (rL (rho (wl ws) W H v.n))) :: F0) := hp.mono fun p hp => List.mem_cons_of_mem _ hp
    refine prd S3 hp3 hxi rfl ?_
    rw [tI_int]
    refine p18 S3 ok fun σ4 S4 => ?_
    rw [tI_int, hov]
    have hi4 := List.mem_cons_self (a := (i23, AObj.row .plain (rL (rho (wl ws) W H v.n)))) (l := F0)
    refine bne_mk (fun g4 => ?_) (fun g4 => ?_)
    · refine plds S4 hi4 ?_
      refine rL4 ?_
      refine p19 S4 hb fun σ5 S5 => ?_
      have S5' : PS t m W H last ws c F0 σ5 := S5.sub fun p hp => List.mem_cons_of_mem _ hp
      rw [tB_bool]
      have hk4 : (v.k != 4) = true := by simpa using g4
      cases hin : inR (rho (wl ws) W H v.n) x y with
      | true =>
        rw [bm_true, e3]
        exact fin _ _ (by rw [en, hk4, hin]; rfl) S5'
      | false =>
        rw [bm_false]
        exact fin _ _ (by rw [en, hk4, hin]; rfl) S5'
    · have hk4 : (v.k != 4) = false := by simpa using g4
      have hN1 : N = ((wl ws).take (i + 1)).countP (fun w => w.k != 4 && inR (rho (wl ws) W H w.n) x y) := by rw [en, hk4]; rfl
      have tp := ok.tile_pair hW hH hhas (by rw [hov]; exact g4) x y
      refine prd S4 hp3 hxi rfl ?_
      rw [tI_int]
      refine p20 S4 ok fun σ5 S5 => ?_
      simp only [tTup_tup, pSome_some, List.getElem?_cons_zero, List.getElem?_cons_succ, tI_int]
      refine p17 S5 ok hW hH fun σ6 S6 => ?_
      refine tupRB ?_
      refine pnewR S6 fun i79 σ7 S7 => ?_
      refine p17 S7 ok hW hH fun σ8 S8 => ?_
      refine tupRB ?_
      refine pnewR S8 fun i102 σ9 S9 => ?_
      have hA := ok.rb hW hH (ofL (wl ws) v.n).a
      have hB := ok.rb hW hH (ofL (wl ws) v.n).b
      generalize rho (wl ws) W H (ofL (wl ws) v.n).a = rA at *
      generalize rho (wl ws) W H (ofL (wl ws) v.n).b = rB at *
      have m1 : (i23, AObj.row .plain (rL (rho (wl ws) W H v.n))) ∈ (i102, AObj.row .plain (rL rB)) :: (i79, AObj.row .plain (rL rA)) :: (i23, AObj.row .plain (rL (rho (wl ws) W H v.n))) :: F0 := List.mem_cons_of_mem _ (List.mem_cons_of_mem _ (List.mem_cons_self ..))
      have m2 : (i79, AObj.row .plain (rL rA)) ∈ (i102, AObj.row .plain (rL rB)) :: (i79, AObj.row .plain (rL rA)) :: (i23, AObj.row .plain (rL (rho (wl ws) W H v.n))) :: F0 := List.mem_cons_of_mem _ (List.mem_cons_self ..)
      have m3 : (i102, AObj.row .plain (rL rB)) ∈ (i102, AObj.row .plain (rL rB)) :: (i79, AObj.row .plain (rL rA)) :: (i23, AObj.row .plain (rL (rho (wl ws) W H v.n))) :: F0 := List.mem_cons_self ..
      have back : ∀ {σ'}, PS t m W H last ws c ((i102, AObj.row .plain (rL rB)) :: (i79, AObj.row .plain (rL rA)) :: (i23, AObj.row .plain (rL (rho (wl ws) W H v.n))) :: F0) σ' → PS t m W H last ws c F0 σ' := fun S' => S'.sub fun p hp => List.mem_cons_of_mem _ (List.mem_cons_of_mem _ (List.mem_cons_of_mem _ hp))
      refine plds S9 m1 ?_
      refine rL4 ?_
      refine plds S9 m2 ?_
      refine rL4 ?_
      refine p19 S9 hb fun σ10 S10 => ?_
      rw [tB_bool]
      refine plds S10 m2 ?_
      refine rL4 ?_
      refine ⟨rfl, ?_⟩
      refine p19 S10 hA fun σ11 S11 => ?_
      rw [tB_bool]
      rw [tp]
      cases hAin : inR rA x y with
      | true =>
        rw [bm_true, Bool.true_or, show (!(true == true)) = false from rfl, bm_false]
        exact fin _ _ hN1 (back S11)
      | false =>
        rw [bm_false, Bool.false_or]
        refine plds S11 m3 ?_
        refine rL4 ?_
        refine p19 S11 hB fun σ12 S12 => ?_
        rw [tB_bool, hbb, bm_false]
        exact fin _ _ hN1 (back S12)
  · rw [hlm] at g
    have ei : i = (wl ws).length := by omega
    rw [ei, List.take_length]
    by_cases hL : wl ws = []
    · have e0 : decide (((((wl ws).map (·.n)).length : Nat) : Int) > 0) = false := decide_eq_false (by rw [hL]; simp)
      refine bne_mk (fun _ => ?_) (fun _ => hY _ S1)
      rw [e0, bm_false]
      exact hY _ S1
    · rw [ok.tiles hL hx hy]
      refine bne_mk (fun g => absurd rfl g) (fun _ => hY _ S1)
/-- All places of a row. -/
theorem tiles_x {pa : Option Addr} {y : Int} {X' : Regs → AS → Prop} (ok : Ok (wl ws) last tr) (hW : 0 ≤ W ∧ W ≤ 1000) (hH : 0 ≤ H ∧ H ≤ 1000) (hy : 0 ≤ y ∧ y < H) (hp : RdI pa 1 ((wl ws).map (·.n)) F0) (S : PS t m W H last ws c F0 σ)
    (hX : ∀ σ', PS t m W H last ws c F0 σ' → X' [(8, some (i64 W)), (9, some (i64 H)), (10, some (ptr t)), (12, some (.slice pa ((wl ws).map (·.n)).length 1)), (13, some (i64 (IntKind.wrap .i64 (y + 1))))] σ') :
    ALoop (fl Try.prog hintsS (Tri Try.prog) 3 l3x [X'] K) [(8, some (i64 W)), (9, some (i64 H)), (10, some (ptr t)), (12, some (.slice pa ((wl ws).map (·.n)).length 1)), (13, some (i64 y)), (14, some (i64 0))] σ := by
  refine aloop (fun (j : Nat) rg σ' => (j : Int) ≤ W ∧ PS t m W H last ws c F0 σ' ∧ rg = [(8, some (i64 W)), (9, some (i64 H)), (10, some (ptr t)), (12, some (.slice pa ((wl ws).map (·.n)).length 1)), (13, some (i64 y)), (14, some (i64 j))]) (fun j => W.toNat - j) ?_ (a := 0) ⟨hW.1, S, rfl⟩
  rintro j rg σ1 Y hY ⟨hj, S1, rfl⟩
  rw [s3x]
  refine bmd_mk (fun g => ?_) (fun g => hX _ S1)
  refine tiles_i ok hW hH ⟨by omega, g⟩ hy hp S1 fun σ2 S2 => ?_
  have e1 : IntKind.wrap .i64 ((j : Int) + 1) = ((j + 1 : Nat) : Int) := by rw [wrap64 (by omega) (by omega)]; omega
  rw [e1]
  exact hY (j + 1) _ _ (by omega) ⟨by omega, S2, rfl⟩
theorem tiles_y {pa : Option Addr} (ok : Ok (wl ws) last tr) (hW : 0 ≤ W ∧ W ≤ 1000) (hH : 0 ≤ H ∧ H ≤ 1000) (hp : RdI pa 1 ((wl ws).map (·.n)) F0) (S : PS t m W H last ws c F0 σ) (hK : ∀ σ', K (.bool true) σ') :
    ALoop (fl Try.prog hintsS (Tri Try.prog) 3 l3y [] K) [(8, some (i64 W)), (9, some (i64 H)), (10, some (ptr t)), (12, some (.slice pa ((wl ws).map (·.n)).length 1)), (13, some (i64 0))] σ := by
  refine aloop (fun (j : Nat) rg σ' => (j : Int) ≤ H ∧ PS t m W H last ws c F0 σ' ∧ rg = [(8, some (i64 W)), (9, some (i64 H)), (10, some (ptr t)), (12, some (.slice pa ((wl ws).map (·.n)).length 1)), (13, some (i64 j))]) (fun j => H.toNat - j) ?_ (a := 0) ⟨hH.1, S, rfl⟩
  rintro j rg σ1 Y hY ⟨hj, S1, rfl⟩
  rw [s3y]
  refine bmd_mk (fun g => ?_) (fun _ => c13' hK)
  refine tiles_x ok hW hH ⟨by omega, g⟩ hp S1 fun σ2 S2 => ?_
  have e1 : IntKind.wrap .i64 ((j : Int) + 1) = ((j + 1 : Nat) : Int) := by rw [wrap64 (by omega) (by omega)]; omega
  rw [e1]
  exact hY (j + 1) _ _ (by omega) ⟨by omega, S2, rfl⟩
theorem tiles_law {p q : Int} (hp : 0 ≤ p ∧ p ≤ 255) (hq : 0 ≤ q ∧ q ≤ 255) (Hh : Has σ X) (ha : RdA a l X) (ho : ∀ q ∈ l, ActOk q.b q.c q.z) (hK : ∀ σ', K (.bool true) σ') :
    Tri Try.prog 3 [.int .u8 p, .int .u8 q, .slice a l.length 6] σ K := tri_in (by
  rw [s3]
  refine bmd_mk (fun _ => c13' hK) (fun hl => ?_)
  refine aloop (fun (i : Nat) rg σ' => i ≤ l.length ∧ σ' = σ ∧ (∀ q ∈ l.take i, q.k ≠ 7) ∧ rg = [(0, some (.int .u8 p)), (1, some (.int .u8 q)), (2, some (.slice a l.length 6)), (7, some (i64 i))]) (fun i => l.length - i) ?_ (a := 0) ⟨Nat.zero_le _, rfl, by simp, rfl⟩
  rintro i rg σ1 Y hY ⟨hi, rfl, h7, rfl⟩
  rw [s3k]
  refine bmd_mk (fun g => ?_) (fun g => ?_)
  · obtain ⟨v, hv⟩ : ∃ v, l[i]? = some v := ⟨l[i]'(by omega), by simp⟩
    rcases ha with rfl | ⟨r, rfl, hm⟩
    · simp at hv
    refine req_mk (by omega) (req_mk (by omega) ?_)
    rw [pSome_some]
    refine req_mk (by kernel_rfl) ?_
    have e : szOf Try.prog 26 = 6 := by kernel_rfl
    rw [e, add_none, Int.toNat_natCast, Nat.zero_add, add_none]
    have hc : (cellsA l)[i * 6 + 0]? = some (i64 v.k) := by
      have h1 := cellsA_at l i v hv
      have h2 : (((cellsA l).drop (i * 6)).take 6)[0]? = some (i64 v.k) := by rw [h1]; rfl
      rw [List.getElem?_take_of_lt (by omega), List.getElem?_drop] at h2
      exact h2
    refine ldm Hh hm hc ?_
    rw [tI_int]
    refine beq_mk (fun _ => c13' hK) (fun g7 => ?_)
    have e1 : IntKind.wrap .i64 ((i : Int) + 1) = ((i + 1 : Nat) : Int) := by rw [wrap64 (by omega) (by omega)]; omega
    rw [e1]
    refine hY (i + 1) _ _ (by omega) ⟨by omega, rfl, fun q hq => ?_, rfl⟩
    rw [List.take_add_one, hv] at hq
    rcases List.mem_append.1 hq with h | h
    · exact h7 q h
    · have : q = v := by simpa using h
      rw [this]; exact g7
  · have ei : i = l.length := by omega
    rw [ei, List.take_length] at h7
    refine c14 hp hq fun w h hw hh => ?_
    simp only [tTup_tup, pSome_some, List.getElem?_cons_zero, List.getElem?_cons_succ, tI_int]
    refine c15 (by omega) (by omega) Hh ha (by omega) ho fun σ2 t m x W H last L tr J hWH => ?_
    obtain ⟨rfl, rfl⟩ := hWH h7
    simp only [tTup_tup, pSome_some, List.getElem?_cons_zero, List.getElem?_cons_succ, tP_ptr]
    rw [ptrEq_some, bm_false]
    obtain ⟨ws, c, aa, e, rw', hw2, hb, hrr, H1⟩ := J.st
    have ok := J.ok
    subst hw2
    have S1 : PS t m W H last ws c (refL x W H aa e last (wl ws) rw' X) σ2 := ⟨_, fun p hp => hp, H1⟩
    refine p16 S1 ok hb fun σ3 b3 fr3 hs3 S3 => ?_
    refine tL_ok hs3.no ?_
    exact tiles_y ok (by omega) (by omega) (hs3.rd fun p hp => by simp [hp]) S3 hK)
end
end Go.AI
