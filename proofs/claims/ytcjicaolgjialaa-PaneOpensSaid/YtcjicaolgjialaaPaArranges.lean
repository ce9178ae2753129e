/- Lemmas of the abstract condition ahead of code (a part of the library that the claim's proof stands on); they hold with no condition but those that each names. -/
import Derived.Test.YtcjicaolgjialaaPaRefuses
set_option linter.unusedSimpArgs false
set_option linter.unusedVariables false
set_option maxRecDepth 10000
/- PaneArranges: what is arranged is told, children stay on their sides; no condition but those that each names. -/
namespace Go.Pane
open Go.AI
variable {L M : List Win} {last : Int} {tr : Option T}
theorem childR_sides {κ : Int → Int} {m s key : Int} {r : R4} :
    (cols m = true → (childR κ m s key false r).x = (childR κ m s key true r).x + (childR κ m s key true r).w ∧ (childR κ m s key false r).y = (childR κ m s key true r).y) ∧
    (cols m = false → (childR κ m s key false r).y = (childR κ m s key true r).y + (childR κ m s key true r).h ∧ (childR κ m s key false r).x = (childR κ m s key true r).x) := by
  refine ⟨fun h => ?_, fun h => ?_⟩ <;> unfold childR <;> rw [h] <;> exact ⟨rfl, rfl⟩
theorem Ok.arr_told {pair m sz key : Int} (ok : Ok L last tr) (hz : 0 ≤ sz ∧ sz < 4294967296) (h : arrE L pair m key = 0) : ∃ tr', Ok (Go.Pane.arrL L pair m sz key) last tr' ∧
    (ofL (Go.Pane.arrL L pair m sz key) pair).m = m ∧ (ofL (Go.Pane.arrL L pair m sz key) pair).s = sz ∧ (key ≠ 0 → (ofL (Go.Pane.arrL L pair m sz key) pair).key = key) ∧
    (ofL (Go.Pane.arrL L pair m sz key) pair).a = (ofL L pair).a ∧ (ofL (Go.Pane.arrL L pair m sz key) pair).b = (ofL L pair).b ∧ pairE L pair = 0 ∧ pairE (Go.Pane.arrL L pair m sz key) pair = 0 ∧ validM m ∧ validM (ofL L pair).m ∧ cols m = cols (ofL L pair).m ∧
    ∀ W H : Int, 0 ≤ W ∧ W ≤ 1000 → 0 ≤ H ∧ H ≤ 1000 → ∃ r s : R4, Go.Pane.rho (Go.Pane.arrL L pair m sz key) W H (ofL L pair).a = r ∧ Go.Pane.rho (Go.Pane.arrL L pair m sz key) W H (ofL L pair).b = s ∧
      (cols m = true → s.x = r.x + r.w ∧ s.y = r.y) ∧ (cols m = false → s.y = r.y + r.h ∧ s.x = r.x) ∧ 0 ≤ r.x ∧ 0 ≤ r.w ∧ r.x + r.w ≤ 1000 ∧ 0 ≤ r.y ∧ 0 ≤ r.h ∧ r.y + r.h ≤ 1000 := by
  have hp0 : pairE L pair = 0 := by
    unfold arrE at h
    split at h
    · rename_i g; exact absurd h g
    · rename_i g; simpa using g
  have hvc : validB m = true ∧ cols m = cols (ofL L pair).m := by
    unfold arrE at h
    rw [hp0, if_neg (by simp)] at h
    split at h
    · cases h
    · rename_i g
      refine ⟨?_, ?_⟩
      · cases hvb : validB m with
        | true => rfl
        | false => exact absurd (.inl hvb) g
      · by_cases e : cols m = cols (ofL L pair).m
        · exact e
        · exact absurd (.inr e) g
  have hkey : key = 0 ∨ hasL L key = true := by
    unfold arrE at h
    rw [hp0, if_neg (by simp)] at h
    have hno : ¬ (validB m = false ∨ cols m ≠ cols (ofL L pair).m) := by
      rintro (g | g)
      · rw [hvc.1] at g; cases g
      · exact g hvc.2
    rw [if_neg hno] at h
    split at h
    · cases h
    · rename_i hk
      by_cases hk0 : key = 0
      · exact .inl hk0
      · right
        cases hx : hasL L key with
        | true => rfl
        | false => exact absurd ⟨hk0, .inl hx⟩ hk
  have hh : hasL L pair = true := by
    have hp := hp0
    unfold pairE at hp
    split at hp
    · cases hp
    · rename_i g; simpa using g
  have h4 : (ofL L pair).k = 4 := by
    have hp := hp0
    unfold pairE at hp
    rw [hh, if_neg (by simp)] at hp
    split at hp
    · assumption
    · cases hp
  obtain ⟨fs, s, a, rfl⟩ := ok.at_has hh
  have hwo := ok.wok _ (ok.at a)
  rw [ok.of_at a] at h4
  cases s with
  | lf n k =>
    rcases hwo with g | g
    · have := g.2.1; unfold validM T.win at this; simp only at this; omega
    · rw [h4] at g; omega
  | nd n m0 s0 key0 x y =>
    have e0 := ok.of_at a
    have ok' := ok.arranged a (m := m) (sz := sz) (key := key) (validB_iff.1 hvc.1) hz hkey
    have a' : Pane.At (some (plug fs (.nd n m sz (if key = 0 then key0 else key) x y))) fs (.nd n m sz (if key = 0 then key0 else key) x y) := rfl
    have e1 := ok'.of_at a'
    rw [show (T.nd n m0 s0 key0 x y).num = n from rfl] at *
    rw [show (T.nd n m sz (if key = 0 then key0 else key) x y).num = n from rfl] at e1
    have hv0 : validM (ofL L n).m := by
      rw [e0]
      rcases hwo with g | g
      · exact g.2.1
      · have := g.2.1; rw [h4] at this; omega
    refine ⟨_, ok', by rw [e1]; rfl, by rw [e1]; rfl, fun hk => by rw [e1]; simp only [T.win]; rw [if_neg hk], by rw [e1, e0]; rfl, by rw [e1, e0]; rfl, hp0, ?_, validB_iff.1 hvc.1, hv0, hvc.2, fun W H hW hH => ?_⟩
    · unfold pairE
      have h1 := ok'.has_at a'
      rw [show (T.nd n m sz (if key = 0 then key0 else key) x y).num = n from rfl] at h1
      rw [h1, if_neg (by simp), e1]
      rfl
    · have ax : Pane.At (some (plug fs (.nd n m sz (if key = 0 then key0 else key) x y))) (⟨n, m, sz, if key = 0 then key0 else key, true, y⟩ :: fs) x := rfl
      have ay : Pane.At (some (plug fs (.nd n m sz (if key = 0 then key0 else key) x y))) (⟨n, m, sz, if key = 0 then key0 else key, false, x⟩ :: fs) y := rfl
      have ex : (ofL L n).a = x.num := by rw [e0]; rfl
      have ey : (ofL L n).b = y.num := by rw [e0]; rfl
      have bx := ok'.bounds hW.1 hH.1 _ _ ax
      refine ⟨_, _, rfl, rfl, ?_⟩
      rw [ex, ey, ok'.rho ax, ok'.rho ay]
      refine ⟨fun g => (childR_sides (κ := kof (Go.Pane.arrL L n m sz key)) (s := sz) (key := if key = 0 then key0 else key) (r := rectC (kof (Go.Pane.arrL L n m sz key)) W H fs)).1 g, fun g => childR_sides.2 g, ?_⟩
      omega
end Go.Pane
namespace Go.AI
open Go.Proofs Go.Pane
section
variable {σ : AS} {K : Value → AS → Prop} {X F0 fr : List (Nat × AObj)} {t m x y c : Nat} {n W H W1 H1 root last b : Int} {L : List Win} {tr : Option T} {ws : List PW} {l : List ActM} {a : Option Addr}
def NearV (L : List Win) (v : Int) : Prop := (v = 0 ∧ L = []) ∨ ∃ w ∈ L, v = w.n
theorem p20 (S : PS t m W H last ws c F0 σ) (ok : Ok (wl ws) last tr) (hK : ∀ σ', PS t m W H last ws c F0 σ' → K (.tuple ⟨[i64 (ofL (wl ws) n).a, i64 (ofL (wl ws) n).b]⟩) σ') : Tri Try.prog 20 [ptr t, i64 n] σ K := by
  obtain ⟨F, hF, Hh⟩ := S
  exact c20 Hh pin_of ok.srt fun σ' new H' => hK σ' (.of hF H')
theorem p30 (S : PS t m W H last ws c F0 σ) (ok : Ok (wl ws) last tr) (hK : K (.tuple ⟨[i64 (ofL (wl ws) n).m, u32 (ofL (wl ws) n).s, i64 (ofL (wl ws) n).key, i64 (pairE (wl ws) n)]⟩) σ) : Tri Try.prog 30 [ptr t, i64 n] σ K := by
  obtain ⟨F, hF, Hh⟩ := S
  exact c30' ok Hh pin_of hK
theorem p21 (S : PS t m W H last ws c F0 σ) (ok : Ok (wl ws) last tr) (hR : RIn x W H last (wl ws) F0) (hK : ∀ v, NearV (wl ws) v → K (i64 v) σ) : Tri Try.prog 21 [ptr x, i64 n] σ K := by
  obtain ⟨Z, HZ, hZ, _⟩ := S.view
  have hl : (wl ws).length ≤ 1000 := by have := ok.len; omega
  exact c21 HZ (hR.mono hZ) hl (fun h => hK 0 (.inl ⟨rfl, h⟩)) (fun w hw => hK w.n (.inr ⟨w, hw, rfl⟩))
theorem pld {G : Value → Prop} {i o : Nat} {k : RK} {cs : List Value} {v : Value} (S : PS t m W H last ws c F0 σ) (hi : (i, AObj.row k cs) ∈ F0) (hv : cs[o]? = some v) (hG : G v) : ldc σ ⟨i, o, none⟩ G := by
  obtain ⟨Z, HZ, hZ, _⟩ := S.view
  exact ldm HZ (hZ _ hi) hv hG
theorem cols_tmod {n : Int} (h : validM n) : decide (Int.tmod n 16 < 2) = cols n := by
  have : 0 ≤ n := by unfold validM at h; omega
  rw [Int.tmod_eq_emod_of_nonneg this]
  rfl
theorem arranges_law {p q k1 a1 b1 c1 z : Int} {near : Bool} (hp : 0 ≤ p ∧ p ≤ 255) (hq : 0 ≤ q ∧ q ≤ 255) (Hh : Has σ X) (ha : RdA a l X) (ho : ∀ q ∈ l, ActOk q.b q.c q.z) (hact : ActOk b1 c1 z) (hK : ∀ σ', K (.bool true) σ') :
    Tri Try.prog 9 [.int .u8 p, .int .u8 q, .slice a l.length 6, .agg ⟨actL k1 a1 b1 c1 z near⟩] σ K := tri_in (by
  rw [s9]
  refine newAt_mk Hh fun i0 σ0 H0 => ?_
  refine bmd_mk (fun _ => c13' hK) (fun hl => ?_)
  refine c14 hp hq fun w h hw hh => ?_
  simp only [tTup_tup, pSome_some, List.getElem?_cons_zero, List.getElem?_cons_succ, tI_int]
  have ha0 : RdA a l ((i0, .row .plain (actL k1 a1 b1 c1 z near)) :: X) := by
    rcases ha with h | ⟨r, h1, h2⟩
    · exact .inl h
    · exact .inr ⟨r, h1, List.mem_cons_of_mem _ h2⟩
  refine c15 (by omega) (by omega) H0 ha0 (by omega) ho fun σ1 t m x W H last L tr J _ => ?_
  simp only [tTup_tup, pSome_some, List.getElem?_cons_zero, List.getElem?_cons_succ, tP_ptr]
  rw [ptrEq_some, bm_false]
  obtain ⟨ws, c, aa, e, rw', hw2, hb, hrr, H1⟩ := J.st
  have ok := J.ok
  subst hw2
  have hW : 0 ≤ W ∧ W ≤ 1000 := ⟨J.w0, J.w1⟩
  have hH : 0 ≤ H ∧ H ≤ 1000 := ⟨J.h0, J.h1⟩
  have S1 : PS t m W H last ws c (refL x W H aa e last (wl ws) rw' ((i0, .row .plain (actL k1 a1 b1 c1 z near)) :: X)) σ1 := ⟨_, fun p hp => hp, H1⟩
  have hR : RIn x W H last (wl ws) (refL x W H aa e last (wl ws) rw' ((i0, .row .plain (actL k1 a1 b1 c1 z near)) :: X)) := rin_of hrr
  have hi : (i0, AObj.row .plain (actL k1 a1 b1 c1 z near)) ∈ refL x W H aa e last (wl ws) rw' ((i0, .row .plain (actL k1 a1 b1 c1 z near)) :: X) := by simp
  generalize refL x W H aa e last (wl ws) rw' ((i0, .row .plain (actL k1 a1 b1 c1 z near)) :: X) = F at S1 hR hi
  clear H1 hrr J
  refine pld S1 hi rfl ?_
  rw [tI_int]
  refine pld S1 hi rfl ?_
  rw [tI_int]
  refine p21 S1 ok hR fun pair hpair => ?_
  rw [tI_int]
  refine pld S1 hi rfl ?_
  rw [tI_int]
  refine ⟨rfl, ?_⟩
  refine p21 S1 ok hR fun key hkey => ?_
  rw [tI_int]
  refine p20 S1 ok fun σ2 S2 => ?_
  simp only [tTup_tup, pSome_some, List.getElem?_cons_zero, List.getElem?_cons_succ, tI_int]
  refine p30 S2 ok ?_
  simp only [tTup_tup, pSome_some, List.getElem?_cons_zero, List.getElem?_cons_succ, tI_int]
  refine pld S2 hi rfl ?_
  rw [tI_int]
  refine pld S2 hi rfl ?_
  rw [tI_int]
  obtain ⟨F2, hF2, H2⟩ := S2
  refine c36 ok hact.b H2 (fun hE σ3 new H3 => ?_) (fun hE σ3 ws3 new hw3 hb3 H3 => ?_)
  · have S3 : PS t m W H last ws c F σ3 := .of hF2 H3
    rw [tI_int]
    refine p30 S3 ok ?_
    simp only [tTup_tup, pSome_some, List.getElem?_cons_zero, List.getElem?_cons_succ, tI_int]
    refine p20 S3 ok fun σ4 S4 => ?_
    simp only [tTup_tup, pSome_some, List.getElem?_cons_zero, List.getElem?_cons_succ, tI_int]
    rw [bne_self_eq_false, bm_false, bne_self_eq_false, bm_false, bne_self_eq_false, bm_false]
    refine c23 ?_
    rw [tI_int]
    refine bne_mk (fun _ => ?_) (fun g => absurd g hE)
    rw [beq_self_eq_true, bm_true, beq_self_eq_true, bm_true]
    obtain ⟨Z, HZ, hZ, PZ⟩ := S4.view
    refine c34 (Int.le_refl _) ok hb rfl hW.1 hW.2 hH.1 hH.2 HZ PZ (hR.mono hZ) fun σ5 new H5 => ?_
    rw [tB_bool, bm_true]
    exact c13' hK
  · obtain ⟨tr3, ok3, e1, e2, e3, e4, e5, e6, e7, v1, v2, ec, er⟩ := ok.arr_told hact.z hE
    have hk0 : key ≠ 0 := by
      rcases hkey with ⟨_, hL⟩ | ⟨w, hw, rfl⟩
      · rw [hL] at hE
        have : arrE [] pair b1 key = 5 := by unfold arrE; rfl
        rw [this] at hE; cases hE
      · have := ok.rng w hw; omega
    have e3 := e3 hk0
    obtain ⟨r, s, r1, s1, c1', c2', bd⟩ := er W H hW hH
    rw [← hw3] at ok3 e1 e2 e3 e4 e5 e7 r1 s1
    have S3 : PS t m W H last ws3 c F σ3 := by
      have er : rootL (wl ws) = rootL (wl ws3) := by rw [hw3, rootL_arr]
      rw [er] at H3
      exact .of hF2 H3
    rw [tI_int]
    refine p30 S3 ok3 ?_
    simp only [tTup_tup, pSome_some, List.getElem?_cons_zero, List.getElem?_cons_succ, tI_int]
    refine p20 S3 ok3 fun σ4 S4 => ?_
    simp only [tTup_tup, pSome_some, List.getElem?_cons_zero, List.getElem?_cons_succ, tI_int]
    rw [e1, e2, e3, e4, e5, e6, e7]
    rw [bne_self_eq_false, bm_false, bne_self_eq_false, bm_false, bne_self_eq_false, bm_false]
    refine c23 ?_
    rw [tI_int]
    refine bne_mk (fun g => absurd rfl g) (fun _ => ?_)
    refine pld S4 hi rfl ?_
    rw [tI_int, bne_self_eq_false, bm_false]
    refine pld S4 hi rfl ?_
    rw [tI_int, bne_self_eq_false, bm_false, bne_self_eq_false, bm_false]
    rw [cols_tmod v1, cols_tmod v2, ec]
    have hcc : (!cols (ofL (wl ws) pair).m == cols (ofL (wl ws) pair).m) = !(cols (ofL (wl ws) pair).m == cols (ofL (wl ws) pair).m) := by cases cols (ofL (wl ws) pair).m <;> rfl
    simp only [beq_self_eq_true, Bool.not_true, bm_false]
    refine p17 S4 ok3 hW hH fun σ5 S5 => ?_
    rw [r1]
    refine tupRB ?_
    refine pnewR S5 fun i118 σ6 S6 => ?_
    refine p17 S6 ok3 hW hH fun σ7 S7 => ?_
    rw [s1]
    refine tupRB ?_
    refine pnewR S7 fun i141 σ8 S8 => ?_
    have m1 : (i141, AObj.row .plain (rL s)) ∈ (i141, AObj.row .plain (rL s)) :: (i118, AObj.row .plain (rL r)) :: F := List.mem_cons_self ..
    have m2 : (i118, AObj.row .plain (rL r)) ∈ (i141, AObj.row .plain (rL s)) :: (i118, AObj.row .plain (rL r)) :: F := List.mem_cons_of_mem _ (List.mem_cons_self ..)
    have hw1 : IntKind.wrap .i64 (r.x + r.w) = r.x + r.w := wrap64 (by omega) (by omega)
    have hw2 : IntKind.wrap .i64 (r.y + r.h) = r.y + r.h := wrap64 (by omega) (by omega)
    rw [← ec]
    cases hc : cols b1 with
    | true =>
      obtain ⟨x1, x2⟩ := c1' hc
      rw [bm_true]
      refine pld S8 m1 rfl ?_
      rw [tI_int]
      refine pld S8 m2 rfl ?_
      rw [tI_int]
      refine pld S8 m2 rfl ?_
      rw [tI_int, hw1, x1, beq_self_eq_true, bm_true]
      refine pld S8 m1 rfl ?_
      rw [tI_int]
      refine pld S8 m2 rfl ?_
      rw [tI_int, x2, beq_self_eq_true, bm_true]
      exact c13' hK
    | false =>
      obtain ⟨x1, x2⟩ := c2' hc
      have hge : decide (Int.tmod b1 16 ≥ 2) = true := by
        have h1 := cols_tmod v1
        rw [hc] at h1
        have := of_decide_eq_false h1
        exact decide_eq_true (by omega)
      rw [bm_false, hge, bm_true]
      refine pld S8 m1 rfl ?_
      rw [tI_int]
      refine pld S8 m2 rfl ?_
      rw [tI_int]
      refine pld S8 m2 rfl ?_
      rw [tI_int, hw2, x1, beq_self_eq_true, bm_true]
      refine pld S8 m1 rfl ?_
      rw [tI_int]
      refine pld S8 m2 rfl ?_
      rw [tI_int, x2, beq_self_eq_true, bm_true]
      exact c13' hK)
end
end Go.AI
