/- Lemmas of the abstract condition ahead of code (a part of the library that the claim's proof stands on); they hold with no condition but those that each names. -/
import Derived.Test.YtcjicaolgjialaaPyRef
import Derived.Test.YtcjicaolgjialaaPyForm
section
set_option linter.unusedSimpArgs false
set_option linter.unusedVariables false
set_option maxRecDepth 10000
/- Both trees side by side: numbers, nearness, and what is told of a window; no condition but those that each names. -/
namespace Go.AI
open Go.Proofs Go.Pane
/-- A slice of whole numbers that is known. -/
def RdI (a : Option Addr) (e : Nat) (xs : List Int) (X : List (Nat × AObj)) : Prop := xs = [] ∨ ∃ j k, a = some ⟨j, 0, none⟩ ∧ e = 1 ∧ (j, AObj.row k (xs.map i64)) ∈ X
theorem SlR.rd {a : Option Addr} {e : Nat} {xs : List Int} {fr X : List (Nat × AObj)} (h : SlR a e xs fr) (hs : ∀ p ∈ fr, p ∈ X) : RdI a e xs X := by
  rcases h with ⟨_, h, _⟩ | ⟨j, h1, h2, h3⟩
  · exact .inl h
  · exact .inr ⟨j, .rw, h1, h2, hs _ (by rw [h3]; simp)⟩
theorem RdI.mono {a : Option Addr} {e : Nat} {xs : List Int} {X Y : List (Nat × AObj)} (h : RdI a e xs X) (hs : ∀ p ∈ X, p ∈ Y) : RdI a e xs Y := by
  rcases h with h | ⟨j, k, h1, h2, h3⟩
  · exact .inl h
  · exact .inr ⟨j, k, h1, h2, hs _ h3⟩
section
variable {σ : AS} {K : Value → AS → Prop} {X : List (Nat × AObj)} {t m x c : Nat} {n W H root last : Int} {L : List Win} {tr : Option T} {ws : List PW}
theorem rdI {G : Value → Prop} {a : Option Addr} {e i : Nat} {xs : List Int} {v : Int} {N : Nat} (h : RdI a e xs X) (Hh : Has σ X) (hi : xs[i]? = some v) (hN : N = xs.length) (hG : G (i64 v)) :
    req (0 ≤ (i : Int)) (req ((i : Int) < (N : Int)) (pSome a fun a0 => req (e = szOf Try.prog 3) (ldc σ (Addr.add a0 (Int.toNat (i : Int) * szOf Try.prog 3)) G))) := by
  have hlt := (List.getElem?_eq_some_iff.1 hi).1
  rcases h with h | ⟨j, k, rfl, rfl, hm⟩
  · subst h; simp at hi
  · refine req_mk (by omega) (req_mk (by omega) ?_)
    rw [pSome_some, sz3]
    refine req_mk rfl ?_
    rw [add_none, Int.toNat_natCast, Nat.mul_one, Nat.zero_add]
    exact ldm Hh hm (by simp [hi]) hG
theorem c35 {a b : Option Addr} {e f : Nat} {xs ys : List Int} (ha : RdI a e xs X) (hb : RdI b f ys X) (Hh : Has σ X) (hl : xs.length ≤ 1000000) (hK : K (.bool (decide (xs = ys))) σ) : Tri Try.prog 35 [.slice a xs.length e, .slice b ys.length f] σ K := tri_in (by
  rw [s35]
  refine bne_mk (fun g => ?_) (fun g => ?_)
  · have : ¬ xs = ys := fun h => g (by rw [h])
    rw [decide_eq_false this] at hK
    exact hK
  have hlen : xs.length = ys.length := by omega
  refine aloop (fun (i : Nat) rg σ' => σ' = σ ∧ i ≤ xs.length ∧ xs.take i = ys.take i ∧ rg = [(0, some (.slice a xs.length e)), (1, some (.slice b ys.length f)), (5, some (i64 i))]) (fun i => xs.length - i) ?_ (a := 0) ⟨rfl, Nat.zero_le _, by simp, rfl⟩
  rintro i rg σ1 Y hY ⟨rfl, hi, ht, rfl⟩
  rw [s35l]
  refine bmd_mk (fun g => ?_) (fun g => ?_)
  · obtain ⟨v, hv⟩ : ∃ v, xs[i]? = some v := ⟨xs[i]'(by omega), by simp⟩
    obtain ⟨u, hu⟩ : ∃ u, ys[i]? = some u := ⟨ys[i]'(by omega), by simp⟩
    refine rdI ha Hh hv rfl ?_
    rw [tI_int]
    refine rdI hb Hh hu rfl ?_
    rw [tI_int]
    refine bne_mk (fun g2 => ?_) (fun g2 => ?_)
    · have : ¬ xs = ys := fun h => g2 (by rw [h, hu] at hv; cases hv; rfl)
      rw [decide_eq_false this] at hK
      exact hK
    · have e1 : IntKind.wrap .i64 ((i : Int) + 1) = ((i + 1 : Nat) : Int) := by rw [wrap64 (by omega) (by omega)]; omega
      rw [e1]
      refine hY (i + 1) _ _ (by omega) ⟨rfl, by omega, ?_, rfl⟩
      rw [List.take_add_one, List.take_add_one, ht, hv, hu, g2]
  · have e1 : i = xs.length := by omega
    have : xs = ys := by
      have h2 := ht
      rw [e1, List.take_length, hlen, List.take_length] at h2
      exact h2
    rw [decide_eq_true this] at hK
    exact hK)
theorem c54 (Hh : Has σ X) (R : RIn x W H last L X) (hl : L.length ≤ 1000) (hK : ∀ σ' a e fr', SlR a e (L.map (·.n)) fr' → Has σ' (fr' ++ X) → K (.slice a (L.map (·.n)).length e) σ') : Tri Try.prog 54 [ptr x] σ K := tri_in (by
  rw [s54]
  refine aloop (fun (i : Nat) rg σ' => i ≤ L.length ∧ ∃ a e fr', SlR a e ((L.take i).map (·.n)) fr' ∧ Has σ' (fr' ++ X) ∧ rg = [(0, some (ptr x)), (3, some (.slice a ((L.take i).map (·.n)).length e)), (4, some (i64 i))]) (fun i => L.length - i) ?_ (a := 0) ⟨Nat.zero_le _, none, 0, [], .inl ⟨rfl, rfl, rfl⟩, Hh, rfl⟩
  rintro i rg σ1 Y hY ⟨hi, a, e, fr', hs, H1, rfl⟩
  rw [s54l]
  refine lenR H1 R.new fun _ _ => bmd_mk (fun g => ?_) (fun g => ?_)
  · simp only at g
    obtain ⟨w, hw⟩ : ∃ w, L[i]? = some w := ⟨L[i]'(by omega), by simp⟩
    refine elR H1 R.new hw fun r k hr => ?_
    rw [add8, add80]
    refine flR H1 hr hw (by omega) rfl ?_
    rw [tI_int]
    have hb : ((L.take i).map (·.n)).length ≤ 1000 := by simp; omega
    refine pushI hs H1 (by omega) fun a5 σ5 fr5 hs5 H5 => ?_
    have e1 : IntKind.wrap .i64 ((i : Int) + 1) = ((i + 1 : Nat) : Int) := by rw [wrap64 (by omega) (by omega)]; omega
    have e2 : (L.take i).map (·.n) ++ [w.n] = (L.take (i + 1)).map (·.n) := by rw [List.take_add_one, hw]; simp
    rw [e2] at hs5 ⊢
    rw [e1]
    exact hY (i + 1) _ _ (by omega) ⟨by omega, a5, 1, fr5, hs5, H5, rfl⟩
  · simp only at g
    have e1 : i = L.length := by omega
    rw [e1, List.take_length] at hs ⊢
    exact hK σ1 a e fr' hs H1)
/-- The window that an act speaks of. -/
theorem c21 (Hh : Has σ X) (R : RIn x W H last L X) (hl : L.length ≤ 1000) (hN : L = [] → K (i64 0) σ) (hK : ∀ w ∈ L, K (i64 w.n) σ) : Tri Try.prog 21 [ptr x, i64 n] σ K := tri_in (by
  rw [s21]
  refine lenR Hh R fun a _ => beq_mk (fun g => hN (List.length_eq_zero_iff.1 (by simp only at g; omega))) (fun g => ?_)
  simp only at g
  refine lenR Hh R fun a _ => ?_
  refine req_mk (by simp only; omega) ?_
  simp only
  have hb : -(L.length : Int) < Int.tmod n L.length ∧ Int.tmod n L.length < L.length := by
    have h1 := Int.tmod_lt_of_pos n (show (0 : Int) < L.length by omega)
    have h2 : -(L.length : Int) < Int.tmod n L.length := by
      have := Int.lt_tmod_of_pos n (show (0 : Int) < L.length by omega)
      omega
    exact ⟨h2, h1⟩
  generalize Int.tmod n L.length = q at *
  refine bmd_mk (fun g2 => ?_) (fun g2 => ?_)
  · refine lenR Hh R fun a _ => ?_
    simp only
    rw [wrap64 (by omega) (by omega)]
    obtain ⟨i, hi⟩ := Int.eq_ofNat_of_zero_le (show 0 ≤ q + (L.length : Int) by omega)
    have hi' : q + (L.length : Int) = ((i : Nat) : Int) := hi
    rw [hi']
    obtain ⟨w, hw⟩ : ∃ w, L[i]? = some w := ⟨L[i]'(by omega), by simp⟩
    refine elR Hh R hw fun r k hr => ?_
    rw [add8, add80]
    refine flR Hh hr hw (by omega) rfl ?_
    rw [tI_int]
    exact hK w (List.mem_of_getElem? hw)
  · obtain ⟨i, hi⟩ := Int.eq_ofNat_of_zero_le (show 0 ≤ q by omega)
    have hi' : q = ((i : Nat) : Int) := hi
    rw [hi']
    obtain ⟨w, hw⟩ : ∃ w, L[i]? = some w := ⟨L[i]'(by omega), by simp⟩
    refine elR Hh R hw fun r k hr => ?_
    rw [add8, add80]
    refine flR Hh hr hw (by omega) rfl ?_
    rw [tI_int]
    exact hK w (List.mem_of_getElem? hw))
theorem c30' (ok : Ok (wl ws) last tr) (Hh : Has σ X) (P : PIn t m W H root last ws c X) (hK : K (.tuple ⟨[i64 (ofL (wl ws) n).m, u32 (ofL (wl ws) n).s, i64 (ofL (wl ws) n).key, i64 (pairE (wl ws) n)]⟩) σ) : Tri Try.prog 30 [ptr t, i64 n] σ K := by
  refine c30 Hh P ok.srt (fun h => ?_) (fun h1 h2 => ?_)
  · have hz : (ofL (wl ws) n).m = 0 ∧ (ofL (wl ws) n).s = 0 ∧ (ofL (wl ws) n).key = 0 := by
      cases hh : hasL (wl ws) n with
      | false => rw [ofL_none hh]; exact ⟨rfl, rfl, rfl⟩
      | true =>
        obtain ⟨w, hw, rfl⟩ := hasL_iff.1 hh
        rw [ofL_mem ok.srt hw]
        unfold pairE at h
        rw [hh, if_neg (by simp), ofL_mem ok.srt hw] at h
        rcases ok.wok w hw with g | g
        · rw [if_pos g.1] at h; exact absurd rfl h
        · exact ⟨g.2.2.1, g.2.2.2.1, g.2.2.2.2.1⟩
    rw [hz.1, hz.2.1, hz.2.2] at hK
    exact hK
  · have : pairE (wl ws) n = 0 := by unfold pairE; rw [h1, if_neg (by simp), if_pos h2]
    rw [this] at hK
    exact hK
theorem c17' (ok : Ok (wl ws) last tr) (hW : 0 ≤ W) (hW1 : W ≤ 1000) (hH : 0 ≤ H) (hH1 : H ≤ 1000) (Hh : Has σ X) (P : PIn t m W H root last ws c X)
    (hK : ∀ σ' new, Has σ' (new ++ X) → K (.tuple ⟨[rV (rho (wl ws) W H n), .bool (hasL (wl ws) n)]⟩) σ') : Tri Try.prog 17 [ptr t, i64 n] σ K := by
  cases hh : hasL (wl ws) n with
  | false =>
    refine c17n ok.srt hh Hh P fun σ' new H' => ?_
    have := hK σ' new H'
    unfold rho at this
    rw [hh, if_neg (by simp)] at this
    exact this
  | true =>
    obtain ⟨fs, s, a, rfl⟩ := ok.at_has hh
    refine c17 ok hW hW1 hH hH1 fs s a Hh P fun σ' new H' => ?_
    have := hK σ' new H'
    rw [ok.rho a, hh] at this
    exact this
theorem c65' (ok : Ok L last tr) (hW : 0 ≤ W) (hW1 : W ≤ 1000) (hH : 0 ≤ H) (hH1 : H ≤ 1000) (Hh : Has σ X) (R : RIn x W H last L X)
    (hK : ∀ σ' new, Has σ' (new ++ X) → K (.tuple ⟨[rV (rho L W H n), .bool (hasL L n)]⟩) σ') : Tri Try.prog 65 [ptr x, i64 n] σ K := by
  have hl : L.length ≤ 1000 := by have := ok.len; omega
  cases hh : hasL L n with
  | false =>
    refine c65n ok.srt hl hh Hh R fun σ' new H' => ?_
    have := hK σ' new H'
    unfold rho at this
    rw [hh, if_neg (by simp)] at this
    exact this
  | true =>
    obtain ⟨fs, s, a, rfl⟩ := ok.at_has hh
    refine c65 ok hW hW1 hH hH1 fs s a Hh R fun σ' new H' => ?_
    have := hK σ' new H'
    rw [ok.rho a, hh] at this
    exact this
theorem has0 (ok : Ok L last tr) : hasL L 0 = false := by
  cases h : hasL L 0 with
  | false => rfl
  | true =>
    obtain ⟨w, hw, e⟩ := hasL_iff.1 h
    have := ok.rng w hw
    omega
theorem sib_zero (h0 : hasL L 0 = false) (hp : (ofL L n).p = 0) : sibL L n = 0 := by
  unfold sibL
  rw [hp, ofL_none h0]
  unfold zeroW
  simp only
  split <;> rfl
theorem tupRB {P : Int → Int → Int → Int → Bool → Prop} {r : R4} {b : Bool} (h : P r.x r.y r.w r.h b) : tTup (.tuple ⟨[rV r, .bool b]⟩) fun l77 => pSome l77[0]? fun u78 => tAgg u78 fun l79 => tCons l79 fun v80 l81 => tI .i64 v80 fun n82 => tCons l81 fun v83 l84 => tI .i64 v83 fun n85 => tCons l84 fun v86 l87 => tI .i64 v86 fun n88 => tCons l87 fun v89 l90 => tI .i64 v89 fun n91 => tNil l90 (tTup (.tuple ⟨[rV r, .bool b]⟩) fun l92 => pSome l92[1]? fun u93 => tB u93 fun b94 => P n82 n85 n88 n91 b94) := by
  simp only [tTup_tup, pSome_some, List.getElem?_cons_zero, List.getElem?_cons_succ, tAgg, tCons, tI_int, tNil, tB_bool]
  exact h
/-- Both tell the same of a window. -/
theorem okUp {lr : Int} (ok : Ok L last tr) (h : last ≤ lr) : Ok L lr tr := ⟨ok.perm, ok.srt, fun w hw => ⟨(ok.rng w hw).1, by have := (ok.rng w hw).2; omega⟩, ok.wok, ok.keys, ok.len⟩
theorem c56 {lr : Int} (hlr : last ≤ lr) (ok : Ok (wl ws) last tr) (hW : 0 ≤ W) (hW1 : W ≤ 1000) (hH : 0 ≤ H) (hH1 : H ≤ 1000) (Hh : Has σ X) (P : PIn t m W H root last ws c X) (R : RIn x W H lr (wl ws) X)
    (hK : ∀ σ' new, Has σ' (new ++ X) → K (.bool true) σ') : Tri Try.prog 56 [ptr t, ptr x, i64 n] σ K := tri_in (by
  rw [s56]
  have hl : (wl ws).length ≤ 1000 := by have := ok.len; omega
  refine c29 Hh R ok.srt hl fun σ1 new1 H1 => ?_
  simp only [tAgg, tCons, tI_int, tNil]
  refine newAt_mk H1 fun i27 σ2 H2 => ?_
  refine puts_mk H2 0 rfl rfl (by simp) fun σ3 H3 => ?_
  have H3' : Has σ3 ((i27, .row .plain (winR (ofL (wl ws) n))) :: (new1 ++ X)) := H3
  refine c20 H3' P.new.cons ok.srt fun σ4 new4 H4 => ?_
  simp only [tTup_tup, pSome_some, List.getElem?_cons_zero, List.getElem?_cons_succ, tI_int]
  refine c30' ok H4 P.new.cons.new ?_
  simp only [tTup_tup, pSome_some, List.getElem?_cons_zero, List.getElem?_cons_succ, tI_int]
  refine c17' ok hW hW1 hH hH1 H4 P.new.cons.new fun σ5 new5 H5 => ?_
  refine tupRB ?_
  refine newAt_mk H5 fun i72 σ6 H6 => ?_
  refine puts_mk H6 0 rfl rfl (by simp) fun σ7 H7 => ?_
  have H7' : Has σ7 ((i72, .row .plain (rL (rho (wl ws) W H n))) :: (new5 ++ (new4 ++ (i27, .row .plain (winR (ofL (wl ws) n))) :: (new1 ++ X)))) := H7
  refine c65' (okUp ok hlr) hW hW1 hH hH1 H7' R.new.cons.new.new.cons fun σ8 new8 H8 => ?_
  refine tupRB ?_
  refine newAt_mk H8 fun i95 σ9 H9 => ?_
  refine puts_mk H9 0 rfl rfl (by simp) fun σ10 H10 => ?_
  have H10' : Has σ10 ((i95, .row .plain (rL (rho (wl ws) W H n))) :: (new8 ++ (i72, .row .plain (rL (rho (wl ws) W H n))) :: (new5 ++ (new4 ++ (i27, .row .plain (winR (ofL (wl ws) n))) :: (new1 ++ X))))) := H10
  refine ldsm H10' (show (i72, AObj.row .plain (rL (rho (wl ws) W H n))) ∈ _ by simp) (by simp) ?_
  simp only [List.drop_zero, List.take_succ_cons, List.take_zero, tCons, tI_int, tNil]
  refine ldsm H10' (show (i95, AObj.row .plain (rL (rho (wl ws) W H n))) ∈ _ by simp) (by simp) ?_
  simp only [List.drop_zero, List.take_succ_cons, List.take_zero, tCons, tI_int, tNil, beq_self_eq_true, Bool.and_self, Bool.not_true, bm_false]
  -- where things lie
  obtain ⟨X10, P10, R10, m10, hend, HX⟩ : ∃ X10, PIn t m W H root last ws c X10 ∧ RIn x W H lr (wl ws) X10 ∧ (∀ new, (i27, AObj.row .plain (winR (ofL (wl ws) n))) ∈ new ++ X10) ∧ (∀ σ' new, Has σ' (new ++ X10) → K (.bool true) σ') ∧ Has σ10 ([] ++ X10) := by
    refine ⟨_, P.new.cons.new.new.cons.new.cons, R.new.cons.new.new.cons.new.cons, fun new => by simp, fun σ' new h => ?_, H10'⟩
    refine hK σ' (new ++ ((i95, .row .plain (rL (rho (wl ws) W H n))) :: (new8 ++ (i72, .row .plain (rL (rho (wl ws) W H n))) :: (new5 ++ (new4 ++ (i27, .row .plain (winR (ofL (wl ws) n))) :: new1))))) ?_
    simpa using h
  clear H10' H10 H9 H8 H7' H7 H6 H5 H4 H3' H3 H2 H1 Hh hK
  generalize hw : ofL (wl ws) n = w at *
  have hkp : w.k = 0 → w.p = 0 := fun h => by
    rw [← hw] at h ⊢
    cases hh : hasL (wl ws) n with
    | false => rw [ofL_none hh]; rfl
    | true =>
      obtain ⟨w', hw', rfl⟩ := hasL_iff.1 hh
      rw [ofL_mem ok.srt hw'] at h
      rcases ok.wok w' hw' with g | g <;> omega
  have hsib : w.p = 0 → sibL (wl ws) n = 0 := fun h => sib_zero (has0 ok) (by rw [hw]; exact h)
  have fin : ∀ σ' new, Has σ' (new ++ X10) → ldc σ' ⟨i27, 0 + 5, none⟩ fun v163 => tI .i64 v163 fun n164 => bmatch (w.m == n164) (ldc σ' ⟨i27, 0 + 6, none⟩ fun v165 => tI .u32 v165 fun n166 => bmatch (w.s == n166) (ldc σ' ⟨i27, 0 + 7, none⟩ fun v167 => tI .i64 v167 fun n168 => K (.bool (w.key == n168)) σ') (K (.bool false) σ')) (K (.bool false) σ') := fun σ' new h => by
    refine ldm h (m10 new) rfl ?_
    rw [tI_int, beq_self_eq_true, bm_true]
    refine ldm h (m10 new) rfl ?_
    rw [tI_int, beq_self_eq_true, bm_true]
    refine ldm h (m10 new) rfl ?_
    rw [tI_int, beq_self_eq_true]
    exact hend σ' new h
  have sz : ∀ σ' new, Has σ' (new ++ X10) → w.p = 0 → Tri Try.prog 26 [ptr t, i64 n] σ' fun v σ'' => tI .i64 v fun n162 => bmatch (n162 != 0) (K (.bool false) σ'') (ldc σ'' ⟨i27, 0 + 5, none⟩ fun v163 => tI .i64 v163 fun n164 => bmatch (w.m == n164) (ldc σ'' ⟨i27, 0 + 6, none⟩ fun v165 => tI .u32 v165 fun n166 => bmatch (w.s == n166) (ldc σ'' ⟨i27, 0 + 7, none⟩ fun v167 => tI .i64 v167 fun n168 => K (.bool (w.key == n168)) σ'') (K (.bool false) σ'')) (K (.bool false) σ'')) := fun σ' new h h0 => by
    refine c26 h P10.new ok.srt fun σ'' new' h' => ?_
    rw [tI_int, hsib h0, show ((0 : Int) != 0) = false from rfl, bm_false]
    rw [← List.append_assoc] at h'
    exact fin σ'' _ h'
  have nb : ∀ a : Int, (a != a) = false := fun a => by simp
  refine ldm HX (m10 []) rfl ?_
  rw [tI_int]
  refine c18 HX P10.new ok.srt fun σ11 new11 H11 => ?_
  rw [tI_int, hw]
  rw [← List.append_assoc] at H11
  refine ldm H11 (m10 _) rfl ?_
  rw [tI_int]
  refine ⟨rfl, ?_⟩
  rw [nb, bm_false]
  refine ldm H11 (m10 _) rfl ?_
  rw [tI_int]
  refine c24 H11 P10.new ok.srt fun σ12 new12 H12 => ?_
  rw [tI_int, hw]
  rw [← List.append_assoc] at H12
  refine ldm H12 (m10 _) rfl ?_
  rw [tI_int]
  refine ⟨rfl, ?_⟩
  rw [nb, bm_false]
  refine ldm H12 (m10 _) rfl ?_
  rw [tI_int, nb, bm_false]
  refine ldm H12 (m10 _) rfl ?_
  rw [tI_int, nb, bm_false]
  refine c23 ?_
  rw [tI_int]
  refine c62 H12 R10.new ok.srt hl fun σ13 new13 H13 => ?_
  rw [tI_int, nb, bm_false]
  rw [← List.append_assoc] at H13
  refine ldm H13 (m10 _) rfl ?_
  rw [tI_int]
  refine bne_mk (fun hk => ?_) (fun hk => ?_)
  · refine ldm H13 (m10 _) rfl ?_
    rw [tI_int]
    refine bne_mk (fun hp => ?_) (fun hp => ?_)
    · refine c26 H13 P10.new ok.srt fun σ14 new14 H14 => ?_
      rw [tI_int]
      rw [← List.append_assoc] at H14
      refine c61 H14 R10.new ok.srt hl fun σ15 new15 H15 => ?_
      rw [tI_int, nb, bm_false]
      rw [← List.append_assoc] at H15
      refine ldm H15 (m10 _) rfl ?_
      rw [tI_int]
      refine beq_mk (fun g => absurd g hk) (fun _ => ?_)
      refine ldm H15 (m10 _) rfl ?_
      rw [tI_int]
      refine beq_mk (fun g => absurd g hp) (fun _ => ?_)
      exact fin _ _ H15
    · refine ldm H13 (m10 _) rfl ?_
      rw [tI_int]
      refine beq_mk (fun g => absurd g hk) (fun _ => ?_)
      refine ldm H13 (m10 _) rfl ?_
      rw [tI_int]
      refine beq_mk (fun _ => ?_) (fun g => absurd hp g)
      exact sz _ _ H13 hp
  · refine ldm H13 (m10 _) rfl ?_
    rw [tI_int]
    refine beq_mk (fun _ => ?_) (fun g => absurd hk g)
    exact sz _ _ H13 (hkp hk))
end
end Go.AI
end
section
set_option linter.unusedSimpArgs false
set_option linter.unusedVariables false
set_option maxRecDepth 10000
/- Both trees side by side: all that is told, and one act; no condition but those that each names. -/
namespace Go.AI
open Go.Proofs Go.Pane
section
variable {σ : AS} {K : Value → AS → Prop} {X fr : List (Nat × AObj)} {t m x c : Nat} {n W H root last : Int} {L : List Win} {tr : Option T} {ws : List PW}
/-- All that is told of both. -/
theorem c34 {lr : Int} (hlr : last ≤ lr) (ok : Ok (wl ws) last tr) (hb : BornOk ws c) (hr : root = rootL (wl ws)) (hW : 0 ≤ W) (hW1 : W ≤ 1000) (hH : 0 ≤ H) (hH1 : H ≤ 1000) (Hh : Has σ X) (P : PIn t m W H root last ws c X) (R : RIn x W H lr (wl ws) X)
    (hK : ∀ σ' new, Has σ' (new ++ X) → K (.bool true) σ') : Tri Try.prog 34 [ptr t, ptr x] σ K := tri_in (by
  rw [s34]
  have hl : (wl ws).length ≤ 1000 := by have := ok.len; omega
  have hl2 : ws.length ≤ 1000 := by have : (wl ws).length = ws.length := by unfold wl; simp
                                    omega
  have hlm : ((wl ws).map (·.n)).length = (wl ws).length := List.length_map ..
  refine c54 Hh R hl fun σ1 a e fr1 hs1 H1 => ?_
  refine tL_ok hs1.no ?_
  refine c16 H1 P.new hb ok.srt hl2 fun σ2 a2 new2 fr2 hs2 H2 => ?_
  rw [← hlm]
  refine tL_ok hs2.no ?_
  simp only
  have r1 : RdI a 1 ((wl ws).map (·.n)) (fr2 ++ (new2 ++ (fr1 ++ X))) := hs1.e1.rd fun p hp => by simp [hp]
  have r2 : RdI a2 1 ((wl ws).map (·.n)) (fr2 ++ (new2 ++ (fr1 ++ X))) := hs2.rd fun p hp => by simp [hp]
  have rX : ∀ p ∈ X, p ∈ fr2 ++ (new2 ++ (fr1 ++ X)) := fun p hp => by simp [hp]
  have hend : ∀ σ' new, Has σ' (new ++ (fr2 ++ (new2 ++ (fr1 ++ X)))) → K (.bool true) σ' := fun σ' new h => hK σ' (new ++ (fr2 ++ (new2 ++ fr1))) (by simpa using h)
  have P' : PIn t m W H root last ws c (fr2 ++ (new2 ++ (fr1 ++ X))) := P.mono rX
  have R' : RIn x W H lr (wl ws) (fr2 ++ (new2 ++ (fr1 ++ X))) := R.mono rX
  generalize fr2 ++ (new2 ++ (fr1 ++ X)) = Y at *
  clear P R Hh H1 hK rX
  refine c35 r2 r1 H2 (by rw [hlm]; omega) ?_
  rw [tB_bool, decide_eq_true rfl, Bool.not_true, bm_false]
  refine c27 H2 P' ?_
  rw [tI_int]
  refine c55 H2 R' hl ?_
  rw [tI_int, hr, bne_self_eq_false, bm_false]
  refine aloop (fun (i : Nat) rg σ' => i ≤ (wl ws).length ∧ (∃ new, Has σ' (new ++ Y)) ∧ rg = [(0, some (ptr t)), (1, some (ptr x)), (5, some (.slice a ((wl ws).map (·.n)).length 1)), (6, some (i64 i))]) (fun i => (wl ws).length - i) ?_ (a := 0) ⟨Nat.zero_le _, ⟨[], H2⟩, rfl⟩
  rintro i rg σ3 Z hZ ⟨hi, ⟨new3, H3⟩, rfl⟩
  rw [s34l]
  refine bmd_mk (fun g => ?_) (fun g => ?_)
  · rw [hlm] at g
    obtain ⟨v, hv⟩ : ∃ v, ((wl ws).map (·.n))[i]? = some v := ⟨((wl ws).map (·.n))[i]'(by rw [hlm]; omega), List.getElem?_eq_getElem _⟩
    refine rdI (r1.mono fun p hp => List.mem_append_right _ hp) H3 hv rfl ?_
    rw [tI_int]
    refine c56 hlr ok hW hW1 hH hH1 H3 P'.new R'.new fun σ4 new4 H4 => ?_
    rw [tB_bool, Bool.not_true, bm_false]
    have e1 : IntKind.wrap .i64 ((i : Int) + 1) = ((i + 1 : Nat) : Int) := by rw [wrap64 (by omega) (by omega)]; omega
    rw [e1]
    rw [← List.append_assoc] at H4
    exact hZ (i + 1) _ _ (by omega) ⟨by omega, ⟨_, H4⟩, rfl⟩
  · refine c56 hlr ok hW hW1 hH hH1 H3 P'.new R'.new fun σ4 new4 H4 => ?_
    rw [tB_bool, bm_true]
    rw [← List.append_assoc] at H4
    refine c56 hlr ok hW hW1 hH hH1 H4 P'.new R'.new fun σ5 new5 H5 => ?_
    rw [tB_bool, bm_true]
    rw [← List.append_assoc] at H5
    obtain ⟨aa, ee, g1, g2, g3⟩ := R'.ex
    refine ldm H5 (List.mem_append_right _ g1) rfl ?_
    rw [tI_int]
    refine c56 hlr ok hW hW1 hH hH1 H5 P'.new R'.new fun σ6 new6 H6 => ?_
    rw [tB_bool]
    rw [← List.append_assoc] at H6
    exact hend _ _ H6)
end
end Go.AI
end
section
set_option linter.unusedSimpArgs false
set_option linter.unusedVariables false
set_option maxRecDepth 10000
/- One act done to both trees; no condition but those that each names. -/
namespace Go.Pane
open Go.AI
variable {L : List Win} {last : Int} {tr : Option T}
theorem Ok.openN {split m sz kind : Int} (ok : Ok L last tr) (h0 : 0 ≤ last) (hz : 0 ≤ sz ∧ sz < 4294967296) (h : openE L split m kind = 0) : ∃ tr', Ok (openN L last split m sz kind) (openLast last split) tr' := by
  unfold openE at h
  split at h
  · cases h
  · rename_i hk
    unfold Go.AI.openN Go.AI.openLast
    split at h
    · rename_i hs
      split at h
      · rename_i hL
        rw [if_pos hs, if_pos hs]
        subst hL
        exact ⟨_, ok.first (by omega) h0⟩
      · cases h
    · rename_i hs
      rw [if_neg hs, if_neg hs]
      split at h
      · cases h
      · rename_i hh
        split at h
        · cases h
        · rename_i hv
          split at h
          · cases h
          · rename_i hl
            obtain ⟨fs, s, a, rfl⟩ := ok.at_has (by simpa using hh)
            have e : (ofL L s.num).p = top fs := by rw [ok.of_at a, T.win_p]
            rw [e]
            exact ⟨_, ok.opened a (validB_iff.1 (by simpa using hv)) (by omega) hz (by omega)⟩
theorem Ok.closeL {n : Int} (ok : Ok L last tr) (h : hasL L n = true) : ∃ tr', Ok (closeL L n) last tr' := by
  obtain ⟨fs, s, a, rfl⟩ := ok.at_has h
  exact ⟨_, ok.closed a⟩
theorem Ok.arrL {pair m sz key : Int} (ok : Ok L last tr) (hz : 0 ≤ sz ∧ sz < 4294967296) (h : arrE L pair m key = 0) : ∃ tr', Ok (arrL L pair m sz key) last tr' := by
  unfold arrE at h
  split at h
  · rename_i g; exact absurd h g
  · rename_i hp
    split at h
    · cases h
    · rename_i hv
      split at h
      · cases h
      · rename_i hk
        have hh : hasL L pair = true := by
          unfold pairE at hp
          split at hp
          · exact absurd (by decide : (5 : Int) ≠ 0) hp
          · rename_i g; simpa using g
        have h4 : (ofL L pair).k = 4 := by
          unfold pairE at hp
          rw [hh, if_neg (by simp)] at hp
          split at hp
          · assumption
          · exact absurd (by decide : (1 : Int) ≠ 0) hp
        obtain ⟨fs, s, a, rfl⟩ := ok.at_has hh
        cases s with
        | lf n k =>
          have := ok.wok _ (ok.at a)
          rw [ok.of_at a] at h4
          rcases this with g | g
          · have := g.2.1; unfold validM T.win at this; simp only at this; omega
          · rw [h4] at g; omega
        | nd n m0 s0 key0 x y =>
          refine ⟨_, ok.arranged a (m := m) (sz := sz) (key := key) (validB_iff.1 ?_) hz ?_⟩
          · cases hvb : validB m with
            | true => rfl
            | false => exact absurd (.inl hvb) hv
          · by_cases hk0 : key = 0
            · exact .inl hk0
            · right
              cases hx : hasL L key with
              | true => rfl
              | false => exact absurd ⟨hk0, .inl hx⟩ hk
theorem rootL_arr (n m sz key : Int) : rootL (Go.Pane.arrL L n m sz key) = rootL L := by
  unfold rootL Go.Pane.arrL
  induction L with
  | nil => rfl
  | cons w L ih =>
    rw [List.map_cons, List.find?_cons, List.find?_cons]
    have e : (arrW n m sz key w).p = w.p := by unfold arrW; split <;> rfl
    rw [e]
    cases w.p == 0 with
    | true => simp only [Option.map_some, Option.getD_some]; rw [arrW_n]
    | false => exact ih
end Go.Pane
namespace Go.AI
open Go.Proofs Go.Pane
section
variable {σ : AS} {K : Value → AS → Prop} {X fr : List (Nat × AObj)} {t m x c : Nat} {n W H root last : Int} {L : List Win} {tr : Option T} {ws : List PW}
/-- Both trees' objects. -/
def St (t m x : Nat) (W H last : Int) (L : List Win) (fr : List (Nat × AObj)) (σ : AS) : Prop :=
  ∃ ws c a e rw, wl ws = L ∧ BornOk ws c ∧ RRow a e L rw ∧ Has σ (progL t m W H (rootL L) last ws c (refL x W H a e last L rw fr))
/-- Both trees, well. -/
structure Jt (t m x : Nat) (b W H last : Int) (L : List Win) (tr : Option T) (fr : List (Nat × AObj)) (σ : AS) : Prop where
  st : St t m x W H last L fr σ
  ok : Ok L last tr
  w0 : 0 ≤ W
  w1 : W ≤ 1000
  h0 : 0 ≤ H
  h1 : H ≤ 1000
  l0 : 0 ≤ last
  l1 : last ≤ b
theorem swapPR {A : List (Nat × AObj)} {a : Option Addr} {e : Nat} {rw : List (Nat × AObj)} {W' H' last' : Int} (h : Has σ (A ++ progL t m W H root last ws c (refL x W' H' a e last' L rw fr))) :
    Has σ (refL x W' H' a e last' L rw (A ++ progL t m W H root last ws c fr)) := by
  refine h.perm ?_
  show ((x, refO W' H' a L.length e last') :: rw ++ (A ++ ((t, treeO W H root last m) :: (m, mapO ws c) :: ws.map objM ++ fr))).Perm (A ++ ((t, treeO W H root last m) :: (m, mapO ws c) :: ws.map objM ++ ((x, refO W' H' a L.length e last') :: rw ++ fr)))
  refine (List.perm_append_comm_assoc ..).trans (.append_left _ (List.perm_append_comm_assoc ..))
theorem swapRP {B : List (Nat × AObj)} {a : Option Addr} {e : Nat} {rw : List (Nat × AObj)} {W' H' last' : Int} (h : Has σ (refL x W' H' a e last' L rw (B ++ progL t m W H root last ws c fr))) :
    Has σ (progL t m W H root last ws c (refL x W' H' a e last' L rw fr)) := by
  have h2 : Has σ (refL x W' H' a e last' L rw (progL t m W H root last ws c fr)) := h.sub (by
    refine .cons_cons _ (.append (.refl _) (List.sublist_append_right _ _)))
  refine h2.perm ?_
  show ((t, treeO W H root last m) :: (m, mapO ws c) :: ws.map objM ++ ((x, refO W' H' a L.length e last') :: rw ++ fr)).Perm ((x, refO W' H' a L.length e last') :: rw ++ ((t, treeO W H root last m) :: (m, mapO ws c) :: ws.map objM ++ fr))
  exact List.perm_append_comm_assoc ..
theorem st_of {B : List (Nat × AObj)} (hw : wl ws = L) (hb : BornOk ws c) (S : RSt x W H last L (B ++ progL t m W H (rootL L) last ws c fr) σ) : St t m x W H last L fr σ := by
  obtain ⟨a, e, rw', h, Hh⟩ := S
  exact ⟨ws, c, a, e, rw', hw, hb, h, swapRP Hh⟩
theorem St.drop {p : List (Nat × AObj)} (S : St t m x W H last L (p ++ fr) σ) : St t m x W H last L fr σ := by
  obtain ⟨ws, c, a, e, rw', hw, hb, h, Hh⟩ := S
  exact ⟨ws, c, a, e, rw', hw, hb, h, Hh.sub (by
    refine .cons_cons _ (.cons_cons _ (.append (.refl _) (.cons_cons _ (.append (.refl _) (List.sublist_append_right _ _))))))⟩
end
end Go.AI
end
section
set_option linter.unusedSimpArgs false
set_option linter.unusedVariables false
set_option maxRecDepth 10000
/- One act done to both trees; no condition but those that each names. -/
namespace Go.AI
open Go.Proofs Go.Pane
section
variable {σ : AS} {K : Value → AS → Prop} {X fr : List (Nat × AObj)} {t m x c : Nat} {n W H root last b : Int} {L : List Win} {tr : Option T} {ws : List PW}
abbrev actL (k a b c z : Int) (near : Bool) : List Value := [i64 k, i64 a, i64 b, i64 c, u32 z, .bool near]
/-- An act's numbers. -/
structure ActOk (b c z : Int) : Prop where
  b : In64 b
  z : 0 ≤ z ∧ z < 4294967296
/-- Where an act's row lies. -/
theorem slR_nil {e : Nat} : SlR none e [] [] := .inl ⟨rfl, rfl, rfl⟩
theorem b23 {n k : Int} (e : n = k) (hK : K (.bool true) σ) : Tri Try.prog 23 [i64 n] σ fun v σ' => tI .i64 v fun q => K (.bool (q == k)) σ' := c23 (by rw [tI_int, e, beq_self_eq_true]; exact hK)
/-- Both arrange a pair. -/
theorem arr_both {i0 : Nat} {k a1 b1 c1 z win key : Int} {near : Bool} (ha : ActOk b1 c1 z) (J : Jt t m x b W H last L tr ((i0, .row .plain (actL k a1 b1 c1 z near)) :: fr) σ)
    (hK : ∀ σ' L' tr', Jt t m x b W H last L' tr' fr σ' → K (.bool true) σ') :
    ldc σ ⟨i0, 0 + 2, none⟩ fun v58 => tI .i64 v58 fun n59 => ldc σ ⟨i0, 0 + 4, none⟩ fun v60 => tI .u32 v60 fun n61 => ldc σ ⟨i0, 0 + 2, none⟩ fun v62 => tI .i64 v62 fun n63 => ldc σ ⟨i0, 0 + 4, none⟩ fun v64 => tI .u32 v64 fun n65 =>
    Tri Try.prog 36 [ptr t, i64 win, i64 n59, u32 n61, i64 key] σ fun v66 σ67 => tI .i64 v66 fun n68 => ldc σ67 ⟨i0, 0 + 4, none⟩ fun v69 => tI .u32 v69 fun n70 => u32 n65 = u32 n70 ∧ ldc σ67 ⟨i0, 0 + 2, none⟩ fun v71 => tI .i64 v71 fun n72 => i64 n63 = i64 n72 ∧
    Tri Try.prog 23 [i64 n68] σ67 fun v73 σ74 => tI .i64 v73 fun n75 => ldc σ74 ⟨i0, 0 + 4, none⟩ fun v76 => tI .u32 v76 fun n77 => u32 n65 = u32 n77 ∧ ldc σ74 ⟨i0, 0 + 2, none⟩ fun v78 => tI .i64 v78 fun n79 => i64 n63 = i64 n79 ∧
    Tri Try.prog 51 [ptr x, i64 win, i64 n63, u32 n65, i64 key] σ74 fun v80 σ81 => tI .i64 v80 fun n82 => K (.bool (n75 == n82)) σ81 := by
  obtain ⟨ws, c, a, e, rw', hw, hb, h, Hh⟩ := J.st
  have ok := J.ok
  subst hw
  have mem : ∀ new ws' c' root', (i0, AObj.row .plain (actL k a1 b1 c1 z near)) ∈ new ++ progL t m W H root' last ws' c' (refL x W H a e last (wl ws) rw' ((i0, .row .plain (actL k a1 b1 c1 z near)) :: fr)) := fun new ws' c' root' => by simp
  have mem0 := mem [] ws c (rootL (wl ws))
  rw [List.nil_append] at mem0
  refine ldm Hh mem0 rfl ?_
  rw [tI_int]
  refine ldm Hh mem0 rfl ?_
  rw [tI_int]
  refine ldm Hh mem0 rfl ?_
  rw [tI_int]
  refine ldm Hh mem0 rfl ?_
  rw [tI_int]
  refine c36 ok ha.b Hh (fun hE σ1 new H1 => ?_) (fun hE σ1 ws1 new hw1 hb1 H1 => ?_)
  · rw [tI_int]
    refine ldm H1 (mem _ _ _ _) rfl ?_
    rw [tI_int]
    refine ⟨rfl, ?_⟩
    refine ldm H1 (mem _ _ _ _) rfl ?_
    rw [tI_int]
    refine ⟨rfl, ?_⟩
    refine c23 ?_
    rw [tI_int]
    refine ldm H1 (mem _ _ _ _) rfl ?_
    rw [tI_int]
    refine ⟨rfl, ?_⟩
    refine ldm H1 (mem _ _ _ _) rfl ?_
    rw [tI_int]
    refine ⟨rfl, ?_⟩
    refine c51 ok ⟨a, e, rw', h, swapPR H1⟩ (fun _ σ2 S2 => ?_) (fun g => absurd g hE)
    rw [tI_int, beq_self_eq_true]
    exact hK σ2 _ _ ⟨(st_of rfl hb S2).drop (p := [(i0, .row .plain (actL k a1 b1 c1 z near))]), ok, J.w0, J.w1, J.h0, J.h1, J.l0, J.l1⟩
  · rw [tI_int]
    refine ldm H1 (mem _ _ _ _) rfl ?_
    rw [tI_int]
    refine ⟨rfl, ?_⟩
    refine ldm H1 (mem _ _ _ _) rfl ?_
    rw [tI_int]
    refine ⟨rfl, ?_⟩
    refine c23 ?_
    rw [tI_int]
    refine ldm H1 (mem _ _ _ _) rfl ?_
    rw [tI_int]
    refine ⟨rfl, ?_⟩
    refine ldm H1 (mem _ _ _ _) rfl ?_
    rw [tI_int]
    refine ⟨rfl, ?_⟩
    refine c51 ok ⟨a, e, rw', h, swapPR H1⟩ (fun g => absurd hE g) (fun _ σ2 S2 => ?_)
    rw [tI_int, beq_self_eq_true]
    obtain ⟨tr', ok'⟩ := ok.arrL ha.z hE
    rw [← rootL_arr win b1 z key] at S2
    exact hK σ2 _ _ ⟨(st_of hw1 (hb1 hb) S2).drop (p := [(i0, .row .plain (actL k a1 b1 c1 z near))]), ok', J.w0, J.w1, J.h0, J.h1, J.l0, J.l1⟩
/-- Both close a window. -/
theorem close_both {i0 : Nat} {win : Int} {o : AObj} (J : Jt t m x b W H last L tr ((i0, o) :: fr) σ)
    (hK : ∀ σ' L' tr', Jt t m x b W H last L' tr' fr σ' → K (.bool true) σ') :
    Tri Try.prog 28 [ptr t, i64 win] σ fun v2 σ3 => tTup v2 fun l4 => pSome l4[0]? fun u5 => tL 1 u5 fun s6 => tTup v2 fun l7 => pSome l7[1]? fun u8 => tI .i64 u8 fun n9 =>
    Tri Try.prog 50 [ptr x, i64 win] σ3 fun v10 σ11 => tTup v10 fun l12 => pSome l12[0]? fun u13 => tL 1 u13 fun s14 => tTup v10 fun l15 => pSome l15[1]? fun u16 => tI .i64 u16 fun n17 =>
    Tri Try.prog 35 [.slice s6.a s6.n 1, .slice s14.a s14.n 1] σ11 fun v18 σ19 => tB v18 fun b20 => bmatch b20 (Tri Try.prog 23 [i64 n9] σ19 fun v21 σ22 => tI .i64 v21 fun n23 => K (.bool (n23 == n17)) σ22) (K (.bool false) σ19) := by
  obtain ⟨ws, c, a, e, rw', hw, hb, h, Hh⟩ := J.st
  have ok := J.ok
  subst hw
  cases hh : hasL (wl ws) win with
  | false =>
    refine c28 ok hb rfl Hh (fun _ => ?_) (fun g => by rw [hh] at g; cases g)
    simp only [tTup_tup, pSome_some, List.getElem?_cons_zero, List.getElem?_cons_succ, tI_int]
    refine tL_ok (e := 0) rfl ?_
    refine c50 ok ⟨a, e, rw', h, swapPR (A := []) Hh⟩ (fun _ => ?_) (fun g => by rw [hh] at g; cases g)
    simp only [tTup_tup, pSome_some, List.getElem?_cons_zero, List.getElem?_cons_succ, tI_int]
    refine tL_ok (e := 0) rfl ?_
    refine c35 (xs := []) (ys := []) (.inl rfl) (.inl rfl) Hh (by simp) ?_
    rw [tB_bool, decide_eq_true rfl, bm_true]
    refine b23 rfl ?_
    exact hK σ _ _ ⟨St.drop (p := [(i0, o)]) ⟨ws, c, a, e, rw', rfl, hb, h, Hh⟩, ok, J.w0, J.w1, J.h0, J.h1, J.l0, J.l1⟩
  | true =>
    refine c28 ok hb rfl Hh (fun g => by rw [hh] at g; cases g) (fun _ σ1 ws1 root1 a1 frg new hw1 hr1 hb1 hs1 H1 => ?_)
    simp only [tTup_tup, pSome_some, List.getElem?_cons_zero, List.getElem?_cons_succ, tI_int]
    refine tL_ok hs1.no ?_
    have H1' : Has σ1 ((frg ++ new) ++ progL t m W H root1 last ws1 c (refL x W H a e last (wl ws) rw' ((i0, o) :: fr))) := by rw [List.append_assoc]; exact H1
    refine c50 ok ⟨a, e, rw', h, swapPR H1'⟩ (fun g => by rw [hh] at g; cases g) (fun _ σ2 a2 e2 frg2 hs2 S2 => ?_)
    simp only [tTup_tup, pSome_some, List.getElem?_cons_zero, List.getElem?_cons_succ, tI_int]
    refine tL_ok hs2.no ?_
    obtain ⟨tr', ok'⟩ := ok.closeL hh
    have hlen : ((goneL (wl ws) win).map (·.n)).length ≤ 1000000 := by
      have h1 := List.length_filter_le (outW (wl ws) win) (wl ws)
      have h2 := ok.len
      rw [List.length_map]
      unfold goneL
      omega
    obtain ⟨a4, e4, rw4, h4, H4⟩ := S2
    refine c35 (hs1.rd (X := refL x W H a4 e4 last (closeL (wl ws) win) rw4 (frg2 ++ ((frg ++ new) ++ progL t m W H root1 last ws1 c ((i0, o) :: fr)))) fun p hp => by simp [hp]) (hs2.e1.rd fun p hp => by simp [hp]) H4 hlen ?_
    rw [tB_bool, decide_eq_true rfl, bm_true]
    refine b23 rfl ?_
    subst hr1
    rw [hw1, ← List.append_assoc] at H4
    exact hK σ2 _ _ ⟨(st_of hw1 hb1 ⟨a4, e4, rw4, h4, H4⟩).drop (p := [(i0, o)]), ok', J.w0, J.w1, J.h0, J.h1, J.l0, J.l1⟩
/-- Both open a window. -/
theorem open_both {i0 : Nat} {k a1 b1 c1 z win : Int} {near : Bool} (hb9 : b ≤ 1000) (ha : ActOk b1 c1 z) (J : Jt t m x b W H last L tr ((i0, .row .plain (actL k a1 b1 c1 z near)) :: fr) σ)
    (hK : ∀ σ' last' L' tr', Jt t m x (b + 2) W H last' L' tr' fr σ' → K (.bool true) σ') :
    ldc σ ⟨i0, 0 + 2, none⟩ fun v133 => tI .i64 v133 fun n134 => ldc σ ⟨i0, 0 + 4, none⟩ fun v135 => tI .u32 v135 fun n136 => ldc σ ⟨i0, 0 + 3, none⟩ fun v137 => tI .i64 v137 fun n138 =>
    Tri Try.prog 22 [ptr t, i64 win, i64 n134, u32 n136, i64 n138] σ fun v139 σ140 => tTup v139 fun l141 => pSome l141[0]? fun u142 => tI .i64 u142 fun n143 => tTup v139 fun l144 => pSome l144[1]? fun u145 => tI .i64 u145 fun n146 =>
    ldc σ140 ⟨i0, 0 + 2, none⟩ fun v147 => tI .i64 v147 fun n148 => ldc σ140 ⟨i0, 0 + 4, none⟩ fun v149 => tI .u32 v149 fun n150 => ldc σ140 ⟨i0, 0 + 3, none⟩ fun v151 => tI .i64 v151 fun n152 =>
    Tri Try.prog 53 [ptr x, i64 win, i64 n148, u32 n150, i64 n152] σ140 fun v153 σ154 => tTup v153 fun l155 => pSome l155[0]? fun u156 => tI .i64 u156 fun n157 => tTup v153 fun l158 => pSome l158[1]? fun u159 => tI .i64 u159 fun n160 =>
    bmatch (n143 == n157) (Tri Try.prog 23 [i64 n146] σ154 fun v161 σ162 => tI .i64 v161 fun n163 => K (.bool (n163 == n160)) σ162) (K (.bool false) σ154) := by
  obtain ⟨ws, c, a, e, rw', hw, hb, h, Hh⟩ := J.st
  have ok := J.ok
  have l0 := J.l0
  have l1 := J.l1
  subst hw
  have mem : ∀ ws' c' root' last', (i0, AObj.row .plain (actL k a1 b1 c1 z near)) ∈ progL t m W H root' last' ws' c' (refL x W H a e last (wl ws) rw' ((i0, .row .plain (actL k a1 b1 c1 z near)) :: fr)) := fun ws' c' root' last' => by simp
  refine ldm Hh (mem _ _ _ _) rfl ?_
  rw [tI_int]
  refine ldm Hh (mem _ _ _ _) rfl ?_
  rw [tI_int]
  refine ldm Hh (mem _ _ _ _) rfl ?_
  rw [tI_int]
  refine c22 ok hb rfl J.l0 (by omega) ha.b ha.z Hh (fun hE => ?_) (fun hE σ1 ws1 c' root' hw1 hr1 hb1 H1 => ?_)
  · simp only [tTup_tup, pSome_some, List.getElem?_cons_zero, List.getElem?_cons_succ, tI_int]
    refine ldm Hh (mem _ _ _ _) rfl ?_
    rw [tI_int]
    refine ldm Hh (mem _ _ _ _) rfl ?_
    rw [tI_int]
    refine ldm Hh (mem _ _ _ _) rfl ?_
    rw [tI_int]
    refine c53 ok J.l0 (by omega) ha.b ⟨a, e, rw', h, swapPR (A := []) Hh⟩ (fun _ σ2 S2 => ?_) (fun g => absurd g hE)
    simp only [tTup_tup, pSome_some, List.getElem?_cons_zero, List.getElem?_cons_succ, tI_int]
    rw [beq_self_eq_true, bm_true]
    refine b23 rfl ?_
    exact hK σ2 _ _ _ ⟨(st_of (B := []) rfl hb S2).drop (p := [(i0, .row .plain (actL k a1 b1 c1 z near))]), ok, J.w0, J.w1, J.h0, J.h1, J.l0, by omega⟩
  · simp only [tTup_tup, pSome_some, List.getElem?_cons_zero, List.getElem?_cons_succ, tI_int]
    refine ldm H1 (mem _ _ _ _) rfl ?_
    rw [tI_int]
    refine ldm H1 (mem _ _ _ _) rfl ?_
    rw [tI_int]
    refine ldm H1 (mem _ _ _ _) rfl ?_
    rw [tI_int]
    refine c53 ok J.l0 (by omega) ha.b ⟨a, e, rw', h, swapPR (A := []) H1⟩ (fun g => absurd hE g) (fun _ σ2 S2 => ?_)
    simp only [tTup_tup, pSome_some, List.getElem?_cons_zero, List.getElem?_cons_succ, tI_int]
    rw [beq_self_eq_true, bm_true]
    refine b23 rfl ?_
    obtain ⟨tr', ok'⟩ := ok.openN J.l0 ha.z hE
    subst hr1
    rw [hw1] at S2
    have hlast : 0 ≤ openLast last win ∧ openLast last win ≤ b + 2 := by unfold openLast; split <;> omega
    exact hK σ2 _ _ _ ⟨(st_of (B := []) hw1 hb1 S2).drop (p := [(i0, .row .plain (actL k a1 b1 c1 z near))]), ok', J.w0, J.w1, J.h0, J.h1, hlast.1, hlast.2⟩
/-- Both are told of another screen. -/
theorem size_both {i0 : Nat} {k a1 b1 c1 z : Int} {near : Bool} (J : Jt t m x b W H last L tr ((i0, .row .plain (actL k a1 b1 c1 z near)) :: fr) σ)
    (hK : ∀ σ' W' H', Jt t m x b W' H' last L tr fr σ' → K (.bool true) σ') :
    ldc σ ⟨i0, 0 + 1, none⟩ fun v108 => tI .i64 v108 fun n109 => ldc σ ⟨i0, 0 + 2, none⟩ fun v110 => tI .i64 v110 fun n111 => ldc σ ⟨i0, 0 + 1, none⟩ fun v112 => tI .i64 v112 fun n113 => ldc σ ⟨i0, 0 + 2, none⟩ fun v114 => tI .i64 v114 fun n115 =>
    Tri Try.prog 37 [ptr t, i64 n109, i64 n111] σ fun v116 σ117 => tI .i64 v116 fun n118 => ldc σ117 ⟨i0, 0 + 2, none⟩ fun v119 => tI .i64 v119 fun n120 => i64 n115 = i64 n120 ∧ ldc σ117 ⟨i0, 0 + 1, none⟩ fun v121 => tI .i64 v121 fun n122 => i64 n113 = i64 n122 ∧
    Tri Try.prog 23 [i64 n118] σ117 fun v123 σ124 => tI .i64 v123 fun n125 => ldc σ124 ⟨i0, 0 + 2, none⟩ fun v126 => tI .i64 v126 fun n127 => i64 n115 = i64 n127 ∧ ldc σ124 ⟨i0, 0 + 1, none⟩ fun v128 => tI .i64 v128 fun n129 => i64 n113 = i64 n129 ∧
    Tri Try.prog 52 [ptr x, i64 n113, i64 n115] σ124 fun v130 σ131 => tI .i64 v130 fun n132 => K (.bool (n125 == n132)) σ131 := by
  obtain ⟨ws, c, a, e, rw', hw, hb, h, Hh⟩ := J.st
  have ok := J.ok
  subst hw
  have mem : ∀ W' H', (i0, AObj.row .plain (actL k a1 b1 c1 z near)) ∈ progL t m W' H' (rootL (wl ws)) last ws c (refL x W H a e last (wl ws) rw' ((i0, .row .plain (actL k a1 b1 c1 z near)) :: fr)) := fun W' H' => by simp
  refine ldm Hh (mem _ _) rfl ?_
  rw [tI_int]
  refine ldm Hh (mem _ _) rfl ?_
  rw [tI_int]
  refine ldm Hh (mem _ _) rfl ?_
  rw [tI_int]
  refine ldm Hh (mem _ _) rfl ?_
  rw [tI_int]
  refine c37 Hh (fun hE => ?_) (fun hE σ1 H1 => ?_)
  · rw [tI_int]
    refine ldm Hh (mem _ _) rfl ?_
    rw [tI_int]
    refine ⟨rfl, ?_⟩
    refine ldm Hh (mem _ _) rfl ?_
    rw [tI_int]
    refine ⟨rfl, ?_⟩
    refine c23 ?_
    rw [tI_int]
    refine ldm Hh (mem _ _) rfl ?_
    rw [tI_int]
    refine ⟨rfl, ?_⟩
    refine ldm Hh (mem _ _) rfl ?_
    rw [tI_int]
    refine ⟨rfl, ?_⟩
    refine c52 ⟨a, e, rw', h, swapPR (A := []) Hh⟩ (fun _ => ?_) (fun g => by rw [hE] at g; cases g)
    rw [tI_int, beq_self_eq_true]
    exact hK σ _ _ ⟨St.drop (p := [(i0, .row .plain (actL k a1 b1 c1 z near))]) ⟨ws, c, a, e, rw', rfl, hb, h, Hh⟩, ok, J.w0, J.w1, J.h0, J.h1, J.l0, J.l1⟩
  · rw [tI_int]
    refine ldm H1 (mem _ _) rfl ?_
    rw [tI_int]
    refine ⟨rfl, ?_⟩
    refine ldm H1 (mem _ _) rfl ?_
    rw [tI_int]
    refine ⟨rfl, ?_⟩
    refine c23 ?_
    rw [tI_int]
    refine ldm H1 (mem _ _) rfl ?_
    rw [tI_int]
    refine ⟨rfl, ?_⟩
    refine ldm H1 (mem _ _) rfl ?_
    rw [tI_int]
    refine ⟨rfl, ?_⟩
    refine c52 ⟨a, e, rw', h, swapPR (A := []) H1⟩ (fun g => by rw [hE] at g; cases g) (fun _ σ2 S2 => ?_)
    rw [tI_int, beq_self_eq_true]
    have hf : (0 ≤ a1 ∧ a1 ≤ 1000) ∧ (0 ≤ b1 ∧ b1 ≤ 1000) := by
      unfold fitsB at hE
      rw [Bool.and_eq_true, decide_eq_true_eq, decide_eq_true_eq] at hE
      exact hE
    exact hK σ2 _ _ ⟨(st_of (B := []) rfl hb S2).drop (p := [(i0, .row .plain (actL k a1 b1 c1 z near))]), ok, hf.1.1, hf.1.2, hf.2.1, hf.2.2, J.l0, J.l1⟩
/-- A window near a number. -/
theorem near_any {o : AObj} {i0 : Nat} {v : Int} {G : Value → AS → Prop} (J : Jt t m x b W H last L tr ((i0, o) :: fr) σ) (hG : ∀ w, G (i64 w) σ) : Tri Try.prog 21 [ptr x, i64 v] σ G := by
  obtain ⟨ws, c, a, e, rw', hw, hb, h, Hh⟩ := J.st
  have hl : L.length ≤ 1000 := by have := J.ok.len; omega
  exact c21 (swapPR (A := []) Hh) (rin_of h) hl (fun _ => hG 0) (fun w _ => hG w.n)
/-- One act. -/
theorem c33j {i0 : Nat} {k a1 b1 c1 z win key : Int} {near : Bool} (hb9 : b ≤ 1000) (ha : ActOk b1 c1 z) (J : Jt t m x b W H last L tr ((i0, .row .plain (actL k a1 b1 c1 z near)) :: fr) σ)
    (hK : ∀ σ' W' H' last' L' tr', Jt t m x (b + 2) W' H' last' L' tr' fr σ' → (k ≠ 7 → W' = W ∧ H' = H) → K (.bool true) σ') :
    jn Try.prog hintsS (Tri Try.prog) 33 [true, true] [] K [(0, some (ptr t)), (1, some (ptr x)), (5, some (ptr i0)), (7, some (i64 win)), (8, some (i64 key))] σ := by
  rw [s33j]
  have up0 : ∀ {σ' W' H' last' L' tr'}, Jt t m x b W' H' last' L' tr' fr σ' → (k ≠ 7 → W' = W ∧ H' = H) → K (.bool true) σ' := fun J' => hK _ _ _ _ _ _ ⟨J'.st, J'.ok, J'.w0, J'.w1, J'.h0, J'.h1, J'.l0, by have := J'.l1; omega⟩
  have up : ∀ {σ' last' L' tr'}, Jt t m x b W H last' L' tr' fr σ' → K (.bool true) σ' := fun J' => up0 J' fun _ => ⟨rfl, rfl⟩
  have rd : ∀ {o : Nat} {v : Value} {G : Value → Prop}, (actL k a1 b1 c1 z near)[o]? = some v → G v → ldc σ ⟨i0, o, none⟩ G := by
    intro o v G hv hG
    obtain ⟨ws, c, a, e, rw', hw, hb, h, Hh⟩ := J.st
    exact ldm Hh (show (i0, AObj.row .plain (actL k a1 b1 c1 z near)) ∈ _ by simp) hv hG
  refine rd rfl ?_
  rw [tI_int]
  refine beq_mk (fun _ => close_both J fun _ _ _ => up) (fun _ => ?_)
  refine beq_mk (fun g5 => ?_) (fun _ => beq_mk (fun g6 => ?_) (fun _ => beq_mk (fun g7 => ?_) (fun _ => ?_)))
  · refine beq_mk (fun _ => ?_) (fun g => absurd g5 g)
    refine rd rfl ?_
    rw [tB_bool]
    cases near with
    | true =>
      rw [bm_true]
      refine rd rfl ?_
      rw [tI_int]
      refine bne_mk (fun _ => ?_) (fun _ => ?_)
      · refine rd rfl ?_
        rw [tI_int]
        refine near_any J fun w => ?_
        rw [tI_int]
        exact arr_both ha J fun _ _ _ => up
      · exact arr_both ha J fun _ _ _ => up
    | false =>
      rw [bm_false]
      exact arr_both ha J fun _ _ _ => up
  · refine rd rfl ?_
    rw [tB_bool]
    cases near with
    | true =>
      rw [bm_true]
      refine rd rfl ?_
      rw [tI_int]
      refine bne_mk (fun _ => ?_) (fun _ => ?_)
      · refine rd rfl ?_
        rw [tI_int]
        refine near_any J fun w => ?_
        rw [tI_int]
        exact arr_both ha J fun _ _ _ => up
      · exact arr_both ha J fun _ _ _ => up
    | false =>
      rw [bm_false]
      exact arr_both ha J fun _ _ _ => up
  · exact size_both J fun _ _ _ h => up0 h fun g => absurd g7 g
  · exact open_both hb9 ha J fun _ _ _ _ h => hK _ _ _ _ _ _ h fun _ => ⟨rfl, rfl⟩
/-- One act, done to both. -/
theorem c33 {k a1 b1 c1 z : Int} {near : Bool} (hb9 : b ≤ 1000) (ha : ActOk b1 c1 z) (J : Jt t m x b W H last L tr fr σ)
    (hK : ∀ σ' W' H' last' L' tr', Jt t m x (b + 2) W' H' last' L' tr' fr σ' → (k ≠ 7 → W' = W ∧ H' = H) → K (.bool true) σ') : Tri Try.prog 33 [ptr t, ptr x, .agg ⟨actL k a1 b1 c1 z near⟩] σ K := tri_in (by
  rw [s33]
  obtain ⟨ws, c, a, e, rw', hw, hb, h, Hh⟩ := J.st
  refine newAt_mk Hh fun i0 σ1 H1 => ?_
  have J1 : Jt t m x b W H last L tr ((i0, .row .plain (actL k a1 b1 c1 z near)) :: fr) σ1 := by
    refine ⟨⟨ws, c, a, e, rw', hw, hb, h, H1.perm ?_⟩, J.ok, J.w0, J.w1, J.h0, J.h1, J.l0, J.l1⟩
    show ((t, treeO W H (rootL L) last m) :: (m, mapO ws c) :: ws.map objM ++ ((x, refO W H a L.length e last) :: rw' ++ ((i0, _) :: fr))).Perm ((i0, _) :: ((t, treeO W H (rootL L) last m) :: (m, mapO ws c) :: ws.map objM ++ ((x, refO W H a L.length e last) :: rw' ++ fr)))
    rw [← List.append_assoc, ← List.append_assoc]
    exact List.perm_middle
  refine ldc_mk H1 0 rfl rfl ?_
  rw [tI_int]
  refine ldc_mk H1 0 rfl rfl ?_
  rw [tI_int]
  refine ldc_mk H1 0 rfl rfl ?_
  rw [tB_bool]
  cases near with
  | true =>
    rw [bm_true]
    refine ldc_mk H1 0 rfl rfl ?_
    rw [tI_int]
    refine near_any J1 fun w => ?_
    rw [tI_int]
    exact ⟨c33j hb9 ha J1 hK⟩
  | false =>
    rw [bm_false]
    exact ⟨c33j hb9 ha J1 hK⟩)
end
end Go.AI
end
