/- A text's characters: Plain, by what Next does. -/
import Derived.Test.YtfjbhgldbgamhaaTxNext2
set_option maxRecDepth 4000
set_option linter.unusedVariables false
set_option linter.unusedSimpArgs false
namespace Go.AI
open Go.Proofs
inductive PlR (N : AtS → NxR) (most : Nat) : List Int → AtS → Nat → List Int → Bool → Int → Prop
  | idle {l : List Int} {at_ : AtS} {i : Nat} : ¬ i < 256 → PlR N most l at_ i l false 0
  | err {l : List Int} {at_ : AtS} {i : Nat} {e : Int} : i < 256 → N at_ = .error e → PlR N most l at_ i [] false e
  | fin {l : List Int} {at_ at' : AtS} {i : Nat} {p : Int × List Int} : i < 256 → N at_ = .ok (p, at') → p.1 = 1 → PlR N most l at_ i l true 0
  | ref {l : List Int} {at_ at' : AtS} {i : Nat} {p : Int × List Int} : i < 256 → N at_ = .ok (p, at') → p.1 = 3 → PlR N most l at_ i [] false 5
  | cut {l : List Int} {at_ at' : AtS} {i : Nat} {p : Int × List Int} : i < 256 → N at_ = .ok (p, at') → p.1 ≠ 1 → p.1 ≠ 3 → most < l.length + p.2.length → PlR N most l at_ i (l ++ p.2.take (most - l.length)) false 0
  | more {l : List Int} {at_ at' : AtS} {i : Nat} {p : Int × List Int} {r : List Int} {w : Bool} {e : Int} : i < 256 → N at_ = .ok (p, at') → p.1 ≠ 1 → p.1 ≠ 3 → l.length + p.2.length ≤ most →
      PlR N most (l ++ p.2) at' (if 0 < p.2.length then 0 else i + 1) r w e → PlR N most l at_ i r w e
section
variable {σ : AS} {K : Value → AS → Prop}
theorem rowL_front {j : Nat} {ys : List Int} {A X : List (Nat × AObj)} (H : Has σ (rowL j ys (A ++ X))) : Has σ (A ++ rowL j ys X) := by
  obtain ⟨P, hP⟩ := rowL_app j ys
  rw [hP] at H ⊢
  exact H.perm (List.perm_append_comm_assoc _ _ _)
theorem rowL_back {j : Nat} {ys : List Int} {A X : List (Nat × AObj)} (H : Has σ (A ++ rowL j ys X)) : Has σ (rowL j ys (A ++ X)) := by
  obtain ⟨P, hP⟩ := rowL_app j ys
  rw [hP] at H ⊢
  exact H.perm (List.perm_append_comm_assoc _ _ _)
theorem AllS.inU {j : Nat} {ys : List Int} {c : Option Addr} {ce : Nat} (h : AllS j ys c ce) : ∃ P : List (Nat × AObj), (∀ fr, rowL j ys fr = P ++ fr) ∧ InU c ys P := by
  cases ys with
  | nil => exact ⟨[], fun _ => rfl, .inl rfl⟩
  | cons d t => exact ⟨[_], fun _ => rfl, .inr ⟨j, .rw, (h.2.1 (by simp)).1, by simp⟩⟩
def plI (a : Option Addr) (bs : List Int) (t : Int) (N : AtS → NxR) (R : AtS → Prop) (most : Nat) (at0 : AtS) (c : Nat) (L : List (Nat × AObj)) (q : List Int × AtS × Nat) (r : Regs) (σ : AS) : Prop :=
  ∃ (jr : Nat) (la : Option Addr) (le : Nat), q.1.length ≤ most ∧ q.2.2 ≤ 256 ∧ R q.2.1 ∧ AllS jr q.1 la le ∧
    r = [(0, some (.slice a bs.length 1)), (1, some (u32 t)), (3, some (i64 most)), (8, some (.slice la q.1.length le)), (11, some (ptr c)), (12, some (i64 q.2.2))] ∧
    Has σ (rowL jr q.1 ((c, .row .plain (atC q.2.1)) :: L)) ∧ ∀ r w e, PlR N most q.1 q.2.1 q.2.2 r w e → PlR N most [] at0 0 r w e
theorem c18 {L : List (Nat × AObj)} {a : Option Addr} {bs : List Int} {t x mo : Int} {N : AtS → NxR} {R : AtS → Prop} (H : Has σ L) (hm : Mem a bs L) (h0 : 0 ≤ x) (h1 : x ≤ 4294967295) (hmo : mo ≤ 1073741824)
    (hR0 : (bgS bs x).2 = 0 → R (bgS bs x).1) (hR : ∀ at_ p at', R at_ → N at_ = .ok (p, at') → R at' ∧ p.2.length ≤ 1048577) (hN : ∀ at_, R at_ → NextOk a bs t N at_)
    (hE : ∀ σ', (bgS bs x).2 ≠ 0 → Has σ' L → K (.tuple ⟨[.slice none 0 0, .bool false, i64 (bgS bs x).2]⟩) σ')
    (hK : ∀ σ' r w e ra re new, (bgS bs x).2 = 0 → PlR N mo.toNat [] (bgS bs x).1 0 r w e → Has σ' (new ++ L) → nilOr ra re 1 = true → InU ra r new → K (.tuple ⟨[.slice ra r.length re, .bool w, i64 e]⟩) σ') :
    Tri Try.prog 18 [.slice a bs.length 1, u32 t, u32 x, i64 mo] σ K := tri_in (by
  rw [s18]
  refine c20 H hm h0 h1 fun σ1 H1 => ?_
  simp only [tTup_tup, pSome_some, List.getElem?_cons_zero, List.getElem?_cons_succ, tAgg_agg, tCons, tI_int, tNil]
  refine newAt_mk H1 fun c σ2 H2 => ?_
  refine ps_mk (n := 3) H2 (q := 0) rfl rfl rfl fun σ3 H3 => ?_
  refine bm_mk (fun h => hE σ3 (by simpa using h) (H3.sub (.cons _ (.refl _)))) (fun h => ?_)
  have hb : (bgS bs x).2 = 0 := by simpa using h
  have emo : imax mo 0 = ((mo.toNat : Nat) : Int) := by unfold imax; split <;> omega
  rw [emo]
  have hmn : mo.toNat ≤ 1073741824 := by omega
  generalize hmost : mo.toNat = most at hK hmn
  generalize hat0 : (bgS bs x).1 = at0 at H3 hR0 hK
  have hz : szOf Try.prog 22 = 1 := by kernel_rfl
  refine aloop (plI a bs t N R most at0 c L) (fun q => (most - q.1.length) * 257 + (256 - q.2.2)) ?_ (a := ([], at0, 0)) ⟨0, none, 0, by simp, by simp, hR0 hb, AllS.none _ _, rfl, H3, fun _ _ _ h => h⟩
  rintro ⟨l, at_, idle⟩ r σ4 X hX ⟨jr, la, le, hlm, hidle, hRat, hs, rfl, H4, hpl⟩
  simp only at hlm hidle hRat hs H4 hpl
  obtain ⟨P, hP, hPin⟩ := hs.inU
  rw [s18l]
  refine bm_mk (fun hi => ?_) (fun hi => ?_)
  · have hi : idle < 256 := by have h : ((idle : Nat) : Int) < 256 := of_decide_eq_true hi; omega
    have H5 : Has σ4 ((c, .row .plain (atC at_)) :: rowL jr l L) := rowL_out H4
    refine ls_mk H5 (q := 0) rfl rfl ?_
    simp only [tCons, tI_int, tNil]
    refine hN at_ hRat σ4 _ _ H5 (hm.mono fun p h => List.mem_cons_of_mem _ (rowL_mem h)) (fun σ5 v p at' new hn H6 hpv => ?_) (fun σ5 v at' e hn he H6 hpv => ?_)
    · obtain ⟨hRat', hplen⟩ := hR at_ p at' hRat hn
      obtain ⟨pk, cs⟩ := p
      simp only at hplen
      obtain ⟨ca, ad, aa, an, rfl, hin⟩ := hpv
      simp only at hin
      simp only [tTup_tup, pSome_some, List.getElem?_cons_zero, List.getElem?_cons_succ, tAgg_agg, tCons, tI_int, tL_sl, tNil]
      refine newAt_mk H6 fun i42 σ6 H7 => newAt_mk H7 fun i44 σ7 H8 => ?_
      refine ps_mk (n := 4) H8 (q := 1) rfl rfl rfl fun σ8 H9 => ?_
      refine ps_mk (n := 3) H9 (q := 0) rfl rfl rfl fun σ9 H10 => ?_
      simp only [bne_self_eq_false, bm_false]
      have G : Has σ9 ([(i44, AObj.row .plain (atC at')), (c, .row .plain (atC at_)), (i42, .row .plain [i64 pk, .slice ca cs.length 1, u32 ad, .slice aa an 1])] ++ rowL jr l (new ++ L)) := by
        refine H10.perm ?_
        rw [hP, hP]
        refine .cons _ ?_
        refine (List.Perm.swap _ _ _).trans (.cons _ ?_)
        exact (List.Perm.cons _ (show (P ++ (new ++ L)).Perm (new ++ (P ++ L)) from List.perm_append_comm_assoc _ _ _)).trans List.perm_middle.symm
      refine ldc_mk G 2 rfl rfl (tI_mk ?_)
      have G' := G
      rw [hP] at G'
      have hnew : ∀ (Q : List (Nat × AObj)), [(i44, AObj.row .plain (atC at')), (c, AObj.row .plain (atC at_)), (i42, .row .plain [i64 pk, .slice ca cs.length 1, u32 ad, .slice aa an 1])] ++ (Q ++ (new ++ L)) = ([(i44, AObj.row .plain (atC at')), (c, .row .plain (atC at_)), (i42, .row .plain [i64 pk, .slice ca cs.length 1, u32 ad, .slice aa an 1])] ++ Q ++ new) ++ L := by
        intro Q; simp
      refine bm_mk (fun hk => ?_) (fun hk => ?_)
      · have hk : pk = 1 := by simpa using hk
        rw [hnew] at G'
        exact hK σ9 l true 0 la le _ hb (hpl _ _ _ (.fin hi hn hk)) G' hs.1 (hPin.mono fun p h => by simp [h])
      have hk1 : pk ≠ 1 := by simpa using hk
      refine bm_mk (fun hk => ?_) (fun hk => ?_)
      · have hk : pk = 3 := by simpa using hk
        rw [hnew] at G'
        exact hK σ9 [] false 5 none 0 _ hb (hpl _ _ _ (.ref hi hn hk)) G' rfl (.inl rfl)
      have hk3 : pk ≠ 3 := by simpa using hk
      refine ldc_mk G 2 rfl rfl (tL_mk ?_)
      simp only
      rw [wrap64 (n := (l.length : Int) + cs.length) (by omega) (by omega)]
      have hin' : InU ca cs (rowL jr l ([(i44, AObj.row .plain (atC at')), (c, AObj.row .plain (atC at_)), (i42, .row .plain [i64 pk, .slice ca cs.length 1, u32 ad, .slice aa an 1])] ++ (new ++ L))) :=
        hin.mono fun p h => rowL_mem (by simp [h])
      refine bm_mk (fun hc => ?_) (fun hc => ?_)
      · have hc : most < l.length + cs.length := by have := of_decide_eq_true hc; omega
        refine ldc_mk G 2 rfl rfl (tL_mk ?_)
        simp only
        rw [wrap64 (n := (most : Int) - l.length) (by omega) (by omega)]
        refine req_mk (by omega) (req_mk (by omega) ?_)
        rw [hz]
        refine chk_mk hs.1 ?_
        have hcs : cs ≠ [] := fun e => by rw [e] at hc; simp at hc; omega
        obtain ⟨rc, kc, rfl, hrc⟩ := hin.resolve_left hcs
        have en : ((most : Int) - l.length - 0).toNat = most - l.length := by omega
        simp only [Option.map, add_none, Int.toNat_zero, Nat.zero_mul, Nat.add_zero, en]
        have G2 := rowL_back G
        refine src_take G2 hin' (by omega) ?_
        have el : (cs.take (most - l.length)).length = most - l.length := by rw [List.length_take]; omega
        have := pushs_mk (jr := jr) (ys := l) (ms := cs.take (most - l.length)) (c := la) (ce := le) (G := fun s56 σ57 => K (.tuple ⟨[.slice s56.a s56.n 1, .bool false, i64 0]⟩) σ57) G2 hs (by omega) (fun j' σ10 c' H11 hs' => ?_)
        · rw [el] at this
          exact this
        · obtain ⟨P2, hP2, hPin2⟩ := hs'.inU
          rw [hP2, ← List.append_assoc, ← List.append_assoc] at H11
          simp only
          rw [← List.length_append]
          exact hK σ10 _ false 0 c' 1 _ hb (hpl _ _ _ (.cut hi hn hk1 hk3 hc)) H11 hs'.1 (hPin2.mono fun p h => by simp [h])
      · have hc : l.length + cs.length ≤ most := by have := of_decide_eq_false hc; omega
        refine ldc_mk G 2 rfl rfl (tL_mk ?_)
        rw [hz]
        refine chk_mk hs.1 ?_
        simp only
        have G2 := rowL_back G
        refine src_mk G2 hin' ?_
        refine pushs_mk G2 hs (by omega) fun j' σ10 c' H11 hs' => ?_
        have G3 := rowL_front H11
        refine ls_mk G3 (q := 0) rfl rfl ?_
        simp only [tCons, tI_int, tNil]
        refine ps_mk (n := 3) G3 (q := 1) rfl rfl rfl fun σ11 G4 => ?_
        refine ldc_mk G4 2 rfl rfl (tL_mk ?_)
        have G5 : Has σ11 (rowL j' (l ++ cs) ((c, .row .plain (atC at')) :: L)) := by
          obtain ⟨P2, hP2, hPin2⟩ := hs'.inU
          rw [hP2] at G4
          have G4 : Has σ11 ((i44, AObj.row .plain (atC at')) :: (c, .row .plain (atC at')) :: (i42, .row .plain [i64 pk, .slice ca cs.length 1, u32 ad, .slice aa an 1]) :: (P2 ++ (new ++ L))) := G4
          have G6 : Has σ11 ((c, .row .plain (atC at')) :: (P2 ++ L)) := G4.sub (.cons _ (.cons_cons _ (.cons _ (List.Sublist.append (.refl P2) (List.sublist_append_right new L)))))
          rw [← hP2] at G6
          exact rowL_swap G6
        have elen : l.length + cs.length = (l ++ cs).length := by simp
        rw [elen]
        refine bm_mk (fun hpos => ?_) (fun hpos => ?_)
        · have hpos : 0 < cs.length := by have := of_decide_eq_true hpos; simp only at this; omega
          refine hX (l ++ cs, at', 0) _ _ (by simp only [List.length_append]; omega) ⟨j', c', 1, by simp only [List.length_append]; omega, by simp, hRat', hs', rfl, G5, fun r w e hr => hpl _ _ _ (.more hi hn hk1 hk3 hc ?_)⟩
          simp only at hr ⊢
          rw [if_pos hpos]
          exact hr
        · have hpos : cs.length = 0 := by have := of_decide_eq_false hpos; simp only at this; omega
          rw [wrap64 (n := (idle : Int) + 1) (by omega) (by omega)]
          refine hX (l ++ cs, at', idle + 1) _ _ (by simp only [List.length_append]; omega) ⟨j', c', 1, by simp only [List.length_append]; omega, by simp only; omega, hRat', hs', by simp, G5, fun r w e hr => hpl _ _ _ (.more hi hn hk1 hk3 hc ?_)⟩
          simp only at hr ⊢
          rw [if_neg (by omega)]
          exact hr
    · obtain ⟨ca, ad, aa, an, rfl, hin⟩ := hpv
      simp only [tTup_tup, pSome_some, List.getElem?_cons_zero, List.getElem?_cons_succ, tAgg_agg, tCons, tI_int, tL_sl, tNil]
      refine newAt_mk H6 fun i42 σ6 H7 => newAt_mk H7 fun i44 σ7 H8 => ?_
      refine ps_mk (n := 4) H8 (q := 1) rfl rfl rfl fun σ8 H9 => ?_
      refine ps_mk (n := 3) H9 (q := 0) rfl rfl rfl fun σ9 H10 => ?_
      refine bm_mk (fun _ => ?_) (fun h => absurd he (by simpa using h))
      have G := H10.sub (L' := rowL jr l L) (.cons _ (.cons _ (.cons _ (.refl _))))
      rw [hP] at G
      exact hK σ9 [] false e none 0 P hb (hpl _ _ _ (.err hi hn)) G rfl (.inl rfl)
  · have hi : ¬ idle < 256 := by have h : ¬ ((idle : Nat) : Int) < 256 := of_decide_eq_false hi; omega
    have H5 := (rowL_out H4).sub (L' := rowL jr l L) (.cons _ (.refl _))
    rw [hP] at H5
    exact hK σ4 l false 0 la le P hb (hpl _ _ _ (.idle hi)) H5 hs.1 hPin)
end
end Go.AI
