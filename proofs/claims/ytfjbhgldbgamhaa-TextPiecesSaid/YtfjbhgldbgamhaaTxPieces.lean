/- A text's characters are those of its pieces: the law. -/
import Derived.Test.YtfjbhgldbgamhaaTxPure
import Derived.Test.YtfjbhgldbgamhaaTxForm5
set_option maxRecDepth 4000
set_option linter.unusedVariables false
set_option linter.unusedSimpArgs false
namespace Go.AI
open Go.Proofs
/-- A slice of numbers that lies anywhere in a row that is known. -/
def InO (a : Option Addr) (l : List Int) (L : List (Nat × AObj)) : Prop := l = [] ∨ ∃ r o k cs, a = some ⟨r, o, none⟩ ∧ (r, AObj.row k (cellsU cs)) ∈ L ∧ ∀ i v, l[i]? = some v → cs[o + i]? = some v
theorem InU.cut {a : Option Addr} {l : List Int} {L : List (Nat × AObj)} {x : Addr → Addr} {o n : Nat} (h : InU a l L) (hx : ∀ r, x ⟨r, 0, none⟩ = ⟨r, o, none⟩) : InO (a.map x) ((l.drop o).take n) L := by
  rcases h with rfl | ⟨r, k, rfl, h⟩
  · exact .inl (by simp)
  · refine .inr ⟨r, o, k, l, by simp [hx], h, fun i v hv => ?_⟩
    rw [List.getElem?_take] at hv
    split at hv
    · rw [List.getElem?_drop] at hv; exact hv
    · cases hv
theorem InO.of {a : Option Addr} {l : List Int} {L : List (Nat × AObj)} (h : InU a l L) : InO a l L := by
  rcases h with rfl | ⟨r, k, rfl, h⟩
  · exact .inl rfl
  · exact .inr ⟨r, 0, k, l, rfl, h, fun i v hv => by rw [Nat.zero_add]; exact hv⟩
theorem InO.mono {a : Option Addr} {l : List Int} {L L' : List (Nat × AObj)} (h : InO a l L) (hs : ∀ p ∈ L, p ∈ L') : InO a l L' := h.imp id fun ⟨r, o, k, cs, e, m, g⟩ => ⟨r, o, k, cs, e, hs _ m, g⟩
section
variable {σ : AS} {K : Value → AS → Prop}
theorem c16o {L : List (Nat × AObj)} {a b : Option Addr} {xs : List Int} {n : Nat} (H : Has σ L) (ha : InO a xs L) (hb : InO b xs L) (hn : xs.length = n) (hl : n ≤ 1099511627776) (hK : K (.bool true) σ) :
    Tri Try.prog 16 [.slice a n 1, .slice b n 1] σ K := tri_in (by
  subst hn
  rw [s16]
  refine bm_mk (fun h => by simp at h) (fun _ => ?_)
  refine aloop (sameI a b xs.length σ) (fun i => xs.length - i) ?_ (a := 0) ⟨Nat.zero_le _, rfl, rfl⟩
  rintro i r σ1 X hX ⟨hi, rfl, rfl⟩
  rw [s16l]
  refine bm_mk (fun h => ?_) (fun h => hK)
  have h : i < xs.length := by have := of_decide_eq_true h; omega
  obtain ⟨v, hv⟩ : ∃ v, xs[i]? = some v := ⟨xs[i], by simp [h]⟩
  have hne : xs ≠ [] := fun e => by rw [e] at h; simp at h
  obtain ⟨r1, o1, k1, c1, rfl, m1, w1⟩ := ha.resolve_left hne
  obtain ⟨r2, o2, k2, c2, rfl, m2, w2⟩ := hb.resolve_left hne
  obtain ⟨q1, g1⟩ := List.getElem?_of_mem m1
  obtain ⟨q2, g2⟩ := List.getElem?_of_mem m2
  have hz : szOf Try.prog 22 = 1 := by kernel_rfl
  refine req_mk (by omega) (req_mk (by omega) ?_)
  simp only [pSome_some, hz, add_none, Int.toNat_natCast, Nat.mul_one]
  refine req_mk trivial (ldc_mk H q1 g1 (cellsU_get (w1 i v hv)) (tI_mk ?_))
  refine req_mk (by omega) (req_mk (by omega) (req_mk trivial (ldc_mk H q2 g2 (cellsU_get (w2 i v hv)) (tI_mk ?_))))
  simp only [bne_self_eq_false, bm_false]
  rw [wrap64 (by omega) (by omega)]
  exact hX (i + 1) _ _ (by omega) ⟨h, rfl, by simp⟩)
end
/-- One more piece of a text that is not yet told whole. -/
theorem plR_step {N : AtS → NxR} (hN : ∀ at_ e, N at_ = .error e → e ≠ 0) (hk : ∀ at_ p at', N at_ = .ok (p, at') → p.1 = 1 ∨ p.1 = 2 ∨ p.1 = 3) {m : Nat} {l r : List Int} {at_ : AtS} {i : Nat} {w : Bool} (h : PlR N m l at_ i r w 0)
    (hlt : l.length < r.length) (hlm : l.length ≤ m) : ∃ p at', i < 256 ∧ N at_ = .ok (p, at') ∧ p.1 = 2 ∧ ∃ k, k ≤ p.2.length ∧ (p.2.length ≤ r.length - l.length → k = p.2.length) ∧ (¬ p.2.length ≤ r.length - l.length → k = r.length - l.length) ∧
      p.2.take k = (r.drop l.length).take k ∧ k ≤ r.length - l.length ∧
      (l.length + k = r.length ∨ k = p.2.length ∧ l.length + p.2.length ≤ m ∧ PlR N m (l ++ p.2) at' (if 0 < p.2.length then 0 else i + 1) r w 0) := by
  cases h with
  | idle _ => omega
  | err _ hn => exact absurd rfl (hN _ _ hn)
  | fin _ _ _ => omega
  | @cut _ _ at' _ p hi hn h1 h3 hc =>
    have h2 : p.1 = 2 := by rcases hk _ _ _ hn with h | h | h <;> first | exact absurd h h1 | exact absurd h h3 | exact h
    refine ⟨p, at', hi, hn, h2, m - l.length, by omega, fun h => ?_, fun h => ?_, ?_, ?_, .inl ?_⟩
    · simp only [List.length_append, List.length_take] at h hlt; omega
    · simp only [List.length_append, List.length_take] at h hlt ⊢; omega
    · rw [List.drop_left, List.take_take, Nat.min_self]
    · simp only [List.length_append, List.length_take]; omega
    · simp only [List.length_append, List.length_take]; omega
  | @more _ _ at' _ p _ _ _ hi hn h1 h3 hc hm =>
    have h2 : p.1 = 2 := by rcases hk _ _ _ hn with h | h | h <;> first | exact absurd h h1 | exact absurd h h3 | exact h
    obtain ⟨z, rfl⟩ := plR_pre hN hm rfl
    refine ⟨p, at', hi, hn, h2, p.2.length, Nat.le_refl _, fun _ => rfl, fun h => ?_, ?_, ?_, .inr ⟨rfl, hc, hm⟩⟩
    · simp only [List.length_append] at h; omega
    · rw [List.append_assoc, List.drop_left, List.take_left, List.take_length]
    · simp only [List.length_append]; omega
def RB6 : Value → AS → Prop := fun v _ => v = .bool true
def pcI (a : Option Addr) (bs : List Int) (t : Int) (m : Nat) (r : List Int) (la : Option Addr) (c : Nat) (L : List (Nat × AObj)) (i : Nat) (rg : Regs) (σ : AS) : Prop :=
  ∃ (n : Nat) (at_ : AtS), rg = [(0, some (.slice a bs.length 1)), (1, some (u32 t)), (11, some (.slice la r.length 1)), (17, some (ptr c)), (18, some (i64 0)), (19, some (i64 n)), (20, some (i64 i))] ∧
    Has σ ((c, .row .plain (atC at_)) :: L) ∧
    (n = r.length ∨ ∃ (lc : List Int) (idle : Nat) (w : Bool), lc.length = n ∧ n ≤ r.length ∧ n ≤ m ∧ i ≤ 256 * n + idle ∧ idle ≤ 256 ∧ RA at_ ∧ PlR (nxA bs t) m lc at_ idle r w 0)
section
variable {σ : AS}
theorem c6loop {L : List (Nat × AObj)} {a la : Option Addr} {bs r : List Int} {t : Int} {m : Nat} {w : Bool} {at0 : AtS} {c : Nat} (H : Has σ ((c, .row .plain (atC at0)) :: L)) (hm : Mem a bs L) (ht : 0 ≤ t)
    (hr : InU la r L) (hno : nilOr la 1 1 = true) (hrl : r.length ≤ m) (hm3 : m ≤ 300) (hR : RA at0) (hp : PlR (nxA bs t) m [] at0 0 r w 0) :
    ALoop (fl Try.prog hintsS (Tri Try.prog) 6 [true, true, true, true, true, true, true, true, false, true, false] [] RB6)
      [(0, some (.slice a bs.length 1)), (1, some (u32 t)), (11, some (.slice la r.length 1)), (17, some (ptr c)), (18, some (i64 0)), (19, some (i64 0)), (20, some (i64 0))] σ := by
  have hz : szOf Try.prog 22 = 1 := by kernel_rfl
  obtain ⟨B, hB⟩ : ∃ B : Nat, B = 77312 := ⟨_, rfl⟩
  refine aloop (pcI a bs t m r la c L) (fun i => B - i) ?_ (a := (0 : Nat)) ⟨0, at0, rfl, H, .inr ⟨[], 0, w, rfl, by omega, by omega, by omega, by omega, hR, hp⟩⟩
  intro i rg σ1 X hX hI
  unfold pcI at hI
  obtain ⟨n, at_, hrg, H1, hn⟩ := hI
  subst hrg
  rw [s6l]
  generalize hd : decide ((i : Int) < 77312) = d
  refine bm_mk (fun hi2 => bm_mk (fun hn2 => ?_) (fun hn2 => ?_)) (fun hi2 => ?_)
  · have hi2 : i < 77312 := by rw [hi2] at hd; have := of_decide_eq_true hd; omega
    have hn2 : n < r.length := by have := of_decide_eq_true hn2; omega
    obtain ⟨lc, idle, w1, rfl, _, hlm, hib, hid, hRat, hpl⟩ := hn.resolve_left (by omega)
    obtain ⟨p, at', hid2, hN, hp2, k, hk1, hk2, hk3, hxs, hk4, hnext⟩ := plR_step nxA_err (fun _ _ _ => nxA_kind) hpl hn2 hlm
    refine ls_mk H1 (q := 0) rfl rfl ?_
    simp only [tCons, tI_int, tNil]
    refine nextA ht at_ hRat σ1 _ _ H1 (hm.mono fun p h => List.mem_cons_of_mem _ h) (fun σ2 v p' at'' new hN' H2 hpv => ?_) (fun σ2 v at'' e hN' he H2 hpv => by rw [hN] at hN'; cases hN')
    rw [hN] at hN'
    cases hN'
    obtain ⟨hRat', _⟩ := nxA_keeps hm.2.1 _ _ _ hRat hN
    obtain ⟨pk, cs⟩ := p
    obtain ⟨ca, ad, aa, an, rfl, hin⟩ := hpv
    simp only at hp2 hin hk1 hk2 hk3 hxs hnext
    subst hp2
    simp only [tTup_tup, pSome_some, List.getElem?_cons_zero, List.getElem?_cons_succ, tAgg_agg, tCons, tI_int, tL_sl, tNil]
    refine newAt_mk H2 fun i42 σ3 H3 => newAt_mk H3 fun i44 σ4 H4 => ?_
    refine ps_mk (n := 4) H4 (q := 1) rfl rfl rfl fun σ5 H5 => ?_
    refine ps_mk (n := 3) H5 (q := 0) rfl rfl rfl fun σ6 H6 => ?_
    refine c15 (tI_mk (c15 (tI_mk ?_)))
    have e0 : (IntKind.wrap .i64 (0 + 0) != 0) = false := by decide
    have e2 : ((2 : Int) != 2) = false := by decide
    rw [e0, bm_false]
    have G : Has σ6 ([(i44, AObj.row .plain (atC at')), (c, .row .plain (atC at_)), (i42, .row .plain [i64 2, .slice ca cs.length 1, u32 ad, .slice aa an 1])] ++ (new ++ L)) := by
      refine H6.perm (.cons _ ?_)
      refine (List.Perm.swap _ _ _).trans (.cons _ ?_)
      exact (show (_ :: (new ++ L)).Perm _ from List.perm_middle.symm)
    refine ldc_mk G 2 rfl rfl (tI_mk ?_)
    rw [e2, bm_false]
    refine ldc_mk G 2 rfl rfl (tL_mk (ldc_mk G 2 rfl rfl (tL_mk ?_)))
    have ek : imin (cs.length : Int) (IntKind.wrap .i64 ((r.length : Int) - lc.length)) = (k : Int) := by
      rw [wrap64 (by omega) (by omega)]
      unfold imin
      by_cases h : cs.length ≤ r.length - lc.length
      · rw [hk2 h]; split <;> omega
      · rw [hk3 h]; split <;> omega
    simp only
    rw [ek]
    have en : IntKind.wrap .i64 ((lc.length : Int) + k) = ((lc.length + k : Nat) : Int) := by rw [wrap64 (by omega) (by omega)]; omega
    rw [en]
    refine req_mk (by omega) (req_mk (by omega) (req_mk (by omega) (req_mk (by omega) (req_mk (by omega) ?_))))
    rw [hz]
    refine chk_mk hno ?_
    have ek0 : ((k : Int) - 0).toNat = k := by omega
    have ek1 : (((lc.length + k : Nat) : Int) - lc.length).toNat = k := by omega
    rw [ek0, ek1]
    have hl : ((r.drop lc.length).take k).length = k := by rw [List.length_take, List.length_drop]; omega
    have hc1 : InO (ca.map fun x => Addr.add x (Int.toNat 0 * 1)) ((r.drop lc.length).take k) ([(i44, AObj.row .plain (atC at')), (c, .row .plain (atC at_)), (i42, .row .plain [i64 2, .slice ca cs.length 1, u32 ad, .slice aa an 1])] ++ (new ++ L)) := by
      rw [← hxs]
      have := hin.cut (x := fun x => Addr.add x (Int.toNat 0 * 1)) (o := 0) (n := k) (fun r => by rw [add_none]; rfl)
      rw [List.drop_zero] at this
      exact this.mono fun p h => by simp [h]
    have hc2 : InO (la.map fun x => Addr.add x (Int.toNat (lc.length : Int) * 1)) ((r.drop lc.length).take k) ([(i44, AObj.row .plain (atC at')), (c, .row .plain (atC at_)), (i42, .row .plain [i64 2, .slice ca cs.length 1, u32 ad, .slice aa an 1])] ++ (new ++ L)) :=
      (hr.cut (x := fun x => Addr.add x (Int.toNat (lc.length : Int) * 1)) (o := lc.length) (n := k) (fun r => by rw [add_none]; simp)).mono fun p h => by simp [h]
    refine c16o G hc1 hc2 hl (by omega) ?_
    simp only [tB_bool, Bool.not_true, bm_false]
    refine ls_mk G (q := 0) rfl rfl ?_
    simp only [tCons, tI_int, tNil]
    refine ps_mk (n := 3) G (q := 1) rfl rfl rfl fun σ7 H7 => ?_
    have ei : IntKind.wrap .i64 ((i : Int) + 1) = ((i + 1 : Nat) : Int) := by rw [wrap64 (by omega) (by omega)]; omega
    rw [ei]
    have hi3 : i < B := by rw [hB]; exact hi2
    have hmes : B - (i + 1) < B - i := by clear hi2 hB hd; omega
    have H8 : Has σ7 ((c, AObj.row .plain (atC at')) :: L) := H7.sub (.cons _ (.cons_cons _ (.cons _ (List.sublist_append_right new L))))
    refine hX (i + 1) _ _ hmes ⟨lc.length + k, at', rfl, H8, ?_⟩
    rcases hnext with h | ⟨rfl, hm2, hpl2⟩
    · exact .inl h
    · refine .inr ⟨lc ++ cs, _, w1, by simp, by omega, hm2, ?_, ?_, hRat', hpl2⟩
      · split <;> omega
      · split <;> omega
  · have hn2 : ¬ n < r.length := by have := of_decide_eq_false hn2; omega
    have e : n = r.length := by
      rcases hn with h | ⟨_, _, _, _, h, _⟩
      · exact h
      · omega
    subst e
    simp only [beq_self_eq_true, bm_true]
    exact c9live (by simp only [tB_bool]; rfl)
  · have hi2 : ¬ i < 77312 := by rw [hi2] at hd; have := of_decide_eq_false hd; omega
    have e : n = r.length := by
      rcases hn with h | ⟨lc, idle, _, h1, h2, h3, h4, h5, _, hpl⟩
      · exact h
      · omega
    subst e
    simp only [beq_self_eq_true, bm_true]
    exact c9live (by simp only [tB_bool]; rfl)
theorem c6tail {L : List (Nat × AObj)} {a la : Option Addr} {bs r : List Int} {t x : Int} {m : Nat} {w : Bool} (H : Has σ L) (hm : Mem a bs L) (ht : 0 ≤ t) (h0 : 0 ≤ x) (h1 : x ≤ 4294967295)
    (hr : InU la r L) (hno : nilOr la 1 1 = true) (hrl : r.length ≤ m) (hm3 : m ≤ 300) (hb : (bgS bs x).2 = 0) (hp : PlR (nxA bs t) m [] (bgS bs x).1 0 r w 0) :
    Tri Try.prog 20 [.slice a bs.length 1, u32 x] σ fun v49 σ50 => tTup v49 fun l51 => pSome l51[0]? fun u52 => tAgg u52 fun l53 => tCons l53 fun v54 l55 => tI .i64 v54 fun n56 => tCons l55 fun v57 l58 => tI .u32 v57 fun n59 =>
      tCons l58 fun v60 l61 => tI .u32 v60 fun n62 => tNil l61 (tTup v49 fun l63 => pSome l63[1]? fun u64 => tI .i64 u64 fun n65 => newAt σ50 (AObj.row RK.plain [i64 0, u32 0, u32 0]) fun i66 σ67 =>
        puts σ67 ⟨i66, 0, none⟩ [i64 n56, u32 n59, u32 n62] fun σ68 =>
          ALoop (fl Try.prog hintsS (Tri Try.prog) 6 [true, true, true, true, true, true, true, true, false, true, false] [] RB6)
            [(0, some (.slice a bs.length 1)), (1, some (u32 t)), (11, some (.slice la r.length 1)), (17, some (ptr i66)), (18, some (i64 n65)), (19, some (i64 0)), (20, some (i64 0))] σ68) := by
  refine c20 H hm h0 h1 fun σ1 H1 => ?_
  simp only [tTup_tup, pSome_some, List.getElem?_cons_zero, List.getElem?_cons_succ, tAgg_agg, tCons, tI_int, tNil]
  refine newAt_mk H1 fun c σ2 H2 => ?_
  refine ps_mk (n := 3) H2 (q := 0) rfl rfl rfl fun σ3 H3 => ?_
  have hR := bgS_RA hb
  rw [hb]
  exact c6loop H3 hm ht hr hno hrl hm3 hR hp
theorem pieces_law {L : List (Nat × AObj)} {a : Option Addr} {bs : List Int} {t x mo mr : Int} (H : Has σ L) (ha : In8 a bs L) (h8 : ∀ v ∈ bs, 0 ≤ v ∧ v < 256) (lb : bs.length ≤ 4611686018427387903) (ht : 0 ≤ t) (h0 : 0 ≤ x) (h1 : x ≤ 4294967295) :
    Tri Try.prog 6 [.slice a bs.length 1, u32 t, u32 x, i64 mo, i64 mr] σ RB6 := tri_in (by
  have live : ∀ {σ : AS}, Tri Try.prog 9 [] σ fun v0 σ1 => tB v0 fun b2 => RB6 (.bool b2) σ1 := c9live (by simp only [tB_bool]; rfl)
  rw [s6]
  refine bm_mk (fun _ => live) (fun hl => bm_mk (fun _ => live) (fun hm0 => bm_mk (fun _ => live) (fun hm1 => bm_mk (fun _ => live) (fun hr0 => bm_mk (fun _ => live) (fun hr1 => ?_)))))
  have hl := of_decide_eq_false hl
  have hm0 := of_decide_eq_false hm0
  have hm1 := of_decide_eq_false hm1
  have hr0 := of_decide_eq_false hr0
  have hr1 := of_decide_eq_false hr1
  have hm : Mem a bs L := ⟨h8, by omega, ha⟩
  refine c18A H hm ht h0 h1 (by omega) fun σ1 r w e ra re new hp H1 hno hin => ?_
  simp only [tTup_tup, pSome_some, tI_int, tB_bool, List.getElem?_cons_zero, List.getElem?_cons_succ]
  refine tL_ok hno ?_
  rw [wrap64 (by omega) (by omega)]
  refine c18A H1 (hm.mono fun p h => by simp [h]) ht h0 h1 (by omega) fun σ2 r2 w2 e2 ra2 re2 new2 hp2 H2 hno2 hin2 => ?_
  simp only [tTup_tup, pSome_some, tI_int, tB_bool, List.getElem?_cons_zero, List.getElem?_cons_succ]
  refine tL_ok hno2 ?_
  refine c15 (tI_mk (bm_mk (fun he => ?_) (fun he => ?_)))
  · have he : e ≠ 0 := by simpa using he
    obtain ⟨rfl, rfl, rfl⟩ : r = [] ∧ w = false ∧ e = e2 := by
      rcases hp with ⟨hb, rfl, rfl, rfl⟩ | ⟨hb, hp⟩
      · obtain ⟨_, _, h⟩ := PlainS.one hp2 (.inl ⟨hb, rfl, rfl, rfl⟩)
        exact ⟨rfl, rfl, h.symm⟩
      · obtain ⟨g1, g2, g3⟩ := plR_err (m' := (mo + mr).toNat) (by omega) hp he
        obtain ⟨_, _, h⟩ := PlainS.one hp2 (.inr ⟨hb, g3⟩)
        exact ⟨g1, g2, h.symm⟩
    have e0 : (((([] : List Int).length : Nat) : Int) == 0) = true := rfl
    simp only [e0, beq_self_eq_true, bm_true, Bool.not_false]
    exact live
  have he : e = 0 := by simpa using he
  subst he
  obtain ⟨hb, hp⟩ : (bgS bs x).2 = 0 ∧ PlR (nxA bs t) mo.toNat [] (bgS bs x).1 0 r w 0 := by
    rcases hp with ⟨hb, _, _, h⟩ | h
    · exact absurd h.symm hb
    · exact h
  have hrl : r.length ≤ mo.toNat := plR_len hp (by simp)
  have hm2 : Mem a bs (new2 ++ (new ++ L)) := hm.mono fun p h => by simp [h]
  have hin' : InU ra r (new2 ++ (new ++ L)) := hin.mono fun p h => by simp [h]
  have hin2' : InU ra2 r2 (new2 ++ (new ++ L)) := hin2.mono fun p h => by simp [h]
  have hno1 : nilOr ra 1 1 = true := by cases ra <;> rfl
  refine c15 (tI_mk (bm_mk (fun he => ?_) (fun he => c6tail H2 hm2 ht h0 h1 hin' hno1 hrl (by omega) hb hp)))
  have he : e2 = 0 := by simpa using he
  subst he
  have hp2 : PlR (nxA bs t) (mo + mr).toNat [] (bgS bs x).1 0 r2 w2 0 := by
    rcases hp2 with ⟨hb2, _⟩ | ⟨_, h⟩
    · exact absurd hb hb2
    · exact h
  obtain ⟨⟨z, rfl⟩, hw⟩ := plR_two nxA_err (m' := (mo + mr).toNat) (by omega) hp rfl _ _ hp2
  refine bm_mk (fun h => ?_) (fun _ => ?_)
  · have h := of_decide_eq_true h
    simp only [List.length_append] at h
    omega
  refine req_mk (by omega) (req_mk (by simp only [List.length_append]; omega) ?_)
  have hz : szOf Try.prog 22 = 1 := by kernel_rfl
  have en : ((r.length : Int) - 0).toNat = r.length := by omega
  simp only
  rw [en]
  have hc1 : InO (ra2.map fun x => Addr.add x (Int.toNat 0 * szOf Try.prog 22)) r (new2 ++ (new ++ L)) := by
    have := hin2'.cut (x := fun x => Addr.add x (Int.toNat 0 * szOf Try.prog 22)) (o := 0) (n := r.length) (fun r => by rw [hz, add_none]; rfl)
    rw [List.drop_zero, List.take_left] at this
    exact this
  refine c16o H2 hc1 (.of hin') rfl (by omega) ?_
  simp only [tB_bool, Bool.not_true, bm_false]
  refine bm_mk (fun hww => ?_) (fun _ => c6tail H2 hm2 ht h0 h1 hin' hno1 hrl (by omega) hb hp)
  obtain ⟨rfl, hz⟩ := hw hww
  rw [hz]
  simp only [Bool.not_true, bm_false, bne_self_eq_false]
  exact c6tail H2 hm2 ht h0 h1 hin' hno1 hrl (by omega) hb hp)
end
end Go.AI
