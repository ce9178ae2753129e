/- Lemmas of the abstract condition ahead of code (a part of the library that the claim's proof stands on); they hold with no condition but those that each names. -/
import Derived.Test.YtlofpopejkohbaaGreatGyS2
section
set_option linter.unusedSimpArgs false
set_option linter.unusedVariables false
set_option maxRecDepth 10000
/- The program: Write; no condition but those that each names. -/
namespace Go.AI
open Go.Proofs Go.Shelf
section
variable {σ : AS} {K : Value → AS → Prop} {fr : List (Nat × AObj)} {s k B : Nat} {g : PG} {most last n mode : Int} {nm : List UInt8} {F : List Fi} {S : List Sm} {l : List Int} {a : Option Addr} {wd : Bool}
theorem p78l {ms : List Int} {Q1 Q2 : List PQ} {q : PQ} (hg : g.ok F S) (H : Has σ ((s, g.O most last) :: (g.R ++ fr))) (srt : Srt F) (f1 : ∀ f ∈ F, f.b.length ≤ 1048576) (sn : S.Pairwise fun x y => x.n < y.n) (hQ : g.Q = Q1 ++ q :: Q2) (hh : q.q.nm ≠ [] → hasF F q.q.nm = true)
    (ha : Inp u32 a ms fr) (hc : ∀ c ∈ ms, 0 ≤ c ∧ c ≤ 4294967295) (hm : ms.length ≤ 1000000) (hp : q.q.pl ≤ (charsOf F q.q).length) (hln : q.q.l.length ≤ 4096) (hw : q.q.wr ≤ 1073741824) (hb : q.q.nm ≠ [] → (wrB (bOf F q.q.nm) q.q ms).length ≤ 1048576)
    (hK : ∀ σ', PSt s most last (wrF F q.q ms) (setS (wrS q.q ms) S) fr σ' → K (i64 0) σ') :
    ALoop (fl Tryz.prog hintsZ (Tri Tryz.prog) 78 [true, true, true, false, true, false] [] K) [(2, some (.slice a ms.length 1)), (7, some (ptr q.x)), (60, some (.slice a ms.length 1)), (61, some (i64 ms.length)), (62, some (i64 0))] σ := by
  have hmem : q.q ∈ S := by rw [← hg.qS, hQ]; simp
  have hu : q.q.nm ≠ [] → unW q.q.wd * q.q.pl ≤ (bOf F q.q.nm).length := fun h => by
    rw [charsOf_len, if_neg h] at hp; exact un_le hp
  have srt' : ∀ zs, Srt (wrF F q.q zs) := fun zs => by unfold wrF; split; exact srt; exact setB_srt srt
  have f1' : ∀ j, ∀ f ∈ wrF F q.q (ms.take j), f.b.length ≤ 1048576 := fun j => by
    unfold wrF
    split
    · exact f1
    · rename_i h
      refine setB_len1 f1 fun _ => ?_
      have h2 := hb h
      rw [wrB_len (hu h)] at h2 ⊢
      have : unW q.q.wd * (q.q.pl + (ms.take j).length) ≤ unW q.q.wd * (q.q.pl + ms.length) := Nat.mul_le_mul_left _ (by rw [List.length_take]; omega)
      omega
  have hcl : (charsOf F q.q).length ≤ 1048576 := by
    rw [charsOf_len]
    split
    · omega
    · have h1 := sizeW_le q.q.wd (bOf F q.q.nm)
      have h2 : (bOf F q.q.nm).length ≤ 1048576 := by
        unfold bOf
        cases hf : F.find? (·.nm == q.q.nm) with
        | none => simp
        | some g => exact f1 g (List.mem_of_find?_eq_some hf)
      omega
  have hpl : ∀ j, (wrX q.q (ms.take j)).pl ≤ 2100000 := fun j => by
    unfold wrX wrS
    split
    · simp only; omega
    · simp only [List.length_take]; omega
  refine aloop (fun (j : Nat) rg σ' => j ≤ ms.length ∧ (∃ g' q', g'.ok (wrF F q.q (ms.take j)) (setS (wrX q.q (ms.take j)) S) ∧ g'.Q = Q1 ++ q' :: Q2 ∧ q'.q = wrX q.q (ms.take j) ∧ q'.x = q.x ∧ q'.fi = q.fi ∧ Has σ' ((s, g'.O most last) :: (g'.R ++ fr))) ∧
    rg = [(2, some (.slice a ms.length 1)), (7, some (ptr q.x)), (60, some (.slice a ms.length 1)), (61, some (i64 ms.length)), (62, some (i64 j))]) (fun j => ms.length - j) ?_ (a := 0) ⟨Nat.zero_le _, ⟨g, q, ?_, hQ, ?_, rfl, rfl, H⟩, rfl⟩
  · rintro j rg σ1 Y hY ⟨hj, ⟨g1, q1, hg1, hQ1, eq, ex, ef, H1⟩, rfl⟩
    obtain ⟨w1, w2, w3, w4, w5, w6⟩ := wrX_eq (x := q.q) (ms := ms.take j)
    have hq1 : q1 ∈ g1.Q := by rw [hQ1]; simp
    have hx1 : σ1 q.x = some q1.O := by rw [← ex]; exact PG.hasQ H1 hq1
    rw [z78l]
    refine bmd_mk (fun h => ?_) (fun h => ?_)
    · obtain ⟨c, hcj⟩ : ∃ c, ms[j]? = some c := ⟨ms[j]'(by omega), by simp⟩
      have et : ms.take (j + 1) = ms.take j ++ [c] := by rw [List.take_add_one, hcj]; rfl
      refine chr_in (ha.mono fun p hp => List.mem_cons_of_mem _ (List.mem_append_right _ hp)) H1 hcj ?_
      obtain ⟨z1, z2, z3⟩ := wr_step (F := F) (x := q.q) (ms := ms.take j) (c := c) hp hh
      rw [← et] at z1 z2
      have hcb := hc _ (List.mem_of_getElem? hcj)
      obtain ⟨t, u, f, e1, e2, e3⟩ := hput (K := fun v9 σ10 =>
            ldc σ10 ⟨q.x, 0 + 3, none⟩ fun v11 => tI .i64 v11 fun n12 => ldc σ10 ⟨q.x, 0, none⟩ fun v13 => tIf v13 (fun t14 u15 => pSome (methodOf Tryz.prog t14 "grotto/shelf.size") fun f16 => Tri Tryz.prog f16 [u15] σ10 fun v17 σ18 => tI .i64 v17 fun n19 =>
              ldc σ18 ⟨q.x, 0 + 3, none⟩ fun v20 => tI .i64 v20 fun n21 => i64 n12 = i64 n21 ∧ put1 σ18 ⟨q.x, 0 + 3, none⟩ (i64 (imin (IntKind.wrap .i64 (n12 + 1)) n19)) fun σ22 =>
                Y [(2, some (.slice a ms.length 1)), (7, some (ptr q.x)), (60, some (.slice a ms.length 1)), (61, some (i64 ms.length)), (62, some (i64 (IntKind.wrap .i64 ((j : Int) + 1))))] σ22) False) (c := c) hg1 H1 (srt' _) (f1' j) (setS_sn sn) hQ1 hcb (by rw [eq]; exact z3)
          (fun σ2 g2 q2 hg2 hQ2 eq2 ex2 ef2 eb2 H2 => by
        rw [eq] at eq2 hg2
        obtain ⟨p1, p2, p3, p4, p5, p6, p7⟩ := put1_eq (x := wrX q.q (ms.take j)) (c := c)
        have hq2 : q2 ∈ g2.Q := by rw [hQ2]; simp
        have hx2 : σ2 q.x = some q2.O := by rw [← ex, ← ex2]; exact PG.hasQ H2 hq2
        have srt2 : Srt (put1F (wrF F q.q (ms.take j)) (wrX q.q (ms.take j)) c) := by rw [z1]; exact srt' _
        have f2 : ∀ f ∈ put1F (wrF F q.q (ms.take j)) (wrX q.q (ms.take j)) c, f.b.length ≤ 1048576 := by rw [z1]; exact f1' _
        obtain ⟨t', u', f', d1, d2, d3⟩ := hsize0 (K := fun v17 σ18 => tI .i64 v17 fun n19 =>
              ldc σ18 ⟨q.x, 0 + 3, none⟩ fun v20 => tI .i64 v20 fun n21 => i64 q2.q.pl = i64 n21 ∧ put1 σ18 ⟨q.x, 0 + 3, none⟩ (i64 (imin (IntKind.wrap .i64 ((q2.q.pl : Int) + 1)) n19)) fun σ22 =>
                Y [(2, some (.slice a ms.length 1)), (7, some (ptr q.x)), (60, some (.slice a ms.length 1)), (61, some (i64 ms.length)), (62, some (i64 (IntKind.wrap .i64 ((j : Int) + 1))))] σ22) hg2 H2 srt2 f2 hq2 (fun σ3 H3 => by
          have hx3 : σ3 q.x = some q2.O := by rw [← ex, ← ex2]; exact PG.hasQ H3 hq2
          simp only [ldc_eq hx3, true_and, tI_int, tB_bool, tP_ptr, tM_map, tS_str, tTup_tup, tL_sl, tIf_if, pSome_some, chk_true, bm_true, bm_false, List.getElem?_cons_zero, List.getElem?_cons_succ, Nat.zero_add, Nat.add_zero, bne_self_eq_false, beq_self_eq_true, ptrEq_some, ptrEq_none, Bool.not_true, Bool.not_false, tAgg_agg, tCons_cons, tNil_nil, add_none, aadd_none, Option.getD_some, Option.getD_none, Option.map_some, Option.map_none]
          have hb2 := hpl j
          have ew : imin (IntKind.wrap .i64 ((q2.q.pl : Int) + 1)) (charsOf (put1F (wrF F q.q (ms.take j)) (wrX q.q (ms.take j)) c) q2.q).length = ((wrX q.q (ms.take (j + 1))).pl : Int) := by
            have : (wrX q.q (ms.take (j + 1))).pl = min ((wrX q.q (ms.take j)).pl + 1) (charsOf (put1F (wrF F q.q (ms.take j)) (wrX q.q (ms.take j)) c) (put1S (wrX q.q (ms.take j)) c)).length := by rw [← z2]
            rw [this, wrap1 (by rw [eq2, p7]; omega), eq2, p7]
            unfold imin
            split <;> omega
          rw [ew, wrap1 (by omega)]
          have eqx : ({ q2.q with pl := (wrX q.q (ms.take (j + 1))).pl } : Sm) = wrX q.q (ms.take (j + 1)) := by
            rw [eq2]
            conv => rhs; rw [← z2]
            rw [← z2]
          have ex' : q2.x = q.x := ex2.trans ex
          rw [← ex']
          refine putQ (q' := { q2 with q := { q2.q with pl := (wrX q.q (ms.take (j + 1))).pl } }) hg2 H3 hQ2 (setS_sn (setS_sn sn)) rfl rfl rfl rfl rfl (hg2.qo q2 hq2) rfl (by omega) rfl fun σ4 g4 hg4 hQ4 H4 => ?_
          refine hY (j + 1) _ _ (by omega) ⟨by omega, ⟨g4, _, ?_, hQ4, eqx, ex', ef2.trans ef, H4⟩, by rw [ex']⟩
          rw [← z1]
          have hg4 : g4.ok (put1F (wrF F q.q (ms.take j)) (wrX q.q (ms.take j)) c) (setS { q2.q with pl := (wrX q.q (ms.take (j + 1))).pl } (setS (put1S (wrX q.q (ms.take j)) c) (setS (wrX q.q (ms.take j)) S))) := hg4
          rw [eqx] at hg4
          have en : (wrX q.q (ms.take (j + 1))).n = q.q.n := (wrX_eq (x := q.q) (ms := ms.take (j + 1))).1
          rw [setS_setS S (by rw [p1]), setS_setS S (by rw [p1, w1, en])] at hg4
          exact hg4)
        simp only [ldc_eq hx2, d1, d2, true_and, tI_int, tB_bool, tP_ptr, tM_map, tS_str, tTup_tup, tL_sl, tIf_if, pSome_some, chk_true, bm_true, bm_false, List.getElem?_cons_zero, List.getElem?_cons_succ, Nat.zero_add, Nat.add_zero, bne_self_eq_false, beq_self_eq_true, ptrEq_some, ptrEq_none, Bool.not_true, Bool.not_false, tAgg_agg, tCons_cons, tNil_nil, add_none, aadd_none, Option.getD_some, Option.getD_none, Option.map_some, Option.map_none]
        exact d3)
      rw [← ef] at *
      have e3' := e3
      rw [show q1.q.pl = (wrX q.q (ms.take j)).pl from by rw [eq]] at e3'
      simp only [ldc_eq hx1, e1, e2, true_and, tI_int, tB_bool, tP_ptr, tM_map, tS_str, tTup_tup, tL_sl, tIf_if, pSome_some, chk_true, bm_true, bm_false, List.getElem?_cons_zero, List.getElem?_cons_succ, Nat.zero_add, Nat.add_zero, bne_self_eq_false, beq_self_eq_true, ptrEq_some, ptrEq_none, Bool.not_true, Bool.not_false, tAgg_agg, tCons_cons, tNil_nil, add_none, aadd_none, Option.getD_some, Option.getD_none, Option.map_some, Option.map_none]
      exact e3
    · have hjl : j = ms.length := by omega
      subst hjl
      rw [List.take_length] at hg1 eq w6
      simp only [ldc_eq hx1, true_and, tI_int, tB_bool, tP_ptr, tM_map, tS_str, tTup_tup, tL_sl, tIf_if, pSome_some, chk_true, bm_true, bm_false, List.getElem?_cons_zero, List.getElem?_cons_succ, Nat.zero_add, Nat.add_zero, bne_self_eq_false, beq_self_eq_true, ptrEq_some, ptrEq_none, Bool.not_true, Bool.not_false, tAgg_agg, tCons_cons, tNil_nil, add_none, aadd_none, Option.getD_some, Option.getD_none, Option.map_some, Option.map_none]
      have ew : IntKind.wrap .u32 ((q1.q.wr : Int) + IntKind.wrap .u32 (ms.length : Int)) = ((q.q.wr + ms.length : Nat) : Int) := by
        rw [eq, w6, wrapU32 (n := (ms.length : Int)) (by omega) (by omega), wrapU32 (by omega) (by omega)]
        omega
      rw [ew, ← ex]
      refine putQ (q' := { q1 with q := { q1.q with wr := q.q.wr + ms.length } }) hg1 H1 hQ1 (setS_sn sn) rfl rfl rfl rfl rfl (hg1.qo q1 hq1) rfl (by omega) rfl fun σ4 g4 hg4 hQ4 H4 => ?_
      refine hK σ4 ⟨g4, ?_, H4⟩
      have hg4 : g4.ok (wrF F q.q ms) (setS { q1.q with wr := q.q.wr + ms.length } (setS (wrX q.q ms) S)) := hg4
      have e9 : ({ q1.q with wr := q.q.wr + ms.length } : Sm) = wrS q.q ms := by
        rw [eq]
        unfold wrX wrS
        split <;> rfl
      rw [e9, setS_setS S (by unfold wrX wrS; split <;> rfl)] at hg4
      exact hg4
  · rw [List.take_zero, wrX_nil (cl := 0) (fun h => by rw [charsOf_len, if_pos h] at hp; exact hp), setS_self (n := 0) sn hmem]
    have : wrF F q.q [] = F := by
      unfold wrF
      split
      · rfl
      · rw [wrB_nil, setB_self srt]
    rw [this]
    exact hg
  · rw [List.take_zero, wrX_nil (cl := 0) (fun h => by rw [charsOf_len, if_pos h] at hp; exact hp)]
theorem p78 {ms : List Int} (hS : PSt s most last F S fr σ) (ok : Ok most last F S k) (ha : Inp u32 a ms fr) (hc : ∀ c ∈ ms, 0 ≤ c ∧ c ≤ 4294967295) (hm : ms.length ≤ 1000000)
    (hN : atS S n = none → ∀ σ', PSt s most last F S fr σ' → K (i64 5) σ')
    (hE : ∀ x, atS S n = some x → wrE most F x ms ≠ 0 → ∀ σ', PSt s most last F S fr σ' → K (i64 (wrE most F x ms)) σ')
    (hK : ∀ x, atS S n = some x → wrE most F x ms = 0 → ∀ σ', PSt s most last (wrF F x ms) (setS (wrS x ms) S) fr σ' → K (i64 0) σ') : Tri Tryz.prog 78 [ptr s, i64 n, .slice a ms.length 1] σ K := tri_iz (by
  rw [z78]
  have hS0 := hS
  obtain ⟨g, hg, H⟩ := hS
  have okd := ok.d
  refine p135 hg H ok.sn (fun h => ?_) (fun Q1 q Q2 h1 h2 hat => ?_)
  · simp only [true_and, tI_int, tB_bool, tP_ptr, tM_map, tS_str, tTup_tup, tL_sl, tIf_if, pSome_some, chk_true, bm_true, bm_false, List.getElem?_cons_zero, List.getElem?_cons_succ, Nat.zero_add, Nat.add_zero, bne_self_eq_false, beq_self_eq_true, ptrEq_some, ptrEq_none, Bool.not_true, Bool.not_false, tAgg_agg, tCons_cons, tNil_nil, add_none, aadd_none, Option.getD_some, Option.getD_none, Option.map_some, Option.map_none]
    exact bne_mk (fun _ => hN h σ hS0) (fun h => absurd h (by decide))
  have hq : q ∈ g.Q := by rw [h1]; simp
  have hmem : q.q ∈ S := (atS_mem hat).1
  have hcl := chars_le okd hmem
  have hplx := ok.pl _ hmem
  have hx := PG.hasQ H hq
  have ht := ok.tot
  have hm1 := ok.most1
  have hk := ok.kle
  have hwr := ok.wr _ hmem
  have hln := ok.ln _ hmem
  have hu : q.q.nm ≠ [] → unW q.q.wd * q.q.pl ≤ (bOf F q.q.nm).length := fun h => by
    rw [charsOf_len, if_neg h] at hplx; exact un_le hplx
  simp only [true_and, tI_int, tB_bool, tP_ptr, tM_map, tS_str, tTup_tup, tL_sl, tIf_if, pSome_some, chk_true, bm_true, bm_false, List.getElem?_cons_zero, List.getElem?_cons_succ, Nat.zero_add, Nat.add_zero, bne_self_eq_false, beq_self_eq_true, ptrEq_some, ptrEq_none, Bool.not_true, Bool.not_false, tAgg_agg, tCons_cons, tNil_nil, add_none, aadd_none, Option.getD_some, Option.getD_none, Option.map_some, Option.map_none]
  refine p136 hx ?_
  rw [tB_bool]
  refine bnot_mk (fun h => ?_) (fun h => ?_)
  · have h2 : q.q.mode = 2 := by simpa using h
    have e : wrE most F q.q ms = 1 := by unfold wrE; rw [if_pos h2]
    have := hE _ hat (by rw [e]; decide) σ hS0
    rw [e] at this
    exact this
  have h2 : q.q.mode ≠ 2 := by simpa using h
  have go : ∀ b σ1, Has σ1 ((s, g.O most last) :: (g.R ++ fr)) → (b = true → wrE most F q.q ms = 7) → (b = false → wrE most F q.q ms = 0) → (q.q.nm ≠ [] → b = false → (wrB (bOf F q.q.nm) q.q ms).length ≤ 1048576) → JoinS (jn Tryz.prog hintsZ (Tri Tryz.prog) 78 [true, true, false, false, true, true, true, true] [] K) [(2, some (.slice a ms.length 1)), (7, some (ptr q.x)), (25, some (.bool b))] σ1 := by
    intro b σ1 H1 hb1 hb0 hlen
    refine ⟨?_⟩
    rw [z78j]
    refine bm_mk (fun h => ?_) (fun h => ?_)
    · have e := hb1 h
      have := hE _ hat (by rw [e]; decide) σ1 ⟨g, hg, H1⟩
      rw [e] at this
      exact this
    · exact p78l hg H1 ok.srt ok.flen1 ok.sn h1 (ok.has _ hmem) ha hc hm hplx hln (by omega) (fun hne => hlen hne h) fun σ2 S2 => hK _ hat (hb0 h) σ2 S2
  have hb0 : q.q.nm = [] → wrE most F q.q ms = 0 := fun h => by unfold wrE; rw [if_neg h2, if_neg (fun c => c.1 h)]
  refine bmd_mk (fun hpos => ?_) (fun hneg => ?_)
  · simp only [ldc_eq hx, true_and, tI_int, tB_bool, tP_ptr, tM_map, tS_str, tTup_tup, tL_sl, tIf_if, pSome_some, chk_true, bm_true, bm_false, List.getElem?_cons_zero, List.getElem?_cons_succ, Nat.zero_add, Nat.add_zero, bne_self_eq_false, beq_self_eq_true, ptrEq_some, ptrEq_none, Bool.not_true, Bool.not_false, tAgg_agg, tCons_cons, tNil_nil, add_none, aadd_none, Option.getD_some, Option.getD_none, Option.map_some, Option.map_none]
    by_cases h : q.q.nm = []
    · rw [PQ.fp_b h]
      simp only [true_and, tI_int, tB_bool, tP_ptr, tM_map, tS_str, tTup_tup, tL_sl, tIf_if, pSome_some, chk_true, bm_true, bm_false, List.getElem?_cons_zero, List.getElem?_cons_succ, Nat.zero_add, Nat.add_zero, bne_self_eq_false, beq_self_eq_true, ptrEq_some, ptrEq_none, Bool.not_true, Bool.not_false, tAgg_agg, tCons_cons, tNil_nil, add_none, aadd_none, Option.getD_some, Option.getD_none, Option.map_some, Option.map_none]
      exact go false σ H (fun h => by cases h) (fun _ => hb0 h) (fun hne => absurd h hne)
    · obtain ⟨G1, r, G2, hG, r1, r2, r3, r4, r5⟩ := hg.file ok.srt hq h
      have hfl := ok.flen1 _ r4
      have hu := hu h
      have hwl := wrB_len (ms := ms) hu
      have hbt : (bOf F q.q.nm).length ≤ totF F := bOf_len q.q.nm
      have hu4 : unW q.q.wd * (q.q.pl + ms.length) ≤ 4 * (q.q.pl + ms.length) := Nat.mul_le_mul_right _ (by cases q.q.wd <;> simp [unW])
      simp only [PQ.fp_f h, PQ.on_f h, ldc_eq (H.at 0 rfl), true_and, tI_int, tB_bool, tP_ptr, tM_map, tS_str, tTup_tup, tL_sl, tIf_if, pSome_some, chk_true, bm_true, bm_false, List.getElem?_cons_zero, List.getElem?_cons_succ, Nat.zero_add, Nat.add_zero, bne_self_eq_false, beq_self_eq_true, ptrEq_some, ptrEq_none, Bool.not_true, Bool.not_false, tAgg_agg, tCons_cons, tNil_nil, add_none, aadd_none, Option.getD_some, Option.getD_none, Option.map_some, Option.map_none]
      refine p137 hg H (by omega) fun σ1 H1 => ?_
      have hx1 := PG.hasQ H1 hq
      have epl : IntKind.wrap .i64 ((q.q.pl : Int) + (ms.length : Int)) = ((q.q.pl + ms.length : Nat) : Int) := by rw [wrap64 (by omega) (by omega)]; omega
      simp only [ldc_eq (H1.at 0 rfl), ldc_eq hx1, PQ.on_f h, meth_more_g, epl, true_and, tI_int, tB_bool, tP_ptr, tM_map, tS_str, tTup_tup, tL_sl, tIf_if, pSome_some, chk_true, bm_true, bm_false, List.getElem?_cons_zero, List.getElem?_cons_succ, Nat.zero_add, Nat.add_zero, bne_self_eq_false, beq_self_eq_true, ptrEq_some, ptrEq_none, Bool.not_true, Bool.not_false, tAgg_agg, tCons_cons, tNil_nil, add_none, aadd_none, Option.getD_some, Option.getD_none, Option.map_some, Option.map_none]
      rw [← r2]
      refine cmo (bs := r.f.b) (a := r.a) (e := r.e) (oa := r.oa) (on := r.op.length) (oe := r.oe) (rows := r.rows) (X := (s, g.O most last) :: ((g.f, .map (g.G.map entF) g.cf) :: ((g.m, .map (g.Q.map entQ) g.cm) :: (r.orows ++ (G1.flatMap PF.L ++ (G2.flatMap PF.L ++ (g.Q.flatMap PQ.L ++ fr))))))) (H1.sep ?_) r3.b (by omega) (by omega) fun σ2 H2 => ?_
      · intro a
        simp only [PG.R, hG, PF.L, PF.O, fiO, cnt_app, cnt_cons, cnt_nil, List.flatMap_append, List.flatMap_cons, List.flatMap_nil, List.append_assoc, List.cons_append, List.nil_append, i64, u32, u8, ptr, List.set_cons_zero, List.set_cons_succ]
        omega
      have H3 : Has σ2 ((s, g.O most last) :: (g.R ++ fr)) := by
        refine H2.sep ?_
        intro a
        simp only [PG.R, hG, PF.L, PF.O, fiO, cnt_app, cnt_cons, cnt_nil, List.flatMap_append, List.flatMap_cons, List.flatMap_nil, List.append_assoc, List.cons_append, List.nil_append, i64, u32, u8, ptr, List.set_cons_zero, List.set_cons_succ]
        omega
      simp only [ldc_eq (H3.at 0 rfl), true_and, tI_int, tB_bool, tP_ptr, tM_map, tS_str, tTup_tup, tL_sl, tIf_if, pSome_some, chk_true, bm_true, bm_false, List.getElem?_cons_zero, List.getElem?_cons_succ, Nat.zero_add, Nat.add_zero, bne_self_eq_false, beq_self_eq_true, ptrEq_some, ptrEq_none, Bool.not_true, Bool.not_false, tAgg_agg, tCons_cons, tNil_nil, add_none, aadd_none, Option.getD_some, Option.getD_none, Option.map_some, Option.map_none]
      rw [r5] at hwl hbt
      have et : IntKind.wrap .i64 ((totF F : Int) + ((unW q.q.wd * (q.q.pl + ms.length) - r.f.b.length : Nat) : Int)) = (totF F : Int) - r.f.b.length + (wrB r.f.b q.q ms).length := by
        rw [hwl, wrap64 (by omega) (by omega)]
        omega
      rw [et]
      refine go _ σ2 H3 (fun hb => ?_) (fun hb => ?_) (fun _ hb => ?_)
      · have := of_decide_eq_true hb
        unfold wrE
        rw [if_neg h2, if_pos ⟨h, by rw [r5]; omega⟩]
      · have := of_decide_eq_false hb
        unfold wrE
        rw [if_neg h2, if_neg (fun c => this (by rw [r5] at c; omega))]
      · have := of_decide_eq_false hb
        rw [r5]
        omega
  · have hms : ms = [] := by
      cases ms with
      | nil => rfl
      | cons c r => simp at hneg
    subst hms
    have e0 : q.q.nm ≠ [] → (wrB (bOf F q.q.nm) q.q []).length ≤ 1048576 := fun h => by
      rw [wrB_nil]
      have := bOf_len (F := F) q.q.nm
      omega
    refine go false σ H (fun h => by cases h) (fun _ => ?_) (fun hne _ => e0 hne)
    unfold wrE
    rw [if_neg h2, if_neg]
    rintro ⟨_, h3⟩
    rw [wrB_nil] at h3
    omega)
end
end Go.AI
end
section
set_option linter.unusedSimpArgs false
set_option linter.unusedVariables false
set_option maxRecDepth 10000
/- The program: New, Put, Get, Delete; no condition but those that each names. -/
namespace Go.AI
open Go.Proofs Go.Shelf
section
variable {σ : AS} {K : Value → AS → Prop} {fr X : List (Nat × AObj)} {s k B : Nat} {g : PG} {most last n mode : Int} {nm : List UInt8} {F : List Fi} {S : List Sm} {l : List Int} {a : Option Addr} {wd : Bool}
theorem onF_nil {Q : List PQ} : onF nm Q = [] ↔ ∀ q ∈ Q, q.q.nm ≠ nm := by
  unfold onF
  rw [List.map_eq_nil_iff, List.filter_eq_nil_iff]
  simp
theorem held_iff (hg : g.ok F S) : held S nm = decide (0 < (onF nm g.Q).length) := by
  unfold held
  rw [← hg.qS]
  by_cases h : onF nm g.Q = []
  · rw [h]
    have := onF_nil.1 h
    simp
    exact this
  · have h2 : ¬ ∀ q ∈ g.Q, q.q.nm ≠ nm := fun c => h (onF_nil.2 c)
    have h3 : 0 < (onF nm g.Q).length := List.length_pos_iff.2 h
    rw [decide_eq_true h3]
    simpa using h2
theorem PG.ok.noQ (hg : g.ok F S) (hh : Go.Shelf.hasF F nm = false) (hne : nm ≠ []) : ∀ q ∈ g.Q, q.q.nm ≠ nm := by
  intro q hq e
  obtain ⟨r, hr, h1, _⟩ := hg.lnk q hq (by rw [e]; exact hne)
  exact hasF_false.1 hh r.f (hg.gF.mem_iff.1 (List.mem_map_of_mem hr)) (h1.trans e)
theorem PG.ok.addG {r : PF} (hg : g.ok F S) (hn : Go.Shelf.hasF F r.f.nm = false) (hne : r.f.nm ≠ []) (ho : r.ok) (hop : r.op = []) (hb : r.bn = g.cf) : ({ g with G := g.G ++ [r], cf := g.cf + 1 } : PG).ok (insF r.f F) S := by
  refine ⟨?_, hg.qS, ?_, hg.qo, ?_, ?_, ?_, hg.bQ⟩
  · show ((g.G ++ [r]).map PF.f).Perm _
    rw [List.map_append]
    exact (List.perm_append_comm.trans ((hg.gF.cons r.f))).trans (insF_perm _ _).symm
  · intro q hq
    rcases List.mem_append.1 hq with h | h
    · exact hg.go q h
    · rw [List.mem_singleton.1 h]; exact ho
  · intro q hq
    rcases List.mem_append.1 hq with h | h
    · exact hg.opn q h
    · rw [List.mem_singleton.1 h, hop]
      exact (onF_nil.2 (hg.noQ hn hne)).symm
  · intro q hq h
    obtain ⟨t, ht, e⟩ := hg.lnk q hq h
    exact ⟨t, List.mem_append_left _ ht, e⟩
  · refine ⟨?_, ?_⟩
    · show ((g.G ++ [r]).map fun x => (entF x).born).Nodup
      rw [List.map_append, List.nodup_append]
      refine ⟨hg.bF.1, by simp, ?_⟩
      intro x hx y hy
      obtain ⟨q, hq, rfl⟩ := List.mem_map.1 hx
      have := hg.bF.2 q hq
      have hy : y = g.cf := by simpa [entF, hb] using hy
      omega
    · intro q hq
      rcases List.mem_append.1 hq with h | h
      · have := hg.bF.2 q h
        show (entF q).born < g.cf + 1
        omega
      · rw [List.mem_singleton.1 h]
        show r.bn < g.cf + 1
        omega
theorem PG.ok.delG {G1 G2 : List PF} {r : PF} (hg : g.ok F S) (hG : g.G = G1 ++ r :: G2) (hs : Srt F) (hh : ∀ q ∈ g.Q, q.q.nm ≠ r.f.nm) (g1 : ∀ q ∈ G1, q.f.nm ≠ r.f.nm) (g2 : ∀ q ∈ G2, q.f.nm ≠ r.f.nm) : ({ g with G := G1 ++ G2 } : PG).ok (delF r.f.nm F) S := by
  have sub : ∀ q ∈ G1 ++ G2, q ∈ g.G := fun q hq => by
    rw [hG]
    rcases List.mem_append.1 hq with h | h <;> simp [h]
  refine ⟨?_, hg.qS, fun q hq => hg.go q (sub q hq), hg.qo, fun q hq => hg.opn q (sub q hq), ?_, ?_, hg.bQ⟩
  · have e1 : (G1 ++ G2).map PF.f = delF r.f.nm (g.G.map PF.f) := by
      rw [hG, List.map_append, List.map_append, List.map_cons]
      have q1 : ∀ f ∈ G1.map PF.f, f.nm ≠ r.f.nm := fun f hf => by obtain ⟨q, hq, rfl⟩ := List.mem_map.1 hf; exact g1 q hq
      have q2 : ∀ f ∈ G2.map PF.f, f.nm ≠ r.f.nm := fun f hf => by obtain ⟨q, hq, rfl⟩ := List.mem_map.1 hf; exact g2 q hq
      rw [delF_split q1 q2]
    show ((G1 ++ G2).map PF.f).Perm _
    rw [e1]
    exact hg.gF.filter _
  · intro q hq hne
    obtain ⟨t, ht, e1, e2⟩ := hg.lnk q hq hne
    rw [hG] at ht
    refine ⟨t, ?_, e1, e2⟩
    rcases List.mem_append.1 ht with h | h
    · exact List.mem_append_left _ h
    · rcases List.mem_cons.1 h with rfl | h
      · exact absurd e1.symm (hh q hq)
      · exact List.mem_append_right _ h
  · refine ⟨?_, fun q hq => hg.bF.2 q (sub q hq)⟩
    have := hg.bF.1
    rw [hG] at this
    refine this.sublist (List.Sublist.map _ ?_)
    exact List.Sublist.append_left (List.sublist_cons_self _ _) _
theorem eraseIdx_mid {α : Type} (A : List α) (x : α) (C : List α) : (A ++ x :: C).eraseIdx A.length = A ++ C := by
  induction A with
  | nil => rfl
  | cons b A ih => simp [List.eraseIdx, ih]
theorem modify_mid {α : Type} (f : α → α) (A : List α) (x : α) (C : List α) : (A ++ x :: C).modify A.length f = A ++ f x :: C := by
  induction A with
  | nil => rfl
  | cons b A ih => simp [List.modify_succ_cons, ih]
theorem p197 (hK : K (.bool (decide (named nm))) σ) : Tri Tryz.prog 197 [.string (bsV nm)] σ K := tri_iz (by
  rw [z197]
  simp only [size_bs]
  refine bmd_mk (fun h => ?_) (fun h => ?_)
  · have : (decide (((nm.length : Nat) : Int) ≤ 32)) = decide (named nm) := by
      by_cases h2 : nm.length ≤ 32
      · rw [decide_eq_true (by omega), decide_eq_true (show named nm from ⟨by omega, h2⟩)]
      · rw [decide_eq_false (by omega), decide_eq_false (show ¬ named nm from fun c => h2 c.2)]
    rw [this]; exact hK
  · have : decide (named nm) = false := decide_eq_false (fun c => h (by have := c.1; omega))
    rw [this] at hK; exact hK)
/-- A row of numbers that may be read, perhaps with more behind it. -/
def InpZ (c : Int → Value) (a : Option Addr) (l : List Int) (X : List (Nat × AObj)) : Prop := l = [] ∨ ∃ r k z, a = some ⟨r, 0, none⟩ ∧ (r, AObj.row k (l.map c ++ z)) ∈ X
theorem InpZ.mono {c : Int → Value} {Y : List (Nat × AObj)} (h : InpZ c a l X) (hs : ∀ p ∈ X, p ∈ Y) : InpZ c a l Y := by
  rcases h with h | ⟨r, k, z, h1, h2⟩
  · exact .inl h
  · exact .inr ⟨r, k, z, h1, hs _ h2⟩
theorem Inp.z {c : Int → Value} (h : Inp c a l X) : InpZ c a l X := by
  rcases h with h | ⟨r, k, h1, h2⟩
  · exact .inl h
  · exact .inr ⟨r, k, [], h1, by rw [List.append_nil]; exact h2⟩
theorem srcZ {c : Int → Value} {G : Nat → List Value → Prop} (ha : InpZ c a l X) (H : Has σ X) (hG : G l.length (l.map c)) : srcCells σ 1 (some (.slice a l.length 1)) G := by
  rcases ha with rfl | ⟨r0, k0, z0, rfl, hm⟩
  · cases a with
    | none => exact hG
    | some a0 =>
      unfold srcCells
      refine req_mk rfl ?_
      unfold lds AS.cells
      exact hG
  · unfold srcCells
    refine req_mk rfl (ldsm H hm (by simp) ?_)
    have : ((l.map c ++ z0).drop 0).take (l.length * 1) = l.map c := by rw [List.drop_zero]; exact List.take_left' (by simp)
    rw [this]
    exact hG
/-- A copy of bytes. -/
theorem p44 (H : Has σ fr) (hE : ¬ (0 ≤ n ∧ n ≤ 1048576) → K (.tuple ⟨[.pointer none, i64 1]⟩) σ) (hK : 0 ≤ n ∧ n ≤ 1048576 → ∀ σ' s, PSt s n 0 [] [] fr σ' → K (.tuple ⟨[ptr s, i64 0]⟩) σ') : Tri Tryz.prog 44 [i64 n] σ K := tri_iz (by
  rw [z44]
  refine bmd_mk (fun h => hE (by omega)) (fun h0 => bmd_mk (fun h => hE (by omega)) (fun h1 => ?_))
  refine newAt_mk H fun i0 σ1 H1 => newAt_mk H1 fun i2 σ3 H3 => newAt_mk H3 fun i4 σ5 H5 => ?_
  refine hK ⟨by omega, by omega⟩ σ5 i4 ⟨⟨[], 0, i0, [], 0, i2⟩, ⟨.refl _, rfl, by simp, by simp, by simp, by simp, ⟨by simp, by simp⟩, ⟨by simp, by simp⟩⟩, H5.sep ?_⟩
  intro a
  simp only [PG.R, PG.O, shelfO, List.map_nil, cnt_app, cnt_cons, cnt_nil, List.flatMap_append, List.flatMap_cons, List.flatMap_nil, List.append_assoc, List.cons_append, List.nil_append, i64, u32, u8, ptr, List.set_cons_zero, List.set_cons_succ]
  omega)
theorem p71 (hS : PSt s most last F S fr σ) (srt : Srt F) (f1 : ∀ f ∈ F, f.b.length ≤ 1048576)
    (hN : hasF F nm = false → ∀ σ', PSt s most last F S fr σ' → K (.tuple ⟨[.slice none 0 0, .bool false]⟩) σ')
    (hK : hasF F nm = true → ∀ σ' a' rows, SlC 1 a' 1 (cells8 (bOf F nm)) rows → PSt s most last F S (rows ++ fr) σ' → K (.tuple ⟨[.slice a' (bOf F nm).length 1, .bool true]⟩) σ') : Tri Tryz.prog 71 [ptr s, .string (bsV nm)] σ K := tri_iz (by
  rw [z71]
  have hS0 := hS
  obtain ⟨g, hg, H⟩ := hS
  simp only [ldc_eq (H.at 0 rfl), mget_eq (PG.hasf H), true_and, tI_int, tB_bool, tP_ptr, tM_map, tS_str, tTup_tup, tL_sl, tIf_if, pSome_some, chk_true, bm_true, bm_false, List.getElem?_cons_zero, List.getElem?_cons_succ, Nat.zero_add, Nat.add_zero, bne_self_eq_false, beq_self_eq_true, ptrEq_some, ptrEq_none, Bool.not_true, Bool.not_false, tAgg_agg, tCons_cons, tNil_nil, add_none, aadd_none, Option.getD_some, Option.getD_none, Option.map_some, Option.map_none]
  rcases lookF hg.gF srt nm with ⟨G1, r, G2, hG, h1, h2, h3, h4, h5, _⟩ | ⟨h1, h2, _⟩
  · rw [h5]
    simp only [true_and, tI_int, tB_bool, tP_ptr, tM_map, tS_str, tTup_tup, tL_sl, tIf_if, pSome_some, chk_true, bm_true, bm_false, List.getElem?_cons_zero, List.getElem?_cons_succ, Nat.zero_add, Nat.add_zero, bne_self_eq_false, beq_self_eq_true, ptrEq_some, ptrEq_none, Bool.not_true, Bool.not_false, tAgg_agg, tCons_cons, tNil_nil, add_none, aadd_none, Option.getD_some, Option.getD_none, Option.map_some, Option.map_none]
    refine ⟨?_⟩
    rw [z71j, bm_false]
    refine newAt_mk H fun i0 σ1 H1 => ?_
    have H2 : Has σ1 ((s, g.O most last) :: (g.R ++ ((i0, .row .rw []) :: fr))) := H1.sep (fun a => by simp only [cnt_app, cnt_cons, cnt_nil, List.flatMap_append, List.flatMap_cons, List.flatMap_nil, List.append_assoc, List.cons_append, List.nil_append, i64, u32, u8, ptr, List.set_cons_zero, List.set_cons_succ]; omega)
    have hr : r ∈ g.G := by rw [hG]; simp
    have hb := (hg.go r hr).b
    simp only [ldc_eq (H2.at 0 rfl), mget_eq (PG.hasf H2), h5, ldc_eq (PG.hasF H2 hr), tL_ok_eq hb.no, true_and, tI_int, tB_bool, tP_ptr, tM_map, tS_str, tTup_tup, tL_sl, tIf_if, pSome_some, chk_true, bm_true, bm_false, List.getElem?_cons_zero, List.getElem?_cons_succ, Nat.zero_add, Nat.add_zero, bne_self_eq_false, beq_self_eq_true, ptrEq_some, ptrEq_none, Bool.not_true, Bool.not_false, tAgg_agg, tCons_cons, tNil_nil, add_none, aadd_none, Option.getD_some, Option.getD_none, Option.map_some, Option.map_none]
    have hf := f1 _ h4
    refine srcC (n := r.f.b.length) (rows := r.rows) hb.e1 H2 (fun p hp => ?_) (by simp) (by omega) ?_
    · refine List.mem_cons_of_mem _ (List.mem_append_left _ ?_)
      unfold PG.R
      refine List.mem_cons_of_mem _ (List.mem_cons_of_mem _ (List.mem_append_left _ (List.mem_flatMap.2 ⟨r, hr, ?_⟩)))
      unfold PF.L
      simp [hp]
    · refine appC (cells := []) (e := 1) (rows := [(i0, .row .rw [])]) (X := (s, g.O most last) :: (g.R ++ fr)) SlC.row (H1.sep (fun a => by simp only [cnt_app, cnt_cons, cnt_nil, List.flatMap_append, List.flatMap_cons, List.flatMap_nil, List.append_assoc, List.cons_append, List.nil_append, i64, u32, u8, ptr, List.set_cons_zero, List.set_cons_succ]; omega)) rfl (by simp) (by omega) (by omega) fun a' σ4 rows' hs' H4 => ?_
      rw [List.nil_append] at hs'
      rw [Nat.zero_add]
      have := hK h2 σ4 a' rows'
      rw [h3] at this
      exact this hs' ⟨g, hg, H4.sep (fun a => by simp only [cnt_app, cnt_cons, cnt_nil, List.flatMap_append, List.flatMap_cons, List.flatMap_nil, List.append_assoc, List.cons_append, List.nil_append, i64, u32, u8, ptr, List.set_cons_zero, List.set_cons_succ]; omega)⟩
  · rw [h2]
    simp only [true_and, tI_int, tB_bool, tP_ptr, tM_map, tS_str, tTup_tup, tL_sl, tIf_if, pSome_some, chk_true, bm_true, bm_false, List.getElem?_cons_zero, List.getElem?_cons_succ, Nat.zero_add, Nat.add_zero, bne_self_eq_false, beq_self_eq_true, ptrEq_some, ptrEq_none, Bool.not_true, Bool.not_false, tAgg_agg, tCons_cons, tNil_nil, add_none, aadd_none, Option.getD_some, Option.getD_none, Option.map_some, Option.map_none]
    refine ⟨?_⟩
    rw [z71j, bm_true]
    exact hN h1 σ hS0)
theorem p102 (hS : PSt s most last F S fr σ) (srt : Srt F)
    (hE : delB F S nm = false → ∀ σ', PSt s most last F S fr σ' → K (.bool false) σ')
    (hK : delB F S nm = true → ∀ σ', PSt s most last (delF nm F) S fr σ' → K (.bool true) σ') : Tri Tryz.prog 102 [ptr s, .string (bsV nm)] σ K := tri_iz (by
  rw [z102]
  have hS0 := hS
  obtain ⟨g, hg, H⟩ := hS
  simp only [ldc_eq (H.at 0 rfl), mget_eq (PG.hasf H), true_and, tI_int, tB_bool, tP_ptr, tM_map, tS_str, tTup_tup, tL_sl, tIf_if, pSome_some, chk_true, bm_true, bm_false, List.getElem?_cons_zero, List.getElem?_cons_succ, Nat.zero_add, Nat.add_zero, bne_self_eq_false, beq_self_eq_true, ptrEq_some, ptrEq_none, Bool.not_true, Bool.not_false, tAgg_agg, tCons_cons, tNil_nil, add_none, aadd_none, Option.getD_some, Option.getD_none, Option.map_some, Option.map_none]
  rcases lookF hg.gF srt nm with ⟨G1, r, G2, hG, h1, h2, h3, h4, h5, g1, g2⟩ | ⟨h1, h2, _⟩
  · have hr : r ∈ g.G := by rw [hG]; simp
    have ho := (hg.go r hr).o
    simp only [h5, ldc_eq (PG.hasF H hr), tL_ok_eq ho.no, true_and, tI_int, tB_bool, tP_ptr, tM_map, tS_str, tTup_tup, tL_sl, tIf_if, pSome_some, chk_true, bm_true, bm_false, List.getElem?_cons_zero, List.getElem?_cons_succ, Nat.zero_add, Nat.add_zero, bne_self_eq_false, beq_self_eq_true, ptrEq_some, ptrEq_none, Bool.not_true, Bool.not_false, tAgg_agg, tCons_cons, tNil_nil, add_none, aadd_none, Option.getD_some, Option.getD_none, Option.map_some, Option.map_none]
    refine ⟨?_⟩
    rw [z102j]
    have hop := hg.opn r hr
    have hh := held_iff (nm := nm) hg
    rw [← h1, ← hop, h1] at hh
    refine bmd_mk (fun h => hE ?_ σ hS0) (fun h => ?_)
    · unfold delB
      rw [hh, decide_eq_true (by omega)]
      simp
    · have hf : held S nm = false := by rw [hh]; exact decide_eq_false (by omega)
      have hd : delB F S nm = true := by unfold delB; rw [h2, hf]; rfl
      simp only [ldc_eq (H.at 0 rfl), true_and, tI_int, tB_bool, tP_ptr, tM_map, tS_str, tTup_tup, tL_sl, tIf_if, pSome_some, chk_true, bm_true, bm_false, List.getElem?_cons_zero, List.getElem?_cons_succ, Nat.zero_add, Nat.add_zero, bne_self_eq_false, beq_self_eq_true, ptrEq_some, ptrEq_none, Bool.not_true, Bool.not_false, tAgg_agg, tCons_cons, tNil_nil, add_none, aadd_none, Option.getD_some, Option.getD_none, Option.map_some, Option.map_none]
      have H2 : Has σ ((g.f, .map (g.G.map entF) g.cf) :: ((s, g.O most last) :: ((g.m, .map (g.Q.map entQ) g.cm) :: (G1.flatMap PF.L ++ (G2.flatMap PF.L ++ (g.Q.flatMap PQ.L ++ fr)))))) := by
        refine H.sep fun a => ?_
        simp only [PG.R, hG, cnt_app, cnt_cons, cnt_nil, List.flatMap_append, List.flatMap_cons, List.flatMap_nil, List.append_assoc, List.cons_append, List.nil_append, i64, u32, u8, ptr, List.set_cons_zero, List.set_cons_succ]
        omega
      refine mdel0 H2 h5 fun σ3 H3 => ?_
      have hnQ : ∀ q ∈ g.Q, q.q.nm ≠ r.f.nm := by
        have e0 : r.op.length = 0 := by omega
        have := List.length_eq_zero_iff.1 e0
        rw [hop] at this
        exact onF_nil.1 this
      have e1 : (g.G.map entF).eraseIdx G1.length = (G1 ++ G2).map entF := by
        rw [hG, List.map_append, List.map_cons, List.map_append]
        have := eraseIdx_mid (G1.map entF) (entF r) (G2.map entF)
        rw [List.length_map] at this
        exact this
      rw [e1] at H3
      have hk := hg.delG hG srt hnQ (fun q hq => by rw [h1]; exact g1 q hq) (fun q hq => by rw [h1]; exact g2 q hq)
      rw [h1] at hk
      refine hK hd σ3 ⟨_, hk, H3.sep fun a => ?_⟩
      simp only [PG.R, PG.O, shelfO, cnt_app, cnt_cons, cnt_nil, List.flatMap_append, List.flatMap_cons, List.flatMap_nil, List.append_assoc, List.cons_append, List.nil_append, i64, u32, u8, ptr, List.set_cons_zero, List.set_cons_succ]
      omega
  · rw [h2]
    simp only [true_and, tI_int, tB_bool, tP_ptr, tM_map, tS_str, tTup_tup, tL_sl, tIf_if, pSome_some, chk_true, bm_true, bm_false, List.getElem?_cons_zero, List.getElem?_cons_succ, Nat.zero_add, Nat.add_zero, bne_self_eq_false, beq_self_eq_true, ptrEq_some, ptrEq_none, Bool.not_true, Bool.not_false, tAgg_agg, tCons_cons, tNil_nil, add_none, aadd_none, Option.getD_some, Option.getD_none, Option.map_some, Option.map_none]
    refine ⟨?_⟩
    rw [z102j, bm_true]
    exact hE (by unfold delB; rw [h1]; rfl) σ hS0)
end
end Go.AI
end
section
set_option linter.unusedSimpArgs false
set_option linter.unusedVariables false
set_option maxRecDepth 10000
/- The program: Put; a stream registered; no condition but those that each names. -/
namespace Go.AI
open Go.Proofs Go.Shelf
section
variable {σ : AS} {K : Value → AS → Prop} {fr X : List (Nat × AObj)} {s k B : Nat} {g : PG} {most last n mode : Int} {nm : List UInt8} {F : List Fi} {S : List Sm} {l : List Int} {a : Option Addr} {wd : Bool}
theorem PG.lenG (hg : g.ok F S) : g.G.length = F.length := by
  have := hg.gF.length_eq
  rwa [List.length_map] at this
theorem PG.lenQ (hg : g.ok F S) : g.Q.length = S.length := by
  have := congrArg List.length hg.qS
  rwa [List.length_map] at this
/-- The end of Put. -/
theorem p185 {x f m c : Nat} {es : List MapEntry} (H : Has σ ((s, shelfO most last f m) :: ((m, .map es c) :: X))) (hx : Instr.findNow (.int .i64) (i64 (last + 1)) es 0 = some none) (h0 : 0 ≤ last) (h1 : last ≤ 1099511627776)
    (hK : ∀ σ', Has σ' ((s, shelfO most (last + 1) f m) :: ((m, .map (es ++ [{ key := i64 (last + 1), val := ptr x, born := c }]) (c + 1)) :: X)) → K (i64 (last + 1)) σ') : Tri Tryz.prog 185 [ptr s, ptr x] σ K := tri_iz (by
  rw [z185]
  simp only [ldc_eq (H.at 0 rfl), true_and, tI_int, tB_bool, tP_ptr, tM_map, tS_str, tTup_tup, tL_sl, tIf_if, pSome_some, chk_true, bm_true, bm_false, List.getElem?_cons_zero, List.getElem?_cons_succ, Nat.zero_add, Nat.add_zero, bne_self_eq_false, beq_self_eq_true, ptrEq_some, ptrEq_none, Bool.not_true, Bool.not_false, tAgg_agg, tCons_cons, tNil_nil, add_none, aadd_none, Option.getD_some, Option.getD_none, Option.map_some, Option.map_none]
  rw [wrap64 (by omega) (by omega)]
  refine put0 H rfl (by simp) fun σ1 H1 => ?_
  simp only [List.set_cons_zero, List.set_cons_succ] at H1
  simp only [ldc_eq (H1.at 0 rfl), true_and, tI_int, tB_bool, tP_ptr, tM_map, tS_str, tTup_tup, tL_sl, tIf_if, pSome_some, chk_true, bm_true, bm_false, List.getElem?_cons_zero, List.getElem?_cons_succ, Nat.zero_add, Nat.add_zero, bne_self_eq_false, beq_self_eq_true, ptrEq_some, ptrEq_none, Bool.not_true, Bool.not_false, tAgg_agg, tCons_cons, tNil_nil, add_none, aadd_none, Option.getD_some, Option.getD_none, Option.map_some, Option.map_none]
  have H1' : Has σ1 ((m, .map es c) :: ((s, shelfO most (last + 1) f m) :: X)) := H1.sep fun a => by
    simp only [shelfO, cnt_app, cnt_cons, cnt_nil, List.flatMap_append, List.flatMap_cons, List.flatMap_nil, List.append_assoc, List.cons_append, List.nil_append, i64, u32, u8, ptr, List.set_cons_zero, List.set_cons_succ]
    omega
  refine mset0_new H1' hx fun σ2 H2 => ?_
  simp only [ldc_eq (H2.at 1 rfl), true_and, tI_int, tB_bool, tP_ptr, tM_map, tS_str, tTup_tup, tL_sl, tIf_if, pSome_some, chk_true, bm_true, bm_false, List.getElem?_cons_zero, List.getElem?_cons_succ, Nat.zero_add, Nat.add_zero, bne_self_eq_false, beq_self_eq_true, ptrEq_some, ptrEq_none, Bool.not_true, Bool.not_false, tAgg_agg, tCons_cons, tNil_nil, add_none, aadd_none, Option.getD_some, Option.getD_none, Option.map_some, Option.map_none]
  exact hK σ2 (H2.sep fun a => by
    simp only [shelfO, cnt_app, cnt_cons, cnt_nil, List.flatMap_append, List.flatMap_cons, List.flatMap_nil, List.append_assoc, List.cons_append, List.nil_append, i64, u32, u8, ptr, List.set_cons_zero, List.set_cons_succ]
    omega))
end
end Go.AI
end
section
set_option linter.unusedSimpArgs false
set_option linter.unusedVariables false
set_option maxRecDepth 10000
/- The program: whether a file may be opened; streams that are new; no condition but those that each names. -/
namespace Go.AI
open Go.Proofs Go.Shelf
theorem sz95 : szOf Tryz.prog 213 = 1 := by kernel_rfl
section
variable {σ : AS} {K : Value → AS → Prop} {fr X : List (Nat × AObj)} {s k B : Nat} {g : PG} {most last n mode : Int} {nm : List UInt8} {F : List Fi} {S : List Sm} {l : List Int} {a : Option Addr} {wd : Bool}
/-- An element of a slice. -/
theorem el_at {cells : List Value} {rows : List (Nat × AObj)} {a' : Option Addr} {e' j n : Nat} {v : Value} {G : Value → Prop} (hn : j < n) (hs : SlC 1 a' e' cells rows) (H : Has σ X) (hr : ∀ p ∈ rows, p ∈ X) (hc : cells[j]? = some v) (hG : G v) :
    req (0 ≤ (j : Int)) (req ((j : Int) < (n : Int)) (pSome a' fun a0 => req (1 = 1) (ldc σ (aadd a0 (Int.toNat (j : Int) * 1)) G))) := by
  have hlt := (List.getElem?_eq_some_iff.1 hc).1
  refine req_mk (by omega) (req_mk (by omega) ?_)
  obtain ⟨r, rfl, h2, rfl⟩ := hs.at (p := 0) (by omega)
  simp only [Int.toNat_natCast, Nat.mul_one, pSome_some, add_none, aadd_none, Nat.zero_add]
  refine req_mk trivial ?_
  rw [ldc_eq (H.g (hr _ (List.mem_singleton.2 rfl))), hc]
  exact hG
theorem PG.memF {p : PF} (hr : p ∈ g.G) {q : Nat × AObj} (hq : q ∈ p.rows ∨ q ∈ p.orows) : q ∈ (s, g.O most last) :: (g.R ++ fr) := by
  refine List.mem_cons_of_mem _ (List.mem_append_left _ ?_)
  unfold PG.R
  refine List.mem_cons_of_mem _ (List.mem_cons_of_mem _ (List.mem_append_left _ (List.mem_flatMap.2 ⟨p, hr, ?_⟩)))
  unfold PF.L
  rcases hq with h | h <;> simp [h]
theorem heldW_iff (hg : g.ok F S) : heldW S nm = true ↔ ∃ q ∈ g.Q, q.q.nm = nm ∧ q.q.mode ≠ 2 := by
  unfold heldW
  rw [← hg.qS]
  simp
/-- Whether a file may be opened. -/
theorem p184 (hg : g.ok F S) (H : Has σ ((s, g.O most last) :: (g.R ++ fr))) (srt : Srt F) (slen : S.length ≤ 64) (hK : K (i64 (openE F S nm mode)) σ) : Tri Tryz.prog 184 [ptr s, .string (bsV nm), i64 mode] σ K := tri_iz (by
  rw [z184]
  have lG := PG.lenG hg
  have lQ := PG.lenQ hg
  have er : ∀ {c : Int}, openE F S nm mode = c → K (i64 c) σ := fun h => by rw [← h]; exact hK
  -- behind the look
  have bad : ∀ f : Option Addr, (¬ named nm ∨ ¬ (mode = 1 ∨ mode = 2 ∨ mode = 3 ∨ mode = 5)) → JoinS (jn Tryz.prog hintsZ (Tri Tryz.prog) 184 [true, true, false, false] [] K) [(0, some (ptr s)), (2, some (i64 mode)), (7, some (.pointer f)), (16, some (.bool true))] σ := by
    intro f h
    refine ⟨?_⟩
    rw [z184j, bm_true]
    exact er (by unfold openE; rw [if_pos h])
  have good : ∀ f : Option Addr, (named nm → (mode = 1 ∨ mode = 2 ∨ mode = 3 ∨ mode = 5) → JoinS (jn Tryz.prog hintsZ (Tri Tryz.prog) 184 [true, true, false, false] [] K) [(0, some (ptr s)), (2, some (i64 mode)), (7, some (.pointer f)), (16, some (.bool false))] σ) →
      Tri Tryz.prog 197 [.string (bsV nm)] σ fun v4 σ5 => tB v4 fun b6 => bmatch (!b6) (JoinS (jn Tryz.prog hintsZ (Tri Tryz.prog) 184 [true, true, false, false] [] K) [(0, some (ptr s)), (2, some (i64 mode)), (7, some (.pointer f)), (16, some (.bool true))] σ5)
        (bmatch (decide (mode < 1)) (JoinS (jn Tryz.prog hintsZ (Tri Tryz.prog) 184 [true, true, false, false] [] K) [(0, some (ptr s)), (2, some (i64 mode)), (7, some (.pointer f)), (16, some (.bool true))] σ5)
          (bmatch (decide (mode > 5)) (JoinS (jn Tryz.prog hintsZ (Tri Tryz.prog) 184 [true, true, false, false] [] K) [(0, some (ptr s)), (2, some (i64 mode)), (7, some (.pointer f)), (16, some (.bool true))] σ5)
            (JoinS (jn Tryz.prog hintsZ (Tri Tryz.prog) 184 [true, true, false, false] [] K) [(0, some (ptr s)), (2, some (i64 mode)), (7, some (.pointer f)), (16, some (.bool (mode == 4)))] σ5))) := by
    intro f h
    refine p197 ?_
    rw [tB_bool]
    refine bnot_mk (fun h => bad f (.inl (of_decide_eq_false h))) (fun hn => ?_)
    refine bmd_mk (fun h => bad f (.inr (by omega))) (fun h1 => bmd_mk (fun h => bad f (.inr (by omega))) (fun h5 => ?_))
    by_cases h4 : mode = 4
    · rw [beq_iff_eq.2 h4]; exact bad f (.inr (by omega))
    · have : (mode == 4) = false := by simpa using h4
      rw [this]
      exact h (of_decide_eq_true hn) (by omega)
  simp only [ldc_eq (H.at 0 rfl), mget_eq (PG.hasf H), true_and, tI_int, tB_bool, tP_ptr, tM_map, tS_str, tTup_tup, tL_sl, tIf_if, pSome_some, chk_true, bm_true, bm_false, List.getElem?_cons_zero, List.getElem?_cons_succ, Nat.zero_add, Nat.add_zero, bne_self_eq_false, beq_self_eq_true, ptrEq_some, ptrEq_none, Bool.not_true, Bool.not_false, tAgg_agg, tCons_cons, tNil_nil, add_none, aadd_none, Option.getD_some, Option.getD_none, Option.map_some, Option.map_none]
  rcases lookF hg.gF srt nm with ⟨G1, r, G2, hG, h1, h2, h3, h4, h5, g1, g2⟩ | ⟨h1, h2, _⟩
  · have hr : r ∈ g.G := by rw [hG]; simp
    have ho := hg.go r hr
    simp only [h5, true_and, tI_int, tB_bool, tP_ptr, tM_map, tS_str, tTup_tup, tL_sl, tIf_if, pSome_some, chk_true, bm_true, bm_false, List.getElem?_cons_zero, List.getElem?_cons_succ, Nat.zero_add, Nat.add_zero, bne_self_eq_false, beq_self_eq_true, ptrEq_some, ptrEq_none, Bool.not_true, Bool.not_false, tAgg_agg, tCons_cons, tNil_nil, add_none, aadd_none, Option.getD_some, Option.getD_none, Option.map_some, Option.map_none]
    refine good (some ⟨r.fi, 0, none⟩) fun hn hm => ⟨?_⟩
    rw [z184j, bm_false]
    simp only [ldc_eq (H.at 0 rfl), mlen_eq (PG.hasm H), true_and, tI_int, tB_bool, tP_ptr, tM_map, tS_str, tTup_tup, tL_sl, tIf_if, pSome_some, chk_true, bm_true, bm_false, List.getElem?_cons_zero, List.getElem?_cons_succ, Nat.zero_add, Nat.add_zero, bne_self_eq_false, beq_self_eq_true, ptrEq_some, ptrEq_none, Bool.not_true, Bool.not_false, tAgg_agg, tCons_cons, tNil_nil, add_none, aadd_none, Option.getD_some, Option.getD_none, Option.map_some, Option.map_none]
    rw [List.length_map, lQ]
    refine beq_mk (fun h => er ?_) (fun h64 => ?_)
    · unfold openE
      rw [if_neg (fun c => c.elim (fun d => d hn) (fun d => d hm)), if_pos (by omega)]
    refine ⟨?_⟩
    rw [z184j1, bm_false]
    simp only [true_and, tI_int, tB_bool, tP_ptr, tM_map, tS_str, tTup_tup, tL_sl, tIf_if, pSome_some, chk_true, bm_true, bm_false, List.getElem?_cons_zero, List.getElem?_cons_succ, Nat.zero_add, Nat.add_zero, bne_self_eq_false, beq_self_eq_true, ptrEq_some, ptrEq_none, Bool.not_true, Bool.not_false, tAgg_agg, tCons_cons, tNil_nil, add_none, aadd_none, Option.getD_some, Option.getD_none, Option.map_some, Option.map_none]
    refine ⟨?_⟩
    rw [z184j2, bm_false]
    simp only [ldc_eq (PG.hasF H hr), tL_ok_eq ho.o.no, true_and, tI_int, tB_bool, tP_ptr, tM_map, tS_str, tTup_tup, tL_sl, tIf_if, pSome_some, chk_true, bm_true, bm_false, List.getElem?_cons_zero, List.getElem?_cons_succ, Nat.zero_add, Nat.add_zero, bne_self_eq_false, beq_self_eq_true, ptrEq_some, ptrEq_none, Bool.not_true, Bool.not_false, tAgg_agg, tCons_cons, tNil_nil, add_none, aadd_none, Option.getD_some, Option.getD_none, Option.map_some, Option.map_none]
    have hop := hg.opn r hr
    rw [h1] at hop
    have eo : openE F S nm mode = if held S nm = true ∧ (heldW S nm = true ∨ mode ≠ 2) then 6 else 0 := by
      unfold openE
      rw [if_neg (fun c => c.elim (fun d => d hn) (fun d => d hm)), if_neg (by omega), if_neg (fun c => by rw [h2] at c; exact absurd c.1 (by decide)), if_neg (fun c => by rw [h2] at c; exact absurd c.1 (by decide))]
    have hh := held_iff (nm := nm) hg
    rw [← hop] at hh
    have hol : r.op.length ≤ 64 := by
      rw [hop]
      unfold onF
      rw [List.length_map]
      have := List.length_filter_le (fun q : PQ => decide (q.q.nm = nm)) g.Q
      omega
    refine aloop (fun (j : Nat) rg σ' => j ≤ r.op.length ∧ σ' = σ ∧ (∀ q ∈ g.Q, q.q.nm = nm → q.x ∈ r.op.take j → q.q.mode = 2 ∧ mode = 2) ∧
      rg = [(2, some (i64 mode)), (63, some (.slice r.oa r.op.length 1)), (64, some (i64 r.op.length)), (65, some (i64 j))]) (fun j => r.op.length - j) ?_ (a := 0) ⟨Nat.zero_le _, rfl, by simp, rfl⟩
    rintro j rg σ1 Y hY ⟨hj, rfl, hI, rfl⟩
    rw [z184l, sz95]
    refine bmd_mk (fun h => ?_) (fun h => ?_)
    · have hv : r.op[j]? = some (r.op[j]'(by omega)) := by simp
      generalize r.op[j]'(by omega) = x at hv
      have hxm : x ∈ onF nm g.Q := by rw [← hop]; exact List.mem_of_getElem? hv
      obtain ⟨q, hq, rfl⟩ := List.mem_map.1 hxm
      obtain ⟨hq1, hq2⟩ := List.mem_filter.1 hq
      have hqn : q.q.nm = nm := of_decide_eq_true hq2
      have := el_at (j := j) (n := r.op.length) (v := ptr q.x) (by omega) ho.o H (fun p hp => PG.memF hr (.inr hp)) (by rw [List.getElem?_append_left (by rw [List.length_map]; omega), List.getElem?_map, hv]; rfl) (G := fun v1 => tP v1 fun b2 => pSome b2 fun a3 => ldc σ1 ⟨a3.block, a3.off + 2, none⟩ fun v4 => tI .i64 v4 fun n5 => bmatch (n5 != 2)
          (JoinS (jn Tryz.prog hintsZ (Tri Tryz.prog) 184 [true, true, true, false, true, false, false, true, true, false, false, true] [Y] K) [(2, some (i64 mode)), (63, some (.slice r.oa r.op.length 1)), (64, some (i64 r.op.length)), (65, some (i64 j)), (77, some (.bool true))] σ1)
          (JoinS (jn Tryz.prog hintsZ (Tri Tryz.prog) 184 [true, true, true, false, true, false, false, true, true, false, false, true] [Y] K) [(2, some (i64 mode)), (63, some (.slice r.oa r.op.length 1)), (64, some (i64 r.op.length)), (65, some (i64 j)), (77, some (.bool (mode != 2)))] σ1)) (by
        simp only [ldc_eq (PG.hasQ H hq1), true_and, tI_int, tB_bool, tP_ptr, tM_map, tS_str, tTup_tup, tL_sl, tIf_if, pSome_some, chk_true, bm_true, bm_false, List.getElem?_cons_zero, List.getElem?_cons_succ, Nat.zero_add, Nat.add_zero, bne_self_eq_false, beq_self_eq_true, ptrEq_some, ptrEq_none, Bool.not_true, Bool.not_false, tAgg_agg, tCons_cons, tNil_nil, add_none, aadd_none, Option.getD_some, Option.getD_none, Option.map_some, Option.map_none]
        have out : (q.q.mode ≠ 2 ∨ mode ≠ 2) → openE F S nm mode = 6 := by
          intro hc
          rw [eo, if_pos]
          refine ⟨by rw [hh]; exact decide_eq_true (by omega), ?_⟩
          rcases hc with hc | hc
          · exact .inl ((heldW_iff hg).2 ⟨q, hq1, hqn, hc⟩)
          · exact .inr hc
        refine bne_mk (fun hm2 => ⟨?_⟩) (fun hm2 => ⟨?_⟩)
        · rw [z184j3, bm_true]
          exact er (out (.inl hm2))
        · rw [z184j3]
          refine bne_mk (fun hm3 => er (out (.inr hm3))) (fun hm3 => ?_)
          rw [wrap1 (by have := h; omega)]
          refine hY (j + 1) _ _ (by omega) ⟨by omega, rfl, ?_, rfl⟩
          intro q' hq' hn' hx'
          rw [List.take_add_one, hv] at hx'
          rcases List.mem_append.1 hx' with hx' | hx'
          · exact hI q' hq' hn' hx'
          · have ex : q'.x = q.x := by simpa using hx'
            have e1 := PG.hasQ H hq1
            have e2 := PG.hasQ H hq'
            rw [ex, e1] at e2
            have e2 : q.O = q'.O := by injection e2
            unfold PQ.O at e2
            injection e2 with _ e2
            injection e2 with _ e2
            injection e2 with _ e2
            injection e2 with e2 _
            injection e2 with _ e2
            exact ⟨by rw [← e2]; exact hm2, hm3⟩)
      exact this
    · have hj2 : j = r.op.length := by omega
      rw [hj2, List.take_length] at hI
      refine er ?_
      rw [eo, if_neg]
      rintro ⟨c1, c2⟩
      have hpos : 0 < r.op.length := by rw [hh] at c1; exact of_decide_eq_true c1
      have all : ∀ q ∈ g.Q, q.q.nm = nm → q.q.mode = 2 ∧ mode = 2 := fun q hq hqn => hI q hq hqn (by
        rw [hop]
        exact List.mem_map.2 ⟨q, List.mem_filter.2 ⟨hq, decide_eq_true hqn⟩, rfl⟩)
      obtain ⟨x, hx⟩ := List.exists_mem_of_length_pos hpos
      rw [hop] at hx
      obtain ⟨q, hq, _⟩ := List.mem_map.1 hx
      obtain ⟨hq1, hq2⟩ := List.mem_filter.1 hq
      have := all q hq1 (of_decide_eq_true hq2)
      rcases c2 with c2 | c2
      · obtain ⟨q', m1, m2, m3⟩ := (heldW_iff hg).1 c2
        exact m3 (all q' m1 m2).1
      · exact c2 this.2
  · simp only [h2, true_and, tI_int, tB_bool, tP_ptr, tM_map, tS_str, tTup_tup, tL_sl, tIf_if, pSome_some, chk_true, bm_true, bm_false, List.getElem?_cons_zero, List.getElem?_cons_succ, Nat.zero_add, Nat.add_zero, bne_self_eq_false, beq_self_eq_true, ptrEq_some, ptrEq_none, Bool.not_true, Bool.not_false, tAgg_agg, tCons_cons, tNil_nil, add_none, aadd_none, Option.getD_some, Option.getD_none, Option.map_some, Option.map_none]
    refine good none fun hn hm => ⟨?_⟩
    rw [z184j, bm_false]
    simp only [ldc_eq (H.at 0 rfl), mlen_eq (PG.hasm H), true_and, tI_int, tB_bool, tP_ptr, tM_map, tS_str, tTup_tup, tL_sl, tIf_if, pSome_some, chk_true, bm_true, bm_false, List.getElem?_cons_zero, List.getElem?_cons_succ, Nat.zero_add, Nat.add_zero, bne_self_eq_false, beq_self_eq_true, ptrEq_some, ptrEq_none, Bool.not_true, Bool.not_false, tAgg_agg, tCons_cons, tNil_nil, add_none, aadd_none, Option.getD_some, Option.getD_none, Option.map_some, Option.map_none]
    rw [List.length_map, lQ]
    refine beq_mk (fun h => er ?_) (fun h64 => ?_)
    · unfold openE
      rw [if_neg (fun c => c.elim (fun d => d hn) (fun d => d hm)), if_pos (by omega)]
    refine ⟨?_⟩
    rw [z184j1]
    refine beq_mk (fun h => er ?_) (fun hm2 => ?_)
    · unfold openE
      rw [if_neg (fun c => c.elim (fun d => d hn) (fun d => d hm)), if_neg (by omega), if_pos ⟨h1, h⟩]
    simp only [ldc_eq (H.at 0 rfl), mlen_eq (PG.hasf H), true_and, tI_int, tB_bool, tP_ptr, tM_map, tS_str, tTup_tup, tL_sl, tIf_if, pSome_some, chk_true, bm_true, bm_false, List.getElem?_cons_zero, List.getElem?_cons_succ, Nat.zero_add, Nat.add_zero, bne_self_eq_false, beq_self_eq_true, ptrEq_some, ptrEq_none, Bool.not_true, Bool.not_false, tAgg_agg, tCons_cons, tNil_nil, add_none, aadd_none, Option.getD_some, Option.getD_none, Option.map_some, Option.map_none]
    refine ⟨?_⟩
    rw [z184j2, List.length_map, lG]
    refine beq_mk (fun h => er ?_) (fun hf64 => ?_)
    · unfold openE
      rw [if_neg (fun c => c.elim (fun d => d hn) (fun d => d hm)), if_neg (by omega), if_neg (fun c => hm2 c.2), if_pos ⟨h1, by omega⟩]
    simp only [true_and, tI_int, tB_bool, tP_ptr, tM_map, tS_str, tTup_tup, tL_sl, tIf_if, pSome_some, chk_true, bm_true, bm_false, List.getElem?_cons_zero, List.getElem?_cons_succ, Nat.zero_add, Nat.add_zero, bne_self_eq_false, beq_self_eq_true, ptrEq_some, ptrEq_none, Bool.not_true, Bool.not_false, tAgg_agg, tCons_cons, tNil_nil, add_none, aadd_none, Option.getD_some, Option.getD_none, Option.map_some, Option.map_none]
    refine er ?_
    have hf : held S nm = false := by
      rw [held_iff hg]
      have := onF_nil.2 (hg.noQ h1 (by have := hn.1; intro c; rw [c] at this; simp at this))
      rw [this]
      rfl
    unfold openE
    rw [if_neg (fun c => c.elim (fun d => d hn) (fun d => d hm)), if_neg (by omega), if_neg (fun c => hm2 c.2), if_neg (fun c => by omega), hf]
    simp)
end
end Go.AI
end
section
set_option linter.unusedSimpArgs false
set_option linter.unusedVariables false
set_option maxRecDepth 10000
/- The program: Open; no condition but those that each names. -/
namespace Go.AI
open Go.Proofs Go.Shelf
section
variable {σ : AS} {K : Value → AS → Prop} {fr X : List (Nat × AObj)} {s k B : Nat} {g : PG} {most last n mode : Int} {nm : List UInt8} {F : List Fi} {S : List Sm} {l : List Int} {a : Option Addr} {wd : Bool}
/-- Cells behind a slice that may lie on a longer row. -/
theorem appZ {G : Sl → AS → Prop} {sz by_ m n e : Nat} {c1 z new : List Value} {rows : List (Nat × AObj)} (hs : SlC sz a e (c1 ++ z) rows) (H : Has σ (rows ++ X)) (hn : n * sz = c1.length) (hm : new.length = m * sz) (hsz : 0 < sz) (hb : (n + m) * by_ ≤ 140737488355328)
    (hG : ∀ a' σ' rows', SlC sz a' sz (c1 ++ new) rows' → Has σ' (rows' ++ X) → G ⟨a', n + m⟩ σ') : appendTo σ sz by_ ⟨a, n⟩ new m G := by
  rcases hs with ⟨rfl, h, rfl⟩ | ⟨j, rfl, rfl, rfl⟩
  · obtain ⟨rfl, rfl⟩ := List.append_eq_nil_iff.1 h
    exact appC (SlC.nil e) H hn hm hsz hb hG
  · refine append_mk H 0 rfl rfl hb (by rw [List.length_append]; omega) fun j' σ' H' => ?_
    have e0 : (c1 ++ z).take (n * sz) = c1 := by rw [hn]; exact List.take_left' rfl
    rw [e0] at H'
    exact hG _ σ' _ SlC.row (by simpa using H')
theorem onF_snoc {Q : List PQ} {q : PQ} : onF nm (Q ++ [q]) = onF nm Q ++ if q.q.nm = nm then [q.x] else [] := by
  unfold onF
  rw [List.filter_append, List.map_append]
  by_cases h : q.q.nm = nm
  · simp [h]
  · simp [h]
theorem born_snoc {α : Type} {ent : α → MapEntry} {ws : List α} {c : Nat} {q : α} (h : BornOk ent ws c) (hq : (ent q).born = c) : BornOk ent (ws ++ [q]) (c + 1) := by
  refine ⟨?_, ?_⟩
  · rw [List.map_append, List.nodup_append]
    refine ⟨h.1, by simp, ?_⟩
    intro x hx y hy
    obtain ⟨r, hr, rfl⟩ := List.mem_map.1 hx
    have := h.2 r hr
    have hy : y = c := by simpa [hq] using hy
    omega
  · intro r hr
    rcases List.mem_append.1 hr with hr | hr
    · have := h.2 r hr; omega
    · rw [List.mem_singleton.1 hr, hq]; omega
/-- A stream on a file, new. -/
theorem PG.ok.addQ {G1 G2 : List PF} {r r' : PF} {q : PQ} (hg : g.ok F S) (hG : g.G = G1 ++ r :: G2) (srt : Srt F) (hx : r'.fi = r.fi) (hb : r'.bn = r.bn) (hf : r'.f = r.f) (ho : r'.ok) (hp : r'.op = r.op ++ [q.x]) (hne : r.f.nm ≠ []) (hq1 : q.q.nm = r.f.nm) (hq2 : q.fi = r.fi) (hq3 : q.bn = g.cm) :
    ({ g with G := G1 ++ r' :: G2, Q := g.Q ++ [q], cm := g.cm + 1 } : PG).ok F (S ++ [q.q]) ∧ (G1 ++ r' :: G2).map entF = g.G.map entF := by
  have hr : r ∈ g.G := by rw [hG]; simp
  have hnd : (g.G.map fun q => q.f.nm).Nodup := by
    have h1 : (F.map (·.nm)).Nodup := by
      rw [List.Nodup, List.pairwise_map]
      exact srt.imp fun h e => by rw [e] at h; exact lt_irrefl _ h
    have h2 := (hg.gF.map (·.nm)).nodup_iff.2 h1
    rw [List.map_map] at h2
    exact h2
  rw [hG, List.map_append, List.map_cons, List.nodup_append] at hnd
  obtain ⟨_, n2, n3⟩ := hnd
  have g1 : ∀ q ∈ G1, q.f.nm ≠ r.f.nm := fun q hq e => n3 _ (List.mem_map_of_mem (f := fun q : PF => q.f.nm) hq) _ (List.mem_cons_self ..) e
  have g2 : ∀ q ∈ G2, q.f.nm ≠ r.f.nm := fun q hq e => (List.nodup_cons.1 n2).1 (by rw [← e]; exact List.mem_map_of_mem (f := fun q : PF => q.f.nm) hq)
  have mem : ∀ t, t ∈ G1 ++ r' :: G2 → t = r' ∨ (t ∈ g.G ∧ t.f.nm ≠ r.f.nm) := by
    intro t ht
    rcases List.mem_append.1 ht with h | h
    · exact .inr ⟨by rw [hG]; simp [h], g1 t h⟩
    · rcases List.mem_cons.1 h with rfl | h
      · exact .inl rfl
      · exact .inr ⟨by rw [hG]; simp [h], g2 t h⟩
  refine ⟨⟨?_, ?_, ?_, ?_, ?_, ?_, ?_, born_snoc hg.bQ hq3⟩, ?_⟩
  · have : (G1 ++ r' :: G2).map PF.f = g.G.map PF.f := by rw [hG, List.map_append, List.map_append, List.map_cons, List.map_cons, hf]
    show ((G1 ++ r' :: G2).map PF.f).Perm F
    rw [this]
    exact hg.gF
  · show (g.Q ++ [q]).map PQ.q = _
    rw [List.map_append, hg.qS]; rfl
  · intro t ht
    rcases mem t ht with rfl | ⟨h, _⟩
    · exact ho
    · exact hg.go t h
  · intro t ht
    rcases List.mem_append.1 ht with h | h
    · exact hg.qo t h
    · rw [List.mem_singleton.1 h]
      intro h0
      rw [hq1] at h0
      exact absurd h0 hne
  · intro t ht
    show t.op = onF t.f.nm (g.Q ++ [q])
    rw [onF_snoc]
    rcases mem t ht with rfl | ⟨h, hn⟩
    · rw [hp, hf, hq1, if_pos rfl, hg.opn r hr]
    · rw [if_neg (fun e => hn (by rw [← e, hq1])), List.append_nil]
      exact hg.opn t h
  · intro t ht h0
    rcases List.mem_append.1 ht with h | h
    · obtain ⟨u, hu, e1, e2⟩ := hg.lnk t h h0
      rw [hG] at hu
      rcases List.mem_append.1 hu with h | h
      · exact ⟨u, by simp [h], e1, e2⟩
      · rcases List.mem_cons.1 h with rfl | h
        · exact ⟨r', by simp, by rw [hf]; exact e1, by rw [hx]; exact e2⟩
        · exact ⟨u, by simp [h], e1, e2⟩
    · rw [List.mem_singleton.1 h]
      exact ⟨r', by simp, by rw [hf, hq1], by rw [hx, hq2]⟩
  · refine ⟨?_, ?_⟩
    · have h1 : ((G1 ++ r' :: G2).map fun x => (entF x).born) = g.G.map fun x => (entF x).born := by
        rw [hG, List.map_append, List.map_append, List.map_cons, List.map_cons]
        unfold entF
        rw [hb]
      show ((G1 ++ r' :: G2).map fun x => (entF x).born).Nodup
      rw [h1]
      exact hg.bF.1
    · intro t ht
      rcases mem t ht with rfl | ⟨h, _⟩
      · show t.bn < g.cf
        rw [hb]
        exact hg.bF.2 r hr
      · exact hg.bF.2 t h
  · rw [hG, List.map_append, List.map_append, List.map_cons, List.map_cons]
    unfold entF
    rw [hf, hx, hb]
theorem PG.ok.addB {q : PQ} (hg : g.ok F S) (hF : ∀ f ∈ F, f.nm ≠ []) (hq1 : q.q.nm = []) (ho : q.ok) (hq3 : q.bn = g.cm) : ({ g with Q := g.Q ++ [q], cm := g.cm + 1 } : PG).ok F (S ++ [q.q]) := by
  refine ⟨hg.gF, ?_, hg.go, ?_, ?_, ?_, hg.bF, born_snoc hg.bQ hq3⟩
  · show (g.Q ++ [q]).map PQ.q = _
    rw [List.map_append, hg.qS]; rfl
  · intro t ht
    rcases List.mem_append.1 ht with h | h
    · exact hg.qo t h
    · rw [List.mem_singleton.1 h]; exact ho
  · intro t ht
    show t.op = onF t.f.nm (g.Q ++ [q])
    rw [onF_snoc, if_neg, List.append_nil]
    · exact hg.opn t ht
    · intro e
      exact hF t.f (hg.gF.mem_iff.1 (List.mem_map_of_mem ht)) (by rw [← e, hq1])
  · intro t ht h0
    rcases List.mem_append.1 ht with h | h
    · exact hg.lnk t h h0
    · rw [List.mem_singleton.1 h] at h0
      exact absurd hq1 h0
/-- The number behind the last is no stream's. -/
theorem new_n (hg : g.ok F S) (sn : S.Pairwise fun x y => x.n < y.n) (sle : ∀ x ∈ S, x.n ≤ last) : Instr.findNow (.int .i64) (i64 (last + 1)) (g.Q.map entQ) 0 = some none := by
  rcases lookQ (Q := g.Q) (by rw [hg.qS]; exact sn) (last + 1) with ⟨Q1, q, Q2, h1, h2, h3, _⟩ | ⟨_, h, _⟩
  · have hq : q.q ∈ S := by rw [← hg.qS, h1]; simp
    have := sle _ hq
    omega
  · exact h
/-- A stream on a file: made, put to the file's list, registered. -/
theorem p156z {G1 G2 : List PF} {r : PF} (hg : g.ok F S) (H : Has σ ((s, g.O most last) :: (g.R ++ fr))) (srt : Srt F) (f1 : ∀ f ∈ F, f.b.length ≤ 1048576) (sn : S.Pairwise fun x y => x.n < y.n) (sle : ∀ x ∈ S, x.n ≤ last) (slen : S.length ≤ 64) (h0 : 0 ≤ last) (h1 : last ≤ 1099511627776) (hG : g.G = G1 ++ r :: G2) (hne : r.f.nm ≠ [])
    (hK : ∀ σ', PSt s most (last + 1) F (S ++ [⟨last + 1, r.f.nm, [], mode, wd, if mode = 5 then sizeW wd r.f.b else 0, 0, 0⟩]) fr σ' → K (.tuple ⟨[i64 (last + 1), i64 0]⟩) σ') :
    JoinS (jn Tryz.prog hintsZ (Tri Tryz.prog) 156 [true, true, true, true, true] [] K) [(0, some (ptr s)), (2, some (i64 mode)), (3, some (.bool wd)), (11, some (ptr r.fi))] σ := by
  have hr : r ∈ g.G := by rw [hG]; simp
  have ho := hg.go r hr
  have hf : r.f ∈ F := hg.gF.mem_iff.1 (List.mem_map_of_mem hr)
  have hfl := f1 _ hf
  have hopl : r.op.length ≤ 64 := by
    rw [hg.opn r hr]
    unfold onF
    rw [List.length_map]
    have := List.length_filter_le (fun q : PQ => decide (q.q.nm = r.f.nm)) g.Q
    have := PG.lenQ hg
    omega
  -- the end
  have end_ : ∀ (p : Nat) {σ1 : AS} {x : Nat}, p = (if mode = 5 then sizeW wd r.f.b else 0) → Has σ1 ((x, .row .plain [.iface (tyW wd) (hold r.fi), ptr r.fi, i64 mode, i64 p, u32 0, u32 0]) :: ((s, g.O most last) :: (g.R ++ fr))) →
      JoinS (jn Tryz.prog hintsZ (Tri Tryz.prog) 156 [true, true, true, true, true, true, true, true] [] K) [(0, some (ptr s)), (11, some (ptr r.fi)), (12, some (ptr x))] σ1 := by
    rintro p σ1 x rfl H1
    refine ⟨?_⟩
    rw [z156j3]
    have hx1 : σ1 r.fi = some r.O := PG.hasF (fr := fr) (most := most) (last := last) (s := s) (H1.sep (fun a => by simp only [cnt_app, cnt_cons, cnt_nil, List.flatMap_append, List.flatMap_cons, List.flatMap_nil, List.append_assoc, List.cons_append, List.nil_append, i64, u32, u8, ptr, List.set_cons_zero, List.set_cons_succ]; omega)) hr
    simp only [ldc_eq hx1, tL_ok_eq ho.o.no, true_and, tI_int, tB_bool, tP_ptr, tM_map, tS_str, tTup_tup, tL_sl, tIf_if, pSome_some, chk_true, bm_true, bm_false, List.getElem?_cons_zero, List.getElem?_cons_succ, Nat.zero_add, Nat.add_zero, bne_self_eq_false, beq_self_eq_true, ptrEq_some, ptrEq_none, Bool.not_true, Bool.not_false, tAgg_agg, tCons_cons, tNil_nil, add_none, aadd_none, Option.getD_some, Option.getD_none, Option.map_some, Option.map_none]
    refine newAt_mk H1 fun i2 σ3 H3 => ?_
    rw [lds_eq (H3.at 0 rfl) 0 1 (by simp)]
    simp only [List.drop_zero, List.take_succ_cons, List.take_zero]
    let q : PQ := ⟨⟨last + 1, r.f.nm, [], mode, wd, if mode = 5 then sizeW wd r.f.b else 0, 0, 0⟩, x, r.fi, none, [], g.cm⟩
    have eO : q.O = .row .plain [.iface (tyW wd) (hold r.fi), ptr r.fi, i64 mode, i64 (if mode = 5 then sizeW wd r.f.b else 0 : Nat), u32 0, u32 0] := by
      show AObj.row .plain [q.on, q.fp, _, _, _, _] = _
      rw [PQ.on_f (q := q) hne, PQ.fp_f (q := q) hne]
      rfl
    have eM : q.M = [] := PQ.M_f (q := q) hne
    refine appZ (new := [ptr x]) (m := 1) (X := (x, q.O) :: ((s, g.O most last) :: ((r.fi, r.O) :: (r.rows ++ ((g.f, .map (g.G.map entF) g.cf) :: ((g.m, .map (g.Q.map entQ) g.cm) :: (G1.flatMap PF.L ++ (G2.flatMap PF.L ++ (g.Q.flatMap PQ.L ++ fr))))))))) ho.o (H3.sep ?_) (by simp) rfl (by omega) (by omega) fun a' σ4 rows' hs' H4 => ?_
    · intro a
      rw [eO]
      simp only [PG.R, hG, PF.L, PF.O, fiO, cnt_app, cnt_cons, cnt_nil, List.flatMap_append, List.flatMap_cons, List.flatMap_nil, List.append_assoc, List.cons_append, List.nil_append, i64, u32, u8, ptr, List.set_cons_zero, List.set_cons_succ]
      omega
    have H5 : Has σ4 ((r.fi, r.O) :: (rows' ++ ((x, q.O) :: ((s, g.O most last) :: (r.rows ++ ((g.f, .map (g.G.map entF) g.cf) :: ((g.m, .map (g.Q.map entQ) g.cm) :: (G1.flatMap PF.L ++ (G2.flatMap PF.L ++ (g.Q.flatMap PQ.L ++ fr)))))))))) := H4.sep (fun a => by simp only [cnt_app, cnt_cons, cnt_nil, List.flatMap_append, List.flatMap_cons, List.flatMap_nil, List.append_assoc, List.cons_append, List.nil_append, i64, u32, u8, ptr, List.set_cons_zero, List.set_cons_succ]; omega)
    refine put0 H5 rfl (by simp) fun σ5 H6 => ?_
    simp only [List.set_cons_succ, List.set_cons_zero] at H6
    have e1 : r.op.map ptr ++ [ptr x] = (r.op ++ [x]).map ptr := by simp
    rw [e1] at hs'
    let r' : PF := { r with op := r.op ++ [x], oa := a', oe := 1, orows := rows', oz := [] }
    have er : AObj.row .plain [.slice r.a r.f.b.length r.e, .slice a' (r.op.length + 1) 1] = r'.O := by
      show _ = fiO r.a r.f.b.length r.e a' (r.op ++ [x]).length 1
      rw [List.length_append]; rfl
    rw [er] at H6
    obtain ⟨u1, u2⟩ := hg.addQ (r' := r') (q := q) hG srt rfl rfl rfl ⟨ho.b, by show SlC 1 a' 1 ((r.op ++ [x]).map ptr ++ []) rows'; rw [List.append_nil]; exact hs'⟩ rfl hne rfl rfl rfl
    refine p185 (most := most) (f := g.f) (m := g.m) (es := g.Q.map entQ) (c := g.cm) (X := (r.fi, r'.O) :: (rows' ++ ((x, q.O) :: (r.rows ++ ((g.f, .map (g.G.map entF) g.cf) :: (G1.flatMap PF.L ++ (G2.flatMap PF.L ++ (g.Q.flatMap PQ.L ++ fr)))))))) (H6.sep (fun a => by simp only [cnt_app, cnt_cons, cnt_nil, List.flatMap_append, List.flatMap_cons, List.flatMap_nil, List.append_assoc, List.cons_append, List.nil_append, i64, u32, u8, ptr, List.set_cons_zero, List.set_cons_succ, PG.O, shelfO]; omega)) (new_n hg sn sle) h0 h1 fun σ6 H7 => ?_
    simp only [true_and, tI_int, tB_bool, tP_ptr, tM_map, tS_str, tTup_tup, tL_sl, tIf_if, pSome_some, chk_true, bm_true, bm_false, List.getElem?_cons_zero, List.getElem?_cons_succ, Nat.zero_add, Nat.add_zero, bne_self_eq_false, beq_self_eq_true, ptrEq_some, ptrEq_none, Bool.not_true, Bool.not_false, tAgg_agg, tCons_cons, tNil_nil, add_none, aadd_none, Option.getD_some, Option.getD_none, Option.map_some, Option.map_none]
    refine hK σ6 ⟨_, u1, H7.sep fun a => ?_⟩
    have e2 : (g.Q ++ [q]).map entQ = g.Q.map entQ ++ [{ key := i64 (last + 1), val := ptr x, born := g.cm }] := by rw [List.map_append]; rfl
    have e3 : cnt a (PQ.L q) = cnt a [(x, q.O)] := by unfold PQ.L; rw [eM]
    simp only [PG.R, PG.O, shelfO, u2, e2, cnt_app, cnt_cons, cnt_nil, List.flatMap_append, List.flatMap_cons, List.flatMap_nil, List.append_assoc, List.cons_append, List.nil_append, i64, u32, u8, ptr, List.set_cons_zero, List.set_cons_succ, e3]
    simp only [PF.L, r', cnt_app, cnt_cons, cnt_nil, List.flatMap_append, List.flatMap_cons, List.flatMap_nil, List.append_assoc, List.cons_append, List.nil_append, i64, u32, u8, ptr, List.set_cons_zero, List.set_cons_succ]
    omega
  -- the size, if behind all
  have mid : ∀ {σ1 : AS} {x : Nat}, Has σ1 ((x, .row .plain [.iface (tyW wd) (hold r.fi), ptr r.fi, i64 mode, i64 0, u32 0, u32 0]) :: ((s, g.O most last) :: (g.R ++ fr))) →
      JoinS (jn Tryz.prog hintsZ (Tri Tryz.prog) 156 [true, true, true, true, true, true, true] [] K) [(0, some (ptr s)), (2, some (i64 mode)), (11, some (ptr r.fi)), (12, some (ptr x))] σ1 := by
    intro σ1 x H1
    refine ⟨?_⟩
    rw [z156j2]
    refine beq_mk (fun h5 => ?_) (fun h5 => end_ 0 (by rw [if_neg h5]) H1)
    simp only [ldc_eq (H1.at 0 rfl), meth_size_g, true_and, tI_int, tB_bool, tP_ptr, tM_map, tS_str, tTup_tup, tL_sl, tIf_if, pSome_some, chk_true, bm_true, bm_false, List.getElem?_cons_zero, List.getElem?_cons_succ, Nat.zero_add, Nat.add_zero, bne_self_eq_false, beq_self_eq_true, ptrEq_some, ptrEq_none, Bool.not_true, Bool.not_false, tAgg_agg, tCons_cons, tNil_nil, add_none, aadd_none, Option.getD_some, Option.getD_none, Option.map_some, Option.map_none]
    have H2 : Has σ1 ((r.fi, r.O) :: (r.rows ++ ((x, .row .plain [.iface (tyW wd) (hold r.fi), ptr r.fi, i64 mode, i64 0, u32 0, u32 0]) :: ((s, g.O most last) :: (r.orows ++ ((g.f, .map (g.G.map entF) g.cf) :: ((g.m, .map (g.Q.map entQ) g.cm) :: (G1.flatMap PF.L ++ (G2.flatMap PF.L ++ (g.Q.flatMap PQ.L ++ fr)))))))))) := by
      refine H1.sep fun a => ?_
      simp only [PG.R, hG, PF.L, cnt_app, cnt_cons, cnt_nil, List.flatMap_append, List.flatMap_cons, List.flatMap_nil, List.append_assoc, List.cons_append, List.nil_append, i64, u32, u8, ptr, List.set_cons_zero, List.set_cons_succ]
      omega
    refine csz H2 ho.b (by omega) fun σ2 H3 => ?_
    have H4 : Has σ2 ((x, .row .plain [.iface (tyW wd) (hold r.fi), ptr r.fi, i64 mode, i64 0, u32 0, u32 0]) :: ((s, g.O most last) :: (g.R ++ fr))) := by
      refine H3.sep fun a => ?_
      simp only [PG.R, hG, PF.L, PF.O, fiO, cnt_app, cnt_cons, cnt_nil, List.flatMap_append, List.flatMap_cons, List.flatMap_nil, List.append_assoc, List.cons_append, List.nil_append, i64, u32, u8, ptr, List.set_cons_zero, List.set_cons_succ]
      omega
    simp only [true_and, tI_int, tB_bool, tP_ptr, tM_map, tS_str, tTup_tup, tL_sl, tIf_if, pSome_some, chk_true, bm_true, bm_false, List.getElem?_cons_zero, List.getElem?_cons_succ, Nat.zero_add, Nat.add_zero, bne_self_eq_false, beq_self_eq_true, ptrEq_some, ptrEq_none, Bool.not_true, Bool.not_false, tAgg_agg, tCons_cons, tNil_nil, add_none, aadd_none, Option.getD_some, Option.getD_none, Option.map_some, Option.map_none]
    refine put0 H4 rfl (by simp) fun σ3 H5 => ?_
    exact end_ _ (by rw [if_pos h5]) H5
  refine ⟨?_⟩
  rw [z156j1]
  refine newAt_mk H fun x σ1 H1 => ?_
  cases wd with
  | true =>
    rw [bm_true]
    exact put0 H1 rfl (by simp) fun σ2 H2 => mid H2
  | false =>
    rw [bm_false]
    exact mid H1
end
end Go.AI
end
section
set_option linter.unusedSimpArgs false
set_option linter.unusedVariables false
set_option maxRecDepth 10000
/- The program: Open, Buffer; no condition but those that each names. -/
namespace Go.AI
open Go.Proofs Go.Shelf
section
variable {σ : AS} {K : Value → AS → Prop} {fr X : List (Nat × AObj)} {s k B : Nat} {g : PG} {most last n mode : Int} {nm : List UInt8} {F : List Fi} {S : List Sm} {l : List Int} {a : Option Addr} {wd : Bool}
theorem p156j (hg : g.ok F S) (H : Has σ ((s, g.O most last) :: (g.R ++ fr))) (srt : Srt F) (f1 : ∀ f ∈ F, f.b.length ≤ 1048576) (sn : S.Pairwise fun x y => x.n < y.n) (sle : ∀ x ∈ S, x.n ≤ last) (slen : S.length ≤ 64) (h0 : 0 ≤ last) (h1 : last ≤ 1099511627776) (hh : hasF F nm = true) (hne : nm ≠ [])
    (hK : ∀ σ' F', F' = (if mode = 1 then setB nm [] F else F) → PSt s most (last + 1) F' (S ++ [⟨last + 1, nm, [], mode, wd, if mode = 5 then sizeW wd (bOf F' nm) else 0, 0, 0⟩]) fr σ' → K (.tuple ⟨[i64 (last + 1), i64 0]⟩) σ') :
    JoinS (jn Tryz.prog hintsZ (Tri Tryz.prog) 156 [true, true, true] [] K) [(0, some (ptr s)), (1, some (.string (bsV nm))), (2, some (i64 mode)), (3, some (.bool wd))] σ := by
  refine ⟨?_⟩
  rw [z156j]
  simp only [ldc_eq (H.at 0 rfl), mget_eq (PG.hasf H), true_and, tI_int, tB_bool, tP_ptr, tM_map, tS_str, tTup_tup, tL_sl, tIf_if, pSome_some, chk_true, bm_true, bm_false, List.getElem?_cons_zero, List.getElem?_cons_succ, Nat.zero_add, Nat.add_zero, bne_self_eq_false, beq_self_eq_true, ptrEq_some, ptrEq_none, Bool.not_true, Bool.not_false, tAgg_agg, tCons_cons, tNil_nil, add_none, aadd_none, Option.getD_some, Option.getD_none, Option.map_some, Option.map_none]
  rcases lookF hg.gF srt nm with ⟨G1, r, G2, hG, q1, q2, q3, q4, q5, _⟩ | ⟨q1, _⟩
  · have hr : r ∈ g.G := by rw [hG]; simp
    have ho := hg.go r hr
    simp only [q5, true_and, tI_int, tB_bool, tP_ptr, tM_map, tS_str, tTup_tup, tL_sl, tIf_if, pSome_some, chk_true, bm_true, bm_false, List.getElem?_cons_zero, List.getElem?_cons_succ, Nat.zero_add, Nat.add_zero, bne_self_eq_false, beq_self_eq_true, ptrEq_some, ptrEq_none, Bool.not_true, Bool.not_false, tAgg_agg, tCons_cons, tNil_nil, add_none, aadd_none, Option.getD_some, Option.getD_none, Option.map_some, Option.map_none]
    refine beq_mk (fun hm => ?_) (fun hm => ?_)
    · let r' : PF := { r with f := { r.f with b := [] }, a := none, e := 0, rows := [] }
      obtain ⟨u1, u2⟩ := hg.updG (r' := r') hG srt rfl rfl rfl rfl ⟨SlC.nil 0, ho.o⟩
      have H2 : Has σ ((r.fi, r.O) :: (r.rows ++ (r.orows ++ ((s, g.O most last) :: ((g.f, .map (g.G.map entF) g.cf) :: ((g.m, .map (g.Q.map entQ) g.cm) :: (G1.flatMap PF.L ++ (G2.flatMap PF.L ++ (g.Q.flatMap PQ.L ++ fr))))))))) := by
        refine H.sep fun a => ?_
        simp only [PG.R, hG, PF.L, cnt_app, cnt_cons, cnt_nil, List.flatMap_append, List.flatMap_cons, List.flatMap_nil, List.append_assoc, List.cons_append, List.nil_append, i64, u32, u8, ptr, List.set_cons_zero, List.set_cons_succ]
        omega
      refine put0 H2 rfl (by simp) fun σ1 H3 => ?_
      simp only [List.set_cons_zero] at H3
      have e9 : setB r.f.nm r'.f.b F = setB nm [] F := by rw [q1]
      rw [e9] at u1
      have H4 : Has σ1 ((s, ({ g with G := G1 ++ r' :: G2 } : PG).O most last) :: (({ g with G := G1 ++ r' :: G2 } : PG).R ++ fr)) := by
        refine H3.sep fun a => ?_
        simp only [PG.R, PG.O, shelfO, u2, PF.L, PF.O, fiO, r', List.length_nil, cnt_app, cnt_cons, cnt_nil, List.flatMap_append, List.flatMap_cons, List.flatMap_nil, List.append_assoc, List.cons_append, List.nil_append, i64, u32, u8, ptr, List.set_cons_zero, List.set_cons_succ]
        omega
      have := p156z (r := r') (wd := wd) (mode := mode) (K := K) u1 H4 (setB_srt srt) (setB_len1 f1 fun _ => by simp) sn sle slen h0 h1 rfl (by show r.f.nm ≠ []; rw [q1]; exact hne) fun σ2 S2 => by
        refine hK σ2 _ rfl ?_
        have eb : bOf (setB nm [] F) nm = [] := by rw [bOf_setB, if_pos ⟨rfl, hh⟩]
        rw [if_pos hm, eb]
        have e : r'.f.nm = nm := q1
        rw [e] at S2
        exact S2
      exact this
    · refine p156z (r := r) hg H srt f1 sn sle slen h0 h1 hG (by rw [q1]; exact hne) fun σ2 S2 => ?_
      refine hK σ2 _ rfl ?_
      rw [if_neg hm, q3]
      rw [q1] at S2
      exact S2
  · rw [hh] at q1
    cases q1
theorem p156 (hS : PSt s most last F S fr σ) (ok : Ok most last F S k)
    (hE : openE F S nm mode ≠ 0 → ∀ σ', PSt s most last F S fr σ' → K (.tuple ⟨[i64 0, i64 (openE F S nm mode)]⟩) σ')
    (hK : openE F S nm mode = 0 → ∀ σ', PSt s most (last + 1) (openF F nm mode) (S ++ [openS F last nm mode wd]) fr σ' → K (.tuple ⟨[i64 (last + 1), i64 0]⟩) σ') : Tri Tryz.prog 156 [ptr s, .string (bsV nm), i64 mode, .bool wd] σ K := tri_iz (by
  rw [z156]
  have hS0 := hS
  obtain ⟨g, hg, H⟩ := hS
  have hl0 := ok.last0
  have hl1 := ok.last1
  have hk := ok.kle
  have sle : ∀ x ∈ S, x.n ≤ last := fun x hx => (ok.sle x hx).2
  refine p184 hg H ok.srt ok.slen ?_
  rw [tI_int]
  refine bne_mk (fun h => hE h σ hS0) (fun h => ?_)
  have hn : named nm := by
    refine Decidable.byContradiction fun c => ?_
    unfold openE at h
    rw [if_pos (.inl c)] at h
    exact absurd h (by decide)
  have hne : nm ≠ [] := by have := hn.1; intro c; rw [c] at this; simp at this
  simp only [ldc_eq (H.at 0 rfl), mget_eq (PG.hasf H), true_and, tI_int, tB_bool, tP_ptr, tM_map, tS_str, tTup_tup, tL_sl, tIf_if, pSome_some, chk_true, bm_true, bm_false, List.getElem?_cons_zero, List.getElem?_cons_succ, Nat.zero_add, Nat.add_zero, bne_self_eq_false, beq_self_eq_true, ptrEq_some, ptrEq_none, Bool.not_true, Bool.not_false, tAgg_agg, tCons_cons, tNil_nil, add_none, aadd_none, Option.getD_some, Option.getD_none, Option.map_some, Option.map_none]
  rcases lookF hg.gF ok.srt nm with ⟨G1, r, G2, hG, q1, q2, q3, q4, q5, _⟩ | ⟨q1, q2, _⟩
  · simp only [q5, true_and, tI_int, tB_bool, tP_ptr, tM_map, tS_str, tTup_tup, tL_sl, tIf_if, pSome_some, chk_true, bm_true, bm_false, List.getElem?_cons_zero, List.getElem?_cons_succ, Nat.zero_add, Nat.add_zero, bne_self_eq_false, beq_self_eq_true, ptrEq_some, ptrEq_none, Bool.not_true, Bool.not_false, tAgg_agg, tCons_cons, tNil_nil, add_none, aadd_none, Option.getD_some, Option.getD_none, Option.map_some, Option.map_none]
    refine p156j hg H ok.srt ok.flen1 ok.sn sle ok.slen hl0 (by omega) q2 hne fun σ1 F' hF' S1 => hK h σ1 ?_
    have e : openF F nm mode = F' := by unfold openF; rw [q2, if_pos rfl, hF']
    unfold openS
    rw [e]
    exact S1
  · simp only [q2, true_and, tI_int, tB_bool, tP_ptr, tM_map, tS_str, tTup_tup, tL_sl, tIf_if, pSome_some, chk_true, bm_true, bm_false, List.getElem?_cons_zero, List.getElem?_cons_succ, Nat.zero_add, Nat.add_zero, bne_self_eq_false, beq_self_eq_true, ptrEq_some, ptrEq_none, Bool.not_true, Bool.not_false, tAgg_agg, tCons_cons, tNil_nil, add_none, aadd_none, Option.getD_some, Option.getD_none, Option.map_some, Option.map_none]
    refine newAt_mk H fun i10 σ1 H1 => ?_
    have H2 : Has σ1 ((g.f, .map (g.G.map entF) g.cf) :: ((i10, .row .plain [.slice none 0 0, .slice none 0 0]) :: ((s, g.O most last) :: ((g.m, .map (g.Q.map entQ) g.cm) :: (g.G.flatMap PF.L ++ (g.Q.flatMap PQ.L ++ fr)))))) := by
      refine H1.sep fun a => ?_
      simp only [PG.R, cnt_app, cnt_cons, cnt_nil, List.flatMap_append, List.flatMap_cons, List.flatMap_nil, List.append_assoc, List.cons_append, List.nil_append, i64, u32, u8, ptr, List.set_cons_zero, List.set_cons_succ]
      omega
    refine mset0_new H2 q2 fun σ2 H3 => ?_
    let r' : PF := ⟨⟨nm, []⟩, i10, none, 0, [], [], none, 0, [], [], g.cf⟩
    have hk2 := hg.addG (r := r') q1 hne ⟨SlC.nil 0, SlC.nil 0⟩ rfl rfl
    have e1 : g.G.map entF ++ [{ key := .string (bsV nm), val := ptr i10, born := g.cf }] = (g.G ++ [r']).map entF := by
      rw [List.map_append]; rfl
    rw [e1] at H3
    have H4 : Has σ2 ((s, ({ g with G := g.G ++ [r'], cf := g.cf + 1 } : PG).O most last) :: (({ g with G := g.G ++ [r'], cf := g.cf + 1 } : PG).R ++ fr)) := by
      refine H3.sep fun a => ?_
      simp only [PG.R, PG.O, shelfO, PF.L, PF.O, fiO, r', List.length_nil, cnt_app, cnt_cons, cnt_nil, List.flatMap_append, List.flatMap_cons, List.flatMap_nil, List.append_assoc, List.cons_append, List.nil_append, i64, u32, u8, ptr, List.set_cons_zero, List.set_cons_succ]
      omega
    have srt2 : Srt (insF ⟨nm, []⟩ F) := insF_srt ok.srt (hasF_false.1 q1)
    have f2 : ∀ f ∈ insF ⟨nm, []⟩ F, f.b.length ≤ 1048576 := by
      intro f hf
      rcases List.mem_cons.1 ((insF_perm _ _).mem_iff.1 hf) with rfl | hf
      · simp
      · exact ok.flen1 f hf
    have hh2 : hasF (insF ⟨nm, []⟩ F) nm = true := by rw [hasF_insF]; simp
    refine p156j hk2 H4 srt2 f2 ok.sn sle ok.slen hl0 (by omega) hh2 hne fun σ3 F' hF' S3 => hK h σ3 ?_
    have e0 : bOf (insF ⟨nm, []⟩ F) nm = [] := by rw [bOf_insF ok.srt q1, if_pos rfl]
    have e : openF F nm mode = F' := by
      unfold openF
      rw [q1, hF']
      simp only [Bool.false_eq_true, if_false]
      split
      · have := setB_self srt2 nm
        rw [e0] at this
        exact this.symm
      · rfl
    unfold openS
    rw [e]
    exact S3)
theorem p159 (hS : PSt s most last F S fr σ) (ok : Ok most last F S k) (ha : Inp u32 a l fr) (hc : ∀ c ∈ l, 0 ≤ c ∧ c ≤ 4294967295)
    (hE : bufE S l.length mode ≠ 0 → ∀ σ', PSt s most last F S fr σ' → K (.tuple ⟨[i64 0, i64 (bufE S l.length mode)]⟩) σ')
    (hK : bufE S l.length mode = 0 → ∀ σ', PSt s most (last + 1) F (S ++ [bufS last l mode wd]) fr σ' → K (.tuple ⟨[i64 (last + 1), i64 0]⟩) σ') : Tri Tryz.prog 159 [ptr s, .slice a l.length 1, i64 mode, .bool wd] σ K := tri_iz (by
  rw [z159]
  have hS0 := hS
  obtain ⟨g, hg, H⟩ := hS
  have hl0 := ok.last0
  have hl1 := ok.last1
  have hk := ok.kle
  have lQ := PG.lenQ hg
  have sle : ∀ x ∈ S, x.n ≤ last := fun x hx => (ok.sle x hx).2
  have arg : (mode < 1 ∨ mode > 3 ∨ l.length > 4096) → JoinS (jn Tryz.prog hintsZ (Tri Tryz.prog) 159 [true, false, false, true, true] [] K) [(0, some (ptr s)), (1, some (.slice a l.length 1)), (2, some (i64 mode)), (3, some (.bool wd)), (16, some (.bool true))] σ := by
    intro h
    refine ⟨?_⟩
    rw [z159j, bm_true]
    have e : bufE S l.length mode = 1 := by unfold bufE; rw [if_pos h]
    have := hE (by rw [e]; decide) σ hS0
    rw [e] at this
    exact this
  refine bmd_mk (fun h => arg (.inl h)) (fun h1 => bmd_mk (fun h => arg (.inr (.inl h))) (fun h3 => ?_))
  by_cases h4 : (l.length : Int) > 4096
  · rw [decide_eq_true h4]; exact arg (.inr (.inr (by omega)))
  rw [decide_eq_false h4]
  refine ⟨?_⟩
  rw [z159j, bm_false]
  simp only [ldc_eq (H.at 0 rfl), mlen_eq (PG.hasm H), true_and, tI_int, tB_bool, tP_ptr, tM_map, tS_str, tTup_tup, tL_sl, tIf_if, pSome_some, chk_true, bm_true, bm_false, List.getElem?_cons_zero, List.getElem?_cons_succ, Nat.zero_add, Nat.add_zero, bne_self_eq_false, beq_self_eq_true, ptrEq_some, ptrEq_none, Bool.not_true, Bool.not_false, tAgg_agg, tCons_cons, tNil_nil, add_none, aadd_none, Option.getD_some, Option.getD_none, Option.map_some, Option.map_none]
  rw [List.length_map, lQ]
  refine beq_mk (fun h => ?_) (fun h64 => ?_)
  · have e : bufE S l.length mode = 4 := by unfold bufE; rw [if_neg (by omega), if_pos (by omega)]
    have := hE (by rw [e]; decide) σ hS0
    rw [e] at this
    exact this
  have e0 : bufE S l.length mode = 0 := by unfold bufE; rw [if_neg (by omega), if_neg (by omega)]
  have hb : bytesOf Tryz.prog 32 = 4 := by kernel_rfl
  have hv : valCells (u32 0) = [u32 0] := by kernel_rfl
  refine req_mk (by omega) (req_mk (Int.le_refl _) (req_mk (by rw [hb]; omega) ?_))
  rw [hv, flat_rep, Int.toNat_natCast]
  refine newAt_mk H fun i3 σ4 H4 => newAt_mk H4 fun i5 σ6 H6 => ?_
  let C : Nat → List Int := fun j => (l.take j).map (putC wd) ++ List.replicate (l.length - j) 0
  have lC : ∀ j, j ≤ l.length → (C j).length = l.length := fun j hj => by
    simp only [C, List.length_append, List.length_map, List.length_take, List.length_replicate]
    omega
  refine aloop (fun (j : Nat) rg σ' => j ≤ l.length ∧ (∃ rows, SlC 1 (some ⟨i3, 0, none⟩) 1 (cellsU (C j)) rows ∧ Has σ' ((i5, buO (some ⟨i3, 0, none⟩) l.length wd) :: (rows ++ ((s, g.O most last) :: (g.R ++ fr))))) ∧
    rg = [(0, some (ptr s)), (2, some (i64 mode)), (10, some (ptr i5)), (41, some (.slice a l.length 1)), (42, some (i64 l.length)), (43, some (i64 j))]) (fun j => l.length - j) ?_ (a := 0) ⟨Nat.zero_le _, ⟨[(i3, .row .rw (List.replicate l.length (u32 0)))], ?_, H6⟩, rfl⟩
  · rintro j rg σ1 Y hY ⟨hj, ⟨rows, hs, H1⟩, rfl⟩
    rw [z159l]
    refine bmd_mk (fun h => ?_) (fun h => ?_)
    · obtain ⟨c, hcj⟩ : ∃ c, l[j]? = some c := ⟨l[j]'(by omega), by simp⟩
      have et : l.take (j + 1) = l.take j ++ [c] := by rw [List.take_add_one, hcj]; rfl
      refine chr_in (ha.mono fun p hp => List.mem_cons_of_mem _ (List.mem_append_right _ (List.mem_cons_of_mem _ (List.mem_append_right _ hp)))) H1 hcj ?_
      rw [tI_int]
      have lj := lC j hj
      have H2 : Has σ1 ((i5, buO (some ⟨i3, 0, none⟩) (C j).length wd) :: (rows ++ ((s, g.O most last) :: (g.R ++ fr)))) := by rw [lj]; exact H1
      refine p187 H2 hs (hc _ (List.mem_of_getElem? hcj)) fun σ2 rows' hs' H3 => ?_
      rw [wrap1 (by omega)]
      have e1 : (if j < (C j).length then (C j).set j (putC wd c) else C j) = C (j + 1) := by
        rw [if_pos (by omega)]
        simp only [C]
        have hl : ((l.take j).map (putC wd)).length = j := by rw [List.length_map, List.length_take]; omega
        rw [List.set_append_right _ _ (by rw [hl]; exact Nat.le_refl _), hl, Nat.sub_self, et]
        obtain ⟨z, hz⟩ : ∃ z, l.length - j = z + 1 := ⟨l.length - j - 1, by omega⟩
        rw [hz, show l.length - (j + 1) = z by omega, List.replicate_succ, List.set_cons_zero]
        simp
      rw [e1] at hs'
      rw [lj] at H3
      exact hY (j + 1) _ _ (by omega) ⟨by omega, ⟨rows', hs', H3⟩, rfl⟩
    · have hjl : j = l.length := by omega
      subst hjl
      have eC : C l.length = l.map (putC wd) := by
        show (l.take l.length).map (putC wd) ++ List.replicate (l.length - l.length) 0 = _
        rw [List.take_length, Nat.sub_self]
        simp
      rw [eC] at hs
      refine newAt_mk H1 fun x σ2 H2 => ?_
      let q : PQ := ⟨bufS last l mode wd, x, i5, some ⟨i3, 0, none⟩, rows, g.cm⟩
      have hq0 : q.q.nm = [] := rfl
      have eO : q.O = .row .plain [.iface 270 (ptr i5), .pointer none, i64 mode, i64 0, u32 0, u32 0] := by
        show AObj.row .plain [q.on, q.fp, _, _, _, _] = _
        rw [PQ.on_b hq0, PQ.fp_b hq0]
        rfl
      have eM : q.M = (i5, buO (some ⟨i3, 0, none⟩) l.length wd) :: rows := by
        rw [PQ.M_b hq0]
        show (i5, buO (some ⟨i3, 0, none⟩) (l.map (putC wd)).length wd) :: rows = _
        rw [List.length_map]
      have hk2 := hg.addB (q := q) (fun f hf => by have := (ok.nm f hf).1; intro c; rw [c] at this; simp at this) hq0 (fun _ => hs) rfl
      refine p185 (most := most) (f := g.f) (m := g.m) (es := g.Q.map entQ) (c := g.cm) (X := (x, q.O) :: (((i5, buO (some ⟨i3, 0, none⟩) l.length wd) :: rows) ++ ((g.f, .map (g.G.map entF) g.cf) :: (g.G.flatMap PF.L ++ (g.Q.flatMap PQ.L ++ fr))))) (H2.sep ?_) (new_n hg ok.sn sle) hl0 (by omega) fun σ6 H7 => ?_
      · intro a
        rw [eO]
        simp only [PG.R, PG.O, shelfO, cnt_app, cnt_cons, cnt_nil, List.flatMap_append, List.flatMap_cons, List.flatMap_nil, List.append_assoc, List.cons_append, List.nil_append, i64, u32, u8, ptr, List.set_cons_zero, List.set_cons_succ]
        omega
      simp only [true_and, tI_int, tB_bool, tP_ptr, tM_map, tS_str, tTup_tup, tL_sl, tIf_if, pSome_some, chk_true, bm_true, bm_false, List.getElem?_cons_zero, List.getElem?_cons_succ, Nat.zero_add, Nat.add_zero, bne_self_eq_false, beq_self_eq_true, ptrEq_some, ptrEq_none, Bool.not_true, Bool.not_false, tAgg_agg, tCons_cons, tNil_nil, add_none, aadd_none, Option.getD_some, Option.getD_none, Option.map_some, Option.map_none]
      refine hK e0 σ6 ⟨_, hk2, H7.sep fun a => ?_⟩
      have e2 : (g.Q ++ [q]).map entQ = g.Q.map entQ ++ [{ key := i64 (last + 1), val := ptr x, born := g.cm }] := by rw [List.map_append]; rfl
      have e3 : cnt a (PQ.L q) = cnt a ((x, q.O) :: ((i5, buO (some ⟨i3, 0, none⟩) l.length wd) :: rows)) := by unfold PQ.L; rw [eM]
      simp only [PG.R, PG.O, shelfO, e2, cnt_app, cnt_cons, cnt_nil, List.flatMap_append, List.flatMap_cons, List.flatMap_nil, List.append_assoc, List.cons_append, List.nil_append, i64, u32, u8, ptr, List.set_cons_zero, List.set_cons_succ, e3]
      omega
  · have : cellsU (C 0) = List.replicate l.length (u32 0) := by simp [C]
    rw [this]
    exact SlC.row)
end
end Go.AI
end
