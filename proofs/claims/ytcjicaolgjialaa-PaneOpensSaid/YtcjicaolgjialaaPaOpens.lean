/- Lemmas of the abstract condition ahead of code (a part of the library that the claim's proof stands on); they hold with no condition but those that each names. -/
import Derived.Test.YtcjicaolgjialaaPaOpensP
set_option linter.unusedSimpArgs false
set_option linter.unusedVariables false
set_option maxRecDepth 10000
/- PaneOpens: what is opened has its size, all else stays; no condition but those that each names. -/
namespace Go.AI
open Go.Proofs Go.Pane
def cellsQ : List R4 → List Value
  | [] => []
  | r :: l => rL r ++ cellsQ l
theorem cellsQ_len : ∀ l : List R4, (cellsQ l).length = l.length * 4
  | [] => rfl
  | r :: l => by simp [cellsQ, cellsQ_len l]; omega
theorem cellsQ_app : ∀ l k : List R4, cellsQ (l ++ k) = cellsQ l ++ cellsQ k
  | [], k => rfl
  | r :: l, k => by
    show rL r ++ cellsQ (l ++ k) = (rL r ++ cellsQ l) ++ cellsQ k
    rw [cellsQ_app l k, List.append_assoc]
theorem cellsQ_at : ∀ (l : List R4) (i : Nat) (q : R4), l[i]? = some q → ((cellsQ l).drop (i * 4)).take 4 = rL q
  | [], i, q, h => by simp at h
  | p :: l, 0, q, h => by
    simp at h
    subst h
    simp [cellsQ]
  | p :: l, i + 1, q, h => by
    have := cellsQ_at l i q (by simpa using h)
    have e : (i + 1) * 4 = (rL p).length + i * 4 := by simp; omega
    rw [cellsQ, e, List.drop_append, List.drop_of_length_le (by omega), List.nil_append]
    rw [show (rL p).length + i * 4 - (rL p).length = i * 4 by omega]
    exact this
def SlQ (a : Option Addr) (e : Nat) (rs : List R4) (fr : List (Nat × AObj)) : Prop :=
  (a = none ∧ rs = [] ∧ fr = []) ∨ ∃ j, a = some ⟨j, 0, none⟩ ∧ e = 4 ∧ fr = [(j, .row .rw (cellsQ rs))]
section
variable {σ : AS} {K : Value → AS → Prop} {X F0 fr frq : List (Nat × AObj)} {t m x c : Nat} {n W H W1 H1 root last lr b : Int} {L : List Win} {tr : Option T} {ws : List PW} {l : List ActM} {a : Option Addr}
theorem SlQ.no {e : Nat} {rs : List R4} (h : SlQ a e rs fr) : nilOr a e 4 = true := by
  rcases h with ⟨rfl, _⟩ | ⟨j, rfl, rfl, _⟩
  · unfold nilOr; cases Nat.beq e 4 <;> rfl
  · rfl
theorem sz36 : szOf Try.prog 36 = 4 := by kernel_rfl
theorem pushQ {e : Nat} {rs : List R4} {r : R4} {G : Sl → AS → Prop} (hs : SlQ a e rs fr) (Hh : Has σ (fr ++ X)) (hl : rs.length ≤ 1000000)
    (hG : ∀ a' σ' fr', SlQ a' 4 (rs ++ [r]) fr' → Has σ' (fr' ++ X) → G ⟨a', (rs ++ [r]).length⟩ σ') :
    newAt σ (.row .rw [i64 r.x, i64 r.y, i64 r.w, i64 r.h]) fun i0 σ1 => chk (nilOr a e (szOf Try.prog 36)) (lds σ1 ⟨i0, 0, none⟩ 4 fun l => appendTo σ1 4 32 ⟨a, rs.length⟩ l 1 G) := by
  refine newAt_mk Hh fun i0 σ1 H1 => ?_
  rw [sz36]
  refine chk_mk hs.no (lds_mk H1 0 rfl (by simp) ?_)
  rcases hs with ⟨rfl, rfl, rfl⟩ | ⟨j, rfl, rfl, rfl⟩
  · refine append_nil_mk H1 (by omega) fun j' σ2 H2 => ?_
    exact hG _ σ2 [_] (.inr ⟨j', rfl, rfl, rfl⟩) (H2.sub (.cons_cons _ (.cons _ (.refl _))))
  · refine append_mk H1 1 rfl rfl (by omega) (by rw [cellsQ_len]; omega) fun j' σ2 H2 => ?_
    have e2 : (rs ++ [r]).length = rs.length + 1 := by simp
    have e3 : (cellsQ rs).take (rs.length * 4) ++ (List.drop 0 (rL r)).take 4 = cellsQ (rs ++ [r]) := by
      rw [List.take_of_length_le (by rw [cellsQ_len]; omega), cellsQ_app]; rfl
    have H3 := H2.sub (L' := (j', .row .rw (cellsQ (rs ++ [r]))) :: X) (by
      rw [← e3]
      exact .cons_cons _ (.cons _ (.refl _)))
    rw [← e2]
    exact hG _ σ2 [_] (.inr ⟨j', rfl, rfl, rfl⟩) H3
/-- A row of rectangles that is known. -/
def RdQ (a : Option Addr) (e : Nat) (rs : List R4) (X : List (Nat × AObj)) : Prop := rs = [] ∨ ∃ j, a = some ⟨j, 0, none⟩ ∧ e = 4 ∧ (j, AObj.row .rw (cellsQ rs)) ∈ X
theorem SlQ.rd {e : Nat} {rs : List R4} (h : SlQ a e rs fr) (hs : ∀ p ∈ fr, p ∈ X) : RdQ a e rs X := by
  rcases h with ⟨_, h, _⟩ | ⟨j, h1, h2, h3⟩
  · exact .inl h
  · exact .inr ⟨j, h1, h2, hs _ (by rw [h3]; simp)⟩
theorem prdQ {G : List Value → Prop} {e i : Nat} {rs : List R4} {r : R4} (S : PS t m W H last ws c F0 σ) (hr : RdQ a e rs F0) (hi : rs[i]? = some r) (hG : G (rL r)) :
    req (0 ≤ (i : Int)) (req ((i : Int) < (rs.length : Int)) (pSome a fun a0 => req (e = szOf Try.prog 36) (lds σ (Addr.add a0 (Int.toNat (i : Int) * szOf Try.prog 36)) 4 G))) := by
  have hlt := (List.getElem?_eq_some_iff.1 hi).1
  rcases hr with rfl | ⟨j, rfl, rfl, hm⟩
  · simp at hi
  · obtain ⟨Z, HZ, hZ, _⟩ := S.view
    refine req_mk (by omega) (req_mk (by omega) ?_)
    rw [pSome_some, sz36]
    refine req_mk rfl ?_
    rw [add_none, Int.toNat_natCast, Nat.zero_add]
    refine ldsm HZ (hZ _ hm) (by rw [cellsQ_len]; omega) ?_
    rw [cellsQ_at rs i r hi]
    exact hG
/-- A row ahead of all. -/
def PQ (t m : Nat) (W H last : Int) (ws : List PW) (c : Nat) (frq F0 : List (Nat × AObj)) (σ : AS) : Prop := ∃ F, (∀ p ∈ F0, p ∈ F) ∧ Has σ (frq ++ progL t m W H (rootL (wl ws)) last ws c F)
theorem PQ.of {A F : List (Nat × AObj)} (hF : ∀ p ∈ F0, p ∈ F) (h : Has σ (A ++ (frq ++ progL t m W H (rootL (wl ws)) last ws c F))) : PQ t m W H last ws c frq F0 σ := by
  refine ⟨F ++ A, fun p hp => List.mem_append_left _ (hF p hp), h.perm ?_⟩
  refine .trans (.append_left _ ?_) (List.perm_append_comm_assoc ..)
  show ((t, treeO W H (rootL (wl ws)) last m) :: (m, mapO ws c) :: (ws.map objM ++ (F ++ A))).Perm (A ++ ((t, treeO W H (rootL (wl ws)) last m) :: (m, mapO ws c) :: (ws.map objM ++ F)))
  rw [← List.append_assoc, ← List.cons_append, ← List.cons_append]
  exact List.perm_append_comm
theorem PQ.ps (S : PQ t m W H last ws c frq F0 σ) : PS t m W H last ws c (frq ++ F0) σ := by
  obtain ⟨F, hF, h⟩ := S
  refine ⟨F ++ frq, fun p hp => ?_, front h⟩
  rcases List.mem_append.1 hp with g | g
  · exact List.mem_append_right _ g
  · exact List.mem_append_left _ (hF p g)
abbrev l4l : List Bool := [true, true, true, true, true, true, true, true, true, false, true, false]
abbrev l4k : List Bool := [true, true, true, true, true, true, true, true, true, true, true, true, true, true, true, true, true, true, true, true, true, true, true, false, true, false]
abbrev j4 : List Bool := [true, true, true, true, true, true, true, true, true, true, true, true, true, true, true, true, true, true, true]
theorem p25' {win top : Int} (S : PS t m W H last ws c F0 σ) (hR : RIn x W H lr L F0) (hs : Srt L) (hl : L.length ≤ 1000) (hK : ∀ σ', PS t m W H last ws c F0 σ' → K (.bool (belF L 100 win top)) σ') : Tri Try.prog 25 [ptr x, i64 win, i64 top] σ K := by
  obtain ⟨F, hF, Hh⟩ := S
  have R : RIn x W H lr L (progL t m W H (rootL (wl ws)) last ws c F) := hR.mono fun p hp => List.mem_cons_of_mem _ (List.mem_cons_of_mem _ (List.mem_append_right _ (hF p hp)))
  exact c25 Hh R hs hl fun σ' new H' => hK σ' (.of hF H')
/-- All windows, looked at again. -/
theorem opens_k {split : Int} {pa qa : Option Addr} {e : Nat} {rs : List R4} {tr' : Option T} (okL : Ok L lr tr) (ok' : Ok (wl ws) last tr') (hW : 0 ≤ W ∧ W ≤ 1000) (hH : 0 ≤ H ∧ H ≤ 1000) (hR : RIn x W H lr L F0) (hp : RdI pa 1 (L.map (·.n)) F0) (hrs : rs = L.map fun w => rho L W H w.n) (hq : RdQ qa e rs F0)
    (hst : ∀ w ∈ L, belF L 100 w.n split = false → rho (wl ws) W H w.n = rho L W H w.n) (S : PS t m W H last ws c F0 σ) (hK : ∀ σ', K (.bool true) σ') :
    ALoop (fl Try.prog hintsS (Tri Try.prog) 4 l4k [] K) [(15, some (ptr t)), (16, some (ptr x)), (17, some (i64 split)), (18, some (.slice pa (L.map (·.n)).length 1)), (19, some (.slice qa rs.length e)), (40, some (i64 0))] σ := by
  have hlm : (L.map (·.n)).length = L.length := List.length_map ..
  have len := okL.len
  have hl : L.length ≤ 1000 := by omega
  refine aloop (fun (i : Nat) rg σ' => i ≤ L.length ∧ PS t m W H last ws c F0 σ' ∧ rg = [(15, some (ptr t)), (16, some (ptr x)), (17, some (i64 split)), (18, some (.slice pa (L.map (·.n)).length 1)), (19, some (.slice qa rs.length e)), (40, some (i64 i))]) (fun i => L.length - i) ?_ (a := 0) ⟨Nat.zero_le _, S, rfl⟩
  rintro i rg σ1 Y hY ⟨hi, S1, rfl⟩
  rw [s4k]
  refine bmd_mk (fun g => ?_) (fun _ => c13' hK)
  rw [hlm] at g
  obtain ⟨v, hv⟩ : ∃ v, L[i]? = some v := ⟨L[i]'(by omega), by simp⟩
  have hvm := List.mem_of_getElem? hv
  have hxi : (L.map (·.n))[i]? = some v.n := by rw [List.getElem?_map, hv]; rfl
  have hqi : rs[i]? = some (rho L W H v.n) := by rw [hrs, List.getElem?_map, hv]; rfl
  have e1 : IntKind.wrap .i64 ((i : Int) + 1) = ((i + 1 : Nat) : Int) := by rw [wrap64 (by omega) (by omega)]; omega
  rw [e1]
  have fin : ∀ σ', PS t m W H last ws c F0 σ' → Y [(15, some (ptr t)), (16, some (ptr x)), (17, some (i64 split)), (18, some (.slice pa (L.map (·.n)).length 1)), (19, some (.slice qa rs.length e)), (40, some (i64 ((i + 1 : Nat) : Int)))] σ' := fun σ' S' => hY (i + 1) _ _ (by omega) ⟨by omega, S', rfl⟩
  refine prd S1 hp hxi rfl ?_
  rw [tI_int]
  refine p17 S1 ok' hW hH fun σ2 S2 => ?_
  refine tupRB ?_
  refine pnewR S2 fun i23 σ3 S3 => ?_
  refine prd S3 (hp.mono fun p hp => List.mem_cons_of_mem _ hp) hxi rfl ?_
  rw [tI_int]
  refine p25' S3 (hR.mono fun p hp => List.mem_cons_of_mem _ hp) okL.srt hl fun σ4 S4 => ?_
  rw [tB_bool]
  have back : PS t m W H last ws c F0 σ4 := S4.sub fun p hp => List.mem_cons_of_mem _ hp
  cases hb : belF L 100 v.n split with
  | true =>
    rw [Bool.not_true, bm_false]
    exact fin _ back
  | false =>
    rw [Bool.not_false, bm_true]
    rw [hst v hvm hb] at S4
    refine plds S4 (List.mem_cons_self ..) ?_
    refine rL4 ?_
    refine prdQ back hq hqi ?_
    refine rL4 ?_
    simp only [beq_self_eq_true, Bool.and_self, Bool.not_true, bm_false]
    exact fin _ back
/-- What is told of the window opened. -/
theorem opens_end {split sd win want got rest : Int} {ob kp : Bool} {pp old : Nat} {R : R4} {pa qa : Option Addr} {e : Nat} {rs : List R4} {tr' : Option T} (okL : Ok L lr tr) (ok' : Ok (wl ws) last tr') (hW : 0 ≤ W ∧ W ≤ 1000) (hH : 0 ≤ H ∧ H ≤ 1000) (hR : RIn x W H lr L F0) (hp : RdI pa 1 (L.map (·.n)) F0) (hrs : rs = L.map fun w => rho L W H w.n) (hq : RdQ qa e rs F0)
    (hst : ∀ w ∈ L, belF L 100 w.n split = false → rho (wl ws) W H w.n = rho L W H w.n) (hpp : (pp, AObj.row .plain (rL R)) ∈ F0) (hold : (old, AObj.row .plain (rL R)) ∈ F0) (hob : ob = true) (hkp : kp = true) (hgw : got = want) (hsd : 0 ≤ sd ∧ sd < 4)
    (hr1 : sd < 2 → rest = IntKind.wrap .i64 (R.w - want)) (hr2 : ¬ sd < 2 → rest = IntKind.wrap .i64 (R.h - want)) (hfirst : ((ofL (wl ws) (ofL (wl ws) win).p).a == win) = decide (sd % 2 = 0)) (S : PS t m W H last ws c F0 σ) (hK : ∀ σ', K (.bool true) σ') :
    JoinS (jn Try.prog hintsS (Tri Try.prog) 4 j4 [] K) [(15, some (ptr t)), (16, some (ptr x)), (17, some (i64 split)), (18, some (.slice pa (L.map (·.n)).length 1)), (19, some (.slice qa rs.length e)), (23, some (ptr old)), (25, some (i64 sd)), (26, some (i64 win)), (29, some (.bool ob)), (32, some (ptr pp)), (34, some (i64 want)), (35, some (i64 got)), (36, some (i64 rest)), (37, some (.bool kp))] σ := by
  refine ⟨?_⟩
  subst hob hkp hgw
  rw [s4j]
  rw [Bool.not_true, bm_false]
  refine plds S hpp ?_
  refine rL4 ?_
  refine plds S hold ?_
  refine rL4 ?_
  simp only [beq_self_eq_true, bne_self_eq_false, Bool.and_self, Bool.not_true, bm_false]
  have tail : ∀ σ', PS t m W H last ws c F0 σ' → Tri Try.prog 24 [ptr t, i64 win] σ' fun v30 σ31 => tI .i64 v30 fun n32 => Tri Try.prog 20 [ptr t, i64 n32] σ31 fun v33 σ34 => tTup v33 fun l35 => pSome l35[0]? fun u36 => tI .i64 u36 fun n37 => tTup v33 fun l38 => pSome l38[1]? fun u39 => tI .i64 u39 fun n40 =>
      bmatch (!((n37 == win) == (Int.tmod sd 2 == 0))) (K (.bool false) σ34) (ALoop (fl Try.prog hintsS (Tri Try.prog) 4 l4k [] K) [(15, some (ptr t)), (16, some (ptr x)), (17, some (i64 split)), (18, some (.slice pa (L.map (·.n)).length 1)), (19, some (.slice qa rs.length e)), (40, some (i64 0))] σ34) := by
    intro σ' S'
    obtain ⟨F, hF, Hh⟩ := S'
    refine c24 Hh pin_of ok'.srt fun σ2 new H2 => ?_
    have S2 : PS t m W H last ws c F0 σ2 := .of hF H2
    rw [tI_int]
    refine p20 S2 ok' fun σ3 S3 => ?_
    simp only [tTup_tup, pSome_some, List.getElem?_cons_zero, List.getElem?_cons_succ, tI_int]
    rw [hfirst]
    have ht : (Int.tmod sd 2 == 0) = decide (sd % 2 = 0) := by rw [Int.tmod_eq_emod_of_nonneg hsd.1]; rfl
    rw [ht]
    simp only [beq_self_eq_true, Bool.not_true, bm_false]
    exact opens_k okL ok' hW hH hR hp hrs hq hst S3 hK
  refine bmd_mk (fun g => ?_) (fun g => ?_)
  · refine pld S hold rfl ?_
    rw [tI_int, hr1 g, bne_self_eq_false, bm_false]
    refine bmd_mk (fun g2 => ?_) (fun _ => tail σ S)
    omega
  · refine bmd_mk (fun g2 => ?_) (fun g2 => ?_)
    · refine pld S hold rfl ?_
      rw [tI_int, hr2 g, bne_self_eq_false, bm_false]
      exact tail σ S
    · omega
/-- A window is opened, and looked at. -/
theorem opens_mid {split side sz : Int} {pa qa : Option Addr} {e : Nat} {rs : List R4} {Y : Regs → AS → Prop} (ok : Ok (wl ws) last tr) (hb : BornOk ws c) (l0 : 0 ≤ last) (l1 : last ≤ 1000) (hW : 0 ≤ W ∧ W ≤ 1000) (hH : 0 ≤ H ∧ H ≤ 1000) (hside : 0 ≤ side ∧ side ≤ 255) (hz : 0 ≤ sz ∧ sz < 4294967296) (hs : hasL (wl ws) split = true) (hlen : (wl ws).length ≤ 62)
    (hR : RIn x W H last (wl ws) F0) (hp : RdI pa 1 ((wl ws).map (·.n)) F0) (hrs : rs = (wl ws).map fun w => rho (wl ws) W H w.n) (hq : RdQ qa e rs F0) (S : PS t m W H last ws c F0 σ) (hK : ∀ σ', K (.bool true) σ') :
    fl Try.prog hintsS (Tri Try.prog) 4 l4l [] K Y [(4, some (.int .u8 side)), (5, some (.int .u32 sz)), (15, some (ptr t)), (16, some (ptr x)), (17, some (i64 split)), (18, some (.slice pa ((wl ws).map (·.n)).length 1)), (19, some (.slice qa rs.length e)), (20, some (i64 ((((wl ws).map (·.n)).length : Nat) : Int)))] σ := by
  rw [s4l]
  refine bmd_mk (fun g => absurd g (by omega)) (fun _ => ?_)
  have hs0 : split ≠ 0 := fun g => by rw [g, ok.has0] at hs; cases hs
  have e0 : IntKind.wrap .i64 side = side := wrap64 (by omega) (by omega)
  have e2 : Int.tmod side 4 = side % 4 := Int.tmod_eq_emod_of_nonneg hside.1
  have hsd : 0 ≤ side % 4 ∧ side % 4 < 4 := by omega
  have e3 : IntKind.wrap .i64 sz = sz := wrap64 (by omega) (by omega)
  rw [e0, e2, e3]
  generalize side % 4 = sd at *
  have e4 : IntKind.wrap .i64 (sd + 16) = sd + 16 := wrap64 (by omega) (by omega)
  rw [e4]
  obtain ⟨tr', hE, ok', t1, t2, t3, t4, t5, t6, hst⟩ := open_told (W := W) (H := H) ok l0 hsd hz hs hlen hW hH
  refine p17 S ok hW hH fun σ1 S1 => ?_
  refine tupRB ?_
  refine pnewR S1 fun i64' σ2 S2 => ?_
  obtain ⟨F, hF, Hh⟩ := S2
  refine c22 ok hb rfl l0 l1 ⟨by omega, by omega⟩ hz Hh (fun g => absurd hE g) (fun _ σ3 ws' c' root' hw' hr' hb' H3 => ?_)
  simp only [tTup_tup, pSome_some, List.getElem?_cons_zero, List.getElem?_cons_succ, tI_int]
  refine c23 ?_
  rw [tI_int]
  refine bne_mk (fun g => absurd rfl g) (fun _ => ?_)
  have hol : openLast last split = last + 2 := by unfold openLast; rw [if_neg hs0]
  rw [hol, hr'] at H3
  have S3 : PS t m W H (last + 2) ws' c' ((i64', .row .plain (rL (rho (wl ws) W H split))) :: F0) σ3 := ⟨F, hF, H3⟩
  rw [← hw'] at ok' t1 t2 t3 t4 t5 t6 hst
  clear H3 Hh
  refine p17 S3 ok' hW hH fun σ4 S4 => ?_
  refine tupRB ?_
  refine pnewR S4 fun i98 σ5 S5 => ?_
  refine p17 S5 ok' hW hH fun σ6 S6 => ?_
  refine tupRB ?_
  refine pnewR S6 fun i121 σ7 S7 => ?_
  obtain ⟨F7, hF7, H7⟩ := S7
  refine c24 H7 pin_of ok'.srt fun σ7' new H7' => ?_
  have S7 := PS.of hF7 H7'
  rw [tI_int, t2]
  refine p17 S7 ok' hW hH fun σ8' S8' => ?_
  refine tupRB ?_
  refine pnewR S8' fun i147 σ8 S8 => ?_
  rw [t3] at S8
  have hbd : Rb (rho (wl ws) W H split) := ok.rb hW hH split
  have hfirst : ((ofL (wl ws') (ofL (wl ws') (last + 1)).p).a == last + 1) = decide (sd % 2 = 0) := by rw [t2]; exact t4
  have sub : ∀ {p : Nat × AObj}, p ∈ F0 → p ∈ (i147, AObj.row .plain (rL (rho (wl ws) W H split))) :: (i121, .row .plain (rL (rho (wl ws') W H split))) :: (i98, .row .plain (rL (rho (wl ws') W H (last + 1)))) :: (i64', .row .plain (rL (rho (wl ws) W H split))) :: F0 :=
    fun h => List.mem_cons_of_mem _ (List.mem_cons_of_mem _ (List.mem_cons_of_mem _ (List.mem_cons_of_mem _ h)))
  have hR8 := hR.mono fun p hp => sub hp
  have hp8 := hp.mono fun p hp => sub hp
  have hq8 : RdQ qa e rs ((i147, AObj.row .plain (rL (rho (wl ws) W H split))) :: (i121, .row .plain (rL (rho (wl ws') W H split))) :: (i98, .row .plain (rL (rho (wl ws') W H (last + 1)))) :: (i64', .row .plain (rL (rho (wl ws) W H split))) :: F0) := by
    rcases hq with h | ⟨j, h1, h2, h3⟩
    · exact .inl h
    · exact .inr ⟨j, h1, h2, sub h3⟩
  generalize rho (wl ws) W H split = R at *
  generalize rho (wl ws') W H split = o at *
  generalize rho (wl ws') W H (last + 1) = r at *
  have mp : (i147, AObj.row .plain (rL R)) ∈ (i147, AObj.row .plain (rL R)) :: (i121, .row .plain (rL o)) :: (i98, .row .plain (rL r)) :: (i64', .row .plain (rL R)) :: F0 := by simp
  have ms : (i121, AObj.row .plain (rL o)) ∈ (i147, AObj.row .plain (rL R)) :: (i121, .row .plain (rL o)) :: (i98, .row .plain (rL r)) :: (i64', .row .plain (rL R)) :: F0 := by simp
  have mr : (i98, AObj.row .plain (rL r)) ∈ (i147, AObj.row .plain (rL R)) :: (i121, .row .plain (rL o)) :: (i98, .row .plain (rL r)) :: (i64', .row .plain (rL R)) :: F0 := by simp
  have mo : (i64', AObj.row .plain (rL R)) ∈ (i147, AObj.row .plain (rL R)) :: (i121, .row .plain (rL o)) :: (i98, .row .plain (rL r)) :: (i64', .row .plain (rL R)) :: F0 := by simp
  unfold Rb at hbd
  refine pld S8 mo rfl ?_
  rw [tI_int]
  refine pld S8 mr rfl ?_
  rw [tI_int]
  refine pld S8 ms rfl ?_
  rw [tI_int]
  refine pld S8 mr rfl ?_
  rw [tI_int]
  refine pld S8 mo rfl ?_
  rw [tI_int]
  have him : 0 ≤ imin sz R.w ∧ imin sz R.w ≤ R.w := by unfold imin; split <;> omega
  have hih : 0 ≤ imin sz R.h ∧ imin sz R.h ≤ R.h := by unfold imin; split <;> omega
  refine beq_mk (fun gw => ?_) (fun gw => ?_)
  · refine pld S8 ms rfl ?_
    rw [tI_int]
    refine pld S8 mo rfl ?_
    rw [tI_int]
    refine bmd_mk (fun hd => ?_) (fun hd => ?_)
    · obtain ⟨q1, q2, q3, q4⟩ := t5 hd
      refine pld S8 mo rfl ?_
      rw [tI_int]
      refine pld S8 mr rfl ?_
      rw [tI_int]
      refine pld S8 ms rfl ?_
      rw [tI_int]
      refine pld S8 mr rfl ?_
      rw [tI_int]
      refine pld S8 mo rfl ?_
      rw [tI_int]
      refine beq_mk (fun _ => ?_) (fun g => absurd q3 g)
      refine pld S8 ms rfl ?_
      rw [tI_int]
      refine pld S8 mo rfl ?_
      rw [tI_int]
      exact opens_end ok ok' hW hH hR8 hp8 hrs hq8 hst mp mo t1 (by rw [q4, beq_self_eq_true]) q1 hsd (fun _ => by rw [q2, wrap64 (by omega) (by omega)]) (fun g => absurd hd g) hfirst S8 hK
    · obtain ⟨q1, q2, q3, q4⟩ := t6 hd
      exact opens_end ok ok' hW hH hR8 hp8 hrs hq8 hst mp mo t1 (by rw [q4, beq_self_eq_true]) q1 hsd (fun g => absurd g hd) (fun _ => by rw [q2, wrap64 (by omega) (by omega)]) hfirst S8 hK
  · refine bmd_mk (fun hd => ?_) (fun hd => ?_)
    · obtain ⟨q1, q2, q3, q4⟩ := t5 hd
      refine pld S8 mo rfl ?_
      rw [tI_int]
      refine pld S8 mr rfl ?_
      rw [tI_int]
      refine pld S8 ms rfl ?_
      rw [tI_int]
      refine pld S8 mr rfl ?_
      rw [tI_int]
      refine pld S8 mo rfl ?_
      rw [tI_int]
      refine beq_mk (fun _ => ?_) (fun g => absurd q3 g)
      refine pld S8 ms rfl ?_
      rw [tI_int]
      refine pld S8 mo rfl ?_
      rw [tI_int]
      exact opens_end ok ok' hW hH hR8 hp8 hrs hq8 hst mp mo t1 (by rw [q4, beq_self_eq_true]) q1 hsd (fun _ => by rw [q2, wrap64 (by omega) (by omega)]) (fun g => absurd hd g) hfirst S8 hK
    · obtain ⟨q1, q2, q3, q4⟩ := t6 hd
      exact absurd q3 gw
end
end Go.AI
