/- Lemmas of the abstract condition ahead of code (a part of the library that the claim's proof stands on); they hold with no condition but those that each names. -/
import Derived.Test.YtpgedoljndppdaaGreatSfLaw1
set_option linter.unusedSimpArgs false
set_option linter.unusedVariables false
set_option maxRecDepth 10000
/- ShelfApart: what is done with one file has no part in another one. -/
namespace Go.Shelf
section
variable {most last : Int} {F : List Fi} {S : List Sm} {k : Nat} {n : List UInt8} {b c : List Int} {x y : Sm}
theorem Ok.lastS (ok : Ok most last F S k) (hk : k + 1 ≤ 1024) : Ok most (last + 1) F S (k + 1) :=
  .of ok.most0 ok.most1 (by have := ok.last0; omega) (by have := ok.last1; omega) hk ok.fi ok.sn ok.slen fun x h => (ok.st h).mono (by omega) (Nat.le_succ _)
theorem delF_setB (G : List Fi) : delF n (setB n c G) = delF n G := by
  induction G with
  | nil => rfl
  | cons g G ih =>
    unfold delF setB at ih ⊢
    rw [List.map_cons, List.filter_cons, List.filter_cons, ih]
    by_cases h : g.nm = n
    · simp [h]
    · simp [h]
theorem delF_insF (hs : Srt F) (h : hasF F n = false) : delF n (insF ⟨n, b⟩ F) = F := by
  have hno := hasF_false.1 h
  refine srt_eq (delF_srt (insF_srt hs hno)) hs ?_
  have h1 := (insF_perm ⟨n, b⟩ F).filter fun f => !(f.nm == n)
  have h2 : List.filter (fun f : Fi => !(f.nm == n)) (⟨n, b⟩ :: F) = F := by
    rw [List.filter_cons]
    have := delF_none hno
    unfold delF at this
    rw [this]
    simp
  rw [h2] at h1
  exact h1
theorem delS_setS (h : y.n = k) (S : List Sm) : delS y.n (setS y S) = delS y.n S := by
  induction S with
  | nil => rfl
  | cons z S ih =>
    unfold delS setS at ih ⊢
    rw [List.map_cons, List.filter_cons, List.filter_cons, ih]
    by_cases h : z.n = y.n
    · simp [h]
    · simp [h]
theorem delS_snoc (h : ∀ z ∈ S, z.n ≠ x.n) : delS x.n (S ++ [x]) = S := by
  unfold delS
  rw [List.filter_append]
  have h1 : List.filter (fun y => !(y.n == x.n)) S = S := List.filter_eq_self.2 fun z hz => by simpa using h z hz
  rw [h1]
  simp
theorem wrB_end {b : List Int} {x : Sm} (hw : x.wd = false) (hp : x.pl = b.length) : wrB b x [1, 2] = b ++ [1, 2] := by
  unfold wrB setA
  rw [hw, hp]
  have e : enc false [1, 2] = [1, 2] := by decide
  rw [e]
  simp [unW]
end
end Go.Shelf
namespace Go.AI
open Go.Proofs Go.Shelf Go.Sort
theorem bs_app (a b : List UInt8) : bsV a ++ bsV b = bsV (a ++ b) := by
  apply ByteArray.ext
  simp [ByteArray.data_append]
section
variable {σ : AS} {K : Value → AS → Prop} {X fr : List (Nat × AObj)} {s w k : Nat} {most last n : Int} {F : List Fi} {S : List Sm} {l : List ActM} {a : Option Addr}
/-- A shelf behind some acts. -/
theorem c18 (H : Has σ X) (ha : RdA a l X) (ho : ∀ q ∈ l, q.ok X) (hl : l.length ≤ 120) (hlen : ∀ q ∈ l, q.b.length ≤ 16384 ∧ q.l.length ≤ 16384)
    (hK : ∀ σ' s w last F S, JSt s w 16384 last F S X σ' → Ok 16384 last F S l.length → K (.tuple ⟨[ptr s, ptr w]⟩) σ') : Tri Tryz.prog 18 [.slice a l.length 9] σ K := tri_in (by
  rw [s18]
  refine c7 H (fun h => absurd ⟨by omega, by omega⟩ h) (fun _ σ1 s P1 => ?_)
  simp only [tI_int, tP_ptr, tTup_tup, pSome_some, bm_false, List.getElem?_cons_zero, List.getElem?_cons_succ, ptrEq_some]
  obtain ⟨g, hg, H1⟩ := P1
  refine c8 H1 (fun h => absurd ⟨by omega, by omega⟩ h) (fun _ σ2 w H2 => ?_)
  simp only [tI_int, tP_ptr, tTup_tup, pSome_some, List.getElem?_cons_zero, List.getElem?_cons_succ]
  refine c9 ?_
  rw [tI_int]
  refine bne_mk (fun h => absurd (by decide) h) (fun _ => ?_)
  have J0 : JSt s w 16384 0 [] [] X σ2 := ref0 ⟨g, hg, H2.sep (fun a => by simp only [cnt_app, cnt_cons]; omega)⟩
  have ok0 : Ok 16384 0 [] [] 0 := Ok.new (by omega) (by omega)
  refine aloop (fun (i : Nat) rg σ' => i ≤ l.length ∧ (∃ last F S, JSt s w 16384 last F S X σ' ∧ Ok 16384 last F S i) ∧ rg = [(0, some (.slice a l.length 9)), (4, some (ptr s)), (6, some (ptr w)), (8, some (i64 i))]) (fun i => l.length - i) ?_ (a := 0) ⟨Nat.zero_le _, ⟨0, [], [], J0, ok0⟩, rfl⟩
  rintro i rg σ3 Y hY ⟨hi, ⟨last, F, S, J, ok⟩, rfl⟩
  rw [s18l]
  obtain ⟨g3, h3, hg3, hh3, f13, f23, H3⟩ := id J
  refine bmd_mk (fun hlt => ?_) (fun hge => ?_)
  · obtain ⟨q, hq'⟩ : ∃ q, l[i]? = some q := ⟨l[i]'(by omega), by simp⟩
    have hm := List.mem_of_getElem? hq'
    have hqo := ho q hm
    have hql := hlen q hm
    have nb : nilOr q.ba 1 1 = true := by unfold nilOr; rfl
    have nl : nilOr q.la 1 1 = true := by unfold nilOr; rfl
    refine rdA (X := (s, g3.O 16384 last) :: (g3.R ++ ((w, h3.O 16384 last) :: (h3.R ++ X)))) (ha.mono fun p hp => by simp [hp]) H3 hq' ?_
    simp only [ActM.cells, tL_ok_eq nb, tL_ok_eq nl, tI_int, tB_bool, tS_str, tCons_cons, tNil_nil]
    refine c10 J ok (by omega) hqo.hb hqo.hl hqo.b8 hqo.l32 hql.1 hql.2 hqo.ha fun σ4 last' F' S' J4 ok4 => ?_
    rw [tB_bool, Bool.not_true, bm_false, wrap1 (by omega)]
    exact hY (i + 1) _ _ (by omega) ⟨by omega, ⟨last', F', S', J4, ok4⟩, rfl⟩
  · have hil : i = l.length := by omega
    subst hil
    exact hK σ3 s w last F S J ok)
theorem apart_law {nm : List UInt8} {b : List Int} {ba : Option Addr} (H : Has σ X) (ha : RdA a l X) (ho : ∀ q ∈ l, q.ok X) (hb : Inp u8 ba b X) (b8 : ∀ c ∈ b, 0 ≤ c ∧ c < 256) (bl : b.length ≤ 140737488355328) (hn : nm.length ≤ 140737488355328) :
    Tri Tryz.prog 4 [.slice a l.length 9, .string (bsV nm), .slice ba b.length 1] σ KTr := tri_in (by
  rw [s4]
  have live : ∀ σ' : AS, Tri Tryz.prog 6 [] σ' fun v5 σ6 => tB v5 fun b7 => KTr (.bool b7) σ6 := fun σ' => c6 (by rw [tB_bool])
  refine c5 H ha (fun q hq => ⟨(ho q hq).bl, (ho q hq).ll⟩) ?_ fun hl hlen => ?_
  · rw [tB_bool, bm_true]
    exact live _
  rw [tB_bool, bm_false]
  refine bmd_mk (fun _ => live _) (fun hb4 => ?_)
  refine c18 H ha ho hl hlen fun σ1 s w last F S J ok => ?_
  simp only [tP_ptr, tTup_tup, pSome_some, bm_false, List.getElem?_cons_zero, List.getElem?_cons_succ, Nat.zero_add, ptrEq_some]
  have es : bsV nm ++ ByteArray.mk #[126] = bsV (nm ++ [126]) := bs_app nm [126]
  rw [es, size_bs, size_bs, size_bs]
  generalize hother : nm ++ [126] = other
  have hol : other.length = nm.length + 1 := by rw [← hother]; simp
  have h126 : ([126] : List UInt8).length = 1 := rfl
  rw [h126]
  refine req_mk (by omega) (bmd_mk (fun _ => live _) (fun h32 => ?_))
  have hnamed : named other := ⟨by omega, by omega⟩
  have hone := named_ne hnamed
  have fl := ok.flen
  have sl := ok.slen
  have ht := ok.tot
  have hl1 := ok.last1
  have hl0 := ok.last0
  obtain ⟨g, h, hg, hh, f1, f2, H1⟩ := id J
  have lF : h.F.length = F.length := by rw [← f1]; simp
  have lS : h.S.length = S.length := by rw [← f2]; simp
  have HR : Has σ1 ((w, h.O 16384 last) :: (h.R ++ ((s, g.O 16384 last) :: (g.R ++ X)))) := H1.sep (fun a => by simp only [cnt_app, cnt_cons, List.append_assoc]; omega)
  refine c19 HR (RIn.of hh) (by omega) (fun hno => ?_) (fun i r hi hr => ?_)
  case refine_2 =>
    rw [tI_int]
    exact bmd_mk (fun _ => live _) (fun h => by omega)
  rw [f1] at hno
  rw [tI_int]
  refine bmd_mk (fun h => absurd h (by decide)) (fun _ => ?_)
  simp only [ldc_eq (HR.at 0 rfl), tL_ok_eq hh.f.no, tL_ok_eq hh.s.no, lF, lS, pSome_some, List.getElem?_cons_zero, List.getElem?_cons_succ]
  refine beq_mk (fun _ => live _) (fun hF64 => beq_mk (fun _ => live _) (fun hS64 => ?_))
  have eF : totF h.Fi = totF F := by rw [f1]
  refine c20 HR (RIn.of hh) (by omega) (by omega) ?_
  rw [tI_int, eF, wrap64 (n := (totF F : Int) + (b.length : Int)) (by omega) (by omega), wrap64 (by omega) (by omega)]
  refine bmd_mk (fun _ => live _) (fun htot => ?_)
  have hheld : held S other = false := held_false.2 fun x hx e => by
    have := ok.has x hx (by rw [e]; exact hone)
    rw [e, hno] at this
    cases this
  -- Put
  have P1 : PSt s 16384 last F S ((w, h.O 16384 last) :: (h.R ++ X)) σ1 := ⟨g, hg, H1⟩
  have hput : putE 16384 F S other b = 0 := by
    unfold putE
    rw [if_neg (fun c => c hnamed), if_neg (by rw [hheld]; decide), if_neg (fun c => hF64 (by omega)), bOf_none hno, if_neg]
    simp only [List.length_nil]
    omega
  have eput : Shelf.putF F other b = insF ⟨other, b⟩ F := by unfold Shelf.putF; rw [hno]; rfl
  refine c13 P1 ok (hb.z.mono fun p hp => by simp [hp]) (by omega) (fun h => absurd hput h) (fun _ σ2 P2 => ?_)
  rw [eput] at P2
  have ok2 : Ok 16384 last (insF ⟨other, b⟩ F) S (l.length + 1) := by
    have := ok.put (by omega) b8 hput
    rw [eput] at this
    exact this
  rw [tI_int]
  refine c9 ?_
  rw [tI_int]
  refine bne_mk (fun h => absurd rfl h) (fun _ => ?_)
  -- Open
  have hh2 : hasF (insF ⟨other, b⟩ F) other = true := by rw [hasF_insF]; simp
  have hb2 : bOf (insF ⟨other, b⟩ F) other = b := by rw [bOf_insF ok.srt hno, if_pos rfl]
  have hopen : openE (insF ⟨other, b⟩ F) S other 5 = 0 := by
    unfold openE
    rw [if_neg (fun c => c.elim (fun d => d hnamed) (fun d => d (by omega))), if_neg (fun c => hS64 (by omega)), if_neg (fun c => by rw [hh2] at c; exact absurd c.1 (by decide)), if_neg (fun c => by rw [hh2] at c; exact absurd c.1 (by decide)), if_neg (fun c => by rw [hheld] at c; exact absurd c.1 (by decide))]
  have eopen : openF (insF ⟨other, b⟩ F) other 5 = insF ⟨other, b⟩ F := by unfold openF; rw [hh2]; rfl
  refine c15 (wd := false) P2 ok2 (fun h => absurd hopen h) (fun _ σ3 P3 => ?_)
  have ok3 := ok2.open (w := false) (by omega) hopen
  rw [eopen] at P3 ok3
  have ex : openS (insF ⟨other, b⟩ F) last other 5 false = ⟨last + 1, other, [], 5, false, b.length, 0, 0⟩ := by
    unfold openS
    rw [eopen, hb2]
    rfl
  rw [ex] at P3 ok3
  simp only [tI_int, tTup_tup, pSome_some, List.getElem?_cons_zero, List.getElem?_cons_succ]
  refine c9 ?_
  rw [tI_int]
  refine bne_mk (fun h => absurd rfl h) (fun _ => ?_)
  -- Write
  generalize hx : (⟨last + 1, other, [], 5, false, b.length, 0, 0⟩ : Sm) = x at P3 ok3
  have xn : x.n = last + 1 := by rw [← hx]
  have xm : x.nm = other := by rw [← hx]
  have xw : x.wd = false := by rw [← hx]
  have xp : x.pl = b.length := by rw [← hx]
  have xo : x.mode = 5 := by rw [← hx]
  have hat : atS (S ++ [x]) (last + 1) = some x := by
    have := atS_get ok3.sn (i := S.length) (x := x) (by simp)
    rw [xn] at this
    exact this
  obtain ⟨g3, hg3, H3⟩ := P3
  refine newAt_mk H3 fun i62 σ4 H4 => ?_
  have P4 : PSt s 16384 (last + 1) (insF ⟨other, b⟩ F) (S ++ [x]) ((w, h.O 16384 last) :: (h.R ++ ((i62, .row .rw [u32 1, u32 2]) :: X))) σ4 := ⟨g3, hg3, H4.sep (fun a => by simp only [cnt_app, cnt_cons, List.append_assoc, u32]; omega)⟩
  have ewb : wrB (bOf (insF ⟨other, b⟩ F) x.nm) x [1, 2] = b ++ [1, 2] := by rw [xm, hb2]; exact wrB_end xw xp
  have hwr : wrE 16384 (insF ⟨other, b⟩ F) x [1, 2] = 0 := by
    unfold wrE
    rw [if_neg (by rw [xo]; decide), if_neg]
    rintro ⟨_, hc⟩
    rw [ewb, xm, hb2, totF_insF, List.length_append] at hc
    simp only [List.length_cons, List.length_nil] at hc
    omega
  have hmx : x ∈ S ++ [x] := by simp
  refine c14 (n := last + 1) (a := some ⟨i62, 0, none⟩) (ms := [1, 2]) P4 ok3 (.inr ⟨i62, .rw, rfl, by simp⟩) (by simp) (by simp) (fun hN => by rw [hat] at hN; cases hN) (fun y hy hne => ?_) (fun y hy _ σ5 P5 => ?_)
  · rw [hat] at hy
    cases hy
    exact absurd hwr hne
  rw [hat] at hy
  cases hy
  have ok5 := ok3.write (ms := [1, 2]) (by omega) hmx (by simp) (by simp) hwr
  have eF2 : wrF (insF ⟨other, b⟩ F) x [1, 2] = setB other (b ++ [1, 2]) (insF ⟨other, b⟩ F) := by
    unfold wrF
    rw [if_neg (by rw [xm]; exact hone), ewb, xm]
  have hatW : atS (setS (wrS x [1, 2]) (S ++ [x])) (last + 1) = some (wrS x [1, 2]) := atS_setS hat (by unfold wrS; split <;> rfl)
  have edel : delS (last + 1) (setS (wrS x [1, 2]) (S ++ [x])) = S := by
    have wn : (wrS x [1, 2]).n = last + 1 := by unfold wrS; split <;> exact xn
    have h1 := delS_setS (y := wrS x [1, 2]) (k := (last + 1).toNat) (by rw [wn]; omega) (S ++ [x])
    rw [wn] at h1
    rw [h1]
    have h2 := delS_snoc (x := x) (S := S) fun z hz e => by
      have := (ok.sle z hz).2
      rw [xn] at e
      omega
    rw [xn] at h2
    exact h2
  rw [eF2] at P5 ok5
  generalize hF2 : setB other (b ++ [1, 2]) (insF ⟨other, b⟩ F) = F2 at P5 ok5
  have hh5 : hasF F2 other = true := by rw [← hF2, hasF_setB]; exact hh2
  have hb5 : bOf F2 other = b ++ [1, 2] := by rw [← hF2, bOf_setB, if_pos ⟨rfl, hh2⟩]
  have eback : delF other F2 = F := by rw [← hF2, delF_setB, delF_insF ok.srt hno]
  rw [tI_int]
  refine c9 ?_
  rw [tI_int]
  refine bne_mk (fun h => absurd rfl h) (fun _ => ?_)
  refine c21 P5 ok5.srt ok5.flen1 (fun hN => by rw [hh5] at hN; cases hN) (fun _ σ6 a6 r6 hs6 P6 => ?_)
  rw [hb5] at hs6 ⊢
  simp only [tL_ok_eq hs6.no, tB_bool, tTup_tup, pSome_some, bm_true, List.getElem?_cons_zero, List.getElem?_cons_succ]
  refine c22 P6 ok5 (fun hN => by rw [hatW] at hN; cases hN) (fun y hy σ7 a7 e7 r7 hs7 P7 => ?_)
  rw [edel] at P7
  simp only [tL_ok_eq hs7.no, tI_int, tTup_tup, pSome_some, List.getElem?_cons_zero, List.getElem?_cons_succ]
  obtain ⟨g7, hg7, H7⟩ := P7
  refine newAt_mk H7 fun i92 σ8 H8 => ?_
  refine srcI (hb.z.mono fun p hp => by simp [hp]) H8 ?_
  refine appC (cells := []) (e := 1) (rows := [(i92, .row .rw [])]) (X := (s, g7.O 16384 (last + 1)) :: (g7.R ++ (r7 ++ (r6 ++ ((w, h.O 16384 last) :: (h.R ++ ((i62, .row .rw [u32 1, u32 2]) :: X))))))) SlC.row (H8.sep (fun a => by simp only [cnt_app, cnt_cons, List.append_assoc, List.cons_append, List.nil_append, u32]; omega)) rfl (by simp) (by omega) (by omega) fun a9 σ9 r9 hs9 H9 => ?_
  rw [List.nil_append] at hs9
  refine newAt_mk H9 fun i98 σ10 H10 => ?_
  rw [lds_eq (H10.at 0 rfl) 0 2 (by simp)]
  simp only [List.drop_zero, List.take_succ_cons, List.take_zero]
  refine appC (new := [u8 1, u8 2]) (m := 2) (X := (i98, .row .rw [u8 1, u8 2]) :: ((s, g7.O 16384 (last + 1)) :: (g7.R ++ (r7 ++ (r6 ++ ((w, h.O 16384 last) :: (h.R ++ ((i62, .row .rw [u32 1, u32 2]) :: X)))))))) hs9 (H10.sep (fun a => by simp only [cnt_app, cnt_cons, List.append_assoc, u32, u8]; omega)) (by simp) rfl (by omega) (by omega) fun a11 σ11 r11 hs11 H11 => ?_
  have e8 : cells8 b ++ [u8 1, u8 2] = cells8 (b ++ [1, 2]) := by simp
  rw [e8] at hs11
  have el : 0 + b.length + 2 = (b ++ [1, 2]).length := by simp
  simp only [el]
  refine c23 H11 (hs6.inp fun p hp => by simp [hp]) (hs11.inp fun p hp => by simp [hp]) ?_
  rw [tB_bool, bm_true]
  refine c9 ?_
  rw [tI_int]
  refine bm_t rfl ?_
  -- Delete, twice
  have P12 : PSt s 16384 (last + 1) F2 S ((w, h.O 16384 last) :: (h.R ++ X)) σ11 := ⟨g7, hg7, H11.sep (fun a => by simp only [cnt_app, cnt_cons, List.append_assoc, u32, u8]; omega)⟩
  have d1 : delB F2 S other = true := by unfold delB; rw [hh5, hheld]; rfl
  refine c24 P12 ok5.srt (fun h => by rw [d1] at h; cases h) (fun _ σ12 P13 => ?_)
  rw [eback] at P13
  rw [tB_bool, bm_true]
  have d2 : delB F S other = false := by unfold delB; rw [hno]; rfl
  refine c24 P13 ok.srt (fun _ σ13 P14 => ?_) (fun h => by rw [d2] at h; cases h)
  rw [tB_bool, Bool.not_false, bm_true]
  obtain ⟨g14, hg14, H14⟩ := P14
  refine c25 (last0 := last) (fr := X) ⟨g14, h, hg14, hh, f1, f2, H14⟩ (ok.lastS (by omega)) fun σ14 J14 => ?_
  rw [tB_bool, bm_true]
  exact live _)
end
end Go.AI
