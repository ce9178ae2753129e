/- Lemmas of the abstract condition ahead of code (a part of the library that the claim's proof stands on); they hold with no condition but those that each names. -/
import Derived.Test.YtlofpopejkohbaaGreatGyLaw
import Derived.Test.YtlofpopejkohbaaGreatGyFormP
import Derived.Test.YtlofpopejkohbaaGreatGyTwo
import Derived.Test.YtlofpopejkohbaaGreatAIGhost
section
set_option linter.unusedSimpArgs false
set_option linter.unusedVariables false
set_option maxRecDepth 100000
/- A window of text: a character shown, what is told; no condition but those that each names. -/
namespace Go.AI
open Go.Proofs
section
variable {σ : AS} {K : Value → AS → Prop} {L M : List (Nat × AObj)}
def winO (pane str : Int) (ta : Option Addr) (tn te : Nat) : AObj := .row .plain [i64 1, u32 0, i64 pane, u32 3, u32 str, .slice ta tn te, .map none, u32 0, u32 0, i64 0, u32 0, u32 0, u32 0, i64 0, u32 0, i64 0, .bool false, u32 0, .string (ByteArray.mk #[])]
def strO (win wr : Int) : AObj := .row .plain [i64 2, u32 0, i64 0, u32 0, u32 0, .slice none 0 0, .map none, u32 0, u32 0, i64 0, u32 0, u32 0, u32 win, i64 0, u32 0, i64 0, .bool false, u32 wr, .string (ByteArray.mk #[])]
def glO (n : Int) (al tr sh : Nat) (oa : Option Addr) (on oe : Nat) (cur : Int) : AObj := .row .plain [u32 n, .map (some al), ptr tr, ptr sh, .slice none 0 0, .slice oa on oe, u32 cur, .bool false]
/-- What was told: of which window, where the text lies, the text. -/
abbrev Outs := List (Int × Nat × List Int)
def outCells (os : Outs) : List Value := os.flatMap fun p => [u32 p.1, .slice (some ⟨p.2.1, 0, none⟩) p.2.2.length 1]
def outRows (os : Outs) : List (Nat × AObj) := os.map fun p => (p.2.1, .row .rw (cellsU p.2.2))
def sayL (os : List (Int × List Int)) (id x : Int) : List (Int × List Int) :=
  match os.getLast? with
  | some p => if p.1 = id then os.dropLast ++ [(id, p.2 ++ [x])] else os ++ [(id, [x])]
  | none => [(id, [x])]
def outP (os : Outs) : List (Int × List Int) := os.map fun p => (p.1, p.2.2)
theorem outCells_len (os : Outs) : (outCells os).length = 2 * os.length := by
  unfold outCells
  induction os with
  | nil => rfl
  | cons p os ih => rw [List.flatMap_cons, List.length_append, ih, List.length_cons]; simp; omega
theorem outCells_app (a b : Outs) : outCells (a ++ b) = outCells a ++ outCells b := by unfold outCells; simp
theorem outRows_app (a b : Outs) : outRows (a ++ b) = outRows a ++ outRows b := by unfold outRows; simp
theorem szP38 : szOf Tryz.prog 38 = 2 := by kernel_rfl
theorem newOut {g : Nat} {n cur : Int} {al tr sh : Nat} {oa : Option Addr} {on oe : Nat} {os : Outs} {rowsO : List (Nat × AObj)} {id x : Int} (hso : SlC 2 oa oe (outCells os) rowsO) (hon : on = os.length) (hb : os.length ≤ 1000)
    (H : Has σ ((g, glO n al tr sh oa on oe cur) :: (rowsO ++ (outRows os ++ M))))
    (hK : ∀ oa' rowsO' j σ', SlC 2 oa' 2 (outCells (os ++ [(id, j, [x])])) rowsO' → Has σ' ((g, glO n al tr sh oa' (on + 1) 2 cur) :: (rowsO' ++ (outRows (os ++ [(id, j, [x])]) ++ M))) → K unit0 σ') :
    ldc σ ⟨g, 0 + 5, none⟩ fun v46 => tL 2 v46 fun s47 => newAt σ (.row .rw [u32 x]) fun i48 σ49 => newAt σ49 (.row .rw [u32 id, .slice (some ⟨i48, 0, none⟩) 1 1]) fun i50 σ51 => lds σ51 ⟨i50, 0, none⟩ 2 fun l52 => appendTo σ51 2 32 ⟨s47.a, s47.n⟩ l52 1 fun s53 σ54 => put1 σ54 ⟨g, 0 + 5, none⟩ (.slice s53.a s53.n 2) fun σ55 => K unit0 σ55 := by
  refine ldm H List.mem_cons_self rfl (tL_ok hso.no ?_)
  refine newAt_mk H fun j σ1 H1 => newAt_mk H1 fun i0 σ2 H2 => lds_mk H2 0 rfl (by simp) ?_
  have e0 : (([u32 id, .slice (some ⟨j, 0, none⟩) 1 1] : List Value).drop 0).take 2 = [u32 id, .slice (some ⟨j, 0, none⟩) 1 1] := rfl
  rw [e0]
  refine appC (new := [u32 id, .slice (some ⟨j, 0, none⟩) 1 1]) (m := 1) hso (H2.sep (M := rowsO ++ ((g, glO n al tr sh oa on oe cur) :: (j, .row .rw [u32 x]) :: (outRows os ++ M))) (fun a => by simp only [cnt_app, cnt_cons, cnt_nil]; omega)) (by rw [outCells_len]; simp only; omega) (by simp) (by omega) (by simp only; omega) fun oa' σ3 rowsO' hso' H3 => ?_
  refine put0 (H3.sep (M := (g, glO n al tr sh oa on oe cur) :: (rowsO' ++ ((j, .row .rw [u32 x]) :: (outRows os ++ M)))) (fun a => by simp only [cnt_app, cnt_cons, cnt_nil]; omega)) rfl (by simp [glO]) fun σ4 H4 => ?_
  refine hK oa' rowsO' j σ4 (by rw [outCells_app]; exact hso') (H4.sep fun a => ?_)
  rw [outRows_app]
  simp only [outRows, List.map_cons, List.map_nil, cnt_app, cnt_cons, cnt_nil, glO, List.set_cons_zero, List.set_cons_succ, Nat.zero_add]
  omega
/-- A character is shown in a window of text. -/
theorem c132 {g w i : Nat} {n cur id x pane str : Int} {al tr sh : Nat} {es : List MapEntry} {ec : Nat} {oa ta : Option Addr} {on oe tn te : Nat} {os : Outs} {T : List Int} {rowsO rowsT : List (Nat × AObj)}
    (hal : (al, AObj.map es ec) ∈ M) (hf : Instr.findNow (.int .u32) (u32 id) es 0 = some (some (i, ptr w))) (hst : SlC 1 ta te (cellsU T) rowsT) (htn : tn = T.length) (htb : T.length ≤ 1000)
    (hso : SlC 2 oa oe (outCells os) rowsO) (hon : on = os.length) (hb : os.length ≤ 1000) (hos : ∀ p ∈ os, p.2.2.length ≤ 1000)
    (H : Has σ ((g, glO n al tr sh oa on oe cur) :: (w, winO pane str ta tn te) :: (rowsT ++ (rowsO ++ (outRows os ++ M)))))
    (hK : ∀ oa' on' oe' rowsO' os' ta' rowsT' σ', SlC 1 ta' 1 (cellsU (T ++ [x])) rowsT' → SlC 2 oa' oe' (outCells os') rowsO' → on' = os'.length → outP os' = sayL (outP os) id x →
      Has σ' ((g, glO n al tr sh oa' on' oe' cur) :: (w, winO pane str ta' (tn + 1) 1) :: (rowsT' ++ (rowsO' ++ (outRows os' ++ M)))) → K unit0 σ') :
    Tri Tryz.prog 132 [ptr g, u32 id, u32 x] σ K := tri_in (by
  rw [s132]
  refine ldm H List.mem_cons_self rfl ?_
  simp only [tM_map]
  rw [mget_eq (H.g (i := al) (x := .map es ec) (by simp [hal])), hf]
  simp only [pSome_some, Option.map, Option.getD, tP_ptr]
  refine ldm H (List.mem_cons_of_mem _ List.mem_cons_self) rfl (tI_mk ?_)
  refine beq_mk (fun _ => ?_) (fun h => absurd rfl h)
  refine ldm H (List.mem_cons_of_mem _ List.mem_cons_self) rfl (tL_ok hst.no ?_)
  refine newAt_mk H fun i0 σ1 H1 => lds_mk H1 0 rfl (by simp) ?_
  have e0 : (([u32 x] : List Value).drop 0).take 1 = [u32 x] := rfl
  rw [e0]
  refine appC (new := [u32 x]) (m := 1) hst (H1.sep (M := rowsT ++ ((g, glO n al tr sh oa on oe cur) :: (w, winO pane str ta tn te) :: (rowsO ++ (outRows os ++ M)))) (fun a => by simp only [cnt_app, cnt_cons, cnt_nil]; omega)) (by simp; omega) rfl (by omega) (by simp only; omega) fun ta' σ2 rowsT' hst' H2 => ?_
  refine put0 (H2.sep (M := (w, winO pane str ta tn te) :: (g, glO n al tr sh oa on oe cur) :: (rowsT' ++ (rowsO ++ (outRows os ++ M)))) (fun a => by simp only [cnt_app, cnt_cons, cnt_nil]; omega)) rfl (by simp [winO]) fun σ3 H3 => ?_
  have H4 : Has σ3 ((g, glO n al tr sh oa on oe cur) :: (rowsO ++ (outRows os ++ ((w, winO pane str ta' (tn + 1) 1) :: (rowsT' ++ M))))) := H3.sep fun a => by
    simp only [cnt_app, cnt_cons, cnt_nil, winO, List.set_cons_zero, List.set_cons_succ, Nat.zero_add]; omega
  clear H3 H2 H1
  have hst2 : SlC 1 ta' 1 (cellsU (T ++ [x])) rowsT' := by simpa [cellsU] using hst'
  have caseB : sayL (outP os) id x = outP os ++ [(id, [x])] → ldc σ3 ⟨g, 0 + 5, none⟩ fun v46 => tL 2 v46 fun s47 => newAt σ3 (.row .rw [u32 x]) fun i48 σ49 => newAt σ49 (.row .rw [u32 id, .slice (some ⟨i48, 0, none⟩) 1 1]) fun i50 σ51 => lds σ51 ⟨i50, 0, none⟩ 2 fun l52 => appendTo σ51 2 32 ⟨s47.a, s47.n⟩ l52 1 fun s53 σ54 => put1 σ54 ⟨g, 0 + 5, none⟩ (.slice s53.a s53.n 2) fun σ55 => K unit0 σ55 := by
    intro hsay
    refine newOut (id := id) (x := x) hso hon hb H4 fun oa' rowsO' j σ4 hso' H5 => ?_
    refine hK oa' (on + 1) 2 rowsO' (os ++ [(id, j, [x])]) ta' rowsT' σ4 hst2 hso' (by rw [hon]; simp) ?_ (H5.sep fun a => by simp only [cnt_app, cnt_cons, cnt_nil]; omega)
    rw [hsay]
    unfold outP
    simp
  refine ldm H4 List.mem_cons_self rfl (tL_ok hso.no ?_)
  refine bmd_mk (fun hpos => ?_) (fun h0 => caseB ?_)
  · simp only at hpos
    refine ldm H4 List.mem_cons_self rfl (tL_ok hso.no ?_)
    have w1 : IntKind.wrap .i64 ((on : Int) - 1) = ((on - 1 : Nat) : Int) := by rw [wrap64 (by omega) (by omega)]; omega
    simp only
    rw [w1]
    refine req_mk (by omega) (req_mk (by omega) ?_)
    rcases List.eq_nil_or_concat os with hnil | ⟨os1, ⟨lw, lj, lt⟩, hcon⟩
    · rw [hnil] at hon; simp at hon; omega
    rw [List.concat_eq_append] at hcon
    subst hcon
    obtain ⟨q, rfl, rfl, rfl⟩ := hso.at (p := 0) (by rw [outCells_len]; simp)
    have hlen1 : on - 1 = os1.length := by rw [hon]; simp
    simp only [pSome_some, aadd_none, add_none, szP38, Int.toNat_natCast, Nat.zero_add, hlen1]
    have hc0 : (outCells (os1 ++ [(lw, lj, lt)]))[os1.length * 2 + 0]? = some (u32 lw) := by
      rw [outCells_app, List.getElem?_append_right (by rw [outCells_len]; omega), outCells_len]
      have : os1.length * 2 + 0 - 2 * os1.length = 0 := by omega
      rw [this]; rfl
    have hc1 : (outCells (os1 ++ [(lw, lj, lt)]))[os1.length * 2 + 1]? = some (.slice (some ⟨lj, 0, none⟩) lt.length 1) := by
      rw [outCells_app, List.getElem?_append_right (by rw [outCells_len]; omega), outCells_len]
      have : os1.length * 2 + 1 - 2 * os1.length = 1 := by omega
      rw [this]; rfl
    have hq : ∀ {y : Nat × AObj}, (q, AObj.row .rw (outCells (os1 ++ [(lw, lj, lt)]))) ∈ y :: ([(q, AObj.row .rw (outCells (os1 ++ [(lw, lj, lt)])))] ++ (outRows (os1 ++ [(lw, lj, lt)]) ++ ((w, winO pane str ta' (tn + 1) 1) :: (rowsT' ++ M)))) := by simp
    refine ldm H4 hq hc0 (tI_mk ?_)
    refine beq_mk (fun hid => ?_) (fun hid => caseB ?_)
    · subst hid
      refine ldm H4 List.mem_cons_self rfl (tL_mk ?_)
      refine ldm H4 List.mem_cons_self rfl (tL_mk ?_)
      simp only
      refine req_mk (by omega) (req_mk (by omega) ?_)
      simp only [pSome_some, aadd_none, add_none, szP38, Int.toNat_natCast, Nat.zero_add, hlen1]
      refine ldm H4 hq hc1 (tL_mk ?_)
      refine newAt_mk H4 fun i1 σ4 H5 => ?_
      refine ldm H5 (List.mem_cons_of_mem _ hq) hc1 (tL_mk ⟨rfl, ?_⟩)
      refine ldm H5 (List.mem_cons_of_mem _ List.mem_cons_self) rfl (tL_mk ⟨rfl, ?_⟩)
      refine ldm H5 (List.mem_cons_of_mem _ List.mem_cons_self) rfl (tL_mk ⟨rfl, ?_⟩)
      refine lds_mk H5 0 rfl (by simp) ?_
      rw [e0]
      have hlt := hos (lw, lj, lt) (by simp)
      refine appC (new := [u32 x]) (m := 1) (SlC.row (sz := 1) (j := lj) (cells := cellsU lt)) (H5.sep (M := [(lj, AObj.row .rw (cellsU lt))] ++ ((g, glO n al tr sh (some ⟨q, 0, none⟩) on 2 cur) :: (q, AObj.row .rw (outCells (os1 ++ [(lw, lj, lt)]))) :: (outRows os1 ++ ((w, winO pane str ta' (tn + 1) 1) :: (rowsT' ++ M))))) (fun a => ?_)) (by simp) rfl (by omega) (by simp only at hlt ⊢; omega) fun a2 σ5 rows2 hs2 H6 => ?_
      · rw [outRows_app]
        simp only [outRows, List.map_cons, List.map_nil, cnt_app, cnt_cons, cnt_nil]; omega
      obtain ⟨j2, rfl, _, rfl⟩ := hs2.at (p := 0) (by simp)
      refine ldm H6 (k := .plain) (cs := [u32 n, .map (some al), ptr tr, ptr sh, .slice none 0 0, .slice (some ⟨q, 0, none⟩) on 2, u32 cur, .bool false]) (i := g) (by simp [glO]) rfl (tL_mk ⟨rfl, ?_⟩)
      refine req_mk (by omega) (req_mk (by omega) ?_)
      simp only [pSome_some, aadd_none, add_none, szP38, Int.toNat_natCast, Nat.zero_add, hlen1]
      refine put0 (H6.sep (M := (q, AObj.row .rw (outCells (os1 ++ [(lw, lj, lt)]))) :: (g, glO n al tr sh (some ⟨q, 0, none⟩) on 2 cur) :: (j2, AObj.row .rw (cellsU lt ++ [u32 x])) :: (outRows os1 ++ ((w, winO pane str ta' (tn + 1) 1) :: (rowsT' ++ M)))) (fun a => by simp only [cnt_app, cnt_cons, cnt_nil]; omega)) rfl (by rw [outCells_len]; simp; omega) fun σ6 H7 => ?_
      have eset : (outCells (os1 ++ [(lw, lj, lt)])).set (os1.length * 2 + 1) (.slice (some ⟨j2, 0, none⟩) (lt.length + 1) 1) = outCells (os1 ++ [(lw, j2, lt ++ [x])]) := by
        rw [outCells_app, outCells_app, List.set_append_right _ _ (by rw [outCells_len]; omega), outCells_len]
        have : os1.length * 2 + 1 - 2 * os1.length = 1 := by omega
        rw [this]
        simp [outCells]
      rw [eset] at H7
      refine hK _ on 2 [(q, AObj.row .rw (outCells (os1 ++ [(lw, j2, lt ++ [x])])))] (os1 ++ [(lw, j2, lt ++ [x])]) ta' rowsT' σ6 hst2 SlC.row (by rw [hon]; simp) ?_ (H7.sep fun a => ?_)
      · unfold outP sayL
        simp
      · rw [outRows_app]
        have ec : cellsU lt ++ [u32 x] = cellsU (lt ++ [x]) := by simp [cellsU]
        rw [ec]
        simp only [outRows, List.map_cons, List.map_nil, cnt_app, cnt_cons, cnt_nil]; omega
    · unfold outP sayL
      simp [hid]
  · have : os = [] := List.length_eq_zero_iff.1 (by simp only at h0; omega)
    subst this
    rfl)
end
end Go.AI
end
section
set_option linter.unusedSimpArgs false
set_option linter.unusedVariables false
set_option maxRecDepth 100000
/- Calls upon windows of text: set, put, its stream, told how much; no condition but those that each names. -/
namespace Go.AI
open Go.Proofs
section
variable {σ : AS} {K : Value → AS → Prop} {L M : List (Nat × AObj)}
theorem n46d : ∀ (σ : AS) (K : Value → AS → Prop), callN Tryz.prog hints glE 80 46 [u32 47] σ K = K (i64 1) σ := by
  intros
  kernel_rfl
theorem n46e : ∀ (σ : AS) (K : Value → AS → Prop), callN Tryz.prog hints glE 80 46 [u32 296] σ K = K (i64 1) σ := by
  intros
  kernel_rfl
theorem n46f : ∀ (σ : AS) (K : Value → AS → Prop), callN Tryz.prog hints glE 80 46 [u32 44] σ K = K (i64 1) σ := by
  intros
  kernel_rfl
theorem n46g : ∀ (σ : AS) (K : Value → AS → Prop), callN Tryz.prog hints glE 80 46 [u32 70] σ K = K (i64 1) σ := by
  intros
  kernel_rfl
variable {g al tr sh ar m w s i : Nat} {n cur id x pane str win wr : Int} {es : List MapEntry} {ec : Nat} {oa ta : Option Addr} {on oe tn te : Nat} {os : Outs} {T : List Int} {rowsO rowsT : List (Nat × AObj)}
theorem cof (hg : (g, glO n al tr sh oa on oe cur) ∈ L) (hal : (al, AObj.map es ec) ∈ L) {ob : Nat} {sort : Int} {vs : List Value} (ho : (ob, AObj.row .plain (i64 sort :: vs)) ∈ L) (hf : Instr.findNow (.int .u32) (u32 id) es 0 = some (some (i, ptr ob))) (H : Has σ L)
    (hK : K (ptr ob) σ) : Tri Tryz.prog 54 [ptr g, u32 id, i64 sort] σ K := c54 (y := u32 n) (gs := [ptr tr, ptr sh, .slice none 0 0, .slice oa on oe, u32 cur, .bool false]) hg hal ho hf H hK
theorem m2 {p x y : Nat × AObj} (h : p ∈ M) : p ∈ x :: y :: M := List.mem_cons_of_mem _ (List.mem_cons_of_mem _ h)
theorem c16set (hid : id ≠ 0) (hal : (al, AObj.map es ec) ∈ M) (hf : Instr.findNow (.int .u32) (u32 id) es 0 = some (some (i, ptr w))) (hw : (w, winO pane str ta tn te) ∈ M) (har : (ar, AObj.row .rw [u32 id]) ∈ M)
    (H : Has σ ((g, glO n al tr sh oa on oe cur) :: M)) (hK : ∀ σ', Has σ' ((g, glO n al tr sh oa on oe str) :: M) → K (.tuple ⟨[u32 0, i64 0]⟩) σ') :
    Tri Tryz.prog 16 [ptr g, .iface 29 (ptr m), u32 47, .slice (some ⟨ar, 0, none⟩) 1 1] σ K := tri_in (by
  rw [s16set]
  refine ldm H List.mem_cons_self rfl ?_
  simp only [tB_bool, bm_false]
  refine tri_hard ?_
  rw [n46d]
  refine tI_mk (bne_mk (fun h => absurd rfl h) (fun _ => ?_))
  refine newAt_mk H fun c σ1 H1 => tri_in ?_
  rw [s49set]
  have hc := H1.g (i := c) List.mem_cons_self
  have ha : (ar, AObj.row .rw [u32 id]) ∈ (c, AObj.row .plain [ptr g, .iface 29 (ptr m), .slice (some ⟨ar, 0, none⟩) 1 1]) :: (g, glO n al tr sh oa on oe cur) :: M := by simp [har]
  rw [ldc_eq hc]
  simp only [Nat.zero_add, List.getElem?_cons_zero, List.getElem?_cons_succ, pSome_some]
  refine tL_mk (req_mk (by simp only; omega) ?_)
  simp only [pSome_some, aadd_none, szP32]
  refine ldm H1 ha rfl (tI_mk ?_)
  refine beq_mk (fun h => absurd h hid) (fun _ => ?_)
  rw [ldc_eq hc]
  simp only [Nat.zero_add, List.getElem?_cons_zero, List.getElem?_cons_succ, pSome_some, tP_ptr]
  rw [ldc_eq hc]
  simp only [Nat.zero_add, List.getElem?_cons_zero, List.getElem?_cons_succ, pSome_some]
  refine tL_mk (req_mk (by simp only; omega) ?_)
  simp only [pSome_some, aadd_none, szP32]
  refine ldm H1 ha rfl (tI_mk ?_)
  refine cof (ob := w) (List.mem_cons_of_mem _ List.mem_cons_self) (m2 hal) (m2 hw) hf H1 ?_
  simp only [tP_ptr, ptrEq_some, bm_false]
  rw [ldc_eq hc]
  simp only [Nat.zero_add, List.getElem?_cons_zero, List.getElem?_cons_succ, pSome_some, tP_ptr]
  refine ldm H1 (m2 hw) rfl (tI_mk ?_)
  refine put0 (H1.sep (M := (g, glO n al tr sh oa on oe cur) :: M) (fun a => by simp only [cnt_app, cnt_cons, cnt_nil]; omega)) rfl (by simp [glO]) fun σ2 H2 => ?_
  simp only [tTup_tup, pSome_some, List.getElem?_cons_zero, List.getElem?_cons_succ, tI_int]
  exact hK σ2 (by simpa [glO] using H2))
theorem c16pw (hal : (al, AObj.map es ec) ∈ M) (hs : Instr.findNow (.int .u32) (u32 cur) es 0 = some (some (i, ptr s))) {i2 : Nat} (hf : Instr.findNow (.int .u32) (u32 win) es 0 = some (some (i2, ptr w))) (hwin : win ≠ 0) (har : (ar, AObj.row .rw [u32 x]) ∈ M)
    (hwr : 0 ≤ wr ∧ wr < 4294967295) (hst : SlC 1 ta te (cellsU T) rowsT) (htn : tn = T.length) (htb : T.length ≤ 1000) (hso : SlC 2 oa oe (outCells os) rowsO) (hon : on = os.length) (hb : os.length ≤ 1000) (hos : ∀ p ∈ os, p.2.2.length ≤ 1000)
    (H : Has σ ((g, glO n al tr sh oa on oe cur) :: (s, strO win wr) :: (w, winO pane str ta tn te) :: (rowsT ++ (rowsO ++ (outRows os ++ M)))))
    (hK : ∀ oa' on' oe' rowsO' os' ta' rowsT' σ', SlC 1 ta' 1 (cellsU (T ++ [x])) rowsT' → SlC 2 oa' oe' (outCells os') rowsO' → on' = os'.length → outP os' = sayL (outP os) win x →
      Has σ' ((g, glO n al tr sh oa' on' oe' cur) :: (s, strO win (wr + 1)) :: (w, winO pane str ta' (tn + 1) 1) :: (rowsT' ++ (rowsO' ++ (outRows os' ++ M)))) → K (.tuple ⟨[u32 0, i64 0]⟩) σ') :
    Tri Tryz.prog 16 [ptr g, .iface 29 (ptr m), u32 296, .slice (some ⟨ar, 0, none⟩) 1 1] σ K := tri_in (by
  rw [s16pw]
  refine ldm H List.mem_cons_self rfl ?_
  simp only [tB_bool, bm_false]
  refine tri_hard ?_
  rw [n46e]
  refine tI_mk (bne_mk (fun h => absurd rfl h) (fun _ => ?_))
  refine newAt_mk H fun c σ1 H1 => tri_in ?_
  rw [s53pw]
  have hc := H1.g (i := c) List.mem_cons_self
  have inM : ∀ {p y : Nat × AObj}, p ∈ M → p ∈ y :: (g, glO n al tr sh oa on oe cur) :: (s, strO win wr) :: (w, winO pane str ta tn te) :: (rowsT ++ (rowsO ++ (outRows os ++ M))) := fun h => by simp [h]
  rw [ldc_eq hc]
  simp only [Nat.zero_add, List.getElem?_cons_zero, List.getElem?_cons_succ, pSome_some, tP_ptr]
  rw [ldc_eq hc]
  simp only [Nat.zero_add, List.getElem?_cons_zero, List.getElem?_cons_succ, pSome_some, tP_ptr]
  refine ldm H1 (List.mem_cons_of_mem _ List.mem_cons_self) rfl (tI_mk ?_)
  rw [ldc_eq hc]
  simp only [Nat.zero_add, List.getElem?_cons_zero, List.getElem?_cons_succ, pSome_some]
  refine tL_mk (req_mk (by simp only; omega) ?_)
  simp only [pSome_some, aadd_none, szP32]
  refine ldm H1 (inM har) rfl (tI_mk (tri_in ?_))
  rw [s72]
  refine cof (List.mem_cons_of_mem _ List.mem_cons_self) (inM hal) (ob := s) (List.mem_cons_of_mem _ (List.mem_cons_of_mem _ List.mem_cons_self)) hs H1 ?_
  simp only [tP_ptr, ptrEq_some, bm_false, pSome_some]
  have hs2 : ∀ {y : Nat × AObj}, (s, strO win wr) ∈ y :: (g, glO n al tr sh oa on oe cur) :: (s, strO win wr) :: (w, winO pane str ta tn te) :: (rowsT ++ (rowsO ++ (outRows os ++ M))) := by simp
  refine ldm H1 hs2 rfl (tI_mk ?_)
  refine bne_mk (fun _ => ?_) (fun h => absurd h hwin)
  refine ldm H1 hs2 rfl (tI_mk ?_)
  rw [wrapU32 (by omega) (by omega)]
  refine put0 (H1.sep (M := (s, strO win wr) :: (g, glO n al tr sh oa on oe cur) :: (w, winO pane str ta tn te) :: (rowsT ++ (rowsO ++ (outRows os ++ M)))) (fun a => by simp only [cnt_app, cnt_cons, cnt_nil]; omega)) rfl (by simp [strO]) fun σ2 H2 => ?_
  refine ldm H2 List.mem_cons_self rfl (tI_mk ?_)
  refine c132 (M := (s, strO win (wr + 1)) :: M) (n := n) (cur := cur) (tr := tr) (sh := sh) (pane := pane) (str := str) (tn := tn) (on := on) (List.mem_cons_of_mem _ hal) hf hst htn htb hso hon hb hos (H2.sep fun a => by simp only [cnt_app, cnt_cons, cnt_nil, strO, u32, i64, List.set_cons_zero, List.set_cons_succ, Nat.zero_add]; omega) fun oa' on' oe' rowsO' os' ta' rowsT' σ3 h1 h2 h3 h4 H3 => ?_
  simp only [tTup_tup, pSome_some, List.getElem?_cons_zero, List.getElem?_cons_succ, tI_int]
  exact hK oa' on' oe' rowsO' os' ta' rowsT' σ3 h1 h2 h3 h4 (H3.sep fun a => by simp only [cnt_app, cnt_cons, cnt_nil]; omega))
/-- A window's stream. -/
theorem c16ws (hal : (al, AObj.map es ec) ∈ M) (hf : Instr.findNow (.int .u32) (u32 id) es 0 = some (some (i, ptr w))) (hw : (w, winO pane str ta tn te) ∈ M) (har : (ar, AObj.row .rw [u32 id]) ∈ M)
    (H : Has σ ((g, glO n al tr sh oa on oe cur) :: M)) (hK : ∀ σ', Has σ' ((g, glO n al tr sh oa on oe cur) :: M) → K (.tuple ⟨[u32 str, i64 0]⟩) σ') :
    Tri Tryz.prog 16 [ptr g, .iface 29 (ptr m), u32 44, .slice (some ⟨ar, 0, none⟩) 1 1] σ K := tri_in (by
  rw [s16ws]
  refine ldm H List.mem_cons_self rfl ?_
  simp only [tB_bool, bm_false]
  refine tri_hard ?_
  rw [n46f]
  refine tI_mk (bne_mk (fun h => absurd rfl h) (fun _ => ?_))
  refine newAt_mk H fun c σ1 H1 => tri_in ?_
  rw [s49ws]
  have hc := H1.g (i := c) List.mem_cons_self
  rw [ldc_eq hc]
  simp only [Nat.zero_add, List.getElem?_cons_zero, List.getElem?_cons_succ, pSome_some, tP_ptr]
  rw [ldc_eq hc]
  simp only [Nat.zero_add, List.getElem?_cons_zero, List.getElem?_cons_succ, pSome_some]
  refine tL_mk (req_mk (by simp only; omega) ?_)
  simp only [pSome_some, aadd_none, szP32]
  refine ldm H1 (m2 har) rfl (tI_mk ?_)
  refine cof (ob := w) (List.mem_cons_of_mem _ List.mem_cons_self) (m2 hal) (m2 hw) hf H1 ?_
  simp only [tP_ptr, ptrEq_some, bm_false, pSome_some]
  refine ldm H1 (m2 hw) rfl (tI_mk ?_)
  simp only [tTup_tup, pSome_some, List.getElem?_cons_zero, List.getElem?_cons_succ, tI_int]
  exact hK σ1 (H1.sep fun a => by simp only [cnt_app, cnt_cons, cnt_nil]; omega))
/-- How much came to a window's stream. -/
theorem c16tl (hwin : win ≠ 0) (hal : (al, AObj.map es ec) ∈ M) (hf : Instr.findNow (.int .u32) (u32 id) es 0 = some (some (i, ptr s))) (hw : (s, strO win wr) ∈ M) (har : (ar, AObj.row .rw [u32 id]) ∈ M)
    (H : Has σ ((g, glO n al tr sh oa on oe cur) :: M)) (hK : ∀ σ', Has σ' ((g, glO n al tr sh oa on oe cur) :: M) → K (.tuple ⟨[u32 wr, i64 0]⟩) σ') :
    Tri Tryz.prog 16 [ptr g, .iface 29 (ptr m), u32 70, .slice (some ⟨ar, 0, none⟩) 1 1] σ K := tri_in (by
  rw [s16tl]
  refine ldm H List.mem_cons_self rfl ?_
  simp only [tB_bool, bm_false]
  refine tri_hard ?_
  rw [n46g]
  refine tI_mk (bne_mk (fun h => absurd rfl h) (fun _ => ?_))
  refine newAt_mk H fun c σ1 H1 => tri_in ?_
  rw [s50tl]
  have hc := H1.g (i := c) List.mem_cons_self
  rw [ldc_eq hc]
  simp only [Nat.zero_add, List.getElem?_cons_zero, List.getElem?_cons_succ, pSome_some, tP_ptr]
  rw [ldc_eq hc]
  simp only [Nat.zero_add, List.getElem?_cons_zero, List.getElem?_cons_succ, pSome_some]
  refine tL_mk (req_mk (by simp only; omega) ?_)
  simp only [pSome_some, aadd_none, szP32]
  refine ldm H1 (m2 har) rfl (tI_mk ?_)
  refine cof (ob := s) (List.mem_cons_of_mem _ List.mem_cons_self) (m2 hal) (m2 hw) hf H1 ?_
  simp only [tP_ptr, ptrEq_some, bm_false, pSome_some]
  refine ldm H1 (m2 hw) rfl (tI_mk ?_)
  refine bne_mk (fun _ => ?_) (fun h => absurd h hwin)
  refine ldm H1 (m2 hw) rfl (tI_mk ?_)
  simp only [tTup_tup, pSome_some, List.getElem?_cons_zero, List.getElem?_cons_succ, tI_int]
  exact hK σ1 (H1.sep fun a => by simp only [cnt_app, cnt_cons, cnt_nil]; omega))
end
end Go.AI
end
section
set_option linter.unusedSimpArgs false
set_option linter.unusedVariables false
set_option maxRecDepth 100000
/- The law of two windows' words: what was told keeps its order; a round of the law; no condition but those that each names. -/
namespace Go.AI
open Go.Proofs
/-- What was told: no window twice in turn, nothing empty; all of it in one. -/
def OkP (P : List (Int × List Int)) (b : List Int) : Prop :=
  (∀ p ∈ P, p.2 ≠ [] ∧ (p.1 = 1 ∨ p.1 = 3)) ∧ (∀ (i : Nat) (p q : Int × List Int), P[i]? = some p → P[i + 1]? = some q → q.1 ≠ p.1) ∧ P.flatMap (·.2) = b
theorem okP_nil : OkP [] [] := ⟨by simp, by simp, rfl⟩
theorem okP_new {P : List (Int × List Int)} {b : List Int} (h : OkP P b) {id x : Int} (hid : id = 1 ∨ id = 3) (hl : ∀ p, P.getLast? = some p → p.1 ≠ id) : OkP (P ++ [(id, [x])]) (b ++ [x]) := by
  refine ⟨fun p hp => ?_, fun i p q hp hq => ?_, by rw [List.flatMap_append, h.2.2]; simp⟩
  · rcases List.mem_append.1 hp with hp | hp
    · exact h.1 p hp
    · simp only [List.mem_singleton] at hp
      subst hp
      exact ⟨by simp, hid⟩
  · by_cases hi : i + 1 < P.length
    · rw [List.getElem?_append_left (by omega)] at hp hq
      exact h.2.1 i p q hp hq
    · have hi2 : i + 1 = P.length := by
        have := (List.getElem?_eq_some_iff.1 hq).1
        simp at this
        omega
      rw [List.getElem?_append_right (by omega)] at hq
      have e0 : i + 1 - P.length = 0 := by omega
      rw [e0] at hq
      simp only [List.getElem?_cons_zero, Option.some.injEq] at hq
      subst hq
      rw [List.getElem?_append_left (by omega)] at hp
      have := hl p (by rw [List.getLast?_eq_getElem?]; rw [show P.length - 1 = i by omega]; exact hp)
      exact fun e => this e.symm
theorem okP_say {P : List (Int × List Int)} {b : List Int} (h : OkP P b) {id x : Int} (hid : id = 1 ∨ id = 3) : OkP (sayL P id x) (b ++ [x]) := by
  unfold sayL
  rcases List.eq_nil_or_concat P with rfl | ⟨P1, ⟨w, t⟩, rfl⟩
  · obtain ⟨_, _, rfl⟩ := h
    exact okP_new okP_nil hid (by simp)
  · rw [List.concat_eq_append] at h ⊢
    simp only [List.getLast?_append, List.getLast?_singleton, Option.some_or, List.dropLast_concat]
    split
    · rename_i hw
      subst hw
      refine ⟨fun p hp => ?_, fun i p q hp hq => ?_, ?_⟩
      · rcases List.mem_append.1 hp with hp | hp
        · exact h.1 p (List.mem_append_left _ hp)
        · simp only [List.mem_singleton] at hp
          subst hp
          exact ⟨by simp, hid⟩
      · by_cases hi : i + 1 < P1.length
        · refine h.2.1 i p q ?_ ?_
          · rw [List.getElem?_append_left (by omega)] at hp ⊢; exact hp
          · rw [List.getElem?_append_left (by omega)] at hq ⊢; exact hq
        · have hi2 : i + 1 = P1.length := by
            have := (List.getElem?_eq_some_iff.1 hq).1
            simp at this
            omega
          rw [List.getElem?_append_right (by omega)] at hq
          have e0 : i + 1 - P1.length = 0 := by omega
          rw [e0] at hq
          simp only [List.getElem?_cons_zero, Option.some.injEq] at hq
          subst hq
          refine h.2.1 i p (w, t) ?_ ?_
          · rw [List.getElem?_append_left (by omega)] at hp ⊢; exact hp
          · rw [List.getElem?_append_right (by omega), e0]; rfl
      · have := h.2.2
        rw [List.flatMap_append] at this ⊢
        rw [← this]
        simp
    · rename_i hw
      exact okP_new h hid (by simpa using hw)
theorem okP_len : ∀ {P : List (Int × List Int)} {b : List Int}, (∀ p ∈ P, p.2 ≠ []) → P.flatMap (·.2) = b → P.length ≤ b.length ∧ ∀ p ∈ P, p.2.length ≤ b.length
  | [], _, _, rfl => by simp
  | p :: P, _, h, rfl => by
    have ih := okP_len (P := P) (fun q hq => h q (List.mem_cons_of_mem _ hq)) rfl
    have h1 : 1 ≤ p.2.length := by
      have := h p List.mem_cons_self
      rcases hp : p.2 with _ | ⟨a, t⟩
      · exact absurd hp this
      · simp
    rw [List.flatMap_cons, List.length_append, List.length_cons]
    refine ⟨by omega, fun q hq => ?_⟩
    rcases List.mem_cons.1 hq with rfl | hq
    · omega
    · have := ih.2 q hq
      omega
section
variable {σ : AS} {K : Value → AS → Prop} {L M : List (Nat × AObj)} {X : Regs → AS → Prop}
variable {g al tr sh m w s k1 k2 : Nat} {n cur id pane str wr v : Int} {es : List MapEntry} {ec : Nat} {oa ta xa ya ba : Option Addr} {oe tn te xn xe yn ye bn be : Nat} {os : Outs} {T b : List Int} {rowsO rowsT rowsB : List (Nat × AObj)}
theorem pr_tail {la ua : Option Addr} {l : List Int} {un ue i : Nat} (hid : id ≠ 0) (hal : (al, AObj.map es ec) ∈ M) (hs : Instr.findNow (.int .u32) (u32 str) es 0 = some (some (k1, ptr s))) (hf : Instr.findNow (.int .u32) (u32 id) es 0 = some (some (k2, ptr w))) (hla : Inp u32 la l M) (hv : l[i]? = some v)
    (hwr : 0 ≤ wr ∧ wr < 4294967295) (hst : SlC 1 ta te (cellsU T) rowsT) (htn : tn = T.length) (htb : T.length ≤ 1000) (hso : SlC 2 oa oe (outCells os) rowsO) (hob : os.length ≤ 1000) (hos : ∀ p ∈ os, p.2.2.length ≤ 1000)
    (hsb : SlC 1 ba be (cellsU b) rowsB) (hbn : bn = b.length) (hbb : b.length ≤ 1000) (hi : i ≤ 1000)
    (H : Has σ ((g, glO n al tr sh oa os.length oe cur) :: (s, strO id wr) :: (w, winO pane str ta tn te) :: (rowsT ++ (rowsO ++ (outRows os ++ (rowsB ++ M))))))
    (hK : ∀ oa' oe' rowsO' os' ta' rowsT' ba' rowsB' σ', SlC 1 ta' 1 (cellsU (T ++ [v])) rowsT' → SlC 2 oa' oe' (outCells os') rowsO' → outP os' = sayL (outP os) id v → SlC 1 ba' 1 (cellsU (b ++ [v])) rowsB' →
      Has σ' ((g, glO n al tr sh oa' os'.length oe' str) :: (s, strO id (wr + 1)) :: (w, winO pane str ta' (tn + 1) 1) :: (rowsT' ++ (rowsO' ++ (outRows os' ++ (rowsB' ++ M))))) →
      X [(0, some (.slice la l.length 1)), (1, some (.slice ua un ue)), (5, some (ptr g)), (7, some (ptr m)), (8, some (u32 1)), (10, some (u32 3)), (12, some (.slice xa xn xe)), (13, some (.slice ya yn ye)), (14, some (.slice ba' (bn + 1) 1)), (15, some (i64 (i + 1 : Nat)))] σ') :
    jn Tryz.prog hintsS (Tri Tryz.prog) 3 [true, true, true, true, true, true, true, true, false, true, false, false, true, false, false, true] [X] K
      [(0, some (.slice la l.length 1)), (1, some (.slice ua un ue)), (5, some (ptr g)), (7, some (ptr m)), (8, some (u32 1)), (10, some (u32 3)), (12, some (.slice xa xn xe)), (13, some (.slice ya yn ye)), (14, some (.slice ba bn be)), (15, some (i64 i)), (16, some (u32 id))] σ := by
  rw [s3j]
  have hil : i < l.length := (List.getElem?_eq_some_iff.1 hv).1
  obtain ⟨r, kk, rfl, hr⟩ := hla.resolve_left (by intro h0; rw [h0] at hv; simp at hv)
  refine req_mk (by omega) (req_mk (by omega) ?_)
  simp only [pSome_some, aadd_none, szP32, Int.toNat_natCast, Nat.mul_one, Nat.zero_add]
  refine req_mk trivial (ldm H (i := r) (k := kk) (cs := cellsU l) (by simp [hr]) (cU hv) (tI_mk ?_))
  refine pushC (new := [u32 v]) (X := (g, glO n al tr sh oa os.length oe cur) :: (s, strO id wr) :: (w, winO pane str ta tn te) :: (rowsT ++ (rowsO ++ (outRows os ++ M)))) hsb (H.sep (fun a => by simp only [cnt_app, cnt_cons, cnt_nil]; omega)) (by simp [hbn]) rfl (by omega) (by omega) fun ba' σ1 rowsB' hsb' H1 => ?_
  refine newAt_mk H1 fun ar σ2 H2 => ?_
  refine c16set (al := al) (es := es) (ec := ec) (w := w) (str := str) (id := id) (n := n) (tr := tr) (sh := sh) (oa := oa) (on := os.length) (oe := oe) (cur := cur) (pane := pane) (ta := ta) (tn := tn) (te := te) (M := (ar, .row .rw [u32 id]) :: (s, strO id wr) :: (w, winO pane str ta tn te) :: (rowsT ++ (rowsO ++ (outRows os ++ (rowsB' ++ M))))) hid (by simp [hal]) hf (List.mem_cons_of_mem _ (List.mem_cons_of_mem _ List.mem_cons_self)) List.mem_cons_self (H2.sep (fun a => by simp only [cnt_app, cnt_cons, cnt_nil, u32]; omega)) fun σ3 H3 => ?_
  refine req_mk (by omega) (req_mk (by omega) (req_mk trivial (ldm H3 (i := r) (k := kk) (cs := cellsU l) (by simp [hr]) (cU hv) (tI_mk ?_))))
  refine newAt_mk H3 fun ar2 σ4 H4 => ?_
  refine c16pw (al := al) (es := es) (ec := ec) (x := v) (win := id) (s := s) (w := w) (n := n) (tr := tr) (sh := sh) (pane := pane) (str := str) (wr := wr) (M := (ar2, .row .rw [u32 v]) :: (ar, .row .rw [u32 id]) :: (rowsB' ++ M)) (by simp [hal]) hs hf hid List.mem_cons_self hwr hst htn htb hso rfl hob hos (H4.sep (fun a => by simp only [cnt_app, cnt_cons, cnt_nil, u32]; omega)) fun oa' on' oe' rowsO' os' ta' rowsT' σ5 h1 h2 h3 h4 H5 => ?_
  rw [wrap1 (by omega)]
  subst h3
  exact hK oa' oe' rowsO' os' ta' rowsT' ba' rowsB' σ5 h1 h2 h4 (by simpa [cellsU] using hsb') (H5.sep fun a => by simp only [cnt_app, cnt_cons, cnt_nil]; omega)
end
end Go.AI
end
section
set_option linter.unusedSimpArgs false
set_option linter.unusedVariables false
set_option maxRecDepth 100000
/- Copies of texts: of a window, of what was told; no condition but those that each names. -/
namespace Go.AI
open Go.Proofs
section
variable {σ : AS} {K : Value → AS → Prop} {L M : List (Nat × AObj)}
theorem c45row {j : Nat} {T : List Int} {kk : RK} (hj : (j, AObj.row kk (cellsU T)) ∈ L) (hT : T.length ≤ 1000) (H : Has σ L)
    (hK : ∀ j' σ', Has σ' ((j', .row .rw (cellsU T)) :: L) → K (.slice (some ⟨j', 0, none⟩) T.length 1) σ') : Tri Tryz.prog 45 [.slice (some ⟨j, 0, none⟩) T.length 1] σ K := tri_in (by
  rw [s45]
  simp only [Option.isNone_some, bm_false]
  refine newAt_mk H fun i0 σ1 H1 => ?_
  unfold srcCells
  refine req_mk rfl (ldsm H1 (List.mem_cons_of_mem _ hj) (by simp) ?_)
  have e0 : ((cellsU T).drop 0).take (T.length * 1) = cellsU T := by rw [List.drop_zero, Nat.mul_one]; exact List.take_of_length_le (by simp)
  rw [e0]
  refine append_mk (n := 0) (new := cellsU T) (m := T.length) H1 0 rfl rfl (by omega) (by simp) fun j' σ2 H2 => ?_
  have := hK j' σ2 (by simpa using H2)
  simpa using this)
theorem c45 {a : Option Addr} {e : Nat} {T : List Int} {rows : List (Nat × AObj)} (hs : SlC 1 a e (cellsU T) rows) (hr : ∀ p ∈ rows, p ∈ L) (hT : T.length ≤ 1000) (H : Has σ L)
    (hK : ∀ a' e' rows' σ', SlC 1 a' e' (cellsU T) rows' → nilOr a' e' 1 = true → Has σ' (rows' ++ L) → K (.slice a' T.length e') σ') : Tri Tryz.prog 45 [.slice a T.length 1] σ K := by
  rcases hs with ⟨rfl, h0, rfl⟩ | ⟨j, rfl, he, rfl⟩
  · have hT0 : T = [] := by simpa using h0
    subst hT0
    refine tri_in ?_
    rw [s45]
    simp only [Option.isNone_none, bm_true]
    exact hK none 0 [] σ (SlC.nil 0) rfl H
  · exact c45row (hr _ (List.mem_singleton.2 rfl)) hT H fun j' σ' H' => hK _ 1 [(j', .row .rw (cellsU T))] σ' SlC.row rfl H'
theorem outCells_at {os : Outs} {i : Nat} {p : Int × Nat × List Int} (h : os[i]? = some p) : ((outCells os).drop (i * 2)).take 2 = [u32 p.1, .slice (some ⟨p.2.1, 0, none⟩) p.2.2.length 1] := by
  induction os generalizing i with
  | nil => simp at h
  | cons q os ih =>
    cases i with
    | zero =>
      simp only [List.getElem?_cons_zero, Option.some.injEq] at h
      subst h
      simp [outCells]
    | succ i =>
      simp only [List.getElem?_cons_succ] at h
      have := ih h
      rw [← this]
      unfold outCells
      rw [List.flatMap_cons, show (i + 1) * 2 = 2 + i * 2 by omega, ← List.drop_drop]
      rfl
theorem outCells_0 {os : Outs} {i : Nat} {p : Int × Nat × List Int} (h : os[i]? = some p) : (outCells os)[i * 2]? = some (u32 p.1) := by
  have := congrArg (·[0]?) (outCells_at h)
  simpa using this
theorem outCells_1 {os : Outs} {i : Nat} {p : Int × Nat × List Int} (h : os[i]? = some p) : (outCells os)[i * 2 + 1]? = some (.slice (some ⟨p.2.1, 0, none⟩) p.2.2.length 1) := by
  have := congrArg (·[1]?) (outCells_at h)
  simpa using this
theorem outRows_mem {os : Outs} {i : Nat} {p : Int × Nat × List Int} (h : os[i]? = some p) : (p.2.1, AObj.row .rw (cellsU p.2.2)) ∈ outRows os := by
  unfold outRows
  exact List.mem_map.2 ⟨p, List.mem_of_getElem? h, rfl⟩
/-- What was told, copied. -/
theorem c17 {g : Nat} {n cur : Int} {al tr sh : Nat} {oa : Option Addr} {on oe : Nat} {os : Outs} {rowsO : List (Nat × AObj)} (hso : SlC 2 oa oe (outCells os) rowsO) (hon : on = os.length) (hb : os.length ≤ 1000) (hos : ∀ p ∈ os, p.2.2.length ≤ 1000)
    (hg : (g, glO n al tr sh oa on oe cur) ∈ L) (hr : ∀ p ∈ rowsO, p ∈ L) (hr2 : ∀ p ∈ outRows os, p ∈ L) (H : Has σ L)
    (hK : ∀ a' e' os2 rows' σ', SlC 2 a' e' (outCells os2) rows' → outP os2 = outP os → Has σ' (rows' ++ (outRows os2 ++ L)) → K (.slice a' os2.length e') σ') : Tri Tryz.prog 17 [ptr g] σ K := tri_in (by
  rw [s17]
  refine ldm H hg rfl (tL_ok hso.no ?_)
  refine aloop (fun (i : Nat) rg σ' => i ≤ os.length ∧ ∃ la le os2 rows', SlC 2 la le (outCells os2) rows' ∧ outP os2 = (outP os).take i ∧ Has σ' (rows' ++ (outRows os2 ++ L)) ∧
    rg = [(3, some (.slice la os2.length le)), (11, some (.slice oa on 2)), (12, some (i64 on)), (13, some (i64 i))]) (fun i => os.length - i) ?_ (a := 0) ⟨Nat.zero_le _, none, 0, [], [], SlC.nil 0, rfl, H, rfl⟩
  rintro i rg σ1 X hX ⟨hi, la, le, os2, rows', hs, hp, H1, rfl⟩
  have hlen2 : os2.length = i := by
    have := congrArg List.length hp
    simp [outP] at this
    omega
  rw [s17l]
  refine bmd_mk (fun h => ?_) (fun h => ?_)
  · refine req_mk (by omega) (req_mk h ?_)
    have hi2 : i < os.length := by omega
    obtain ⟨q, rfl, rfl, rfl⟩ := hso.at (p := 0) (by rw [outCells_len]; omega)
    obtain ⟨p, hpi⟩ : ∃ p, os[i]? = some p := ⟨os[i], List.getElem?_eq_getElem hi2⟩
    simp only [pSome_some, aadd_none, szP38, Int.toNat_natCast, Nat.zero_add]
    refine req_mk trivial ?_
    refine ldsm H1 (i := q) (k := .rw) (cs := outCells os) (by simp [hr]) (by rw [outCells_len]; omega) ?_
    rw [outCells_at hpi]
    simp only [tCons_cons, tI_int]
    refine tL_mk ?_
    simp only [tNil_nil]
    refine newAt_mk H1 fun i0 σ2 H2 => ?_
    refine puts0 H2 rfl (by simp) fun σ3 H3 => ?_
    have H4 : Has σ3 ((i0, .row .plain [u32 p.1, .slice (some ⟨p.2.1, 0, none⟩) p.2.2.length 1]) :: (rows' ++ (outRows os2 ++ L))) := by simpa using H3
    refine ldm H4 List.mem_cons_self rfl (tI_mk ?_)
    refine ldm H4 List.mem_cons_self rfl (tL_mk ?_)
    have hrow : (p.2.1, AObj.row .rw (cellsU p.2.2)) ∈ L := hr2 _ (outRows_mem hpi)
    refine c45row (kk := .rw) (by simp [hrow]) (hos p (List.mem_of_getElem? hpi)) H4 fun j' σ4 H5 => ?_
    refine tL_mk ?_
    refine ldm H5 (List.mem_cons_of_mem _ List.mem_cons_self) rfl (tI_mk ⟨rfl, ?_⟩)
    refine pushC (new := [u32 p.1, .slice (some ⟨j', 0, none⟩) p.2.2.length 1]) (X := (j', .row .rw (cellsU p.2.2)) :: (outRows os2 ++ L)) hs (H5.sep (fun a => by simp only [cnt_app, cnt_cons, cnt_nil]; omega)) (by rw [outCells_len]; omega) rfl (by omega) (by omega) fun la' σ5 rows2 hs2 H6 => ?_
    rw [wrap1 (by omega)]
    refine hX (i + 1) _ _ (by omega) ⟨by omega, la', 2, os2 ++ [(p.1, j', p.2.2)], rows2, ?_, ?_, ?_, ?_⟩
    · rw [outCells_app]; simpa [outCells] using hs2
    · unfold outP at hp ⊢
      rw [List.map_append, hp, List.take_add_one, List.getElem?_map, hpi]
      rfl
    · refine H6.sep fun a => ?_
      rw [outRows_app]
      simp only [outRows, List.map_cons, List.map_nil, cnt_app, cnt_cons, cnt_nil]; omega
    · simp
  · have e : i = os.length := by omega
    refine hK la le os2 rows' σ1 hs ?_ H1
    rw [hp]
    exact List.take_of_length_le (by unfold outP; simp; omega))
/-- A window's text, copied. -/
theorem c19 {g : Nat} {n cur id pane str : Int} {al tr sh w i : Nat} {es : List MapEntry} {ec : Nat} {oa ta : Option Addr} {on oe te : Nat} {T : List Int} {rowsT : List (Nat × AObj)} (hg : (g, glO n al tr sh oa on oe cur) ∈ L) (hal : (al, AObj.map es ec) ∈ L) (hf : Instr.findNow (.int .u32) (u32 id) es 0 = some (some (i, ptr w)))
    (hw : (w, winO pane str ta T.length te) ∈ L) (hst : SlC 1 ta te (cellsU T) rowsT) (hr : ∀ p ∈ rowsT, p ∈ L) (hT : T.length ≤ 1000) (H : Has σ L)
    (hK : ∀ a' e' rows' σ', SlC 1 a' e' (cellsU T) rows' → Has σ' (rows' ++ L) → K (.slice a' T.length e') σ') : Tri Tryz.prog 19 [ptr g, u32 id] σ K := tri_in (by
  rw [s19]
  refine cof hg hal (ob := w) hw hf H ?_
  simp only [tP_ptr, ptrEq_some, bm_false]
  refine ldm H hg rfl ?_
  simp only [tM_map]
  rw [mget_eq (H.g hal), hf]
  simp only [pSome_some, Option.map, Option.getD, tP_ptr]
  refine ldm H hw rfl (tL_ok hst.no ?_)
  refine c45 hst hr hT H fun a' e' rows' σ1 hs hn H1 => ?_
  refine tL_ok hn ?_
  exact hK a' 1 rows' σ1 hs.e1 H1)
end
end Go.AI
end
section
set_option linter.unusedSimpArgs false
set_option linter.unusedVariables false
set_option maxRecDepth 1000000
/- Two windows of text opened; no condition but those that each names. -/
namespace Go.AI
open Go.Proofs
theorem nopen1 : ∀ (B : List Int) (K : Value → AS → Prop), callN Tryz.prog hints glE 80 16 [ptr 6, .iface 29 (ptr 7), u32 35, .slice (some ⟨9, 0, none⟩) 5 1]
    (can [.map [] 0, .row .plain [i64 20, i64 10, i64 0, i64 0, .map (some 0)], .map [] 0, .map [] 0, .row .plain [i64 1048576, i64 0, .map (some 2), .map (some 3)], .map [] 0, glO 0 5 1 4 none 0 0 0, spO 8 none 0 0, .row .rw (cells8 B), .row .rw [u32 0, u32 0, u32 0, u32 3, u32 0]]) K =
    K (.tuple ⟨[u32 1, i64 0]⟩) (can ([.map [.mk (i64 1) (ptr 11) 0] 1, .row .plain [i64 20, i64 10, i64 1, i64 1, .map (some 0)], .map [] 0, .map [] 0, .row .plain [i64 1048576, i64 0, .map (some 2), .map (some 3)], .map [.mk (u32 1) (ptr 12) 0, .mk (u32 2) (ptr 13) 1] 2, glO 2 5 1 4 none 0 0 0, spO 8 none 0 0, .row .rw (cells8 B), .row .rw [u32 0, u32 0, u32 0, u32 3, u32 0]] ++
      [.row .plain [ptr 6, .iface 29 (ptr 7), .slice (some ⟨9, 0, none⟩) 5 1], .row .plain [i64 2, i64 0, i64 0, i64 0, i64 0, u32 0, i64 0], winO 1 2 none 0 0, strO 1 0])) := by
  intros
  kernel_rfl
theorem nopen2 : ∀ (B : List Int) (K : Value → AS → Prop), callN Tryz.prog hints glE 80 16 [ptr 6, .iface 29 (ptr 7), u32 35, .slice (some ⟨9, 0, none⟩) 5 1]
    (can [.map [.mk (i64 1) (ptr 10) 0] 1, .row .plain [i64 20, i64 10, i64 1, i64 1, .map (some 0)], .map [] 0, .map [] 0, .row .plain [i64 1048576, i64 0, .map (some 2), .map (some 3)], .map [.mk (u32 1) (ptr 11) 0, .mk (u32 2) (ptr 12) 1] 2, glO 2 5 1 4 none 0 0 0, spO 8 none 0 0, .row .rw (cells8 B), .row .rw [u32 1, u32 35, u32 50, u32 3, u32 0],
      .row .plain [i64 2, i64 0, i64 0, i64 0, i64 0, u32 0, i64 0], winO 1 2 none 0 0, strO 1 0]) K =
    K (.tuple ⟨[u32 3, i64 0]⟩) (can ([.map [.mk (i64 1) (ptr 10) 0, .mk (i64 2) (ptr 14) 1, .mk (i64 3) (ptr 15) 2] 3, .row .plain [i64 20, i64 10, i64 3, i64 3, .map (some 0)], .map [] 0, .map [] 0, .row .plain [i64 1048576, i64 0, .map (some 2), .map (some 3)],
      .map [.mk (u32 1) (ptr 11) 0, .mk (u32 2) (ptr 12) 1, .mk (u32 3) (ptr 16) 2, .mk (u32 4) (ptr 17) 3, .mk (u32 5) (ptr 18) 4, .mk (u32 6) (ptr 19) 5] 6, glO 6 5 1 4 none 0 0 0, spO 8 none 0 0, .row .rw (cells8 B), .row .rw [u32 1, u32 35, u32 50, u32 3, u32 0],
      .row .plain [i64 2, i64 3, i64 0, i64 0, i64 0, u32 0, i64 0], winO 1 2 none 0 0, strO 1 0] ++
      [.row .plain [ptr 6, .iface 29 (ptr 7), .slice (some ⟨9, 0, none⟩) 5 1], .row .plain [i64 2, i64 3, i64 0, i64 0, i64 0, u32 0, i64 0], .row .plain [i64 4, i64 0, i64 1, i64 2, i64 35, u32 50, i64 2], winO 2 4 none 0 0, strO 3 0,
       .row .plain [i64 1, u32 0, i64 3, u32 1, u32 6, .slice none 0 0, .map none, u32 0, u32 0, i64 0, u32 0, u32 0, u32 0, i64 0, u32 0, i64 0, .bool false, u32 0, .string (ByteArray.mk #[])], strO 5 0])) := by
  intros
  kernel_rfl
section
variable {σ : AS} {K : Value → AS → Prop} {L M : List (Nat × AObj)}
theorem ren8 (π : Nat → Nat) : renV π ∘ u8 = u8 := by funext a; simp [renV]
theorem c16o1 {tm tr fm sm sh al g m bj ar : Nat} {B : List Int}
    (H : Has σ ((ar, .row .rw [u32 0, u32 0, u32 0, u32 3, u32 0]) :: (m, spO bj none 0 0) :: (bj, .row .rw (cells8 B)) :: ([(tm, .map [] 0), (tr, .row .plain [i64 20, i64 10, i64 0, i64 0, .map (some tm)]), (fm, .map [] 0), (sm, .map [] 0), (sh, .row .plain [i64 1048576, i64 0, .map (some fm), .map (some sm)]), (al, .map [] 0), (g, glO 0 al tr sh none 0 0 0)] ++ M)))
    (hK : ∀ nd wa sa σ', Has σ' ([(tm, .map [.mk (i64 1) (ptr nd) 0] 1), (tr, .row .plain [i64 20, i64 10, i64 1, i64 1, .map (some tm)]), (fm, .map [] 0), (sm, .map [] 0), (sh, .row .plain [i64 1048576, i64 0, .map (some fm), .map (some sm)]), (al, .map [.mk (u32 1) (ptr wa) 0, .mk (u32 2) (ptr sa) 1] 2), (g, glO 2 al tr sh none 0 0 0), (m, spO bj none 0 0), (bj, .row .rw (cells8 B)),
      (nd, .row .plain [i64 2, i64 0, i64 0, i64 0, i64 0, u32 0, i64 0]), (wa, winO 1 2 none 0 0), (sa, strO 1 0)] ++ M) → K (.tuple ⟨[u32 1, i64 0]⟩) σ') :
    Tri Tryz.prog 16 [ptr g, .iface 29 (ptr m), u32 35, .slice (some ⟨ar, 0, none⟩) 5 1] σ K := by
  refine tri_gh2 (Eq.tri (nopen1 B _) ⟨rfl, rfl⟩) (ids := [tm, tr, fm, sm, sh, al, g, m, bj, ar]) (zs := [.map [] 0, .row .plain [i64 20, i64 10, i64 0, i64 0, .map (some tm)], .map [] 0, .map [] 0, .row .plain [i64 1048576, i64 0, .map (some fm), .map (some sm)], .map [] 0, glO 0 al tr sh none 0 0 0, spO bj none 0 0, .row .rw (cells8 B), .row .rw [u32 0, u32 0, u32 0, u32 3, u32 0]]) (Fr := M) rfl rfl rfl rfl ?_ ?_ ?_ fun q σ' H' => ?_
  · exact H.sep fun a => by simp only [pairs, cnt_app, cnt_cons, cnt_nil]; omega
  · simp [mixG, AObj.live, renO, renV, renE, pf, glO, spO, ren8]
  · simp [renVs, renV, pf]
  · simp [mixG, AObj.live, AObj.own, RK.own, extraP, pairs, renO, renV, renE, pf, glO, spO, winO, strO, ren8] at H'
    have := hK (q + 11) (q + 12) (q + 13) σ' (H'.sep fun a => by simp only [cnt_app, cnt_cons, cnt_nil, glO, spO, winO, strO, i64, u32, u8, ptr, cells8]; omega)
    simpa [renVs, renV, pf] using this
/-- The numbers that are known once two windows are open. -/
def es6 (wa sa wb sb wp sp : Nat) : List MapEntry := [.mk (u32 1) (ptr wa) 0, .mk (u32 2) (ptr sa) 1, .mk (u32 3) (ptr wb) 2, .mk (u32 4) (ptr sb) 3, .mk (u32 5) (ptr wp) 4, .mk (u32 6) (ptr sp) 5]
theorem c16o2 {tm tr fm sm sh al g m bj ar nd wa sa : Nat} {B : List Int}
    (H : Has σ ((ar, .row .rw [u32 1, u32 35, u32 50, u32 3, u32 0]) :: ([(tm, .map [.mk (i64 1) (ptr nd) 0] 1), (tr, .row .plain [i64 20, i64 10, i64 1, i64 1, .map (some tm)]), (fm, .map [] 0), (sm, .map [] 0), (sh, .row .plain [i64 1048576, i64 0, .map (some fm), .map (some sm)]), (al, .map [.mk (u32 1) (ptr wa) 0, .mk (u32 2) (ptr sa) 1] 2), (g, glO 2 al tr sh none 0 0 0), (m, spO bj none 0 0), (bj, .row .rw (cells8 B)),
      (nd, .row .plain [i64 2, i64 0, i64 0, i64 0, i64 0, u32 0, i64 0]), (wa, winO 1 2 none 0 0), (sa, strO 1 0)] ++ M)))
    (hK : ∀ wb sb wp sp σ', Has σ' ([(al, .map (es6 wa sa wb sb wp sp) 6), (g, glO 6 al tr sh none 0 0 0), (wa, winO 1 2 none 0 0), (sa, strO 1 0), (wb, winO 2 4 none 0 0), (sb, strO 3 0)] ++ M) → K (.tuple ⟨[u32 3, i64 0]⟩) σ') :
    Tri Tryz.prog 16 [ptr g, .iface 29 (ptr m), u32 35, .slice (some ⟨ar, 0, none⟩) 5 1] σ K := by
  refine tri_gh2 (Eq.tri (nopen2 B _) ⟨rfl, rfl⟩) (ids := [tm, tr, fm, sm, sh, al, g, m, bj, ar, nd, wa, sa]) (zs := [.map [.mk (i64 1) (ptr nd) 0] 1, .row .plain [i64 20, i64 10, i64 1, i64 1, .map (some tm)], .map [] 0, .map [] 0, .row .plain [i64 1048576, i64 0, .map (some fm), .map (some sm)], .map [.mk (u32 1) (ptr wa) 0, .mk (u32 2) (ptr sa) 1] 2, glO 2 al tr sh none 0 0 0, spO bj none 0 0, .row .rw (cells8 B), .row .rw [u32 1, u32 35, u32 50, u32 3, u32 0],
    .row .plain [i64 2, i64 0, i64 0, i64 0, i64 0, u32 0, i64 0], winO 1 2 none 0 0, strO 1 0]) (Fr := M) rfl rfl rfl rfl ?_ ?_ ?_ fun q σ' H' => ?_
  · exact H.sep fun a => by simp only [pairs, cnt_app, cnt_cons, cnt_nil]; omega
  · simp [mixG, AObj.live, renO, renV, renE, pf, glO, spO, winO, strO, ren8]
  · simp [renVs, renV, pf]
  · simp [mixG, AObj.live, AObj.own, RK.own, extraP, pairs, renO, renV, renE, pf, glO, spO, winO, strO, ren8] at H'
    have := hK (q + 16) (q + 17) (q + 18) (q + 19) σ' (H'.sep fun a => by simp only [cnt_app, cnt_cons, cnt_nil, es6, glO, spO, winO, strO, i64, u32, u8, ptr, cells8]; omega)
    simpa [renVs, renV, pf] using this
end
end Go.AI
end
section
set_option linter.unusedSimpArgs false
set_option linter.unusedVariables false
set_option maxRecDepth 100000
/- A round of the law of two windows; no condition but those that each names. -/
namespace Go.AI
open Go.Proofs
structure PrD where
  xs : List Int
  ys : List Int
  xa : Option Addr
  ya : Option Addr
  ba : Option Addr
  ta : Option Addr
  ua : Option Addr
  oa : Option Addr
  xe : Nat
  ye : Nat
  be : Nat
  te : Nat
  ue : Nat
  oe : Nat
  rX : List (Nat × AObj)
  rY : List (Nat × AObj)
  rB : List (Nat × AObj)
  rT : List (Nat × AObj)
  rU : List (Nat × AObj)
  rO : List (Nat × AObj)
  os : Outs
  cur : Int
def PrI (D : PrD) (b : List Int) (g al tr sh wa sa wb sb : Nat) (M : List (Nat × AObj)) (σ : AS) : Prop :=
  SlC 1 D.xa D.xe (cellsU D.xs) D.rX ∧ SlC 1 D.ya D.ye (cellsU D.ys) D.rY ∧ SlC 1 D.ba D.be (cellsU b) D.rB ∧ SlC 1 D.ta D.te (cellsU D.xs) D.rT ∧ SlC 1 D.ua D.ue (cellsU D.ys) D.rU ∧ SlC 2 D.oa D.oe (outCells D.os) D.rO ∧
    OkP (outP D.os) b ∧ D.xs.length + D.ys.length = b.length ∧
    Has σ ((g, glO 6 al tr sh D.oa D.os.length D.oe D.cur) :: (sa, strO 1 D.xs.length) :: (wa, winO 1 2 D.ta D.xs.length D.te) :: (sb, strO 3 D.ys.length) :: (wb, winO 2 4 D.ua D.ys.length D.ue) :: (D.rX ++ (D.rY ++ (D.rB ++ (D.rT ++ (D.rU ++ (D.rO ++ (outRows D.os ++ M))))))))
def prR (D : PrD) (la ua : Option Addr) (ln un : Nat) (g m : Nat) (bn i : Nat) : Regs :=
  [(0, some (.slice la ln 1)), (1, some (.slice ua un 1)), (5, some (ptr g)), (7, some (ptr m)), (8, some (u32 1)), (10, some (u32 3)), (12, some (.slice D.xa D.xs.length D.xe)), (13, some (.slice D.ya D.ys.length D.ye)), (14, some (.slice D.ba bn D.be)), (15, some (i64 i))]
def InpB (a : Option Addr) (l : List Bool) (X : List (Nat × AObj)) : Prop := l = [] ∨ ∃ r k, a = some ⟨r, 0, none⟩ ∧ (r, AObj.row k (l.map Value.bool)) ∈ X
theorem szP4 : szOf Tryz.prog 4 = 1 := by kernel_rfl
theorem outP_len (os : Outs) : (outP os).length = os.length := by unfold outP; simp
theorem ok_bounds {os : Outs} {b : List Int} (h : OkP (outP os) b) : os.length ≤ b.length ∧ ∀ p ∈ os, p.2.2.length ≤ b.length := by
  have := okP_len (fun p hp => (h.1 p hp).1) h.2.2
  rw [outP_len] at this
  refine ⟨this.1, fun p hp => this.2 (p.1, p.2.2) ?_⟩
  unfold outP
  exact List.mem_map.2 ⟨p, hp, rfl⟩
section
variable {σ : AS} {K : Value → AS → Prop} {M : List (Nat × AObj)} {X : Regs → AS → Prop}
theorem pr_round {D : PrD} {la ua : Option Addr} {l : List Int} {t : List Bool} {g m al tr sh wa sa wb sb wp sp i : Nat} {v : Int} (hal : (al, AObj.map (es6 wa sa wb sb wp sp) 6) ∈ M) (hla : Inp u32 la l M) (hua : InpB ua t M) (hv : l[i]? = some v) (hl : l.length ≤ 400)
    (H : PrI D (l.take i) g al tr sh wa sa wb sb M σ)
    (hX : ∀ D' σ', PrI D' (l.take (i + 1)) g al tr sh wa sa wb sb M σ' → X (prR D' la ua l.length t.length g m (i + 1) (i + 1)) σ') :
    fl Tryz.prog hintsS (Tri Tryz.prog) 3 [true, true, true, true, true, true, true, true, false, true, false] [] K X (prR D la ua l.length t.length g m i i) σ := by
  obtain ⟨hsX, hsY, hsB, hsT, hsU, hsO, hok, hlen, H⟩ := H
  have hil : i < l.length := (List.getElem?_eq_some_iff.1 hv).1
  have hti : (l.take i).length = i := by simp; omega
  have htake : l.take (i + 1) = l.take i ++ [v] := by rw [List.take_add_one, hv]; rfl
  have hbd := ok_bounds hok
  rw [hti] at hbd hlen
  have hal2 := hla
  obtain ⟨r, kk, rfl, hr⟩ := hla.resolve_left (by intro h0; rw [h0] at hv; simp at hv)
  -- the first window
  have goA : ∀ xa' rX' σ1, SlC 1 xa' 1 (cellsU (D.xs ++ [v])) rX' → Has σ1 (rX' ++ ((g, glO 6 al tr sh D.oa D.os.length D.oe D.cur) :: (sa, strO 1 D.xs.length) :: (wa, winO 1 2 D.ta D.xs.length D.te) :: (sb, strO 3 D.ys.length) :: (wb, winO 2 4 D.ua D.ys.length D.ue) :: (D.rY ++ (D.rB ++ (D.rT ++ (D.rU ++ (D.rO ++ (outRows D.os ++ M)))))))) →
      jn Tryz.prog hintsS (Tri Tryz.prog) 3 [true, true, true, true, true, true, true, true, false, true, false, false, true, false, false, true] [X] K
        [(0, some (.slice (some ⟨r, 0, none⟩) l.length 1)), (1, some (.slice ua t.length 1)), (5, some (ptr g)), (7, some (ptr m)), (8, some (u32 1)), (10, some (u32 3)), (12, some (.slice xa' (D.xs.length + 1) 1)), (13, some (.slice D.ya D.ys.length D.ye)), (14, some (.slice D.ba i D.be)), (15, some (i64 i)), (16, some (u32 1))] σ1 := by
    intro xa' rX' σ1 hsX' H1
    refine pr_tail (al := al) (es := es6 wa sa wb sb wp sp) (ec := 6) (s := sa) (w := wa) (str := 2) (id := 1) (pane := 1) (v := v) (T := D.xs) (wr := D.xs.length) (b := l.take i) (tr := tr) (sh := sh) (n := 6) (cur := D.cur)
      (M := (sb, strO 3 D.ys.length) :: (wb, winO 2 4 D.ua D.ys.length D.ue) :: (rX' ++ (D.rY ++ (D.rU ++ M)))) (by decide) (by simp [hal]) rfl rfl (hal2.mono fun p hp => by simp [hp]) hv (by omega) hsT rfl (by omega) hsO (by omega) (fun p hp => by have := hbd.2 p hp; omega) hsB hti.symm (by omega) (by omega)
      (H1.sep fun a => by simp only [cnt_app, cnt_cons, cnt_nil]; omega) fun oa' oe' rO' os' ta' rT' ba' rB' σ2 h1 h2 h3 h4 H2 => ?_
    have := hX { D with xs := D.xs ++ [v], xa := xa', xe := 1, rX := rX', oa := oa', oe := oe', rO := rO', os := os', ta := ta', te := 1, rT := rT', ba := ba', be := 1, rB := rB', cur := 2 } σ2
      ⟨hsX', hsY, by rw [htake]; exact h4, h1, hsU, h2, by rw [htake]; show OkP (outP os') _; rw [h3]; exact okP_say hok (.inl rfl), by rw [htake]; simp; omega, by
        simp only [List.length_append, List.length_singleton]
        have ec : ((D.xs.length + 1 : Nat) : Int) = (D.xs.length : Int) + 1 := by omega
        rw [ec]
        exact H2.sep fun a => by simp only [cnt_app, cnt_cons, cnt_nil]; omega⟩
    simpa [prR] using this
  have goB : ∀ ya' rY' σ1, SlC 1 ya' 1 (cellsU (D.ys ++ [v])) rY' → Has σ1 (rY' ++ ((g, glO 6 al tr sh D.oa D.os.length D.oe D.cur) :: (sa, strO 1 D.xs.length) :: (wa, winO 1 2 D.ta D.xs.length D.te) :: (sb, strO 3 D.ys.length) :: (wb, winO 2 4 D.ua D.ys.length D.ue) :: (D.rX ++ (D.rB ++ (D.rT ++ (D.rU ++ (D.rO ++ (outRows D.os ++ M)))))))) →
      jn Tryz.prog hintsS (Tri Tryz.prog) 3 [true, true, true, true, true, true, true, true, false, true, false, false, true, false, false, true] [X] K
        [(0, some (.slice (some ⟨r, 0, none⟩) l.length 1)), (1, some (.slice ua t.length 1)), (5, some (ptr g)), (7, some (ptr m)), (8, some (u32 1)), (10, some (u32 3)), (12, some (.slice D.xa D.xs.length D.xe)), (13, some (.slice ya' (D.ys.length + 1) 1)), (14, some (.slice D.ba i D.be)), (15, some (i64 i)), (16, some (u32 3))] σ1 := by
    intro ya' rY' σ1 hsY' H1
    refine pr_tail (al := al) (es := es6 wa sa wb sb wp sp) (ec := 6) (s := sb) (w := wb) (str := 4) (id := 3) (pane := 2) (v := v) (T := D.ys) (wr := D.ys.length) (b := l.take i) (tr := tr) (sh := sh) (n := 6) (cur := D.cur)
      (M := (sa, strO 1 D.xs.length) :: (wa, winO 1 2 D.ta D.xs.length D.te) :: (rY' ++ (D.rX ++ (D.rT ++ M)))) (by decide) (by simp [hal]) rfl rfl (hal2.mono fun p hp => by simp [hp]) hv (by omega) hsU rfl (by omega) hsO (by omega) (fun p hp => by have := hbd.2 p hp; omega) hsB hti.symm (by omega) (by omega)
      (H1.sep fun a => by simp only [cnt_app, cnt_cons, cnt_nil]; omega) fun oa' oe' rO' os' ta' rT' ba' rB' σ2 h1 h2 h3 h4 H2 => ?_
    have := hX { D with ys := D.ys ++ [v], ya := ya', ye := 1, rY := rY', oa := oa', oe := oe', rO := rO', os := os', ua := ta', ue := 1, rU := rT', ba := ba', be := 1, rB := rB', cur := 4 } σ2
      ⟨hsX, hsY', by rw [htake]; exact h4, hsT, h1, h2, by rw [htake]; show OkP (outP os') _; rw [h3]; exact okP_say hok (.inr rfl), by rw [htake]; simp; omega, by
        simp only [List.length_append, List.length_singleton]
        have ec : ((D.ys.length + 1 : Nat) : Int) = (D.ys.length : Int) + 1 := by omega
        rw [ec]
        exact H2.sep fun a => by simp only [cnt_app, cnt_cons, cnt_nil]; omega⟩
    simpa [prR] using this
  simp only [s3j, pSome_some, aadd_none, szP32, Int.toNat_natCast, Nat.mul_one, Nat.zero_add] at goA goB
  unfold prR
  rw [s3l]
  simp only [pSome_some, aadd_none, szP32, szP4, Int.toNat_natCast, Nat.mul_one, Nat.zero_add]
  have hin : ∀ {p : Nat × AObj}, p ∈ M → p ∈ ((g, glO 6 al tr sh D.oa D.os.length D.oe D.cur) :: (sa, strO 1 D.xs.length) :: (wa, winO 1 2 D.ta D.xs.length D.te) :: (sb, strO 3 D.ys.length) :: (wb, winO 2 4 D.ua D.ys.length D.ue) :: (D.rX ++ (D.rY ++ (D.rB ++ (D.rT ++ (D.rU ++ (D.rO ++ (outRows D.os ++ M)))))))) := fun h => by simp [h]
  refine bmd_mk (fun _ => ?_) (fun h => by omega)
  refine bmd_mk (fun h2 => ?_) (fun _ => ?_)
  · have hit : i < t.length := by omega
    obtain ⟨c, hc⟩ : ∃ c, t[i]? = some c := ⟨t[i], List.getElem?_eq_getElem hit⟩
    obtain ⟨r2, kk2, rfl, hr2⟩ := hua.resolve_left (by intro h0; rw [h0] at hc; simp at hc)
    refine req_mk (by omega) (req_mk h2 ?_)
    simp only [pSome_some, aadd_none, Nat.zero_add]
    refine req_mk trivial (ldm H (hin hr2) (by simp [hc]; rfl) ?_)
    simp only [tB_bool]
    refine bm_mk (fun _ => ?_) (fun _ => ?_)
    · refine req_mk (by omega) (req_mk (by omega) (req_mk trivial (ldm H (hin hr) (cU hv) (tI_mk ?_))))
      refine pushC (new := [u32 v]) (X := (g, glO 6 al tr sh D.oa D.os.length D.oe D.cur) :: (sa, strO 1 D.xs.length) :: (wa, winO 1 2 D.ta D.xs.length D.te) :: (sb, strO 3 D.ys.length) :: (wb, winO 2 4 D.ua D.ys.length D.ue) :: (D.rX ++ (D.rB ++ (D.rT ++ (D.rU ++ (D.rO ++ (outRows D.os ++ M))))))) hsY (H.sep fun a => by simp only [cnt_app, cnt_cons, cnt_nil]; omega) (by simp) rfl (by omega) (by omega) fun ya' σ1 rY' hs' H1 => ?_
      exact goB ya' rY' σ1 (by simpa [cellsU] using hs') H1
    · refine req_mk (by omega) (req_mk (by omega) (req_mk trivial (ldm H (hin hr) (cU hv) (tI_mk ?_))))
      refine pushC (new := [u32 v]) (X := (g, glO 6 al tr sh D.oa D.os.length D.oe D.cur) :: (sa, strO 1 D.xs.length) :: (wa, winO 1 2 D.ta D.xs.length D.te) :: (sb, strO 3 D.ys.length) :: (wb, winO 2 4 D.ua D.ys.length D.ue) :: (D.rY ++ (D.rB ++ (D.rT ++ (D.rU ++ (D.rO ++ (outRows D.os ++ M))))))) hsX (H.sep fun a => by simp only [cnt_app, cnt_cons, cnt_nil]; omega) (by simp) rfl (by omega) (by omega) fun xa' σ1 rX' hs' H1 => ?_
      exact goA xa' rX' σ1 (by simpa [cellsU] using hs') H1
  · refine req_mk (by omega) (req_mk (by omega) (req_mk trivial (ldm H (hin hr) (cU hv) (tI_mk ?_))))
    refine pushC (new := [u32 v]) (X := (g, glO 6 al tr sh D.oa D.os.length D.oe D.cur) :: (sa, strO 1 D.xs.length) :: (wa, winO 1 2 D.ta D.xs.length D.te) :: (sb, strO 3 D.ys.length) :: (wb, winO 2 4 D.ua D.ys.length D.ue) :: (D.rY ++ (D.rB ++ (D.rT ++ (D.rU ++ (D.rO ++ (outRows D.os ++ M))))))) hsX (H.sep fun a => by simp only [cnt_app, cnt_cons, cnt_nil]; omega) (by simp) rfl (by omega) (by omega) fun xa' σ1 rX' hs' H1 => ?_
    exact goA xa' rX' σ1 (by simpa [cellsU] using hs') H1
end
end Go.AI
end
section
set_option linter.unusedSimpArgs false
set_option linter.unusedVariables false
set_option maxRecDepth 100000
/- The end of the law of two windows; no condition but those that each names. -/
namespace Go.AI
open Go.Proofs
section
variable {σ : AS} {K : Value → AS → Prop} {L M : List (Nat × AObj)}
theorem c18g {a a2 : Option Addr} {e e2 : Nat} {V : List Int} {rows rows2 : List (Nat × AObj)} (hs : SlC 1 a e (cellsU V) rows) (hr : ∀ p ∈ rows, p ∈ L) (hs2 : SlC 1 a2 e2 (cellsU V) rows2) (hr2 : ∀ p ∈ rows2, p ∈ L) (hV : V.length ≤ 4096) (H : Has σ L) (hK : K (.bool true) σ) :
    Tri Tryz.prog 18 [.slice a V.length e, .slice a2 V.length e2] σ K := tri_in (by
  rw [s18g]
  refine bne_mk (fun h => absurd rfl h) (fun _ => ?_)
  refine aloop (fun (i : Nat) rg σ' => i ≤ V.length ∧ σ' = σ ∧ rg = [(0, some (.slice a V.length e)), (1, some (.slice a2 V.length e2)), (5, some (i64 i))]) (fun i => V.length - i) ?_ (a := 0) ⟨Nat.zero_le _, rfl, rfl⟩
  rintro i rg σ1 X hX ⟨hi, rfl, rfl⟩
  rw [s18l]
  refine bmd_mk (fun h => ?_) (fun h => hK)
  have hi2 : i < V.length := by omega
  obtain ⟨v, hv⟩ : ∃ v, V[i]? = some v := ⟨V[i]'hi2, by simp⟩
  obtain ⟨q, rfl, rfl, rfl⟩ := hs.at (p := i) (by simpa using hi2)
  obtain ⟨q2, rfl, rfl, rfl⟩ := hs2.at (p := i) (by simpa using hi2)
  refine req_mk (by omega) (req_mk h ?_)
  simp only [pSome_some, aadd_none, szP32, Int.toNat_natCast, Nat.mul_one, Nat.zero_add]
  refine req_mk trivial (ldm H (hr _ (List.mem_singleton.2 rfl)) (cU hv) (tI_mk ?_))
  refine req_mk (by omega) (req_mk h (req_mk trivial (ldm H (hr2 _ (List.mem_singleton.2 rfl)) (cU hv) (tI_mk ?_))))
  refine bne_mk (fun h => absurd rfl h) (fun _ => ?_)
  rw [wrap1 (by omega)]
  exact hX (i + 1) _ _ (by omega) ⟨by omega, rfl, rfl⟩)
theorem pr_end {D : PrD} {l : List Int} {g m al tr sh wa sa wb sb wp sp : Nat} {a' : Option Addr} {e' : Nat} {os2 : Outs} {rS : List (Nat × AObj)} (hal : (al, AObj.map (es6 wa sa wb sb wp sp) 6) ∈ M) (hl : l.length ≤ 400)
    (H0 : PrI D l g al tr sh wa sa wb sb M σ) (hsS : SlC 2 a' e' (outCells os2) rS) (hp : outP os2 = outP D.os)
    (H : Has σ (rS ++ (outRows os2 ++ ((g, glO 6 al tr sh D.oa D.os.length D.oe D.cur) :: (sa, strO 1 D.xs.length) :: (wa, winO 1 2 D.ta D.xs.length D.te) :: (sb, strO 3 D.ys.length) :: (wb, winO 2 4 D.ua D.ys.length D.ue) :: (D.rX ++ (D.rY ++ (D.rB ++ (D.rT ++ (D.rU ++ (D.rO ++ (outRows D.os ++ M))))))))))) :
    ALoop (fl Tryz.prog hintsS (Tri Tryz.prog) 3 [true, true, true, true, true, true, true, true, true, true, true, false, true, false] [] RB)
      [(5, some (ptr g)), (7, some (ptr m)), (8, some (u32 1)), (10, some (u32 3)), (12, some (.slice D.xa D.xs.length D.xe)), (13, some (.slice D.ya D.ys.length D.ye)), (14, some (.slice D.ba l.length D.be)), (17, some (.slice a' os2.length 2)), (18, some (.slice none 0 0)), (19, some (i64 0))] σ := by
  obtain ⟨hsX, hsY, hsB, hsT, hsU, hsO, hok, hlen, _⟩ := H0
  have hok2 : OkP (outP os2) l := by rw [hp]; exact hok
  have hbd := ok_bounds hok2
  have hlen2 : os2.length = (outP os2).length := (outP_len os2).symm
  generalize hL2 : (rS ++ (outRows os2 ++ ((g, glO 6 al tr sh D.oa D.os.length D.oe D.cur) :: (sa, strO 1 D.xs.length) :: (wa, winO 1 2 D.ta D.xs.length D.te) :: (sb, strO 3 D.ys.length) :: (wb, winO 2 4 D.ua D.ys.length D.ue) :: (D.rX ++ (D.rY ++ (D.rB ++ (D.rT ++ (D.rU ++ (D.rO ++ (outRows D.os ++ M)))))))))) = L2 at H
  have hflat : ∀ i, i ≤ os2.length → (((outP os2).take i).flatMap (·.2)).length ≤ l.length := by
    intro i hi
    have h1 := hok2.2.2
    have h2 : (outP os2).flatMap (·.2) = ((outP os2).take i).flatMap (·.2) ++ ((outP os2).drop i).flatMap (·.2) := by rw [← List.flatMap_append, List.take_append_drop]
    rw [← h1, h2, List.length_append]
    omega
  refine aloop (fun (i : Nat) rg σ' => i ≤ os2.length ∧ ∃ aa ae rA, SlC 1 aa ae (cellsU (((outP os2).take i).flatMap (·.2))) rA ∧ Has σ' (rA ++ L2) ∧
    rg = [(5, some (ptr g)), (7, some (ptr m)), (8, some (u32 1)), (10, some (u32 3)), (12, some (.slice D.xa D.xs.length D.xe)), (13, some (.slice D.ya D.ys.length D.ye)), (14, some (.slice D.ba l.length D.be)), (17, some (.slice a' os2.length 2)), (18, some (.slice aa (((outP os2).take i).flatMap (·.2)).length ae)), (19, some (i64 i))]) (fun i => os2.length - i) ?_ (a := 0) ⟨Nat.zero_le _, none, 0, [], SlC.nil 0, H, rfl⟩
  rintro i rg σ1 Y hX ⟨hi, aa, ae, rA, hsA, H1, rfl⟩
  rw [s3l1]
  refine bmd_mk (fun h => ?_) (fun h => ?_)
  · have hi2 : i < os2.length := by omega
    obtain ⟨q, rfl, rfl, rfl⟩ := hsS.at (p := 0) (by rw [outCells_len]; omega)
    obtain ⟨p, hpi⟩ : ∃ p, os2[i]? = some p := ⟨os2[i], List.getElem?_eq_getElem hi2⟩
    have hpP : (outP os2)[i]? = some (p.1, p.2.2) := by unfold outP; rw [List.getElem?_map, hpi]; rfl
    have hpk := hok2.1 (p.1, p.2.2) (List.mem_of_getElem? hpP)
    have hq : ∀ {rA : List (Nat × AObj)}, (q, AObj.row .rw (outCells os2)) ∈ rA ++ L2 := by intro rA; rw [← hL2]; simp
    have hrow : ∀ {rA : List (Nat × AObj)}, (p.2.1, AObj.row .rw (cellsU p.2.2)) ∈ rA ++ L2 := by intro rA; rw [← hL2]; have := outRows_mem hpi; simp [this]
    have hpl := hbd.2 p (List.mem_of_getElem? hpi)
    simp only [pSome_some, aadd_none, add_none, szP38, szP32, Int.toNat_natCast, Nat.zero_add]
    refine req_mk (by omega) (req_mk h (req_mk trivial (ldm H1 hq (outCells_1 hpi) (tL_mk (chk_mk hsA.no ?_)))))
    unfold srcCells
    simp only
    refine req_mk trivial (ldsm H1 hrow (by simp) ?_)
    have e0 : ((cellsU p.2.2).drop 0).take (p.2.2.length * 1) = cellsU p.2.2 := by rw [List.drop_zero, Nat.mul_one]; exact List.take_of_length_le (by simp)
    rw [e0]
    have hfl := hflat i hi
    refine appC (new := cellsU p.2.2) (m := p.2.2.length) hsA H1 (by simp) (by simp) (by omega) (by omega) fun aa' σ2 rA' hsA' H2 => ?_
    have efl : ((outP os2).take (i + 1)).flatMap (·.2) = ((outP os2).take i).flatMap (·.2) ++ p.2.2 := by
      rw [List.take_add_one, hpP, List.flatMap_append]; simp
    have done : Y [(5, some (ptr g)), (7, some (ptr m)), (8, some (u32 1)), (10, some (u32 3)), (12, some (.slice D.xa D.xs.length D.xe)), (13, some (.slice D.ya D.ys.length D.ye)), (14, some (.slice D.ba l.length D.be)), (17, some (.slice (some ⟨q, 0, none⟩) os2.length 2)), (18, some (.slice aa' ((((outP os2).take i).flatMap (·.2)).length + p.2.2.length) 1)), (19, some (i64 (IntKind.wrap .i64 ((i : Int) + 1))))] σ2 := by
      rw [wrap1 (by omega)]
      refine hX (i + 1) _ _ (by omega) ⟨by omega, aa', 1, rA', ?_, H2, ?_⟩
      · rw [efl]; simpa [cellsU] using hsA'
      · rw [efl, List.length_append]
    refine req_mk (by omega) (req_mk h (req_mk trivial (ldm H2 hq (outCells_1 hpi) (tL_mk ?_))))
    have hne : p.2.2.length ≠ 0 := fun e => hpk.1 (List.length_eq_zero_iff.1 e)
    refine beq_mk (fun e => by simp only at e; omega) (fun _ => ?_)
    have fin : req (0 ≤ (i : Int)) (req ((i : Int) < (os2.length : Int)) (req True (ldc σ2 ⟨q, i * 2 + 0, none⟩ fun v23 => tI .u32 v23 fun n24 => bmatch (n24 != 1) (req (0 ≤ (i : Int)) (req ((i : Int) < (os2.length : Int)) (req True (ldc σ2 ⟨q, i * 2 + 0, none⟩ fun v26 => tI .u32 v26 fun n27 => bmatch (n27 != 3) (RB (.bool false) σ2)
        (Y [(5, some (ptr g)), (7, some (ptr m)), (8, some (u32 1)), (10, some (u32 3)), (12, some (.slice D.xa D.xs.length D.xe)), (13, some (.slice D.ya D.ys.length D.ye)), (14, some (.slice D.ba l.length D.be)), (17, some (.slice (some ⟨q, 0, none⟩) os2.length 2)), (18, some (.slice aa' ((((outP os2).take i).flatMap (·.2)).length + p.2.2.length) 1)), (19, some (i64 (IntKind.wrap .i64 ((i : Int) + 1))))] σ2)))))
        (Y [(5, some (ptr g)), (7, some (ptr m)), (8, some (u32 1)), (10, some (u32 3)), (12, some (.slice D.xa D.xs.length D.xe)), (13, some (.slice D.ya D.ys.length D.ye)), (14, some (.slice D.ba l.length D.be)), (17, some (.slice (some ⟨q, 0, none⟩) os2.length 2)), (18, some (.slice aa' ((((outP os2).take i).flatMap (·.2)).length + p.2.2.length) 1)), (19, some (i64 (IntKind.wrap .i64 ((i : Int) + 1))))] σ2)))) := by
      refine req_mk (by omega) (req_mk h (req_mk trivial (ldm H2 hq (by simpa using outCells_0 hpi) (tI_mk ?_))))
      refine bne_mk (fun hne1 => ?_) (fun _ => done)
      refine req_mk (by omega) (req_mk h (req_mk trivial (ldm H2 hq (by simpa using outCells_0 hpi) (tI_mk ?_))))
      exact bne_mk (fun hne3 => by rcases hpk.2 with e | e <;> simp only at e <;> omega) (fun _ => done)
    refine bmd_mk (fun hpos => ?_) (fun _ => fin)
    obtain ⟨j, rfl⟩ : ∃ j, i = j + 1 := ⟨i - 1, by omega⟩
    obtain ⟨p0, hp0⟩ : ∃ p0, os2[j]? = some p0 := ⟨os2[j], List.getElem?_eq_getElem (by omega)⟩
    have hpP0 : (outP os2)[j]? = some (p0.1, p0.2.2) := by unfold outP; rw [List.getElem?_map, hp0]; rfl
    have hdiff := hok2.2.1 j _ _ hpP0 hpP
    have w1 : IntKind.wrap .i64 (((j + 1 : Nat) : Int) - 1) = ((j : Nat) : Int) := by rw [wrap64 (by omega) (by omega)]; omega
    rw [w1]
    refine req_mk (by omega) (req_mk h (req_mk trivial (ldm H2 hq (by simpa using outCells_0 hpi) (tI_mk ?_))))
    refine req_mk (by omega) (req_mk (by omega) (req_mk trivial (ldm H2 hq (by simpa using outCells_0 hp0) (tI_mk ?_))))
    exact beq_mk (fun e => absurd e hdiff) (fun _ => fin)
  · have ei : i = os2.length := by omega
    subst ei
    have eall : ((outP os2).take os2.length).flatMap (·.2) = l := by
      rw [List.take_of_length_le (by omega)]
      exact hok2.2.2
    rw [eall] at hsA
    rw [eall]
    rw [← hL2] at H1
    have hwx : D.xs.length ≤ 400 := by omega
    have hwy : D.ys.length ≤ 400 := by omega
    refine newAt_mk H1 fun ar σ2 H2 => ?_
    have H3 : Has σ2 ((g, glO 6 al tr sh D.oa D.os.length D.oe D.cur) :: ((ar, .row .rw [u32 1]) :: (sa, strO 1 D.xs.length) :: (wa, winO 1 2 D.ta D.xs.length D.te) :: (sb, strO 3 D.ys.length) :: (wb, winO 2 4 D.ua D.ys.length D.ue) :: (rA ++ (D.rX ++ (D.rY ++ (D.rB ++ (D.rT ++ (D.rU ++ M)))))))) := H2.sep fun a => by simp only [cnt_app, cnt_cons, cnt_nil, u32]; omega
    refine c16ws (al := al) (es := es6 wa sa wb sb wp sp) (ec := 6) (w := wa) (id := 1) (pane := 1) (str := 2) (by simp [hal]) rfl (List.mem_cons_of_mem _ (List.mem_cons_of_mem _ List.mem_cons_self)) List.mem_cons_self H3 fun σ3 H4 => ?_
    simp only [tTup_tup, pSome_some, List.getElem?_cons_zero, List.getElem?_cons_succ, tI_int]
    refine newAt_mk H4 fun ar2 σ4 H5 => ?_
    have H6 : Has σ4 ((g, glO 6 al tr sh D.oa D.os.length D.oe D.cur) :: ((ar2, .row .rw [u32 2]) :: (sa, strO 1 D.xs.length) :: (wa, winO 1 2 D.ta D.xs.length D.te) :: (sb, strO 3 D.ys.length) :: (wb, winO 2 4 D.ua D.ys.length D.ue) :: (rA ++ (D.rX ++ (D.rY ++ (D.rB ++ (D.rT ++ (D.rU ++ M)))))))) := H5.sep fun a => by simp only [cnt_app, cnt_cons, cnt_nil, u32]; omega
    refine c16tl (al := al) (es := es6 wa sa wb sb wp sp) (ec := 6) (s := sa) (id := 2) (win := 1) (wr := D.xs.length) (by decide) (by simp [hal]) rfl (List.mem_cons_of_mem _ List.mem_cons_self) List.mem_cons_self H6 fun σ5 H7 => ?_
    simp only [tTup_tup, pSome_some, List.getElem?_cons_zero, List.getElem?_cons_succ, tI_int]
    refine bne_mk (fun _ => ?_) (fun h => by simp at h)
    refine bmd_mk (fun _ => ?_) (fun h => by simp at h)
    refine c19 (al := al) (es := es6 wa sa wb sb wp sp) (ec := 6) (w := wa) (id := 1) (pane := 1) (str := 2) List.mem_cons_self (by simp [hal]) rfl (List.mem_cons_of_mem _ (List.mem_cons_of_mem _ (List.mem_cons_of_mem _ List.mem_cons_self))) hsT (fun p hp => by simp [hp]) (by omega) H7 fun a1 e1 r1 σ6 hs1 H8 => ?_
    refine tL_ok hs1.no ?_
    refine c18g hs1.e1 (fun p hp => by simp [hp]) hsX (fun p hp => by simp [hp]) (by omega) H8 ?_
    simp only [tB_bool, bm_true]
    refine c19 (al := al) (es := es6 wa sa wb sb wp sp) (ec := 6) (w := wb) (id := 3) (pane := 2) (str := 4) (List.mem_append_right _ List.mem_cons_self) (by simp [hal]) rfl (List.mem_append_right _ (List.mem_cons_of_mem _ (List.mem_cons_of_mem _ (List.mem_cons_of_mem _ (List.mem_cons_of_mem _ (List.mem_cons_of_mem _ List.mem_cons_self)))))) hsU (fun p hp => by simp [hp]) (by omega) H8 fun a2 e2 r2 σ7 hs2 H9 => ?_
    refine tL_ok hs2.no ?_
    refine c18g hs2.e1 (fun p hp => by simp [hp]) hsY (fun p hp => by simp [hp]) (by omega) H9 ?_
    simp only [tB_bool, bm_true]
    refine c18g hsA (fun p hp => by simp [hp]) hsB (fun p hp => by simp [hp]) (by omega) H9 ?_
    simp only [tB_bool, bm_true]
    rw [wrap64 (by omega) (by omega)]
    refine beq_mk (fun _ => ?_) (fun h => absurd rfl h)
    refine c15 (tI_mk (beq_mk (fun _ => ?_) (fun h => absurd rfl h)))
    exact c12 rfl
end
end Go.AI
end
section
set_option linter.unusedSimpArgs false
set_option linter.unusedVariables false
set_option maxRecDepth 100000
/- The law of two windows holds for all plain inputs; no condition but those that each names. -/
namespace Go.AI
open Go.Proofs
section
variable {σ : AS} {X : List (Nat × AObj)}
theorem pr_law {la ua : Option Addr} {l : List Int} {t : List Bool} (H : Has σ X) (hla : Inp u32 la l X) (hua : InpB ua t X) : Tri Tryz.prog 3 [.slice la l.length 1, .slice ua t.length 1] σ RB := tri_in (by
  rw [s3]
  refine bmd_mk (fun _ => c12 rfl) (fun hll => ?_)
  refine c13 H fun tm tr fm sm sh al g σ1 H1 => ?_
  simp only [tTup_tup, pSome_some, List.getElem?_cons_zero, List.getElem?_cons_succ, tI_int, tP_ptr]
  refine c14 H1 fun m bj σ2 H2 => ?_
  simp only [tP_ptr]
  refine c15 (tI_mk (bne_mk (fun h => absurd rfl h) (fun _ => ?_)))
  simp only [ptrEq_some, bm_false]
  refine newAt_mk H2 fun ar σ3 H3 => ?_
  refine c16o1 (tm := tm) (tr := tr) (fm := fm) (sm := sm) (sh := sh) (al := al) (g := g) (m := m) (bj := bj) (B := List.replicate 1024 0) (M := X) (H3.sep fun a => by simp only [cnt_app, cnt_cons, cnt_nil, glO, u32]; omega) fun nd wa sa σ4 H4 => ?_
  simp only [tTup_tup, pSome_some, List.getElem?_cons_zero, List.getElem?_cons_succ, tI_int]
  refine newAt_mk H4 fun ar2 σ5 H5 => ?_
  refine c16o2 (tm := tm) (tr := tr) (fm := fm) (sm := sm) (sh := sh) (al := al) (g := g) (m := m) (bj := bj) (nd := nd) (wa := wa) (sa := sa) (B := List.replicate 1024 0) (M := X) (H5.sep fun a => by simp only [cnt_app, cnt_cons, cnt_nil, u32]; omega) fun wb sb wp sp σ6 H6 => ?_
  simp only [tTup_tup, pSome_some, List.getElem?_cons_zero, List.getElem?_cons_succ, tI_int]
  refine aloop (fun (i : Nat) rg σ' => i ≤ l.length ∧ ∃ D, PrI D (l.take i) g al tr sh wa sa wb sb ((al, .map (es6 wa sa wb sb wp sp) 6) :: X) σ' ∧ rg = prR D la ua l.length t.length g m i i) (fun i => l.length - i) ?_ (a := 0)
    ⟨Nat.zero_le _, { xs := [], ys := [], xa := none, ya := none, ba := none, ta := none, ua := none, oa := none, xe := 0, ye := 0, be := 0, te := 0, ue := 0, oe := 0, rX := [], rY := [], rB := [], rT := [], rU := [], rO := [], os := [], cur := 0 },
      ⟨SlC.nil 0, SlC.nil 0, SlC.nil 0, SlC.nil 0, SlC.nil 0, SlC.nil 0, okP_nil, rfl, H6.sep fun a => by simp only [outRows, List.map_nil, List.length_nil, cnt_app, cnt_cons, cnt_nil, Int.ofNat_zero, Int.natCast_zero]; omega⟩, rfl⟩
  rintro i rg σ7 Y hX ⟨hi, D, hD, rfl⟩
  by_cases hil : i < l.length
  · refine pr_round (wp := wp) (sp := sp) List.mem_cons_self (hla.mono fun p hp => List.mem_cons_of_mem _ hp) (hua.imp id fun ⟨r, k, h1, h2⟩ => ⟨r, k, h1, List.mem_cons_of_mem _ h2⟩) (List.getElem?_eq_getElem hil) (by omega) hD fun D' σ8 hD' => ?_
    exact hX (i + 1) _ _ (by omega) ⟨by omega, D', hD', rfl⟩
  · have e : i = l.length := by omega
    subst e
    unfold prR
    rw [s3l]
    refine bmd_mk (fun h => absurd h (by omega)) (fun _ => ?_)
    have hD2 := hD
    rw [List.take_length] at hD2
    obtain ⟨hsX, hsY, hsB, hsT, hsU, hsO, hok, hlen, H7⟩ := hD2
    have hbd := ok_bounds hok
    refine c17 (n := 6) (al := al) (tr := tr) (sh := sh) (cur := D.cur) hsO rfl (by omega) (fun p hp => by have := hbd.2 p hp; omega) List.mem_cons_self (fun p hp => by simp [hp]) (fun p hp => by simp [hp]) H7 fun a' e' os2 rS σ8 hsS hp H8 => ?_
    refine tL_ok hsS.no ?_
    exact pr_end (wp := wp) (sp := sp) (al := al) (tr := tr) (sh := sh) (wa := wa) (sa := sa) (wb := wb) (sb := sb) List.mem_cons_self (by omega) ⟨hsX, hsY, hsB, hsT, hsU, hsO, hok, hlen, (H8.sub (List.sublist_append_right _ _)).sub (List.sublist_append_right _ _)⟩ hsS hp H8)
end
end Go.AI
end
