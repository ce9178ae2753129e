/- Lemmas of the abstract condition ahead of code (a part of the library that the claim's proof stands on); they hold with no condition but those that each names. -/
import Derived.Test.YtlofpopejkohbaaGreatGyLaw
import Derived.Test.YtlofpopejkohbaaGreatGyFormL
import Derived.Test.YtlofpopejkohbaaGreatGyTwo
import Derived.Test.YtlofpopejkohbaaGreatAIGhost
section
set_option linter.unusedSimpArgs false
set_option linter.unusedVariables false
set_option maxRecDepth 100000
/- A window of text: a character shown, what is told; no condition but those that each names. -/
namespace Go.AI
open Go.Proofs
section
variable {σ : AS} {K : Value → AS → Prop} {L M : List (Nat × AObj)}
def winI (rest : List Value) (pane str : Int) (ta : Option Addr) (tn te : Nat) : AObj := .row .plain (i64 1 :: u32 0 :: i64 pane :: u32 3 :: u32 str :: .slice ta tn te :: rest)
def strO (win wr : Int) : AObj := .row .plain [i64 2, u32 0, i64 0, u32 0, u32 0, .slice none 0 0, .map none, u32 0, u32 0, i64 0, u32 0, u32 0, u32 win, i64 0, u32 0, i64 0, .bool false, u32 wr, .string (ByteArray.mk #[])]
def glI (iv : Value) (n : Int) (al tr sh : Nat) (oa : Option Addr) (on oe : Nat) (cur : Int) : AObj := .row .plain [u32 n, .map (some al), ptr tr, ptr sh, iv, .slice oa on oe, u32 cur, .bool false]
/-- What was told: of which window, where the text lies, the text. -/
abbrev Outs := List (Int × Nat × List Int)
def outCells (os : Outs) : List Value := os.flatMap fun p => [u32 p.1, .slice (some ⟨p.2.1, 0, none⟩) p.2.2.length 1]
def outRows (os : Outs) : List (Nat × AObj) := os.map fun p => (p.2.1, .row .rw (cellsU p.2.2))
def sayL (os : List (Int × List Int)) (id x : Int) : List (Int × List Int) :=
  match os.getLast? with
  | some p => if p.1 = id then os.dropLast ++ [(id, p.2 ++ [x])] else os ++ [(id, [x])]
  | none => [(id, [x])]
def outP (os : Outs) : List (Int × List Int) := os.map fun p => (p.1, p.2.2)
theorem outCells_len (os : Outs) : (outCells os).length = 2 * os.length := by
  unfold outCells
  induction os with
  | nil => rfl
  | cons p os ih => rw [List.flatMap_cons, List.length_append, ih, List.length_cons]; simp; omega
theorem outCells_app (a b : Outs) : outCells (a ++ b) = outCells a ++ outCells b := by unfold outCells; simp
theorem outRows_app (a b : Outs) : outRows (a ++ b) = outRows a ++ outRows b := by unfold outRows; simp
theorem szP38 : szOf Tryz.prog 38 = 2 := by kernel_rfl
theorem newOut {iv : Value} {g : Nat} {n cur : Int} {al tr sh : Nat} {oa : Option Addr} {on oe : Nat} {os : Outs} {rowsO : List (Nat × AObj)} {id x : Int} (hso : SlC 2 oa oe (outCells os) rowsO) (hon : on = os.length) (hb : os.length ≤ 100000)
    (H : Has σ ((g, glI iv n al tr sh oa on oe cur) :: (rowsO ++ (outRows os ++ M))))
    (hK : ∀ oa' rowsO' j σ', SlC 2 oa' 2 (outCells (os ++ [(id, j, [x])])) rowsO' → Has σ' ((g, glI iv n al tr sh oa' (on + 1) 2 cur) :: (rowsO' ++ (outRows (os ++ [(id, j, [x])]) ++ M))) → K unit0 σ') :
    ldc σ ⟨g, 0 + 5, none⟩ fun v46 => tL 2 v46 fun s47 => newAt σ (.row .rw [u32 x]) fun i48 σ49 => newAt σ49 (.row .rw [u32 id, .slice (some ⟨i48, 0, none⟩) 1 1]) fun i50 σ51 => lds σ51 ⟨i50, 0, none⟩ 2 fun l52 => appendTo σ51 2 32 ⟨s47.a, s47.n⟩ l52 1 fun s53 σ54 => put1 σ54 ⟨g, 0 + 5, none⟩ (.slice s53.a s53.n 2) fun σ55 => K unit0 σ55 := by
  refine ldm H List.mem_cons_self rfl (tL_ok hso.no ?_)
  refine newAt_mk H fun j σ1 H1 => newAt_mk H1 fun i0 σ2 H2 => lds_mk H2 0 rfl (by simp) ?_
  have e0 : (([u32 id, .slice (some ⟨j, 0, none⟩) 1 1] : List Value).drop 0).take 2 = [u32 id, .slice (some ⟨j, 0, none⟩) 1 1] := rfl
  rw [e0]
  refine appC (new := [u32 id, .slice (some ⟨j, 0, none⟩) 1 1]) (m := 1) hso (H2.sep (M := rowsO ++ ((g, glI iv n al tr sh oa on oe cur) :: (j, .row .rw [u32 x]) :: (outRows os ++ M))) (fun a => by simp only [cnt_app, cnt_cons, cnt_nil]; omega)) (by rw [outCells_len]; simp only; omega) (by simp) (by omega) (by simp only; omega) fun oa' σ3 rowsO' hso' H3 => ?_
  refine put0 (H3.sep (M := (g, glI iv n al tr sh oa on oe cur) :: (rowsO' ++ ((j, .row .rw [u32 x]) :: (outRows os ++ M)))) (fun a => by simp only [cnt_app, cnt_cons, cnt_nil]; omega)) rfl (by simp [glI]) fun σ4 H4 => ?_
  refine hK oa' rowsO' j σ4 (by rw [outCells_app]; exact hso') (H4.sep fun a => ?_)
  rw [outRows_app]
  simp only [outRows, List.map_cons, List.map_nil, cnt_app, cnt_cons, cnt_nil, glI, List.set_cons_zero, List.set_cons_succ, Nat.zero_add]
  omega
/-- A character is shown in a window of text. -/
theorem c132 {iv : Value} {rest : List Value} {g w i : Nat} {n cur id x pane str : Int} {al tr sh : Nat} {es : List MapEntry} {ec : Nat} {oa ta : Option Addr} {on oe tn te : Nat} {os : Outs} {T : List Int} {rowsO rowsT : List (Nat × AObj)}
    (hal : (al, AObj.map es ec) ∈ M) (hf : Instr.findNow (.int .u32) (u32 id) es 0 = some (some (i, ptr w))) (hst : SlC 1 ta te (cellsU T) rowsT) (htn : tn = T.length) (htb : T.length ≤ 100000)
    (hso : SlC 2 oa oe (outCells os) rowsO) (hon : on = os.length) (hb : os.length ≤ 100000) (hos : ∀ p ∈ os, p.2.2.length ≤ 100000)
    (H : Has σ ((g, glI iv n al tr sh oa on oe cur) :: (w, winI rest pane str ta tn te) :: (rowsT ++ (rowsO ++ (outRows os ++ M)))))
    (hK : ∀ oa' on' oe' rowsO' os' ta' rowsT' σ', SlC 1 ta' 1 (cellsU (T ++ [x])) rowsT' → SlC 2 oa' oe' (outCells os') rowsO' → on' = os'.length → outP os' = sayL (outP os) id x →
      Has σ' ((g, glI iv n al tr sh oa' on' oe' cur) :: (w, winI rest pane str ta' (tn + 1) 1) :: (rowsT' ++ (rowsO' ++ (outRows os' ++ M)))) → K unit0 σ') :
    Tri Tryz.prog 132 [ptr g, u32 id, u32 x] σ K := tri_in (by
  rw [s132]
  refine ldm H List.mem_cons_self rfl ?_
  simp only [tM_map]
  rw [mget_eq (H.g (i := al) (x := .map es ec) (by simp [hal])), hf]
  simp only [pSome_some, Option.map, Option.getD, tP_ptr]
  refine ldm H (List.mem_cons_of_mem _ List.mem_cons_self) rfl (tI_mk ?_)
  refine beq_mk (fun _ => ?_) (fun h => absurd rfl h)
  refine ldm H (List.mem_cons_of_mem _ List.mem_cons_self) rfl (tL_ok hst.no ?_)
  refine newAt_mk H fun i0 σ1 H1 => lds_mk H1 0 rfl (by simp) ?_
  have e0 : (([u32 x] : List Value).drop 0).take 1 = [u32 x] := rfl
  rw [e0]
  refine appC (new := [u32 x]) (m := 1) hst (H1.sep (M := rowsT ++ ((g, glI iv n al tr sh oa on oe cur) :: (w, winI rest pane str ta tn te) :: (rowsO ++ (outRows os ++ M)))) (fun a => by simp only [cnt_app, cnt_cons, cnt_nil]; omega)) (by simp; omega) rfl (by omega) (by simp only; omega) fun ta' σ2 rowsT' hst' H2 => ?_
  refine put0 (H2.sep (M := (w, winI rest pane str ta tn te) :: (g, glI iv n al tr sh oa on oe cur) :: (rowsT' ++ (rowsO ++ (outRows os ++ M)))) (fun a => by simp only [cnt_app, cnt_cons, cnt_nil]; omega)) rfl (by simp [winI]) fun σ3 H3 => ?_
  have H4 : Has σ3 ((g, glI iv n al tr sh oa on oe cur) :: (rowsO ++ (outRows os ++ ((w, winI rest pane str ta' (tn + 1) 1) :: (rowsT' ++ M))))) := H3.sep fun a => by
    simp only [cnt_app, cnt_cons, cnt_nil, winI, List.set_cons_zero, List.set_cons_succ, Nat.zero_add]; omega
  clear H3 H2 H1
  have hst2 : SlC 1 ta' 1 (cellsU (T ++ [x])) rowsT' := by simpa [cellsU] using hst'
  have caseB : sayL (outP os) id x = outP os ++ [(id, [x])] → ldc σ3 ⟨g, 0 + 5, none⟩ fun v46 => tL 2 v46 fun s47 => newAt σ3 (.row .rw [u32 x]) fun i48 σ49 => newAt σ49 (.row .rw [u32 id, .slice (some ⟨i48, 0, none⟩) 1 1]) fun i50 σ51 => lds σ51 ⟨i50, 0, none⟩ 2 fun l52 => appendTo σ51 2 32 ⟨s47.a, s47.n⟩ l52 1 fun s53 σ54 => put1 σ54 ⟨g, 0 + 5, none⟩ (.slice s53.a s53.n 2) fun σ55 => K unit0 σ55 := by
    intro hsay
    refine newOut (id := id) (x := x) hso hon hb H4 fun oa' rowsO' j σ4 hso' H5 => ?_
    refine hK oa' (on + 1) 2 rowsO' (os ++ [(id, j, [x])]) ta' rowsT' σ4 hst2 hso' (by rw [hon]; simp) ?_ (H5.sep fun a => by simp only [cnt_app, cnt_cons, cnt_nil]; omega)
    rw [hsay]
    unfold outP
    simp
  refine ldm H4 List.mem_cons_self rfl (tL_ok hso.no ?_)
  refine bmd_mk (fun hpos => ?_) (fun h0 => caseB ?_)
  · simp only at hpos
    refine ldm H4 List.mem_cons_self rfl (tL_ok hso.no ?_)
    have w1 : IntKind.wrap .i64 ((on : Int) - 1) = ((on - 1 : Nat) : Int) := by rw [wrap64 (by omega) (by omega)]; omega
    simp only
    rw [w1]
    refine req_mk (by omega) (req_mk (by omega) ?_)
    rcases List.eq_nil_or_concat os with hnil | ⟨os1, ⟨lw, lj, lt⟩, hcon⟩
    · rw [hnil] at hon; simp at hon; omega
    rw [List.concat_eq_append] at hcon
    subst hcon
    obtain ⟨q, rfl, rfl, rfl⟩ := hso.at (p := 0) (by rw [outCells_len]; simp)
    have hlen1 : on - 1 = os1.length := by rw [hon]; simp
    simp only [pSome_some, aadd_none, add_none, szP38, Int.toNat_natCast, Nat.zero_add, hlen1]
    have hc0 : (outCells (os1 ++ [(lw, lj, lt)]))[os1.length * 2 + 0]? = some (u32 lw) := by
      rw [outCells_app, List.getElem?_append_right (by rw [outCells_len]; omega), outCells_len]
      have : os1.length * 2 + 0 - 2 * os1.length = 0 := by omega
      rw [this]; rfl
    have hc1 : (outCells (os1 ++ [(lw, lj, lt)]))[os1.length * 2 + 1]? = some (.slice (some ⟨lj, 0, none⟩) lt.length 1) := by
      rw [outCells_app, List.getElem?_append_right (by rw [outCells_len]; omega), outCells_len]
      have : os1.length * 2 + 1 - 2 * os1.length = 1 := by omega
      rw [this]; rfl
    have hq : ∀ {y : Nat × AObj}, (q, AObj.row .rw (outCells (os1 ++ [(lw, lj, lt)]))) ∈ y :: ([(q, AObj.row .rw (outCells (os1 ++ [(lw, lj, lt)])))] ++ (outRows (os1 ++ [(lw, lj, lt)]) ++ ((w, winI rest pane str ta' (tn + 1) 1) :: (rowsT' ++ M)))) := by simp
    refine ldm H4 hq hc0 (tI_mk ?_)
    refine beq_mk (fun hid => ?_) (fun hid => caseB ?_)
    · subst hid
      refine ldm H4 List.mem_cons_self rfl (tL_mk ?_)
      refine ldm H4 List.mem_cons_self rfl (tL_mk ?_)
      simp only
      refine req_mk (by omega) (req_mk (by omega) ?_)
      simp only [pSome_some, aadd_none, add_none, szP38, Int.toNat_natCast, Nat.zero_add, hlen1]
      refine ldm H4 hq hc1 (tL_mk ?_)
      refine newAt_mk H4 fun i1 σ4 H5 => ?_
      refine ldm H5 (List.mem_cons_of_mem _ hq) hc1 (tL_mk ⟨rfl, ?_⟩)
      refine ldm H5 (List.mem_cons_of_mem _ List.mem_cons_self) rfl (tL_mk ⟨rfl, ?_⟩)
      refine ldm H5 (List.mem_cons_of_mem _ List.mem_cons_self) rfl (tL_mk ⟨rfl, ?_⟩)
      refine lds_mk H5 0 rfl (by simp) ?_
      rw [e0]
      have hlt := hos (lw, lj, lt) (by simp)
      refine appC (new := [u32 x]) (m := 1) (SlC.row (sz := 1) (j := lj) (cells := cellsU lt)) (H5.sep (M := [(lj, AObj.row .rw (cellsU lt))] ++ ((g, glI iv n al tr sh (some ⟨q, 0, none⟩) on 2 cur) :: (q, AObj.row .rw (outCells (os1 ++ [(lw, lj, lt)]))) :: (outRows os1 ++ ((w, winI rest pane str ta' (tn + 1) 1) :: (rowsT' ++ M))))) (fun a => ?_)) (by simp) rfl (by omega) (by simp only at hlt ⊢; omega) fun a2 σ5 rows2 hs2 H6 => ?_
      · rw [outRows_app]
        simp only [outRows, List.map_cons, List.map_nil, cnt_app, cnt_cons, cnt_nil]; omega
      obtain ⟨j2, rfl, _, rfl⟩ := hs2.at (p := 0) (by simp)
      refine ldm H6 (k := .plain) (cs := [u32 n, .map (some al), ptr tr, ptr sh, iv, .slice (some ⟨q, 0, none⟩) on 2, u32 cur, .bool false]) (i := g) (by simp [glI]) rfl (tL_mk ⟨rfl, ?_⟩)
      refine req_mk (by omega) (req_mk (by omega) ?_)
      simp only [pSome_some, aadd_none, add_none, szP38, Int.toNat_natCast, Nat.zero_add, hlen1]
      refine put0 (H6.sep (M := (q, AObj.row .rw (outCells (os1 ++ [(lw, lj, lt)]))) :: (g, glI iv n al tr sh (some ⟨q, 0, none⟩) on 2 cur) :: (j2, AObj.row .rw (cellsU lt ++ [u32 x])) :: (outRows os1 ++ ((w, winI rest pane str ta' (tn + 1) 1) :: (rowsT' ++ M)))) (fun a => by simp only [cnt_app, cnt_cons, cnt_nil]; omega)) rfl (by rw [outCells_len]; simp; omega) fun σ6 H7 => ?_
      have eset : (outCells (os1 ++ [(lw, lj, lt)])).set (os1.length * 2 + 1) (.slice (some ⟨j2, 0, none⟩) (lt.length + 1) 1) = outCells (os1 ++ [(lw, j2, lt ++ [x])]) := by
        rw [outCells_app, outCells_app, List.set_append_right _ _ (by rw [outCells_len]; omega), outCells_len]
        have : os1.length * 2 + 1 - 2 * os1.length = 1 := by omega
        rw [this]
        simp [outCells]
      rw [eset] at H7
      refine hK _ on 2 [(q, AObj.row .rw (outCells (os1 ++ [(lw, j2, lt ++ [x])])))] (os1 ++ [(lw, j2, lt ++ [x])]) ta' rowsT' σ6 hst2 SlC.row (by rw [hon]; simp) ?_ (H7.sep fun a => ?_)
      · unfold outP sayL
        simp
      · rw [outRows_app]
        have ec : cellsU lt ++ [u32 x] = cellsU (lt ++ [x]) := by simp [cellsU]
        rw [ec]
        simp only [outRows, List.map_cons, List.map_nil, cnt_app, cnt_cons, cnt_nil]; omega
    · unfold outP sayL
      simp [hid]
  · have : os = [] := List.length_eq_zero_iff.1 (by simp only at h0; omega)
    subst this
    rfl)
end
end Go.AI
end
section
set_option linter.unusedSimpArgs false
set_option linter.unusedVariables false
set_option maxRecDepth 100000
/- Calls upon windows of text: set, put, its stream, told how much; no condition but those that each names. -/
namespace Go.AI
open Go.Proofs
section
variable {σ : AS} {K : Value → AS → Prop} {L M : List (Nat × AObj)}
theorem n46d : ∀ (σ : AS) (K : Value → AS → Prop), callN Tryz.prog hints glE 80 46 [u32 47] σ K = K (i64 1) σ := by
  intros
  kernel_rfl
theorem n46e : ∀ (σ : AS) (K : Value → AS → Prop), callN Tryz.prog hints glE 80 46 [u32 296] σ K = K (i64 1) σ := by
  intros
  kernel_rfl
theorem n46f : ∀ (σ : AS) (K : Value → AS → Prop), callN Tryz.prog hints glE 80 46 [u32 44] σ K = K (i64 1) σ := by
  intros
  kernel_rfl
theorem n46g : ∀ (σ : AS) (K : Value → AS → Prop), callN Tryz.prog hints glE 80 46 [u32 70] σ K = K (i64 1) σ := by
  intros
  kernel_rfl
variable {iv : Value} {rest : List Value} {g al tr sh ar m w s i : Nat} {n cur id x pane str win wr : Int} {es : List MapEntry} {ec : Nat} {oa ta : Option Addr} {on oe tn te : Nat} {os : Outs} {T : List Int} {rowsO rowsT : List (Nat × AObj)}
theorem cof (hg : (g, glI iv n al tr sh oa on oe cur) ∈ L) (hal : (al, AObj.map es ec) ∈ L) {ob : Nat} {sort : Int} {vs : List Value} (ho : (ob, AObj.row .plain (i64 sort :: vs)) ∈ L) (hf : Instr.findNow (.int .u32) (u32 id) es 0 = some (some (i, ptr ob))) (H : Has σ L)
    (hK : K (ptr ob) σ) : Tri Tryz.prog 54 [ptr g, u32 id, i64 sort] σ K := c54 (y := u32 n) (gs := [ptr tr, ptr sh, iv, .slice oa on oe, u32 cur, .bool false]) hg hal ho hf H hK
theorem m2 {p x y : Nat × AObj} (h : p ∈ M) : p ∈ x :: y :: M := List.mem_cons_of_mem _ (List.mem_cons_of_mem _ h)
theorem c16set (hid : id ≠ 0) (hal : (al, AObj.map es ec) ∈ M) (hf : Instr.findNow (.int .u32) (u32 id) es 0 = some (some (i, ptr w))) (hw : (w, winI rest pane str ta tn te) ∈ M) (har : (ar, AObj.row .rw [u32 id]) ∈ M)
    (H : Has σ ((g, glI iv n al tr sh oa on oe cur) :: M)) (hK : ∀ σ', Has σ' ((g, glI iv n al tr sh oa on oe str) :: M) → K (.tuple ⟨[u32 0, i64 0]⟩) σ') :
    Tri Tryz.prog 16 [ptr g, .iface 29 (ptr m), u32 47, .slice (some ⟨ar, 0, none⟩) 1 1] σ K := tri_in (by
  rw [s16set]
  refine ldm H List.mem_cons_self rfl ?_
  simp only [tB_bool, bm_false]
  refine tri_hard ?_
  rw [n46d]
  refine tI_mk (bne_mk (fun h => absurd rfl h) (fun _ => ?_))
  refine newAt_mk H fun c σ1 H1 => tri_in ?_
  rw [s49set]
  have hc := H1.g (i := c) List.mem_cons_self
  have ha : (ar, AObj.row .rw [u32 id]) ∈ (c, AObj.row .plain [ptr g, .iface 29 (ptr m), .slice (some ⟨ar, 0, none⟩) 1 1]) :: (g, glI iv n al tr sh oa on oe cur) :: M := by simp [har]
  rw [ldc_eq hc]
  simp only [Nat.zero_add, List.getElem?_cons_zero, List.getElem?_cons_succ, pSome_some]
  refine tL_mk (req_mk (by simp only; omega) ?_)
  simp only [pSome_some, aadd_none, szP32]
  refine ldm H1 ha rfl (tI_mk ?_)
  refine beq_mk (fun h => absurd h hid) (fun _ => ?_)
  rw [ldc_eq hc]
  simp only [Nat.zero_add, List.getElem?_cons_zero, List.getElem?_cons_succ, pSome_some, tP_ptr]
  rw [ldc_eq hc]
  simp only [Nat.zero_add, List.getElem?_cons_zero, List.getElem?_cons_succ, pSome_some]
  refine tL_mk (req_mk (by simp only; omega) ?_)
  simp only [pSome_some, aadd_none, szP32]
  refine ldm H1 ha rfl (tI_mk ?_)
  refine cof (ob := w) (List.mem_cons_of_mem _ List.mem_cons_self) (m2 hal) (m2 hw) hf H1 ?_
  simp only [tP_ptr, ptrEq_some, bm_false]
  rw [ldc_eq hc]
  simp only [Nat.zero_add, List.getElem?_cons_zero, List.getElem?_cons_succ, pSome_some, tP_ptr]
  refine ldm H1 (m2 hw) rfl (tI_mk ?_)
  refine put0 (H1.sep (M := (g, glI iv n al tr sh oa on oe cur) :: M) (fun a => by simp only [cnt_app, cnt_cons, cnt_nil]; omega)) rfl (by simp [glI]) fun σ2 H2 => ?_
  simp only [tTup_tup, pSome_some, List.getElem?_cons_zero, List.getElem?_cons_succ, tI_int]
  exact hK σ2 (by simpa [glI] using H2))
theorem c16pw (hal : (al, AObj.map es ec) ∈ M) (hs : Instr.findNow (.int .u32) (u32 cur) es 0 = some (some (i, ptr s))) {i2 : Nat} (hf : Instr.findNow (.int .u32) (u32 win) es 0 = some (some (i2, ptr w))) (hwin : win ≠ 0) (har : (ar, AObj.row .rw [u32 x]) ∈ M)
    (hwr : 0 ≤ wr ∧ wr < 4294967295) (hst : SlC 1 ta te (cellsU T) rowsT) (htn : tn = T.length) (htb : T.length ≤ 100000) (hso : SlC 2 oa oe (outCells os) rowsO) (hon : on = os.length) (hb : os.length ≤ 100000) (hos : ∀ p ∈ os, p.2.2.length ≤ 100000)
    (H : Has σ ((g, glI iv n al tr sh oa on oe cur) :: (s, strO win wr) :: (w, winI rest pane str ta tn te) :: (rowsT ++ (rowsO ++ (outRows os ++ M)))))
    (hK : ∀ oa' on' oe' rowsO' os' ta' rowsT' σ', SlC 1 ta' 1 (cellsU (T ++ [x])) rowsT' → SlC 2 oa' oe' (outCells os') rowsO' → on' = os'.length → outP os' = sayL (outP os) win x →
      Has σ' ((g, glI iv n al tr sh oa' on' oe' cur) :: (s, strO win (wr + 1)) :: (w, winI rest pane str ta' (tn + 1) 1) :: (rowsT' ++ (rowsO' ++ (outRows os' ++ M)))) → K (.tuple ⟨[u32 0, i64 0]⟩) σ') :
    Tri Tryz.prog 16 [ptr g, .iface 29 (ptr m), u32 296, .slice (some ⟨ar, 0, none⟩) 1 1] σ K := tri_in (by
  rw [s16pw]
  refine ldm H List.mem_cons_self rfl ?_
  simp only [tB_bool, bm_false]
  refine tri_hard ?_
  rw [n46e]
  refine tI_mk (bne_mk (fun h => absurd rfl h) (fun _ => ?_))
  refine newAt_mk H fun c σ1 H1 => tri_in ?_
  rw [s53pw]
  have hc := H1.g (i := c) List.mem_cons_self
  have inM : ∀ {p y : Nat × AObj}, p ∈ M → p ∈ y :: (g, glI iv n al tr sh oa on oe cur) :: (s, strO win wr) :: (w, winI rest pane str ta tn te) :: (rowsT ++ (rowsO ++ (outRows os ++ M))) := fun h => by simp [h]
  rw [ldc_eq hc]
  simp only [Nat.zero_add, List.getElem?_cons_zero, List.getElem?_cons_succ, pSome_some, tP_ptr]
  rw [ldc_eq hc]
  simp only [Nat.zero_add, List.getElem?_cons_zero, List.getElem?_cons_succ, pSome_some, tP_ptr]
  refine ldm H1 (List.mem_cons_of_mem _ List.mem_cons_self) rfl (tI_mk ?_)
  rw [ldc_eq hc]
  simp only [Nat.zero_add, List.getElem?_cons_zero, List.getElem?_cons_succ, pSome_some]
  refine tL_mk (req_mk (by simp only; omega) ?_)
  simp only [pSome_some, aadd_none, szP32]
  refine ldm H1 (inM har) rfl (tI_mk (tri_in ?_))
  rw [s72]
  refine cof (List.mem_cons_of_mem _ List.mem_cons_self) (inM hal) (ob := s) (List.mem_cons_of_mem _ (List.mem_cons_of_mem _ List.mem_cons_self)) hs H1 ?_
  simp only [tP_ptr, ptrEq_some, bm_false, pSome_some]
  have hs2 : ∀ {y : Nat × AObj}, (s, strO win wr) ∈ y :: (g, glI iv n al tr sh oa on oe cur) :: (s, strO win wr) :: (w, winI rest pane str ta tn te) :: (rowsT ++ (rowsO ++ (outRows os ++ M))) := by simp
  refine ldm H1 hs2 rfl (tI_mk ?_)
  refine bne_mk (fun _ => ?_) (fun h => absurd h hwin)
  refine ldm H1 hs2 rfl (tI_mk ?_)
  rw [wrapU32 (by omega) (by omega)]
  refine put0 (H1.sep (M := (s, strO win wr) :: (g, glI iv n al tr sh oa on oe cur) :: (w, winI rest pane str ta tn te) :: (rowsT ++ (rowsO ++ (outRows os ++ M)))) (fun a => by simp only [cnt_app, cnt_cons, cnt_nil]; omega)) rfl (by simp [strO]) fun σ2 H2 => ?_
  refine ldm H2 List.mem_cons_self rfl (tI_mk ?_)
  refine c132 (iv := iv) (rest := rest) (M := (s, strO win (wr + 1)) :: M) (n := n) (cur := cur) (tr := tr) (sh := sh) (pane := pane) (str := str) (tn := tn) (on := on) (List.mem_cons_of_mem _ hal) hf hst htn htb hso hon hb hos (H2.sep fun a => by simp only [cnt_app, cnt_cons, cnt_nil, strO, u32, i64, List.set_cons_zero, List.set_cons_succ, Nat.zero_add]; omega) fun oa' on' oe' rowsO' os' ta' rowsT' σ3 h1 h2 h3 h4 H3 => ?_
  simp only [tTup_tup, pSome_some, List.getElem?_cons_zero, List.getElem?_cons_succ, tI_int]
  exact hK oa' on' oe' rowsO' os' ta' rowsT' σ3 h1 h2 h3 h4 (H3.sep fun a => by simp only [cnt_app, cnt_cons, cnt_nil]; omega))
/-- A window's stream. -/
theorem c16ws (hal : (al, AObj.map es ec) ∈ M) (hf : Instr.findNow (.int .u32) (u32 id) es 0 = some (some (i, ptr w))) (hw : (w, winI rest pane str ta tn te) ∈ M) (har : (ar, AObj.row .rw [u32 id]) ∈ M)
    (H : Has σ ((g, glI iv n al tr sh oa on oe cur) :: M)) (hK : ∀ σ', Has σ' ((g, glI iv n al tr sh oa on oe cur) :: M) → K (.tuple ⟨[u32 str, i64 0]⟩) σ') :
    Tri Tryz.prog 16 [ptr g, .iface 29 (ptr m), u32 44, .slice (some ⟨ar, 0, none⟩) 1 1] σ K := tri_in (by
  rw [s16ws]
  refine ldm H List.mem_cons_self rfl ?_
  simp only [tB_bool, bm_false]
  refine tri_hard ?_
  rw [n46f]
  refine tI_mk (bne_mk (fun h => absurd rfl h) (fun _ => ?_))
  refine newAt_mk H fun c σ1 H1 => tri_in ?_
  rw [s49ws]
  have hc := H1.g (i := c) List.mem_cons_self
  rw [ldc_eq hc]
  simp only [Nat.zero_add, List.getElem?_cons_zero, List.getElem?_cons_succ, pSome_some, tP_ptr]
  rw [ldc_eq hc]
  simp only [Nat.zero_add, List.getElem?_cons_zero, List.getElem?_cons_succ, pSome_some]
  refine tL_mk (req_mk (by simp only; omega) ?_)
  simp only [pSome_some, aadd_none, szP32]
  refine ldm H1 (m2 har) rfl (tI_mk ?_)
  refine cof (ob := w) (List.mem_cons_of_mem _ List.mem_cons_self) (m2 hal) (m2 hw) hf H1 ?_
  simp only [tP_ptr, ptrEq_some, bm_false, pSome_some]
  refine ldm H1 (m2 hw) rfl (tI_mk ?_)
  simp only [tTup_tup, pSome_some, List.getElem?_cons_zero, List.getElem?_cons_succ, tI_int]
  exact hK σ1 (H1.sep fun a => by simp only [cnt_app, cnt_cons, cnt_nil]; omega))
/-- How much came to a window's stream. -/
theorem c16tl (hwin : win ≠ 0) (hal : (al, AObj.map es ec) ∈ M) (hf : Instr.findNow (.int .u32) (u32 id) es 0 = some (some (i, ptr s))) (hw : (s, strO win wr) ∈ M) (har : (ar, AObj.row .rw [u32 id]) ∈ M)
    (H : Has σ ((g, glI iv n al tr sh oa on oe cur) :: M)) (hK : ∀ σ', Has σ' ((g, glI iv n al tr sh oa on oe cur) :: M) → K (.tuple ⟨[u32 wr, i64 0]⟩) σ') :
    Tri Tryz.prog 16 [ptr g, .iface 29 (ptr m), u32 70, .slice (some ⟨ar, 0, none⟩) 1 1] σ K := tri_in (by
  rw [s16tl]
  refine ldm H List.mem_cons_self rfl ?_
  simp only [tB_bool, bm_false]
  refine tri_hard ?_
  rw [n46g]
  refine tI_mk (bne_mk (fun h => absurd rfl h) (fun _ => ?_))
  refine newAt_mk H fun c σ1 H1 => tri_in ?_
  rw [s50tl]
  have hc := H1.g (i := c) List.mem_cons_self
  rw [ldc_eq hc]
  simp only [Nat.zero_add, List.getElem?_cons_zero, List.getElem?_cons_succ, pSome_some, tP_ptr]
  rw [ldc_eq hc]
  simp only [Nat.zero_add, List.getElem?_cons_zero, List.getElem?_cons_succ, pSome_some]
  refine tL_mk (req_mk (by simp only; omega) ?_)
  simp only [pSome_some, aadd_none, szP32]
  refine ldm H1 (m2 har) rfl (tI_mk ?_)
  refine cof (ob := s) (List.mem_cons_of_mem _ List.mem_cons_self) (m2 hal) (m2 hw) hf H1 ?_
  simp only [tP_ptr, ptrEq_some, bm_false, pSome_some]
  refine ldm H1 (m2 hw) rfl (tI_mk ?_)
  refine bne_mk (fun _ => ?_) (fun h => absurd h hwin)
  refine ldm H1 (m2 hw) rfl (tI_mk ?_)
  simp only [tTup_tup, pSome_some, List.getElem?_cons_zero, List.getElem?_cons_succ, tI_int]
  exact hK σ1 (H1.sep fun a => by simp only [cnt_app, cnt_cons, cnt_nil]; omega))
end
end Go.AI
end
section
set_option linter.unusedSimpArgs false
set_option linter.unusedVariables false
set_option maxRecDepth 100000
/- Copies of texts: of a window, of what was told; no condition but those that each names. -/
namespace Go.AI
open Go.Proofs
section
variable {σ : AS} {K : Value → AS → Prop} {L M : List (Nat × AObj)}
theorem c45row {j : Nat} {T : List Int} {kk : RK} (hj : (j, AObj.row kk (cellsU T)) ∈ L) (hT : T.length ≤ 100000) (H : Has σ L)
    (hK : ∀ j' σ', Has σ' ((j', .row .rw (cellsU T)) :: L) → K (.slice (some ⟨j', 0, none⟩) T.length 1) σ') : Tri Tryz.prog 45 [.slice (some ⟨j, 0, none⟩) T.length 1] σ K := tri_in (by
  rw [s45]
  simp only [Option.isNone_some, bm_false]
  refine newAt_mk H fun i0 σ1 H1 => ?_
  unfold srcCells
  refine req_mk rfl (ldsm H1 (List.mem_cons_of_mem _ hj) (by simp) ?_)
  have e0 : ((cellsU T).drop 0).take (T.length * 1) = cellsU T := by rw [List.drop_zero, Nat.mul_one]; exact List.take_of_length_le (by simp)
  rw [e0]
  refine append_mk (n := 0) (new := cellsU T) (m := T.length) H1 0 rfl rfl (by omega) (by simp) fun j' σ2 H2 => ?_
  have := hK j' σ2 (by simpa using H2)
  simpa using this)
theorem c45 {a : Option Addr} {e : Nat} {T : List Int} {rows : List (Nat × AObj)} (hs : SlC 1 a e (cellsU T) rows) (hr : ∀ p ∈ rows, p ∈ L) (hT : T.length ≤ 100000) (H : Has σ L)
    (hK : ∀ a' e' rows' σ', SlC 1 a' e' (cellsU T) rows' → nilOr a' e' 1 = true → Has σ' (rows' ++ L) → K (.slice a' T.length e') σ') : Tri Tryz.prog 45 [.slice a T.length 1] σ K := by
  rcases hs with ⟨rfl, h0, rfl⟩ | ⟨j, rfl, he, rfl⟩
  · have hT0 : T = [] := by simpa using h0
    subst hT0
    refine tri_in ?_
    rw [s45]
    simp only [Option.isNone_none, bm_true]
    exact hK none 0 [] σ (SlC.nil 0) rfl H
  · exact c45row (hr _ (List.mem_singleton.2 rfl)) hT H fun j' σ' H' => hK _ 1 [(j', .row .rw (cellsU T))] σ' SlC.row rfl H'
theorem outCells_at {os : Outs} {i : Nat} {p : Int × Nat × List Int} (h : os[i]? = some p) : ((outCells os).drop (i * 2)).take 2 = [u32 p.1, .slice (some ⟨p.2.1, 0, none⟩) p.2.2.length 1] := by
  induction os generalizing i with
  | nil => simp at h
  | cons q os ih =>
    cases i with
    | zero =>
      simp only [List.getElem?_cons_zero, Option.some.injEq] at h
      subst h
      simp [outCells]
    | succ i =>
      simp only [List.getElem?_cons_succ] at h
      have := ih h
      rw [← this]
      unfold outCells
      rw [List.flatMap_cons, show (i + 1) * 2 = 2 + i * 2 by omega, ← List.drop_drop]
      rfl
theorem outCells_0 {os : Outs} {i : Nat} {p : Int × Nat × List Int} (h : os[i]? = some p) : (outCells os)[i * 2]? = some (u32 p.1) := by
  have := congrArg (·[0]?) (outCells_at h)
  simpa using this
theorem outCells_1 {os : Outs} {i : Nat} {p : Int × Nat × List Int} (h : os[i]? = some p) : (outCells os)[i * 2 + 1]? = some (.slice (some ⟨p.2.1, 0, none⟩) p.2.2.length 1) := by
  have := congrArg (·[1]?) (outCells_at h)
  simpa using this
theorem outRows_mem {os : Outs} {i : Nat} {p : Int × Nat × List Int} (h : os[i]? = some p) : (p.2.1, AObj.row .rw (cellsU p.2.2)) ∈ outRows os := by
  unfold outRows
  exact List.mem_map.2 ⟨p, List.mem_of_getElem? h, rfl⟩
/-- What was told, copied. -/
theorem c17 {iv : Value} {g : Nat} {n cur : Int} {al tr sh : Nat} {oa : Option Addr} {on oe : Nat} {os : Outs} {rowsO : List (Nat × AObj)} (hso : SlC 2 oa oe (outCells os) rowsO) (hon : on = os.length) (hb : os.length ≤ 100000) (hos : ∀ p ∈ os, p.2.2.length ≤ 100000)
    (hg : (g, glI iv n al tr sh oa on oe cur) ∈ L) (hr : ∀ p ∈ rowsO, p ∈ L) (hr2 : ∀ p ∈ outRows os, p ∈ L) (H : Has σ L)
    (hK : ∀ a' e' os2 rows' σ', SlC 2 a' e' (outCells os2) rows' → outP os2 = outP os → Has σ' (rows' ++ (outRows os2 ++ L)) → K (.slice a' os2.length e') σ') : Tri Tryz.prog 17 [ptr g] σ K := tri_in (by
  rw [s17]
  refine ldm H hg rfl (tL_ok hso.no ?_)
  refine aloop (fun (i : Nat) rg σ' => i ≤ os.length ∧ ∃ la le os2 rows', SlC 2 la le (outCells os2) rows' ∧ outP os2 = (outP os).take i ∧ Has σ' (rows' ++ (outRows os2 ++ L)) ∧
    rg = [(3, some (.slice la os2.length le)), (11, some (.slice oa on 2)), (12, some (i64 on)), (13, some (i64 i))]) (fun i => os.length - i) ?_ (a := 0) ⟨Nat.zero_le _, none, 0, [], [], SlC.nil 0, rfl, H, rfl⟩
  rintro i rg σ1 X hX ⟨hi, la, le, os2, rows', hs, hp, H1, rfl⟩
  have hlen2 : os2.length = i := by
    have := congrArg List.length hp
    simp [outP] at this
    omega
  rw [s17l]
  refine bmd_mk (fun h => ?_) (fun h => ?_)
  · refine req_mk (by omega) (req_mk h ?_)
    have hi2 : i < os.length := by omega
    obtain ⟨q, rfl, rfl, rfl⟩ := hso.at (p := 0) (by rw [outCells_len]; omega)
    obtain ⟨p, hpi⟩ : ∃ p, os[i]? = some p := ⟨os[i], List.getElem?_eq_getElem hi2⟩
    simp only [pSome_some, aadd_none, szP38, Int.toNat_natCast, Nat.zero_add]
    refine req_mk trivial ?_
    refine ldsm H1 (i := q) (k := .rw) (cs := outCells os) (by simp [hr]) (by rw [outCells_len]; omega) ?_
    rw [outCells_at hpi]
    simp only [tCons_cons, tI_int]
    refine tL_mk ?_
    simp only [tNil_nil]
    refine newAt_mk H1 fun i0 σ2 H2 => ?_
    refine puts0 H2 rfl (by simp) fun σ3 H3 => ?_
    have H4 : Has σ3 ((i0, .row .plain [u32 p.1, .slice (some ⟨p.2.1, 0, none⟩) p.2.2.length 1]) :: (rows' ++ (outRows os2 ++ L))) := by simpa using H3
    refine ldm H4 List.mem_cons_self rfl (tI_mk ?_)
    refine ldm H4 List.mem_cons_self rfl (tL_mk ?_)
    have hrow : (p.2.1, AObj.row .rw (cellsU p.2.2)) ∈ L := hr2 _ (outRows_mem hpi)
    refine c45row (kk := .rw) (by simp [hrow]) (hos p (List.mem_of_getElem? hpi)) H4 fun j' σ4 H5 => ?_
    refine tL_mk ?_
    refine ldm H5 (List.mem_cons_of_mem _ List.mem_cons_self) rfl (tI_mk ⟨rfl, ?_⟩)
    refine pushC (new := [u32 p.1, .slice (some ⟨j', 0, none⟩) p.2.2.length 1]) (X := (j', .row .rw (cellsU p.2.2)) :: (outRows os2 ++ L)) hs (H5.sep (fun a => by simp only [cnt_app, cnt_cons, cnt_nil]; omega)) (by rw [outCells_len]; omega) rfl (by omega) (by omega) fun la' σ5 rows2 hs2 H6 => ?_
    rw [wrap1 (by omega)]
    refine hX (i + 1) _ _ (by omega) ⟨by omega, la', 2, os2 ++ [(p.1, j', p.2.2)], rows2, ?_, ?_, ?_, ?_⟩
    · rw [outCells_app]; simpa [outCells] using hs2
    · unfold outP at hp ⊢
      rw [List.map_append, hp, List.take_add_one, List.getElem?_map, hpi]
      rfl
    · refine H6.sep fun a => ?_
      rw [outRows_app]
      simp only [outRows, List.map_cons, List.map_nil, cnt_app, cnt_cons, cnt_nil]; omega
    · simp
  · have e : i = os.length := by omega
    refine hK la le os2 rows' σ1 hs ?_ H1
    rw [hp]
    exact List.take_of_length_le (by unfold outP; simp; omega))
/-- A window's text, copied. -/
theorem c19 {iv : Value} {rest : List Value} {g : Nat} {n cur id pane str : Int} {al tr sh w i : Nat} {es : List MapEntry} {ec : Nat} {oa ta : Option Addr} {on oe te : Nat} {T : List Int} {rowsT : List (Nat × AObj)} (hg : (g, glI iv n al tr sh oa on oe cur) ∈ L) (hal : (al, AObj.map es ec) ∈ L) (hf : Instr.findNow (.int .u32) (u32 id) es 0 = some (some (i, ptr w)))
    (hw : (w, winI rest pane str ta T.length te) ∈ L) (hst : SlC 1 ta te (cellsU T) rowsT) (hr : ∀ p ∈ rowsT, p ∈ L) (hT : T.length ≤ 100000) (H : Has σ L)
    (hK : ∀ a' e' rows' σ', SlC 1 a' e' (cellsU T) rows' → Has σ' (rows' ++ L) → K (.slice a' T.length e') σ') : Tri Tryz.prog 19 [ptr g, u32 id] σ K := tri_in (by
  rw [s19]
  refine cof hg hal (ob := w) hw hf H ?_
  simp only [tP_ptr, ptrEq_some, bm_false]
  refine ldm H hg rfl ?_
  simp only [tM_map]
  rw [mget_eq (H.g hal), hf]
  simp only [pSome_some, Option.map, Option.getD, tP_ptr]
  refine ldm H hw rfl (tL_ok hst.no ?_)
  refine c45 hst hr hT H fun a' e' rows' σ1 hs hn H1 => ?_
  refine tL_ok hn ?_
  exact hK a' 1 rows' σ1 hs.e1 H1)
end
end Go.AI
end
section
set_option linter.unusedSimpArgs false
set_option linter.unusedVariables false
set_option maxRecDepth 100000
/- What comes from outside, as a world keeps it; no condition but those that each names. -/
namespace Go.AI
open Go.Proofs
section
variable {σ : AS} {K : Value → AS → Prop} {L M X : List (Nat × AObj)}
/-- What comes from outside: a line or not, where its text lies, the text. -/
abbrev Ins := List (Bool × Option Addr × List Int)
def inCells (is : Ins) : List Value := is.flatMap fun p => [.bool p.1, .slice p.2.1 p.2.2.length 1]
theorem inCells_len (is : Ins) : (inCells is).length = 2 * is.length := by
  unfold inCells
  induction is with
  | nil => rfl
  | cons p is ih => rw [List.flatMap_cons, List.length_append, ih, List.length_cons]; simp; omega
theorem inCells_app (a b : Ins) : inCells (a ++ b) = inCells a ++ inCells b := by unfold inCells; simp
theorem inCells_at {is : Ins} {i : Nat} {p : Bool × Option Addr × List Int} (h : is[i]? = some p) : ((inCells is).drop (i * 2)).take 2 = [.bool p.1, .slice p.2.1 p.2.2.length 1] := by
  induction is generalizing i with
  | nil => simp at h
  | cons q is ih =>
    cases i with
    | zero =>
      simp only [List.getElem?_cons_zero, Option.some.injEq] at h
      subst h
      simp [inCells]
    | succ i =>
      simp only [List.getElem?_cons_succ] at h
      have := ih h
      rw [← this]
      unfold inCells
      rw [List.flatMap_cons, show (i + 1) * 2 = 2 + i * 2 by omega, ← List.drop_drop]
      rfl
theorem szP70 : szOf Tryz.prog 70 = 2 := by kernel_rfl
/-- A text from outside, copied. -/
theorem c45in {a : Option Addr} {T : List Int} (hin : Inp u32 a T L) (hT : T.length ≤ 100000) (H : Has σ L)
    (hK : ∀ a' rows' σ', SlC 1 a' 1 (cellsU T) rows' → Has σ' (rows' ++ L) → ∀ e', nilOr a' e' 1 = true → K (.slice a' T.length e') σ') : Tri Tryz.prog 45 [.slice a T.length 1] σ K := tri_in (by
  rw [s45]
  cases a with
  | none =>
    simp only [Option.isNone_none, bm_true]
    have hT0 : T = [] := by
      rcases hin with h | ⟨r, k, h, _⟩
      · exact h
      · cases h
    subst hT0
    exact hK none [] σ (SlC.nil 1) H 0 rfl
  | some a =>
    simp only [Option.isNone_some, bm_false]
    refine newAt_mk H fun i0 σ1 H1 => ?_
    have src : ∀ {G : Nat → List Value → Prop}, G T.length (cellsU T) → srcCells σ1 1 (some (.slice (some a) T.length 1)) G := by
      intro G hG
      unfold srcCells
      by_cases hm : T = []
      · subst hm
        exact req_mk rfl (lds_zero hG)
      · obtain ⟨r, k, hr1, hr⟩ := hin.resolve_left hm
        obtain rfl := Option.some.inj hr1
        refine req_mk rfl (ldsm H1 (List.mem_cons_of_mem _ hr) (by simp) ?_)
        have e : (((cellsU T).drop 0).take (T.length * 1)) = cellsU T := by rw [List.drop_zero, Nat.mul_one]; exact List.take_of_length_le (by simp)
        rw [e]
        exact hG
    refine src ?_
    refine append_mk (n := 0) (new := cellsU T) (m := T.length) H1 0 rfl rfl (by omega) (by simp) fun j' σ2 H2 => ?_
    have := hK (some ⟨j', 0, none⟩) [(j', .row .rw (cellsU T))] σ2 SlC.row (by simpa using H2) 1 rfl
    simpa using this)
end
end Go.AI
end
section
set_option linter.unusedSimpArgs false
set_option linter.unusedVariables false
set_option maxRecDepth 1000000
/- A world made with what comes from outside; no condition but those that each names. -/
namespace Go.AI
open Go.Proofs
theorem n43 : ∀ (K : Value → AS → Prop), callN Tryz.prog hints glE 80 43 [i64 20, i64 10] (can []) K = K (.tuple ⟨[ptr 1, i64 0]⟩) (can ([] ++ [.map [] 0, .row .plain [i64 20, i64 10, i64 0, i64 0, .map (some 0)]])) := by
  intros
  kernel_rfl
theorem n44 : ∀ (K : Value → AS → Prop), callN Tryz.prog hints glE 80 44 [i64 1048576] (can []) K = K (.tuple ⟨[ptr 2, i64 0]⟩) (can ([] ++ [.map [] 0, .map [] 0, .row .plain [i64 1048576, i64 0, .map (some 0), .map (some 1)]])) := by
  intros
  kernel_rfl
section
variable {σ : AS} {K : Value → AS → Prop} {L M X : List (Nat × AObj)}
theorem c43 (H : Has σ L) (hK : ∀ tm tr σ', Has σ' ([(tm, .map [] 0), (tr, .row .plain [i64 20, i64 10, i64 0, i64 0, .map (some tm)])] ++ L) → K (.tuple ⟨[ptr tr, i64 0]⟩) σ') : Tri Tryz.prog 43 [i64 20, i64 10] σ K := by
  refine tri_gh2 (Eq.tri (n43 _) ⟨rfl, rfl⟩) (ids := []) (zs := []) (Fr := L) rfl rfl rfl rfl (by simpa [pairs] using H) rfl (by simp [renVs, renV]) fun q σ' H' => ?_
  have := hK (q + 0) (q + 1) σ' (by simpa [mixG, AObj.own, RK.own, extraP, pairs, renO, renV, renE, pf] using H')
  simpa [renVs, renV, pf] using this
theorem c44 (H : Has σ L) (hK : ∀ fm sm sh σ', Has σ' ([(fm, .map [] 0), (sm, .map [] 0), (sh, .row .plain [i64 1048576, i64 0, .map (some fm), .map (some sm)])] ++ L) → K (.tuple ⟨[ptr sh, i64 0]⟩) σ') : Tri Tryz.prog 44 [i64 1048576] σ K := by
  refine tri_gh2 (Eq.tri (n44 _) ⟨rfl, rfl⟩) (ids := []) (zs := []) (Fr := L) rfl rfl rfl rfl (by simpa [pairs] using H) rfl (by simp [renVs, renV]) fun q σ' H' => ?_
  have := hK (q + 0) (q + 1) (q + 2) σ' (by simpa [mixG, AObj.own, RK.own, extraP, pairs, renO, renV, renE, pf] using H')
  simpa [renVs, renV, pf] using this
def inP (is : Ins) : List (Bool × List Int) := is.map fun p => (p.1, p.2.2)
/-- A world with what comes from outside. -/
theorem c13in {ia : Option Addr} {is : Ins} (hia : is = [] ∨ ∃ r k, ia = some ⟨r, 0, none⟩ ∧ (r, AObj.row k (inCells is)) ∈ X) (hin : ∀ p ∈ is, Inp u32 p.2.1 p.2.2 X) (hb : is.length ≤ 80) (ht : ∀ p ∈ is, p.2.2.length ≤ 2000) (H : Has σ X)
    (hK : ∀ (tm tr fm sm sh al g : Nat) ja je is2 rI rL σ', SlC 2 ja je (inCells is2) rI → inP is2 = inP is → (∀ p ∈ is2, Inp u32 p.2.1 p.2.2 rL) → Has σ' ([(tm, .map [] 0), (tr, .row .plain [i64 20, i64 10, i64 0, i64 0, .map (some tm)]), (fm, .map [] 0), (sm, .map [] 0), (sh, .row .plain [i64 1048576, i64 0, .map (some fm), .map (some sm)]), (al, .map [] 0),
      (g, glI (.slice ja is2.length je) 0 al tr sh none 0 0 0)] ++ (rI ++ (rL ++ X))) → K (.tuple ⟨[ptr g, i64 0]⟩) σ') :
    Tri Tryz.prog 13 [i64 20, i64 10, .slice ia is.length 2] σ K := tri_in (by
  rw [s13]
  refine c43 H fun tm tr σ1 H1 => ?_
  simp only [tTup_tup, pSome_some, List.getElem?_cons_zero, List.getElem?_cons_succ, tI_int, tP_ptr]
  refine bne_mk (fun h => absurd rfl h) (fun _ => ?_)
  refine c44 H1 fun fm sm sh σ2 H2 => ?_
  simp only [tTup_tup, pSome_some, List.getElem?_cons_zero, List.getElem?_cons_succ, tI_int, tP_ptr]
  refine newAt_mk H2 fun al σ3 H3 => newAt_mk H3 fun g σ4 H4 => ?_
  refine aloop (fun (i : Nat) rg σ' => i ≤ is.length ∧ (∃ ja je is2 rI rL, SlC 2 ja je (inCells is2) rI ∧ inP is2 = (inP is).take i ∧ (∀ p ∈ is2, Inp u32 p.2.1 p.2.2 rL) ∧
      Has σ' ((g, glI (.slice ja is2.length je) 0 al tr sh none 0 0 0) :: (rI ++ (rL ++ ((al, .map [] 0) :: (fm, .map [] 0) :: (sm, .map [] 0) :: (sh, .row .plain [i64 1048576, i64 0, .map (some fm), .map (some sm)]) :: (tm, .map [] 0) :: (tr, .row .plain [i64 20, i64 10, i64 0, i64 0, .map (some tm)]) :: X))))) ∧
    rg = [(12, some (ptr g)), (33, some (.slice ia is.length 2)), (34, some (i64 is.length)), (35, some (i64 i))]) (fun i => is.length - i) ?_ (a := 0) ⟨Nat.zero_le _, ⟨none, 0, [], [], [], SlC.nil 0, rfl, by simp, H4.sep fun a => by simp only [cnt_app, cnt_cons, cnt_nil, glI, List.length_nil, u32, i64, ptr]; omega⟩, rfl⟩
  rintro i rg σ5 Y hX ⟨hi, ⟨ja, je, is2, rI, rL, hs, hp, hin2, H5⟩, rfl⟩
  have hlen2 : is2.length = i := by
    have := congrArg List.length hp
    simp [inP] at this
    omega
  rw [s13l]
  refine bmd_mk (fun h => ?_) (fun h => ?_)
  · have hi2 : i < is.length := by omega
    obtain ⟨p, hpi⟩ : ∃ p, is[i]? = some p := ⟨is[i], List.getElem?_eq_getElem hi2⟩
    obtain ⟨r, kk, rfl, hr⟩ := hia.resolve_left (by intro h0; rw [h0] at hpi; simp at hpi)
    have hpm := List.mem_of_getElem? hpi
    refine req_mk (by omega) (req_mk h ?_)
    simp only [pSome_some, aadd_none, szP70, Int.toNat_natCast, Nat.zero_add]
    refine req_mk trivial ?_
    refine ldsm H5 (i := r) (k := kk) (cs := inCells is) (by simp [hr]) (by rw [inCells_len]; omega) ?_
    rw [inCells_at hpi]
    simp only [tCons_cons, tB_bool]
    refine tL_mk ?_
    simp only [tNil_nil]
    refine newAt_mk H5 fun i0 σ6 H6 => ?_
    refine puts0 H6 rfl (by simp) fun σ7 H7 => ?_
    have H8 : Has σ7 ((i0, .row .plain [.bool p.1, .slice p.2.1 p.2.2.length 1]) :: (g, glI (.slice ja is2.length je) 0 al tr sh none 0 0 0) :: (rI ++ (rL ++ ((al, .map [] 0) :: (fm, .map [] 0) :: (sm, .map [] 0) :: (sh, .row .plain [i64 1048576, i64 0, .map (some fm), .map (some sm)]) :: (tm, .map [] 0) :: (tr, .row .plain [i64 20, i64 10, i64 0, i64 0, .map (some tm)]) :: X)))) := by simpa using H7
    refine ldm H8 (List.mem_cons_of_mem _ List.mem_cons_self) rfl (tL_ok hs.no ?_)
    refine ldm H8 List.mem_cons_self rfl ?_
    simp only [tB_bool]
    refine ldm H8 List.mem_cons_self rfl (tL_mk ?_)
    refine c45in ((hin p hpm).mono fun q hq => by simp [hq]) (by have := ht p hpm; omega) H8 fun a' rows' σ8 hsa H9 e' hn => ?_
    refine tL_ok hn ?_
    refine ldm H9 (List.mem_append_right _ List.mem_cons_self) rfl ?_
    simp only [tB_bool]
    refine ⟨trivial, ?_⟩
    refine ldm H9 (List.mem_append_right _ (List.mem_cons_of_mem _ List.mem_cons_self)) rfl (tL_ok hs.no ⟨rfl, ?_⟩)
    refine newAt_mk H9 fun i1 σ9 H10 => ?_
    refine ldm H10 (List.mem_cons_of_mem _ (List.mem_append_right _ (List.mem_cons_of_mem _ List.mem_cons_self))) rfl (tL_ok hs.no ⟨rfl, ?_⟩)
    refine lds_mk H10 0 rfl (by simp) ?_
    have e0 : (([.bool p.1, .slice a' p.2.2.length 1] : List Value).drop 0).take 2 = [.bool p.1, .slice a' p.2.2.length 1] := rfl
    rw [e0]
    refine appC (new := [.bool p.1, .slice a' p.2.2.length 1]) (m := 1) hs (H10.sep (M := rI ++ ((g, glI (.slice ja is2.length je) 0 al tr sh none 0 0 0) :: (rows' ++ (rL ++ ((al, .map [] 0) :: (fm, .map [] 0) :: (sm, .map [] 0) :: (sh, .row .plain [i64 1048576, i64 0, .map (some fm), .map (some sm)]) :: (tm, .map [] 0) :: (tr, .row .plain [i64 20, i64 10, i64 0, i64 0, .map (some tm)]) :: X))))) (fun a => by simp only [cnt_app, cnt_cons, cnt_nil]; omega)) (by rw [inCells_len]; omega) rfl (by omega) (by omega) fun ja' σ10 rI' hs' H11 => ?_
    refine put0 (H11.sep (M := (g, glI (.slice ja is2.length je) 0 al tr sh none 0 0 0) :: (rI' ++ (rows' ++ (rL ++ ((al, .map [] 0) :: (fm, .map [] 0) :: (sm, .map [] 0) :: (sh, .row .plain [i64 1048576, i64 0, .map (some fm), .map (some sm)]) :: (tm, .map [] 0) :: (tr, .row .plain [i64 20, i64 10, i64 0, i64 0, .map (some tm)]) :: X))))) (fun a => by simp only [cnt_app, cnt_cons, cnt_nil]; omega)) rfl (by simp [glI]) fun σ11 H12 => ?_
    rw [wrap1 (by omega)]
    refine hX (i + 1) _ _ (by omega) ⟨by omega, ⟨ja', 2, is2 ++ [(p.1, a', p.2.2)], rI', rows' ++ rL, ?_, ?_, ?_, ?_⟩, rfl⟩
    · rw [inCells_app]; simpa [inCells] using hs'
    · unfold inP at hp ⊢
      rw [List.map_append, hp, List.take_add_one, List.getElem?_map, hpi]
      rfl
    · intro q hq
      rcases List.mem_append.1 hq with hq | hq
      · exact (hin2 q hq).mono fun y hy => List.mem_append_right _ hy
      · simp only [List.mem_singleton] at hq
        subst hq
        rcases hsa with ⟨h1, h2, h3⟩ | ⟨j, h1, h2, h3⟩
        · exact .inl (by simpa using h2)
        · exact .inr ⟨j, .rw, h1, by rw [h3]; simp⟩
    · refine H12.sep fun a => ?_
      simp only [List.length_append, List.length_singleton, cnt_app, cnt_cons, cnt_nil, glI, List.set_cons_zero, List.set_cons_succ, Nat.zero_add]; omega
  · have e : i = is.length := by omega
    refine hK tm tr fm sm sh al g ja je is2 rI rL σ5 hs ?_ hin2 (H5.sep fun a => by simp only [cnt_app, cnt_cons, cnt_nil]; omega)
    rw [hp]
    exact List.take_of_length_le (by unfold inP; simp; omega))
end
end Go.AI
end
section
set_option linter.unusedSimpArgs false
set_option linter.unusedVariables false
set_option maxRecDepth 100000
/- A line asked for in a window; no condition but those that each names. -/
namespace Go.AI
open Go.Proofs
section
variable {σ : AS} {K : Value → AS → Prop} {L M X : List (Nat × AObj)}
/-- A window's cells behind its text: what it asks for. -/
def rsL (asks buf most : Int) : List Value := [.map none, u32 0, u32 0, i64 asks, u32 buf, u32 most, u32 0, i64 0, u32 0, i64 0, .bool false, u32 0, .string (ByteArray.mk #[])]
theorem n46h : ∀ (σ : AS) (K : Value → AS → Prop), callN Tryz.prog hints glE 80 46 [u32 208] σ K = K (i64 4) σ := by
  intros
  kernel_rfl
theorem n46i : ∀ (σ : AS) (K : Value → AS → Prop), callN Tryz.prog hints glE 80 46 [u32 192] σ K = K (i64 1) σ := by
  intros
  kernel_rfl
theorem c16la {iv : Value} {g al tr sh ar m w i : Nat} {n cur id pane str b0 m0 buf most : Int} {es : List MapEntry} {ec : Nat} {oa ta : Option Addr} {on oe tn te : Nat} (hg : (g, glI iv n al tr sh oa on oe cur) ∈ M) (hal : (al, AObj.map es ec) ∈ M) (hf : Instr.findNow (.int .u32) (u32 id) es 0 = some (some (i, ptr w))) (har : (ar, AObj.row .rw [u32 id, u32 buf, u32 most, u32 0]) ∈ M)
    (H : Has σ ((w, winI (rsL 0 b0 m0) pane str ta tn te) :: M)) (hK : ∀ σ', Has σ' ((w, winI (rsL 1 buf most) pane str ta tn te) :: M) → K (.tuple ⟨[u32 0, i64 0]⟩) σ') :
    Tri Tryz.prog 16 [ptr g, .iface 29 (ptr m), u32 208, .slice (some ⟨ar, 0, none⟩) 4 1] σ K := tri_in (by
  rw [s16la]
  refine ldm H (List.mem_cons_of_mem _ hg) rfl ?_
  simp only [tB_bool, bm_false]
  refine tri_hard ?_
  rw [n46h]
  refine tI_mk (bne_mk (fun h => absurd rfl h) (fun _ => ?_))
  refine newAt_mk H fun c σ1 H1 => tri_in ?_
  rw [s52la]
  have hc := H1.g (i := c) List.mem_cons_self
  have hw : ∀ {y : Nat × AObj}, (w, winI (rsL 0 b0 m0) pane str ta tn te) ∈ y :: (w, winI (rsL 0 b0 m0) pane str ta tn te) :: M := List.mem_cons_of_mem _ List.mem_cons_self
  rw [ldc_eq hc]
  simp only [Nat.zero_add, List.getElem?_cons_zero, List.getElem?_cons_succ, pSome_some, tP_ptr]
  rw [ldc_eq hc]
  simp only [Nat.zero_add, List.getElem?_cons_zero, List.getElem?_cons_succ, pSome_some]
  refine tL_mk (req_mk (by simp only; omega) ?_)
  simp only [pSome_some, aadd_none, szP32]
  refine ldm H1 (m2 har) rfl (tI_mk ?_)
  refine cof (ob := w) (m2 hg) (m2 hal) hw hf H1 ?_
  simp only [tP_ptr, ptrEq_some, bm_false, pSome_some]
  refine ldm H1 hw rfl (tI_mk (beq_mk (fun _ => ?_) (fun h => absurd rfl h)))
  refine ldm H1 hw rfl (tI_mk (beq_mk (fun _ => ?_) (fun h => absurd rfl h)))
  rw [ldc_eq hc]
  simp only [Nat.zero_add, List.getElem?_cons_zero, List.getElem?_cons_succ, pSome_some]
  refine tL_mk (req_mk (by simp only; omega) ?_)
  simp only [pSome_some, aadd_none, szP32]
  refine ldm H1 (m2 har) rfl (tI_mk ?_)
  rw [ldc_eq hc]
  simp only [Nat.zero_add, List.getElem?_cons_zero, List.getElem?_cons_succ, pSome_some]
  refine tL_mk (req_mk (by simp only; omega) ?_)
  simp only [pSome_some, aadd_none, szP32]
  refine ldm H1 (m2 har) rfl (tI_mk ?_)
  refine put0 (H1.sep (M := (w, winI (rsL 0 b0 m0) pane str ta tn te) :: M) (fun a => by simp only [cnt_app, cnt_cons, cnt_nil]; omega)) rfl (by simp [winI, rsL]) fun σ2 H2 => ?_
  refine put0 H2 rfl (by simp [winI, rsL]) fun σ3 H3 => ?_
  refine put0 H3 rfl (by simp [winI, rsL]) fun σ4 H4 => ?_
  simp only [tTup_tup, pSome_some, List.getElem?_cons_zero, List.getElem?_cons_succ, tI_int]
  exact hK σ4 (by simpa [winI, rsL] using H4))
end
end Go.AI
end
