/- Streams on a file, narrow or wide: size, tell, read, by what is known of the file's bytes. -/
import Derived.Test.YtpgedoljndppdaaShSeeks
set_option maxRecDepth 4000
set_option linter.unusedVariables false
set_option linter.unusedSimpArgs false
namespace Go.AI
open Go.Proofs
section
variable {σ : AS} {K : Value → AS → Prop}
def tyW (w : Bool) : TypeId := match w with | true => 83 | false => 78
def szF (w : Bool) : FuncId := match w with | true => 99 | false => 95
def atF (w : Bool) : FuncId := match w with | true => 96 | false => 92
def putF (w : Bool) : FuncId := match w with | true => 98 | false => 94
def moreF (w : Bool) : FuncId := match w with | true => 97 | false => 93
theorem meth_size_g (w : Bool) : methodOf Try.prog (tyW w) "grotto/shelf.size" = some (szF w) := by cases w <;> kernel_rfl
theorem meth_at_g (w : Bool) : methodOf Try.prog (tyW w) "grotto/shelf.at" = some (atF w) := by cases w <;> kernel_rfl
theorem meth_put_g (w : Bool) : methodOf Try.prog (tyW w) "grotto/shelf.put" = some (putF w) := by cases w <;> kernel_rfl
theorem meth_more_g (w : Bool) : methodOf Try.prog (tyW w) "grotto/shelf.more" = some (moreF w) := by cases w <;> kernel_rfl
theorem holdV_eq (w : Bool) (fi : Nat) : holdV w fi = .iface (tyW w) (hold fi) := by cases w <;> rfl
/-- How many characters there are, and which. -/
def sizeW (w : Bool) (bs : List Int) : Nat := match w with | true => bs.length / 4 | false => bs.length
def viewAt (w : Bool) (bs : List Int) (p : Nat) : Int := match w with | true => beV ((bs.drop (4 * p)).take 4) | false => bs.getD p 0
theorem sizeW_le (w : Bool) (bs : List Int) : sizeW w bs ≤ bs.length := by cases w <;> simp only [sizeW] <;> omega
theorem csize {w : Bool} {fi j : Nat} {bs : List Int} {op : Value} {mid fr : List (Nat × AObj)} (H : Has σ (fileL fi j bs op mid fr)) (hl : bs.length ≤ 1099511627776) (hK : ∀ σ', Has σ' (fileL fi j bs op mid fr) → K (i64 (sizeW w bs)) σ') : Tri Try.prog (szF w) [hold fi] σ K := by
  cases w with
  | true => exact c99 H hl hK
  | false => exact c95 H hK
theorem cat {w : Bool} {fi j p : Nat} {bs : List Int} {op : Value} {mid fr : List (Nat × AObj)} (H : Has σ (fileL fi j bs op mid fr)) (hl : bs.length ≤ 1099511627776) (hb : ∀ c ∈ bs, 0 ≤ c ∧ c < 256) (hp : p < sizeW w bs) (hK : ∀ σ', Has σ' (fileL fi j bs op mid fr) → K (u32 (viewAt w bs p)) σ') : Tri Try.prog (atF w) [hold fi, i64 p] σ K := by
  cases w with
  | true => exact c96 H hl (by simp only [sizeW] at hp; omega) hb hK
  | false =>
    have hp : p < bs.length := hp
    have e : bs[p]? = some (viewAt false bs p) := by simp [viewAt, hp]
    exact c92 H e (hb _ (List.mem_of_getElem? e)) hK
theorem fl_set {fi j q : Nat} {bs : List Int} {op : Value} {mid fr : List (Nat × AObj)} {a p : Nat × AObj} (h : mid[q]? = some a) : (fileL fi j bs op mid fr).set (q + 1) p = fileL fi j bs op (mid.set q p) fr := by
  have hq : q < mid.length := (List.getElem?_eq_some_iff.1 h).1
  simp only [fileL, List.cons_append, List.set_cons_succ]
  rw [List.set_append_left _ _ hq]
variable {fi j x s st f q qs qm qn : Nat} {bs : List Int} {es : List MapEntry} {cn : Nat} {op : Value} {mid fr : List (Nat × AObj)} {most last n : Int} {mode place rd wr : Int} {w : Bool}
theorem c15g (H : Has σ (fileL fi j bs op mid fr)) (ex : mid[q]? = some (x, streamO (holdV w fi) (ptr fi) mode place rd wr)) (es_ : mid[qs]? = some (s, shelfO most last f st)) (em : mid[qm]? = some (st, .map es cn))
    (hf : Instr.findNow (.int .i64) (i64 n) es 0 = some (some (qn, ptr x))) (hl : bs.length ≤ 1099511627776)
    (hK : ∀ σ', Has σ' (fileL fi j bs op mid fr) → K (.tuple ⟨[i64 place, i64 (sizeW w bs), i64 0]⟩) σ') : Tri Try.prog 15 [ptr s, i64 n] σ K := tri_in (by
  rw [s15]
  refine c29 (H.at (qs + 1) (mid_at es_)) (H.at (qm + 1) (mid_at em)) hf ?_
  simp only [tTup_tup, pSome_some, tP_ptr, tI_int, List.getElem?_cons_zero, List.getElem?_cons_succ, bne_self_eq_false, bm_false]
  refine ldc_mk H (q + 1) (mid_at ex) rfl (tI_mk ?_)
  simp only [add_none]
  refine ldc_mk H (q + 1) (mid_at ex) rfl ?_
  simp only [holdV_eq, tIf_if, meth_size_g, pSome_some]
  refine csize H hl fun σ1 H1 => tI_mk ?_
  refine ldc_mk H1 (q + 1) (mid_at ex) rfl (tI_mk ⟨rfl, ?_⟩)
  exact hK σ1 H1)
theorem c16g_end (H : Has σ (fileL fi j bs op mid fr)) (ex : mid[q]? = some (x, streamO (holdV w fi) (ptr fi) mode place rd wr)) (es_ : mid[qs]? = some (s, shelfO most last f st)) (em : mid[qm]? = some (st, .map es cn))
    (hf : Instr.findNow (.int .i64) (i64 n) es 0 = some (some (qn, ptr x))) (hl : bs.length ≤ 1099511627776) (hmode : mode = 2 ∨ mode = 3) (hp : (sizeW w bs : Int) ≤ place)
    (hK : ∀ σ', Has σ' (fileL fi j bs op mid fr) → K (.tuple ⟨[u32 0, .bool false, i64 0]⟩) σ') : Tri Try.prog 16 [ptr s, i64 n] σ K := tri_in (by
  rw [s16]
  refine c33 (H.at (qs + 1) (mid_at es_)) (H.at (qm + 1) (mid_at em)) hf (H.at (q + 1) (mid_at ex)) hmode ?_
  simp only [tTup_tup, pSome_some, tP_ptr, tI_int, List.getElem?_cons_zero, List.getElem?_cons_succ, bne_self_eq_false, bm_false]
  refine ldc_mk H (q + 1) (mid_at ex) rfl (tI_mk ?_)
  simp only [add_none]
  refine ldc_mk H (q + 1) (mid_at ex) rfl ?_
  simp only [holdV_eq, tIf_if, meth_size_g, pSome_some]
  refine csize H hl fun σ1 H1 => tI_mk ?_
  refine ldc_mk H1 (q + 1) (mid_at ex) rfl (tI_mk ⟨rfl, ?_⟩)
  refine bm_mk (fun _ => hK σ1 H1) (fun h => absurd hp (of_decide_eq_false h)))
theorem c16g_more {p : Nat} (H : Has σ (fileL fi j bs op mid fr)) (ex : mid[q]? = some (x, streamO (holdV w fi) (ptr fi) mode (p : Int) rd wr)) (es_ : mid[qs]? = some (s, shelfO most last f st)) (em : mid[qm]? = some (st, .map es cn))
    (hf : Instr.findNow (.int .i64) (i64 n) es 0 = some (some (qn, ptr x))) (hl : bs.length ≤ 1099511627776) (hb : ∀ c ∈ bs, 0 ≤ c ∧ c < 256) (hmode : mode = 2 ∨ mode = 3) (hp : p < sizeW w bs)
    (hK : ∀ σ', Has σ' (fileL fi j bs op (mid.set q (x, streamO (holdV w fi) (ptr fi) mode ((p : Int) + 1) (IntKind.wrap .u32 (rd + 1)) wr)) fr) → K (.tuple ⟨[u32 (viewAt w bs p), .bool true, i64 0]⟩) σ') : Tri Try.prog 16 [ptr s, i64 n] σ K := tri_in (by
  have hq : q < mid.length := (List.getElem?_eq_some_iff.1 ex).1
  have hsz := sizeW_le w bs
  rw [s16]
  refine c33 (H.at (qs + 1) (mid_at es_)) (H.at (qm + 1) (mid_at em)) hf (H.at (q + 1) (mid_at ex)) hmode ?_
  simp only [tTup_tup, pSome_some, tP_ptr, tI_int, List.getElem?_cons_zero, List.getElem?_cons_succ, bne_self_eq_false, bm_false]
  refine ldc_mk H (q + 1) (mid_at ex) rfl (tI_mk ?_)
  simp only [add_none]
  refine ldc_mk H (q + 1) (mid_at ex) rfl ?_
  simp only [holdV_eq, tIf_if, meth_size_g, pSome_some]
  refine csize H hl fun σ1 H1 => tI_mk ?_
  refine ldc_mk H1 (q + 1) (mid_at ex) rfl (tI_mk ⟨rfl, ?_⟩)
  refine bm_mk (fun h => absurd (of_decide_eq_true h) (by omega)) (fun _ => ?_)
  refine ldc_mk H1 (q + 1) (mid_at ex) rfl (tI_mk ?_)
  rw [wrap64 (n := (p : Int) + 1) (by omega) (by omega)]
  refine put1_mk H1 (q + 1) (mid_at ex) rfl (by simp) fun σ2 H2 => ?_
  rw [fl_set ex] at H2
  have ex2 : (mid.set q (x, AObj.row .plain ([holdV w fi, ptr fi, i64 mode, i64 p, u32 rd, u32 wr].set 3 (i64 ((p : Int) + 1)))))[q]? = some (x, streamO (holdV w fi) (ptr fi) mode ((p : Int) + 1) rd wr) := by
    rw [List.getElem?_set_self hq]; rfl
  refine ldc_mk H2 (q + 1) (mid_at ex2) rfl (tI_mk ?_)
  refine put1_mk H2 (q + 1) (mid_at ex2) rfl (by simp) fun σ3 H3 => ?_
  rw [fl_set ex2, List.set_set] at H3
  have ex3 : (mid.set q (x, AObj.row .plain ([holdV w fi, ptr fi, i64 mode, i64 ((p : Int) + 1), u32 rd, u32 wr].set 4 (u32 (IntKind.wrap .u32 (rd + 1))))))[q]? = some (x, streamO (holdV w fi) (ptr fi) mode ((p : Int) + 1) (IntKind.wrap .u32 (rd + 1)) wr) := by
    rw [List.getElem?_set_self hq]; rfl
  refine ldc_mk H3 (q + 1) (mid_at ex3) rfl ?_
  simp only [holdV_eq, tIf_if]
  refine ldc_mk H3 (q + 1) (mid_at ex3) rfl (tI_mk ?_)
  simp only [meth_at_g, pSome_some]
  have e2 : IntKind.wrap .i64 ((p : Int) + 1 - 1) = (p : Int) := by rw [wrap64 (by omega) (by omega)]; omega
  rw [e2]
  refine cat (w := w) (p := p) H3 hl hb hp fun σ4 H5 => ?_
  simp only [tI_int]
  exact hK σ4 H5)
end
end Go.AI
