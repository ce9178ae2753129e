/- Lemmas of the abstract condition ahead of code (a part of the library that the claim's proof stands on); they hold with no condition but those that each names. -/
import Derived.Test.YtpgedoljndppdaaGreatSzRef
import Derived.Test.YtpgedoljndppdaaGreatSzForm2
section
set_option linter.unusedSimpArgs false
set_option linter.unusedVariables false
set_option maxRecDepth 10000
/- The program: what lies behind a stream, a file by one byte or by four, a row of characters; no condition but those that each names. -/
namespace Go.AI
open Go.Proofs Go.Shelf
abbrev fiO (a : Option Addr) (n e : Nat) (oa : Option Addr) (on oe : Nat) : AObj := .row .plain [.slice a n e, .slice oa on oe]
abbrev buO (a : Option Addr) (n : Nat) (w : Bool) : AObj := .row .plain [.slice a n 1, .bool w]
abbrev hold (fi : Nat) : Value := .agg ⟨[ptr fi]⟩
def tyW (w : Bool) : TypeId := match w with | true => 107 | false => 106
def szF (w : Bool) : FuncId := match w with | true => 129 | false => 125
def atF (w : Bool) : FuncId := match w with | true => 126 | false => 122
def puF (w : Bool) : FuncId := match w with | true => 128 | false => 124
def moF (w : Bool) : FuncId := match w with | true => 127 | false => 123
abbrev tyB : TypeId := 118
theorem meth_size_g (w : Bool) : methodOf Tryz.prog (tyW w) "grotto/shelf.size" = some (szF w) := by cases w <;> kernel_rfl
theorem meth_at_g (w : Bool) : methodOf Tryz.prog (tyW w) "grotto/shelf.at" = some (atF w) := by cases w <;> kernel_rfl
theorem meth_put_g (w : Bool) : methodOf Tryz.prog (tyW w) "grotto/shelf.put" = some (puF w) := by cases w <;> kernel_rfl
theorem meth_more_g (w : Bool) : methodOf Tryz.prog (tyW w) "grotto/shelf.more" = some (moF w) := by cases w <;> kernel_rfl
theorem meth_size_b : methodOf Tryz.prog tyB "grotto/shelf.size" = some 135 := by kernel_rfl
theorem meth_at_b : methodOf Tryz.prog tyB "grotto/shelf.at" = some 133 := by kernel_rfl
theorem meth_put_b : methodOf Tryz.prog tyB "grotto/shelf.put" = some 55 := by kernel_rfl
section
variable {σ : AS} {K : Value → AS → Prop} {X rows : List (Nat × AObj)} {fi e on oe : Nat} {a oa : Option Addr} {bs : List Int} {w : Bool}
theorem c68 {c : Int} (hc : 0 ≤ c) (hK : K (u8 (putC false c)) σ) : Tri Tryz.prog 68 [u32 c] σ K := tri_in (by
  rw [s68]
  simp only [putC, Bool.false_eq_true, if_false] at hK
  refine bmd_mk (fun h => ?_) (fun h => ?_)
  · rw [if_pos h] at hK; exact hK
  · rw [if_neg h] at hK
    rw [wrapU8 (by omega) (by omega)]; exact hK)
theorem csz (H : Has σ ((fi, fiO a bs.length e oa on oe) :: (rows ++ X))) (hs : SlC 1 a e (cells8 bs) rows) (hl : bs.length ≤ 1099511627776) (hK : ∀ σ', Has σ' ((fi, fiO a bs.length e oa on oe) :: (rows ++ X)) → K (i64 (sizeW w bs)) σ') : Tri Tryz.prog (szF w) [hold fi] σ K := by
  cases w with
  | true =>
    refine tri_in ?_
    show fw _ _ _ 129 _ _ _
    rw [s129]
    refine newAt_mk H fun i0 σ1 H1 => ?_
    simp only [ldc_eq (H1.at 0 rfl), ldc_eq (H1.at 1 rfl), tL_ok_eq hs.no, tP_ptr, pSome_some, List.getElem?_cons_zero, Nat.add_zero, add_none]
    have : Int.tdiv (bs.length : Int) 4 = ((bs.length / 4 : Nat) : Int) := by rw [Int.tdiv_eq_ediv_of_nonneg (by omega)]; omega
    rw [this, wrap64 (by omega) (by omega)]
    exact hK σ1 (H1.sep (fun a => by simp only [cnt_app, cnt_cons]; omega))
  | false =>
    refine tri_in ?_
    show fw _ _ _ 125 _ _ _
    rw [s125]
    refine newAt_mk H fun i0 σ1 H1 => ?_
    simp only [ldc_eq (H1.at 0 rfl), ldc_eq (H1.at 1 rfl), tL_ok_eq hs.no, tP_ptr, pSome_some, List.getElem?_cons_zero, Nat.add_zero, add_none]
    exact hK σ1 (H1.sep (fun a => by simp only [cnt_app, cnt_cons]; omega))
theorem cmo {n : Nat} (H : Has σ ((fi, fiO a bs.length e oa on oe) :: (rows ++ X))) (hs : SlC 1 a e (cells8 bs) rows) (hl : bs.length ≤ 1099511627776) (hn : n ≤ 1099511627776) (hK : ∀ σ', Has σ' ((fi, fiO a bs.length e oa on oe) :: (rows ++ X)) → K (i64 (unW w * n - bs.length : Nat)) σ') : Tri Tryz.prog (moF w) [hold fi, i64 n] σ K := by
  have em : ∀ z : Nat, imax 0 ((z : Int) - bs.length) = ((z - bs.length : Nat) : Int) := fun z => by unfold imax; split <;> omega
  cases w with
  | true =>
    refine tri_in ?_
    show fw _ _ _ 127 _ _ _
    rw [s127]
    refine newAt_mk H fun i0 σ1 H1 => ?_
    simp only [ldc_eq (H1.at 0 rfl), ldc_eq (H1.at 1 rfl), tL_ok_eq hs.no, tP_ptr, pSome_some, List.getElem?_cons_zero, Nat.add_zero, add_none]
    have e4 : (4 * (n : Int)) = ((4 * n : Nat) : Int) := by omega
    rw [wrap64 (n := 4 * (n : Int)) (by omega) (by omega), wrap64 (by omega) (by omega), e4, em]
    exact hK σ1 (H1.sep (fun a => by simp only [cnt_app, cnt_cons]; omega))
  | false =>
    refine tri_in ?_
    show fw _ _ _ 123 _ _ _
    rw [s123]
    refine newAt_mk H fun i0 σ1 H1 => ?_
    simp only [ldc_eq (H1.at 0 rfl), ldc_eq (H1.at 1 rfl), tL_ok_eq hs.no, tP_ptr, pSome_some, List.getElem?_cons_zero, Nat.add_zero, add_none]
    rw [wrap64 (by omega) (by omega), em]
    have := hK σ1 (H1.sep (fun a => by simp only [cnt_app, cnt_cons]; omega))
    simp only [unW, Nat.one_mul] at this
    exact this
theorem cat {p : Nat} (H : Has σ ((fi, fiO a bs.length e oa on oe) :: (rows ++ X))) (hs : SlC 1 a e (cells8 bs) rows) (hl : bs.length ≤ 1099511627776) (hb : ∀ c ∈ bs, 0 ≤ c ∧ c < 256) (hp : p < sizeW w bs) (hK : ∀ σ', Has σ' ((fi, fiO a bs.length e oa on oe) :: (rows ++ X)) → K (u32 (Go.Shelf.viewAt w bs p)) σ') : Tri Tryz.prog (atF w) [hold fi, i64 p] σ K := by
  have hpl : 0 < bs.length := by have := sizeW_le w bs; omega
  obtain ⟨j, rfl, rfl, rfl⟩ := hs.at (p := 0) (by simpa using hpl)
  cases w with
  | true =>
    have hp : p < bs.length / 4 := hp
    refine tri_in ?_
    show fw _ _ _ 126 _ _ _
    rw [s126]
    refine newAt_mk H fun i0 σ1 H1 => ?_
    simp only [ldc_eq (H1.at 0 rfl), ldc_eq (H1.at 1 rfl), tP_ptr, tL_sl, pSome_some, List.getElem?_cons_zero, Nat.add_zero, add_none]
    have e4 : (4 * (p : Int)) = ((4 * p : Nat) : Int) := by omega
    rw [wrap64 (n := 4 * (p : Int)) (by omega) (by omega), e4]
    refine c130 (l := bs) (.inr ⟨j, .rw, cells8 bs, rfl, H1.g (by simp), fun i v hv => by rw [Nat.zero_add, List.getElem?_map, hv]; rfl⟩) hb hl (by omega) ?_
    simp only [tI_int, tTup_tup, pSome_some, List.getElem?_cons_zero, List.getElem?_cons_succ]
    exact hK σ1 (H1.sep (fun a => by simp only [cnt_cons, List.cons_append, List.nil_append]; omega))
  | false =>
    have hp : p < bs.length := hp
    refine tri_in ?_
    show fw _ _ _ 122 _ _ _
    rw [s122]
    refine newAt_mk H fun i0 σ1 H1 => ?_
    simp only [ldc_eq (H1.at 0 rfl), ldc_eq (H1.at 1 rfl), tP_ptr, tL_sl, pSome_some, List.getElem?_cons_zero, Nat.zero_add, Nat.add_zero, add_none]
    refine req_mk (by omega) (req_mk (by omega) ?_)
    have hv : bs[p]? = some (bs[p]'hp) := by simp
    have hcv : (cells8 bs)[p]? = some (u8 (bs[p]'hp)) := by rw [List.getElem?_map, hv]; rfl
    simp only [sz5, Int.toNat_natCast, Nat.mul_one, ldc_eq (H1.at 2 rfl), hcv, tI_int, pSome_some]
    have bv := hb _ (List.mem_of_getElem? hv)
    rw [wrapU32 bv.1 (by omega)]
    have := hK σ1 (H1.sep (fun a => by simp only [cnt_cons, List.cons_append, List.nil_append]; omega))
    unfold Go.Shelf.viewAt at this
    rw [List.getD_eq_getElem?_getD, hv] at this
    exact this
/-- A character is put to a file. -/
theorem cpu {p : Nat} {c : Int} (H : Has σ ((fi, fiO a bs.length e oa on oe) :: (rows ++ X))) (hs : SlC 1 a e (cells8 bs) rows) (hl : bs.length ≤ 1099511627776) (hc : 0 ≤ c ∧ c ≤ 4294967295) (hp : unW w * p ≤ bs.length)
    (hK : ∀ σ' a' rows', SlC 1 a' 1 (cells8 (setA bs (unW w * p) (enc1 w c))) rows' → Has σ' ((fi, fiO a' (setA bs (unW w * p) (enc1 w c)).length 1 oa on oe) :: (rows' ++ X)) → K unit0 σ') : Tri Tryz.prog (puF w) [hold fi, i64 p, u32 c] σ K := by
  cases w with
  | false =>
    simp only [unW, Nat.one_mul] at hp hK
    refine tri_in ?_
    show fw _ _ _ 124 _ _ _
    rw [s124]
    refine newAt_mk H fun i0 σ1 H1 => ?_
    -- a byte that is there is put
    have put : ∀ {σ2 : AS} {a2 : Option Addr} {e2 : Nat} {rows2 : List (Nat × AObj)} {bs2 : List Int}, SlC 1 a2 e2 (cells8 bs2) rows2 → Has σ2 ((i0, .row .plain [ptr fi]) :: ((fi, fiO a2 bs2.length e2 oa on oe) :: (rows2 ++ X))) → p < bs2.length → bs2.set p (putC false c) = setA bs p (enc1 false c) →
        JoinS (jn Tryz.prog hintsS (Tri Tryz.prog) 124 [true] [] K) [(1, some (i64 p)), (2, some (u32 c)), (3, some (ptr i0))] σ2 := by
      intro σ2 a2 e2 rows2 bs2 hs2 H2 hlt hset
      refine ⟨?_⟩
      rw [s124j]
      obtain ⟨j, rfl, rfl, rfl⟩ := hs2.at (p := 0) (by rw [List.length_map]; omega)
      simp only [ldc_eq (H2.at 0 rfl), ldc_eq (H2.at 1 rfl), tP_ptr, tL_sl, pSome_some, List.getElem?_cons_zero, Nat.zero_add, Nat.add_zero, add_none]
      refine c68 hc.1 ?_
      simp only [ldc_eq (H2.at 0 rfl), ldc_eq (H2.at 1 rfl), true_and, tI_int, tP_ptr, tL_sl, pSome_some, List.getElem?_cons_zero]
      refine req_mk (by omega) (req_mk (by omega) ?_)
      simp only [sz5, Int.toNat_natCast, Nat.mul_one]
      have H3 : Has σ2 ((j, .row .rw (cells8 bs2)) :: ((fi, fiO (some ⟨j, 0, none⟩) bs2.length 1 oa on oe) :: X)) := H2.sep (fun a => by simp only [cnt_cons, List.cons_append, List.nil_append, ptr]; omega)
      refine put0 H3 rfl (by rw [List.length_map]; exact hlt) fun σ3 H4 => ?_
      have e1 : (cells8 bs2).set p (u8 (putC false c)) = cells8 (setA bs p (enc1 false c)) := by rw [← hset]; exact (List.map_set (f := u8)).symm
      have e2 : bs2.length = (setA bs p (enc1 false c)).length := by rw [← hset, List.length_set]
      rw [e1, e2] at H4
      exact hK σ3 _ _ (SlC.row (j := j)) (H4.sep (fun a => by simp only [cnt_cons, List.cons_append, List.nil_append]; omega))
    have hst := setA_step (b := bs) (P := enc1 false c) (i := p) (q := 0) (p := putC false c) hp rfl
    simp only [List.take_zero, setA_nil, Nat.add_zero, Nat.zero_add] at hst
    have et : (enc1 false c).take 1 = enc1 false c := rfl
    rw [et] at hst
    simp only [ldc_eq (H1.at 0 rfl), ldc_eq (H1.at 1 rfl), tL_ok_eq hs.no, tP_ptr, pSome_some, List.getElem?_cons_zero, Nat.add_zero, add_none]
    refine beq_mk (fun h => ?_) (fun h => ?_)
    · rw [if_pos (by omega)] at hst
      refine newAt_mk H1 fun i14 σ2 H2 => ?_
      simp only [ldc_eq (H2.at 1 rfl), ldc_eq (H2.at 2 rfl), tL_ok_eq hs.no, sz5, lds_eq (H2.at 0 rfl) 0 1 (by simp), List.drop_zero, List.take_succ_cons, List.take_zero, true_and, tP_ptr, pSome_some, List.getElem?_cons_zero]
      refine appC (new := [u8 0]) (X := (i0, .row .plain [ptr fi]) :: ((fi, fiO a bs.length e oa on oe) :: X)) hs (H2.sep (fun a => by simp only [cnt_app, cnt_cons, ptr]; omega)) (by simp) rfl (by omega) (by omega) fun a' σ3 rows' hs' H3 => ?_
      have H4 : Has σ3 ((fi, fiO a bs.length e oa on oe) :: ((i0, .row .plain [ptr fi]) :: (rows' ++ X))) := H3.sep (fun a => by simp only [cnt_app, cnt_cons, ptr]; omega)
      simp only [ldc_eq (H4.at 1 rfl), true_and, tP_ptr, pSome_some, List.getElem?_cons_zero]
      refine put0 H4 rfl (by simp) fun σ4 H5 => ?_
      have e8 : cells8 bs ++ [u8 0] = cells8 (bs ++ [0]) := by simp
      rw [e8] at hs'
      refine put (bs2 := bs ++ [0]) hs' (H5.sep ?_) (by rw [List.length_append]; simp; omega) hst
      intro a
      simp only [fiO, cnt_app, cnt_cons, ptr, List.set_cons_zero, List.length_append, List.length_cons, List.length_nil, Nat.zero_add]
      omega
    · rw [if_neg (by omega)] at hst
      exact put hs H1 (by omega) hst
  | true =>
    simp only [unW] at hp hK
    refine tri_in ?_
    show fw _ _ _ 128 _ _ _
    rw [s128]
    refine newAt_mk H fun i0 σ1 H1 => ?_
    have w1 : IntKind.wrap .i64 (4 * (p : Int)) = ((4 * p : Nat) : Int) := by rw [wrap64 (by omega) (by omega)]; omega
    have w2 : IntKind.wrap .i64 (((4 * p : Nat) : Int) + 4) = ((4 * p + 4 : Nat) : Int) := by rw [wrap64 (by omega) (by omega)]; omega
    refine aloop (fun (d : Nat) rg σ' => d ≤ 4 * p + 4 - bs.length ∧ rg = [(1, some (i64 p)), (2, some (u32 c)), (3, some (ptr i0))] ∧ ∃ a' e' rows', SlC 1 a' e' (cells8 (bs ++ List.replicate d 0)) rows' ∧ Has σ' ((i0, .row .plain [ptr fi]) :: ((fi, fiO a' (bs ++ List.replicate d 0).length e' oa on oe) :: (rows' ++ X)))) (fun d => 4 * p + 4 - bs.length - d) ?_ (a := 0)
      ⟨Nat.zero_le _, rfl, a, e, rows, by simpa using hs, by simpa using H1⟩
    rintro d rg σ2 Y hY ⟨hd, rfl, a2, e2, rows2, hs2, H2⟩
    rw [s128l, w1, w2]
    generalize hbs : bs ++ List.replicate d 0 = b2 at hs2 H2
    have hb2 : b2.length = bs.length + d := by rw [← hbs]; simp
    simp only [ldc_eq (H2.at 0 rfl), ldc_eq (H2.at 1 rfl), tL_ok_eq hs2.no, true_and, tP_ptr, pSome_some, List.getElem?_cons_zero, Nat.add_zero, add_none]
    refine bmd_mk (fun h => ?_) (fun h => ?_)
    · refine newAt_mk H2 fun i12 σ3 H3 => ?_
      simp only [ldc_eq (H3.at 1 rfl), ldc_eq (H3.at 2 rfl), tL_ok_eq hs2.no, sz5, lds_eq (H3.at 0 rfl) 0 1 (by simp), List.drop_zero, List.take_succ_cons, List.take_zero, true_and, tP_ptr, pSome_some, List.getElem?_cons_zero]
      refine appC (new := [u8 0]) (X := (i0, .row .plain [ptr fi]) :: ((fi, fiO a2 b2.length e2 oa on oe) :: X)) hs2 (H3.sep (fun a => by simp only [cnt_app, cnt_cons, ptr]; omega)) (by simp) rfl (by omega) (by omega) fun a' σ4 rows' hs' H4 => ?_
      have H5 : Has σ4 ((fi, fiO a2 b2.length e2 oa on oe) :: ((i0, .row .plain [ptr fi]) :: (rows' ++ X))) := H4.sep (fun a => by simp only [cnt_app, cnt_cons, ptr]; omega)
      simp only [ldc_eq (H5.at 1 rfl), true_and, tP_ptr, pSome_some, List.getElem?_cons_zero]
      refine put0 H5 rfl (by simp) fun σ5 H6 => ?_
      have e8 : cells8 b2 ++ [u8 0] = cells8 (b2 ++ [0]) := by simp
      rw [e8] at hs'
      have er : bs ++ List.replicate (d + 1) 0 = b2 ++ [0] := by rw [← hbs, List.append_assoc, List.replicate_succ']
      refine hY (d + 1) _ _ (by omega) ⟨by omega, rfl, a', 1, rows', by rw [er]; exact hs', ?_⟩
      rw [er]
      refine H6.sep fun a => ?_
      simp only [fiO, cnt_app, cnt_cons, ptr, List.set_cons_zero, List.length_append, List.length_cons, List.length_nil, Nat.zero_add]
      omega
    · have hge : 4 * p + 4 ≤ b2.length := by omega
      obtain ⟨j, rfl, rfl, rfl⟩ := hs2.at (p := 0) (by rw [List.length_map]; omega)
      refine req_mk (by omega) (req_mk (by omega) (cap_mk (Int.le_refl _) ?_))
      refine c131 H2 hc.1 hc.2 fun σ3 jp H3 => ?_
      simp only [ldc_eq (H3.at 1 rfl), ldc_eq (H3.at 2 rfl), true_and, tP_ptr, tL_sl, pSome_some, List.getElem?_cons_zero, Nat.zero_add, add_none, Option.map_some]
      refine req_mk (by omega) (req_mk (by omega) (cap_mk (Int.le_refl _) ?_))
      unfold srcCells
      simp only
      refine req_mk trivial ?_
      rw [lds_eq (H3.at 0 rfl) 0 (4 * 1) (by simp [by4])]
      have en : (((b2.length : Nat) : Int) - ((4 * p : Nat) : Int)).toNat = b2.length - 4 * p := by omega
      unfold copyTo
      simp only [sz5, Int.toNat_natCast, Nat.mul_one, en, List.drop_zero]
      have ev : (List.take (min 4 (b2.length - 4 * p)) (List.take 4 (cells8 (by4 c)))) = cells8 (by4 c) := by
        rw [Nat.min_eq_left (by omega)]
        simp [by4]
      rw [ev]
      have H4 : Has σ3 ((j, .row .rw (cells8 b2)) :: ((fi, fiO (some ⟨j, 0, none⟩) b2.length 1 oa on oe) :: X)) := H3.sep (fun a => by simp only [cnt_cons, List.cons_append, List.nil_append, ptr]; omega)
      refine puts0 H4 rfl (by simp [by4]; omega) fun σ4 H5 => ?_
      have ec : (cells8 b2).take (4 * p) ++ cells8 (by4 c) ++ (cells8 b2).drop (4 * p + (cells8 (by4 c)).length) = cells8 (setA bs (4 * p) (by4 c)) := by
        have : setA bs (4 * p) (by4 c) = b2.take (4 * p) ++ by4 c ++ b2.drop (4 * p + 4) := by
          unfold setA
          rw [← hbs]
          have h4 : (by4 c).length = 4 := rfl
          rw [h4, List.take_append_of_le_length hp]
          congr 1
          rw [List.drop_append]
          have : (List.replicate d (0 : Int)).drop (4 * p + 4 - bs.length) = [] := by
            apply List.drop_eq_nil_of_le
            rw [List.length_replicate]
            omega
          rw [this, List.append_nil]
        rw [this]
        simp [by4, List.map_take, List.map_drop]
      have el : b2.length = (setA bs (4 * p) (by4 c)).length := by
        rw [setA_len hp]
        have h4 : (by4 c).length = 4 := rfl
        omega
      rw [ec, el] at H5
      exact hK σ4 _ _ (SlC.row (j := j)) (H5.sep (fun a => by simp only [cnt_cons, List.cons_append, List.nil_append, show by4 c = enc1 true c from rfl]; omega))
-- a row of characters
theorem c135 {n : Nat} {wd : Bool} (H : Has σ ((fi, buO a n wd) :: X)) (hK : K (i64 n) σ) : Tri Tryz.prog 135 [ptr fi] σ K := tri_in (by
  rw [s135]
  simp only [ldc_eq (H.at 0 rfl), tL_sl, pSome_some, List.getElem?_cons_zero]
  exact hK)
theorem c133 {l : List Int} {wd : Bool} {p : Nat} {c : Int} (H : Has σ ((fi, buO a l.length wd) :: (rows ++ X))) (hs : SlC 1 a 1 (cellsU l) rows) (hc : l[p]? = some c) (hK : K (u32 c) σ) : Tri Tryz.prog 133 [ptr fi, i64 p] σ K := tri_in (by
  rw [s133]
  have hlt := (List.getElem?_eq_some_iff.1 hc).1
  obtain ⟨j, rfl, _, rfl⟩ := hs.at (p := 0) (by rw [List.length_map]; omega)
  simp only [ldc_eq (H.at 0 rfl), tL_sl, pSome_some, List.getElem?_cons_zero, Nat.zero_add, add_none]
  refine req_mk (by omega) (req_mk (by omega) ?_)
  have hcv : (cellsU l)[p]? = some (u32 c) := by rw [List.getElem?_map, hc]; rfl
  simp only [sz54, Int.toNat_natCast, Nat.mul_one, ldc_eq (H.at 1 rfl), hcv, tI_int, pSome_some]
  exact hK)
theorem c55 {l : List Int} {wd : Bool} {p : Nat} {c : Int} (H : Has σ ((fi, buO a l.length wd) :: (rows ++ X))) (hs : SlC 1 a 1 (cellsU l) rows) (hc : 0 ≤ c ∧ c ≤ 4294967295)
    (hK : ∀ σ' rows', SlC 1 a 1 (cellsU (if p < l.length then l.set p (putC wd c) else l)) rows' → Has σ' ((fi, buO a l.length wd) :: (rows' ++ X)) → K unit0 σ') : Tri Tryz.prog 55 [ptr fi, i64 p, u32 c] σ K := tri_in (by
  rw [s55]
  have go : ∀ v : Int, v = putC wd c → JoinS (jn Tryz.prog hintsS (Tri Tryz.prog) 55 [] [] K) [(0, some (ptr fi)), (1, some (i64 p)), (2, some (u32 v))] σ := by
    rintro v rfl
    refine ⟨?_⟩
    rw [s55j]
    simp only [ldc_eq (H.at 0 rfl), tL_sl, pSome_some, List.getElem?_cons_zero]
    refine bmd_mk (fun h => ?_) (fun h => ?_)
    · refine req_mk (by omega) (req_mk (by omega) ?_)
      obtain ⟨j, rfl, _, rfl⟩ := hs.at (p := 0) (by rw [List.length_map]; omega)
      simp only [sz54, Int.toNat_natCast, Nat.mul_one, pSome_some, Nat.zero_add, add_none]
      have H2 : Has σ ((j, .row .rw (cellsU l)) :: ((fi, buO (some ⟨j, 0, none⟩) l.length wd) :: X)) := H.sep (fun a => by simp only [cnt_cons, List.cons_append, List.nil_append]; omega)
      refine put0 H2 rfl (by rw [List.length_map]; omega) fun σ2 H3 => ?_
      have e1 : (cellsU l).set p (u32 (putC wd c)) = cellsU (l.set p (putC wd c)) := (List.map_set (f := u32)).symm
      rw [e1] at H3
      rw [if_pos (by omega)] at hK
      exact hK σ2 _ SlC.row (H3.sep (fun a => by simp only [cnt_cons, List.cons_append, List.nil_append]; omega))
    · rw [if_neg (by omega)] at hK
      exact hK σ rows hs H
  simp only [ldc_eq (H.at 0 rfl), tB_bool, pSome_some, List.getElem?_cons_zero, List.getElem?_cons_succ, Nat.zero_add]
  cases wd with
  | false =>
    rw [Bool.not_false, bm_true]
    refine c68 hc.1 ?_
    rw [tI_int]
    have hb : 0 ≤ putC false c ∧ putC false c ≤ 4294967295 := by
      unfold putC
      simp only [Bool.false_eq_true, if_false]
      split <;> omega
    rw [wrapU32 hb.1 hb.2]
    exact go _ rfl
  | true =>
    rw [Bool.not_true, bm_false]
    exact go _ rfl)
end
end Go.AI
end
section
set_option linter.unusedSimpArgs false
set_option linter.unusedVariables false
set_option maxRecDepth 10000
/- The program's shelf in memory; a map's entries one by one; the small functions; no condition but those that each names. -/
namespace Go.AI
open Go.Proofs Go.Shelf
-- a map's entries, one by one
section
variable {α : Type} {ent : α → MapEntry}
def BornOk (ent : α → MapEntry) (ws : List α) (c : Nat) : Prop := (ws.map fun x => (ent x).born).Nodup ∧ ∀ x ∈ ws, (ent x).born < c
theorem find_born {ws : List α} (h : (ws.map fun x => (ent x).born).Nodup) {q : α} (hq : q ∈ ws) : (ws.map ent).find? (fun e => e.born == (ent q).born) = some (ent q) := by
  induction ws with
  | nil => cases hq
  | cons r ws ih =>
    rw [List.map_cons, List.nodup_cons] at h
    rw [List.map_cons, List.find?_cons]
    by_cases e : (ent r).born = (ent q).born
    · rcases List.mem_cons.1 hq with rfl | hq
      · simp
      · exact absurd (by rw [e]; exact List.mem_map_of_mem (f := fun q => (ent q).born) hq) h.1
    · have e' : ((ent r).born == (ent q).born) = false := by simpa using e
      rw [e']
      rcases List.mem_cons.1 hq with rfl | hq
      · exact absurd rfl e
      · exact ih h.2 hq
theorem nodup_b {ws : List α} {c : Nat} (hb : BornOk ent ws c) : ws.Nodup := by
  have := hb.1
  rw [List.Nodup, List.pairwise_map] at this
  exact this.imp fun h e => h (by rw [e])
theorem mnext_m {σ : AS} {ws : List α} {m c j : Nat} {S R : List α} {Y : List (Nat × AObj)} {G : Option (Value × Value) → AS → Prop} (Hh : Has σ ((j, .iter (some m) c (S.map fun x => (ent x).born) c) :: Y)) (hm : (m, AObj.map (ws.map ent) c) ∈ Y) (hb : BornOk ent ws c) (hp : (S ++ R).Perm ws)
    (hQ : ∀ q R', R.Perm (q :: R') → ∀ σ', Has σ' ((j, .iter (some m) c ((S ++ [q]).map fun x => (ent x).born) c) :: Y) → G (some ((ent q).key, (ent q).val)) σ') (hZ : R = [] → G none σ) : mnext σ j G := by
  unfold mnext
  rw [Hh.2 _ (List.mem_cons_self ..)]
  simp only
  unfold mapAt
  rw [Hh.2 _ (List.mem_cons_of_mem _ hm)]
  simp only
  have hnb : ((S ++ R).map fun x => (ent x).born).Nodup := ((hp.map fun x => (ent x).born).nodup_iff).2 hb.1
  have hun : ∀ q ∈ ws, unseen (S.map fun x => (ent x).born) (ent q) = true ↔ q ∈ R := by
    intro q hq
    unfold unseen
    rw [Bool.not_eq_true', List.contains_eq_mem, decide_eq_false_iff_not]
    constructor
    · intro h
      rcases List.mem_append.1 (hp.mem_iff.2 hq) with h' | h'
      · exact absurd (List.mem_map_of_mem (f := fun x => (ent x).born) h') h
      · exact h'
    · intro h h'
      rw [List.map_append, List.nodup_append] at hnb
      obtain ⟨r, hr, e⟩ := List.mem_map.1 h'
      exact hnb.2.2 _ (List.mem_map_of_mem (f := fun x => (ent x).born) hr) _ (List.mem_map_of_mem (f := fun x => (ent x).born) h) e
  refine chk_mk ?_ ?_
  · unfold iterOk
    cases hS : S with
    | nil => rfl
    | cons s S' =>
      have hsw : s ∈ ws := hp.mem_iff.1 (by rw [hS]; simp)
      have : (ws.map ent).any (fun e => Nat.blt e.born c) = true := List.any_eq_true.2 ⟨ent s, List.mem_map_of_mem hsw, by simpa [Nat.blt_eq] using hb.2 s hsw⟩
      rw [this]
      simp
  · rw [mcase_iff]
    refine ⟨fun e he => ?_, fun h => ?_⟩
    · obtain ⟨he1, he2⟩ := List.mem_filter.1 he
      obtain ⟨q, hq, rfl⟩ := List.mem_map.1 he1
      have hqR := (hun q hq).1 he2
      obtain ⟨r1, r2, hr⟩ := List.append_of_mem hqR
      refine hQ q (r1 ++ r2) (by rw [hr]; exact List.perm_middle) _ ?_
      have := Hh.upd 0 rfl (.iter (some m) c ((S ++ [q]).map fun x => (ent x).born) c)
      have e : (S.map fun x => (ent x).born) ++ [(ent q).born] = (S ++ [q]).map fun x => (ent x).born := by rw [List.map_append]; rfl
      rw [e]
      exact this
    · refine hZ ?_
      cases hR : R with
      | nil => rfl
      | cons r R' =>
        have hrw : r ∈ ws := hp.mem_iff.1 (by rw [hR]; simp)
        have h1 := (hun r hrw).2 (by rw [hR]; simp)
        have : ((ws.map ent).any fun e => unseen (S.map fun x => (ent x).born) e && Nat.blt e.born c) = true := List.any_eq_true.2 ⟨ent r, List.mem_map_of_mem hrw, by
          rw [h1, Bool.true_and]
          simpa [Nat.blt_eq] using hb.2 r hrw⟩
        rw [this] at h
        cases h
theorem mentry_m {σ : AS} {ws : List α} {m c j : Nat} {S : List α} {q : α} {Y : List (Nat × AObj)} {G : Value → Value → Prop} (Hh : Has σ ((j, .iter (some m) c ((S ++ [q]).map fun x => (ent x).born) c) :: Y)) (hm : (m, AObj.map (ws.map ent) c) ∈ Y) (hb : BornOk ent ws c) (hq : q ∈ ws) (hG : G (ent q).key (ent q).val) : mentry σ j G := by
  unfold mentry
  rw [Hh.2 _ (List.mem_cons_self ..)]
  simp only
  have e : ((S ++ [q]).map fun x => (ent x).born).getLast? = some (ent q).born := by rw [List.map_append]; simp
  rw [e]
  simp only
  rw [Hh.2 _ (List.mem_cons_of_mem _ hm)]
  simp only
  refine req_mk (by first | trivial | rfl) ?_
  rw [find_born hb.1 hq]
  exact hG
theorem rngM_m {σ : AS} {ws : List α} {m c : Nat} {Y : List (Nat × AObj)} {G : Nat → AS → Prop} (Hh : Has σ Y) (hm : (m, AObj.map (ws.map ent) c) ∈ Y) (hG : ∀ j σ', Has σ' ((j, .iter (some m) c [] c) :: Y) → G j σ') : rngM σ (some m) G := by
  unfold rngM
  simp only
  unfold mapAt
  rw [Hh.2 _ hm]
  exact newAt_mk Hh hG
end
abbrev shelfO (most last : Int) (f st : Nat) : AObj := .row .plain [i64 most, i64 last, .map (some f), .map (some st)]
structure PF where
  f : Fi
  fi : Nat
  a : Option Addr
  e : Nat
  rows : List (Nat × AObj)
  op : List Nat
  oa : Option Addr
  oe : Nat
  orows : List (Nat × AObj)
  oz : List Value
  bn : Nat
structure PQ where
  q : Sm
  x : Nat
  fi : Nat
  a : Option Addr
  rows : List (Nat × AObj)
  bn : Nat
abbrev PF.O (g : PF) : AObj := fiO g.a g.f.b.length g.e g.oa g.op.length g.oe
def PF.L (g : PF) : List (Nat × AObj) := (g.fi, g.O) :: (g.rows ++ g.orows)
structure PF.ok (g : PF) : Prop where
  b : SlC 1 g.a g.e (cells8 g.f.b) g.rows
  o : SlC 1 g.oa g.oe (g.op.map ptr ++ g.oz) g.orows
def PQ.on (q : PQ) : Value := if q.q.nm = [] then .iface tyB (ptr q.fi) else .iface (tyW q.q.wd) (hold q.fi)
def PQ.fp (q : PQ) : Value := if q.q.nm = [] then .pointer none else ptr q.fi
abbrev PQ.O (q : PQ) : AObj := .row .plain [q.on, q.fp, i64 q.q.mode, i64 q.q.pl, u32 q.q.rd, u32 q.q.wr]
def PQ.M (q : PQ) : List (Nat × AObj) := if q.q.nm = [] then (q.fi, buO q.a q.q.l.length q.q.wd) :: q.rows else []
def PQ.L (q : PQ) : List (Nat × AObj) := (q.x, q.O) :: q.M
def PQ.ok (q : PQ) : Prop := q.q.nm = [] → SlC 1 q.a 1 (cellsU q.q.l) q.rows
def entF (g : PF) : MapEntry := { key := .string (bsV g.f.nm), val := ptr g.fi, born := g.bn }
def entQ (q : PQ) : MapEntry := { key := i64 q.q.n, val := ptr q.x, born := q.bn }
structure PG where
  G : List PF
  cf : Nat
  f : Nat
  Q : List PQ
  cm : Nat
  m : Nat
abbrev PG.O (g : PG) (most last : Int) : AObj := shelfO most last g.f g.m
def PG.R (g : PG) : List (Nat × AObj) := (g.f, .map (g.G.map entF) g.cf) :: (g.m, .map (g.Q.map entQ) g.cm) :: (g.G.flatMap PF.L ++ g.Q.flatMap PQ.L)
/-- The streams that lie on a file. -/
def onF (n : List UInt8) (Q : List PQ) : List Nat := (Q.filter fun q => decide (q.q.nm = n)).map PQ.x
structure PG.ok (g : PG) (F : List Fi) (S : List Sm) : Prop where
  gF : (g.G.map PF.f).Perm F
  qS : g.Q.map PQ.q = S
  go : ∀ r ∈ g.G, r.ok
  qo : ∀ q ∈ g.Q, q.ok
  opn : ∀ r ∈ g.G, r.op = onF r.f.nm g.Q
  lnk : ∀ q ∈ g.Q, q.q.nm ≠ [] → ∃ r ∈ g.G, r.f.nm = q.q.nm ∧ r.fi = q.fi
  bF : BornOk entF g.G g.cf
  bQ : BornOk entQ g.Q g.cm
/-- The program's shelf in a state, with what lies beside it. -/
def PSt (s : Nat) (most last : Int) (F : List Fi) (S : List Sm) (fr : List (Nat × AObj)) (σ : AS) : Prop :=
  ∃ g : PG, g.ok F S ∧ Has σ ((s, g.O most last) :: (g.R ++ fr))
theorem find_at {α : Type} {ent : α → MapEntry} {d : TypeDesc} {k : Value} : ∀ (l1 : List α) (q : α) (l2 : List α) (i : Nat), Instr.sameNow d k (ent q).key = some true → (∀ r ∈ l1, Instr.sameNow d k (ent r).key = some false) → Instr.findNow d k ((l1 ++ q :: l2).map ent) i = some (some (i + l1.length, (ent q).val))
  | [], q, l2, i, e, _ => by simp [Instr.findNow, e]
  | r :: l1, q, l2, i, e, h => by
    have h1 := h r (by simp)
    have := find_at l1 q l2 (i + 1) e fun x hx => h x (by simp [hx])
    rw [List.cons_append, List.map_cons]
    simp only [Instr.findNow, h1]
    rw [show i + (r :: l1).length = i + 1 + l1.length by simp; omega]
    simpa using this
theorem find_no {α : Type} {ent : α → MapEntry} {d : TypeDesc} {k : Value} : ∀ (l : List α) (i : Nat), (∀ r ∈ l, Instr.sameNow d k (ent r).key = some false) → Instr.findNow d k (l.map ent) i = some none
  | [], i, _ => rfl
  | r :: l, i, h => by
    have h1 := h r (by simp)
    have := find_no (ent := ent) (d := d) (k := k) l (i + 1) fun x hx => h x (by simp [hx])
    rw [List.map_cons]
    simp only [Instr.findNow, h1]
    simpa using this
theorem same_i {a b : Int} : Instr.sameNow (.int .i64) (i64 a) (i64 b) = some (decide (a = b)) := by
  simp only [Instr.sameNow]
  by_cases h : a = b <;> simp [h]
theorem beq_bs (a b : List UInt8) : (bsV a == bsV b) = decide (a = b) := by
  show ByteArray.beq _ _ = _
  unfold ByteArray.beq
  by_cases h : a = b
  · simp [h]
  · simp [h]
theorem same_s {a b : List UInt8} : Instr.sameNow .string (.string (bsV a)) (.string (bsV b)) = some (decide (a = b)) := by
  simp only [Instr.sameNow, beq_bs]
-- look-ups
section
variable {g : PG} {F : List Fi} {S : List Sm}
theorem lookQ {Q : List PQ} (hs : (Q.map PQ.q).Pairwise fun x y => x.n < y.n) (n : Int) :
    (∃ Q1 q Q2, Q = Q1 ++ q :: Q2 ∧ q.q.n = n ∧ atS (Q.map PQ.q) n = some q.q ∧ Instr.findNow (.int .i64) (i64 n) (Q.map entQ) 0 = some (some (Q1.length, ptr q.x)) ∧ (∀ r ∈ Q1, r.q.n ≠ n) ∧ (∀ r ∈ Q2, r.q.n ≠ n)) ∨
    (atS (Q.map PQ.q) n = none ∧ Instr.findNow (.int .i64) (i64 n) (Q.map entQ) 0 = some none ∧ ∀ r ∈ Q, r.q.n ≠ n) := by
  cases h : atS (Q.map PQ.q) n with
  | none =>
    right
    have hno : ∀ r ∈ Q, r.q.n ≠ n := fun r hr e => by
      have := List.find?_eq_none.1 h r.q (List.mem_map_of_mem hr)
      simp [e] at this
    exact ⟨rfl, find_no Q 0 fun r hr => by show Instr.sameNow _ _ (i64 r.q.n) = _; rw [same_i, decide_eq_false (Ne.symm (hno r hr))], hno⟩
  | some x =>
    left
    obtain ⟨hx, hn⟩ := atS_mem h
    obtain ⟨q, hq, rfl⟩ := List.mem_map.1 hx
    obtain ⟨Q1, Q2, rfl⟩ := List.append_of_mem hq
    rw [List.map_append, List.map_cons, List.pairwise_append] at hs
    obtain ⟨_, h2, h3⟩ := hs
    have g1 : ∀ r ∈ Q1, r.q.n ≠ n := fun r hr => by
      have := h3 r.q (List.mem_map_of_mem hr) q.q (by simp)
      omega
    have g2 : ∀ r ∈ Q2, r.q.n ≠ n := fun r hr => by
      have := (List.pairwise_cons.1 h2).1 r.q (List.mem_map_of_mem hr)
      omega
    refine ⟨Q1, q, Q2, rfl, hn, rfl, ?_, g1, g2⟩
    have := find_at (ent := entQ) (d := .int .i64) (k := i64 n) Q1 q Q2 0 (by show Instr.sameNow _ _ (i64 q.q.n) = _; rw [same_i, decide_eq_true hn.symm]) (fun r hr => by show Instr.sameNow _ _ (i64 r.q.n) = _; rw [same_i, decide_eq_false (Ne.symm (g1 r hr))])
    rw [Nat.zero_add] at this
    exact this
theorem lookF {G : List PF} {F : List Fi} (hp : (G.map PF.f).Perm F) (hs : Srt F) (nm : List UInt8) :
    (∃ G1 r G2, G = G1 ++ r :: G2 ∧ r.f.nm = nm ∧ hasF F nm = true ∧ bOf F nm = r.f.b ∧ r.f ∈ F ∧ Instr.findNow .string (.string (bsV nm)) (G.map entF) 0 = some (some (G1.length, ptr r.fi)) ∧ (∀ q ∈ G1, q.f.nm ≠ nm) ∧ (∀ q ∈ G2, q.f.nm ≠ nm)) ∨
    (hasF F nm = false ∧ Instr.findNow .string (.string (bsV nm)) (G.map entF) 0 = some none ∧ ∀ r ∈ G, r.f.nm ≠ nm) := by
  cases h : hasF F nm with
  | false =>
    right
    have hno : ∀ r ∈ G, r.f.nm ≠ nm := fun r hr => hasF_false.1 h r.f (hp.mem_iff.1 (List.mem_map_of_mem hr))
    exact ⟨rfl, find_no G 0 fun r hr => by show Instr.sameNow _ _ (.string (bsV r.f.nm)) = _; rw [same_s, decide_eq_false (Ne.symm (hno r hr))], hno⟩
  | true =>
    left
    obtain ⟨f, hf, hn⟩ := hasF_iff.1 h
    obtain ⟨r, hr, rfl⟩ := List.mem_map.1 (hp.mem_iff.2 hf)
    obtain ⟨G1, G2, rfl⟩ := List.append_of_mem hr
    have hnd : ((G1 ++ r :: G2).map fun q => q.f.nm).Nodup := by
      have h1 : (F.map (·.nm)).Nodup := by
        rw [List.Nodup, List.pairwise_map]
        exact hs.imp fun h e => by rw [e] at h; exact lt_irrefl _ h
      have h2 := (hp.map (·.nm)).nodup_iff.2 h1
      rw [List.map_map] at h2
      exact h2
    rw [List.map_append, List.map_cons, List.nodup_append] at hnd
    obtain ⟨_, n2, n3⟩ := hnd
    have g1 : ∀ q ∈ G1, q.f.nm ≠ nm := fun q hq e => n3 _ (List.mem_map_of_mem (f := fun q : PF => q.f.nm) hq) _ (List.mem_cons_self ..) (by rw [e, hn])
    have g2 : ∀ q ∈ G2, q.f.nm ≠ nm := fun q hq e => (List.nodup_cons.1 n2).1 (by rw [hn, ← e]; exact List.mem_map_of_mem (f := fun q : PF => q.f.nm) hq)
    refine ⟨G1, r, G2, rfl, hn, rfl, by rw [← hn]; exact bOf_mem hs hf, hf, ?_, g1, g2⟩
    have := find_at (ent := entF) (d := .string) (k := .string (bsV nm)) G1 r G2 0 (by show Instr.sameNow _ _ (.string (bsV r.f.nm)) = _; rw [same_s, decide_eq_true hn.symm]) (fun q hq => by show Instr.sameNow _ _ (.string (bsV q.f.nm)) = _; rw [same_s, decide_eq_false (Ne.symm (g1 q hq))])
    rw [Nat.zero_add] at this
    exact this
end
end Go.AI
end
section
set_option linter.unusedSimpArgs false
set_option linter.unusedVariables false
set_option maxRecDepth 10000
/- The program: streams looked up, told, read, sought in; no condition but those that each names. -/
namespace Go.AI
open Go.Proofs Go.Shelf
theorem PQ.M_b {q : PQ} (h : q.q.nm = []) : q.M = (q.fi, buO q.a q.q.l.length q.q.wd) :: q.rows := by unfold PQ.M; rw [if_pos h]
theorem PQ.M_f {q : PQ} (h : q.q.nm ≠ []) : q.M = [] := by unfold PQ.M; rw [if_neg h]
theorem PQ.on_b {q : PQ} (h : q.q.nm = []) : q.on = .iface tyB (ptr q.fi) := by unfold PQ.on; rw [if_pos h]
theorem PQ.on_f {q : PQ} (h : q.q.nm ≠ []) : q.on = .iface (tyW q.q.wd) (hold q.fi) := by unfold PQ.on; rw [if_neg h]
theorem PQ.fp_b {q : PQ} (h : q.q.nm = []) : q.fp = .pointer none := by unfold PQ.fp; rw [if_pos h]
theorem PQ.fp_f {q : PQ} (h : q.q.nm ≠ []) : q.fp = ptr q.fi := by unfold PQ.fp; rw [if_neg h]
theorem onF_cong {n : List UInt8} : ∀ {Q Q' : List PQ}, (Q'.map fun q => (q.q.nm, q.x)) = Q.map (fun q => (q.q.nm, q.x)) → onF n Q' = onF n Q
  | [], [], _ => rfl
  | [], _ :: _, h => by cases h
  | _ :: _, [], h => by cases h
  | q :: Q, q' :: Q', h => by
    rw [List.map_cons, List.map_cons] at h
    injection h with h1 h2
    have ih := onF_cong (n := n) h2
    injection h1 with h3 h4
    unfold onF at ih ⊢
    rw [List.filter_cons, List.filter_cons, h3]
    split
    · rw [List.map_cons, List.map_cons, ih, h4]
    · exact ih
section
variable {σ : AS} {K : Value → AS → Prop} {fr : List (Nat × AObj)} {s k B : Nat} {g : PG} {most last n mode : Int} {nm : List UInt8} {F : List Fi} {S : List Sm} {l : List Int} {a : Option Addr} {wd : Bool}
theorem PG.ok.updQ {Q1 Q2 : List PQ} {q q' : PQ} (hg : g.ok F S) (hQ : g.Q = Q1 ++ q :: Q2) (sn : S.Pairwise fun x y => x.n < y.n) (hx : q'.x = q.x) (hf : q'.fi = q.fi) (hb : q'.bn = q.bn) (hn : q'.q.n = q.q.n) (hm : q'.q.nm = q.q.nm) (ho : q'.ok) :
    ({ g with Q := Q1 ++ q' :: Q2 } : PG).ok F (setS q'.q S) ∧ (Q1 ++ q' :: Q2).map entQ = g.Q.map entQ := by
  have he : (Q1 ++ q' :: Q2).map entQ = g.Q.map entQ := by
    rw [hQ, List.map_append, List.map_append, List.map_cons, List.map_cons]
    unfold entQ
    rw [hn, hx, hb]
  refine ⟨⟨hg.gF, ?_, hg.go, ?_, ?_, ?_, hg.bF, ?_⟩, he⟩
  · have hS : S[Q1.length]? = some q.q := by
      rw [← hg.qS, hQ]
      simp
    have := setS_at (y := q'.q) sn hS hn
    rw [← this, ← hg.qS, hQ]
    simp
  · intro r hr
    rcases List.mem_append.1 hr with h | h
    · exact hg.qo r (by rw [hQ]; simp [h])
    · rcases List.mem_cons.1 h with rfl | h
      · exact ho
      · exact hg.qo r (by rw [hQ]; simp [h])
  · intro r hr
    rw [hg.opn r hr]
    refine (onF_cong ?_).symm
    rw [hQ, List.map_append, List.map_append, List.map_cons, List.map_cons, hm, hx]
  · intro r hr
    rcases List.mem_append.1 hr with h | h
    · exact hg.lnk r (by rw [hQ]; simp [h])
    · rcases List.mem_cons.1 h with rfl | h
      · rw [hm, hf]
        exact hg.lnk q (by rw [hQ]; simp)
      · exact hg.lnk r (by rw [hQ]; simp [h])
  · unfold BornOk
    have h1 : ((Q1 ++ q' :: Q2).map fun x => (entQ x).born) = g.Q.map fun x => (entQ x).born := by
      have := congrArg (List.map MapEntry.born) he
      rw [List.map_map, List.map_map] at this
      exact this
    refine ⟨by rw [h1]; exact hg.bQ.1, fun r hr => ?_⟩
    have : (entQ r).born ∈ (Q1 ++ q' :: Q2).map fun x => (entQ x).born := List.mem_map_of_mem (f := fun x => (entQ x).born) hr
    rw [h1] at this
    obtain ⟨r', hr', e⟩ := List.mem_map.1 this
    rw [← e]
    exact hg.bQ.2 r' hr'
theorem PG.ok.updG0 {G1 G2 : List PF} {r r' : PF} (hg : g.ok F S) (hG : g.G = G1 ++ r :: G2) (hs : Srt F) (hx : r'.fi = r.fi ∨ ∀ q ∈ g.Q, q.q.nm ≠ r.f.nm) (hp : r'.op = r.op) (hb : r'.bn = r.bn) (hm : r'.f.nm = r.f.nm) (ho : r'.ok) :
    ({ g with G := G1 ++ r' :: G2 } : PG).ok (setB r.f.nm r'.f.b F) S := by
  have hnd : (g.G.map fun q => q.f.nm).Nodup := by
    have h1 : (F.map (·.nm)).Nodup := by
      rw [List.Nodup, List.pairwise_map]
      exact hs.imp fun h e => by rw [e] at h; exact lt_irrefl _ h
    have h2 := (hg.gF.map (·.nm)).nodup_iff.2 h1
    rw [List.map_map] at h2
    exact h2
  rw [hG, List.map_append, List.map_cons, List.nodup_append] at hnd
  obtain ⟨_, n2, n3⟩ := hnd
  have g1 : ∀ q ∈ G1, q.f.nm ≠ r.f.nm := fun q hq e => n3 _ (List.mem_map_of_mem (f := fun q : PF => q.f.nm) hq) _ (List.mem_cons_self ..) e
  have g2 : ∀ q ∈ G2, q.f.nm ≠ r.f.nm := fun q hq e => (List.nodup_cons.1 n2).1 (by rw [← e]; exact List.mem_map_of_mem (f := fun q : PF => q.f.nm) hq)
  have mem : ∀ q, q ∈ G1 ++ r' :: G2 → q = r' ∨ q ∈ g.G := by
    intro q hq
    rw [hG]
    rcases List.mem_append.1 hq with h | h
    · exact .inr (by simp [h])
    · rcases List.mem_cons.1 h with rfl | h
      · exact .inl rfl
      · exact .inr (by simp [h])
  refine ⟨?_, hg.qS, ?_, hg.qo, ?_, ?_, ?_, hg.bQ⟩
  · have e1 : (G1 ++ r' :: G2).map PF.f = setB r.f.nm r'.f.b (g.G.map PF.f) := by
      rw [hG, List.map_append, List.map_cons, List.map_append, List.map_cons]
      have q1 : ∀ f ∈ G1.map PF.f, f.nm ≠ r.f.nm := fun f hf => by obtain ⟨q, hq, rfl⟩ := List.mem_map.1 hf; exact g1 q hq
      have q2 : ∀ f ∈ G2.map PF.f, f.nm ≠ r.f.nm := fun f hf => by obtain ⟨q, hq, rfl⟩ := List.mem_map.1 hf; exact g2 q hq
      rw [setB_split q1 q2]
      have : r'.f = { r.f with b := r'.f.b } := by
        cases h : r'.f with
        | mk nm b =>
          rw [h] at hm
          simp only at hm
          rw [hm]
      rw [← this]
    rw [e1]
    exact hg.gF.map _
  · intro q hq
    rcases mem q hq with rfl | h
    · exact ho
    · exact hg.go q h
  · intro q hq
    rcases mem q hq with rfl | h
    · rw [hp, hm]; exact hg.opn r (by rw [hG]; simp)
    · exact hg.opn q h
  · intro q hq hne
    obtain ⟨t, ht, e1, e2⟩ := hg.lnk q hq hne
    rw [hG] at ht
    rcases List.mem_append.1 ht with h | h
    · exact ⟨t, by simp [h], e1, e2⟩
    · rcases List.mem_cons.1 h with rfl | h
      · rcases hx with hx | hx
        · exact ⟨r', by simp, by rw [hm]; exact e1, by rw [hx]; exact e2⟩
        · exact absurd e1.symm (hx q hq)
      · exact ⟨t, by simp [h], e1, e2⟩
  · unfold BornOk
    have h1 : ((G1 ++ r' :: G2).map fun x => (entF x).born) = g.G.map fun x => (entF x).born := by
      rw [hG, List.map_append, List.map_append, List.map_cons, List.map_cons]
      unfold entF
      rw [hb]
    refine ⟨by rw [h1]; exact hg.bF.1, fun q hq => ?_⟩
    have : (entF q).born ∈ (G1 ++ r' :: G2).map fun x => (entF x).born := List.mem_map_of_mem (f := fun x => (entF x).born) hq
    rw [h1] at this
    obtain ⟨q', hq', e⟩ := List.mem_map.1 this
    rw [← e]
    exact hg.bF.2 q' hq'
theorem PG.ok.updG {G1 G2 : List PF} {r r' : PF} (hg : g.ok F S) (hG : g.G = G1 ++ r :: G2) (hs : Srt F) (hx : r'.fi = r.fi) (hp : r'.op = r.op) (hb : r'.bn = r.bn) (hm : r'.f.nm = r.f.nm) (ho : r'.ok) :
    ({ g with G := G1 ++ r' :: G2 } : PG).ok (setB r.f.nm r'.f.b F) S ∧ (G1 ++ r' :: G2).map entF = g.G.map entF := by
  refine ⟨hg.updG0 hG hs (.inl hx) hp hb hm ho, ?_⟩
  rw [hG, List.map_append, List.map_append, List.map_cons, List.map_cons]
  unfold entF
  rw [hm, hx, hb]
/-- The file that a stream lies on. -/
theorem PG.ok.file (hg : g.ok F S) (hs : Srt F) {q : PQ} (hq : q ∈ g.Q) (hne : q.q.nm ≠ []) : ∃ G1 r G2, g.G = G1 ++ r :: G2 ∧ r.f.nm = q.q.nm ∧ r.fi = q.fi ∧ r.ok ∧ r.f ∈ F ∧ bOf F q.q.nm = r.f.b := by
  obtain ⟨r, hr, h1, h2⟩ := hg.lnk q hq hne
  obtain ⟨G1, G2, hG⟩ := List.append_of_mem hr
  have hm : r.f ∈ F := hg.gF.mem_iff.1 (List.mem_map_of_mem hr)
  exact ⟨G1, r, G2, hG, h1, h2, hg.go r hr, hm, by rw [← h1]; exact bOf_mem hs hm⟩
/-- How many characters there are. -/
theorem hsize0 (hg : g.ok F S) (H : Has σ ((s, g.O most last) :: (g.R ++ fr))) (srt : Srt F) (f1 : ∀ f ∈ F, f.b.length ≤ 1048576) {q : PQ} (hq : q ∈ g.Q) (hK : ∀ σ', Has σ' ((s, g.O most last) :: (g.R ++ fr)) → K (i64 (charsOf F q.q).length) σ') :
    ∃ t u f, q.on = .iface t u ∧ methodOf Tryz.prog t "grotto/shelf.size" = some f ∧ Tri Tryz.prog f [u] σ K := by
  obtain ⟨Q1, Q2, hQ⟩ := List.append_of_mem hq
  by_cases h : q.q.nm = []
  · refine ⟨tyB, ptr q.fi, 135, PQ.on_b h, meth_size_b, ?_⟩
    refine c135 (n := q.q.l.length) (wd := q.q.wd) (a := q.a) (X := []) (H.sep ?_) ?_
    · intro a
      simp only [PG.R, hQ, PQ.L, PQ.M_b h, cnt_app, cnt_cons, cnt_nil, List.flatMap_append, List.flatMap_cons, List.append_assoc, List.cons_append]
      omega
    · have := hK σ H
      rw [charsOf_len, if_pos h] at this
      exact this
  · obtain ⟨G1, r, G2, hG, h1, h2, h3, h4, h5⟩ := hg.file srt hq h
    refine ⟨_, _, _, PQ.on_f h, meth_size_g _, ?_⟩
    rw [← h2]
    have hb := f1 _ h4
    refine csz (bs := r.f.b) (a := r.a) (e := r.e) (oa := r.oa) (on := r.op.length) (oe := r.oe) (rows := r.rows) (X := (s, g.O most last) :: ((g.f, .map (g.G.map entF) g.cf) :: ((g.m, .map (g.Q.map entQ) g.cm) :: (r.orows ++ (G1.flatMap PF.L ++ (G2.flatMap PF.L ++ (g.Q.flatMap PQ.L ++ fr))))))) (H.sep ?_) h3.b (by omega) fun σ' H' => ?_
    · intro a
      simp only [PG.R, hG, PF.L, PF.O, fiO, cnt_app, cnt_cons, List.flatMap_append, List.flatMap_cons, List.append_assoc, List.cons_append]
      omega
    · have := hK σ' (H'.sep ?_)
      · rw [charsOf_len, if_neg h, h5] at this
        exact this
      · intro a
        simp only [PG.R, hG, PF.L, PF.O, fiO, cnt_app, cnt_cons, List.flatMap_append, List.flatMap_cons, List.append_assoc, List.cons_append]
        omega
theorem hsize (hg : g.ok F S) (H : Has σ ((s, g.O most last) :: (g.R ++ fr))) (ok : OkD F S B) {q : PQ} (hq : q ∈ g.Q) (hK : ∀ σ', Has σ' ((s, g.O most last) :: (g.R ++ fr)) → K (i64 (charsOf F q.q).length) σ') :
    ∃ t u f, q.on = .iface t u ∧ methodOf Tryz.prog t "grotto/shelf.size" = some f ∧ Tri Tryz.prog f [u] σ K := hsize0 hg H ok.srt ok.f1 hq hK
/-- A character. -/
theorem hat {c : Int} {p : Nat} (hg : g.ok F S) (H : Has σ ((s, g.O most last) :: (g.R ++ fr))) (ok : OkD F S B) {q : PQ} (hq : q ∈ g.Q) (hc : (charsOf F q.q)[p]? = some c) (hK : ∀ σ', Has σ' ((s, g.O most last) :: (g.R ++ fr)) → K (u32 c) σ') :
    ∃ t u f, q.on = .iface t u ∧ methodOf Tryz.prog t "grotto/shelf.at" = some f ∧ Tri Tryz.prog f [u, i64 p] σ K := by
  obtain ⟨Q1, Q2, hQ⟩ := List.append_of_mem hq
  by_cases h : q.q.nm = []
  · refine ⟨tyB, ptr q.fi, 133, PQ.on_b h, meth_at_b, ?_⟩
    have hc : q.q.l[p]? = some c := by unfold charsOf at hc; rw [if_pos h] at hc; exact hc
    refine c133 (l := q.q.l) (wd := q.q.wd) (a := q.a) (rows := q.rows) (X := []) (H.sep ?_) (hg.qo q hq h) hc (hK σ H)
    intro a
    simp only [PG.R, hQ, PQ.L, PQ.M_b h, cnt_app, cnt_cons, cnt_nil, List.flatMap_append, List.flatMap_cons, List.append_assoc, List.cons_append]
    omega
  · obtain ⟨G1, r, G2, hG, h1, h2, h3, h4, h5⟩ := hg.file ok.srt hq h
    refine ⟨_, _, _, PQ.on_f h, meth_at_g _, ?_⟩
    rw [← h2]
    have hb := ok.f1 _ h4
    have hc : (view q.q.wd r.f.b)[p]? = some c := by unfold charsOf at hc; rw [if_neg h, h5] at hc; exact hc
    have hlt := (List.getElem?_eq_some_iff.1 hc).1
    rw [view_len] at hlt
    rw [view_get hlt] at hc
    cases hc
    refine cat (bs := r.f.b) (a := r.a) (e := r.e) (oa := r.oa) (on := r.op.length) (oe := r.oe) (rows := r.rows) (X := (s, g.O most last) :: ((g.f, .map (g.G.map entF) g.cf) :: ((g.m, .map (g.Q.map entQ) g.cm) :: (r.orows ++ (G1.flatMap PF.L ++ (G2.flatMap PF.L ++ (g.Q.flatMap PQ.L ++ fr))))))) (H.sep ?_) h3.b (by omega) (ok.byte _ h4) hlt fun σ' H' => hK σ' (H'.sep ?_)
    · intro a
      simp only [PG.R, hG, PF.L, PF.O, fiO, cnt_app, cnt_cons, List.flatMap_append, List.flatMap_cons, List.append_assoc, List.cons_append]
      omega
    · intro a
      simp only [PG.R, hG, PF.L, PF.O, fiO, cnt_app, cnt_cons, List.flatMap_append, List.flatMap_cons, List.append_assoc, List.cons_append]
      omega
/-- A stream's object is there. -/
theorem PG.hasQ (H : Has σ ((s, g.O most last) :: (g.R ++ fr))) {q : PQ} (hq : q ∈ g.Q) : σ q.x = some q.O := by
  refine H.g (List.mem_cons_of_mem _ (List.mem_append_left _ ?_))
  unfold PG.R
  refine List.mem_cons_of_mem _ (List.mem_cons_of_mem _ (List.mem_append_right _ (List.mem_flatMap.2 ⟨q, hq, ?_⟩)))
  unfold PQ.L
  simp
theorem PG.hasF (H : Has σ ((s, g.O most last) :: (g.R ++ fr))) {r : PF} (hr : r ∈ g.G) : σ r.fi = some r.O := by
  refine H.g (List.mem_cons_of_mem _ (List.mem_append_left _ ?_))
  unfold PG.R
  refine List.mem_cons_of_mem _ (List.mem_cons_of_mem _ (List.mem_append_left _ (List.mem_flatMap.2 ⟨r, hr, ?_⟩)))
  unfold PF.L
  simp
theorem PG.hasm (H : Has σ ((s, g.O most last) :: (g.R ++ fr))) : σ g.m = some (.map (g.Q.map entQ) g.cm) := H.g (by unfold PG.R; simp)
theorem PG.hasf (H : Has σ ((s, g.O most last) :: (g.R ++ fr))) : σ g.f = some (.map (g.G.map entF) g.cf) := H.g (by unfold PG.R; simp)
/-- A stream, looked up. -/
theorem c45 (hg : g.ok F S) (H : Has σ ((s, g.O most last) :: (g.R ++ fr))) (sn : S.Pairwise fun x y => x.n < y.n) (hN : atS S n = none → K (.tuple ⟨[.pointer none, i64 5]⟩) σ)
    (hK : ∀ Q1 q Q2, g.Q = Q1 ++ q :: Q2 → q.q.n = n → atS S n = some q.q → K (.tuple ⟨[ptr q.x, i64 0]⟩) σ) : Tri Tryz.prog 45 [ptr s, i64 n] σ K := tri_in (by
  rw [s45]
  simp only [ldc_eq (H.at 0 rfl), mget_eq (PG.hasm H), tM_map, pSome_some, List.getElem?_cons_zero, List.getElem?_cons_succ, Nat.zero_add]
  rcases lookQ (by rw [hg.qS]; exact sn) n with ⟨Q1, q, Q2, h1, h2, h3, h4, _⟩ | ⟨h1, h2, _⟩
  · rw [hg.qS] at h3
    rw [h4]
    simp only [tP_ptr, pSome_some, bm_false, ptrEq_some, Option.getD_some, Option.map_some]
    exact hK Q1 q Q2 h1 h2 h3
  · rw [hg.qS] at h1
    rw [h2]
    simp only [tP_ptr, pSome_some, bm_true, ptrEq_none, Option.getD_none, Option.map_none]
    exact hN h1)
theorem c71 {q : PQ} (hx : σ q.x = some q.O) (hK : K (.bool (reads q.q)) σ) : Tri Tryz.prog 71 [ptr q.x] σ K := tri_in (by
  rw [s71]
  simp only [ldc_eq hx, tI_int, pSome_some, List.getElem?_cons_zero, List.getElem?_cons_succ, Nat.zero_add]
  unfold reads at hK
  refine beq_mk (fun h => ?_) (fun h => ?_)
  · rw [h] at hK; exact hK
  · have : (q.q.mode == 2) = false := by simpa using h
    rw [this, Bool.false_or] at hK
    exact hK)
theorem c46 {q : PQ} (hx : σ q.x = some q.O) (hK : K (.bool (q.q.mode != 2)) σ) : Tri Tryz.prog 46 [ptr q.x] σ K := tri_in (by
  rw [s46]
  simp only [ldc_eq hx, tI_int, pSome_some, List.getElem?_cons_zero, List.getElem?_cons_succ, Nat.zero_add]
  exact hK)
theorem c64 (hg : g.ok F S) (H : Has σ ((s, g.O most last) :: (g.R ++ fr))) (sn : S.Pairwise fun x y => x.n < y.n) (hN : atS S n = none → K (.tuple ⟨[.pointer none, i64 5]⟩) σ)
    (hE : ∀ x, atS S n = some x → reads x = false → K (.tuple ⟨[.pointer none, i64 1]⟩) σ)
    (hK : ∀ Q1 q Q2, g.Q = Q1 ++ q :: Q2 → q.q.n = n → atS S n = some q.q → reads q.q = true → K (.tuple ⟨[ptr q.x, i64 0]⟩) σ) : Tri Tryz.prog 64 [ptr s, i64 n] σ K := tri_in (by
  rw [s64]
  refine c45 hg H sn (fun h => ?_) (fun Q1 q Q2 h1 h2 h3 => ?_)
  · simp only [tI_int, tP_ptr, tTup_tup, pSome_some, List.getElem?_cons_zero, List.getElem?_cons_succ]
    refine beq_mk (fun h => absurd h (by decide)) (fun _ => ⟨?_⟩)
    rw [s64j, bm_false]
    exact hN h
  · simp only [tI_int, tP_ptr, tTup_tup, pSome_some, bm_true, List.getElem?_cons_zero, List.getElem?_cons_succ, beq_self_eq_true]
    refine c71 (PG.hasQ H (by rw [h1]; simp)) ?_
    rw [tB_bool]
    refine ⟨?_⟩
    rw [s64j]
    exact bnot_mk (fun h => hE _ h3 h) (fun h => hK Q1 q Q2 h1 h2 h3 h))
theorem c26 (hS : PSt s most last F S fr σ) (ok : OkD F S B)
    (hN : atS S n = none → ∀ σ', PSt s most last F S fr σ' → K (.tuple ⟨[i64 0, i64 0, i64 5]⟩) σ')
    (hK : ∀ x, atS S n = some x → ∀ σ', PSt s most last F S fr σ' → K (.tuple ⟨[i64 x.pl, i64 (charsOf F x).length, i64 0]⟩) σ') : Tri Tryz.prog 26 [ptr s, i64 n] σ K := tri_in (by
  rw [s26]
  have hS0 := hS
  obtain ⟨g, hg, H⟩ := hS
  refine c45 hg H ok.sn (fun h => ?_) (fun Q1 q Q2 h1 h2 h3 => ?_)
  · simp only [tI_int, tP_ptr, tTup_tup, pSome_some, List.getElem?_cons_zero, List.getElem?_cons_succ]
    exact bne_mk (fun _ => hN h σ hS0) (fun h => absurd h (by decide))
  · have hq : q ∈ g.Q := by rw [h1]; simp
    have hx := PG.hasQ H hq
    simp only [ldc_eq hx, tI_int, tP_ptr, tTup_tup, pSome_some, bm_false, List.getElem?_cons_zero, List.getElem?_cons_succ, Nat.zero_add, Nat.add_zero, bne_self_eq_false, add_none]
    obtain ⟨t, u, f, e1, e2, e3⟩ := hsize (K := fun v16 σ17 => tI .i64 v16 fun n18 => ldc σ17 ⟨q.x, 3, none⟩ fun v19 => tI .i64 v19 fun n20 => (i64 q.q.pl = i64 n20 ∧ K (.tuple ⟨[i64 q.q.pl, i64 n18, i64 0]⟩) σ17)) hg H ok hq (fun σ1 H1 => by
      have hx1 := PG.hasQ H1 hq
      simp only [ldc_eq hx1, true_and, tI_int, pSome_some, List.getElem?_cons_zero, List.getElem?_cons_succ]
      exact hK _ h3 σ1 ⟨g, hg, H1⟩)
    simp only [e1, e2, tIf_if, pSome_some]
    exact e3)
/-- A stream's own object is written to. -/
theorem putQ {Q1 Q2 : List PQ} {q q' : PQ} {o : Nat} {v : Value} {G : AS → Prop} (hg : g.ok F S) (H : Has σ ((s, g.O most last) :: (g.R ++ fr))) (hQ : g.Q = Q1 ++ q :: Q2) (sn : S.Pairwise fun x y => x.n < y.n) (hx : q'.x = q.x) (hf : q'.fi = q.fi) (hb : q'.bn = q.bn) (hn : q'.q.n = q.q.n) (hm : q'.q.nm = q.q.nm) (ho : q'.ok) (hM : q'.M = q.M)
    (h6 : o < 6) (hv : [q.on, q.fp, i64 q.q.mode, i64 q.q.pl, u32 q.q.rd, u32 q.q.wr].set o v = [q'.on, q'.fp, i64 q'.q.mode, i64 q'.q.pl, u32 q'.q.rd, u32 q'.q.wr])
    (hG : ∀ σ' (g' : PG), g'.ok F (setS q'.q S) → g'.Q = Q1 ++ q' :: Q2 → Has σ' ((s, g'.O most last) :: (g'.R ++ fr)) → G σ') : put1 σ ⟨q.x, o, none⟩ v G := by
  obtain ⟨u1, u2⟩ := hg.updQ hQ sn hx hf hb hn hm ho
  have H2 : Has σ ((q.x, q.O) :: ((s, g.O most last) :: ((g.f, .map (g.G.map entF) g.cf) :: ((g.m, .map (g.Q.map entQ) g.cm) :: (g.G.flatMap PF.L ++ (Q1.flatMap PQ.L ++ (q.M ++ (Q2.flatMap PQ.L ++ fr)))))))) := by
    refine H.sep fun a => ?_
    simp only [PG.R, hQ, PQ.L, cnt_app, cnt_cons, List.flatMap_append, List.flatMap_cons, List.append_assoc, List.cons_append]
    omega
  refine put0 H2 rfl (by simpa using h6) fun σ' H' => ?_
  rw [hv] at H'
  refine hG σ' _ u1 rfl (H'.sep fun a => ?_)
  simp only [PG.R, u2, PQ.L, PQ.O, PG.O, shelfO, hM, hx, cnt_app, cnt_cons, List.flatMap_append, List.flatMap_cons, List.append_assoc, List.cons_append, i64, u32]
  omega
theorem c37 (hS : PSt s most last F S fr σ) (ok : OkD F S B) (hB : B ≤ 4294967294)
    (hN : atS S n = none → ∀ σ', PSt s most last F S fr σ' → K (.tuple ⟨[u32 0, .bool false, i64 5]⟩) σ')
    (hE : ∀ x, atS S n = some x → reads x = false → ∀ σ', PSt s most last F S fr σ' → K (.tuple ⟨[u32 0, .bool false, i64 1]⟩) σ')
    (hZ : ∀ x, atS S n = some x → reads x = true → (charsOf F x).length ≤ x.pl → ∀ σ', PSt s most last F S fr σ' → K (.tuple ⟨[u32 0, .bool false, i64 0]⟩) σ')
    (hK : ∀ x c, atS S n = some x → reads x = true → (charsOf F x)[x.pl]? = some c → ∀ σ', PSt s most last F (setS (rdS x 1) S) fr σ' → K (.tuple ⟨[u32 c, .bool true, i64 0]⟩) σ') : Tri Tryz.prog 37 [ptr s, i64 n] σ K := tri_in (by
  rw [s37]
  have hS0 := hS
  obtain ⟨g, hg, H⟩ := hS
  refine c64 hg H ok.sn (fun h => ?_) (fun x hx h => ?_) (fun Q1 q Q2 h1 h2 h3 hrd => ?_)
  · simp only [tI_int, tP_ptr, tTup_tup, pSome_some, List.getElem?_cons_zero, List.getElem?_cons_succ]
    refine bne_mk (fun _ => ⟨?_⟩) (fun h => absurd h (by decide))
    rw [s37j, bm_true]
    exact hN h σ hS0
  · simp only [tI_int, tP_ptr, tTup_tup, pSome_some, List.getElem?_cons_zero, List.getElem?_cons_succ]
    refine bne_mk (fun _ => ⟨?_⟩) (fun h => absurd h (by decide))
    rw [s37j, bm_true]
    exact hE x hx h σ hS0
  have hq : q ∈ g.Q := by rw [h1]; simp
  have hqS : q.q ∈ S := (atS_mem h3).1
  have hx := PG.hasQ H hq
  have hcl := chars_le ok hqS
  simp only [ldc_eq hx, tI_int, tP_ptr, tTup_tup, pSome_some, bm_false, List.getElem?_cons_zero, List.getElem?_cons_succ, Nat.zero_add, Nat.add_zero, bne_self_eq_false, add_none]
  obtain ⟨t, u, f, e1, e2, e3⟩ := hsize (K := fun v16 σ17 => tI .i64 v16 fun n18 => ldc σ17 ⟨q.x, 3, none⟩ fun v19 => tI .i64 v19 fun n20 => (i64 q.q.pl = i64 n20 ∧ JoinS (jn Tryz.prog hintsS (Tri Tryz.prog) 37 [true, true, false] [] K) [(7, some (ptr q.x)), (8, some (i64 0)), (28, some (.bool (decide ((q.q.pl : Int) ≥ n18))))] σ17)) hg H ok hq (fun σ1 H1 => by
    have hx1 := PG.hasQ H1 hq
    simp only [ldc_eq hx1, true_and, tI_int, pSome_some, List.getElem?_cons_zero, List.getElem?_cons_succ]
    refine ⟨?_⟩
    rw [s37j]
    refine bmd_mk (fun h => hZ _ h3 hrd (by omega) σ1 ⟨g, hg, H1⟩) (fun h => ?_)
    obtain ⟨c, hc⟩ : ∃ c, (charsOf F q.q)[q.q.pl]? = some c := ⟨(charsOf F q.q)[q.q.pl]'(by omega), by simp⟩
    have hrb := ok.rd _ hqS
    simp only [ldc_eq hx1, tI_int, pSome_some, List.getElem?_cons_zero, List.getElem?_cons_succ, Nat.zero_add, Nat.add_zero, add_none]
    rw [wrap1 (by omega)]
    let q1 : PQ := { q with q := { q.q with pl := q.q.pl + 1 } }
    let q2 : PQ := { q with q := { q.q with pl := q.q.pl + 1, rd := q.q.rd + 1 } }
    refine putQ (q' := q1) hg H1 h1 ok.sn rfl rfl rfl rfl rfl (hg.qo q hq) rfl (by omega) rfl fun σ2 g2 hg2 hQ2 H2 => ?_
    have hq1 : q1 ∈ g2.Q := by rw [hQ2]; simp
    have hx2 : σ2 q.x = some q1.O := PG.hasQ H2 hq1
    simp only [ldc_eq hx2, q1, tI_int, pSome_some, List.getElem?_cons_zero, List.getElem?_cons_succ]
    have ew : IntKind.wrap .u32 ((q.q.rd : Int) + 1) = ((q.q.rd + 1 : Nat) : Int) := by rw [wrapU32 (by omega) (by omega)]; omega
    rw [ew]
    refine putQ (q := q1) (q' := q2) hg2 H2 hQ2 (setS_sn ok.sn) rfl rfl rfl rfl rfl (hg.qo q hq) rfl (by omega) rfl fun σ3 g3 hg3 hQ3 H3 => ?_
    have hq3 : q2 ∈ g3.Q := by rw [hQ3]; simp
    have hx3 : σ3 q.x = some q2.O := PG.hasQ H3 hq3
    have e9 : setS q2.q (setS q1.q S) = setS (rdS q.q 1) S := setS_setS S (x := q1.q) (y := q2.q) rfl
    rw [e9] at hg3
    have ok3 : OkD F (setS (rdS q.q 1) S) (B + 1) := ok.rdS hqS (by have := (List.getElem?_eq_some_iff.1 hc).1; omega)
    simp only [ldc_eq hx3, q2, tI_int, pSome_some, List.getElem?_cons_zero, List.getElem?_cons_succ]
    have em : IntKind.wrap .i64 (((q.q.pl + 1 : Nat) : Int) - 1) = (q.q.pl : Int) := by rw [wrap64 (by omega) (by omega)]; omega
    obtain ⟨t', u', f', d1, d2, d3⟩ := hat (K := fun v12 σ13 => tI .u32 v12 fun n14 => K (.tuple ⟨[u32 n14, .bool true, i64 0]⟩) σ13) (c := c) (p := q.q.pl) (q := q2) hg3 H3 ok3 hq3 hc (fun σ4 H4 => by
      rw [tI_int]
      exact hK _ c h3 hrd hc σ4 ⟨g3, hg3, H4⟩)
    have d1' : PQ.on { q with q := { q.q with pl := q.q.pl + 1, rd := q.q.rd + 1 } } = .iface t' u' := d1
    simp only [d1', d2, em, tIf_if, pSome_some]
    exact d3)
  simp only [e1, e2, tIf_if, pSome_some]
  exact e3)
end
end Go.AI
end
section
set_option linter.unusedSimpArgs false
set_option linter.unusedVariables false
set_option maxRecDepth 10000
/- The program: Line, Seek, how many bytes there are; no condition but those that each names. -/
namespace Go.AI
open Go.Proofs Go.Shelf
section
variable {σ : AS} {K : Value → AS → Prop} {fr : List (Nat × AObj)} {s k B : Nat} {g : PG} {most last n mode : Int} {nm : List UInt8} {F : List Fi} {S : List Sm} {l : List Int} {a : Option Addr} {wd : Bool}
theorem c39 {mx : Int} (hS : PSt s most last F S fr σ) (ok : OkD F S B) (hB : B ≤ 1073741824)
    (hN : atS S n = none → ∀ σ', PSt s most last F S fr σ' → K (.tuple ⟨[.slice none 0 0, i64 5]⟩) σ')
    (hE : ∀ x, atS S n = some x → reads x = false → ∀ σ', PSt s most last F S fr σ' → K (.tuple ⟨[.slice none 0 0, i64 1]⟩) σ')
    (hK : ∀ x, atS S n = some x → reads x = true → ∀ σ' a' e' rows, SlC 1 a' e' (cellsU (lineOf mx.toNat ((charsOf F x).drop x.pl))) rows → PSt s most last F (setS (rdS x (lineOf mx.toNat ((charsOf F x).drop x.pl)).length) S) (rows ++ fr) σ' →
      K (.tuple ⟨[.slice a' (lineOf mx.toNat ((charsOf F x).drop x.pl)).length e', i64 0]⟩) σ') : Tri Tryz.prog 39 [ptr s, i64 n, i64 mx] σ K := tri_in (by
  rw [s39]
  have hS0 := hS
  obtain ⟨g, hg, H⟩ := hS
  refine c64 hg H ok.sn (fun h => ?_) (fun x hx h => ?_) (fun Q1 q Q2 h1 h2 hat hrd => ?_)
  · simp only [tI_int, tP_ptr, tTup_tup, pSome_some, List.getElem?_cons_zero, List.getElem?_cons_succ]
    exact bne_mk (fun _ => hN h σ hS0) (fun h => absurd h (by decide))
  · simp only [tI_int, tP_ptr, tTup_tup, pSome_some, List.getElem?_cons_zero, List.getElem?_cons_succ]
    exact bne_mk (fun _ => hE x hx h σ hS0) (fun h => absurd h (by decide))
  have hq : q ∈ g.Q := by rw [h1]; simp
  have hmem : q.q ∈ S := (atS_mem hat).1
  have hcl := chars_le ok hmem
  have hplx := ok.pl _ hmem
  generalize hcs : charsOf F q.q = cs at hcl hplx
  simp only [tI_int, tP_ptr, tTup_tup, pSome_some, bm_false, List.getElem?_cons_zero, List.getElem?_cons_succ, bne_self_eq_false]
  refine aloop (fun (ys : List Int) rg σ' => lineOf mx.toNat (cs.drop q.q.pl) = ys ++ lineOf (mx.toNat - ys.length) (cs.drop (q.q.pl + ys.length)) ∧ ys.length ≤ mx.toNat ∧ q.q.pl + ys.length ≤ cs.length ∧ (∃ a' e' rows, SlC 1 a' e' (cellsU ys) rows ∧ PSt s most last F (setS (rdS q.q ys.length) S) (rows ++ fr) σ' ∧
      rg = [(0, some (ptr s)), (1, some (i64 n)), (2, some (i64 mx)), (10, some (.slice a' ys.length e'))])) (fun ys => mx.toNat - ys.length) ?_ (a := [])
      ⟨by simp, Nat.zero_le _, by simpa using hplx, none, 0, [], SlC.nil 0, by rw [List.length_nil, rdS_zero, setS_self (n := n) ok.sn hmem]; exact hS0, rfl⟩
  rintro ys rg σ1 Y hY ⟨hl, hle, hpl, a', e', rows, hs, S1, rfl⟩
  have done : ∀ {σ2 : AS} {a2 : Option Addr} {e2 : Nat} {rows2 : List (Nat × AObj)} {zs : List Int}, lineOf mx.toNat (cs.drop q.q.pl) = zs → SlC 1 a2 e2 (cellsU zs) rows2 → PSt s most last F (setS (rdS q.q zs.length) S) (rows2 ++ fr) σ2 → JoinS (jn Tryz.prog hintsS (Tri Tryz.prog) 39 [true, true, true] [] K) [(10, some (.slice a2 zs.length e2))] σ2 := by
    rintro σ2 a2 e2 rows2 zs rfl hs2 S2
    refine ⟨?_⟩
    rw [s39j]
    have := hK _ hat hrd σ2 a2 e2 rows2
    rw [hcs] at this
    exact this hs2 S2
  rw [s39l]
  refine bmd_mk (fun h => ?_) (fun h => ?_)
  · have okd := ok.rdS (k := ys.length) hmem (by rw [hcs]; exact hpl)
    have hat2 : atS (setS (rdS q.q ys.length) S) n = some (rdS q.q ys.length) := atS_setS hat rfl
    refine c37 S1 okd (by omega) (fun h => by rw [hat2] at h; cases h) (fun x hx hr => ?_) (fun x hx hr hz σ2 S2 => ?_) (fun x c hx hr hc σ2 S2 => ?_)
    · rw [hat2] at hx; cases hx
      rw [reads_rdS, hrd] at hr; cases hr
    · rw [hat2] at hx; cases hx
      rw [charsOf_rdS, hcs] at hz
      simp only [tI_int, tB_bool, tTup_tup, pSome_some, bm_true, List.getElem?_cons_zero, List.getElem?_cons_succ, Bool.not_false]
      refine done ?_ hs S2
      have hz : cs.length ≤ q.q.pl + ys.length := hz
      rw [hl, List.drop_eq_nil_of_le hz]
      cases (mx.toNat - ys.length) <;> simp [lineOf]
    · rw [hat2] at hx; cases hx
      rw [charsOf_rdS, hcs] at hc
      have hc : cs[q.q.pl + ys.length]? = some c := hc
      have hlt2 := (List.getElem?_eq_some_iff.1 hc).1
      have hdrop : cs.drop (q.q.pl + ys.length) = c :: cs.drop (q.q.pl + ys.length + 1) := by
        rw [List.drop_eq_getElem_cons hlt2]
        rw [(List.getElem?_eq_some_iff.1 hc).2]
      obtain ⟨z, hz⟩ : ∃ z, mx.toNat - ys.length = z + 1 := ⟨mx.toNat - ys.length - 1, by omega⟩
      rw [hz, hdrop] at hl
      simp only [tI_int, tB_bool, tTup_tup, pSome_some, bm_false, List.getElem?_cons_zero, List.getElem?_cons_succ, Bool.not_true]
      rw [setS_setS S (x := rdS q.q ys.length) (y := rdS (rdS q.q ys.length) 1) rfl, rdS_rdS] at S2
      obtain ⟨g2, hg2, H2⟩ := S2
      rw [sz54]
      refine pushC (X := (s, g2.O most last) :: (g2.R ++ fr)) hs (H2.sep (fun a => by simp only [cnt_app, cnt_cons]; omega)) (by simp) rfl (by omega) (by omega) fun a3 σ3 rows3 hs3 H3 => ?_
      have e8 : cellsU ys ++ [u32 c] = cellsU (ys ++ [c]) := by simp
      rw [e8] at hs3
      have el : (ys ++ [c]).length = ys.length + 1 := by simp
      have S3 : PSt s most last F (setS (rdS q.q (ys ++ [c]).length) S) (rows3 ++ fr) σ3 := ⟨g2, by rw [el]; exact hg2, H3.sep (fun a => by simp only [cnt_app, cnt_cons]; omega)⟩
      refine beq_mk (fun h10 => ?_) (fun h10 => ?_)
      · have := done (zs := ys ++ [c]) (by rw [hl]; simp [lineOf, h10]) hs3 S3
        rw [el] at this
        exact this
      · refine hY (ys ++ [c]) _ _ (by rw [el]; omega) ⟨?_, by rw [el]; omega, by rw [el]; omega, a3, 1, rows3, hs3, S3, by rw [el]⟩
        rw [hl, el, show mx.toNat - (ys.length + 1) = z by omega]
        simp [lineOf, h10, Nat.add_assoc]
  · refine done ?_ hs S1
    rw [hl, show mx.toNat - ys.length = 0 by omega]
    simp [lineOf])
theorem c16 {p q : Int} (hS : PSt s most last F S fr σ) (ok : OkD F S B) (hp : -9223372036854775808 ≤ p ∧ p ≤ 9223372036854775807)
    (hN : atS S n = none → ∀ σ', PSt s most last F S fr σ' → K (i64 5) σ')
    (hE : ∀ x, atS S n = some x → seekE q ≠ 0 → ∀ σ', PSt s most last F S fr σ' → K (i64 1) σ')
    (hK : ∀ x, atS S n = some x → seekE q = 0 → ∀ σ', PSt s most last F (setS (seekS F x p q) S) fr σ' → K (i64 0) σ') : Tri Tryz.prog 16 [ptr s, i64 n, i64 p, i64 q] σ K := tri_in (by
  rw [s16]
  have hS0 := hS
  obtain ⟨g, hg, H⟩ := hS
  refine c45 hg H ok.sn (fun h => ?_) (fun Q1 x Q2 h1 h2 hat => ?_)
  · simp only [tI_int, tP_ptr, tTup_tup, pSome_some, List.getElem?_cons_zero, List.getElem?_cons_succ]
    exact bne_mk (fun _ => hN h σ hS0) (fun h => absurd h (by decide))
  simp only [tI_int, tP_ptr, tTup_tup, pSome_some, bm_false, List.getElem?_cons_zero, List.getElem?_cons_succ, Nat.zero_add, Nat.add_zero, bne_self_eq_false, add_none]
  have hx : x ∈ g.Q := by rw [h1]; simp
  have hmem : x.q ∈ S := (atS_mem hat).1
  have hcl := chars_le ok hmem
  have hplx := ok.pl _ hmem
  have last_ : ∀ base : Int, ∀ σ1, Has σ1 ((s, g.O most last) :: (g.R ++ fr)) → (0 ≤ base ∧ base ≤ (charsOf F x.q).length) → seekE q = 0 → base = (if q = 0 then 0 else if q = 1 then (x.q.pl : Int) else (charsOf F x.q).length) →
      JoinS (jn Tryz.prog hintsS (Tri Tryz.prog) 16 [true, true, true, true] [] K) [(2, some (i64 p)), (9, some (ptr x.x)), (11, some (i64 base))] σ1 := by
    rintro base σ1 H1 hb hq0 hbe
    refine ⟨?_⟩
    rw [s16j]
    have hx1 := PG.hasQ H1 hx
    obtain ⟨t, u, f, e1, e2, e3⟩ := hsize (K := fun v4 σ5 => tI .i64 v4 fun n6 => put1 σ5 ⟨x.x, 0 + 3, none⟩ (i64 (IntKind.wrap .i64 (base + imax (IntKind.wrap .i64 (0 - base)) (imin p (IntKind.wrap .i64 (n6 - base)))))) fun σ7 => K (i64 0) σ7) hg H1 ok hx (fun σ2 H2 => by
      rw [tI_int]
      have in_ := seekTo_in (base := base) (sz := (charsOf F x.q).length) (p := p) hb.1 hb.2
      have ev : IntKind.wrap .i64 (base + imax (IntKind.wrap .i64 (0 - base)) (imin p (IntKind.wrap .i64 (((charsOf F x.q).length : Int) - base)))) = ((seekTo base (charsOf F x.q).length p).toNat : Int) := by
        rw [wrap64 (n := 0 - base) (by omega) (by omega), wrap64 (n := ((charsOf F x.q).length : Int) - base) (by omega) (by omega)]
        have e : base + imax (0 - base) (imin p (((charsOf F x.q).length : Int) - base)) = seekTo base (charsOf F x.q).length p := by
          unfold seekTo imax imin
          split <;> split <;> omega
        rw [e, wrap64 (by omega) (by omega)]
        omega
      rw [ev]
      refine putQ (q' := { x with q := { x.q with pl := (seekTo base (charsOf F x.q).length p).toNat } }) hg H2 h1 ok.sn rfl rfl rfl rfl rfl (hg.qo x hx) rfl (by omega) rfl fun σ3 g3 hg3 _ H3 => ?_
      refine hK _ hat hq0 σ3 ⟨g3, ?_, H3⟩
      have : seekS F x.q p q = { x.q with pl := (seekTo base (charsOf F x.q).length p).toNat } := by
        unfold seekS
        rw [hbe]
      rw [this]
      exact hg3)
    simp only [ldc_eq hx1, e1, e2, tIf_if, pSome_some, List.getElem?_cons_zero, Nat.zero_add]
    exact e3
  refine beq_mk (fun h => ?_) (fun h0 => ?_)
  · subst h
    exact last_ 0 σ H ⟨by omega, by omega⟩ rfl rfl
  refine beq_mk (fun h => ?_) (fun h1' => ?_)
  · subst h
    simp only [ldc_eq (PG.hasQ H hx), tI_int, pSome_some, List.getElem?_cons_zero, List.getElem?_cons_succ]
    exact last_ _ σ H ⟨by omega, by omega⟩ rfl rfl
  refine beq_mk (fun h => ?_) (fun h2' => ?_)
  · subst h
    obtain ⟨t, u, f, e1, e2, e3⟩ := hsize (K := fun v16 σ17 => tI .i64 v16 fun n18 => JoinS (jn Tryz.prog hintsS (Tri Tryz.prog) 16 [true, true, true, true] [] K) [(2, some (i64 p)), (9, some (ptr x.x)), (11, some (i64 n18))] σ17) hg H ok hx (fun σ1 H1 => by
      rw [tI_int]
      exact last_ _ σ1 H1 ⟨by omega, by omega⟩ rfl rfl)
    simp only [ldc_eq (PG.hasQ H hx), e1, e2, tIf_if, pSome_some, List.getElem?_cons_zero]
    exact e3
  · exact hE _ hat (by unfold seekE; rw [if_pos (by omega)]; decide) σ hS0)
/-- How many bytes there are. -/
theorem totF_perm {F G : List Fi} (h : F.Perm G) : totF F = totF G := (h.map fun f : Fi => f.b.length).sum_nat
theorem sumF {G G' : List PF} (h : G.Perm G') : totF (G.map PF.f) = totF (G'.map PF.f) := (totF_perm (h.map PF.f))
theorem c11 (hg : g.ok F S) (H : Has σ ((s, g.O most last) :: (g.R ++ fr))) (ht : totF F ≤ 1099511627776) (hK : ∀ σ', Has σ' ((s, g.O most last) :: (g.R ++ fr)) → K (i64 (totF F)) σ') : Tri Tryz.prog 11 [ptr s] σ K := tri_in (by
  rw [s11]
  simp only [ldc_eq (H.at 0 rfl), tM_map, pSome_some, List.getElem?_cons_zero, List.getElem?_cons_succ, Nat.zero_add]
  have hm : (g.f, AObj.map (g.G.map entF) g.cf) ∈ (s, g.O most last) :: (g.R ++ fr) := by unfold PG.R; simp
  refine rngM_m H hm fun j σ1 H1 => ?_
  have et : totF F = totF (g.G.map PF.f) := (totF_perm hg.gF).symm
  refine aloop (fun (y : List PF × List PF) rg σ' => (y.1 ++ y.2).Perm g.G ∧ Has σ' ((j, .iter (some g.f) g.cf (y.1.map fun x => (entF x).born) g.cf) :: ((s, g.O most last) :: (g.R ++ fr))) ∧
    rg = [(3, some (i64 (totF (y.1.map PF.f)))), (12, some (ptr j))]) (fun y => y.2.length) ?_ (a := ([], g.G)) ⟨by simp, H1, rfl⟩
  rintro ⟨A, R⟩ rg σ2 Y hY ⟨hp, H2, rfl⟩
  rw [s11l]
  refine mnext_m H2 hm hg.bF hp (fun q R' hR σ3 H3 => ?_) (fun hR => ?_)
  · have hqG : q ∈ g.G := hp.mem_iff.1 (List.mem_append_right _ (hR.mem_iff.2 (by simp)))
    have hp' : ((A ++ [q]) ++ R').Perm g.G := by
      rw [List.append_assoc]
      exact (hR.symm.append_left A).trans hp
    have hb : totF ((A ++ [q]).map PF.f) ≤ totF F := by
      rw [et, ← sumF hp', List.map_append (l₂ := R'), totF_app]
      omega
    have es : totF ((A ++ [q]).map PF.f) = totF (A.map PF.f) + q.f.b.length := by
      rw [List.map_append, totF_app]
      simp [totF]
    simp only [onNx]
    refine mentry_m H3 hm hg.bF hqG ?_
    have hx : σ3 q.fi = some q.O := PG.hasF (fr := fr) (most := most) (last := last) (s := s) (H3.sep (fun a => by simp only [cnt_app, cnt_cons]; omega)) hqG
    simp only [entF, ldc_eq hx, tL_ok_eq (hg.go q hqG).b.no, tP_ptr, pSome_some, List.getElem?_cons_zero, Nat.add_zero, add_none]
    refine hY (A ++ [q], R') _ _ ?_ ⟨hp', H3, ?_⟩
    · show R'.length < R.length
      rw [hR.length_eq]; simp
    · rw [wrap64 (by omega) (by omega), es]
      rfl
  · simp only [onNx]
    have : totF (A.map PF.f) = totF F := by
      rw [et, ← sumF hp]
      have hR : R = [] := hR
      simp only [hR, List.append_nil]
    rw [this]
    exact hK σ2 (H2.sep (fun a => by simp only [cnt_app, cnt_cons]; omega)))
end
end Go.AI
end
section
set_option linter.unusedSimpArgs false
set_option linter.unusedVariables false
set_option maxRecDepth 10000
/- The program: a character put, Write; no condition but those that each names. -/
namespace Go.Shelf
/-- One character put where a stream stands. -/
def put1F (F : List Fi) (x : Sm) (c : Int) : List Fi := if x.nm = [] then F else setB x.nm (setA (bOf F x.nm) (unW x.wd * x.pl) (enc1 x.wd c)) F
def put1S (x : Sm) (c : Int) : Sm := if x.nm = [] then { x with l := if x.pl < x.l.length then x.l.set x.pl (putC x.wd c) else x.l } else x
theorem setB_setB (F : List Fi) (n : List UInt8) (b c : List Int) : setB n c (setB n b F) = setB n c F := by
  unfold setB
  rw [List.map_map]
  refine List.map_congr_left fun z _ => ?_
  simp only [Function.comp]
  by_cases e : z.nm = n
  · rw [if_pos e]; simp only [e, if_true]
  · rw [if_neg e, if_neg e]
theorem setB_self {F : List Fi} (hs : Srt F) (n : List UInt8) : setB n (bOf F n) F = F := by
  unfold setB
  conv => rhs; rw [← List.map_id F]
  refine List.map_congr_left fun z hz => ?_
  by_cases e : z.nm = n
  · rw [if_pos e, ← e, bOf_mem hs hz]; rfl
  · rw [if_neg e]; rfl
theorem un_size {w : Bool} {p : Nat} {bs : List Int} (h : unW w * p ≤ bs.length) : p ≤ sizeW w bs := by
  cases w <;> simp only [unW, sizeW] at * <;> omega
theorem un_le {w : Bool} {p : Nat} {bs : List Int} (h : p ≤ sizeW w bs) : unW w * p ≤ bs.length := by
  cases w <;> simp only [unW, sizeW] at * <;> omega
theorem wrB_len {b : List Int} {x : Sm} {ms : List Int} (h : unW x.wd * x.pl ≤ b.length) : (wrB b x ms).length = max b.length (unW x.wd * (x.pl + ms.length)) := by
  unfold wrB
  rw [setA_len h, enc_len, Nat.mul_add]
theorem wrB_nil {b : List Int} {x : Sm} : wrB b x [] = b := by unfold wrB; rw [enc_nil, setA_nil]
theorem wrB_snoc {b : List Int} {x : Sm} {ms : List Int} {c : Int} (h : unW x.wd * x.pl ≤ b.length) : wrB b x (ms ++ [c]) = setA (wrB b x ms) (unW x.wd * (x.pl + ms.length)) (enc1 x.wd c) := by
  unfold wrB
  rw [enc_app, ← setA_setA h, enc_len, Nat.mul_add, show enc x.wd [c] = enc1 x.wd c from by simp [enc]]
theorem setB_len1 {F : List Fi} {n : List UInt8} {b : List Int} {m : Nat} (h : ∀ f ∈ F, f.b.length ≤ m) (hb : hasF F n = true → b.length ≤ m) : ∀ f ∈ setB n b F, f.b.length ≤ m := by
  intro f hf
  obtain ⟨g, hg, rfl⟩ := List.mem_map.1 hf
  split
  · rename_i e; exact hb (hasF_iff.2 ⟨g, hg, e⟩)
  · exact h g hg
end Go.Shelf
namespace Go.AI
open Go.Proofs Go.Shelf
section
variable {σ : AS} {K : Value → AS → Prop} {fr : List (Nat × AObj)} {s k B : Nat} {g : PG} {most last n mode : Int} {nm : List UInt8} {F : List Fi} {S : List Sm} {l : List Int} {a : Option Addr} {wd : Bool}
theorem chr_in {X : List (Nat × AObj)} {j : Nat} {c : Int} {G : Value → Prop} (hs : Inp u32 a l X) (H : Has σ X) (hc : l[j]? = some c) (hG : G (u32 c)) :
    req (0 ≤ (j : Int)) (req ((j : Int) < (l.length : Int)) (pSome a fun a0 => req (1 = szOf Tryz.prog 54) (ldc σ (Addr.add a0 (Int.toNat (j : Int) * szOf Tryz.prog 54)) G))) := by
  have hlt := (List.getElem?_eq_some_iff.1 hc).1
  refine req_mk (by omega) (req_mk (by omega) ?_)
  rcases hs with rfl | ⟨r, q, rfl, hr⟩
  · simp at hlt
  have hv : (l.map u32)[j]? = some (u32 c) := by rw [List.getElem?_map, hc]; rfl
  simp only [sz54, Int.toNat_natCast, Nat.mul_one, pSome_some, Nat.zero_add, add_none]
  refine req_mk trivial ?_
  rw [ldc_eq (H.g hr), hv]
  exact hG
theorem PQ.on_eq {q q' : PQ} (h1 : q'.q.nm = q.q.nm) (h2 : q'.q.wd = q.q.wd) (h3 : q'.fi = q.fi) : q'.on = q.on := by unfold PQ.on; rw [h1, h2, h3]
theorem PQ.fp_eq {q q' : PQ} (h1 : q'.q.nm = q.q.nm) (h3 : q'.fi = q.fi) : q'.fp = q.fp := by unfold PQ.fp; rw [h1, h3]
/-- A character is put. -/
theorem hput {c : Int} {Q1 Q2 : List PQ} {q : PQ} (hg : g.ok F S) (H : Has σ ((s, g.O most last) :: (g.R ++ fr))) (srt : Srt F) (f1 : ∀ f ∈ F, f.b.length ≤ 1048576) (sn : S.Pairwise fun x y => x.n < y.n) (hQ : g.Q = Q1 ++ q :: Q2) (hc : 0 ≤ c ∧ c ≤ 4294967295) (hp : q.q.pl ≤ (charsOf F q.q).length)
    (hK : ∀ σ' (g' : PG) (q' : PQ), g'.ok (put1F F q.q c) (setS (put1S q.q c) S) → g'.Q = Q1 ++ q' :: Q2 → q'.q = put1S q.q c → q'.x = q.x → q'.fi = q.fi → q'.bn = q.bn → Has σ' ((s, g'.O most last) :: (g'.R ++ fr)) → K unit0 σ') :
    ∃ t u f, q.on = .iface t u ∧ methodOf Tryz.prog t "grotto/shelf.put" = some f ∧ Tri Tryz.prog f [u, i64 q.q.pl, u32 c] σ K := by
  have hq : q ∈ g.Q := by rw [hQ]; simp
  have hmem : q.q ∈ S := by rw [← hg.qS]; exact List.mem_map_of_mem hq
  by_cases h : q.q.nm = []
  · refine ⟨tyB, ptr q.fi, 55, PQ.on_b h, meth_put_b, ?_⟩
    refine c55 (l := q.q.l) (wd := q.q.wd) (a := q.a) (rows := q.rows) (X := (q.x, q.O) :: ((s, g.O most last) :: ((g.f, .map (g.G.map entF) g.cf) :: ((g.m, .map (g.Q.map entQ) g.cm) :: (g.G.flatMap PF.L ++ (Q1.flatMap PQ.L ++ (Q2.flatMap PQ.L ++ fr))))))) (H.sep ?_) (hg.qo q hq h) hc fun σ' rows' hs' H' => ?_
    · intro a
      simp only [PG.R, hQ, PQ.L, PQ.M_b h, cnt_app, cnt_cons, List.flatMap_append, List.flatMap_cons, List.append_assoc, List.cons_append]
      omega
    · have e1 : put1F F q.q c = F := by unfold put1F; rw [if_pos h]
      have e2 : put1S q.q c = { q.q with l := if q.q.pl < q.q.l.length then q.q.l.set q.q.pl (putC q.q.wd c) else q.q.l } := by unfold put1S; rw [if_pos h]
      let q' : PQ := { q with q := put1S q.q c, rows := rows' }
      have eq : q'.q = put1S q.q c := rfl
      have en : q'.q.nm = q.q.nm := by rw [eq, e2]
      have ew : q'.q.wd = q.q.wd := by rw [eq, e2]
      have el : q'.q.l.length = q.q.l.length := by
        rw [eq, e2]
        simp only
        split
        · rw [List.length_set]
        · rfl
      have eO : q'.O = q.O := by
        show AObj.row .plain [q'.on, q'.fp, i64 q'.q.mode, i64 q'.q.pl, u32 q'.q.rd, u32 q'.q.wr] = _
        rw [PQ.on_eq en ew rfl, PQ.fp_eq en rfl, eq, e2]
      have ho : q'.ok := by
        intro _
        rw [eq, e2]
        exact hs'
      obtain ⟨u1, u2⟩ := hg.updQ (q' := q') hQ sn rfl rfl rfl (by rw [eq, e2]) en ho
      rw [eq] at u1
      refine hK σ' { g with Q := Q1 ++ q' :: Q2 } q' (by rw [e1]; exact u1) rfl rfl rfl rfl rfl (H'.sep ?_)
      intro a
      have h' : q'.q.nm = [] := by rw [en]; exact h
      have eM : q'.M = (q.fi, buO q.a q.q.l.length q.q.wd) :: rows' := by rw [PQ.M_b h', el, ew]
      simp only [PG.R, PG.O, shelfO, u2, PQ.L, eM, eO, show q'.x = q.x from rfl, cnt_app, cnt_cons, List.flatMap_append, List.flatMap_cons, List.append_assoc, List.cons_append, i64]
      omega
  · obtain ⟨G1, r, G2, hG, h1, h2, h3, h4, h5⟩ := hg.file srt hq h
    refine ⟨_, _, _, PQ.on_f h, meth_put_g _, ?_⟩
    rw [← h2]
    have hb := f1 _ h4
    have hpl : unW q.q.wd * q.q.pl ≤ r.f.b.length := by
      rw [charsOf_len, if_neg h, h5] at hp
      exact un_le hp
    refine cpu (bs := r.f.b) (a := r.a) (e := r.e) (oa := r.oa) (on := r.op.length) (oe := r.oe) (rows := r.rows) (X := (s, g.O most last) :: ((g.f, .map (g.G.map entF) g.cf) :: ((g.m, .map (g.Q.map entQ) g.cm) :: (r.orows ++ (G1.flatMap PF.L ++ (G2.flatMap PF.L ++ (g.Q.flatMap PQ.L ++ fr))))))) (H.sep ?_) h3.b (by omega) hc hpl fun σ' a' rows' hs' H' => ?_
    · intro a
      simp only [PG.R, hG, PF.L, PF.O, fiO, cnt_app, cnt_cons, List.flatMap_append, List.flatMap_cons, List.append_assoc, List.cons_append]
      omega
    · have e1 : put1F F q.q c = setB r.f.nm (setA r.f.b (unW q.q.wd * q.q.pl) (enc1 q.q.wd c)) F := by unfold put1F; rw [if_neg h, h5, h1]
      have e2 : put1S q.q c = q.q := by unfold put1S; rw [if_neg h]
      let r' : PF := { r with f := { r.f with b := setA r.f.b (unW q.q.wd * q.q.pl) (enc1 q.q.wd c) }, a := a', e := 1, rows := rows' }
      obtain ⟨u1, u2⟩ := hg.updG (r' := r') hG srt rfl rfl rfl rfl ⟨hs', h3.o⟩
      refine hK σ' { g with G := G1 ++ r' :: G2 } q ?_ hQ e2.symm rfl rfl rfl (H'.sep ?_)
      · rw [e1, e2, setS_self (n := 0) sn hmem]
        exact u1
      · intro a
        simp only [PG.R, PG.O, shelfO, u2, PF.L, PF.O, fiO, r', cnt_app, cnt_cons, List.flatMap_append, List.flatMap_cons, List.append_assoc, List.cons_append, i64]
        omega
/-- A stream that is written to, so far. -/
def wrX (x : Sm) (ms : List Int) : Sm := { wrS x ms with wr := x.wr }
theorem wrX_nil {x : Sm} {cl : Nat} (h : x.nm = [] → x.pl ≤ x.l.length) : wrX x [] = x := by
  unfold wrX wrS
  split
  · rename_i h0
    have := h h0
    rw [List.map_nil, bufW_nil, List.length_nil, Nat.add_zero, Nat.min_eq_left this]
  · rfl
theorem wrX_b {x : Sm} {ms : List Int} (h : x.nm = []) : wrX x ms = { x with l := bufW x.l x.pl (ms.map (putC x.wd)), pl := min (x.pl + ms.length) x.l.length } := by
  unfold wrX wrS; rw [if_pos h]
theorem wrX_f {x : Sm} {ms : List Int} (h : x.nm ≠ []) : wrX x ms = { x with pl := x.pl + ms.length } := by
  unfold wrX wrS; rw [if_neg h]
theorem wrX_eq {x : Sm} {ms : List Int} : (wrX x ms).n = x.n ∧ (wrX x ms).nm = x.nm ∧ (wrX x ms).mode = x.mode ∧ (wrX x ms).wd = x.wd ∧ (wrX x ms).rd = x.rd ∧ (wrX x ms).wr = x.wr := by
  unfold wrX wrS
  split <;> exact ⟨rfl, rfl, rfl, rfl, rfl, rfl⟩
theorem put1_eq {x : Sm} {c : Int} : (put1S x c).n = x.n ∧ (put1S x c).nm = x.nm ∧ (put1S x c).mode = x.mode ∧ (put1S x c).wd = x.wd ∧ (put1S x c).rd = x.rd ∧ (put1S x c).wr = x.wr ∧ (put1S x c).pl = x.pl := by
  unfold put1S
  split <;> exact ⟨rfl, rfl, rfl, rfl, rfl, rfl, rfl⟩
/-- One character more. -/
theorem wr_step {x : Sm} {ms : List Int} {c : Int} (hp : x.pl ≤ (charsOf F x).length) (hh : x.nm ≠ [] → hasF F x.nm = true) :
    put1F (wrF F x ms) (wrX x ms) c = wrF F x (ms ++ [c]) ∧
    ({ put1S (wrX x ms) c with pl := min ((wrX x ms).pl + 1) (charsOf (put1F (wrF F x ms) (wrX x ms) c) (put1S (wrX x ms) c)).length } : Sm) = wrX x (ms ++ [c]) ∧
    (wrX x ms).pl ≤ (charsOf (wrF F x ms) (wrX x ms)).length := by
  obtain ⟨w1, w2, w3, w4, w5, w6⟩ := wrX_eq (x := x) (ms := ms)
  obtain ⟨p1, p2, p3, p4, p5, p6, p7⟩ := put1_eq (x := wrX x ms) (c := c)
  by_cases h : x.nm = []
  · rw [charsOf_len, if_pos h] at hp
    have e0 : (put1S (wrX x ms) c).l.length = x.l.length := by
      unfold put1S
      rw [if_pos (by rw [w2]; exact h), wrX_b h]
      simp only
      split
      · rw [List.length_set, bufW_len hp]
      · rw [bufW_len hp]
    refine ⟨?_, ?_, ?_⟩
    · unfold put1F wrF
      rw [if_pos (by rw [w2]; exact h), if_pos h, if_pos h]
    · rw [charsOf_len, if_pos (by rw [p2, w2]; exact h), e0]
      unfold put1S
      rw [if_pos (by rw [w2]; exact h), wrX_b h, wrX_b h]
      simp only [List.map_append, List.map_cons, List.map_nil, List.length_append, List.length_cons, List.length_nil, bufW_len hp]
      rw [bufW_snoc hp, List.length_map]
      have em : min (min (x.pl + ms.length) x.l.length + 1) x.l.length = min (x.pl + (ms.length + (0 + 1))) x.l.length := by omega
      rw [em]
      by_cases g : x.pl + ms.length < x.l.length
      · rw [if_pos g, if_pos (by omega), Nat.min_eq_left (by omega)]
      · rw [if_neg g, if_neg (by omega)]
    · rw [charsOf_len, if_pos (by rw [w2]; exact h), wrX_b h]
      simp only [bufW_len hp]
      omega
  · have hh := hh h
    have hu : unW x.wd * x.pl ≤ (bOf F x.nm).length := by rw [charsOf_len, if_neg h] at hp; exact un_le hp
    have eb : ∀ b, bOf (setB x.nm b F) x.nm = b := fun b => by rw [bOf_setB, if_pos ⟨rfl, hh⟩]
    have e1 : put1F (wrF F x ms) (wrX x ms) c = wrF F x (ms ++ [c]) := by
      unfold put1F wrF
      rw [if_neg (by rw [w2]; exact h), if_neg h, if_neg h, w2, w4, eb, setB_setB, wrB_snoc hu, wrX_f h]
    have e2 : put1S (wrX x ms) c = wrX x ms := by unfold put1S; rw [if_neg (by rw [w2]; exact h)]
    have e3 : ∀ zs, bOf (wrF F x zs) x.nm = wrB (bOf F x.nm) x zs := fun zs => by unfold wrF; rw [if_neg h, eb]
    refine ⟨e1, ?_, ?_⟩
    · rw [e1, e2, charsOf_len, if_neg (by rw [w2]; exact h), w2, w4, e3]
      have : x.pl + ms.length + 1 ≤ sizeW x.wd (wrB (bOf F x.nm) x (ms ++ [c])) := by
        apply un_size
        rw [wrB_len hu, List.length_append]
        simp only [List.length_cons, List.length_nil, Nat.zero_add, Nat.add_assoc]
        omega
      rw [wrX_f h, wrX_f h]
      simp only [List.length_append, List.length_cons, List.length_nil, Nat.zero_add]
      rw [Nat.min_eq_left this, Nat.add_assoc]
    · rw [charsOf_len, if_neg (by rw [w2]; exact h), w2, w4, e3, wrX_f h]
      apply un_size
      rw [wrB_len hu]
      simp only
      omega
end
end Go.AI
end
section
set_option linter.unusedSimpArgs false
set_option linter.unusedVariables false
set_option maxRecDepth 10000
/- The program: Write; no condition but those that each names. -/
namespace Go.AI
open Go.Proofs Go.Shelf
section
variable {σ : AS} {K : Value → AS → Prop} {fr : List (Nat × AObj)} {s k B : Nat} {g : PG} {most last n mode : Int} {nm : List UInt8} {F : List Fi} {S : List Sm} {l : List Int} {a : Option Addr} {wd : Bool}
theorem c14l {ms : List Int} {Q1 Q2 : List PQ} {q : PQ} (hg : g.ok F S) (H : Has σ ((s, g.O most last) :: (g.R ++ fr))) (srt : Srt F) (f1 : ∀ f ∈ F, f.b.length ≤ 1048576) (sn : S.Pairwise fun x y => x.n < y.n) (hQ : g.Q = Q1 ++ q :: Q2) (hh : q.q.nm ≠ [] → hasF F q.q.nm = true)
    (ha : Inp u32 a ms fr) (hc : ∀ c ∈ ms, 0 ≤ c ∧ c ≤ 4294967295) (hm : ms.length ≤ 1000000) (hp : q.q.pl ≤ (charsOf F q.q).length) (hln : q.q.l.length ≤ 4096) (hw : q.q.wr ≤ 1073741824) (hb : q.q.nm ≠ [] → (wrB (bOf F q.q.nm) q.q ms).length ≤ 1048576)
    (hK : ∀ σ', PSt s most last (wrF F q.q ms) (setS (wrS q.q ms) S) fr σ' → K (i64 0) σ') :
    ALoop (fl Tryz.prog hintsS (Tri Tryz.prog) 14 [true, true, true, false, true, false] [] K) [(2, some (.slice a ms.length 1)), (7, some (ptr q.x)), (60, some (.slice a ms.length 1)), (61, some (i64 ms.length)), (62, some (i64 0))] σ := by
  have hmem : q.q ∈ S := by rw [← hg.qS, hQ]; simp
  have hu : q.q.nm ≠ [] → unW q.q.wd * q.q.pl ≤ (bOf F q.q.nm).length := fun h => by
    rw [charsOf_len, if_neg h] at hp; exact un_le hp
  have srt' : ∀ zs, Srt (wrF F q.q zs) := fun zs => by unfold wrF; split; exact srt; exact setB_srt srt
  have f1' : ∀ j, ∀ f ∈ wrF F q.q (ms.take j), f.b.length ≤ 1048576 := fun j => by
    unfold wrF
    split
    · exact f1
    · rename_i h
      refine setB_len1 f1 fun _ => ?_
      have h2 := hb h
      rw [wrB_len (hu h)] at h2 ⊢
      have : unW q.q.wd * (q.q.pl + (ms.take j).length) ≤ unW q.q.wd * (q.q.pl + ms.length) := Nat.mul_le_mul_left _ (by rw [List.length_take]; omega)
      omega
  have hcl : (charsOf F q.q).length ≤ 1048576 := by
    rw [charsOf_len]
    split
    · omega
    · have h1 := sizeW_le q.q.wd (bOf F q.q.nm)
      have h2 : (bOf F q.q.nm).length ≤ 1048576 := by
        unfold bOf
        cases hf : F.find? (·.nm == q.q.nm) with
        | none => simp
        | some g => exact f1 g (List.mem_of_find?_eq_some hf)
      omega
  have hpl : ∀ j, (wrX q.q (ms.take j)).pl ≤ 2100000 := fun j => by
    unfold wrX wrS
    split
    · simp only; omega
    · simp only [List.length_take]; omega
  refine aloop (fun (j : Nat) rg σ' => j ≤ ms.length ∧ (∃ g' q', g'.ok (wrF F q.q (ms.take j)) (setS (wrX q.q (ms.take j)) S) ∧ g'.Q = Q1 ++ q' :: Q2 ∧ q'.q = wrX q.q (ms.take j) ∧ q'.x = q.x ∧ q'.fi = q.fi ∧ Has σ' ((s, g'.O most last) :: (g'.R ++ fr))) ∧
    rg = [(2, some (.slice a ms.length 1)), (7, some (ptr q.x)), (60, some (.slice a ms.length 1)), (61, some (i64 ms.length)), (62, some (i64 j))]) (fun j => ms.length - j) ?_ (a := 0) ⟨Nat.zero_le _, ⟨g, q, ?_, hQ, ?_, rfl, rfl, H⟩, rfl⟩
  · rintro j rg σ1 Y hY ⟨hj, ⟨g1, q1, hg1, hQ1, eq, ex, ef, H1⟩, rfl⟩
    obtain ⟨w1, w2, w3, w4, w5, w6⟩ := wrX_eq (x := q.q) (ms := ms.take j)
    have hq1 : q1 ∈ g1.Q := by rw [hQ1]; simp
    have hx1 : σ1 q.x = some q1.O := by rw [← ex]; exact PG.hasQ H1 hq1
    rw [s14l]
    refine bmd_mk (fun h => ?_) (fun h => ?_)
    · obtain ⟨c, hcj⟩ : ∃ c, ms[j]? = some c := ⟨ms[j]'(by omega), by simp⟩
      have et : ms.take (j + 1) = ms.take j ++ [c] := by rw [List.take_add_one, hcj]; rfl
      refine chr_in (ha.mono fun p hp => List.mem_cons_of_mem _ (List.mem_append_right _ hp)) H1 hcj ?_
      obtain ⟨z1, z2, z3⟩ := wr_step (F := F) (x := q.q) (ms := ms.take j) (c := c) hp hh
      rw [← et] at z1 z2
      have hcb := hc _ (List.mem_of_getElem? hcj)
      obtain ⟨t, u, f, e1, e2, e3⟩ := hput (K := fun v9 σ10 =>
            ldc σ10 ⟨q.x, 0 + 3, none⟩ fun v11 => tI .i64 v11 fun n12 => ldc σ10 ⟨q.x, 0, none⟩ fun v13 => tIf v13 (fun t14 u15 => pSome (methodOf Tryz.prog t14 "grotto/shelf.size") fun f16 => Tri Tryz.prog f16 [u15] σ10 fun v17 σ18 => tI .i64 v17 fun n19 =>
              ldc σ18 ⟨q.x, 0 + 3, none⟩ fun v20 => tI .i64 v20 fun n21 => i64 n12 = i64 n21 ∧ put1 σ18 ⟨q.x, 0 + 3, none⟩ (i64 (imin (IntKind.wrap .i64 (n12 + 1)) n19)) fun σ22 =>
                Y [(2, some (.slice a ms.length 1)), (7, some (ptr q.x)), (60, some (.slice a ms.length 1)), (61, some (i64 ms.length)), (62, some (i64 (IntKind.wrap .i64 ((j : Int) + 1))))] σ22) False) (c := c) hg1 H1 (srt' _) (f1' j) (setS_sn sn) hQ1 hcb (by rw [eq]; exact z3)
          (fun σ2 g2 q2 hg2 hQ2 eq2 ex2 ef2 eb2 H2 => by
        rw [eq] at eq2 hg2
        obtain ⟨p1, p2, p3, p4, p5, p6, p7⟩ := put1_eq (x := wrX q.q (ms.take j)) (c := c)
        have hq2 : q2 ∈ g2.Q := by rw [hQ2]; simp
        have hx2 : σ2 q.x = some q2.O := by rw [← ex, ← ex2]; exact PG.hasQ H2 hq2
        have srt2 : Srt (put1F (wrF F q.q (ms.take j)) (wrX q.q (ms.take j)) c) := by rw [z1]; exact srt' _
        have f2 : ∀ f ∈ put1F (wrF F q.q (ms.take j)) (wrX q.q (ms.take j)) c, f.b.length ≤ 1048576 := by rw [z1]; exact f1' _
        obtain ⟨t', u', f', d1, d2, d3⟩ := hsize0 (K := fun v17 σ18 => tI .i64 v17 fun n19 =>
              ldc σ18 ⟨q.x, 0 + 3, none⟩ fun v20 => tI .i64 v20 fun n21 => i64 q2.q.pl = i64 n21 ∧ put1 σ18 ⟨q.x, 0 + 3, none⟩ (i64 (imin (IntKind.wrap .i64 ((q2.q.pl : Int) + 1)) n19)) fun σ22 =>
                Y [(2, some (.slice a ms.length 1)), (7, some (ptr q.x)), (60, some (.slice a ms.length 1)), (61, some (i64 ms.length)), (62, some (i64 (IntKind.wrap .i64 ((j : Int) + 1))))] σ22) hg2 H2 srt2 f2 hq2 (fun σ3 H3 => by
          have hx3 : σ3 q.x = some q2.O := by rw [← ex, ← ex2]; exact PG.hasQ H3 hq2
          simp only [ldc_eq hx3, true_and, tI_int, pSome_some, List.getElem?_cons_zero, List.getElem?_cons_succ, Nat.zero_add]
          have hb2 := hpl j
          have ew : imin (IntKind.wrap .i64 ((q2.q.pl : Int) + 1)) (charsOf (put1F (wrF F q.q (ms.take j)) (wrX q.q (ms.take j)) c) q2.q).length = ((wrX q.q (ms.take (j + 1))).pl : Int) := by
            have : (wrX q.q (ms.take (j + 1))).pl = min ((wrX q.q (ms.take j)).pl + 1) (charsOf (put1F (wrF F q.q (ms.take j)) (wrX q.q (ms.take j)) c) (put1S (wrX q.q (ms.take j)) c)).length := by rw [← z2]
            rw [this, wrap1 (by rw [eq2, p7]; omega), eq2, p7]
            unfold imin
            split <;> omega
          rw [ew, wrap1 (by omega)]
          have eqx : ({ q2.q with pl := (wrX q.q (ms.take (j + 1))).pl } : Sm) = wrX q.q (ms.take (j + 1)) := by
            rw [eq2]
            conv => rhs; rw [← z2]
            rw [← z2]
          have ex' : q2.x = q.x := ex2.trans ex
          rw [← ex']
          refine putQ (q' := { q2 with q := { q2.q with pl := (wrX q.q (ms.take (j + 1))).pl } }) hg2 H3 hQ2 (setS_sn (setS_sn sn)) rfl rfl rfl rfl rfl (hg2.qo q2 hq2) rfl (by omega) rfl fun σ4 g4 hg4 hQ4 H4 => ?_
          refine hY (j + 1) _ _ (by omega) ⟨by omega, ⟨g4, _, ?_, hQ4, eqx, ex', ef2.trans ef, H4⟩, by rw [ex']⟩
          rw [← z1]
          have hg4 : g4.ok (put1F (wrF F q.q (ms.take j)) (wrX q.q (ms.take j)) c) (setS { q2.q with pl := (wrX q.q (ms.take (j + 1))).pl } (setS (put1S (wrX q.q (ms.take j)) c) (setS (wrX q.q (ms.take j)) S))) := hg4
          rw [eqx] at hg4
          have en : (wrX q.q (ms.take (j + 1))).n = q.q.n := (wrX_eq (x := q.q) (ms := ms.take (j + 1))).1
          rw [setS_setS S (by rw [p1]), setS_setS S (by rw [p1, w1, en])] at hg4
          exact hg4)
        simp only [ldc_eq hx2, d1, d2, tI_int, tIf_if, pSome_some, List.getElem?_cons_zero, List.getElem?_cons_succ, Nat.zero_add]
        exact d3)
      rw [← ef] at *
      have e3' := e3
      rw [show q1.q.pl = (wrX q.q (ms.take j)).pl from by rw [eq]] at e3'
      simp only [ldc_eq hx1, e1, e2, tI_int, tIf_if, pSome_some, List.getElem?_cons_zero, List.getElem?_cons_succ, Nat.zero_add]
      exact e3
    · have hjl : j = ms.length := by omega
      subst hjl
      rw [List.take_length] at hg1 eq w6
      simp only [ldc_eq hx1, tI_int, pSome_some, List.getElem?_cons_zero, List.getElem?_cons_succ, Nat.zero_add]
      have ew : IntKind.wrap .u32 ((q1.q.wr : Int) + IntKind.wrap .u32 (ms.length : Int)) = ((q.q.wr + ms.length : Nat) : Int) := by
        rw [eq, w6, wrapU32 (n := (ms.length : Int)) (by omega) (by omega), wrapU32 (by omega) (by omega)]
        omega
      rw [ew, ← ex]
      refine putQ (q' := { q1 with q := { q1.q with wr := q.q.wr + ms.length } }) hg1 H1 hQ1 (setS_sn sn) rfl rfl rfl rfl rfl (hg1.qo q1 hq1) rfl (by omega) rfl fun σ4 g4 hg4 hQ4 H4 => ?_
      refine hK σ4 ⟨g4, ?_, H4⟩
      have hg4 : g4.ok (wrF F q.q ms) (setS { q1.q with wr := q.q.wr + ms.length } (setS (wrX q.q ms) S)) := hg4
      have e9 : ({ q1.q with wr := q.q.wr + ms.length } : Sm) = wrS q.q ms := by
        rw [eq]
        unfold wrX wrS
        split <;> rfl
      rw [e9, setS_setS S (by unfold wrX wrS; split <;> rfl)] at hg4
      exact hg4
  · rw [List.take_zero, wrX_nil (cl := 0) (fun h => by rw [charsOf_len, if_pos h] at hp; exact hp), setS_self (n := 0) sn hmem]
    have : wrF F q.q [] = F := by
      unfold wrF
      split
      · rfl
      · rw [wrB_nil, setB_self srt]
    rw [this]
    exact hg
  · rw [List.take_zero, wrX_nil (cl := 0) (fun h => by rw [charsOf_len, if_pos h] at hp; exact hp)]
theorem c14 {ms : List Int} (hS : PSt s most last F S fr σ) (ok : Ok most last F S k) (ha : Inp u32 a ms fr) (hc : ∀ c ∈ ms, 0 ≤ c ∧ c ≤ 4294967295) (hm : ms.length ≤ 1000000)
    (hN : atS S n = none → ∀ σ', PSt s most last F S fr σ' → K (i64 5) σ')
    (hE : ∀ x, atS S n = some x → wrE most F x ms ≠ 0 → ∀ σ', PSt s most last F S fr σ' → K (i64 (wrE most F x ms)) σ')
    (hK : ∀ x, atS S n = some x → wrE most F x ms = 0 → ∀ σ', PSt s most last (wrF F x ms) (setS (wrS x ms) S) fr σ' → K (i64 0) σ') : Tri Tryz.prog 14 [ptr s, i64 n, .slice a ms.length 1] σ K := tri_in (by
  rw [s14]
  have hS0 := hS
  obtain ⟨g, hg, H⟩ := hS
  have okd := ok.d
  refine c45 hg H ok.sn (fun h => ?_) (fun Q1 q Q2 h1 h2 hat => ?_)
  · simp only [true_and, tI_int, tP_ptr, tTup_tup, pSome_some, List.getElem?_cons_zero, List.getElem?_cons_succ]
    exact bne_mk (fun _ => hN h σ hS0) (fun h => absurd h (by decide))
  have hq : q ∈ g.Q := by rw [h1]; simp
  have hmem : q.q ∈ S := (atS_mem hat).1
  have hcl := chars_le okd hmem
  have hplx := ok.pl _ hmem
  have hx := PG.hasQ H hq
  have ht := ok.tot
  have hm1 := ok.most1
  have hk := ok.kle
  have hwr := ok.wr _ hmem
  have hln := ok.ln _ hmem
  have hu : q.q.nm ≠ [] → unW q.q.wd * q.q.pl ≤ (bOf F q.q.nm).length := fun h => by
    rw [charsOf_len, if_neg h] at hplx; exact un_le hplx
  simp only [true_and, tI_int, tP_ptr, tTup_tup, pSome_some, bm_false, List.getElem?_cons_zero, List.getElem?_cons_succ, Nat.zero_add, Nat.add_zero, bne_self_eq_false, add_none]
  refine c46 hx ?_
  rw [tB_bool]
  refine bnot_mk (fun h => ?_) (fun h => ?_)
  · have h2 : q.q.mode = 2 := by simpa using h
    have e : wrE most F q.q ms = 1 := by unfold wrE; rw [if_pos h2]
    have := hE _ hat (by rw [e]; decide) σ hS0
    rw [e] at this
    exact this
  have h2 : q.q.mode ≠ 2 := by simpa using h
  have go : ∀ b σ1, Has σ1 ((s, g.O most last) :: (g.R ++ fr)) → (b = true → wrE most F q.q ms = 7) → (b = false → wrE most F q.q ms = 0) → (q.q.nm ≠ [] → b = false → (wrB (bOf F q.q.nm) q.q ms).length ≤ 1048576) → JoinS (jn Tryz.prog hintsS (Tri Tryz.prog) 14 [true, true, false, false, true, true, true, true] [] K) [(2, some (.slice a ms.length 1)), (7, some (ptr q.x)), (25, some (.bool b))] σ1 := by
    intro b σ1 H1 hb1 hb0 hlen
    refine ⟨?_⟩
    rw [s14j]
    refine bm_mk (fun h => ?_) (fun h => ?_)
    · have e := hb1 h
      have := hE _ hat (by rw [e]; decide) σ1 ⟨g, hg, H1⟩
      rw [e] at this
      exact this
    · exact c14l hg H1 ok.srt ok.flen1 ok.sn h1 (ok.has _ hmem) ha hc hm hplx hln (by omega) (fun hne => hlen hne h) fun σ2 S2 => hK _ hat (hb0 h) σ2 S2
  have hb0 : q.q.nm = [] → wrE most F q.q ms = 0 := fun h => by unfold wrE; rw [if_neg h2, if_neg (fun c => c.1 h)]
  refine bmd_mk (fun hpos => ?_) (fun hneg => ?_)
  · simp only [ldc_eq hx, tI_int, pSome_some, List.getElem?_cons_zero, List.getElem?_cons_succ]
    by_cases h : q.q.nm = []
    · rw [PQ.fp_b h]
      simp only [tP_ptr, bm_false, ptrEq_none, Bool.not_true]
      exact go false σ H (fun h => by cases h) (fun _ => hb0 h) (fun hne => absurd h hne)
    · obtain ⟨G1, r, G2, hG, r1, r2, r3, r4, r5⟩ := hg.file ok.srt hq h
      have hfl := ok.flen1 _ r4
      have hu := hu h
      have hwl := wrB_len (ms := ms) hu
      have hbt : (bOf F q.q.nm).length ≤ totF F := bOf_len q.q.nm
      have hu4 : unW q.q.wd * (q.q.pl + ms.length) ≤ 4 * (q.q.pl + ms.length) := Nat.mul_le_mul_right _ (by cases q.q.wd <;> simp [unW])
      simp only [PQ.fp_f h, PQ.on_f h, ldc_eq (H.at 0 rfl), tI_int, tP_ptr, tIf_if, pSome_some, bm_true, List.getElem?_cons_zero, ptrEq_some, Bool.not_false]
      refine c11 hg H (by omega) fun σ1 H1 => ?_
      have hx1 := PG.hasQ H1 hq
      have epl : IntKind.wrap .i64 ((q.q.pl : Int) + (ms.length : Int)) = ((q.q.pl + ms.length : Nat) : Int) := by rw [wrap64 (by omega) (by omega)]; omega
      simp only [ldc_eq (H1.at 0 rfl), ldc_eq hx1, PQ.on_f h, meth_more_g, epl, true_and, tI_int, tIf_if, pSome_some, List.getElem?_cons_zero, List.getElem?_cons_succ]
      rw [← r2]
      refine cmo (bs := r.f.b) (a := r.a) (e := r.e) (oa := r.oa) (on := r.op.length) (oe := r.oe) (rows := r.rows) (X := (s, g.O most last) :: ((g.f, .map (g.G.map entF) g.cf) :: ((g.m, .map (g.Q.map entQ) g.cm) :: (r.orows ++ (G1.flatMap PF.L ++ (G2.flatMap PF.L ++ (g.Q.flatMap PQ.L ++ fr))))))) (H1.sep ?_) r3.b (by omega) (by omega) fun σ2 H2 => ?_
      · intro a
        simp only [PG.R, hG, PF.L, PF.O, fiO, cnt_app, cnt_cons, List.flatMap_append, List.flatMap_cons, List.append_assoc, List.cons_append]
        omega
      have H3 : Has σ2 ((s, g.O most last) :: (g.R ++ fr)) := by
        refine H2.sep ?_
        intro a
        simp only [PG.R, hG, PF.L, PF.O, fiO, cnt_app, cnt_cons, List.flatMap_append, List.flatMap_cons, List.append_assoc, List.cons_append]
        omega
      simp only [ldc_eq (H3.at 0 rfl), true_and, tI_int, pSome_some, List.getElem?_cons_zero]
      rw [r5] at hwl hbt
      have et : IntKind.wrap .i64 ((totF F : Int) + ((unW q.q.wd * (q.q.pl + ms.length) - r.f.b.length : Nat) : Int)) = (totF F : Int) - r.f.b.length + (wrB r.f.b q.q ms).length := by
        rw [hwl, wrap64 (by omega) (by omega)]
        omega
      rw [et]
      refine go _ σ2 H3 (fun hb => ?_) (fun hb => ?_) (fun _ hb => ?_)
      · have := of_decide_eq_true hb
        unfold wrE
        rw [if_neg h2, if_pos ⟨h, by rw [r5]; omega⟩]
      · have := of_decide_eq_false hb
        unfold wrE
        rw [if_neg h2, if_neg (fun c => this (by rw [r5] at c; omega))]
      · have := of_decide_eq_false hb
        rw [r5]
        omega
  · have hms : ms = [] := by
      cases ms with
      | nil => rfl
      | cons c r => simp at hneg
    subst hms
    have e0 : q.q.nm ≠ [] → (wrB (bOf F q.q.nm) q.q []).length ≤ 1048576 := fun h => by
      rw [wrB_nil]
      have := bOf_len (F := F) q.q.nm
      omega
    refine go false σ H (fun h => by cases h) (fun _ => ?_) (fun hne _ => e0 hne)
    unfold wrE
    rw [if_neg h2, if_neg]
    rintro ⟨_, h3⟩
    rw [wrB_nil] at h3
    omega)
end
end Go.AI
end
section
set_option linter.unusedSimpArgs false
set_option linter.unusedVariables false
set_option maxRecDepth 10000
/- The program: New, Put, Get, Delete; no condition but those that each names. -/
namespace Go.AI
open Go.Proofs Go.Shelf
section
variable {σ : AS} {K : Value → AS → Prop} {fr X : List (Nat × AObj)} {s k B : Nat} {g : PG} {most last n mode : Int} {nm : List UInt8} {F : List Fi} {S : List Sm} {l : List Int} {a : Option Addr} {wd : Bool}
theorem onF_nil {Q : List PQ} : onF nm Q = [] ↔ ∀ q ∈ Q, q.q.nm ≠ nm := by
  unfold onF
  rw [List.map_eq_nil_iff, List.filter_eq_nil_iff]
  simp
theorem held_iff (hg : g.ok F S) : held S nm = decide (0 < (onF nm g.Q).length) := by
  unfold held
  rw [← hg.qS]
  by_cases h : onF nm g.Q = []
  · rw [h]
    have := onF_nil.1 h
    simp
    exact this
  · have h2 : ¬ ∀ q ∈ g.Q, q.q.nm ≠ nm := fun c => h (onF_nil.2 c)
    have h3 : 0 < (onF nm g.Q).length := List.length_pos_iff.2 h
    rw [decide_eq_true h3]
    simpa using h2
theorem PG.ok.noQ (hg : g.ok F S) (hh : Go.Shelf.hasF F nm = false) (hne : nm ≠ []) : ∀ q ∈ g.Q, q.q.nm ≠ nm := by
  intro q hq e
  obtain ⟨r, hr, h1, _⟩ := hg.lnk q hq (by rw [e]; exact hne)
  exact hasF_false.1 hh r.f (hg.gF.mem_iff.1 (List.mem_map_of_mem hr)) (h1.trans e)
theorem PG.ok.addG {r : PF} (hg : g.ok F S) (hn : Go.Shelf.hasF F r.f.nm = false) (hne : r.f.nm ≠ []) (ho : r.ok) (hop : r.op = []) (hb : r.bn = g.cf) : ({ g with G := g.G ++ [r], cf := g.cf + 1 } : PG).ok (insF r.f F) S := by
  refine ⟨?_, hg.qS, ?_, hg.qo, ?_, ?_, ?_, hg.bQ⟩
  · show ((g.G ++ [r]).map PF.f).Perm _
    rw [List.map_append]
    exact (List.perm_append_comm.trans ((hg.gF.cons r.f))).trans (insF_perm _ _).symm
  · intro q hq
    rcases List.mem_append.1 hq with h | h
    · exact hg.go q h
    · rw [List.mem_singleton.1 h]; exact ho
  · intro q hq
    rcases List.mem_append.1 hq with h | h
    · exact hg.opn q h
    · rw [List.mem_singleton.1 h, hop]
      exact (onF_nil.2 (hg.noQ hn hne)).symm
  · intro q hq h
    obtain ⟨t, ht, e⟩ := hg.lnk q hq h
    exact ⟨t, List.mem_append_left _ ht, e⟩
  · refine ⟨?_, ?_⟩
    · show ((g.G ++ [r]).map fun x => (entF x).born).Nodup
      rw [List.map_append, List.nodup_append]
      refine ⟨hg.bF.1, by simp, ?_⟩
      intro x hx y hy
      obtain ⟨q, hq, rfl⟩ := List.mem_map.1 hx
      have := hg.bF.2 q hq
      have hy : y = g.cf := by simpa [entF, hb] using hy
      omega
    · intro q hq
      rcases List.mem_append.1 hq with h | h
      · have := hg.bF.2 q h
        show (entF q).born < g.cf + 1
        omega
      · rw [List.mem_singleton.1 h]
        show r.bn < g.cf + 1
        omega
theorem PG.ok.delG {G1 G2 : List PF} {r : PF} (hg : g.ok F S) (hG : g.G = G1 ++ r :: G2) (hs : Srt F) (hh : ∀ q ∈ g.Q, q.q.nm ≠ r.f.nm) (g1 : ∀ q ∈ G1, q.f.nm ≠ r.f.nm) (g2 : ∀ q ∈ G2, q.f.nm ≠ r.f.nm) : ({ g with G := G1 ++ G2 } : PG).ok (delF r.f.nm F) S := by
  have sub : ∀ q ∈ G1 ++ G2, q ∈ g.G := fun q hq => by
    rw [hG]
    rcases List.mem_append.1 hq with h | h <;> simp [h]
  refine ⟨?_, hg.qS, fun q hq => hg.go q (sub q hq), hg.qo, fun q hq => hg.opn q (sub q hq), ?_, ?_, hg.bQ⟩
  · have e1 : (G1 ++ G2).map PF.f = delF r.f.nm (g.G.map PF.f) := by
      rw [hG, List.map_append, List.map_append, List.map_cons]
      have q1 : ∀ f ∈ G1.map PF.f, f.nm ≠ r.f.nm := fun f hf => by obtain ⟨q, hq, rfl⟩ := List.mem_map.1 hf; exact g1 q hq
      have q2 : ∀ f ∈ G2.map PF.f, f.nm ≠ r.f.nm := fun f hf => by obtain ⟨q, hq, rfl⟩ := List.mem_map.1 hf; exact g2 q hq
      rw [delF_split q1 q2]
    show ((G1 ++ G2).map PF.f).Perm _
    rw [e1]
    exact hg.gF.filter _
  · intro q hq hne
    obtain ⟨t, ht, e1, e2⟩ := hg.lnk q hq hne
    rw [hG] at ht
    refine ⟨t, ?_, e1, e2⟩
    rcases List.mem_append.1 ht with h | h
    · exact List.mem_append_left _ h
    · rcases List.mem_cons.1 h with rfl | h
      · exact absurd e1.symm (hh q hq)
      · exact List.mem_append_right _ h
  · refine ⟨?_, fun q hq => hg.bF.2 q (sub q hq)⟩
    have := hg.bF.1
    rw [hG] at this
    refine this.sublist (List.Sublist.map _ ?_)
    exact List.Sublist.append_left (List.sublist_cons_self _ _) _
theorem eraseIdx_mid {α : Type} (A : List α) (x : α) (C : List α) : (A ++ x :: C).eraseIdx A.length = A ++ C := by
  induction A with
  | nil => rfl
  | cons b A ih => simp [ih]
theorem modify_mid {α : Type} (f : α → α) (A : List α) (x : α) (C : List α) : (A ++ x :: C).modify A.length f = A ++ f x :: C := by
  induction A with
  | nil => rfl
  | cons b A ih => simp [List.modify_succ_cons, ih]
theorem c43 (hK : K (.bool (decide (named nm))) σ) : Tri Tryz.prog 43 [.string (bsV nm)] σ K := tri_in (by
  rw [s43]
  simp only [size_bs]
  refine bmd_mk (fun h => ?_) (fun h => ?_)
  · have : (decide (((nm.length : Nat) : Int) ≤ 32)) = decide (named nm) := by
      by_cases h2 : nm.length ≤ 32
      · rw [decide_eq_true (by omega), decide_eq_true (show named nm from ⟨by omega, h2⟩)]
      · rw [decide_eq_false (by omega), decide_eq_false (show ¬ named nm from fun c => h2 c.2)]
    rw [this]; exact hK
  · have : decide (named nm) = false := decide_eq_false (fun c => h (by have := c.1; omega))
    rw [this] at hK; exact hK)
/-- A row of numbers that may be read, perhaps with more behind it. -/
def InpZ (c : Int → Value) (a : Option Addr) (l : List Int) (X : List (Nat × AObj)) : Prop := l = [] ∨ ∃ r k z, a = some ⟨r, 0, none⟩ ∧ (r, AObj.row k (l.map c ++ z)) ∈ X
theorem InpZ.mono {c : Int → Value} {Y : List (Nat × AObj)} (h : InpZ c a l X) (hs : ∀ p ∈ X, p ∈ Y) : InpZ c a l Y := by
  rcases h with h | ⟨r, k, z, h1, h2⟩
  · exact .inl h
  · exact .inr ⟨r, k, z, h1, hs _ h2⟩
theorem Inp.z {c : Int → Value} (h : Inp c a l X) : InpZ c a l X := by
  rcases h with h | ⟨r, k, h1, h2⟩
  · exact .inl h
  · exact .inr ⟨r, k, [], h1, by rw [List.append_nil]; exact h2⟩
theorem srcI {c : Int → Value} {G : Nat → List Value → Prop} (ha : InpZ c a l X) (H : Has σ X) (hG : G l.length (l.map c)) : srcCells σ 1 (some (.slice a l.length 1)) G := by
  rcases ha with rfl | ⟨r0, k0, z0, rfl, hm⟩
  · cases a with
    | none => exact hG
    | some a0 =>
      unfold srcCells
      refine req_mk rfl ?_
      unfold lds AS.cells
      exact hG
  · unfold srcCells
    refine req_mk rfl (ldsm H hm (by simp) ?_)
    have : ((l.map c ++ z0).drop 0).take (l.length * 1) = l.map c := by rw [List.drop_zero]; exact List.take_left' (by simp)
    rw [this]
    exact hG
/-- A copy of bytes. -/
theorem c44 (H : Has σ X) (ha : InpZ u8 a l X) (hl : l.length ≤ 1099511627776) (hK : ∀ σ' a' e' rows, SlC 1 a' e' (cells8 l) rows → Has σ' (rows ++ X) → K (.slice a' l.length e') σ') : Tri Tryz.prog 44 [.slice a l.length 1] σ K := tri_in (by
  rw [s44]
  refine bm_mk (fun h => ?_) (fun h => ?_)
  · cases a with
    | some a0 => cases h
    | none =>
      rcases ha with rfl | ⟨r0, k0, z0, h, _⟩
      · exact hK σ none 0 [] (SlC.nil 0) H
      · cases h
  · refine newAt_mk H fun i0 σ1 H1 => ?_
    refine srcI (ha.mono fun p hp => List.mem_cons_of_mem _ hp) H1 ?_
    refine appC (cells := []) (e := 1) (rows := [(i0, .row .rw [])]) (X := X) SlC.row H1 rfl (by simp) (by omega) (by omega) fun a' σ4 rows' hs' H4 => ?_
    rw [List.nil_append] at hs'
    rw [Nat.zero_add]
    exact hK σ4 a' 1 rows' hs' H4)
theorem c7 (H : Has σ fr) (hE : ¬ (0 ≤ n ∧ n ≤ 1048576) → K (.tuple ⟨[.pointer none, i64 1]⟩) σ) (hK : 0 ≤ n ∧ n ≤ 1048576 → ∀ σ' s, PSt s n 0 [] [] fr σ' → K (.tuple ⟨[ptr s, i64 0]⟩) σ') : Tri Tryz.prog 7 [i64 n] σ K := tri_in (by
  rw [s7]
  refine bmd_mk (fun h => hE (by omega)) (fun h0 => bmd_mk (fun h => hE (by omega)) (fun h1 => ?_))
  refine newAt_mk H fun i0 σ1 H1 => newAt_mk H1 fun i2 σ3 H3 => newAt_mk H3 fun i4 σ5 H5 => ?_
  refine hK ⟨by omega, by omega⟩ σ5 i4 ⟨⟨[], 0, i0, [], 0, i2⟩, ⟨.refl _, rfl, by simp, by simp, by simp, by simp, ⟨by simp, by simp⟩, ⟨by simp, by simp⟩⟩, H5.sep ?_⟩
  intro a
  simp only [PG.R, PG.O, shelfO, List.map_nil, cnt_cons, List.flatMap_nil, List.cons_append, List.nil_append, i64]
  omega)
theorem c21 (hS : PSt s most last F S fr σ) (srt : Srt F) (f1 : ∀ f ∈ F, f.b.length ≤ 1048576)
    (hN : hasF F nm = false → ∀ σ', PSt s most last F S fr σ' → K (.tuple ⟨[.slice none 0 0, .bool false]⟩) σ')
    (hK : hasF F nm = true → ∀ σ' a' rows, SlC 1 a' 1 (cells8 (bOf F nm)) rows → PSt s most last F S (rows ++ fr) σ' → K (.tuple ⟨[.slice a' (bOf F nm).length 1, .bool true]⟩) σ') : Tri Tryz.prog 21 [ptr s, .string (bsV nm)] σ K := tri_in (by
  rw [s21]
  have hS0 := hS
  obtain ⟨g, hg, H⟩ := hS
  simp only [ldc_eq (H.at 0 rfl), mget_eq (PG.hasf H), tM_map, pSome_some, List.getElem?_cons_zero, List.getElem?_cons_succ, Nat.zero_add]
  rcases lookF hg.gF srt nm with ⟨G1, r, G2, hG, h1, h2, h3, h4, h5, _⟩ | ⟨h1, h2, _⟩
  · rw [h5]
    simp only [tP_ptr, pSome_some, ptrEq_some, Option.getD_some, Option.map_some]
    refine ⟨?_⟩
    rw [s21j, bm_false]
    refine newAt_mk H fun i0 σ1 H1 => ?_
    have H2 : Has σ1 ((s, g.O most last) :: (g.R ++ ((i0, .row .rw []) :: fr))) := H1.sep (fun a => by simp only [cnt_app, cnt_cons]; omega)
    have hr : r ∈ g.G := by rw [hG]; simp
    have hb := (hg.go r hr).b
    simp only [ldc_eq (H2.at 0 rfl), mget_eq (PG.hasf H2), h5, ldc_eq (PG.hasF H2 hr), tL_ok_eq hb.no, tP_ptr, tM_map, pSome_some, List.getElem?_cons_zero, List.getElem?_cons_succ, Nat.zero_add, Nat.add_zero, add_none, Option.getD_some, Option.map_some]
    have hf := f1 _ h4
    refine srcC (n := r.f.b.length) (rows := r.rows) hb.e1 H2 (fun p hp => ?_) (by simp) (by omega) ?_
    · refine List.mem_cons_of_mem _ (List.mem_append_left _ ?_)
      unfold PG.R
      refine List.mem_cons_of_mem _ (List.mem_cons_of_mem _ (List.mem_append_left _ (List.mem_flatMap.2 ⟨r, hr, ?_⟩)))
      unfold PF.L
      simp [hp]
    · refine appC (cells := []) (e := 1) (rows := [(i0, .row .rw [])]) (X := (s, g.O most last) :: (g.R ++ fr)) SlC.row (H1.sep (fun a => by simp only [cnt_app, cnt_cons, List.cons_append, List.nil_append]; omega)) rfl (by simp) (by omega) (by omega) fun a' σ4 rows' hs' H4 => ?_
      rw [List.nil_append] at hs'
      rw [Nat.zero_add]
      have := hK h2 σ4 a' rows'
      rw [h3] at this
      exact this hs' ⟨g, hg, H4.sep (fun a => by simp only [cnt_app, cnt_cons]; omega)⟩
  · rw [h2]
    simp only [tP_ptr, pSome_some, ptrEq_none, Option.getD_none, Option.map_none]
    refine ⟨?_⟩
    rw [s21j, bm_true]
    exact hN h1 σ hS0)
theorem c24 (hS : PSt s most last F S fr σ) (srt : Srt F)
    (hE : delB F S nm = false → ∀ σ', PSt s most last F S fr σ' → K (.bool false) σ')
    (hK : delB F S nm = true → ∀ σ', PSt s most last (delF nm F) S fr σ' → K (.bool true) σ') : Tri Tryz.prog 24 [ptr s, .string (bsV nm)] σ K := tri_in (by
  rw [s24]
  have hS0 := hS
  obtain ⟨g, hg, H⟩ := hS
  simp only [ldc_eq (H.at 0 rfl), mget_eq (PG.hasf H), tM_map, pSome_some, List.getElem?_cons_zero, List.getElem?_cons_succ, Nat.zero_add]
  rcases lookF hg.gF srt nm with ⟨G1, r, G2, hG, h1, h2, h3, h4, h5, g1, g2⟩ | ⟨h1, h2, _⟩
  · have hr : r ∈ g.G := by rw [hG]; simp
    have ho := (hg.go r hr).o
    simp only [h5, ldc_eq (PG.hasF H hr), tL_ok_eq ho.no, tP_ptr, pSome_some, bm_false, List.getElem?_cons_zero, List.getElem?_cons_succ, Nat.zero_add, ptrEq_some, Option.getD_some, Option.map_some]
    refine ⟨?_⟩
    rw [s24j]
    have hop := hg.opn r hr
    have hh := held_iff (nm := nm) hg
    rw [← h1, ← hop, h1] at hh
    refine bmd_mk (fun h => hE ?_ σ hS0) (fun h => ?_)
    · unfold delB
      rw [hh, decide_eq_true (by omega)]
      simp
    · have hf : held S nm = false := by rw [hh]; exact decide_eq_false (by omega)
      have hd : delB F S nm = true := by unfold delB; rw [h2, hf]; rfl
      simp only [ldc_eq (H.at 0 rfl), tM_map, pSome_some, List.getElem?_cons_zero, List.getElem?_cons_succ, Nat.zero_add]
      have H2 : Has σ ((g.f, .map (g.G.map entF) g.cf) :: ((s, g.O most last) :: ((g.m, .map (g.Q.map entQ) g.cm) :: (G1.flatMap PF.L ++ (G2.flatMap PF.L ++ (g.Q.flatMap PQ.L ++ fr)))))) := by
        refine H.sep fun a => ?_
        simp only [PG.R, hG, cnt_app, cnt_cons, List.flatMap_append, List.flatMap_cons, List.append_assoc, List.cons_append]
        omega
      refine mdel0 H2 h5 fun σ3 H3 => ?_
      have hnQ : ∀ q ∈ g.Q, q.q.nm ≠ r.f.nm := by
        have e0 : r.op.length = 0 := by omega
        have := List.length_eq_zero_iff.1 e0
        rw [hop] at this
        exact onF_nil.1 this
      have e1 : (g.G.map entF).eraseIdx G1.length = (G1 ++ G2).map entF := by
        rw [hG, List.map_append, List.map_cons, List.map_append]
        have := eraseIdx_mid (G1.map entF) (entF r) (G2.map entF)
        rw [List.length_map] at this
        exact this
      rw [e1] at H3
      have hk := hg.delG hG srt hnQ (fun q hq => by rw [h1]; exact g1 q hq) (fun q hq => by rw [h1]; exact g2 q hq)
      rw [h1] at hk
      refine hK hd σ3 ⟨_, hk, H3.sep fun a => ?_⟩
      simp only [PG.R, PG.O, shelfO, cnt_app, cnt_cons, List.flatMap_append, List.append_assoc, List.cons_append, i64]
      omega
  · rw [h2]
    simp only [tP_ptr, pSome_some, bm_true, ptrEq_none, Option.getD_none, Option.map_none]
    refine ⟨?_⟩
    rw [s24j, bm_true]
    exact hE (by unfold delB; rw [h1]; rfl) σ hS0)
end
end Go.AI
end
section
set_option linter.unusedSimpArgs false
set_option linter.unusedVariables false
set_option maxRecDepth 10000
/- The program: Put; a stream registered; no condition but those that each names. -/
namespace Go.AI
open Go.Proofs Go.Shelf
section
variable {σ : AS} {K : Value → AS → Prop} {fr X : List (Nat × AObj)} {s k B : Nat} {g : PG} {most last n mode : Int} {nm : List UInt8} {F : List Fi} {S : List Sm} {l : List Int} {a : Option Addr} {wd : Bool}
theorem PG.lenG (hg : g.ok F S) : g.G.length = F.length := by
  have := hg.gF.length_eq
  rwa [List.length_map] at this
theorem PG.lenQ (hg : g.ok F S) : g.Q.length = S.length := by
  have := congrArg List.length hg.qS
  rwa [List.length_map] at this
/-- The end of Put. -/
theorem c13z {v : Int} (hg : g.ok F S) (H : Has σ ((s, g.O most last) :: (g.R ++ fr))) (srt : Srt F) (hn : named nm) (hh : held S nm = false) (ha : InpZ u8 a l fr) (hl : l.length ≤ 1048576)
    (h7 : v > most → ∀ σ', PSt s most last F S fr σ' → K (i64 7) σ') (hK : ¬ v > most → ∀ σ', PSt s most last (Shelf.putF F nm l) S fr σ' → K (i64 0) σ') :
    JoinS (jn Tryz.prog hintsS (Tri Tryz.prog) 13 [true, true, true, true, true] [] K) [(0, some (ptr s)), (1, some (.string (bsV nm))), (2, some (.slice a l.length 1)), (8, some (i64 v))] σ := by
  refine ⟨?_⟩
  rw [s13j2]
  simp only [ldc_eq (H.at 0 rfl), tI_int, tM_map, pSome_some, List.getElem?_cons_zero, List.getElem?_cons_succ, Nat.zero_add]
  refine bmd_mk (fun h => h7 h σ ⟨g, hg, H⟩) (fun h => ?_)
  refine c44 H (ha.mono fun p hp => List.mem_cons_of_mem _ (List.mem_append_right _ hp)) (by omega) fun σ1 a' e' rows hs H1 => ?_
  have H2 : Has σ1 ((s, g.O most last) :: (g.R ++ (rows ++ fr))) := H1.sep (fun a => by simp only [cnt_app, cnt_cons]; omega)
  simp only [ldc_eq (H2.at 0 rfl), tL_ok_eq hs.no, true_and, tM_map, pSome_some, List.getElem?_cons_zero, List.getElem?_cons_succ]
  refine newAt_mk H2 fun i9 σ3 H3 => ?_
  simp only [ldc_eq (H3.at 1 rfl), true_and, tM_map, pSome_some, List.getElem?_cons_zero, List.getElem?_cons_succ]
  rcases lookF hg.gF srt nm with ⟨G1, r, G2, hG, h1, h2, h3, h4, h5, g1, g2⟩ | ⟨h1, h2, _⟩
  · have hnQ : ∀ q ∈ g.Q, q.q.nm ≠ nm := by
      have := held_iff (nm := nm) hg
      rw [hh] at this
      have := of_decide_eq_false this.symm
      exact onF_nil.1 (List.length_eq_zero_iff.1 (by omega))
    have hop : r.op = [] := by rw [hg.opn r (by rw [hG]; simp), h1]; exact onF_nil.2 hnQ
    let r' : PF := ⟨⟨nm, l⟩, i9, a', 1, rows, [], none, 0, [], [], r.bn⟩
    have hk := hg.updG0 (r' := r') hG srt (.inr fun q hq => by rw [h1]; exact hnQ q hq) hop.symm rfl h1.symm ⟨hs.e1, SlC.nil 0⟩
    have H4 : Has σ3 ((g.f, .map (g.G.map entF) g.cf) :: ((i9, .row .plain [.slice a' l.length 1, .slice none 0 0]) :: ((s, g.O most last) :: ((g.m, .map (g.Q.map entQ) g.cm) :: (rows ++ (G1.flatMap PF.L ++ (G2.flatMap PF.L ++ (g.Q.flatMap PQ.L ++ fr)))))))) := by
      refine H3.sep fun a => ?_
      simp only [PG.R, hG, cnt_app, cnt_cons, List.flatMap_append, List.flatMap_cons, List.append_assoc, List.cons_append]
      omega
    refine mset0_old H4 h5 fun σ5 H5 => ?_
    have e1 : ((g.G.map entF).modify G1.length fun e => { e with key := .string (bsV nm), val := ptr i9 }) = (G1 ++ r' :: G2).map entF := by
      rw [hG, List.map_append, List.map_cons, List.map_append, List.map_cons]
      have := modify_mid (fun e : MapEntry => { e with key := .string (bsV nm), val := ptr i9 }) (G1.map entF) (entF r) (G2.map entF)
      rw [List.length_map] at this
      exact this
    rw [e1] at H5
    have e2 : Shelf.putF F nm l = setB r.f.nm r'.f.b F := by unfold Shelf.putF; rw [h2, if_pos rfl, h1]
    refine hK h σ5 ⟨_, by rw [e2]; exact hk, H5.sep fun a => ?_⟩
    simp only [PG.R, PG.O, shelfO, PF.L, PF.O, fiO, r', List.length_nil, cnt_app, cnt_cons, List.flatMap_append, List.flatMap_cons, List.append_assoc, List.cons_append, List.nil_append, i64]
    omega
  · have H4 : Has σ3 ((g.f, .map (g.G.map entF) g.cf) :: ((i9, .row .plain [.slice a' l.length 1, .slice none 0 0]) :: ((s, g.O most last) :: ((g.m, .map (g.Q.map entQ) g.cm) :: (rows ++ (g.G.flatMap PF.L ++ (g.Q.flatMap PQ.L ++ fr))))))) := by
      refine H3.sep fun a => ?_
      simp only [PG.R, cnt_app, cnt_cons, List.append_assoc, List.cons_append]
      omega
    refine mset0_new H4 h2 fun σ5 H5 => ?_
    let r' : PF := ⟨⟨nm, l⟩, i9, a', 1, rows, [], none, 0, [], [], g.cf⟩
    have hk := hg.addG (r := r') h1 (by have := hn.1; intro c; have c : nm = [] := c; rw [c] at this; simp at this) ⟨hs.e1, SlC.nil 0⟩ rfl rfl
    have e1 : g.G.map entF ++ [{ key := .string (bsV nm), val := ptr i9, born := g.cf }] = (g.G ++ [r']).map entF := by
      rw [List.map_append]; rfl
    rw [e1] at H5
    have e2 : Shelf.putF F nm l = insF r'.f F := by unfold Shelf.putF; rw [h1]; rfl
    refine hK h σ5 ⟨_, by rw [e2]; exact hk, H5.sep fun a => ?_⟩
    simp only [PG.R, PG.O, shelfO, PF.L, PF.O, fiO, r', List.length_nil, cnt_app, cnt_cons, List.flatMap_append, List.flatMap_cons, List.flatMap_nil, List.append_assoc, List.cons_append, List.nil_append, i64]
    omega
theorem c13 (hS : PSt s most last F S fr σ) (ok : Ok most last F S k) (ha : InpZ u8 a l fr) (hl : l.length ≤ 1048576)
    (hE : putE most F S nm l ≠ 0 → ∀ σ', PSt s most last F S fr σ' → K (i64 (putE most F S nm l)) σ')
    (hK : putE most F S nm l = 0 → ∀ σ', PSt s most last (Shelf.putF F nm l) S fr σ' → K (i64 0) σ') : Tri Tryz.prog 13 [ptr s, .string (bsV nm), .slice a l.length 1] σ K := tri_in (by
  rw [s13]
  have hS0 := hS
  obtain ⟨g, hg, H⟩ := hS
  have ht := ok.tot
  have hm1 := ok.most1
  have lG := PG.lenG hg
  have er : ∀ {c : Int} {σ1 : AS}, c ≠ 0 → putE most F S nm l = c → PSt s most last F S fr σ1 → K (i64 c) σ1 := by
    intro c σ1 h0 h S1
    have := hE (by rw [h]; exact h0) σ1 S1
    rw [h] at this
    exact this
  simp only [ldc_eq (H.at 0 rfl), mget_eq (PG.hasf H), tM_map, pSome_some, List.getElem?_cons_zero, List.getElem?_cons_succ, Nat.zero_add]
  rcases lookF hg.gF ok.srt nm with ⟨G1, r, G2, hG, h1, h2, h3, h4, h5, g1, g2⟩ | ⟨h1, h2, _⟩
  · have hr : r ∈ g.G := by rw [hG]; simp
    have ho := hg.go r hr
    simp only [h5, tP_ptr, pSome_some, bm_true, Nat.zero_add, ptrEq_some, Bool.not_false, Option.getD_some, Option.map_some]
    refine c43 ?_
    rw [tB_bool]
    refine bnot_mk (fun h => er (by decide) (by unfold putE; rw [if_pos (of_decide_eq_false h)]) hS0) (fun h => ?_)
    have hn := of_decide_eq_true h
    simp only [ldc_eq (PG.hasF H hr), tL_ok_eq ho.o.no, pSome_some, List.getElem?_cons_zero, List.getElem?_cons_succ]
    refine ⟨?_⟩
    rw [s13j]
    have hh := held_iff (nm := nm) hg
    rw [← h1, ← hg.opn r hr, h1] at hh
    refine bmd_mk (fun h => er (by decide) ?_ hS0) (fun h => ?_)
    · unfold putE
      rw [if_neg (fun c => c hn), if_pos (by rw [hh]; exact decide_eq_true (by omega))]
    have hf : held S nm = false := by rw [hh]; exact decide_eq_false (by omega)
    simp only [bm_false, Nat.zero_add, ptrEq_some]
    refine ⟨?_⟩
    rw [s13j1, bm_false]
    refine c11 hg H (by omega) fun σ1 H1 => ?_
    simp only [ldc_eq (PG.hasF H1 hr), tL_ok_eq ho.b.no, tI_int, pSome_some, bm_true, List.getElem?_cons_zero, Nat.add_zero, ptrEq_some, Bool.not_false, add_none]
    have hbl := totF_mem h4
    have ev : IntKind.wrap .i64 (IntKind.wrap .i64 ((totF F : Int) + (l.length : Int)) - (r.f.b.length : Int)) = (totF F : Int) + l.length - r.f.b.length := by
      rw [wrap64 (n := (totF F : Int) + (l.length : Int)) (by omega) (by omega), wrap64 (by omega) (by omega)]
    rw [ev]
    have ep : putE most F S nm l = if (totF F : Int) + l.length - r.f.b.length > most then 7 else 0 := by
      unfold putE
      rw [if_neg (fun c => c hn), if_neg (by rw [hf]; decide), if_neg (fun c => by rw [h2] at c; exact absurd c.1 (by decide)), h3]
    refine c13z hg H1 ok.srt hn hf ha hl (fun h σ2 S2 => er (by decide) (by rw [ep, if_pos h]) S2) (fun h σ2 S2 => hK (by rw [ep, if_neg h]) σ2 S2)
  · simp only [h2, tP_ptr, pSome_some, bm_false, ptrEq_none, Bool.not_true, Option.getD_none, Option.map_none]
    refine c43 ?_
    rw [tB_bool]
    refine bnot_mk (fun h => er (by decide) (by unfold putE; rw [if_pos (of_decide_eq_false h)]) hS0) (fun h => ?_)
    have hn := of_decide_eq_true h
    try simp only [true_and, tI_int, tB_bool, tP_ptr, tM_map, tS_str, tTup_tup, tL_sl, tIf_if, pSome_some, chk_true, bm_true, bm_false, List.getElem?_cons_zero, List.getElem?_cons_succ, Nat.zero_add, Nat.add_zero, bne_self_eq_false, beq_self_eq_true, ptrEq_some, ptrEq_none, Bool.not_true, Bool.not_false, tAgg_agg, tCons_cons, tNil_nil, add_none, Option.getD_some, Option.getD_none, Option.map_some, Option.map_none]
    refine ⟨?_⟩
    rw [s13j, bm_false]
    have hf : held S nm = false := by
      rw [held_iff hg]
      have := onF_nil.2 (hg.noQ h1 (by have := hn.1; intro c; rw [c] at this; simp at this))
      rw [this]
      rfl
    simp only [ldc_eq (H.at 0 rfl), mlen_eq (PG.hasf H), tM_map, pSome_some, bm_true, List.getElem?_cons_zero, List.getElem?_cons_succ, Nat.zero_add, ptrEq_none]
    refine ⟨?_⟩
    rw [s13j1, List.length_map, lG]
    refine bm_mk (fun h => er (by decide) ?_ hS0) (fun h => ?_)
    · unfold putE
      have : F.length = 64 := by have h : ((F.length : Nat) : Int) = 64 := by simpa using h
                                 omega
      rw [if_neg (fun c => c hn), if_neg (by rw [hf]; decide), if_pos ⟨h1, this⟩]
    have h64 : F.length ≠ 64 := by
      have h : ¬ ((F.length : Nat) : Int) = 64 := by simpa using h
      omega
    refine c11 hg H (by omega) fun σ1 H1 => ?_
    simp only [tI_int, bm_false, ptrEq_none, Bool.not_true]
    have ev : IntKind.wrap .i64 ((totF F : Int) + (l.length : Int)) = (totF F : Int) + l.length := by
      rw [wrap64 (by omega) (by omega)]
    rw [ev]
    have ep : putE most F S nm l = if (totF F : Int) + l.length > most then 7 else 0 := by
      unfold putE
      rw [if_neg (fun c => c hn), if_neg (by rw [hf]; decide), if_neg (fun c => h64 c.2), bOf_none h1]
      simp
    refine c13z hg H1 ok.srt hn hf ha hl (fun h σ2 S2 => er (by decide) (by rw [ep, if_pos h]) S2) (fun h σ2 S2 => hK (by rw [ep, if_neg h]) σ2 S2))
/-- A stream is registered. -/
theorem c48 {x f m c : Nat} {es : List MapEntry} (H : Has σ ((s, shelfO most last f m) :: ((m, .map es c) :: X))) (hx : Instr.findNow (.int .i64) (i64 (last + 1)) es 0 = some none) (h0 : 0 ≤ last) (h1 : last ≤ 1099511627776)
    (hK : ∀ σ', Has σ' ((s, shelfO most (last + 1) f m) :: ((m, .map (es ++ [{ key := i64 (last + 1), val := ptr x, born := c }]) (c + 1)) :: X)) → K (i64 (last + 1)) σ') : Tri Tryz.prog 48 [ptr s, ptr x] σ K := tri_in (by
  rw [s48]
  simp only [ldc_eq (H.at 0 rfl), tI_int, pSome_some, List.getElem?_cons_zero, List.getElem?_cons_succ, Nat.zero_add]
  rw [wrap64 (by omega) (by omega)]
  refine put0 H rfl (by simp) fun σ1 H1 => ?_
  simp only [List.set_cons_zero, List.set_cons_succ] at H1
  simp only [ldc_eq (H1.at 0 rfl), tI_int, tM_map, pSome_some, List.getElem?_cons_zero, List.getElem?_cons_succ]
  have H1' : Has σ1 ((m, .map es c) :: ((s, shelfO most (last + 1) f m) :: X)) := H1.sep fun a => by
    simp only [shelfO, cnt_cons, i64]
    omega
  refine mset0_new H1' hx fun σ2 H2 => ?_
  simp only [ldc_eq (H2.at 1 rfl), tI_int, pSome_some, List.getElem?_cons_zero, List.getElem?_cons_succ]
  exact hK σ2 (H2.sep fun a => by
    simp only [shelfO, cnt_cons, i64, ptr]
    omega))
end
end Go.AI
end
section
set_option linter.unusedSimpArgs false
set_option linter.unusedVariables false
set_option maxRecDepth 10000
/- The program: whether a file may be opened; streams that are new; no condition but those that each names. -/
namespace Go.AI
open Go.Proofs Go.Shelf
theorem sz95 : szOf Tryz.prog 95 = 1 := by kernel_rfl
section
variable {σ : AS} {K : Value → AS → Prop} {fr X : List (Nat × AObj)} {s k B : Nat} {g : PG} {most last n mode : Int} {nm : List UInt8} {F : List Fi} {S : List Sm} {l : List Int} {a : Option Addr} {wd : Bool}
/-- An element of a slice. -/
theorem el_at {cells : List Value} {rows : List (Nat × AObj)} {a' : Option Addr} {e' j n : Nat} {v : Value} {G : Value → Prop} (hn : j < n) (hs : SlC 1 a' e' cells rows) (H : Has σ X) (hr : ∀ p ∈ rows, p ∈ X) (hc : cells[j]? = some v) (hG : G v) :
    req (0 ≤ (j : Int)) (req ((j : Int) < (n : Int)) (pSome a' fun a0 => req (1 = 1) (ldc σ (Addr.add a0 (Int.toNat (j : Int) * 1)) G))) := by
  have hlt := (List.getElem?_eq_some_iff.1 hc).1
  refine req_mk (by omega) (req_mk (by omega) ?_)
  obtain ⟨r, rfl, h2, rfl⟩ := hs.at (p := 0) (by omega)
  simp only [Int.toNat_natCast, Nat.mul_one, pSome_some, add_none, Nat.zero_add]
  refine req_mk trivial ?_
  rw [ldc_eq (H.g (hr _ (List.mem_singleton.2 rfl))), hc]
  exact hG
theorem PG.memF {p : PF} (hr : p ∈ g.G) {q : Nat × AObj} (hq : q ∈ p.rows ∨ q ∈ p.orows) : q ∈ (s, g.O most last) :: (g.R ++ fr) := by
  refine List.mem_cons_of_mem _ (List.mem_append_left _ ?_)
  unfold PG.R
  refine List.mem_cons_of_mem _ (List.mem_cons_of_mem _ (List.mem_append_left _ (List.mem_flatMap.2 ⟨p, hr, ?_⟩)))
  unfold PF.L
  rcases hq with h | h <;> simp [h]
theorem heldW_iff (hg : g.ok F S) : heldW S nm = true ↔ ∃ q ∈ g.Q, q.q.nm = nm ∧ q.q.mode ≠ 2 := by
  unfold heldW
  rw [← hg.qS]
  simp
/-- Whether a file may be opened. -/
theorem c47 (hg : g.ok F S) (H : Has σ ((s, g.O most last) :: (g.R ++ fr))) (srt : Srt F) (slen : S.length ≤ 64) (hK : K (i64 (openE F S nm mode)) σ) : Tri Tryz.prog 47 [ptr s, .string (bsV nm), i64 mode] σ K := tri_in (by
  rw [s47]
  have lG := PG.lenG hg
  have lQ := PG.lenQ hg
  have er : ∀ {c : Int}, openE F S nm mode = c → K (i64 c) σ := fun h => by rw [← h]; exact hK
  -- behind the look
  have bad : ∀ f : Option Addr, (¬ named nm ∨ ¬ (mode = 1 ∨ mode = 2 ∨ mode = 3 ∨ mode = 5)) → JoinS (jn Tryz.prog hintsS (Tri Tryz.prog) 47 [true, true, false, false] [] K) [(0, some (ptr s)), (2, some (i64 mode)), (7, some (.pointer f)), (16, some (.bool true))] σ := by
    intro f h
    refine ⟨?_⟩
    rw [s47j, bm_true]
    exact er (by unfold openE; rw [if_pos h])
  have good : ∀ f : Option Addr, (named nm → (mode = 1 ∨ mode = 2 ∨ mode = 3 ∨ mode = 5) → JoinS (jn Tryz.prog hintsS (Tri Tryz.prog) 47 [true, true, false, false] [] K) [(0, some (ptr s)), (2, some (i64 mode)), (7, some (.pointer f)), (16, some (.bool false))] σ) →
      Tri Tryz.prog 43 [.string (bsV nm)] σ fun v4 σ5 => tB v4 fun b6 => bmatch (!b6) (JoinS (jn Tryz.prog hintsS (Tri Tryz.prog) 47 [true, true, false, false] [] K) [(0, some (ptr s)), (2, some (i64 mode)), (7, some (.pointer f)), (16, some (.bool true))] σ5)
        (bmatch (decide (mode < 1)) (JoinS (jn Tryz.prog hintsS (Tri Tryz.prog) 47 [true, true, false, false] [] K) [(0, some (ptr s)), (2, some (i64 mode)), (7, some (.pointer f)), (16, some (.bool true))] σ5)
          (bmatch (decide (mode > 5)) (JoinS (jn Tryz.prog hintsS (Tri Tryz.prog) 47 [true, true, false, false] [] K) [(0, some (ptr s)), (2, some (i64 mode)), (7, some (.pointer f)), (16, some (.bool true))] σ5)
            (JoinS (jn Tryz.prog hintsS (Tri Tryz.prog) 47 [true, true, false, false] [] K) [(0, some (ptr s)), (2, some (i64 mode)), (7, some (.pointer f)), (16, some (.bool (mode == 4)))] σ5))) := by
    intro f h
    refine c43 ?_
    rw [tB_bool]
    refine bnot_mk (fun h => bad f (.inl (of_decide_eq_false h))) (fun hn => ?_)
    refine bmd_mk (fun h => bad f (.inr (by omega))) (fun h1 => bmd_mk (fun h => bad f (.inr (by omega))) (fun h5 => ?_))
    by_cases h4 : mode = 4
    · rw [beq_iff_eq.2 h4]; exact bad f (.inr (by omega))
    · have : (mode == 4) = false := by simpa using h4
      rw [this]
      exact h (of_decide_eq_true hn) (by omega)
  simp only [ldc_eq (H.at 0 rfl), mget_eq (PG.hasf H), tM_map, pSome_some, List.getElem?_cons_zero, List.getElem?_cons_succ, Nat.zero_add]
  rcases lookF hg.gF srt nm with ⟨G1, r, G2, hG, h1, h2, h3, h4, h5, g1, g2⟩ | ⟨h1, h2, _⟩
  · have hr : r ∈ g.G := by rw [hG]; simp
    have ho := hg.go r hr
    simp only [h5, tP_ptr, pSome_some, Option.getD_some, Option.map_some]
    refine good (some ⟨r.fi, 0, none⟩) fun hn hm => ⟨?_⟩
    rw [s47j, bm_false]
    simp only [ldc_eq (H.at 0 rfl), mlen_eq (PG.hasm H), tM_map, pSome_some, bm_false, List.getElem?_cons_zero, List.getElem?_cons_succ, Nat.zero_add, ptrEq_some]
    rw [List.length_map, lQ]
    refine beq_mk (fun h => er ?_) (fun h64 => ?_)
    · unfold openE
      rw [if_neg (fun c => c.elim (fun d => d hn) (fun d => d hm)), if_pos (by omega)]
    refine ⟨?_⟩
    rw [s47j1, bm_false]
    simp only [bm_false, Nat.zero_add, ptrEq_some]
    refine ⟨?_⟩
    rw [s47j2, bm_false]
    simp only [ldc_eq (PG.hasF H hr), tL_ok_eq ho.o.no, pSome_some, bm_false, List.getElem?_cons_zero, List.getElem?_cons_succ, Nat.zero_add, ptrEq_some]
    have hop := hg.opn r hr
    rw [h1] at hop
    have eo : openE F S nm mode = if held S nm = true ∧ (heldW S nm = true ∨ mode ≠ 2) then 6 else 0 := by
      unfold openE
      rw [if_neg (fun c => c.elim (fun d => d hn) (fun d => d hm)), if_neg (by omega), if_neg (fun c => by rw [h2] at c; exact absurd c.1 (by decide)), if_neg (fun c => by rw [h2] at c; exact absurd c.1 (by decide))]
    have hh := held_iff (nm := nm) hg
    rw [← hop] at hh
    have hol : r.op.length ≤ 64 := by
      rw [hop]
      unfold onF
      rw [List.length_map]
      have := List.length_filter_le (fun q : PQ => decide (q.q.nm = nm)) g.Q
      omega
    refine aloop (fun (j : Nat) rg σ' => j ≤ r.op.length ∧ σ' = σ ∧ (∀ q ∈ g.Q, q.q.nm = nm → q.x ∈ r.op.take j → q.q.mode = 2 ∧ mode = 2) ∧
      rg = [(2, some (i64 mode)), (63, some (.slice r.oa r.op.length 1)), (64, some (i64 r.op.length)), (65, some (i64 j))]) (fun j => r.op.length - j) ?_ (a := 0) ⟨Nat.zero_le _, rfl, by simp, rfl⟩
    rintro j rg σ1 Y hY ⟨hj, rfl, hI, rfl⟩
    rw [s47l, sz95]
    refine bmd_mk (fun h => ?_) (fun h => ?_)
    · have hv : r.op[j]? = some (r.op[j]'(by omega)) := by simp
      generalize r.op[j]'(by omega) = x at hv
      have hxm : x ∈ onF nm g.Q := by rw [← hop]; exact List.mem_of_getElem? hv
      obtain ⟨q, hq, rfl⟩ := List.mem_map.1 hxm
      obtain ⟨hq1, hq2⟩ := List.mem_filter.1 hq
      have hqn : q.q.nm = nm := of_decide_eq_true hq2
      have := el_at (j := j) (n := r.op.length) (v := ptr q.x) (by omega) ho.o H (fun p hp => PG.memF hr (.inr hp)) (by rw [List.getElem?_append_left (by rw [List.length_map]; omega), List.getElem?_map, hv]; rfl) (G := fun v1 => tP v1 fun b2 => pSome b2 fun a3 => ldc σ1 ⟨a3.block, a3.off + 2, none⟩ fun v4 => tI .i64 v4 fun n5 => bmatch (n5 != 2)
          (JoinS (jn Tryz.prog hintsS (Tri Tryz.prog) 47 [true, true, true, false, true, false, false, true, true, false, false, true] [Y] K) [(2, some (i64 mode)), (63, some (.slice r.oa r.op.length 1)), (64, some (i64 r.op.length)), (65, some (i64 j)), (77, some (.bool true))] σ1)
          (JoinS (jn Tryz.prog hintsS (Tri Tryz.prog) 47 [true, true, true, false, true, false, false, true, true, false, false, true] [Y] K) [(2, some (i64 mode)), (63, some (.slice r.oa r.op.length 1)), (64, some (i64 r.op.length)), (65, some (i64 j)), (77, some (.bool (mode != 2)))] σ1)) (by
        simp only [ldc_eq (PG.hasQ H hq1), tI_int, tP_ptr, pSome_some, List.getElem?_cons_zero, List.getElem?_cons_succ, Nat.zero_add]
        have out : (q.q.mode ≠ 2 ∨ mode ≠ 2) → openE F S nm mode = 6 := by
          intro hc
          rw [eo, if_pos]
          refine ⟨by rw [hh]; exact decide_eq_true (by omega), ?_⟩
          rcases hc with hc | hc
          · exact .inl ((heldW_iff hg).2 ⟨q, hq1, hqn, hc⟩)
          · exact .inr hc
        refine bne_mk (fun hm2 => ⟨?_⟩) (fun hm2 => ⟨?_⟩)
        · rw [s47j3, bm_true]
          exact er (out (.inl hm2))
        · rw [s47j3]
          refine bne_mk (fun hm3 => er (out (.inr hm3))) (fun hm3 => ?_)
          rw [wrap1 (by have := h; omega)]
          refine hY (j + 1) _ _ (by omega) ⟨by omega, rfl, ?_, rfl⟩
          intro q' hq' hn' hx'
          rw [List.take_add_one, hv] at hx'
          rcases List.mem_append.1 hx' with hx' | hx'
          · exact hI q' hq' hn' hx'
          · have ex : q'.x = q.x := by simpa using hx'
            have e1 := PG.hasQ H hq1
            have e2 := PG.hasQ H hq'
            rw [ex, e1] at e2
            have e2 : q.O = q'.O := by injection e2
            unfold PQ.O at e2
            injection e2 with _ e2
            injection e2 with _ e2
            injection e2 with _ e2
            injection e2 with e2 _
            injection e2 with _ e2
            exact ⟨by rw [← e2]; exact hm2, hm3⟩)
      exact this
    · have hj2 : j = r.op.length := by omega
      rw [hj2, List.take_length] at hI
      refine er ?_
      rw [eo, if_neg]
      rintro ⟨c1, c2⟩
      have hpos : 0 < r.op.length := by rw [hh] at c1; exact of_decide_eq_true c1
      have all : ∀ q ∈ g.Q, q.q.nm = nm → q.q.mode = 2 ∧ mode = 2 := fun q hq hqn => hI q hq hqn (by
        rw [hop]
        exact List.mem_map.2 ⟨q, List.mem_filter.2 ⟨hq, decide_eq_true hqn⟩, rfl⟩)
      obtain ⟨x, hx⟩ := List.exists_mem_of_length_pos hpos
      rw [hop] at hx
      obtain ⟨q, hq, _⟩ := List.mem_map.1 hx
      obtain ⟨hq1, hq2⟩ := List.mem_filter.1 hq
      have := all q hq1 (of_decide_eq_true hq2)
      rcases c2 with c2 | c2
      · obtain ⟨q', m1, m2, m3⟩ := (heldW_iff hg).1 c2
        exact m3 (all q' m1 m2).1
      · exact c2 this.2
  · simp only [h2, tP_ptr, pSome_some, Option.getD_none, Option.map_none]
    refine good none fun hn hm => ⟨?_⟩
    rw [s47j, bm_false]
    simp only [ldc_eq (H.at 0 rfl), mlen_eq (PG.hasm H), tM_map, pSome_some, bm_true, List.getElem?_cons_zero, List.getElem?_cons_succ, Nat.zero_add, ptrEq_none]
    rw [List.length_map, lQ]
    refine beq_mk (fun h => er ?_) (fun h64 => ?_)
    · unfold openE
      rw [if_neg (fun c => c.elim (fun d => d hn) (fun d => d hm)), if_pos (by omega)]
    refine ⟨?_⟩
    rw [s47j1]
    refine beq_mk (fun h => er ?_) (fun hm2 => ?_)
    · unfold openE
      rw [if_neg (fun c => c.elim (fun d => d hn) (fun d => d hm)), if_neg (by omega), if_pos ⟨h1, h⟩]
    simp only [ldc_eq (H.at 0 rfl), mlen_eq (PG.hasf H), tM_map, pSome_some, bm_true, List.getElem?_cons_zero, List.getElem?_cons_succ, Nat.zero_add, ptrEq_none]
    refine ⟨?_⟩
    rw [s47j2, List.length_map, lG]
    refine beq_mk (fun h => er ?_) (fun hf64 => ?_)
    · unfold openE
      rw [if_neg (fun c => c.elim (fun d => d hn) (fun d => d hm)), if_neg (by omega), if_neg (fun c => hm2 c.2), if_pos ⟨h1, by omega⟩]
    simp only [bm_true, ptrEq_none]
    refine er ?_
    have hf : held S nm = false := by
      rw [held_iff hg]
      have := onF_nil.2 (hg.noQ h1 (by have := hn.1; intro c; rw [c] at this; simp at this))
      rw [this]
      rfl
    unfold openE
    rw [if_neg (fun c => c.elim (fun d => d hn) (fun d => d hm)), if_neg (by omega), if_neg (fun c => hm2 c.2), if_neg (fun c => by omega), hf]
    simp)
end
end Go.AI
end
section
set_option linter.unusedSimpArgs false
set_option linter.unusedVariables false
set_option maxRecDepth 10000
/- The program: Open; no condition but those that each names. -/
namespace Go.AI
open Go.Proofs Go.Shelf
section
variable {σ : AS} {K : Value → AS → Prop} {fr X : List (Nat × AObj)} {s k B : Nat} {g : PG} {most last n mode : Int} {nm : List UInt8} {F : List Fi} {S : List Sm} {l : List Int} {a : Option Addr} {wd : Bool}
/-- Cells behind a slice that may lie on a longer row. -/
theorem appZ {G : Sl → AS → Prop} {sz by_ m n e : Nat} {c1 z new : List Value} {rows : List (Nat × AObj)} (hs : SlC sz a e (c1 ++ z) rows) (H : Has σ (rows ++ X)) (hn : n * sz = c1.length) (hm : new.length = m * sz) (hsz : 0 < sz) (hb : (n + m) * by_ ≤ 140737488355328)
    (hG : ∀ a' σ' rows', SlC sz a' sz (c1 ++ new) rows' → Has σ' (rows' ++ X) → G ⟨a', n + m⟩ σ') : appendTo σ sz by_ ⟨a, n⟩ new m G := by
  rcases hs with ⟨rfl, h, rfl⟩ | ⟨j, rfl, rfl, rfl⟩
  · obtain ⟨rfl, rfl⟩ := List.append_eq_nil_iff.1 h
    exact appC (SlC.nil e) H hn hm hsz hb hG
  · refine append_mk H 0 rfl rfl hb (by rw [List.length_append]; omega) fun j' σ' H' => ?_
    have e0 : (c1 ++ z).take (n * sz) = c1 := by rw [hn]; exact List.take_left' rfl
    rw [e0] at H'
    exact hG _ σ' _ SlC.row (by simpa using H')
theorem onF_snoc {Q : List PQ} {q : PQ} : onF nm (Q ++ [q]) = onF nm Q ++ if q.q.nm = nm then [q.x] else [] := by
  unfold onF
  rw [List.filter_append, List.map_append]
  by_cases h : q.q.nm = nm
  · simp [h]
  · simp [h]
theorem born_snoc {α : Type} {ent : α → MapEntry} {ws : List α} {c : Nat} {q : α} (h : BornOk ent ws c) (hq : (ent q).born = c) : BornOk ent (ws ++ [q]) (c + 1) := by
  refine ⟨?_, ?_⟩
  · rw [List.map_append, List.nodup_append]
    refine ⟨h.1, by simp, ?_⟩
    intro x hx y hy
    obtain ⟨r, hr, rfl⟩ := List.mem_map.1 hx
    have := h.2 r hr
    have hy : y = c := by simpa [hq] using hy
    omega
  · intro r hr
    rcases List.mem_append.1 hr with hr | hr
    · have := h.2 r hr; omega
    · rw [List.mem_singleton.1 hr, hq]; omega
/-- A stream on a file, new. -/
theorem PG.ok.addQ {G1 G2 : List PF} {r r' : PF} {q : PQ} (hg : g.ok F S) (hG : g.G = G1 ++ r :: G2) (srt : Srt F) (hx : r'.fi = r.fi) (hb : r'.bn = r.bn) (hf : r'.f = r.f) (ho : r'.ok) (hp : r'.op = r.op ++ [q.x]) (hne : r.f.nm ≠ []) (hq1 : q.q.nm = r.f.nm) (hq2 : q.fi = r.fi) (hq3 : q.bn = g.cm) :
    ({ g with G := G1 ++ r' :: G2, Q := g.Q ++ [q], cm := g.cm + 1 } : PG).ok F (S ++ [q.q]) ∧ (G1 ++ r' :: G2).map entF = g.G.map entF := by
  have hr : r ∈ g.G := by rw [hG]; simp
  have hnd : (g.G.map fun q => q.f.nm).Nodup := by
    have h1 : (F.map (·.nm)).Nodup := by
      rw [List.Nodup, List.pairwise_map]
      exact srt.imp fun h e => by rw [e] at h; exact lt_irrefl _ h
    have h2 := (hg.gF.map (·.nm)).nodup_iff.2 h1
    rw [List.map_map] at h2
    exact h2
  rw [hG, List.map_append, List.map_cons, List.nodup_append] at hnd
  obtain ⟨_, n2, n3⟩ := hnd
  have g1 : ∀ q ∈ G1, q.f.nm ≠ r.f.nm := fun q hq e => n3 _ (List.mem_map_of_mem (f := fun q : PF => q.f.nm) hq) _ (List.mem_cons_self ..) e
  have g2 : ∀ q ∈ G2, q.f.nm ≠ r.f.nm := fun q hq e => (List.nodup_cons.1 n2).1 (by rw [← e]; exact List.mem_map_of_mem (f := fun q : PF => q.f.nm) hq)
  have mem : ∀ t, t ∈ G1 ++ r' :: G2 → t = r' ∨ (t ∈ g.G ∧ t.f.nm ≠ r.f.nm) := by
    intro t ht
    rcases List.mem_append.1 ht with h | h
    · exact .inr ⟨by rw [hG]; simp [h], g1 t h⟩
    · rcases List.mem_cons.1 h with rfl | h
      · exact .inl rfl
      · exact .inr ⟨by rw [hG]; simp [h], g2 t h⟩
  refine ⟨⟨?_, ?_, ?_, ?_, ?_, ?_, ?_, born_snoc hg.bQ hq3⟩, ?_⟩
  · have : (G1 ++ r' :: G2).map PF.f = g.G.map PF.f := by rw [hG, List.map_append, List.map_append, List.map_cons, List.map_cons, hf]
    show ((G1 ++ r' :: G2).map PF.f).Perm F
    rw [this]
    exact hg.gF
  · show (g.Q ++ [q]).map PQ.q = _
    rw [List.map_append, hg.qS]; rfl
  · intro t ht
    rcases mem t ht with rfl | ⟨h, _⟩
    · exact ho
    · exact hg.go t h
  · intro t ht
    rcases List.mem_append.1 ht with h | h
    · exact hg.qo t h
    · rw [List.mem_singleton.1 h]
      intro h0
      rw [hq1] at h0
      exact absurd h0 hne
  · intro t ht
    show t.op = onF t.f.nm (g.Q ++ [q])
    rw [onF_snoc]
    rcases mem t ht with rfl | ⟨h, hn⟩
    · rw [hp, hf, hq1, if_pos rfl, hg.opn r hr]
    · rw [if_neg (fun e => hn (by rw [← e, hq1])), List.append_nil]
      exact hg.opn t h
  · intro t ht h0
    rcases List.mem_append.1 ht with h | h
    · obtain ⟨u, hu, e1, e2⟩ := hg.lnk t h h0
      rw [hG] at hu
      rcases List.mem_append.1 hu with h | h
      · exact ⟨u, by simp [h], e1, e2⟩
      · rcases List.mem_cons.1 h with rfl | h
        · exact ⟨r', by simp, by rw [hf]; exact e1, by rw [hx]; exact e2⟩
        · exact ⟨u, by simp [h], e1, e2⟩
    · rw [List.mem_singleton.1 h]
      exact ⟨r', by simp, by rw [hf, hq1], by rw [hx, hq2]⟩
  · refine ⟨?_, ?_⟩
    · have h1 : ((G1 ++ r' :: G2).map fun x => (entF x).born) = g.G.map fun x => (entF x).born := by
        rw [hG, List.map_append, List.map_append, List.map_cons, List.map_cons]
        unfold entF
        rw [hb]
      show ((G1 ++ r' :: G2).map fun x => (entF x).born).Nodup
      rw [h1]
      exact hg.bF.1
    · intro t ht
      rcases mem t ht with rfl | ⟨h, _⟩
      · show t.bn < g.cf
        rw [hb]
        exact hg.bF.2 r hr
      · exact hg.bF.2 t h
  · rw [hG, List.map_append, List.map_append, List.map_cons, List.map_cons]
    unfold entF
    rw [hf, hx, hb]
theorem PG.ok.addB {q : PQ} (hg : g.ok F S) (hF : ∀ f ∈ F, f.nm ≠ []) (hq1 : q.q.nm = []) (ho : q.ok) (hq3 : q.bn = g.cm) : ({ g with Q := g.Q ++ [q], cm := g.cm + 1 } : PG).ok F (S ++ [q.q]) := by
  refine ⟨hg.gF, ?_, hg.go, ?_, ?_, ?_, hg.bF, born_snoc hg.bQ hq3⟩
  · show (g.Q ++ [q]).map PQ.q = _
    rw [List.map_append, hg.qS]; rfl
  · intro t ht
    rcases List.mem_append.1 ht with h | h
    · exact hg.qo t h
    · rw [List.mem_singleton.1 h]; exact ho
  · intro t ht
    show t.op = onF t.f.nm (g.Q ++ [q])
    rw [onF_snoc, if_neg, List.append_nil]
    · exact hg.opn t ht
    · intro e
      exact hF t.f (hg.gF.mem_iff.1 (List.mem_map_of_mem ht)) (by rw [← e, hq1])
  · intro t ht h0
    rcases List.mem_append.1 ht with h | h
    · exact hg.lnk t h h0
    · rw [List.mem_singleton.1 h] at h0
      exact absurd hq1 h0
/-- The number behind the last is no stream's. -/
theorem new_n (hg : g.ok F S) (sn : S.Pairwise fun x y => x.n < y.n) (sle : ∀ x ∈ S, x.n ≤ last) : Instr.findNow (.int .i64) (i64 (last + 1)) (g.Q.map entQ) 0 = some none := by
  rcases lookQ (Q := g.Q) (by rw [hg.qS]; exact sn) (last + 1) with ⟨Q1, q, Q2, h1, h2, h3, _⟩ | ⟨_, h, _⟩
  · have hq : q.q ∈ S := by rw [← hg.qS, h1]; simp
    have := sle _ hq
    omega
  · exact h
/-- A stream on a file: made, put to the file's list, registered. -/
theorem c15z {G1 G2 : List PF} {r : PF} (hg : g.ok F S) (H : Has σ ((s, g.O most last) :: (g.R ++ fr))) (srt : Srt F) (f1 : ∀ f ∈ F, f.b.length ≤ 1048576) (sn : S.Pairwise fun x y => x.n < y.n) (sle : ∀ x ∈ S, x.n ≤ last) (slen : S.length ≤ 64) (h0 : 0 ≤ last) (h1 : last ≤ 1099511627776) (hG : g.G = G1 ++ r :: G2) (hne : r.f.nm ≠ [])
    (hK : ∀ σ', PSt s most (last + 1) F (S ++ [⟨last + 1, r.f.nm, [], mode, wd, if mode = 5 then sizeW wd r.f.b else 0, 0, 0⟩]) fr σ' → K (.tuple ⟨[i64 (last + 1), i64 0]⟩) σ') :
    JoinS (jn Tryz.prog hintsS (Tri Tryz.prog) 15 [true, true, true, true, true] [] K) [(0, some (ptr s)), (2, some (i64 mode)), (3, some (.bool wd)), (11, some (ptr r.fi))] σ := by
  have hr : r ∈ g.G := by rw [hG]; simp
  have ho := hg.go r hr
  have hf : r.f ∈ F := hg.gF.mem_iff.1 (List.mem_map_of_mem hr)
  have hfl := f1 _ hf
  have hopl : r.op.length ≤ 64 := by
    rw [hg.opn r hr]
    unfold onF
    rw [List.length_map]
    have := List.length_filter_le (fun q : PQ => decide (q.q.nm = r.f.nm)) g.Q
    have := PG.lenQ hg
    omega
  -- the end
  have end_ : ∀ (p : Nat) {σ1 : AS} {x : Nat}, p = (if mode = 5 then sizeW wd r.f.b else 0) → Has σ1 ((x, .row .plain [.iface (tyW wd) (hold r.fi), ptr r.fi, i64 mode, i64 p, u32 0, u32 0]) :: ((s, g.O most last) :: (g.R ++ fr))) →
      JoinS (jn Tryz.prog hintsS (Tri Tryz.prog) 15 [true, true, true, true, true, true, true, true] [] K) [(0, some (ptr s)), (11, some (ptr r.fi)), (12, some (ptr x))] σ1 := by
    rintro p σ1 x rfl H1
    refine ⟨?_⟩
    rw [s15j3]
    have hx1 : σ1 r.fi = some r.O := PG.hasF (fr := fr) (most := most) (last := last) (s := s) (H1.sep (fun a => by simp only [cnt_app, cnt_cons, i64, u32, ptr]; omega)) hr
    simp only [ldc_eq hx1, tL_ok_eq ho.o.no, pSome_some, List.getElem?_cons_zero, List.getElem?_cons_succ, Nat.zero_add]
    refine newAt_mk H1 fun i2 σ3 H3 => ?_
    rw [lds_eq (H3.at 0 rfl) 0 1 (by simp)]
    simp only [List.drop_zero, List.take_succ_cons, List.take_zero]
    let q : PQ := ⟨⟨last + 1, r.f.nm, [], mode, wd, if mode = 5 then sizeW wd r.f.b else 0, 0, 0⟩, x, r.fi, none, [], g.cm⟩
    have eO : q.O = .row .plain [.iface (tyW wd) (hold r.fi), ptr r.fi, i64 mode, i64 (if mode = 5 then sizeW wd r.f.b else 0 : Nat), u32 0, u32 0] := by
      show AObj.row .plain [q.on, q.fp, _, _, _, _] = _
      rw [PQ.on_f (q := q) hne, PQ.fp_f (q := q) hne]
      rfl
    have eM : q.M = [] := PQ.M_f (q := q) hne
    refine appZ (new := [ptr x]) (m := 1) (X := (x, q.O) :: ((s, g.O most last) :: ((r.fi, r.O) :: (r.rows ++ ((g.f, .map (g.G.map entF) g.cf) :: ((g.m, .map (g.Q.map entQ) g.cm) :: (G1.flatMap PF.L ++ (G2.flatMap PF.L ++ (g.Q.flatMap PQ.L ++ fr))))))))) ho.o (H3.sep ?_) (by simp) rfl (by omega) (by omega) fun a' σ4 rows' hs' H4 => ?_
    · intro a
      rw [eO]
      simp only [PG.R, hG, PF.L, PF.O, fiO, cnt_app, cnt_cons, List.flatMap_append, List.flatMap_cons, List.append_assoc, List.cons_append, i64, u32, ptr]
      omega
    have H5 : Has σ4 ((r.fi, r.O) :: (rows' ++ ((x, q.O) :: ((s, g.O most last) :: (r.rows ++ ((g.f, .map (g.G.map entF) g.cf) :: ((g.m, .map (g.Q.map entQ) g.cm) :: (G1.flatMap PF.L ++ (G2.flatMap PF.L ++ (g.Q.flatMap PQ.L ++ fr)))))))))) := H4.sep (fun a => by simp only [cnt_app, cnt_cons]; omega)
    refine put0 H5 rfl (by simp) fun σ5 H6 => ?_
    simp only [List.set_cons_succ, List.set_cons_zero] at H6
    have e1 : r.op.map ptr ++ [ptr x] = (r.op ++ [x]).map ptr := by simp
    rw [e1] at hs'
    let r' : PF := { r with op := r.op ++ [x], oa := a', oe := 1, orows := rows', oz := [] }
    have er : AObj.row .plain [.slice r.a r.f.b.length r.e, .slice a' (r.op.length + 1) 1] = r'.O := by
      show _ = fiO r.a r.f.b.length r.e a' (r.op ++ [x]).length 1
      rw [List.length_append]; rfl
    rw [er] at H6
    obtain ⟨u1, u2⟩ := hg.addQ (r' := r') (q := q) hG srt rfl rfl rfl ⟨ho.b, by show SlC 1 a' 1 ((r.op ++ [x]).map ptr ++ []) rows'; rw [List.append_nil]; exact hs'⟩ rfl hne rfl rfl rfl
    refine c48 (most := most) (f := g.f) (m := g.m) (es := g.Q.map entQ) (c := g.cm) (X := (r.fi, r'.O) :: (rows' ++ ((x, q.O) :: (r.rows ++ ((g.f, .map (g.G.map entF) g.cf) :: (G1.flatMap PF.L ++ (G2.flatMap PF.L ++ (g.Q.flatMap PQ.L ++ fr)))))))) (H6.sep (fun a => by simp only [cnt_app, cnt_cons, i64, PG.O, shelfO]; omega)) (new_n hg sn sle) h0 h1 fun σ6 H7 => ?_
    simp only [tI_int]
    refine hK σ6 ⟨_, u1, H7.sep fun a => ?_⟩
    have e2 : (g.Q ++ [q]).map entQ = g.Q.map entQ ++ [{ key := i64 (last + 1), val := ptr x, born := g.cm }] := by rw [List.map_append]; rfl
    have e3 : cnt a (PQ.L q) = cnt a [(x, q.O)] := by unfold PQ.L; rw [eM]
    simp only [PG.R, PG.O, shelfO, u2, e2, cnt_app, cnt_cons, cnt_nil, List.flatMap_append, List.flatMap_cons, List.flatMap_nil, List.append_assoc, List.cons_append, List.nil_append, i64, ptr, e3]
    simp only [PF.L, r', cnt_app, cnt_cons]
    omega
  -- the size, if behind all
  have mid : ∀ {σ1 : AS} {x : Nat}, Has σ1 ((x, .row .plain [.iface (tyW wd) (hold r.fi), ptr r.fi, i64 mode, i64 0, u32 0, u32 0]) :: ((s, g.O most last) :: (g.R ++ fr))) →
      JoinS (jn Tryz.prog hintsS (Tri Tryz.prog) 15 [true, true, true, true, true, true, true] [] K) [(0, some (ptr s)), (2, some (i64 mode)), (11, some (ptr r.fi)), (12, some (ptr x))] σ1 := by
    intro σ1 x H1
    refine ⟨?_⟩
    rw [s15j2]
    refine beq_mk (fun h5 => ?_) (fun h5 => end_ 0 (by rw [if_neg h5]) H1)
    simp only [ldc_eq (H1.at 0 rfl), meth_size_g, tIf_if, pSome_some, List.getElem?_cons_zero, Nat.zero_add]
    have H2 : Has σ1 ((r.fi, r.O) :: (r.rows ++ ((x, .row .plain [.iface (tyW wd) (hold r.fi), ptr r.fi, i64 mode, i64 0, u32 0, u32 0]) :: ((s, g.O most last) :: (r.orows ++ ((g.f, .map (g.G.map entF) g.cf) :: ((g.m, .map (g.Q.map entQ) g.cm) :: (G1.flatMap PF.L ++ (G2.flatMap PF.L ++ (g.Q.flatMap PQ.L ++ fr)))))))))) := by
      refine H1.sep fun a => ?_
      simp only [PG.R, hG, PF.L, cnt_app, cnt_cons, List.flatMap_append, List.flatMap_cons, List.append_assoc, List.cons_append, i64, u32, ptr]
      omega
    refine csz H2 ho.b (by omega) fun σ2 H3 => ?_
    have H4 : Has σ2 ((x, .row .plain [.iface (tyW wd) (hold r.fi), ptr r.fi, i64 mode, i64 0, u32 0, u32 0]) :: ((s, g.O most last) :: (g.R ++ fr))) := by
      refine H3.sep fun a => ?_
      simp only [PG.R, hG, PF.L, PF.O, fiO, cnt_app, cnt_cons, List.flatMap_append, List.flatMap_cons, List.append_assoc, List.cons_append, i64, u32, ptr]
      omega
    simp only [tI_int]
    refine put0 H4 rfl (by simp) fun σ3 H5 => ?_
    exact end_ _ (by rw [if_pos h5]) H5
  refine ⟨?_⟩
  rw [s15j1]
  refine newAt_mk H fun x σ1 H1 => ?_
  cases wd with
  | true =>
    rw [bm_true]
    exact put0 H1 rfl (by simp) fun σ2 H2 => mid H2
  | false =>
    rw [bm_false]
    exact mid H1
end
end Go.AI
end
section
set_option linter.unusedSimpArgs false
set_option linter.unusedVariables false
set_option maxRecDepth 10000
/- The program: Open, Buffer; no condition but those that each names. -/
namespace Go.AI
open Go.Proofs Go.Shelf
section
variable {σ : AS} {K : Value → AS → Prop} {fr X : List (Nat × AObj)} {s k B : Nat} {g : PG} {most last n mode : Int} {nm : List UInt8} {F : List Fi} {S : List Sm} {l : List Int} {a : Option Addr} {wd : Bool}
theorem c15j (hg : g.ok F S) (H : Has σ ((s, g.O most last) :: (g.R ++ fr))) (srt : Srt F) (f1 : ∀ f ∈ F, f.b.length ≤ 1048576) (sn : S.Pairwise fun x y => x.n < y.n) (sle : ∀ x ∈ S, x.n ≤ last) (slen : S.length ≤ 64) (h0 : 0 ≤ last) (h1 : last ≤ 1099511627776) (hh : hasF F nm = true) (hne : nm ≠ [])
    (hK : ∀ σ' F', F' = (if mode = 1 then setB nm [] F else F) → PSt s most (last + 1) F' (S ++ [⟨last + 1, nm, [], mode, wd, if mode = 5 then sizeW wd (bOf F' nm) else 0, 0, 0⟩]) fr σ' → K (.tuple ⟨[i64 (last + 1), i64 0]⟩) σ') :
    JoinS (jn Tryz.prog hintsS (Tri Tryz.prog) 15 [true, true, true] [] K) [(0, some (ptr s)), (1, some (.string (bsV nm))), (2, some (i64 mode)), (3, some (.bool wd))] σ := by
  refine ⟨?_⟩
  rw [s15j]
  simp only [ldc_eq (H.at 0 rfl), mget_eq (PG.hasf H), tM_map, pSome_some, List.getElem?_cons_zero, List.getElem?_cons_succ, Nat.zero_add]
  rcases lookF hg.gF srt nm with ⟨G1, r, G2, hG, q1, q2, q3, q4, q5, _⟩ | ⟨q1, _⟩
  · have hr : r ∈ g.G := by rw [hG]; simp
    have ho := hg.go r hr
    simp only [q5, tP_ptr, pSome_some, Nat.add_zero, add_none, Option.getD_some, Option.map_some]
    refine beq_mk (fun hm => ?_) (fun hm => ?_)
    · let r' : PF := { r with f := { r.f with b := [] }, a := none, e := 0, rows := [] }
      obtain ⟨u1, u2⟩ := hg.updG (r' := r') hG srt rfl rfl rfl rfl ⟨SlC.nil 0, ho.o⟩
      have H2 : Has σ ((r.fi, r.O) :: (r.rows ++ (r.orows ++ ((s, g.O most last) :: ((g.f, .map (g.G.map entF) g.cf) :: ((g.m, .map (g.Q.map entQ) g.cm) :: (G1.flatMap PF.L ++ (G2.flatMap PF.L ++ (g.Q.flatMap PQ.L ++ fr))))))))) := by
        refine H.sep fun a => ?_
        simp only [PG.R, hG, PF.L, cnt_app, cnt_cons, List.flatMap_append, List.flatMap_cons, List.append_assoc, List.cons_append]
        omega
      refine put0 H2 rfl (by simp) fun σ1 H3 => ?_
      simp only [List.set_cons_zero] at H3
      have e9 : setB r.f.nm r'.f.b F = setB nm [] F := by rw [q1]
      rw [e9] at u1
      have H4 : Has σ1 ((s, ({ g with G := G1 ++ r' :: G2 } : PG).O most last) :: (({ g with G := G1 ++ r' :: G2 } : PG).R ++ fr)) := by
        refine H3.sep fun a => ?_
        simp only [PG.R, PG.O, shelfO, u2, PF.L, PF.O, fiO, r', List.length_nil, cnt_app, cnt_cons, List.flatMap_append, List.flatMap_cons, List.append_assoc, List.cons_append, List.nil_append, i64]
        omega
      have := c15z (r := r') (wd := wd) (mode := mode) (K := K) u1 H4 (setB_srt srt) (setB_len1 f1 fun _ => by simp) sn sle slen h0 h1 rfl (by show r.f.nm ≠ []; rw [q1]; exact hne) fun σ2 S2 => by
        refine hK σ2 _ rfl ?_
        have eb : bOf (setB nm [] F) nm = [] := by rw [bOf_setB, if_pos ⟨rfl, hh⟩]
        rw [if_pos hm, eb]
        have e : r'.f.nm = nm := q1
        rw [e] at S2
        exact S2
      exact this
    · refine c15z (r := r) hg H srt f1 sn sle slen h0 h1 hG (by rw [q1]; exact hne) fun σ2 S2 => ?_
      refine hK σ2 _ rfl ?_
      rw [if_neg hm, q3]
      rw [q1] at S2
      exact S2
  · rw [hh] at q1
    cases q1
theorem c15 (hS : PSt s most last F S fr σ) (ok : Ok most last F S k)
    (hE : openE F S nm mode ≠ 0 → ∀ σ', PSt s most last F S fr σ' → K (.tuple ⟨[i64 0, i64 (openE F S nm mode)]⟩) σ')
    (hK : openE F S nm mode = 0 → ∀ σ', PSt s most (last + 1) (openF F nm mode) (S ++ [openS F last nm mode wd]) fr σ' → K (.tuple ⟨[i64 (last + 1), i64 0]⟩) σ') : Tri Tryz.prog 15 [ptr s, .string (bsV nm), i64 mode, .bool wd] σ K := tri_in (by
  rw [s15]
  have hS0 := hS
  obtain ⟨g, hg, H⟩ := hS
  have hl0 := ok.last0
  have hl1 := ok.last1
  have hk := ok.kle
  have sle : ∀ x ∈ S, x.n ≤ last := fun x hx => (ok.sle x hx).2
  refine c47 hg H ok.srt ok.slen ?_
  rw [tI_int]
  refine bne_mk (fun h => hE h σ hS0) (fun h => ?_)
  have hn : named nm := by
    refine Decidable.byContradiction fun c => ?_
    unfold openE at h
    rw [if_pos (.inl c)] at h
    exact absurd h (by decide)
  have hne : nm ≠ [] := by have := hn.1; intro c; rw [c] at this; simp at this
  simp only [ldc_eq (H.at 0 rfl), mget_eq (PG.hasf H), tM_map, pSome_some, List.getElem?_cons_zero, List.getElem?_cons_succ, Nat.zero_add]
  rcases lookF hg.gF ok.srt nm with ⟨G1, r, G2, hG, q1, q2, q3, q4, q5, _⟩ | ⟨q1, q2, _⟩
  · simp only [q5, tP_ptr, pSome_some, bm_false, ptrEq_some, Option.getD_some, Option.map_some]
    refine c15j hg H ok.srt ok.flen1 ok.sn sle ok.slen hl0 (by omega) q2 hne fun σ1 F' hF' S1 => hK h σ1 ?_
    have e : openF F nm mode = F' := by unfold openF; rw [q2, if_pos rfl, hF']
    unfold openS
    rw [e]
    exact S1
  · simp only [q2, tP_ptr, pSome_some, bm_true, ptrEq_none, Option.getD_none, Option.map_none]
    refine newAt_mk H fun i10 σ1 H1 => ?_
    have H2 : Has σ1 ((g.f, .map (g.G.map entF) g.cf) :: ((i10, .row .plain [.slice none 0 0, .slice none 0 0]) :: ((s, g.O most last) :: ((g.m, .map (g.Q.map entQ) g.cm) :: (g.G.flatMap PF.L ++ (g.Q.flatMap PQ.L ++ fr)))))) := by
      refine H1.sep fun a => ?_
      simp only [PG.R, cnt_app, cnt_cons, List.append_assoc, List.cons_append]
      omega
    refine mset0_new H2 q2 fun σ2 H3 => ?_
    let r' : PF := ⟨⟨nm, []⟩, i10, none, 0, [], [], none, 0, [], [], g.cf⟩
    have hk2 := hg.addG (r := r') q1 hne ⟨SlC.nil 0, SlC.nil 0⟩ rfl rfl
    have e1 : g.G.map entF ++ [{ key := .string (bsV nm), val := ptr i10, born := g.cf }] = (g.G ++ [r']).map entF := by
      rw [List.map_append]; rfl
    rw [e1] at H3
    have H4 : Has σ2 ((s, ({ g with G := g.G ++ [r'], cf := g.cf + 1 } : PG).O most last) :: (({ g with G := g.G ++ [r'], cf := g.cf + 1 } : PG).R ++ fr)) := by
      refine H3.sep fun a => ?_
      simp only [PG.R, PG.O, shelfO, PF.L, PF.O, fiO, r', List.length_nil, cnt_app, cnt_cons, List.flatMap_append, List.flatMap_cons, List.flatMap_nil, List.append_assoc, List.cons_append, List.nil_append, i64]
      omega
    have srt2 : Srt (insF ⟨nm, []⟩ F) := insF_srt ok.srt (hasF_false.1 q1)
    have f2 : ∀ f ∈ insF ⟨nm, []⟩ F, f.b.length ≤ 1048576 := by
      intro f hf
      rcases List.mem_cons.1 ((insF_perm _ _).mem_iff.1 hf) with rfl | hf
      · simp
      · exact ok.flen1 f hf
    have hh2 : hasF (insF ⟨nm, []⟩ F) nm = true := by rw [hasF_insF]; simp
    refine c15j hk2 H4 srt2 f2 ok.sn sle ok.slen hl0 (by omega) hh2 hne fun σ3 F' hF' S3 => hK h σ3 ?_
    have e0 : bOf (insF ⟨nm, []⟩ F) nm = [] := by rw [bOf_insF ok.srt q1, if_pos rfl]
    have e : openF F nm mode = F' := by
      unfold openF
      rw [q1, hF']
      simp only [Bool.false_eq_true, if_false]
      split
      · have := setB_self srt2 nm
        rw [e0] at this
        exact this.symm
      · rfl
    unfold openS
    rw [e]
    exact S3)
theorem c27 (hS : PSt s most last F S fr σ) (ok : Ok most last F S k) (ha : Inp u32 a l fr) (hc : ∀ c ∈ l, 0 ≤ c ∧ c ≤ 4294967295)
    (hE : bufE S l.length mode ≠ 0 → ∀ σ', PSt s most last F S fr σ' → K (.tuple ⟨[i64 0, i64 (bufE S l.length mode)]⟩) σ')
    (hK : bufE S l.length mode = 0 → ∀ σ', PSt s most (last + 1) F (S ++ [bufS last l mode wd]) fr σ' → K (.tuple ⟨[i64 (last + 1), i64 0]⟩) σ') : Tri Tryz.prog 27 [ptr s, .slice a l.length 1, i64 mode, .bool wd] σ K := tri_in (by
  rw [s27]
  have hS0 := hS
  obtain ⟨g, hg, H⟩ := hS
  have hl0 := ok.last0
  have hl1 := ok.last1
  have hk := ok.kle
  have lQ := PG.lenQ hg
  have sle : ∀ x ∈ S, x.n ≤ last := fun x hx => (ok.sle x hx).2
  have arg : (mode < 1 ∨ mode > 3 ∨ l.length > 4096) → JoinS (jn Tryz.prog hintsS (Tri Tryz.prog) 27 [true, false, false, true, true] [] K) [(0, some (ptr s)), (1, some (.slice a l.length 1)), (2, some (i64 mode)), (3, some (.bool wd)), (16, some (.bool true))] σ := by
    intro h
    refine ⟨?_⟩
    rw [s27j, bm_true]
    have e : bufE S l.length mode = 1 := by unfold bufE; rw [if_pos h]
    have := hE (by rw [e]; decide) σ hS0
    rw [e] at this
    exact this
  refine bmd_mk (fun h => arg (.inl h)) (fun h1 => bmd_mk (fun h => arg (.inr (.inl h))) (fun h3 => ?_))
  by_cases h4 : (l.length : Int) > 4096
  · rw [decide_eq_true h4]; exact arg (.inr (.inr (by omega)))
  rw [decide_eq_false h4]
  refine ⟨?_⟩
  rw [s27j, bm_false]
  simp only [ldc_eq (H.at 0 rfl), mlen_eq (PG.hasm H), tM_map, pSome_some, List.getElem?_cons_zero, List.getElem?_cons_succ, Nat.zero_add]
  rw [List.length_map, lQ]
  refine beq_mk (fun h => ?_) (fun h64 => ?_)
  · have e : bufE S l.length mode = 4 := by unfold bufE; rw [if_neg (by omega), if_pos (by omega)]
    have := hE (by rw [e]; decide) σ hS0
    rw [e] at this
    exact this
  have e0 : bufE S l.length mode = 0 := by unfold bufE; rw [if_neg (by omega), if_neg (by omega)]
  have hb : bytesOf Tryz.prog 54 = 4 := by kernel_rfl
  have hv : valCells (u32 0) = [u32 0] := by kernel_rfl
  refine req_mk (by omega) (req_mk (Int.le_refl _) (req_mk (by rw [hb]; omega) ?_))
  rw [hv, flat_rep, Int.toNat_natCast]
  refine newAt_mk H fun i3 σ4 H4 => newAt_mk H4 fun i5 σ6 H6 => ?_
  let C : Nat → List Int := fun j => (l.take j).map (putC wd) ++ List.replicate (l.length - j) 0
  have lC : ∀ j, j ≤ l.length → (C j).length = l.length := fun j hj => by
    simp only [C, List.length_append, List.length_map, List.length_take, List.length_replicate]
    omega
  refine aloop (fun (j : Nat) rg σ' => j ≤ l.length ∧ (∃ rows, SlC 1 (some ⟨i3, 0, none⟩) 1 (cellsU (C j)) rows ∧ Has σ' ((i5, buO (some ⟨i3, 0, none⟩) l.length wd) :: (rows ++ ((s, g.O most last) :: (g.R ++ fr))))) ∧
    rg = [(0, some (ptr s)), (2, some (i64 mode)), (10, some (ptr i5)), (41, some (.slice a l.length 1)), (42, some (i64 l.length)), (43, some (i64 j))]) (fun j => l.length - j) ?_ (a := 0) ⟨Nat.zero_le _, ⟨[(i3, .row .rw (List.replicate l.length (u32 0)))], ?_, H6⟩, rfl⟩
  · rintro j rg σ1 Y hY ⟨hj, ⟨rows, hs, H1⟩, rfl⟩
    rw [s27l]
    refine bmd_mk (fun h => ?_) (fun h => ?_)
    · obtain ⟨c, hcj⟩ : ∃ c, l[j]? = some c := ⟨l[j]'(by omega), by simp⟩
      have et : l.take (j + 1) = l.take j ++ [c] := by rw [List.take_add_one, hcj]; rfl
      refine chr_in (ha.mono fun p hp => List.mem_cons_of_mem _ (List.mem_append_right _ (List.mem_cons_of_mem _ (List.mem_append_right _ hp)))) H1 hcj ?_
      rw [tI_int]
      have lj := lC j hj
      have H2 : Has σ1 ((i5, buO (some ⟨i3, 0, none⟩) (C j).length wd) :: (rows ++ ((s, g.O most last) :: (g.R ++ fr)))) := by rw [lj]; exact H1
      refine c55 H2 hs (hc _ (List.mem_of_getElem? hcj)) fun σ2 rows' hs' H3 => ?_
      rw [wrap1 (by omega)]
      have e1 : (if j < (C j).length then (C j).set j (putC wd c) else C j) = C (j + 1) := by
        rw [if_pos (by omega)]
        simp only [C]
        have hl : ((l.take j).map (putC wd)).length = j := by rw [List.length_map, List.length_take]; omega
        rw [List.set_append_right _ _ (by rw [hl]; exact Nat.le_refl _), hl, Nat.sub_self, et]
        obtain ⟨z, hz⟩ : ∃ z, l.length - j = z + 1 := ⟨l.length - j - 1, by omega⟩
        rw [hz, show l.length - (j + 1) = z by omega, List.replicate_succ, List.set_cons_zero]
        simp
      rw [e1] at hs'
      rw [lj] at H3
      exact hY (j + 1) _ _ (by omega) ⟨by omega, ⟨rows', hs', H3⟩, rfl⟩
    · have hjl : j = l.length := by omega
      subst hjl
      have eC : C l.length = l.map (putC wd) := by
        show (l.take l.length).map (putC wd) ++ List.replicate (l.length - l.length) 0 = _
        rw [List.take_length, Nat.sub_self]
        simp
      rw [eC] at hs
      refine newAt_mk H1 fun x σ2 H2 => ?_
      let q : PQ := ⟨bufS last l mode wd, x, i5, some ⟨i3, 0, none⟩, rows, g.cm⟩
      have hq0 : q.q.nm = [] := rfl
      have eO : q.O = .row .plain [.iface 118 (ptr i5), .pointer none, i64 mode, i64 0, u32 0, u32 0] := by
        show AObj.row .plain [q.on, q.fp, _, _, _, _] = _
        rw [PQ.on_b hq0, PQ.fp_b hq0]
        rfl
      have eM : q.M = (i5, buO (some ⟨i3, 0, none⟩) l.length wd) :: rows := by
        rw [PQ.M_b hq0]
        show (i5, buO (some ⟨i3, 0, none⟩) (l.map (putC wd)).length wd) :: rows = _
        rw [List.length_map]
      have hk2 := hg.addB (q := q) (fun f hf => by have := (ok.nm f hf).1; intro c; rw [c] at this; simp at this) hq0 (fun _ => hs) rfl
      refine c48 (most := most) (f := g.f) (m := g.m) (es := g.Q.map entQ) (c := g.cm) (X := (x, q.O) :: (((i5, buO (some ⟨i3, 0, none⟩) l.length wd) :: rows) ++ ((g.f, .map (g.G.map entF) g.cf) :: (g.G.flatMap PF.L ++ (g.Q.flatMap PQ.L ++ fr))))) (H2.sep ?_) (new_n hg ok.sn sle) hl0 (by omega) fun σ6 H7 => ?_
      · intro a
        rw [eO]
        simp only [PG.R, PG.O, shelfO, cnt_app, cnt_cons, List.append_assoc, List.cons_append, i64, u32, ptr]
        omega
      simp only [tI_int]
      refine hK e0 σ6 ⟨_, hk2, H7.sep fun a => ?_⟩
      have e2 : (g.Q ++ [q]).map entQ = g.Q.map entQ ++ [{ key := i64 (last + 1), val := ptr x, born := g.cm }] := by rw [List.map_append]; rfl
      have e3 : cnt a (PQ.L q) = cnt a ((x, q.O) :: ((i5, buO (some ⟨i3, 0, none⟩) l.length wd) :: rows)) := by unfold PQ.L; rw [eM]
      simp only [PG.R, PG.O, shelfO, e2, cnt_app, cnt_cons, List.flatMap_append, List.flatMap_cons, List.flatMap_nil, List.append_assoc, List.cons_append, List.nil_append, i64, ptr, e3]
      omega
  · have : cellsU (C 0) = List.replicate l.length (u32 0) := by simp [C]
    rw [this]
    exact SlC.row)
end
end Go.AI
end
section
set_option linter.unusedSimpArgs false
set_option linter.unusedVariables false
set_option maxRecDepth 10000
/- The program: a stream out of a file's list; no condition but those that each names. -/
namespace Go.AI
open Go.Proofs Go.Shelf
section
variable {σ : AS} {K : Value → AS → Prop} {fr X : List (Nat × AObj)} {s k B : Nat} {g : PG} {most last n mode : Int} {nm : List UInt8} {F : List Fi} {S : List Sm} {l : List Int} {a : Option Addr} {wd : Bool}
/-- Whether it is this stream. -/
theorem c54 {c x y : Nat} {cs : List Value} (hc : σ c = some (.row .plain [ptr x])) (hx : ∃ cs, σ x = some (.row .plain cs)) (hy : ∃ cs, σ y = some (.row .plain cs)) (hK : K (.bool (decide (x = y))) σ) : Tri Tryz.prog 54 [ptr y, ptr c] σ K := tri_in (by
  rw [s54]
  simp only [ldc_eq hc, tP_ptr, pSome_some, List.getElem?_cons_zero]
  unfold ptrEq
  simp only
  refine req_mk trivial (req_mk trivial ?_)
  by_cases h : x = y
  · rw [if_pos h]
    rw [decide_eq_true h] at hK
    exact hK
  · rw [if_neg h]
    rw [decide_eq_false h] at hK
    obtain ⟨cx, hx⟩ := hx
    obtain ⟨cy, hy⟩ := hy
    refine req_mk ?_ (req_mk ?_ hK)
    · unfold AS.plain AS.plainB; rw [hx]
    · unfold AS.plain AS.plainB; rw [hy])
abbrev fn54 (c : Nat) : Value := .func (.func 54) ⟨[]⟩ ⟨[ptr c]⟩
/-- Where a stream is in a list. -/
theorem c67 {c x jj : Nat} {A Bs : List Nat} {z : List Value} {m : Nat} (hm : m = (A ++ x :: Bs).length) (hA : ∀ y ∈ A, y ≠ x) (hp : ∀ y ∈ A ++ x :: Bs, ∃ cs, σ y = some (.row .plain cs)) (hc : σ c = some (.row .plain [ptr x])) (hr : σ jj = some (.row .rw ((A ++ x :: Bs).map ptr ++ z))) (hl : m ≤ 1000000) (hK : K (i64 A.length) σ) :
    Tri Tryz.prog 67 [.slice (some ⟨jj, 0, none⟩) m 1, fn54 c] σ K := tri_in (by
  rw [s67]
  have hm2 : m = A.length + (Bs.length + 1) := by rw [hm]; simp
  refine aloop (fun (j : Nat) rg σ' => j ≤ A.length ∧ σ' = σ ∧ rg = [(0, some (.slice (some ⟨jj, 0, none⟩) m 1)), (1, some (fn54 c)), (7, some (i64 m)), (8, some (i64 j))]) (fun j => A.length - j) ?_ (a := 0) ⟨Nat.zero_le _, rfl, rfl⟩
  rintro j rg σ1 Y hY ⟨hj, rfl, rfl⟩
  rw [s67l, sz95]
  refine bmd_mk (fun h => ?_) (fun h => by omega)
  refine req_mk (by omega) (req_mk (by omega) ?_)
  obtain ⟨y, hy⟩ : ∃ y, (A ++ x :: Bs)[j]? = some y := ⟨(A ++ x :: Bs)[j]'(by rw [← hm]; omega), by simp⟩
  have hv : ((A ++ x :: Bs).map ptr ++ z)[j]? = some (ptr y) := by
    rw [List.getElem?_append_left (by rw [List.length_map, ← hm]; omega), List.getElem?_map, hy]; rfl
  simp only [Int.toNat_natCast, Nat.mul_one, pSome_some, Nat.zero_add, add_none]
  refine req_mk trivial ?_
  rw [ldc_eq hr, hv]
  simp only [tP_ptr, pSome_some]
  show Tri Tryz.prog 54 [ptr y, ptr c] σ1 _
  refine c54 (cs := []) hc (hp x (by simp)) (hp y (List.mem_of_getElem? hy)) ?_
  rw [tB_bool]
  refine bmd_mk (fun h => ?_) (fun hxy => ?_)
  · subst h
    have : j = A.length := by
      refine Decidable.byContradiction fun c => ?_
      rw [List.getElem?_append_left (by omega)] at hy
      exact hA _ (List.mem_of_getElem? hy) rfl
    rw [this]
    exact hK
  · rw [wrap1 (by omega)]
    have : j ≠ A.length := by
      rintro rfl
      rw [List.getElem?_append_right (Nat.le_refl _), Nat.sub_self] at hy
      simp at hy
      exact hxy hy
    exact hY (j + 1) _ _ (by omega) ⟨by omega, rfl, rfl⟩)
/-- A stream out of a list. -/
theorem c53 {c x jj : Nat} {A Bs : List Nat} {z : List Value} {m : Nat} (hm : m = (A ++ x :: Bs).length) (hA : ∀ y ∈ A, y ≠ x) (hB : ∀ y ∈ Bs, y ≠ x) (hp : ∀ y ∈ A ++ x :: Bs, ∃ cs, (y, AObj.row .plain cs) ∈ X) (hc : (c, AObj.row .plain [ptr x]) ∈ X) (H : Has σ ((jj, .row .rw ((A ++ x :: Bs).map ptr ++ z)) :: X)) (hl : m ≤ 1000000)
    (hK : ∀ σ' z', Has σ' ((jj, .row .rw ((A ++ Bs).map ptr ++ z')) :: X) → K (.slice (some ⟨jj, 0, none⟩) (A ++ Bs).length 1) σ') :
    Tri Tryz.prog 53 [.slice (some ⟨jj, 0, none⟩) m 1, fn54 c] σ K := tri_in (by
  rw [s53]
  have hm2 : m = A.length + (Bs.length + 1) := by rw [hm]; simp
  have look : ∀ {σ' : AS} {cs : List Value}, Has σ' ((jj, .row .rw cs) :: X) → (∀ y ∈ A ++ x :: Bs, ∃ cs, σ' y = some (.row .plain cs)) ∧ σ' c = some (.row .plain [ptr x]) := fun H' =>
    ⟨fun y hy => by obtain ⟨cs, h⟩ := hp y hy; exact ⟨cs, H'.g (List.mem_cons_of_mem _ h)⟩, H'.g (List.mem_cons_of_mem _ hc)⟩
  obtain ⟨p1, p2⟩ := look H
  refine c67 hm hA p1 p2 (H.at 0 rfl) hl ?_
  rw [tI_int]
  refine beq_mk (fun h => by omega) (fun _ => ?_)
  rw [wrap1 (by omega)]
  refine aloop (fun (q : Nat) rg σ' => q ≤ Bs.length ∧ (∃ v, Has σ' ((jj, .row .rw ((A ++ Bs.take q).map ptr ++ v :: ((Bs.drop q).map ptr ++ z))) :: X)) ∧ rg = [(0, some (.slice (some ⟨jj, 0, none⟩) m 1)), (1, some (fn54 c)), (5, some (i64 (A.length + q : Nat))), (6, some (i64 (A.length + 1 + q : Nat)))]) (fun q => Bs.length - q) ?_ (a := 0) ⟨Nat.zero_le _, ⟨ptr x, ?_⟩, rfl⟩
  · rintro q rg σ1 Y hY ⟨hq, ⟨v, H1⟩, rfl⟩
    rw [s53l, sz95]
    obtain ⟨p3, p4⟩ := look H1
    refine bmd_mk (fun h => ?_) (fun h => ?_)
    · refine req_mk (by omega) (req_mk (by omega) ?_)
      obtain ⟨y, hy⟩ : ∃ y, Bs[q]? = some y := ⟨Bs[q]'(by omega), by simp⟩
      have hlen : ((A ++ Bs.take q).map ptr).length = A.length + q := by rw [List.length_map, List.length_append, List.length_take]; omega
      have hd : Bs.drop q = y :: Bs.drop (q + 1) := by
        rw [List.drop_eq_getElem_cons (List.getElem?_eq_some_iff.1 hy).1, (List.getElem?_eq_some_iff.1 hy).2]
      have hv : ((A ++ Bs.take q).map ptr ++ v :: ((Bs.drop q).map ptr ++ z))[A.length + 1 + q]? = some (ptr y) := by
        rw [List.getElem?_append_right (by rw [hlen]; omega), hlen, show A.length + 1 + q - (A.length + q) = 1 by omega, hd]
        rfl
      simp only [Int.toNat_natCast, Nat.mul_one, pSome_some, Nat.zero_add, add_none]
      refine req_mk trivial ?_
      rw [ldc_eq (H1.at 0 rfl), hv]
      simp only [tP_ptr, pSome_some]
      show Tri Tryz.prog 54 [ptr y, ptr c] σ1 _
      have hyx : y ≠ x := hB y (List.mem_of_getElem? hy)
      refine c54 (cs := []) p4 (p3 x (by simp)) (p3 y (by simp [List.mem_of_getElem? hy])) ?_
      rw [tB_bool, decide_eq_false (fun e => hyx e.symm), Bool.not_false, bm_true]
      refine req_mk (by omega) (req_mk (by omega) (req_mk trivial ?_))
      refine put0 H1 rfl (by simp only [List.length_append, List.length_map, List.length_take, List.length_cons]; omega) fun σ2 H2 => ?_
      have es : ((A ++ Bs.take q).map ptr ++ v :: ((Bs.drop q).map ptr ++ z)).set (A.length + q) (ptr y) = (A ++ Bs.take (q + 1)).map ptr ++ ptr y :: ((Bs.drop (q + 1)).map ptr ++ z) := by
        rw [List.set_append_right _ _ (by rw [hlen]; exact Nat.le_refl _), hlen, Nat.sub_self, List.set_cons_zero, hd, List.take_add_one, hy]
        simp
      rw [es] at H2
      rw [wrap1 (by omega), wrap1 (by omega)]
      exact hY (q + 1) _ _ (by omega) ⟨by omega, ⟨_, H2⟩, by rw [Nat.add_assoc, Nat.add_assoc]⟩
    · have hqe : q = Bs.length := by omega
      subst hqe
      rw [List.take_length, List.drop_length] at H1
      refine req_mk (by omega) (req_mk (by omega) (cap_mk (Int.le_refl _) (chk_mk ?_ ?_)))
      · unfold nilOr; rfl
      have e1 : Int.toNat ((m : Int) - ((A.length + Bs.length : Nat) : Int)) = 1 := by omega
      rw [e1]
      unfold clearTo
      simp only [Int.toNat_natCast, Nat.mul_one, pSome_some, Nat.zero_add, add_none, Option.map_some]
      have hlen : ((A ++ Bs).map ptr).length = A.length + Bs.length := by simp
      refine puts0 H1 rfl (by simp; omega) fun σ2 H2 => ?_
      have es : ((A ++ Bs).map ptr ++ v :: (([] : List Nat).map ptr ++ z)).take (A.length + Bs.length) ++ (List.replicate (0 + 1) [Value.pointer none]).flatten ++ ((A ++ Bs).map ptr ++ v :: (([] : List Nat).map ptr ++ z)).drop (A.length + Bs.length + ((List.replicate (0 + 1) [Value.pointer none]).flatten).length) = (A ++ Bs).map ptr ++ (.pointer none :: z) := by
        have eL : (List.replicate (0 + 1) [Value.pointer none]).flatten = [Value.pointer none] := rfl
        rw [eL, List.take_left' hlen, show A.length + Bs.length + [Value.pointer none].length = A.length + Bs.length + 1 from rfl, ← List.drop_drop, List.drop_left' hlen]
        simp
      rw [es] at H2
      refine req_mk (by omega) (cap_mk (by omega) (chk_mk ?_ ?_))
      · unfold nilOr; rfl
      have e2 : Int.toNat (((A.length + Bs.length : Nat) : Int) - 0) = (A ++ Bs).length := by rw [List.length_append]; omega
      rw [e2]
      simp only [Int.toNat_zero]
      exact hK σ2 _ H2
  · refine H.sep fun a => ?_
    simp only [List.take_zero, List.append_nil, List.drop_zero, List.map_append, List.map_cons, cnt_cons, List.append_assoc, List.cons_append, ptr]
    omega)
end
end Go.AI
end
section
set_option linter.unusedSimpArgs false
set_option linter.unusedVariables false
set_option maxRecDepth 10000
/- The program: Close; no condition but those that each names. -/
namespace Go.AI
open Go.Proofs Go.Shelf
section
variable {σ : AS} {K : Value → AS → Prop} {fr X : List (Nat × AObj)} {s k B : Nat} {g : PG} {most last n mode : Int} {nm : List UInt8} {F : List Fi} {S : List Sm} {l : List Int} {a : Option Addr} {wd : Bool}
theorem tyAs_b {v : Value} {G : Option Value → Prop} : tyAs (.iface tyB v) 118 G = G (some v) := rfl
theorem tyAs_f {w : Bool} {v : Value} {G : Option Value → Prop} : tyAs (.iface (tyW w) v) 118 G = G none := by cases w <;> rfl
theorem isSome_some {v : Value} : Option.isSome (some v) = true := rfl
theorem isSome_none : Option.isSome (none : Option Value) = false := rfl
theorem onF_mid {Q1 Q2 : List PQ} {q : PQ} : onF nm (Q1 ++ q :: Q2) = onF nm Q1 ++ ((if q.q.nm = nm then [q.x] else []) ++ onF nm Q2) := by
  unfold onF
  rw [List.filter_append, List.map_append, List.filter_cons]
  by_cases h : q.q.nm = nm
  · simp [h]
  · simp [h]
theorem PG.dist {Q1 Q2 : List PQ} {q : PQ} (H : Has σ ((s, g.O most last) :: (g.R ++ fr))) (hQ : g.Q = Q1 ++ q :: Q2) : (∀ t ∈ Q1, t.x ≠ q.x) ∧ ∀ t ∈ Q2, t.x ≠ q.x := by
  have two : ∀ t : PQ, (∀ a, cnt a [(q.x, q.O), (t.x, t.O)] ≤ cnt a ((s, g.O most last) :: (g.R ++ fr))) → t.x ≠ q.x := by
    intro t h e
    have := (H.sep h).1
    simp [e] at this
  constructor
  · intro t ht
    obtain ⟨U, V, rfl⟩ := List.append_of_mem ht
    refine two t fun a => ?_
    simp only [PG.R, hQ, PQ.L, cnt_app, cnt_cons, cnt_nil, List.flatMap_append, List.flatMap_cons, List.append_assoc, List.cons_append]
    omega
  · intro t ht
    obtain ⟨U, V, rfl⟩ := List.append_of_mem ht
    refine two t fun a => ?_
    simp only [PG.R, hQ, PQ.L, cnt_app, cnt_cons, cnt_nil, List.flatMap_append, List.flatMap_cons, List.append_assoc, List.cons_append]
    omega
theorem delS_mid {Q1 Q2 : List PQ} {q : PQ} (hg : g.ok F S) (hQ : g.Q = Q1 ++ q :: Q2) (sn : S.Pairwise fun x y => x.n < y.n) : (Q1 ++ Q2).map PQ.q = delS q.q.n S := by
  have hS : S[Q1.length]? = some q.q := by rw [← hg.qS, hQ]; simp
  rw [← delS_at sn hS, ← hg.qS, hQ]
  rw [List.map_append, List.map_append, List.map_cons]
  have : (Q1.map PQ.q).length = Q1.length := by simp
  rw [List.take_left' this, ← List.drop_drop, List.drop_left' this]
  rfl
theorem born_del {α : Type} {ent : α → MapEntry} {A C : List α} {q : α} {c : Nat} (h : BornOk ent (A ++ q :: C) c) : BornOk ent (A ++ C) c := by
  refine ⟨h.1.sublist (List.Sublist.map _ (List.Sublist.append_left (List.sublist_cons_self _ _) _)), fun r hr => h.2 r ?_⟩
  rcases List.mem_append.1 hr with h | h <;> simp [h]
theorem mem_del {α : Type} {A C : List α} {q r : α} (hr : r ∈ A ++ C) : r ∈ A ++ q :: C := by
  rcases List.mem_append.1 hr with h | h <;> simp [h]
/-- A buffer's stream gone. -/
theorem PG.ok.delB {Q1 Q2 : List PQ} {q : PQ} (hg : g.ok F S) (hQ : g.Q = Q1 ++ q :: Q2) (sn : S.Pairwise fun x y => x.n < y.n) (hF : ∀ f ∈ F, f.nm ≠ []) (h0 : q.q.nm = []) : ({ g with Q := Q1 ++ Q2 } : PG).ok F (delS q.q.n S) := by
  refine ⟨hg.gF, delS_mid hg hQ sn, hg.go, fun t ht => hg.qo t (by rw [hQ]; exact mem_del ht), ?_, fun t ht => hg.lnk t (by rw [hQ]; exact mem_del ht), hg.bF, born_del (by rw [← hQ]; exact hg.bQ)⟩
  intro t ht
  rw [hg.opn t ht, hQ, onF_mid, if_neg, List.nil_append]
  · show _ = onF t.f.nm (Q1 ++ Q2)
    unfold onF
    rw [List.filter_append, List.map_append]
  · intro e
    exact hF t.f (hg.gF.mem_iff.1 (List.mem_map_of_mem ht)) (by rw [← e, h0])
/-- A file's stream gone. -/
theorem PG.ok.delQ {Q1 Q2 : List PQ} {q : PQ} {G1 G2 : List PF} {r r' : PF} (hg : g.ok F S) (hQ : g.Q = Q1 ++ q :: Q2) (hG : g.G = G1 ++ r :: G2) (sn : S.Pairwise fun x y => x.n < y.n) (srt : Srt F) (hx : r'.fi = r.fi) (hb : r'.bn = r.bn) (hf : r'.f = r.f) (ho : r'.ok) (hq : q.q.nm = r.f.nm) (hp : r'.op = onF r.f.nm Q1 ++ onF r.f.nm Q2) :
    ({ g with G := G1 ++ r' :: G2, Q := Q1 ++ Q2 } : PG).ok F (delS q.q.n S) ∧ (G1 ++ r' :: G2).map entF = g.G.map entF := by
  have hr : r ∈ g.G := by rw [hG]; simp
  have hnd : (g.G.map fun q => q.f.nm).Nodup := by
    have h1 : (F.map (·.nm)).Nodup := by
      rw [List.Nodup, List.pairwise_map]
      exact srt.imp fun h e => by rw [e] at h; exact lt_irrefl _ h
    have h2 := (hg.gF.map (·.nm)).nodup_iff.2 h1
    rw [List.map_map] at h2
    exact h2
  rw [hG, List.map_append, List.map_cons, List.nodup_append] at hnd
  obtain ⟨_, n2, n3⟩ := hnd
  have g1 : ∀ q ∈ G1, q.f.nm ≠ r.f.nm := fun q hq e => n3 _ (List.mem_map_of_mem (f := fun q : PF => q.f.nm) hq) _ (List.mem_cons_self ..) e
  have g2 : ∀ q ∈ G2, q.f.nm ≠ r.f.nm := fun q hq e => (List.nodup_cons.1 n2).1 (by rw [← e]; exact List.mem_map_of_mem (f := fun q : PF => q.f.nm) hq)
  have mem : ∀ t, t ∈ G1 ++ r' :: G2 → t = r' ∨ (t ∈ g.G ∧ t.f.nm ≠ r.f.nm) := by
    intro t ht
    rcases List.mem_append.1 ht with h | h
    · exact .inr ⟨by rw [hG]; simp [h], g1 t h⟩
    · rcases List.mem_cons.1 h with rfl | h
      · exact .inl rfl
      · exact .inr ⟨by rw [hG]; simp [h], g2 t h⟩
  have eE : (G1 ++ r' :: G2).map entF = g.G.map entF := by
    rw [hG, List.map_append, List.map_append, List.map_cons, List.map_cons]
    unfold entF
    rw [hf, hx, hb]
  refine ⟨⟨?_, delS_mid hg hQ sn, ?_, fun t ht => hg.qo t (by rw [hQ]; exact mem_del ht), ?_, ?_, ?_, born_del (by rw [← hQ]; exact hg.bQ)⟩, eE⟩
  · have : (G1 ++ r' :: G2).map PF.f = g.G.map PF.f := by rw [hG, List.map_append, List.map_append, List.map_cons, List.map_cons, hf]
    show ((G1 ++ r' :: G2).map PF.f).Perm F
    rw [this]
    exact hg.gF
  · intro t ht
    rcases mem t ht with rfl | ⟨h, _⟩
    · exact ho
    · exact hg.go t h
  · intro t ht
    show t.op = onF t.f.nm (Q1 ++ Q2)
    have e0 : ∀ m, onF m (Q1 ++ Q2) = onF m Q1 ++ onF m Q2 := fun m => by
      unfold onF
      rw [List.filter_append, List.map_append]
    rw [e0]
    rcases mem t ht with rfl | ⟨h, hn⟩
    · rw [hp, hf]
    · rw [hg.opn t h, hQ, onF_mid, if_neg (fun e => hn (by rw [← e, hq])), List.nil_append]
  · intro t ht h0
    obtain ⟨u, hu, e1, e2⟩ := hg.lnk t (by rw [hQ]; exact mem_del ht) h0
    rw [hG] at hu
    rcases List.mem_append.1 hu with h | h
    · exact ⟨u, by simp [h], e1, e2⟩
    · rcases List.mem_cons.1 h with rfl | h
      · exact ⟨r', by simp, by rw [hf]; exact e1, by rw [hx]; exact e2⟩
      · exact ⟨u, by simp [h], e1, e2⟩
  · have h1 : ((G1 ++ r' :: G2).map fun x => (entF x).born) = g.G.map fun x => (entF x).born := by
      rw [hG, List.map_append, List.map_append, List.map_cons, List.map_cons]
      unfold entF
      rw [hb]
    refine ⟨by show ((G1 ++ r' :: G2).map fun x => (entF x).born).Nodup; rw [h1]; exact hg.bF.1, ?_⟩
    intro t ht
    rcases mem t ht with rfl | ⟨h, _⟩
    · show t.bn < g.cf
      rw [hb]
      exact hg.bF.2 r hr
    · exact hg.bF.2 t h
theorem c22 (hS : PSt s most last F S fr σ) (ok : Ok most last F S k)
    (hN : atS S n = none → ∀ σ', PSt s most last F S fr σ' → K (.tuple ⟨[u32 0, u32 0, .slice none 0 0, i64 5]⟩) σ')
    (hK : ∀ x, atS S n = some x → ∀ σ' a' e' rows, SlC 1 a' e' (cellsU x.l) rows → PSt s most last F (delS n S) (rows ++ fr) σ' → K (.tuple ⟨[u32 x.rd, u32 x.wr, .slice a' x.l.length e', i64 0]⟩) σ') : Tri Tryz.prog 22 [ptr s, i64 n] σ K := tri_in (by
  rw [s22]
  have hS0 := hS
  obtain ⟨g, hg, H⟩ := hS
  refine c45 hg H ok.sn (fun h => ?_) (fun Q1 q Q2 h1 h2 hat => ?_)
  · simp only [tI_int, tP_ptr, tTup_tup, pSome_some, List.getElem?_cons_zero, List.getElem?_cons_succ, Nat.zero_add]
    refine newAt_mk H fun i8 σ1 H1 => put0 H1 rfl (by simp) fun σ2 H2 => ?_
    exact bne_mk (fun _ => hN h σ2 ⟨g, hg, H2.sep (fun a => by simp only [cnt_app, cnt_cons, List.set_cons_zero]; omega)⟩) (fun h => absurd h (by decide))
  simp only [tI_int, tP_ptr, tTup_tup, pSome_some, bm_false, List.getElem?_cons_zero, List.getElem?_cons_succ, Nat.zero_add, bne_self_eq_false]
  refine newAt_mk H fun i8 σ1 H1 => put0 H1 rfl (by simp) fun σ2 H2 => ?_
  simp only [List.set_cons_zero] at H2
  have hq : q ∈ g.Q := by rw [h1]; simp
  have hmem : q.q ∈ S := (atS_mem hat).1
  simp only [ldc_eq (H2.at 1 rfl), tM_map, pSome_some, List.getElem?_cons_zero, List.getElem?_cons_succ]
  obtain ⟨d1, d2⟩ := PG.dist H h1
  -- out of the map
  have hfind : Instr.findNow (.int .i64) (i64 n) (g.Q.map entQ) 0 = some (some (Q1.length, ptr q.x)) := by
    rcases lookQ (Q := g.Q) (by rw [hg.qS]; exact ok.sn) n with ⟨R1, q', R2, e1, e2, e3, e4, e5, e6⟩ | ⟨_, _, h⟩
    · have hl : R1.length = Q1.length ∧ q' = q := by
        have hnd : (g.Q.map fun t => t.q.n).Nodup := by
          have := ok.sn
          rw [← hg.qS, List.pairwise_map] at this
          rw [List.Nodup, List.pairwise_map]
          exact this.imp fun h => by omega
        have i1 : (g.Q.map fun t => t.q.n)[R1.length]? = some n := by rw [e1]; simp [e2]
        have i2 : (g.Q.map fun t => t.q.n)[Q1.length]? = some n := by rw [h1]; simp [h2]
        have e : R1.length = Q1.length := (List.getElem_inj hnd).1 ((List.getElem?_eq_some_iff.1 i1).2.trans (List.getElem?_eq_some_iff.1 i2).2.symm)
        refine ⟨e, ?_⟩
        have j1 : g.Q[R1.length]? = some q' := by rw [e1]; simp
        have j2 : g.Q[Q1.length]? = some q := by rw [h1]; simp
        rw [e, j2] at j1
        injection j1 with j1
        exact j1.symm
      rw [e4, hl.1, hl.2]
    · exact absurd h2 (h q hq)
  have H3 : Has σ2 ((g.m, .map (g.Q.map entQ) g.cm) :: ((i8, .row .plain [ptr q.x]) :: ((s, g.O most last) :: ((g.f, .map (g.G.map entF) g.cf) :: (g.G.flatMap PF.L ++ (g.Q.flatMap PQ.L ++ fr)))))) := by
    refine H2.sep fun a => ?_
    simp only [PG.R, cnt_app, cnt_cons, List.append_assoc, List.cons_append, ptr]
    omega
  refine mdel0 H3 hfind fun σ3 H4 => ?_
  have e1 : (g.Q.map entQ).eraseIdx Q1.length = (Q1 ++ Q2).map entQ := by
    rw [h1, List.map_append, List.map_cons, List.map_append]
    have := eraseIdx_mid (Q1.map entQ) (entQ q) (Q2.map entQ)
    rw [List.length_map] at this
    exact this
  rw [e1] at H4
  have hx : ∀ {σ' : AS} {L : List (Nat × AObj)}, Has σ' L → (∀ a, cnt a (q.L) ≤ cnt a L) → σ' q.x = some q.O := fun h hc => (h.sep hc).g (by unfold PQ.L; simp)
  have hx3 : σ3 q.x = some q.O := hx H4 fun a => by
    simp only [h1, cnt_app, cnt_cons, List.flatMap_append, List.flatMap_cons, List.append_assoc, ptr]
    omega
  simp only [ldc_eq (H4.at 1 rfl), ldc_eq hx3, tI_int, tP_ptr, pSome_some, List.getElem?_cons_zero, List.getElem?_cons_succ, Nat.zero_add, Nat.add_zero, add_none]
  by_cases h : q.q.nm = []
  · rw [PQ.on_b h]
    have hs := hg.qo q hq h
    have H5 : Has σ3 ((q.fi, buO q.a q.q.l.length q.q.wd) :: (q.rows ++ ((g.m, .map ((Q1 ++ Q2).map entQ) g.cm) :: ((s, g.O most last) :: ((g.f, .map (g.G.map entF) g.cf) :: (g.G.flatMap PF.L ++ (Q1.flatMap PQ.L ++ (Q2.flatMap PQ.L ++ fr)))))))) := by
      refine H4.sep fun a => ?_
      simp only [h1, PQ.L, PQ.M_b h, cnt_app, cnt_cons, List.flatMap_append, List.flatMap_cons, List.append_assoc, List.cons_append, ptr]
      omega
    simp only [tyAs_b, isSome_some, ldc_eq (H5.at 0 rfl), tL_ok_eq hs.no, tP_ptr, tIf_if, pSome_some, bm_true, List.getElem?_cons_zero, Nat.add_zero, add_none, Option.getD_some]
    have hk := hg.delB h1 ok.sn (fun f hf => by have := (ok.nm f hf).1; intro c; rw [c] at this; simp at this) h
    rw [h2] at hk
    refine hK _ hat σ3 q.a 1 q.rows hs ⟨_, hk, H5.sep fun a => ?_⟩
    simp only [PG.R, PG.O, shelfO, cnt_app, cnt_cons, List.flatMap_append, List.append_assoc, List.cons_append, i64]
    omega
  · obtain ⟨G1, r, G2, hG, r1, r2, r3, r4, r5⟩ := hg.file ok.srt hq h
    have hr : r ∈ g.G := by rw [hG]; simp
    have eop : r.op = onF r.f.nm Q1 ++ q.x :: onF r.f.nm Q2 := by
      rw [hg.opn r hr, h1, onF_mid, if_pos r1.symm]
      rfl
    obtain ⟨jj, o1, o2, o3⟩ := r3.o.at (p := 0) (by rw [List.length_append, List.length_map, eop, List.length_append]; simp; omega)
    have hx0 := hx3
    rw [PQ.on_f h]
    -- without the list's row
    have H5 : Has σ3 ((jj, .row .rw (r.op.map ptr ++ r.oz)) :: ((r.fi, r.O) :: ((i8, .row .plain [ptr q.x]) :: (r.rows ++ ((g.m, .map ((Q1 ++ Q2).map entQ) g.cm) :: ((s, g.O most last) :: ((g.f, .map (g.G.map entF) g.cf) :: (G1.flatMap PF.L ++ (G2.flatMap PF.L ++ (g.Q.flatMap PQ.L ++ fr)))))))))) := by
      refine H4.sep fun a => ?_
      simp only [hG, PF.L, o3, cnt_app, cnt_cons, List.flatMap_append, List.flatMap_cons, List.append_assoc, List.cons_append, List.nil_append, ptr]
      omega
    have hno : nilOr r.oa r.oe 1 = true := r3.o.no
    simp only [tyAs_f, isSome_none, ldc_eq (H5.at 1 rfl), PQ.fp_f h, tL_ok_eq hno, ← r2, tP_ptr, tIf_if, pSome_some, bm_false, List.getElem?_cons_zero, List.getElem?_cons_succ, Nat.zero_add, Option.getD_none]
    have hol : r.op.length ≤ 64 := by
      rw [hg.opn r hr]
      unfold onF
      rw [List.length_map]
      have := List.length_filter_le (fun q : PQ => decide (q.q.nm = r.f.nm)) g.Q
      have := PG.lenQ hg
      have := ok.slen
      omega
    rw [o1]
    have hA : ∀ y ∈ onF r.f.nm Q1, y ≠ q.x := fun y hy => by
      obtain ⟨t, ht, rfl⟩ := List.mem_map.1 hy
      exact d1 t (List.mem_filter.1 ht).1
    have hB : ∀ y ∈ onF r.f.nm Q2, y ≠ q.x := fun y hy => by
      obtain ⟨t, ht, rfl⟩ := List.mem_map.1 hy
      exact d2 t (List.mem_filter.1 ht).1
    have H6 : Has σ3 ((jj, .row .rw ((onF r.f.nm Q1 ++ q.x :: onF r.f.nm Q2).map ptr ++ r.oz)) :: ((r.fi, r.O) :: ((i8, .row .plain [ptr q.x]) :: (r.rows ++ ((g.m, .map ((Q1 ++ Q2).map entQ) g.cm) :: ((s, g.O most last) :: ((g.f, .map (g.G.map entF) g.cf) :: (G1.flatMap PF.L ++ (G2.flatMap PF.L ++ (g.Q.flatMap PQ.L ++ fr)))))))))) := by
      rw [← eop]; exact H5
    refine c53 (x := q.x) (c := i8) (by rw [eop]) hA hB ?_ (by simp) H6 (by omega) fun σ4 z' H7 => ?_
    · intro y hy
      rw [← eop, hg.opn r hr] at hy
      obtain ⟨t, ht, rfl⟩ := List.mem_map.1 hy
      refine ⟨[t.on, t.fp, i64 t.q.mode, i64 t.q.pl, u32 t.q.rd, u32 t.q.wr], ?_⟩
      have : (t.x, t.O) ∈ g.Q.flatMap PQ.L := List.mem_flatMap.2 ⟨t, (List.mem_filter.1 ht).1, by unfold PQ.L; simp⟩
      simp only [List.mem_cons, List.mem_append]
      exact .inr (.inr (.inr (.inr (.inr (.inr (.inr (.inr (.inl this))))))))
    have H8 : Has σ4 ((r.fi, r.O) :: ((jj, .row .rw ((onF r.f.nm Q1 ++ onF r.f.nm Q2).map ptr ++ z')) :: ((i8, .row .plain [ptr q.x]) :: (r.rows ++ ((g.m, .map ((Q1 ++ Q2).map entQ) g.cm) :: ((s, g.O most last) :: ((g.f, .map (g.G.map entF) g.cf) :: (G1.flatMap PF.L ++ (G2.flatMap PF.L ++ (q.L ++ (Q1.flatMap PQ.L ++ (Q2.flatMap PQ.L ++ fr)))))))))))) := by
      refine H7.sep fun a => ?_
      simp only [h1, cnt_app, cnt_cons, List.flatMap_append, List.flatMap_cons, List.append_assoc, ptr]
      omega
    have hx4 : σ4 q.x = some q.O := hx H8 fun a => by
      simp only [cnt_app, cnt_cons, ptr]
      omega
    have hno1 : nilOr (some ⟨jj, 0, none⟩) 1 1 = true := rfl
    simp only [ldc_eq hx4, ldc_eq (H8.at 2 rfl), PQ.fp_f h, ← r2, tL_ok_eq hno1, true_and, tP_ptr, pSome_some, List.getElem?_cons_zero, List.getElem?_cons_succ]
    refine put0 H8 rfl (by simp) fun σ5 H9 => ?_
    simp only [List.set_cons_zero, List.set_cons_succ] at H9
    have hx5 : σ5 q.x = some q.O := hx H9 fun a => by
      simp only [cnt_app, cnt_cons, ptr]
      omega
    simp only [ldc_eq hx5, ldc_eq (H9.at 2 rfl), tI_int, tP_ptr, pSome_some, List.getElem?_cons_zero, List.getElem?_cons_succ, Nat.zero_add]
    let r' : PF := { r with op := onF r.f.nm Q1 ++ onF r.f.nm Q2, oa := some ⟨jj, 0, none⟩, oe := 1, orows := [(jj, .row .rw ((onF r.f.nm Q1 ++ onF r.f.nm Q2).map ptr ++ z'))], oz := z' }
    obtain ⟨u1, u2⟩ := hg.delQ (r' := r') h1 hG ok.sn ok.srt rfl rfl rfl ⟨r3.b, SlC.row⟩ r1.symm rfl
    rw [h2] at u1
    have hl0 : q.q.l = [] := ok.l0 _ hmem h
    have := hK _ hat σ5 none 0 []
    rw [hl0] at this
    refine this (SlC.nil 0) ⟨_, u1, H9.sep fun a => ?_⟩
    simp only [PG.R, PG.O, shelfO, u2, PF.L, PF.O, fiO, r', cnt_app, cnt_cons, List.flatMap_append, List.flatMap_cons, List.append_assoc, List.cons_append, List.nil_append, i64, ptr]
    omega)
end
end Go.AI
end
