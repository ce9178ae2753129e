/- ShelfSeeks: the law's function tells true, from what its callees do. -/
import Derived.Test.YtpgedoljndppdaaShLive
import Derived.Test.YtpgedoljndppdaaShSteps
set_option maxRecDepth 4000
set_option linter.unusedVariables false
set_option linter.unusedSimpArgs false
namespace Go.AI
open Go.Proofs
section
variable {σ : AS}
theorem fl_in {fi j : Nat} {bs : List Int} {op : Value} {mid fr : List (Nat × AObj)} (P : List (Nat × AObj)) (H : Has σ (P ++ fileL fi j bs op mid fr)) : Has σ (fileL fi j bs op mid (P ++ fr)) := by
  refine H.perm ?_
  unfold fileL
  cases bs with
  | nil => exact List.perm_append_comm_assoc _ _ _
  | cons c t =>
    simp only [rowK]
    have e1 : ∀ (A B : List (Nat × AObj)) (r : Nat × AObj), A ++ r :: B = (A ++ [r]) ++ B := by simp
    rw [e1 _ (P ++ fr), e1 _ fr]
    exact List.perm_append_comm_assoc _ _ _
theorem fl_out {fi j : Nat} {bs : List Int} {op : Value} {mid fr : List (Nat × AObj)} (P : List (Nat × AObj)) (H : Has σ (fileL fi j bs op mid (P ++ fr))) : Has σ (P ++ fileL fi j bs op mid fr) := by
  refine H.perm ?_
  unfold fileL
  cases bs with
  | nil => exact List.perm_append_comm_assoc _ _ _
  | cons c t =>
    simp only [rowK]
    have e1 : ∀ (A B : List (Nat × AObj)) (r : Nat × AObj), A ++ r :: B = (A ++ [r]) ++ B := by simp
    rw [e1 _ (P ++ fr), e1 _ fr]
    exact List.perm_append_comm_assoc _ _ _
theorem rowL_app (j : Nat) (ys : List Int) : ∃ P : List (Nat × AObj), ∀ fr, rowL j ys fr = P ++ fr := by
  cases ys with
  | nil => exact ⟨[], fun _ => rfl⟩
  | cons c t => exact ⟨[_], fun _ => rfl⟩
theorem row_in {fi j jr : Nat} {ys bs : List Int} {op : Value} {mid fr : List (Nat × AObj)} (H : Has σ (rowL jr ys (fileL fi j bs op mid fr))) : Has σ (fileL fi j bs op mid (rowL jr ys fr)) := by
  obtain ⟨P, hP⟩ := rowL_app jr ys
  rw [hP] at H ⊢
  exact fl_in P H
theorem row_out {fi j jr : Nat} {ys bs : List Int} {op : Value} {mid fr : List (Nat × AObj)} (H : Has σ (fileL fi j bs op mid (rowL jr ys fr))) : Has σ (rowL jr ys (fileL fi j bs op mid fr)) := by
  obtain ⟨P, hP⟩ := rowL_app jr ys
  rw [hP] at H ⊢
  exact fl_out P H
theorem row_swap {jr : Nat} {ys : List Int} {p : Nat × AObj} {L : List (Nat × AObj)} (H : Has σ (p :: rowL jr ys L)) : Has σ (rowL jr ys (p :: L)) := by
  cases ys with
  | nil => exact H
  | cons c t => exact H.perm (.swap _ _ _)
theorem rowL_ne {j : Nat} {ys : List Int} {fr : List (Nat × AObj)} (h : ys ≠ []) : rowL j ys fr = (j, .row .rw (cellsU ys)) :: fr := by
  cases ys with
  | nil => exact absurd rfl h
  | cons c t => rfl
theorem imin_eq (a b : Int) : imin a b = min a b := by unfold imin; split <;> omega
theorem imax_eq (a b : Int) : imax a b = max a b := by unfold imax; split <;> omega

def StpIn (a : Option Addr) (l : List Stp) (fr : List (Nat × AObj)) : Prop := l = [] ∨ ∃ (r q : Nat), a = some ⟨r, 0, none⟩ ∧ fr[q]? = some (r, AObj.row .ro (l.map Stp.cells).flatten)
abbrev skR (a : Option Addr) (m s jr : Nat) (row : List Int) (p : Int) (i : Int) : Regs := [(0, some (.slice a m 4)), (3, some (ptr s)), (5, some (i64 1)), (7, some (slL jr row)), (8, some (i64 p)), (9, some (i64 i))]
abbrev nmF : ByteArray := ⟨#[102]⟩
abbrev skL (fi j oi x s st f : Nat) (row : List Int) (p rd wr : Int) (fr : List (Nat × AObj)) : List (Nat × AObj) := oneL fi j (flat4 row) oi x s st f true 1048576 1 1 nmF 3 p rd wr 0 fr
def skI (fi oi x s st f : Nat) (a : Option Addr) (l : List Stp) (fr : List (Nat × AObj)) (i : Nat) (r : Regs) (σ : AS) : Prop :=
  ∃ (p j jr : Nat) (row : List Int) (rd wr : Int), i ≤ l.length ∧ p ≤ row.length ∧ row.length ≤ i ∧ (∀ c ∈ row, 0 ≤ c ∧ c ≤ 4294967295) ∧ r = skR a l.length s jr row p i ∧ Has σ (rowL jr row (skL fi j oi x s st f row p rd wr fr))

theorem setA_mem {row : List Int} {p : Nat} {c d : Int} (h : d ∈ setA row p c) : d ∈ row ∨ d = c := by
  unfold setA at h
  split at h
  · exact (List.mem_or_eq_of_mem_set h)
  · simpa using h
abbrev RK2 (v : Value) (_ : AS) : Prop := v = .bool true
theorem seeks_law {a : Option Addr} {l : List Stp} {fr : List (Nat × AObj)} (H : Has σ fr) (hin : StpIn a l fr) (hc : ∀ t ∈ l, t.ok) :
    Tri Try.prog 6 [.slice a l.length 4] σ RK2 := tri_in (by
  rw [s6]
  refine bm_mk (fun h => ?_) (fun h => ?_)
  · refine c11 ?_
    simp only [tB_bool]
  have hl : l.length ≤ 400 := by have := of_decide_eq_false h; omega
  refine c9 H (by omega) (by omega) fun σ1 s f st H1 => ?_
  simp only [tTup_tup, pSome_some, tP_ptr, tI_int, List.getElem?_cons_zero, List.getElem?_cons_succ]
  refine c10 ?_
  simp only [tI_int, bne_self_eq_false, bm_false, ptrEq_some]
  refine c12b_new (nm := nmF) H1 (by decide) (by decide) (by omega) (by omega) (fun v => rfl) fun σ2 fi oi x H2 => ?_
  simp only [tTup_tup, pSome_some, tP_ptr, tI_int, List.getElem?_cons_zero, List.getElem?_cons_succ]
  refine c10 ?_
  simp only [tI_int, bne_self_eq_false, bm_false]
  rw [show (0 : Int) + 1 = 1 from rfl] at H2 ⊢
  refine aloop (skI fi oi x s st f a l fr) (fun i => l.length - i) ?_ (a := 0) ⟨0, 0, 0, [], 0, 0, by omega, by simp, by simp, by simp, rfl, H2⟩
  rintro i r σ3 X hX ⟨p, j, jr, row, rd, wr, hi, hp, hri, hrow, rfl, H3⟩
  obtain ⟨cA, ce, hsl, hno, hne⟩ := slL_ex jr row
  have hz : szOf Try.prog 32 = 1 := by kernel_rfl
  have hz49 : szOf Try.prog 49 = 4 := by kernel_rfl
  have hz3 : szOf Try.prog 3 = 1 := by kernel_rfl
  unfold skR
  rw [hsl, s6l]
  have qi : IntKind.wrap .i64 ((i : Int) + 1) = ((i + 1 : Nat) : Int) := wrap64 (by omega) (by omega)
  have qp : IntKind.wrap .i64 ((p : Int) + 1) = ((p + 1 : Nat) : Int) := wrap64 (by omega) (by omega)
  have hflat : (flat4 row).length = 4 * row.length := flat4_len row
  refine bm_mk (fun h => ?_) (fun h => ?_)
  · have h : i < l.length := by have := of_decide_eq_true h; omega
    obtain ⟨t, ht⟩ : ∃ t, l[i]? = some t := ⟨l[i], by simp [h]⟩
    have hok := hc t (List.mem_of_getElem? ht)
    obtain ⟨hk, hcc, ha, hf⟩ := hok
    have hcc := wf_u32 hcc
    obtain ⟨ri, q, rfl, hq⟩ := hin.resolve_left (fun e => by rw [e] at h; simp at h)
    obtain ⟨g1, g2⟩ := stp_cells ht
    refine req_mk (by omega) (req_mk (by omega) ?_)
    simp only [pSome_some, hz49, add_none, Int.toNat_natCast, Nat.zero_add]
    obtain ⟨mq, hmq⟩ : ∃ mq, (rowL jr row (skL fi j oi x s st f row p rd wr fr))[mq]? = some (ri, AObj.row .ro (l.map Stp.cells).flatten) := by
      refine List.getElem?_of_mem ?_
      obtain ⟨P, hP⟩ := rowL_app jr row
      rw [hP]
      obtain ⟨m2, h2⟩ := fr_at (fi := fi) (j := j) (bs := flat4 row) (op := .slice (some ⟨oi, 0, none⟩) 1 1) (mid := [(oi, .row .rw [ptr x]), (x, streamO (holdV true fi) (ptr fi) 3 p rd wr), (s, shelfO 1048576 1 f st), (st, .map [{ key := i64 1, val := ptr x, born := 0 }] (0 + 1)), (f, .map (ent1 nmF (ptr fi)) 1)]) hq
      exact List.mem_append_right _ (List.mem_of_getElem? h2)
    refine lds_mk H3 mq hmq g2 ?_
    rw [g1]
    simp only [Stp.cells, tCons, tI_int, tNil]
    refine newAt_mk H3 fun i14 σ4 H4 => ?_
    refine puts_mk H4 0 rfl rfl (by simp) fun σ5 H5 => ?_
    have H5 : Has σ5 ((i14, .row .plain t.cells) :: rowL jr row (skL fi j oi x s st f row p rd wr fr)) := H5
    refine ldc_mk H5 0 rfl rfl ?_
    simp only [tI_int]
    have HA : Has σ5 (rowL jr row ((i14, .row .plain t.cells) :: skL fi j oi x s st f row p rd wr fr)) := row_swap H5
    refine bm_mk (fun hk0 => ?_) (fun hk0 => ?_)
    · -- a character is written
      refine ldc_mk H5 0 rfl rfl ?_
      simp only [tI_int]
      refine newAt_mk H5 fun i21 σ6 H6 => ?_
      have H7 : Has σ6 (skL fi j oi x s st f row p rd wr ([(i21, .row .rw [u32 t.c]), (i14, .row .plain t.cells)] ++ rowL jr row fr)) := by
        obtain ⟨P, hP⟩ := rowL_app jr row
        rw [hP] at H6 ⊢
        exact fl_in ([(i21, .row .rw [u32 t.c]), (i14, .row .plain t.cells)] ++ P) H6
      refine c14w (ms := [t.c]) H7 (by decide) (.inr ⟨i21, .rw, 0, rfl, rfl⟩) (by simpa using hcc) hp (by simp; omega) (by omega) fun σ7 j7 H8 => ?_
      have HB : Has σ7 (rowL jr row ((i14, .row .plain t.cells) :: skL fi j7 oi x s st f (setA row p t.c) ((p + 1 : Nat) : Int) rd (IntKind.wrap .u32 (wr + IntKind.wrap .u32 1)) fr)) := by
        have H9 := fl_out [(i21, .row .rw [u32 t.c]), (i14, .row .plain t.cells)] H8
        have H10 := H9.sub (.cons _ (.refl _))
        obtain ⟨P, hP⟩ := rowL_app jr row
        rw [hP] at H10 ⊢
        exact (fl_out ([(i14, .row .plain t.cells)] ++ P) (fl_in [(i14, .row .plain t.cells)] H10)).perm List.perm_middle
      refine c10 ?_
      simp only [tI_int, bne_self_eq_false, bm_false]
      have hlen := setA_len (c := t.c) hp
      refine bm_mk (fun hat => ?_) (fun hat => ?_)
      · have hat : p = row.length := by have : (p : Int) = row.length := (by simpa using hat); omega
        refine push_mk HB (.inl hsl) hno (by omega) fun j8 σ8 H12 => ?_
        rw [rowL_ne (by simp)] at H12
        refine ldc_mk H12 1 rfl rfl ?_
        simp only [tI_int]
        refine req_mk (by omega) (req_mk (by push_cast; omega) ?_)
        simp only [pSome_some, hz, add_none, Int.toNat_natCast, Nat.zero_add, Nat.mul_one]
        refine put1_mk H12 0 rfl rfl (by simp; omega) fun σ9 H13 => ?_
        have e1 : (cellsU (row ++ [0])).set p (u32 t.c) = cellsU (setA row p t.c) := by
          simp [setA, hat, cellsU]
        have H14 : Has σ9 (rowL j8 (setA row p t.c) (skL fi j7 oi x s st f (setA row p t.c) ((p + 1 : Nat) : Int) rd (IntKind.wrap .u32 (wr + IntKind.wrap .u32 1)) fr)) := by
          rw [rowL_ne (by intro e; rw [e] at hlen; simp at hlen; omega), ← e1]
          exact H13.sub (.cons_cons _ (.cons _ (.refl _)))
        refine c15w (row_in H14) (by omega) fun σ10 H15 => ?_
        simp only [tTup_tup, pSome_some, tI_int, List.getElem?_cons_zero, List.getElem?_cons_succ]
        rw [qp, hlen]
        have e2 : max row.length (p + 1) = row.length + 1 := by omega
        rw [e2]
        simp only [bne_self_eq_false, bm_false]
        rw [qi]
        refine hX (i + 1) _ _ (by omega) ⟨p + 1, j7, j8, setA row p t.c, rd, _, by omega, by omega, by omega, ?_, ?_, row_out H15⟩
        · intro d hd
          rcases setA_mem hd with h | rfl
          · exact hrow d h
          · exact hcc
        · simp only [skR]
          have e3 : slL j8 (setA row p t.c) = .slice (some ⟨j8, 0, none⟩) (row.length + 1) 1 := by
            have hne8 : setA row p t.c ≠ [] := by intro e; rw [e] at hlen; simp at hlen; omega
            rw [slL_ne hne8, hlen, e2]
          rw [e3]
      · have hat : p < row.length := by have : (p : Int) ≠ row.length := (by simpa using hat); omega
        have hner : row ≠ [] := by intro e; rw [e] at hat; simp at hat
        obtain ⟨rfl, rfl⟩ := hne hner
        rw [rowL_ne hner] at HB
        refine ldc_mk HB 1 rfl rfl ?_
        simp only [tI_int]
        refine req_mk (by omega) (req_mk (by omega) ?_)
        simp only [pSome_some, hz, add_none, Int.toNat_natCast, Nat.zero_add, Nat.mul_one]
        refine req_mk trivial ?_
        refine put1_mk HB 0 rfl rfl (by simp; omega) fun σ9 H13 => ?_
        have e1 : (cellsU row).set p (u32 t.c) = cellsU (setA row p t.c) := by
          simp [setA, hat, cellsU]
        have e2 : max row.length (p + 1) = row.length := by omega
        have H14 : Has σ9 (rowL jr (setA row p t.c) (skL fi j7 oi x s st f (setA row p t.c) ((p + 1 : Nat) : Int) rd (IntKind.wrap .u32 (wr + IntKind.wrap .u32 1)) fr)) := by
          rw [rowL_ne (by intro e; rw [e] at hlen; simp at hlen; omega), ← e1]
          exact H13.sub (.cons_cons _ (.cons _ (.refl _)))
        refine c15w (row_in H14) (by omega) fun σ10 H15 => ?_
        simp only [tTup_tup, pSome_some, tI_int, List.getElem?_cons_zero, List.getElem?_cons_succ]
        rw [qp, hlen, e2]
        simp only [bne_self_eq_false, bm_false]
        rw [qi]
        refine hX (i + 1) _ _ (by omega) ⟨p + 1, j7, jr, setA row p t.c, rd, _, by omega, by omega, by omega, ?_, ?_, row_out H15⟩
        · intro d hd
          rcases setA_mem hd with h | rfl
          · exact hrow d h
          · exact hcc
        · simp only [skR]
          have e3 : slL jr (setA row p t.c) = .slice (some ⟨jr, 0, none⟩) row.length 1 := by
            have hne8 : setA row p t.c ≠ [] := by intro e; rw [e] at hlen; simp at hlen; omega
            rw [slL_ne hne8, hlen, e2]
          rw [e3]
    · refine bm_mk (fun hk1 => ?_) (fun hk1 => ?_)
      · -- a character is read
        have HC : Has σ5 (skL fi j oi x s st f row p rd wr (rowL jr row fr)) := row_in (H5.sub (.cons _ (.refl _)))
        by_cases hat : p < row.length
        · have hner : row ≠ [] := by intro e; rw [e] at hat; simp at hat
          obtain ⟨rfl, rfl⟩ := hne hner
          obtain ⟨v, hv⟩ : ∃ v, row[p]? = some v := ⟨row[p], by simp [hat]⟩
          have hvv := hrow v (List.mem_of_getElem? hv)
          refine c16w_more HC (by omega) (.inr rfl) hv hvv.1 hvv.2 fun σ6 H6 => ?_
          simp only [tTup_tup, pSome_some, tI_int, tB_bool, List.getElem?_cons_zero, List.getElem?_cons_succ]
          refine c10 ?_
          have d1 : decide ((p : Int) < row.length) = true := by simpa using hat
          simp only [tI_int, bne_self_eq_false, bm_false, bm_true, d1, beq_self_eq_true, Bool.not_true]
          have HD := row_out H6
          rw [rowL_ne hner] at HD
          refine req_mk (by omega) (req_mk (by omega) (req_mk (by first | rfl | trivial) ?_))
          simp only [pSome_some, hz, add_none, Int.toNat_natCast, Nat.zero_add, Nat.mul_one]
          refine ldc_mk HD 0 rfl (cellsU_get hv) ?_
          simp only [tI_int, bne_self_eq_false, bm_false]
          refine c15w H6 (by omega) fun σ10 H15 => ?_
          simp only [tTup_tup, pSome_some, tI_int, List.getElem?_cons_zero, List.getElem?_cons_succ]
          rw [qp, show ((p : Int) + 1) = ((p + 1 : Nat) : Int) from rfl]
          simp only [bne_self_eq_false, bm_false]
          rw [qi]
          refine hX (i + 1) _ _ (by omega) ⟨p + 1, j, jr, row, _, wr, by omega, by omega, by omega, hrow, ?_, row_out H15⟩
          simp only [skR]
          rw [hsl]
        · refine c16w_end HC (by omega) (.inr rfl) (by omega) fun σ6 H6 => ?_
          simp only [tTup_tup, pSome_some, tI_int, tB_bool, List.getElem?_cons_zero, List.getElem?_cons_succ]
          refine c10 ?_
          have d1 : decide ((p : Int) < row.length) = false := by simpa using hat
          simp only [tI_int, bne_self_eq_false, bm_false, bm_true, d1, beq_self_eq_true, Bool.not_true]
          refine c15w H6 (by omega) fun σ10 H15 => ?_
          simp only [tTup_tup, pSome_some, tI_int, List.getElem?_cons_zero, List.getElem?_cons_succ]
          simp only [bne_self_eq_false, bm_false]
          rw [qi]
          refine hX (i + 1) _ _ (by omega) ⟨p, j, jr, row, _, wr, by omega, by omega, by omega, hrow, ?_, row_out H15⟩
          simp only [skR]
          rw [hsl]
      · -- a place is sought
        have HC : Has σ5 (skL fi j oi x s st f row p rd wr (rowL jr row fr)) := row_in (H5.sub (.cons _ (.refl _)))
        refine ldc_mk H5 0 rfl rfl ?_
        simp only [tI_int]
        refine ldc_mk H5 0 rfl rfl ?_
        simp only [tI_int]
        rw [imin_eq, imax_eq]
        generalize hby : min (max t.a (-1000)) 1000 = by_
        have hb1 : -1000 ≤ by_ ∧ by_ ≤ 1000 := by omega
        have nxt : ∀ σ6, Has σ6 (skL fi j oi x s st f row p rd wr (rowL jr row fr)) → X [(0, some (.slice (some ⟨ri, 0, none⟩) l.length 4)), (3, some (ptr s)), (5, some (i64 1)), (7, some (.slice cA row.length ce)), (8, some (i64 p)), (9, some (i64 (IntKind.wrap .i64 ((i : Int) + 1))))] σ6 := by
          intro σ6 H6
          rw [qi]
          refine hX (i + 1) _ _ (by omega) ⟨p, j, jr, row, rd, wr, by omega, by omega, by omega, hrow, ?_, row_out H6⟩
          simp only [skR]
          rw [hsl]
        by_cases hq : t.f < 0 ∨ 2 < t.f
        · refine c20w_bad HC hq ?_
          simp only [tI_int]
          refine c10 ?_
          simp only [tI_int]
          have d0 : ((1 : Int) != 0) = true := rfl
          rw [d0]
          simp only [bm_true]
          rcases hq with hq | hq
          · have d1 : decide (t.f ≥ 0) = false := by simp; omega
            rw [d1]
            exact nxt _ HC
          · have d1 : decide (t.f ≥ 0) = true := by simp; omega
            have d2 : decide (t.f ≤ 2) = false := by simp; omega
            rw [d1, d2]
            exact nxt _ HC
        · obtain ⟨base, hbase, hb2⟩ : ∃ base : Int, ((t.f = 0 ∧ base = 0) ∨ (t.f = 1 ∧ base = p) ∨ (t.f = 2 ∧ base = row.length)) ∧ [i64 0, i64 p, i64 row.length][t.f.toNat]? = some (i64 base) := by
            have : t.f = 0 ∨ t.f = 1 ∨ t.f = 2 := by omega
            rcases this with e | e | e <;> rw [e]
            · exact ⟨0, .inl ⟨rfl, rfl⟩, rfl⟩
            · exact ⟨p, .inr (.inl ⟨rfl, rfl⟩), rfl⟩
            · exact ⟨row.length, .inr (.inr ⟨rfl, rfl⟩), rfl⟩
          have hbb : 0 ≤ base ∧ base ≤ row.length := by rcases hbase with ⟨_, rfl⟩ | ⟨_, rfl⟩ | ⟨_, rfl⟩ <;> omega
          refine c20w HC (by omega) (by omega) (by omega) hbase fun σ6 H6 => ?_
          simp only [tI_int]
          refine c10 ?_
          simp only [tI_int, bne_self_eq_false, bm_false]
          refine newAt_mk H6 fun i135 σ7 H7 => ?_
          refine req_mk (by omega) (req_mk (by omega) ?_)
          simp only [hz3, add_none, Nat.zero_add, Nat.mul_one]
          refine ldc_mk H7 0 rfl hb2 ?_
          simp only [tI_int]
          have H8 : Has σ7 (skL fi j oi x s st f row (seekTo base row.length by_) rd wr (rowL jr row fr)) := H7.sub (.cons _ (.refl _))
          refine c15w H8 (by omega) fun σ8 H9 => ?_
          simp only [tTup_tup, pSome_some, tI_int, List.getElem?_cons_zero, List.getElem?_cons_succ]
          rw [wrap64 (n := base + by_) (by omega) (by omega)]
          have e1 : imin (imax (base + by_) 0) (row.length : Int) = seekTo base row.length by_ := by
            rw [imin_eq, imax_eq]; unfold seekTo; omega
          rw [e1]
          simp only [bne_self_eq_false, bm_false]
          obtain ⟨p', hp'⟩ : ∃ p' : Nat, seekTo base row.length by_ = (p' : Int) := ⟨(seekTo base row.length by_).toNat, by unfold seekTo; omega⟩
          have hp2 : p' ≤ row.length := by unfold seekTo at hp'; omega
          rw [hp'] at H9 ⊢
          rw [qi]
          refine hX (i + 1) _ _ (by omega) ⟨p', j, jr, row, rd, wr, by omega, by omega, by omega, hrow, ?_, row_out H9⟩
          simp only [skR]
          rw [hsl]
  · have HC := row_in H3
    refine c21 (qs := 2) (qf := 4) HC rfl rfl rfl (by omega) fun σ4 j2 H4 => ?_
    simp only [tTup_tup, pSome_some, tL_sl, tB_bool, List.getElem?_cons_zero, List.getElem?_cons_succ]
    have e1 : IntKind.wrap .i64 (4 * (row.length : Int)) = ((flat4 row).length : Int) := by
      rw [wrap64 (by omega) (by omega)]; omega
    rw [e1]
    simp only [bm_true, beq_self_eq_true]
    refine c11 ?_
    simp only [tB_bool])
end
end Go.AI
