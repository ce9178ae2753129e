/- A shelf with one file: what its functions do. -/
import Derived.Test.YtpgedoljndppdaaShFile
import Derived.Test.YtpgedoljndppdaaShForm4
set_option maxRecDepth 4000
set_option linter.unusedVariables false
set_option linter.unusedSimpArgs false
namespace Go.AI
open Go.Proofs
section
variable {σ : AS} {K : Value → AS → Prop}
abbrev ent1 (nm : ByteArray) (v : Value) : List MapEntry := [{ key := .string nm, val := v, born := 0 }]
theorem mnext_first {L : List (Nat × AObj)} {it f q : Nat} {nm : ByteArray} {v : Value} {G : Option (Value × Value) → AS → Prop} (H : Has σ ((it, .iter (some f) 1 [] 1) :: L)) (e : L[q]? = some (f, .map (ent1 nm v) 1))
    (hG : ∀ σ', Has σ' ((it, .iter (some f) 1 [0] 1) :: L) → G (some (.string nm, v)) σ') : mnext σ it G := by
  unfold mnext
  rw [H.at 0 rfl]
  exact mapAt_mk H (q + 1) e (hG _ (H.upd 0 rfl _))
theorem mnext_last {L : List (Nat × AObj)} {it f q : Nat} {nm : ByteArray} {v : Value} {G : Option (Value × Value) → AS → Prop} (H : Has σ ((it, .iter (some f) 1 [0] 1) :: L)) (e : L[q]? = some (f, .map (ent1 nm v) 1))
    (hG : G none σ) : mnext σ it G := by
  unfold mnext
  rw [H.at 0 rfl]
  exact mapAt_mk H (q + 1) e hG
theorem mentry_first {L : List (Nat × AObj)} {it f q : Nat} {nm : ByteArray} {v : Value} {G : Value → Value → Prop} (H : Has σ ((it, .iter (some f) 1 [0] 1) :: L)) (e : L[q]? = some (f, .map (ent1 nm v) 1))
    (hG : G (.string nm) v) : mentry σ it G := by
  unfold mentry
  rw [H.at 0 rfl]
  have h2 := H.at (q + 1) (i := f) (o := .map (ent1 nm v) 1) e
  simp only [List.getLast?, h2]
  exact req_mk (by first | rfl | trivial) hG
theorem mid_at {fi j : Nat} {bs : List Int} {op : Value} {mid fr : List (Nat × AObj)} {q : Nat} {p : Nat × AObj} (h : mid[q]? = some p) : (fileL fi j bs op mid fr)[q + 1]? = some p := by
  have hq : q < mid.length := (List.getElem?_eq_some_iff.1 h).1
  show ((fi, fileO j bs op) :: (mid ++ rowK .u8 j bs fr))[q + 1]? = some p
  rw [List.getElem?_cons_succ, List.getElem?_append_left hq, h]

def totI (it f : Nat) (L : List (Nat × AObj)) (n : Nat) (a : Nat) (r : Regs) (σ : AS) : Prop :=
  match a with
  | 0 => r = [(3, some (i64 0)), (12, some (ptr it))] ∧ Has σ ((it, .iter (some f) 1 [] 1) :: L)
  | _ => r = [(3, some (i64 n)), (12, some (ptr it))] ∧ Has σ ((it, .iter (some f) 1 [0] 1) :: L)
theorem c24 {fi j s f st qs qf : Nat} {most last : Int} {nm : ByteArray} {bs : List Int} {op : Value} {mid fr : List (Nat × AObj)} (H : Has σ (fileL fi j bs op mid fr)) (es : mid[qs]? = some (s, shelfO most last f st)) (ef : mid[qf]? = some (f, .map (ent1 nm (ptr fi)) 1))
    (hl : bs.length ≤ 1099511627776) (hK : ∀ σ', Has σ' (fileL fi j bs op mid fr) → K (i64 bs.length) σ') : Tri Try.prog 24 [ptr s] σ K := tri_in (by
  rw [s24]
  refine ldc_mk H (qs + 1) (mid_at es) rfl ?_
  simp only [tM_map, rngM]
  refine mapAt_mk H (qf + 1) (mid_at ef) (newAt_mk H fun it σ1 H1 => ?_)
  refine aloop (totI it f (fileL fi j bs op mid fr) bs.length) (fun a => 1 - a) ?_ (a := 0) ⟨rfl, H1⟩
  intro a r σ2 X hX hI
  match a, hI, hX with
  | 0, hI, hX =>
    obtain ⟨rfl, H2⟩ := hI
    rw [s24l]
    refine mnext_first H2 (mid_at ef) fun σ3 H3 => ?_
    simp only [onNx]
    refine mentry_first H3 (mid_at ef) ?_
    simp only [tP_ptr, pSome_some, add_none]
    obtain ⟨a, e, hs, hn, ha⟩ := slL_ex j bs
    refine ldc_mk H3 1 rfl (v := slL j bs) rfl ?_
    rw [hs]
    refine tL_ok hn ?_
    simp only
    rw [wrap64 (by omega) (by omega)]
    refine hX 1 _ _ (by omega) ⟨by simp, H3⟩
  | a + 1, hI, hX =>
    obtain ⟨rfl, H2⟩ := hI
    rw [s24l]
    refine mnext_last H2 (mid_at ef) ?_
    exact hK σ2 (H2.sub (.cons _ (.refl _))))

theorem c21 {fi j s f st qs qf : Nat} {most last : Int} {nm : ByteArray} {bs : List Int} {op : Value} {mid fr : List (Nat × AObj)} (H : Has σ (fileL fi j bs op mid fr)) (es : mid[qs]? = some (s, shelfO most last f st)) (ef : mid[qf]? = some (f, .map (ent1 nm (ptr fi)) 1))
    (hf : Instr.findNow .string (.string nm) (ent1 nm (ptr fi)) 0 = some (some (0, ptr fi))) (hl : bs.length ≤ 1099511627776) (hK : ∀ σ' j2, Has σ' ((j2, .row .rw (cells8 bs)) :: fileL fi j bs op mid fr) → K (.tuple ⟨[.slice (some ⟨j2, 0, none⟩) bs.length 1, .bool true]⟩) σ') :
    Tri Try.prog 21 [ptr s, .string nm] σ K := tri_in (by
  rw [s21]
  refine ldc_mk H (qs + 1) (mid_at es) rfl ?_
  simp only [tM_map]
  refine mget_mk H (qf + 1) (mid_at ef) hf ?_
  simp only [Option.map, Option.getD, tP_ptr, ptrEq_some, bm_false]
  refine newAt_mk H fun i5 σ1 H1 => ?_
  refine ldc_mk H1 (qs + 2) (by rw [List.getElem?_cons_succ]; exact mid_at es) rfl ?_
  simp only [tM_map]
  refine mget_mk H1 (qf + 2) (by rw [List.getElem?_cons_succ]; exact mid_at ef) hf ?_
  simp only [Option.map, Option.getD, tP_ptr, pSome_some, add_none]
  obtain ⟨a, e, hs, hn, ha⟩ := slL_ex j bs
  refine ldc_mk H1 1 rfl (v := slL j bs) rfl ?_
  rw [hs]
  refine tL_ok hn ?_
  have fin : ∀ (cells : List Value), cells = cells8 bs → appendTo σ1 1 1 ⟨some ⟨i5, 0, none⟩, 0⟩ cells bs.length fun s16 σ17 => K (.tuple ⟨[.slice s16.a s16.n 1, .bool true]⟩) σ17 := by
    rintro cells rfl
    refine append_mk (n := 0) (m := bs.length) H1 0 rfl rfl (by omega) (by simp) fun j2 σ2 H2 => ?_
    simp only [Nat.zero_add]
    exact hK σ2 j2 (by simpa using H2)
  by_cases hb : bs = []
  · subst hb
    obtain ⟨rfl, rfl⟩ : a = none ∧ e = 0 := by injection hs with h1 h2 h3; exact ⟨h1.symm, h3.symm⟩
    exact fin [] rfl
  · obtain ⟨rfl, rfl⟩ := ha hb
    simp only [srcCells]
    refine req_mk (by first | rfl | trivial) ?_
    have H1' := H1
    simp only [fileL] at H1'
    rw [rowK_ne hb] at H1'
    refine lds_mk (cs := cells8 bs) (k := .rw) H1' (mid.length + 2) (by simp [List.getElem?_append_right]) (by simp) ?_
    exact fin _ (by rw [List.drop_zero]; exact List.take_of_length_le (by simp)))

theorem c35 {name : ByteArray} (h0 : 1 ≤ name.size) (h1 : name.size ≤ 32) (hK : K (.bool true) σ) : Tri Try.prog 35 [.string name] σ K := tri_in (by
  rw [s35]
  have e1 : ((name.size : Int) ≥ 1) := by omega
  have e2 : ((name.size : Int) ≤ 32) := by omega
  simp only [e1, e2, decide_true, bm_true]
  exact hK)

theorem c27w_new {s f st : Nat} {most last : Int} {nm : ByteArray} {es fes : List MapEntry} {cn fcn : Nat} (hs : σ s = some (shelfO most last f st)) (hm : σ st = some (.map es cn)) (hfm : σ f = some (.map fes fcn)) (hes : es.length < 64) (hfl : fes.length < 64)
    (h0 : 1 ≤ nm.size) (h1 : nm.size ≤ 32) (hf : Instr.findNow .string (.string nm) fes 0 = some none) (hK : K (i64 0) σ) : Tri Try.prog 27 [ptr s, .string nm, i64 1] σ K := tri_in (by
  rw [s27w]
  have e1 : ((es.length : Int) == 64) = false := by simp; omega
  have e2 : ((fes.length : Int) == 64) = false := by simp; omega
  simp only [ldc, AS.cell, hs, List.getElem?_cons_zero, List.getElem?_cons_succ, Nat.zero_add, pSome_some, tM_map, mget, AS.ents, hfm, hf, Option.map, Option.getD, tP_ptr]
  refine c35 h0 h1 ?_
  simp only [tB_bool, Bool.not_true, bm_false, hs, List.getElem?_cons_zero, List.getElem?_cons_succ, pSome_some, tM_map, mlen, AS.ents, hm, e1, ptrEq_none, bm_true, hfm, e2]
  exact hK)
theorem c27w_old {s f st fi : Nat} {most last : Int} {nm : ByteArray} {es fes : List MapEntry} {cn fcn q : Nat} {bv : Value} {oa : Option Addr} {oe : Nat} (hs : σ s = some (shelfO most last f st)) (hm : σ st = some (.map es cn)) (hfm : σ f = some (.map fes fcn)) (hes : es.length < 64) (hfl : fes.length < 64)
    (h0 : 1 ≤ nm.size) (h1 : nm.size ≤ 32) (hf : Instr.findNow .string (.string nm) fes 0 = some (some (q, ptr fi))) (hfi : σ fi = some (.row .plain [bv, .slice oa 0 oe])) (ho : nilOr oa oe 1 = true) (hK : K (i64 0) σ) : Tri Try.prog 27 [ptr s, .string nm, i64 1] σ K := tri_in (by
  rw [s27w]
  have e1 : ((es.length : Int) == 64) = false := by simp; omega
  have e2 : ((fes.length : Int) == 64) = false := by simp; omega
  simp only [ldc, AS.cell, hs, List.getElem?_cons_zero, List.getElem?_cons_succ, Nat.zero_add, pSome_some, tM_map, mget, AS.ents, hfm, hf, Option.map, Option.getD, tP_ptr]
  refine c35 h0 h1 ?_
  simp only [tB_bool, Bool.not_true, bm_false, hs, List.getElem?_cons_zero, List.getElem?_cons_succ, pSome_some, tM_map, mlen, AS.ents, hm, e1, ptrEq_some, hfi, Nat.zero_add]
  refine tL_ok ho ?_
  intro X hX
  refine hX _ _ ?_
  rw [s27l]
  refine bm_mk (fun h => by simp at h) (fun _ => hK))

theorem c27b_new {s f st : Nat} {most last : Int} {nm : ByteArray} {es fes : List MapEntry} {cn fcn : Nat} (hs : σ s = some (shelfO most last f st)) (hm : σ st = some (.map es cn)) (hfm : σ f = some (.map fes fcn)) (hes : es.length < 64) (hfl : fes.length < 64)
    (h0 : 1 ≤ nm.size) (h1 : nm.size ≤ 32) (hf : Instr.findNow .string (.string nm) fes 0 = some none) (hK : K (i64 0) σ) : Tri Try.prog 27 [ptr s, .string nm, i64 3] σ K := tri_in (by
  rw [s27b]
  have e1 : ((es.length : Int) == 64) = false := by simp; omega
  have e2 : ((fes.length : Int) == 64) = false := by simp; omega
  simp only [ldc, AS.cell, hs, List.getElem?_cons_zero, List.getElem?_cons_succ, Nat.zero_add, pSome_some, tM_map, mget, AS.ents, hfm, hf, Option.map, Option.getD, tP_ptr]
  refine c35 h0 h1 ?_
  simp only [tB_bool, Bool.not_true, bm_false, hs, List.getElem?_cons_zero, List.getElem?_cons_succ, pSome_some, tM_map, mlen, AS.ents, hm, e1, ptrEq_none, bm_true, hfm, e2]
  exact hK)
theorem c27b_old {s f st fi : Nat} {most last : Int} {nm : ByteArray} {es fes : List MapEntry} {cn fcn q : Nat} {bv : Value} {oa : Option Addr} {oe : Nat} (hs : σ s = some (shelfO most last f st)) (hm : σ st = some (.map es cn)) (hfm : σ f = some (.map fes fcn)) (hes : es.length < 64) (hfl : fes.length < 64)
    (h0 : 1 ≤ nm.size) (h1 : nm.size ≤ 32) (hf : Instr.findNow .string (.string nm) fes 0 = some (some (q, ptr fi))) (hfi : σ fi = some (.row .plain [bv, .slice oa 0 oe])) (ho : nilOr oa oe 1 = true) (hK : K (i64 0) σ) : Tri Try.prog 27 [ptr s, .string nm, i64 3] σ K := tri_in (by
  rw [s27b]
  have e1 : ((es.length : Int) == 64) = false := by simp; omega
  have e2 : ((fes.length : Int) == 64) = false := by simp; omega
  simp only [ldc, AS.cell, hs, List.getElem?_cons_zero, List.getElem?_cons_succ, Nat.zero_add, pSome_some, tM_map, mget, AS.ents, hfm, hf, Option.map, Option.getD, tP_ptr]
  refine c35 h0 h1 ?_
  simp only [tB_bool, Bool.not_true, bm_false, hs, List.getElem?_cons_zero, List.getElem?_cons_succ, pSome_some, tM_map, mlen, AS.ents, hm, e1, ptrEq_some, hfi, Nat.zero_add]
  refine tL_ok ho ?_
  intro X hX
  refine hX _ _ ?_
  rw [s27l]
  refine bm_mk (fun h => by simp at h) (fun _ => hK))

theorem c27a_new {s f st : Nat} {most last : Int} {nm : ByteArray} {es fes : List MapEntry} {cn fcn : Nat} (hs : σ s = some (shelfO most last f st)) (hm : σ st = some (.map es cn)) (hfm : σ f = some (.map fes fcn)) (hes : es.length < 64) (hfl : fes.length < 64)
    (h0 : 1 ≤ nm.size) (h1 : nm.size ≤ 32) (hf : Instr.findNow .string (.string nm) fes 0 = some none) (hK : K (i64 0) σ) : Tri Try.prog 27 [ptr s, .string nm, i64 5] σ K := tri_in (by
  rw [s27a]
  have e1 : ((es.length : Int) == 64) = false := by simp; omega
  have e2 : ((fes.length : Int) == 64) = false := by simp; omega
  simp only [ldc, AS.cell, hs, List.getElem?_cons_zero, List.getElem?_cons_succ, Nat.zero_add, pSome_some, tM_map, mget, AS.ents, hfm, hf, Option.map, Option.getD, tP_ptr]
  refine c35 h0 h1 ?_
  simp only [tB_bool, Bool.not_true, bm_false, hs, List.getElem?_cons_zero, List.getElem?_cons_succ, pSome_some, tM_map, mlen, AS.ents, hm, e1, ptrEq_none, bm_true, hfm, e2]
  exact hK)
theorem c27a_old {s f st fi : Nat} {most last : Int} {nm : ByteArray} {es fes : List MapEntry} {cn fcn q : Nat} {bv : Value} {oa : Option Addr} {oe : Nat} (hs : σ s = some (shelfO most last f st)) (hm : σ st = some (.map es cn)) (hfm : σ f = some (.map fes fcn)) (hes : es.length < 64) (hfl : fes.length < 64)
    (h0 : 1 ≤ nm.size) (h1 : nm.size ≤ 32) (hf : Instr.findNow .string (.string nm) fes 0 = some (some (q, ptr fi))) (hfi : σ fi = some (.row .plain [bv, .slice oa 0 oe])) (ho : nilOr oa oe 1 = true) (hK : K (i64 0) σ) : Tri Try.prog 27 [ptr s, .string nm, i64 5] σ K := tri_in (by
  rw [s27a]
  have e1 : ((es.length : Int) == 64) = false := by simp; omega
  have e2 : ((fes.length : Int) == 64) = false := by simp; omega
  simp only [ldc, AS.cell, hs, List.getElem?_cons_zero, List.getElem?_cons_succ, Nat.zero_add, pSome_some, tM_map, mget, AS.ents, hfm, hf, Option.map, Option.getD, tP_ptr]
  refine c35 h0 h1 ?_
  simp only [tB_bool, Bool.not_true, bm_false, hs, List.getElem?_cons_zero, List.getElem?_cons_succ, pSome_some, tM_map, mlen, AS.ents, hm, e1, ptrEq_some, hfi, Nat.zero_add]
  refine tL_ok ho ?_
  intro X hX
  refine hX _ _ ?_
  rw [s27l]
  refine bm_mk (fun h => by simp at h) (fun _ => hK))
theorem c27r_old {s f st fi : Nat} {most last : Int} {nm : ByteArray} {es fes : List MapEntry} {cn fcn q : Nat} {bv : Value} {oa : Option Addr} {oe : Nat} (hs : σ s = some (shelfO most last f st)) (hm : σ st = some (.map es cn)) (hfm : σ f = some (.map fes fcn)) (hes : es.length < 64) (hfl : fes.length < 64)
    (h0 : 1 ≤ nm.size) (h1 : nm.size ≤ 32) (hf : Instr.findNow .string (.string nm) fes 0 = some (some (q, ptr fi))) (hfi : σ fi = some (.row .plain [bv, .slice oa 0 oe])) (ho : nilOr oa oe 1 = true) (hK : K (i64 0) σ) : Tri Try.prog 27 [ptr s, .string nm, i64 2] σ K := tri_in (by
  rw [s27r]
  have e1 : ((es.length : Int) == 64) = false := by simp; omega
  have e2 : ((fes.length : Int) == 64) = false := by simp; omega
  simp only [ldc, AS.cell, hs, List.getElem?_cons_zero, List.getElem?_cons_succ, Nat.zero_add, pSome_some, tM_map, mget, AS.ents, hfm, hf, Option.map, Option.getD, tP_ptr]
  refine c35 h0 h1 ?_
  simp only [tB_bool, Bool.not_true, bm_false, hs, List.getElem?_cons_zero, List.getElem?_cons_succ, pSome_some, tM_map, mlen, AS.ents, hm, e1, ptrEq_some, hfi, Nat.zero_add]
  refine tL_ok ho ?_
  intro X hX
  refine hX _ _ ?_
  rw [s27l]
  refine bm_mk (fun h => by simp at h) (fun _ => hK))
end
end Go.AI
