/- Two streams that read one file, one by bytes, one by fours. -/
import Derived.Test.YtpgedoljndppdaaShGen2
import Derived.Test.YtpgedoljndppdaaShForm7
set_option maxRecDepth 4000
set_option linter.unusedVariables false
set_option linter.unusedSimpArgs false
namespace Go.AI
open Go.Proofs
section
variable {σ : AS} {K : Value → AS → Prop} {fi j oi x y s st f : Nat} {bs : List Int} {most : Int} {nm : ByteArray} {fr : List (Nat × AObj)}
/-- One file, never opened. -/
abbrev newL (fi j : Nat) (bs : List Int) (s st f : Nat) (most : Int) (nm : ByteArray) (fr : List (Nat × AObj)) : List (Nat × AObj) :=
  fileL fi j bs (.slice none 0 0) [(s, shelfO most 0 f st), (st, .map [] 0), (f, .map (ent1 nm (ptr fi)) 1)] fr
abbrev twoL (fi j : Nat) (bs : List Int) (oi x y s st f : Nat) (most : Int) (nm : ByteArray) (p rp q rq : Int) (fr : List (Nat × AObj)) : List (Nat × AObj) :=
  fileL fi j bs (.slice (some ⟨oi, 0, none⟩) 2 1) [(oi, .row .rw [ptr x, ptr y]), (x, streamO (holdV false fi) (ptr fi) 2 p rp 0), (y, streamO (holdV true fi) (ptr fi) 2 q rq 0), (s, shelfO most 2 f st),
    (st, .map [{ key := i64 1, val := ptr x, born := 0 }, { key := i64 2, val := ptr y, born := 1 }] 2), (f, .map (ent1 nm (ptr fi)) 1)] fr
theorem find2a (x y : Nat) : Instr.findNow (.int .i64) (i64 1) [{ key := i64 1, val := ptr x, born := 0 }, { key := i64 2, val := ptr y, born := 1 }] 0 = some (some (0, ptr x)) := by simp [Instr.findNow, Instr.sameNow]
theorem find2b (x y : Nat) : Instr.findNow (.int .i64) (i64 2) [{ key := i64 1, val := ptr x, born := 0 }, { key := i64 2, val := ptr y, born := 1 }] 0 = some (some (1, ptr y)) := by simp [Instr.findNow, Instr.sameNow]
theorem find2c (x : Nat) : Instr.findNow (.int .i64) (i64 2) [{ key := i64 1, val := ptr x, born := 0 }] 0 = some none := by simp [Instr.findNow, Instr.sameNow]

theorem c12r_first (H : Has σ (newL fi j bs s st f most nm fr)) (n0 : 1 ≤ nm.size) (n1 : nm.size ≤ 32)
    (hf1 : ∀ v, Instr.findNow .string (.string nm) (ent1 nm v) 0 = some (some (0, v)))
    (hK : ∀ σ' oi x, Has σ' (oneL fi j bs oi x s st f false most 1 1 nm 2 0 0 0 0 fr) → K (.tuple ⟨[i64 1, i64 0]⟩) σ') : Tri Try.prog 12 [ptr s, .string nm, i64 2, .bool false] σ K := tri_in (by
  rw [s12r]
  refine c27r_old (H.at 1 rfl) (H.at 2 rfl) (H.at 3 rfl) (by simp) (by simp) n0 n1 (hf1 _) (H.at 0 rfl) rfl ?_
  simp only [tI_int, bne_self_eq_false, bm_false]
  refine ldc_mk H 1 rfl rfl ?_
  simp only [tM_map]
  refine mget_mk H 3 rfl (hf1 (ptr fi)) ?_
  simp only [Option.map, Option.getD, tP_ptr, ptrEq_some, bm_false]
  refine ldc_mk H 1 rfl rfl ?_
  simp only [tM_map]
  refine mget_mk H 3 rfl (hf1 (ptr fi)) ?_
  simp only [Option.map, Option.getD, tP_ptr, pSome_some]
  refine newAt_mk H fun x σ5 H5 => ?_
  refine ldc_mk H5 1 rfl rfl (tL_ok rfl ?_)
  refine newAt_mk H5 fun i26 σ6 H6 => ?_
  refine lds_mk H6 0 rfl (by simp) ?_
  refine append_nil_mk H6 (by omega) fun oi σ7 H7 => ?_
  refine put1_mk H7 3 rfl rfl (by simp) fun σ8 H8 => ?_
  refine c28g (last := 0) H8 (qs := 4) (qm := 5) rfl rfl (by omega) (by omega) (by omega) rfl fun σ9 H9 => tI_mk ?_
  have G := H9.sub (L' := [(oi, .row .rw [ptr x]), (x, streamO (holdV false fi) (ptr fi) 2 0 0 0)] ++ (fi, fileO j bs (.slice (some ⟨oi, 0, none⟩) 1 1)) :: ((s, shelfO most 1 f st) :: (st, .map [{ key := i64 1, val := ptr x, born := 0 }] 1) :: (f, .map (ent1 nm (ptr fi)) 1) :: rowK .u8 j bs fr))
    (.cons_cons _ (.cons _ (.refl _)))
  exact hK σ9 oi x (G.perm (List.perm_middle (l₁ := [(oi, .row .rw [ptr x]), (x, streamO (holdV false fi) (ptr fi) 2 0 0 0)]) (a := (fi, fileO j bs (.slice (some ⟨oi, 0, none⟩) 1 1))) (l₂ := (s, shelfO most 1 f st) :: (st, .map [{ key := i64 1, val := ptr x, born := 0 }] 1) :: (f, .map (ent1 nm (ptr fi)) 1) :: rowK .u8 j bs fr)).symm))

theorem c27r_one {last : Int} {es fes : List MapEntry} {cn fcn q : Nat} {bv h : Value} {place rd wr : Int} (hs : σ s = some (shelfO most last f st)) (hm : σ st = some (.map es cn)) (hfm : σ f = some (.map fes fcn)) (hes : es.length < 64) (hfl : fes.length < 64)
    (h0 : 1 ≤ nm.size) (h1 : nm.size ≤ 32) (hf : Instr.findNow .string (.string nm) fes 0 = some (some (q, ptr fi))) (hfi : σ fi = some (.row .plain [bv, .slice (some ⟨oi, 0, none⟩) 1 1])) (hoi : σ oi = some (.row .rw [ptr x])) (hx : ∃ on, σ x = some (streamO on h 2 place rd wr))
    (hK : K (i64 0) σ) : Tri Try.prog 27 [ptr s, .string nm, i64 2] σ K := tri_in (by
  rw [s27r]
  obtain ⟨on, hx⟩ := hx
  have e1 : ((es.length : Int) == 64) = false := by simp; omega
  have e2 : ((fes.length : Int) == 64) = false := by simp; omega
  have hz : szOf Try.prog 76 = 1 := by kernel_rfl
  simp only [ldc, AS.cell, hs, List.getElem?_cons_zero, List.getElem?_cons_succ, Nat.zero_add, pSome_some, tM_map, mget, AS.ents, hfm, hf, Option.map, Option.getD, tP_ptr]
  refine c35 h0 h1 ?_
  simp only [tB_bool, Bool.not_true, bm_false, hs, List.getElem?_cons_zero, List.getElem?_cons_succ, pSome_some, tM_map, mlen, AS.ents, hm, e1, ptrEq_some, hfi, Nat.zero_add]
  refine tL_ok rfl ?_
  intro X hX
  refine hX _ _ ?_
  rw [s27l]
  refine bm_mk (fun _ => ?_) (fun h => by simp at h)
  refine req_mk (by omega) (req_mk (by simp) ?_)
  simp only [pSome_some, hz, add_none, ldc, AS.cell, Int.toNat_zero, Nat.zero_mul, Nat.add_zero, hoi, List.getElem?_cons_zero, List.getElem?_cons_succ, tP_ptr, hx, Nat.zero_add, tI_int, bne_self_eq_false, bm_false]
  rw [wrap64 (by omega) (by omega)]
  refine hX _ _ ?_
  rw [s27l]
  exact bm_mk (fun h => by simp at h) (fun _ => hK))
theorem c12r_second (H : Has σ (oneL fi j bs oi x s st f false most 1 1 nm 2 0 0 0 0 fr)) (n0 : 1 ≤ nm.size) (n1 : nm.size ≤ 32)
    (hf1 : ∀ v, Instr.findNow .string (.string nm) (ent1 nm v) 0 = some (some (0, v)))
    (hK : ∀ σ' oi y, Has σ' (twoL fi j bs oi x y s st f most nm 0 0 0 0 fr) → K (.tuple ⟨[i64 2, i64 0]⟩) σ') : Tri Try.prog 12 [ptr s, .string nm, i64 2, .bool true] σ K := tri_in (by
  rw [s12r]
  refine c27r_one (H.at 3 rfl) (H.at 4 rfl) (H.at 5 rfl) (by simp) (by simp) n0 n1 (hf1 _) (H.at 0 rfl) (H.at 1 rfl) ⟨_, H.at 2 rfl⟩ ?_
  simp only [tI_int, bne_self_eq_false, bm_false]
  refine ldc_mk H 3 rfl rfl ?_
  simp only [tM_map]
  refine mget_mk H 5 rfl (hf1 (ptr fi)) ?_
  simp only [Option.map, Option.getD, tP_ptr, ptrEq_some, bm_false]
  refine ldc_mk H 3 rfl rfl ?_
  simp only [tM_map]
  refine mget_mk H 5 rfl (hf1 (ptr fi)) ?_
  simp only [Option.map, Option.getD, tP_ptr, pSome_some]
  refine newAt_mk H fun y σ4 H4 => ?_
  simp only [bm_true]
  refine put1_mk H4 0 rfl rfl (by simp) fun σ5 H5 => ?_
  have H5 : Has σ5 ((y, streamO (holdV true fi) (ptr fi) 2 0 0 0) :: oneL fi j bs oi x s st f false most 1 1 nm 2 0 0 0 0 fr) := H5
  refine ldc_mk H5 1 rfl rfl (tL_ok rfl ?_)
  refine newAt_mk H5 fun i26 σ6 H6 => ?_
  refine lds_mk H6 0 rfl (by simp) ?_
  refine append_mk (n := 1) (m := 1) H6 3 rfl rfl (by omega) (by simp) fun oi' σ7 H7 => ?_
  have H7 : Has σ7 ((oi', .row .rw [ptr x, ptr y]) :: (i26, .row .rw [ptr y]) :: (y, streamO (holdV true fi) (ptr fi) 2 0 0 0) :: (fi, fileO j bs (.slice (some ⟨oi, 0, none⟩) 1 1)) :: (x, streamO (holdV false fi) (ptr fi) 2 0 0 0) :: (s, shelfO most 1 f st) :: (st, .map [{ key := i64 1, val := ptr x, born := 0 }] 1) :: (f, .map (ent1 nm (ptr fi)) 1) :: rowK .u8 j bs fr) := H7
  refine put1_mk H7 3 rfl rfl (by simp) fun σ8 H8 => ?_
  refine c28g (last := 1) H8 (qs := 5) (qm := 6) rfl rfl (by omega) (by omega) (by omega) (find2c x) fun σ9 H9 => tI_mk ?_
  have G := H9.sub (L' := (oi', .row .rw [ptr x, ptr y]) :: (y, streamO (holdV true fi) (ptr fi) 2 0 0 0) :: (fi, fileO j bs (.slice (some ⟨oi', 0, none⟩) 2 1)) :: (x, streamO (holdV false fi) (ptr fi) 2 0 0 0) :: (s, shelfO most 2 f st) :: (st, .map [{ key := i64 1, val := ptr x, born := 0 }, { key := i64 2, val := ptr y, born := 1 }] 2) :: (f, .map (ent1 nm (ptr fi)) 1) :: rowK .u8 j bs fr)
    (.cons_cons _ (.cons _ (.refl _)))
  refine hK σ9 oi' y (G.perm ?_)
  have p1 : ∀ (A B C D : Nat × AObj) (R : List (Nat × AObj)), (C :: A :: D :: B :: R).Perm (A :: B :: C :: D :: R) := by
    intro A B C D R
    refine (List.Perm.swap _ _ _).trans ?_
    refine .cons _ ?_
    refine (List.Perm.cons _ (.swap _ _ _)).trans ?_
    exact .swap _ _ _
  exact p1 _ _ _ _ _)
end
end Go.AI
