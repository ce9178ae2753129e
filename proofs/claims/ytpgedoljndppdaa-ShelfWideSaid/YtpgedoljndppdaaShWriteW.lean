/- Write on a wide file. -/
import Derived.Test.YtpgedoljndppdaaShStreamW
import Derived.Test.YtpgedoljndppdaaShCon2
set_option maxRecDepth 4000
set_option linter.unusedVariables false
set_option linter.unusedSimpArgs false
namespace Go.AI
open Go.Proofs
section
variable {σ : AS} {K : Value → AS → Prop}
theorem fr_at {fi j : Nat} {bs : List Int} {op : Value} {mid fr : List (Nat × AObj)} {q : Nat} {p : Nat × AObj} (h : fr[q]? = some p) : ∃ m : Nat, (fileL fi j bs op mid fr)[m]? = some p := by
  have : p ∈ fileL fi j bs op mid fr := by
    have hm := List.mem_of_getElem? h
    cases bs <;> simp [fileL, hm]
  exact List.getElem?_of_mem this
def wrA (q : List Int × Nat) (ms : List Int) : List Int × Nat := ms.foldl (fun q c => (setA q.1 q.2 c, q.2 + 1)) q
theorem wrA_snoc (q : List Int × Nat) (ms : List Int) (c : Int) : wrA q (ms ++ [c]) = (setA (wrA q ms).1 (wrA q ms).2 c, (wrA q ms).2 + 1) := by simp [wrA, List.foldl_append]
theorem wrA_place : ∀ (ms : List Int) (q : List Int × Nat), (wrA q ms).2 = q.2 + ms.length
  | [], q => rfl
  | c :: ms, q => by
    show (wrA (setA q.1 q.2 c, q.2 + 1) ms).2 = _
    rw [wrA_place ms]; simp; omega
theorem wrA_len : ∀ (ms : List Int) (q : List Int × Nat), q.2 ≤ q.1.length → (wrA q ms).1.length = max q.1.length (q.2 + ms.length)
  | [], q, h => by simp [wrA]; omega
  | c :: ms, q, h => by
    show (wrA (setA q.1 q.2 c, q.2 + 1) ms).1.length = _
    have hl := setA_len (c := c) h
    rw [wrA_len ms _ (by simp only; rw [hl]; omega)]
    simp only [hl, List.length_cons]
    omega
variable {fi oi x s st f cn : Nat} {most last n : Int} {nm : ByteArray} {mode rd wr : Int} {fr : List (Nat × AObj)}
def wrWI (fi oi x s st f : Nat) (most last n : Int) (nm : ByteArray) (mode rd wr : Int) (cn : Nat) (q : List Int × Nat) (ia : Option Addr) (ms : List Int) (fr : List (Nat × AObj)) (i : Nat) (r : Regs) (σ : AS) : Prop :=
  i ≤ ms.length ∧ r = [(2, some (.slice ia ms.length 1)), (7, some (ptr x)), (60, some (.slice ia ms.length 1)), (61, some (i64 ms.length)), (62, some (i64 i))] ∧
    ∃ j, Has σ (oneL fi j (flat4 (wrA q (ms.take i)).1) oi x s st f true most last n nm mode ((wrA q (ms.take i)).2 : Nat) rd wr cn fr)
theorem c14w {j p : Nat} {l ms : List Int} {ia : Option Addr} (H : Has σ (oneL fi j (flat4 l) oi x s st f true most last n nm mode (p : Int) rd wr cn fr)) (hmode : mode ≠ 2) (hin : Inp ia ms fr) (hc : ∀ c ∈ ms, 0 ≤ c ∧ c ≤ 4294967295)
    (hp : p ≤ l.length) (hroom : 4 * (max l.length (p + ms.length) : Nat) ≤ most) (hmost : most ≤ 1048576)
    (hK : ∀ σ' j', Has σ' (oneL fi j' (flat4 (wrA (l, p) ms).1) oi x s st f true most last n nm mode ((wrA (l, p) ms).2 : Nat) rd (IntKind.wrap .u32 (wr + IntKind.wrap .u32 ms.length)) cn fr) → K (i64 0) σ') :
    Tri Try.prog 14 [ptr s, i64 n, .slice ia ms.length 1] σ K := tri_in (by
  rw [s14]
  refine c29 (H.at 3 rfl) (H.at 4 rfl) (findN n x cn) ?_
  have hm2 : (mode != 2) = true := by simpa using hmode
  simp only [tTup_tup, pSome_some, tP_ptr, tI_int, List.getElem?_cons_zero, List.getElem?_cons_succ, bne_self_eq_false, bm_false]
  refine c32 (H.at 2 rfl) ?_
  rw [hm2]
  simp only [tB_bool, Bool.not_true, bm_false]
  have go : ∀ σ0, Has σ0 (oneL fi j (flat4 l) oi x s st f true most last n nm mode (p : Int) rd wr cn fr) → ALoop (fl Try.prog hintsS (Tri Try.prog) 14 [true, true, true, false, true, false] [] K) [(2, some (.slice ia ms.length 1)), (7, some (ptr x)), (60, some (.slice ia ms.length 1)), (61, some (i64 ms.length)), (62, some (i64 0))] σ0 := by
    intro σ0 H0
    refine aloop (wrWI fi oi x s st f most last n nm mode rd wr cn (l, p) ia ms fr) (fun i => ms.length - i) ?_ (a := 0) ⟨Nat.zero_le _, rfl, j, H0⟩
    rintro i r σ1 X hX ⟨hi, rfl, j1, H1⟩
    rw [s14l]
    refine bm_mk (fun h => ?_) (fun h => ?_)
    · have h : i < ms.length := by have := of_decide_eq_true h; omega
      obtain ⟨v, hv⟩ : ∃ v, ms[i]? = some v := ⟨ms[i], by simp [h]⟩
      have hne : ms ≠ [] := fun e => by rw [e] at h; simp at h
      obtain ⟨ri, k, q, rfl, hq⟩ := hin.resolve_left hne
      have hz : szOf Try.prog 32 = 1 := by kernel_rfl
      obtain ⟨m, hm⟩ := fr_at (fi := fi) (j := j1) (bs := flat4 (wrA (l, p) (ms.take i)).1) (op := .slice (some ⟨oi, 0, none⟩) 1 1) (mid := [(oi, .row .rw [ptr x]), (x, streamO (holdV true fi) (ptr fi) mode ((wrA (l, p) (ms.take i)).2 : Nat) rd wr), (s, shelfO most last f st), (st, .map [{ key := i64 n, val := ptr x, born := cn }] (cn + 1)), (f, .map (ent1 nm (ptr fi)) 1)]) hq
      refine req_mk (by omega) (req_mk (by omega) ?_)
      simp only [pSome_some, hz, add_none, Int.toNat_natCast, Nat.mul_one, Nat.zero_add]
      refine ldc_mk H1 m hm (cellsU_get hv) (tI_mk ?_)
      refine ldc_mk H1 2 rfl rfl ?_
      simp only [tIf_if]
      refine ldc_mk H1 2 rfl rfl (tI_mk ?_)
      simp only [meth_put_w, pSome_some]
      obtain ⟨g0, g1⟩ := hc v (List.mem_of_getElem? hv)
      have hst : wrA (l, p) (ms.take (i + 1)) = (setA (wrA (l, p) (ms.take i)).1 (wrA (l, p) (ms.take i)).2 v, (wrA (l, p) (ms.take i)).2 + 1) := by
        rw [List.take_add_one, hv]
        exact wrA_snoc _ _ _
      have hQp : (wrA (l, p) (ms.take i)).2 = p + i := by rw [wrA_place]; simp; omega
      have hQl : (wrA (l, p) (ms.take i)).1.length = max l.length (p + i) := by rw [wrA_len _ _ hp]; simp; omega
      generalize hQ : wrA (l, p) (ms.take i) = Q at H1 hst hQp hQl
      refine c98 (i := Q.2) H1 (by rw [flat4_len]; omega) (by rw [flat4_len]; omega) g0 g1 fun σ2 j2 H2 => ?_
      rw [put4_flat (by omega)] at H2
      refine ldc_mk H2 2 rfl rfl (tI_mk (ldc_mk H2 2 rfl rfl ?_))
      simp only [tIf_if, meth_size_w, pSome_some]
      have hlen : (setA Q.1 Q.2 v).length = max Q.1.length (Q.2 + 1) := setA_len (by omega)
      refine c99 H2 (by rw [flat4_len]; omega) fun σ3 H3 => tI_mk ?_
      refine ldc_mk H3 2 rfl rfl (tI_mk ⟨rfl, ?_⟩)
      refine put1_mk H3 2 rfl rfl (by simp) fun σ4 H4 => ?_
      rw [wrap64 (n := (i : Int) + 1) (by omega) (by omega)]
      refine hX (i + 1) _ _ (by omega) ⟨h, by simp, j2, ?_⟩
      rw [hst]
      have e1 : (flat4 (setA Q.1 Q.2 v)).length / 4 = (setA Q.1 Q.2 v).length := by rw [flat4_len]; omega
      have e : imin (IntKind.wrap .i64 ((Q.2 : Int) + 1)) (((flat4 (setA Q.1 Q.2 v)).length / 4 : Nat) : Int) = ((Q.2 + 1 : Nat) : Int) := by
        rw [e1, wrap64 (by omega) (by omega)]
        unfold imin
        rw [if_neg (by omega)]
        omega
      rw [e] at H4
      exact H4
    · have h : i = ms.length := by have := of_decide_eq_false h; omega
      subst h
      rw [List.take_length] at H1
      refine ldc_mk H1 2 rfl rfl (tI_mk ?_)
      exact put1_mk H1 2 rfl rfl (by simp) fun σ2 H2 => hK σ2 j1 H2
  refine bm_mk (fun hm0 => ?_) (fun _ => go σ H)
  refine ldc_mk H 2 rfl rfl ?_
  simp only [tP_ptr, ptrEq_some, Bool.not_false, bm_true, add_none]
  refine ldc_mk H 2 rfl rfl ?_
  simp only [tIf_if]
  refine ldc_mk H 2 rfl rfl (tI_mk ?_)
  refine ldc_mk H 3 rfl rfl (tI_mk ?_)
  refine c24 (qs := 2) (qf := 4) H rfl rfl (by rw [flat4_len]; omega) fun σ1 H1 => tI_mk ?_
  refine ldc_mk H1 3 rfl rfl (tI_mk ⟨by first | rfl | trivial, by first | rfl | trivial, ?_⟩)
  refine ldc_mk H1 2 rfl rfl (tI_mk ⟨by first | rfl | trivial, ?_⟩)
  refine ldc_mk H1 2 rfl rfl ?_
  simp only [tIf_if, meth_more_w, pSome_some]
  refine ⟨by first | rfl | trivial, ?_⟩
  rw [wrap64 (n := (p : Int) + ms.length) (by omega) (by omega)]
  refine c97 (i := (p : Int) + ms.length) H1 (by rw [flat4_len]; omega) (by omega) (by omega) fun σ2 H2 => tI_mk ?_
  refine ldc_mk H2 3 rfl rfl (tI_mk ⟨by first | rfl | trivial, ?_⟩)
  refine bm_mk (fun hf => ?_) (fun _ => go σ2 H2)
  have hf := of_decide_eq_true hf
  rw [flat4_len, wrap64 (by omega) (by omega)] at hf
  omega)
end
end Go.AI
