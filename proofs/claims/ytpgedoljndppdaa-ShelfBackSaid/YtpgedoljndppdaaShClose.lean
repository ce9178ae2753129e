/- A file's only stream is closed. -/
import Derived.Test.YtpgedoljndppdaaShGen2
import Derived.Test.YtpgedoljndppdaaShForm6
set_option maxRecDepth 4000
set_option linter.unusedVariables false
set_option linter.unusedSimpArgs false
namespace Go.AI
open Go.Proofs
section
variable {σ : AS} {K : Value → AS → Prop}
theorem c31 {L : List (Nat × AObj)} {i8 x q : Nat} (H : Has σ L) (e : L[q]? = some (i8, .row .plain [ptr x])) (hK : K (.bool true) σ) : Tri Try.prog 31 [ptr x, ptr i8] σ K := tri_in (by
  rw [s31]
  refine ldc_mk H q e rfl ?_
  simp only [tP_ptr, ptrEq, if_true, decide_true]
  exact hK)
abbrev fnC (i8 : Nat) : Value := .func (.func 31) ⟨[]⟩ ⟨[ptr i8]⟩
theorem c39 {L : List (Nat × AObj)} {i8 x oi q qo : Nat} (H : Has σ L) (e : L[q]? = some (i8, .row .plain [ptr x])) (eo : L[qo]? = some (oi, .row .rw [ptr x])) (hK : K (i64 0) σ) : Tri Try.prog 39 [.slice (some ⟨oi, 0, none⟩) 1 1, fnC i8] σ K := tri_in (by
  rw [s39]
  intro X hX
  refine hX _ _ ?_
  rw [s39l]
  refine bm_mk (fun _ => ?_) (fun h => by simp at h)
  have hz : szOf Try.prog 76 = 1 := by kernel_rfl
  refine req_mk (by omega) (req_mk (by omega) ?_)
  simp only [pSome_some, hz, add_none, Int.toNat_zero, Nat.zero_mul, Nat.add_zero]
  refine ldc_mk H qo eo rfl ?_
  simp only [tP_ptr]
  refine c31 H e ?_
  simp only [tB_bool, bm_true]
  exact hK)
theorem c30 {L : List (Nat × AObj)} {i8 x oi q qo : Nat} (H : Has σ L) (e : L[q]? = some (i8, .row .plain [ptr x])) (eo : L[qo]? = some (oi, .row .rw [ptr x]))
    (hK : ∀ σ', Has σ' (L.set qo (oi, .row .rw [.pointer none])) → K (.slice (some ⟨oi, 0, none⟩) 0 1) σ') : Tri Try.prog 30 [.slice (some ⟨oi, 0, none⟩) 1 1, fnC i8] σ K := tri_in (by
  rw [s30]
  refine c39 H e eo ?_
  have hz : szOf Try.prog 76 = 1 := by kernel_rfl
  have e0 : ((0 : Int) == -1) = false := by decide
  simp only [tI_int, e0, bm_false]
  intro X hX
  refine hX _ _ ?_
  rw [wrap64 (by omega) (by omega), s30l]
  refine bm_mk (fun h => by simp at h) (fun _ => ?_)
  refine req_mk (by omega) (req_mk (by omega) (req_mk (by omega) ?_))
  have e1 : (((1 : Nat) : Int) - 0).toNat = 1 := rfl
  simp only [clearTo, Option.map, add_none, hz, Int.toNat_zero, Nat.zero_mul, Nat.add_zero, e1, pSome_some]
  refine puts_mk H qo eo rfl (by simp) fun σ1 H1 => ?_
  refine req_mk (by omega) (req_mk (by omega) ?_)
  exact hK σ1 H1)
variable {fi j oi x s st f cn : Nat} {bs : List Int} {most last n : Int} {nm : ByteArray} {mode place rd wr : Int} {fr : List (Nat × AObj)} {w : Bool}
theorem tyAs_g (w : Bool) (u : Value) (G : Option Value → Prop) : tyAs (.iface (tyW w) u) 87 G = G none := by cases w <;> rfl
theorem c13f (H : Has σ (oneL fi j bs oi x s st f w most last n nm mode place rd wr cn fr))
    (hK : ∀ σ', Has σ' (oneZ fi j bs oi s st f most last nm (cn + 1) fr) → K (.tuple ⟨[u32 rd, u32 wr, .slice none 0 0, i64 0]⟩) σ') : Tri Try.prog 13 [ptr s, i64 n] σ K := tri_in (by
  rw [s13]
  refine c29 (H.at 3 rfl) (H.at 4 rfl) (findN n x cn) ?_
  simp only [tTup_tup, pSome_some, tP_ptr, tI_int, List.getElem?_cons_zero, List.getElem?_cons_succ]
  refine newAt_mk H fun i8 σ1 H1 => ?_
  refine put1_mk H1 0 rfl rfl (by simp) fun σ2 H2 => ?_
  simp only [bne_self_eq_false, bm_false]
  refine ldc_mk H2 4 rfl rfl ?_
  simp only [tM_map, pSome_some]
  refine mdel_mk H2 5 rfl (findN n x cn) fun σ3 H3 => ?_
  refine ldc_mk H3 0 rfl rfl ?_
  simp only [tP_ptr, pSome_some, add_none]
  refine ldc_mk H3 3 rfl rfl ?_
  simp only [holdV_eq, tIf_if, tyAs_g, Option.getD, tP_ptr, Option.isSome, bm_false]
  refine ldc_mk H3 0 rfl rfl ?_
  simp only [tP_ptr, pSome_some]
  refine ldc_mk H3 3 rfl rfl ?_
  simp only [tP_ptr, pSome_some]
  refine ldc_mk H3 0 rfl rfl ?_
  simp only [tP_ptr, pSome_some]
  refine ldc_mk H3 3 rfl rfl ?_
  simp only [tP_ptr, pSome_some]
  refine ldc_mk H3 1 rfl rfl (tL_mk ?_)
  refine c30 (q := 0) (qo := 2) H3 rfl rfl fun σ4 H4 => tL_mk ?_
  refine ldc_mk H4 3 rfl rfl ?_
  simp only [tP_ptr]
  refine ⟨by first | rfl | trivial, ?_⟩
  refine ldc_mk H4 0 rfl rfl ?_
  simp only [tP_ptr]
  refine ⟨by first | rfl | trivial, ?_⟩
  refine put1_mk H4 1 rfl rfl (by simp) fun σ5 H5 => ?_
  refine ldc_mk H5 0 rfl rfl ?_
  simp only [tP_ptr, pSome_some]
  refine ldc_mk H5 3 rfl rfl (tI_mk ?_)
  refine ldc_mk H5 0 rfl rfl ?_
  simp only [tP_ptr, pSome_some]
  refine ldc_mk H5 3 rfl rfl (tI_mk ?_)
  refine hK σ5 (H5.sub ?_)
  exact .cons _ (.cons_cons _ (.cons_cons _ (.cons _ (.cons_cons _ (.cons_cons _ (.cons_cons _ (.refl _))))))))
end
end Go.AI
