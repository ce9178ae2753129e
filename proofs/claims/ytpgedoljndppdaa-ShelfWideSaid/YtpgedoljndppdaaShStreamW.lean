/- A stream on a wide file: tell, read. -/
import Derived.Test.YtpgedoljndppdaaShWide4
set_option maxRecDepth 4000
set_option linter.unusedVariables false
set_option linter.unusedSimpArgs false
namespace Go.AI
open Go.Proofs
section
variable {σ : AS} {K : Value → AS → Prop}
theorem meth_size_w : methodOf Try.prog 83 "grotto/shelf.size" = some 99 := by kernel_rfl
theorem meth_at_w : methodOf Try.prog 83 "grotto/shelf.at" = some 96 := by kernel_rfl
theorem meth_put_w : methodOf Try.prog 83 "grotto/shelf.put" = some 98 := by kernel_rfl
theorem meth_more_w : methodOf Try.prog 83 "grotto/shelf.more" = some 97 := by kernel_rfl
theorem findN (n : Int) (x cn : Nat) : Instr.findNow (.int .i64) (i64 n) [{ key := i64 n, val := ptr x, born := cn }] 0 = some (some (0, ptr x)) := by
  simp [Instr.findNow, Instr.sameNow]
variable {fi j oi x s st f cn : Nat} {l : List Int} {most last n : Int} {nm : ByteArray} {mode place rd wr : Int} {fr : List (Nat × AObj)}
theorem c15w (H : Has σ (oneL fi j (flat4 l) oi x s st f true most last n nm mode place rd wr cn fr)) (hl : l.length ≤ 274877906944)
    (hK : ∀ σ', Has σ' (oneL fi j (flat4 l) oi x s st f true most last n nm mode place rd wr cn fr) → K (.tuple ⟨[i64 place, i64 l.length, i64 0]⟩) σ') : Tri Try.prog 15 [ptr s, i64 n] σ K := tri_in (by
  rw [s15]
  refine c29 (H.at 3 rfl) (H.at 4 rfl) (findN n x cn) ?_
  simp only [tTup_tup, pSome_some, tP_ptr, tI_int, List.getElem?_cons_zero, List.getElem?_cons_succ, bne_self_eq_false, bm_false]
  refine ldc_mk H 2 rfl rfl (tI_mk ?_)
  simp only [add_none]
  refine ldc_mk H 2 rfl rfl ?_
  simp only [tIf_if, meth_size_w, pSome_some]
  refine c99 H (by rw [flat4_len]; omega) fun σ1 H1 => tI_mk ?_
  refine ldc_mk H1 2 rfl rfl (tI_mk ⟨rfl, ?_⟩)
  have e : (flat4 l).length / 4 = l.length := by rw [flat4_len]; omega
  rw [e]
  exact hK σ1 H1)
theorem c16w_end (H : Has σ (oneL fi j (flat4 l) oi x s st f true most last n nm mode place rd wr cn fr)) (hl : l.length ≤ 274877906944) (hmode : mode = 2 ∨ mode = 3) (hp : (l.length : Int) ≤ place)
    (hK : ∀ σ', Has σ' (oneL fi j (flat4 l) oi x s st f true most last n nm mode place rd wr cn fr) → K (.tuple ⟨[u32 0, .bool false, i64 0]⟩) σ') : Tri Try.prog 16 [ptr s, i64 n] σ K := tri_in (by
  rw [s16]
  refine c33 (H.at 3 rfl) (H.at 4 rfl) (findN n x cn) (H.at 2 rfl) hmode ?_
  simp only [tTup_tup, pSome_some, tP_ptr, tI_int, List.getElem?_cons_zero, List.getElem?_cons_succ, bne_self_eq_false, bm_false]
  refine ldc_mk H 2 rfl rfl (tI_mk ?_)
  simp only [add_none]
  refine ldc_mk H 2 rfl rfl ?_
  simp only [tIf_if, meth_size_w, pSome_some]
  refine c99 H (by rw [flat4_len]; omega) fun σ1 H1 => tI_mk ?_
  have e : (flat4 l).length / 4 = l.length := by rw [flat4_len]; omega
  rw [e]
  refine ldc_mk H1 2 rfl rfl (tI_mk ⟨rfl, ?_⟩)
  refine bm_mk (fun _ => hK σ1 H1) (fun h => absurd hp (of_decide_eq_false h)))
theorem c16w_more {p : Nat} {v : Int} (H : Has σ (oneL fi j (flat4 l) oi x s st f true most last n nm mode (p : Int) rd wr cn fr)) (hl : l.length ≤ 274877906944) (hmode : mode = 2 ∨ mode = 3) (hv : l[p]? = some v) (h0 : 0 ≤ v) (h1 : v ≤ 4294967295)
    (hK : ∀ σ', Has σ' (oneL fi j (flat4 l) oi x s st f true most last n nm mode ((p : Int) + 1) (IntKind.wrap .u32 (rd + 1)) wr cn fr) → K (.tuple ⟨[u32 v, .bool true, i64 0]⟩) σ') : Tri Try.prog 16 [ptr s, i64 n] σ K := tri_in (by
  have hp : p < l.length := (List.getElem?_eq_some_iff.1 hv).1
  rw [s16]
  refine c33 (H.at 3 rfl) (H.at 4 rfl) (findN n x cn) (H.at 2 rfl) hmode ?_
  simp only [tTup_tup, pSome_some, tP_ptr, tI_int, List.getElem?_cons_zero, List.getElem?_cons_succ, bne_self_eq_false, bm_false]
  refine ldc_mk H 2 rfl rfl (tI_mk ?_)
  simp only [add_none]
  refine ldc_mk H 2 rfl rfl ?_
  simp only [tIf_if, meth_size_w, pSome_some]
  refine c99 H (by rw [flat4_len]; omega) fun σ1 H1 => tI_mk ?_
  have e : (flat4 l).length / 4 = l.length := by rw [flat4_len]; omega
  rw [e]
  refine ldc_mk H1 2 rfl rfl (tI_mk ⟨rfl, ?_⟩)
  refine bm_mk (fun h => absurd (of_decide_eq_true h) (by omega)) (fun _ => ?_)
  refine ldc_mk H1 2 rfl rfl (tI_mk ?_)
  rw [wrap64 (n := (p : Int) + 1) (by omega) (by omega)]
  refine put1_mk H1 2 rfl rfl (by simp) fun σ2 H2 => ?_
  refine ldc_mk H2 2 rfl rfl (tI_mk ?_)
  refine put1_mk H2 2 rfl rfl (by simp) fun σ3 H3 => ?_
  refine ldc_mk H3 2 rfl rfl ?_
  simp only [tIf_if]
  refine ldc_mk H3 2 rfl rfl (tI_mk ?_)
  simp only [meth_at_w, pSome_some]
  have e2 : IntKind.wrap .i64 ((p : Int) + 1 - 1) = (p : Int) := by rw [wrap64 (by omega) (by omega)]; omega
  rw [e2]
  have H4 : Has σ3 (oneL fi j (flat4 l) oi x s st f true most last n nm mode ((p : Int) + 1) (IntKind.wrap .u32 (rd + 1)) wr cn fr) := H3
  refine c96 (i := p) H4 (by rw [flat4_len]; omega) (by rw [flat4_len]; omega) flat4_byte fun σ4 H5 => ?_
  rw [flat4_at hv h0 h1]
  simp only [tI_int]
  exact hK σ4 H5)

def seekTo (base sz p : Int) : Int := base + max (-base) (min p (sz - base))
theorem seek_eq {base sz p : Int} (h0 : 0 ≤ base) (h1 : base ≤ sz) (h2 : sz ≤ 274877906944) : IntKind.wrap .i64 (base + imax (IntKind.wrap .i64 (0 - base)) (imin p (IntKind.wrap .i64 (sz - base)))) = seekTo base sz p := by
  rw [wrap64 (n := 0 - base) (by omega) (by omega), wrap64 (n := sz - base) (by omega) (by omega)]
  have : base + imax (0 - base) (imin p (sz - base)) = seekTo base sz p := by
    unfold seekTo imax imin
    split <;> split <;> omega
  rw [this]
  unfold seekTo
  exact wrap64 (by omega) (by omega)
theorem c20w {p q base : Int} (H : Has σ (oneL fi j (flat4 l) oi x s st f true most last n nm mode place rd wr cn fr)) (hl : l.length ≤ 274877906944) (hp0 : 0 ≤ place) (hp1 : place ≤ l.length)
    (hq : (q = 0 ∧ base = 0) ∨ (q = 1 ∧ base = place) ∨ (q = 2 ∧ base = l.length))
    (hK : ∀ σ', Has σ' (oneL fi j (flat4 l) oi x s st f true most last n nm mode (seekTo base l.length p) rd wr cn fr) → K (i64 0) σ') : Tri Try.prog 20 [ptr s, i64 n, i64 p, i64 q] σ K := tri_in (by
  rw [s20]
  have e : (flat4 l).length / 4 = l.length := by rw [flat4_len]; omega
  refine c29 (H.at 3 rfl) (H.at 4 rfl) (findN n x cn) ?_
  simp only [tTup_tup, pSome_some, tP_ptr, tI_int, List.getElem?_cons_zero, List.getElem?_cons_succ, bne_self_eq_false, bm_false, add_none]
  rcases hq with ⟨rfl, rfl⟩ | ⟨rfl, rfl⟩ | ⟨rfl, rfl⟩
  · refine bm_mk (fun _ => ?_) (fun h => by simp at h)
    refine ldc_mk H 2 rfl rfl ?_
    simp only [tIf_if, meth_size_w, pSome_some]
    refine c99 H (by rw [flat4_len]; omega) fun σ1 H1 => tI_mk ?_
    rw [e, seek_eq (by omega) (by omega) (by omega)]
    exact put1_mk H1 2 rfl rfl (by simp) fun σ2 H2 => hK σ2 H2
  · refine bm_mk (fun h => by simp at h) (fun _ => bm_mk (fun _ => ?_) (fun h => by simp at h))
    refine ldc_mk H 2 rfl rfl (tI_mk ?_)
    refine ldc_mk H 2 rfl rfl ?_
    simp only [tIf_if, meth_size_w, pSome_some]
    refine c99 H (by rw [flat4_len]; omega) fun σ1 H1 => tI_mk ?_
    rw [e, seek_eq (by omega) (by omega) (by omega)]
    exact put1_mk H1 2 rfl rfl (by simp) fun σ2 H2 => hK σ2 H2
  · refine bm_mk (fun h => by simp at h) (fun _ => bm_mk (fun h => by simp at h) (fun _ => bm_mk (fun _ => ?_) (fun h => by simp at h)))
    refine ldc_mk H 2 rfl rfl ?_
    simp only [tIf_if, meth_size_w, pSome_some]
    refine c99 H (by rw [flat4_len]; omega) fun σ1 H1 => tI_mk ?_
    refine ldc_mk H1 2 rfl rfl ?_
    simp only [tIf_if, meth_size_w, pSome_some]
    refine c99 H1 (by rw [flat4_len]; omega) fun σ2 H2 => tI_mk ?_
    rw [e, seek_eq (by omega) (by omega) (by omega)]
    exact put1_mk H2 2 rfl rfl (by simp) fun σ3 H3 => hK σ3 H3)
theorem c20w_bad {p q : Int} (H : Has σ (oneL fi j (flat4 l) oi x s st f true most last n nm mode place rd wr cn fr)) (hq : q < 0 ∨ 2 < q) (hK : K (i64 1) σ) : Tri Try.prog 20 [ptr s, i64 n, i64 p, i64 q] σ K := tri_in (by
  rw [s20]
  refine c29 (H.at 3 rfl) (H.at 4 rfl) (findN n x cn) ?_
  simp only [tTup_tup, pSome_some, tP_ptr, tI_int, List.getElem?_cons_zero, List.getElem?_cons_succ, bne_self_eq_false, bm_false, add_none]
  have e0 : (q == 0) = false := by simp; omega
  have e1 : (q == 1) = false := by simp; omega
  have e2 : (q == 2) = false := by simp; omega
  simp only [e0, e1, e2, bm_false]
  exact hK)
end
end Go.AI
