/- Lemmas of the abstract condition ahead of code (a part of the library that the claim's proof stands on); they hold with no condition but those that each names. -/
import Derived.Test.YtpgedoljndppdaaShCon
import Derived.Test.YtpgedoljndppdaaShForm2
set_option linter.unusedSimpArgs false
set_option linter.unusedVariables false
set_option maxRecDepth 100000
/- What the shelf's functions do with streams on buffers, from what is known of the state. -/
namespace Go.AI
open Go.Proofs
section
variable {σ : AS} {K : Value → AS → Prop} {k : RK} {xo : AObj} {s x b r st : Nat} {n i c most last place mode : Int}
theorem c32 {on f : Value} {rd wr : Int} (hx : σ x = some (streamO on f mode place rd wr)) (hK : K (.bool (mode != 2)) σ) : Tri Try.prog 32 [ptr x] σ K := tri_in (by
  rw [s32]
  simp [ldc, AS.cell, hx, pSome, tI, chk, ikEq]
  exact hK)
theorem c15 {a f cn j m : Nat} {es : List MapEntry} {h : Value} {rd wr : Int} {w : Bool} {cs : List Value} {fr : List (Nat × AObj)} (H : Has σ (bufL x s st b a most last f es cn h mode place rd wr m w cs fr))
    (hf : Instr.findNow (.int .i64) (i64 n) es 0 = some (some (j, ptr x))) (hK : K (.tuple ⟨[i64 place, i64 m, i64 0]⟩) σ) : Tri Try.prog 15 [ptr s, i64 n] σ K := tri_in (by
  have h0 := H.at 0 rfl
  rw [s15]
  refine c29 (H.at 1 rfl) (H.at 2 rfl) hf ?_
  simp [tTup, pSome, tP, tI, chk, ikEq, bmatch, ldc, AS.cell, h0, add_none, tIf, meth_size_buf]
  refine c105 (H.at 3 rfl) ?_
  simp [tI, chk, ikEq, h0, hK])
theorem meth_put_buf : methodOf Try.prog 87 "grotto/shelf.put" = some 34 := by kernel_rfl
theorem c34_out {a : Option Addr} {m : Nat} {w : Bool} (hb : σ b = some (bufO a m w)) (hc : 0 ≤ c) (h1 : (m : Int) ≤ i) (hK : K (.tuple ⟨[]⟩) σ) : Tri Try.prog 34 [ptr b, i64 i, u32 c] σ K := tri_in (by
  rw [s34]
  have hi : ¬ i < m := by omega
  simp [ldc, AS.cell, hb, pSome, tB]
  cases w with
  | false =>
    simp [bmatch]
    refine c41 hc ?_
    simp [tI, chk, ikEq, hb, tL, nilOr, hi, hK]
  | true => simp [bmatch, hb, tL, chk, nilOr, hi, hK])

/-- One character more. -/
def wr1 (w : Bool) (q : List Int × Nat) (c : Int) : List Int × Nat := if q.2 < q.1.length then (q.1.set q.2 (putC w c), q.2 + 1) else q
theorem wr1_len {w : Bool} {q : List Int × Nat} {c : Int} : (wr1 w q c).1.length = q.1.length := by unfold wr1; split <;> simp
theorem wr1_le {w : Bool} {q : List Int × Nat} {c : Int} (h : q.2 ≤ q.1.length) : (wr1 w q c).2 ≤ (wr1 w q c).1.length := by
  rw [wr1_len]
  unfold wr1
  by_cases hq : q.2 < q.1.length
  · rw [if_pos hq]; exact hq
  · rw [if_neg hq]; exact h
abbrev wrs (w : Bool) (q : List Int × Nat) (ms : List Int) : List Int × Nat := ms.foldl (wr1 w) q
theorem wrs_len {w : Bool} : ∀ (ms : List Int) (q : List Int × Nat), (wrs w q ms).1.length = q.1.length
  | [], q => rfl
  | c :: ms, q => by rw [wrs, List.foldl_cons]; rw [show (List.foldl (wr1 w) (wr1 w q c) ms).1.length = (wr1 w q c).1.length from wrs_len ms _, wr1_len]
theorem wrs_le {w : Bool} : ∀ (ms : List Int) (q : List Int × Nat), q.2 ≤ q.1.length → (wrs w q ms).2 ≤ q.1.length
  | [], q, h => h
  | c :: ms, q, h => by
    have := wrs_le (w := w) ms (wr1 w q c) (wr1_le h)
    rw [wr1_len] at this
    exact this
theorem wrs_eq {w : Bool} : ∀ (ms A B : List Int), wrs w (A ++ B, A.length) ms = (A ++ (ms.take B.length).map (putC w) ++ B.drop ms.length, A.length + min B.length ms.length)
  | [], A, B => by simp
  | c :: ms, A, [] => by
    have : wr1 w (A ++ [], A.length) c = (A ++ [], A.length) := by simp [wr1]
    rw [wrs, List.foldl_cons, this]
    have := wrs_eq (w := w) ms A []
    rw [wrs] at this
    rw [this]
    simp
  | c :: ms, A, d :: B => by
    have : wr1 w (A ++ d :: B, A.length) c = ((A ++ [putC w c]) ++ B, (A ++ [putC w c]).length) := by
      simp [wr1]
    rw [wrs, List.foldl_cons, this]
    have := wrs_eq (w := w) ms (A ++ [putC w c]) B
    rw [wrs] at this
    rw [this]
    simp
    omega

def wrI (x s st b a : Nat) (mo last : Int) (f : Nat) (es : List MapEntry) (cn : Nat) (h : Value) (mode : Int) (rd wr : Int) (w : Bool) (q : List Int × Nat) (ia : Option Addr) (ms : List Int) (fr : List (Nat × AObj)) (i : Nat) (r : Regs) (σ : AS) : Prop :=
  i ≤ ms.length ∧ r = [(2, some (.slice ia ms.length 1)), (7, some (ptr x)), (60, some (.slice ia ms.length 1)), (61, some (i64 ms.length)), (62, some (i64 i))] ∧
    Has σ (bufL x s st b a mo last f es cn h mode ((wrs w q (ms.take i)).2 : Nat) rd wr q.1.length w (cellsU (wrs w q (ms.take i)).1) fr)

theorem c14 {a f cn j p : Nat} {es : List MapEntry} {rd wr : Int} {w : Bool} {l ms : List Int} {fr : List (Nat × AObj)} {mo : Int} {ia : Option Addr}
    (H : Has σ (bufL x s st b a mo last f es cn (.pointer none) mode (p : Int) rd wr l.length w (cellsU l) fr)) (hf : Instr.findNow (.int .i64) (i64 n) es 0 = some (some (j, ptr x))) (hmode : mode ≠ 2) (hin : Inp ia ms fr) (hc : ∀ c ∈ ms, 0 ≤ c ∧ c ≤ 4294967295)
    (hl : l.length ≤ 1099511627776) (hml : ms.length ≤ 1099511627776) (hp : p ≤ l.length)
    (hK : ∀ σ', Has σ' (bufL x s st b a mo last f es cn (.pointer none) mode ((wrs w (l, p) ms).2 : Nat) rd (IntKind.wrap .u32 (wr + IntKind.wrap .u32 ms.length)) l.length w (cellsU (wrs w (l, p) ms).1) fr) → K (i64 0) σ') :
    Tri Try.prog 14 [ptr s, i64 n, .slice ia ms.length 1] σ K := tri_in (by
  rw [s14]
  refine c29 (H.at 1 rfl) (H.at 2 rfl) hf ?_
  have hm2 : (mode != 2) = true := by simpa using hmode
  simp only [tTup, pSome, tP, tI, chk, ikEq, List.getElem?_cons_zero, List.getElem?_cons_succ, bne_self_eq_false, bmatch]
  refine c32 (H.at 0 rfl) ?_
  rw [hm2]
  simp only [tB, Bool.not_true]
  have go : ALoop (fl Try.prog hintsS (Tri Try.prog) 14 [true, true, true, false, true, false] [] K) [(2, some (.slice ia ms.length 1)), (7, some (ptr x)), (60, some (.slice ia ms.length 1)), (61, some (i64 ms.length)), (62, some (i64 0))] σ := by
    refine aloop (wrI x s st b a mo last f es cn (.pointer none) mode rd wr w (l, p) ia ms fr) (fun i => ms.length - i) ?_ (a := 0) ⟨Nat.zero_le _, rfl, H⟩
    rintro i r σ1 X hX ⟨hi, rfl, H1⟩
    rw [s14l]
    refine bm_mk (fun h => ?_) (fun h => ?_)
    · have h : i < ms.length := by have := of_decide_eq_true h; omega
      obtain ⟨v, hv⟩ : ∃ v, ms[i]? = some v := ⟨ms[i], by simp [h]⟩
      have hne : ms ≠ [] := fun e => by rw [e] at h; simp at h
      obtain ⟨ri, k, q, rfl, hq⟩ := hin.resolve_left hne
      have hz : szOf Try.prog 32 = 1 := by kernel_rfl
      refine req_mk (by omega) (req_mk (by omega) ?_)
      simp only [pSome, hz, add_none, Int.toNat_natCast, Nat.mul_one, Nat.zero_add]
      refine ldc_mk H1 (q + 5) (by simpa using hq) (cellsU_get hv) (tI_mk ?_)
      refine ldc_mk H1 0 rfl rfl ?_
      simp only [tIf]
      refine ldc_mk H1 0 rfl rfl (tI_mk ?_)
      simp only [meth_put_buf]
      obtain ⟨g0, g1⟩ := hc v (List.mem_of_getElem? hv)
      have hst : wrs w (l, p) (ms.take (i + 1)) = wr1 w (wrs w (l, p) (ms.take i)) v := by
        rw [List.take_add_one, hv]
        simp [wrs, List.foldl_append]
      generalize hQ : wrs w (l, p) (ms.take i) = Q at H1 hst
      have hQl : Q.1.length = l.length := by rw [← hQ, wrs_len]
      have hQp : Q.2 ≤ l.length := by rw [← hQ]; exact wrs_le _ _ hp
      have nxt : ∀ σ2, Has σ2 (bufL x s st b a mo last f es cn (.pointer none) mode (Q.2 : Nat) rd wr l.length w (cellsU (wr1 w Q v).1) fr) →
          ldc σ2 ⟨x, 3, none⟩ fun v11 => tI .i64 v11 fun n12 => ldc σ2 ⟨x, 0, none⟩ fun v13 => tIf v13 (fun t14 u15 => pSome (methodOf Try.prog t14 "grotto/shelf.size") fun f16 => Tri Try.prog f16 [u15] σ2 fun v17 σ18 => tI .i64 v17 fun n19 =>
            ldc σ18 ⟨x, 3, none⟩ fun v20 => tI .i64 v20 fun n21 => Value.int .i64 n12 = Value.int .i64 n21 ∧ put1 σ18 ⟨x, 3, none⟩ (.int .i64 (imin (IntKind.wrap .i64 (n12 + 1)) n19)) fun σ22 => X
              [(2, some (.slice (some ⟨ri, 0, none⟩) ms.length 1)), (7, some (ptr x)), (60, some (.slice (some ⟨ri, 0, none⟩) ms.length 1)), (61, some (i64 ms.length)), (62, some (.int .i64 (IntKind.wrap .i64 ((i : Int) + 1))))] σ22) False := by
        intro σ2 H2
        refine ldc_mk H2 0 rfl rfl (tI_mk (ldc_mk H2 0 rfl rfl ?_))
        simp only [tIf, meth_size_buf, pSome]
        refine c105 (H2.at 3 rfl) (tI_mk (ldc_mk H2 0 rfl rfl (tI_mk ⟨rfl, ?_⟩)))
        refine put1_mk H2 0 rfl rfl (by simp) fun σ3 H3 => ?_
        rw [wrap64 (n := (i : Int) + 1) (by omega) (by omega)]
        refine hX (i + 1) _ _ (by omega) ⟨h, by simp, ?_⟩
        rw [hst]
        have e : imin (IntKind.wrap .i64 ((Q.2 : Int) + 1)) l.length = ((wr1 w Q v).2 : Nat) := by
          rw [wrap64 (by omega) (by omega)]
          unfold imin wr1
          by_cases hlt : Q.2 < Q.1.length
          · rw [if_pos hlt, if_neg (by omega)]; simp
          · rw [if_neg hlt, if_pos (by omega)]; omega
        rw [e] at H3
        exact H3
      by_cases hlt : Q.2 < l.length
      · refine c34 (m := l.length) H1 3 4 rfl rfl g0 g1 (by omega) (by omega) (by simp [hQl]) fun σ2 H2 => ?_
        refine nxt σ2 ?_
        have e : (cellsU Q.1).set Q.2 (u32 (putC w v)) = cellsU (wr1 w Q v).1 := by
          unfold wr1
          rw [if_pos (by omega)]
          simp [List.map_set]
        rw [Int.toNat_natCast, e] at H2
        exact H2
      · refine c34_out (m := l.length) (H1.at 3 rfl) g0 (by omega) (nxt σ1 ?_)
        have e : (wr1 w Q v).1 = Q.1 := by unfold wr1; rw [if_neg (by omega)]
        rw [e]
        exact H1
    · have h : i = ms.length := by have := of_decide_eq_false h; omega
      subst h
      rw [List.take_length] at H1
      refine ldc_mk H1 0 rfl rfl (tI_mk ?_)
      refine put1_mk H1 0 rfl rfl (by simp) fun σ2 H2 => hK σ2 ?_
      exact H2
  refine bm_mk (fun _ => ?_) (fun _ => go)
  refine ldc_mk H 0 rfl rfl ?_
  simp only [tP, ptrEq, Option.isNone, Bool.not_true]
  exact go)

theorem c13 {a f cn j m : Nat} {es : List MapEntry} {h : Value} {rd wr : Int} {w : Bool} {cs : List Value} {fr : List (Nat × AObj)} (H : Has σ (bufL x s st b a most last f es cn h mode place rd wr m w cs fr))
    (hf : Instr.findNow (.int .i64) (i64 n) es 0 = some (some (j, ptr x)))
    (hK : ∀ σ' y, Has σ' ((y, .row .plain [ptr x]) :: bufL x s st b a most last f (es.eraseIdx j) cn h mode place rd wr m w cs fr) → K (.tuple ⟨[u32 rd, u32 wr, .slice (some ⟨a, 0, none⟩) m 1, i64 0]⟩) σ') : Tri Try.prog 13 [ptr s, i64 n] σ K := tri_in (by
  rw [s13]
  refine c29 (H.at 1 rfl) (H.at 2 rfl) hf ?_
  simp only [tTup, pSome, tP, tI, chk, ikEq, List.getElem?_cons_zero, List.getElem?_cons_succ, bne_self_eq_false, bmatch]
  refine newAt_mk H fun y σ1 H1 => ?_
  refine put1_mk H1 0 rfl rfl (by simp) fun σ2 H2 => ?_
  refine ldc_mk H2 2 rfl rfl ?_
  simp only [tM]
  refine mdel_mk H2 3 rfl hf fun σ3 H3 => ?_
  refine ldc_mk H3 0 rfl rfl ?_
  simp only [tP, add_none]
  refine ldc_mk H3 1 rfl rfl ?_
  simp only [tIf, tyAs, Nat.beq, Option.getD, tP, Option.isSome]
  refine ldc_mk H3 0 rfl rfl ?_
  simp only [tP]
  refine ldc_mk H3 1 rfl rfl ?_
  simp only []
  refine ldc_mk H3 0 rfl rfl ?_
  simp only [tP]
  refine ldc_mk H3 1 rfl rfl ?_
  simp only []
  refine ldc_mk H3 4 rfl rfl (tL_mk ?_)
  exact hK σ3 y H3)
theorem c13none {f : Nat} {es : List MapEntry} {cn : Nat} {L : List (Nat × AObj)} (H : Has σ L) (qs qm : Nat) (es' : L[qs]? = some (s, shelfO most last f st)) (em : L[qm]? = some (st, .map es cn)) (hf : Instr.findNow (.int .i64) (i64 n) es 0 = some none)
    (hK : ∀ σ' y, Has σ' ((y, .row .plain [.pointer none]) :: L) → K (.tuple ⟨[u32 0, u32 0, .slice none 0 0, i64 5]⟩) σ') : Tri Try.prog 13 [ptr s, i64 n] σ K := tri_in (by
  rw [s13]
  refine c29none (H.at qs es') (H.at qm em) hf ?_
  simp only [tTup, pSome, tP, tI, chk, ikEq, List.getElem?_cons_zero, List.getElem?_cons_succ]
  refine newAt_mk H fun y σ1 H1 => ?_
  refine put1_mk H1 0 rfl rfl (by simp) fun σ2 H2 => ?_
  refine bm_mk (fun _ => hK σ2 y H2) (fun h => by simp at h))

/-- One number more behind a row of numbers. -/
theorem push_mk {L : List (Nat × AObj)} {j : Nat} {ys : List Int} {v : Int} {cA : Option Addr} {ce : Nat} {G : Sl → AS → Prop} (H : Has σ (rowL j ys L)) (hsl : slL j ys = .slice cA ys.length ce ∨ slL j ys = .slice cA ys.length ce) (hno : nilOr cA ce 1 = true) (hb : ys.length ≤ 1099511627776)
    (hG : ∀ j' σ', Has σ' (rowL j' (ys ++ [v]) L) → G ⟨some ⟨j', 0, none⟩, ys.length + 1⟩ σ') :
    newAt σ (.row .rw [u32 v]) fun i σ1 => chk (nilOr cA ce (szOf Try.prog 32)) (lds σ1 ⟨i, 0, none⟩ 1 fun l => appendTo σ1 1 4 ⟨cA, ys.length⟩ l 1 G) := by
  have hz : szOf Try.prog 32 = 1 := by kernel_rfl
  have hsl := hsl.elim id id
  refine newAt_mk H fun i σ1 H1 => ?_
  rw [hz, hno]
  refine lds_mk H1 0 rfl (by simp) ?_
  cases ys with
  | nil =>
    obtain ⟨rfl, rfl⟩ : cA = none ∧ ce = 0 := by injection hsl with h1 h2 h3; exact ⟨h1.symm, h3.symm⟩
    refine append_nil_mk H1 (by omega) fun j' σ2 H2 => hG j' σ2 ?_
    exact H2.sub (.cons_cons _ (.cons _ (.refl _)))
  | cons c t =>
    obtain ⟨rfl, rfl⟩ : cA = some ⟨j, 0, none⟩ ∧ ce = 1 := by injection hsl with h1 h2 h3; exact ⟨h1.symm, h3.symm⟩
    refine append_mk H1 1 rfl rfl (by simp at *; omega) (by simp) fun j' σ2 H2 => hG j' σ2 ?_
    have H3 := H2.sub (.cons_cons _ (.cons _ (.refl _)))
    have et : (cellsU (c :: t)).take ((c :: t).length * 1) = cellsU (c :: t) := by rw [Nat.mul_one]; exact List.take_of_length_le (by simp)
    rw [et] at H3
    simpa [rowL, cellsU] using H3
end
end Go.AI
