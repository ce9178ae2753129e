/- ShelfBuffers: the law's function tells true, from what its callees do. -/
import Derived.Test.YtpgedoljndppdaaShLines
import Derived.Test.YtpgedoljndppdaaShCon2
set_option maxRecDepth 4000
set_option linter.unusedVariables false
set_option linter.unusedSimpArgs false
namespace Go.AI
open Go.Proofs
section
variable {σ : AS}
theorem rowL_sub {j : Nat} {ys : List Int} {L : List (Nat × AObj)} (H : Has σ (rowL j ys L)) : Has σ L := by
  cases ys with
  | nil => exact H
  | cons c t => exact H.sub (.cons _ (.refl _))
theorem rowL_tail {j : Nat} {ys : List Int} {c1 c2 c3 c4 c5 : Nat × AObj} {fr : List (Nat × AObj)} (H : Has σ (rowL j ys (c1 :: c2 :: c3 :: c4 :: c5 :: fr))) : Has σ (c1 :: c2 :: c3 :: c4 :: c5 :: rowL j ys fr) := by
  cases ys with
  | nil => exact H
  | cons c t => exact H.mv5
/-- What a buffer holds behind all. -/
def outW (w : Bool) (l ms : List Int) : List Int := ((ms.take l.length) ++ l.drop ms.length).map (putC w)
theorem outW_len {w : Bool} {l ms : List Int} : (outW w l ms).length = l.length := by simp [outW]; omega
theorem outW_more {w : Bool} {l ms : List Int} {i : Nat} {u : Int} (h : i < l.length) (hu : ms[i]? = some u) : (outW w l ms)[i]? = some (putC w u) := by
  have hi : i < ms.length := (List.getElem?_eq_some_iff.1 hu).1
  unfold outW
  rw [List.getElem?_map, List.getElem?_append_left (by simp; omega), List.getElem?_take, if_pos h, hu]
  rfl
theorem outW_old {w : Bool} {l ms : List Int} {i : Nat} {v : Int} (hv : l[i]? = some v) (h : ms.length ≤ i) : (outW w l ms)[i]? = some (putC w v) := by
  have hi : i < l.length := (List.getElem?_eq_some_iff.1 hv).1
  unfold outW
  rw [List.getElem?_map, List.getElem?_append_right (by simp; omega), List.getElem?_drop]
  have : ms.length + (i - (ms.take l.length).length) = i := by simp; omega
  rw [this, hv]
  rfl
theorem wrs_outW {w : Bool} {l ms : List Int} : wrs w (l.map (putC w), 0) ms = (outW w l ms, min l.length ms.length) := by
  have := wrs_eq (w := w) ms [] (l.map (putC w))
  simp at this
  show wrs w (l.map (putC w), 0) ms = _
  rw [show wrs w (l.map (putC w), 0) ms = _ from this]
  simp [outW]

abbrev regs4 (a : Option Addr) (m : Nat) (b : Option Addr) (k s : Nat) (w : Bool) (place : Nat) (c : Value) (i : Nat) : Regs :=
  [(0, some (.slice a m 1)), (1, some (.slice b k 1)), (2, some (.bool w)), (7, some (ptr s)), (9, some (i64 1)), (11, some (i64 place)), (12, some (i64 m)), (14, some c), (15, some (i64 i))]
def bufsI (x s st b b1 f : Nat) (ia ib : Option Addr) (l ms : List Int) (w : Bool) (wr : Int) (fr : List (Nat × AObj)) (i : Nat) (r : Regs) (σ : AS) : Prop :=
  i ≤ l.length ∧ ∃ j, r = regs4 ia l.length ib ms.length s w (min l.length ms.length) (slL j ((outW w l ms).take i)) i ∧
    Has σ (rowL j ((outW w l ms).take i) (bufL x s st b b1 0 1 f (es1 x) 1 (.pointer none) 3 ((min l.length ms.length : Nat) : Int) 0 wr l.length w (cellsU (outW w l ms)) fr))

theorem buffers_law {a b : Option Addr} {l ms : List Int} {fr : List (Nat × AObj)} {w : Bool} (H : Has σ fr) (hin : Inp a l fr) (hin2 : Inp b ms fr) (hc : ∀ c ∈ l, 0 ≤ c ∧ c ≤ 4294967295) (hc2 : ∀ c ∈ ms, 0 ≤ c ∧ c ≤ 4294967295) :
    Tri Try.prog 4 [.slice a l.length 1, .slice b ms.length 1, .bool w] σ RK1 := tri_in (by
  rw [s4]
  refine bm_mk (fun h => c11 (by simp [tB])) (fun h => ?_)
  refine bm_mk (fun h => c11 (by simp [tB])) (fun h2 => ?_)
  have hl : l.length ≤ 4096 := by have := of_decide_eq_false h; omega
  have hml : ms.length ≤ 4096 := by have := of_decide_eq_false h2; omega
  refine c9 H (by omega) (by omega) fun σ1 s f st H1 => ?_
  simp only [tTup_tup, pSome_some, tP_ptr, tI_int, bm_true, bm_false, List.getElem?_cons_zero, List.getElem?_cons_succ]
  refine c10 ?_
  simp only [tI_int, bne_self_eq_false, bm_true, bm_false, ptrEq_some]
  refine c17 (mode := 3) H1 (hin.cons (f, .map [] 0)) hc hl (by omega) (by omega) (by simp) (by omega) (by omega) rfl fun σ2 x b0 b1 H2 => ?_
  simp only [tTup_tup, pSome_some, tI_int, List.getElem?_cons_zero, List.getElem?_cons_succ]
  refine c10 ?_
  simp only [tI_int, bne_self_eq_false, bm_true, bm_false]
  have hlm : (l.map (putC w)).length = l.length := by simp
  have H2' : Has σ2 (bufL x s st b0 b1 0 1 f (es1 x) 1 (.pointer none) 3 ((0 : Nat) : Int) 0 0 (l.map (putC w)).length w (cellsU (l.map (putC w))) ((f, .map [] 0) :: fr)) := by rw [hlm]; exact H2
  refine c14 H2' (find1 x) (by omega) (hin2.cons (f, .map [] 0)) hc2 (by omega) (by omega) (by omega) fun σ3 H3 => ?_
  rw [wrs_outW, hlm] at H3
  have hwr : IntKind.wrap .u32 (0 + IntKind.wrap .u32 (ms.length : Int)) = (ms.length : Int) := by
    rw [Go.IntWalk.u32_in (ms.length : Int) (by omega), Int.zero_add, Go.IntWalk.u32_in _ (by omega)]
  rw [hwr] at H3
  simp only [tI_int]
  refine c10 ?_
  simp only [tI_int, bne_self_eq_false, bm_true, bm_false]
  refine c15 H3 (find1 x) ?_
  simp only [tTup_tup, pSome_some, tI_int, List.getElem?_cons_zero, List.getElem?_cons_succ]
  generalize hW : outW w l ms = W at H3
  have hWl : W.length = l.length := by rw [← hW, outW_len]
  refine aloop (bufsI x s st b0 b1 f a b l ms w ms.length ((f, .map [] 0) :: fr)) (fun i => l.length - i) ?_ (a := 0) ⟨Nat.zero_le _, 0, rfl, by rw [hW]; exact H3⟩
  rintro i r σ4 X hX ⟨hi, j, rfl, H4⟩
  rw [hW] at H4
  obtain ⟨cA, ce, hsl, hno⟩ : ∃ cA ce, slL j (W.take i) = .slice cA (W.take i).length ce ∧ nilOr cA ce 1 = true := by
    cases W.take i with
    | nil => exact ⟨none, 0, rfl, rfl⟩
    | cons c t => exact ⟨_, 1, rfl, rfl⟩
  show fl Try.prog hintsS (Tri Try.prog) 4 _ [] RK1 X (regs4 a l.length b ms.length s w (min l.length ms.length) (slL j ((outW w l ms).take i)) i) σ4
  rw [hW, hsl]
  have hlen : (W.take i).length = i := by simp; omega
  rw [hlen] at hsl ⊢
  rw [s4l]
  have hz : szOf Try.prog 32 = 1 := by kernel_rfl
  have HS := rowL_sub H4
  refine bm_mk (fun h => ?_) (fun h => ?_)
  · have h : i < l.length := by have := of_decide_eq_true h; omega
    obtain ⟨v, hv⟩ : ∃ v, l[i]? = some v := ⟨l[i], by simp [h]⟩
    have hne : l ≠ [] := fun e => by rw [e] at h; simp at h
    obtain ⟨ri, k, q, rfl, hq⟩ := (hin.cons (f, .map [] 0)).resolve_left hne
    refine req_mk (by omega) (req_mk (by omega) ?_)
    simp only [pSome_some, hz, add_none, Int.toNat_natCast, Nat.mul_one, Nat.zero_add]
    refine ldc_mk HS (q + 5) (by simpa using hq) (cellsU_get hv) (tI_mk ?_)
    rw [wrap64 (n := (i : Int) + 1) (by omega) (by omega)]
    -- the next round
    have nxt : ∀ (u : Int), W[i]? = some u → ∀ j' σ', Has σ' (rowL j' (W.take i ++ [u]) (bufL x s st b0 b1 0 1 f (es1 x) 1 (.pointer none) 3 ((min l.length ms.length : Nat) : Int) 0 ms.length l.length w (cellsU W) ((f, .map [] 0) :: fr))) →
        X [(0, some (.slice (some ⟨ri, 0, none⟩) l.length 1)), (1, some (.slice b ms.length 1)), (2, some (.bool w)), (7, some (ptr s)), (9, some (i64 1)), (11, some (i64 (min l.length ms.length : Nat))), (12, some (i64 l.length)), (14, some (.slice (some ⟨j', 0, none⟩) (i + 1) 1)), (15, some (.int .i64 ((i : Int) + 1)))] σ' := by
      intro u hu j' σ' H'
      have et : W.take i ++ [u] = W.take (i + 1) := by rw [List.take_add_one, hu]; rfl
      refine hX (i + 1) _ _ (by omega) ⟨by omega, j', ?_, by rw [hW, ← et]; exact H'⟩
      have es : slL j' ((outW w l ms).take (i + 1)) = .slice (some ⟨j', 0, none⟩) (i + 1) 1 := by
        rw [hW, ← et]
        have : (W.take i ++ [u]).length = i + 1 := by simp [hlen]
        cases hq : W.take i ++ [u] with
        | nil => rw [hq] at this; simp at this
        | cons c t => simp only [slL]; rw [hq] at this; rw [this]
      rw [es]
      simp [regs4]
    have push : ∀ (u : Int), W[i]? = some u → newAt σ4 (.row .rw [u32 u]) fun i1 σ5 => chk (nilOr cA ce (szOf Try.prog 32)) (lds σ5 ⟨i1, 0, none⟩ 1 fun l5 => appendTo σ5 1 4 ⟨cA, i⟩ l5 1 fun s6 σ6 =>
        X [(0, some (.slice (some ⟨ri, 0, none⟩) l.length 1)), (1, some (.slice b ms.length 1)), (2, some (.bool w)), (7, some (ptr s)), (9, some (i64 1)), (11, some (i64 (min l.length ms.length : Nat))), (12, some (i64 l.length)), (14, some (.slice s6.a s6.n 1)), (15, some (.int .i64 ((i : Int) + 1)))] σ6) := by
      intro u hu
      have := push_mk (v := u) (cA := cA) (ce := ce) (G := fun s6 σ6 => X [(0, some (.slice (some ⟨ri, 0, none⟩) l.length 1)), (1, some (.slice b ms.length 1)), (2, some (.bool w)), (7, some (ptr s)), (9, some (i64 1)), (11, some (i64 (min l.length ms.length : Nat))), (12, some (i64 l.length)), (14, some (.slice s6.a s6.n 1)), (15, some (.int .i64 ((i : Int) + 1)))] σ6) H4 (.inl (by rw [hlen]; exact hsl)) hno (by omega) (fun j' σ' H' => by
          rw [hlen]
          exact nxt u hu j' σ' H')
      rw [hlen] at this
      exact this
    rw [hz] at push
    refine bm_mk (fun h1 => ?_) (fun h1 => ?_)
    · have h1 : i < ms.length := by have := of_decide_eq_true h1; omega
      obtain ⟨u, hu⟩ : ∃ u, ms[i]? = some u := ⟨ms[i], by simp [h1]⟩
      have hne2 : ms ≠ [] := fun e => by rw [e] at h1; simp at h1
      obtain ⟨ri2, k2, q2, rfl, hq2⟩ := (hin2.cons (f, .map [] 0)).resolve_left hne2
      have hWi : W[i]? = some (putC w u) := by rw [← hW]; exact outW_more h hu
      refine req_mk (by omega) (req_mk (by omega) ?_)
      simp only [pSome_some, hz, add_none, Int.toNat_natCast, Nat.mul_one, Nat.zero_add]
      refine ldc_mk HS (q2 + 5) (by simpa using hq2) (cellsU_get hu) (tI_mk ?_)
      cases w with
      | false =>
        simp only [putC, Bool.false_eq_true, if_false] at hWi
        simp only [Bool.not_false]
        refine bm_mk (fun _ => bm_mk (fun h3 => ?_) (fun h3 => ?_)) (fun h3 => by simp at h3)
        · rw [if_pos (of_decide_eq_true h3)] at hWi
          exact push _ hWi
        · rw [if_neg (of_decide_eq_false h3)] at hWi
          exact push _ hWi
      | true =>
        simp only [putC, if_true] at hWi
        simp only [Bool.not_true]
        exact bm_mk (fun h3 => by simp at h3) (fun _ => push _ hWi)
    · have h1 : ms.length ≤ i := by have := of_decide_eq_false h1; omega
      have hWi : W[i]? = some (putC w v) := by rw [← hW]; exact outW_old hv h1
      cases w with
      | false =>
        simp only [putC, Bool.false_eq_true, if_false] at hWi
        simp only [Bool.not_false]
        refine bm_mk (fun _ => bm_mk (fun h3 => ?_) (fun h3 => ?_)) (fun h3 => by simp at h3)
        · rw [if_pos (of_decide_eq_true h3)] at hWi
          exact push _ hWi
        · rw [if_neg (of_decide_eq_false h3)] at hWi
          exact push _ hWi
      | true =>
        simp only [putC, if_true] at hWi
        simp only [Bool.not_true]
        exact bm_mk (fun h3 => by simp at h3) (fun _ => push _ hWi)
  · have h : i = l.length := by have := of_decide_eq_false h; omega
    subst h
    have hWt : W.take l.length = W := List.take_of_length_le (by omega)
    rw [hWt] at H4 hsl
    have H5 := rowL_tail H4
    have hpl : (((min l.length ms.length : Nat) : Int) != imin (l.length : Int) (ms.length : Int)) = false := by
      have : imin (l.length : Int) (ms.length : Int) = ((min l.length ms.length : Nat) : Int) := by unfold imin; split <;> omega
      rw [this]; simp
    -- behind the read
    have tail : ∀ (p' : Int) (rd : Int) (ok : Bool) (σ6 : AS), (rd == 1) = ok → Has σ6 (bufL x s st b0 b1 0 1 f (es1 x) 1 (.pointer none) 3 p' rd ms.length l.length w (cellsU W) (rowL j W ((f, .map [] 0) :: fr))) →
        Tri Try.prog 13 [ptr s, i64 1] σ6 fun v50 σ51 => tTup v50 fun l52 => pSome l52[0]? fun u53 => tI .u32 u53 fun n54 => tTup v50 fun l55 => pSome l55[1]? fun u56 => tI .u32 u56 fun n57 => tTup v50 fun l58 => pSome l58[2]? fun u59 => tL 1 u59 fun s60 => tTup v50 fun l61 => pSome l61[3]? fun u62 => tI .i64 u62 fun n63 =>
          Tri Try.prog 13 [ptr s, i64 1] σ51 fun v64 σ65 => tTup v64 fun l66 => pSome l66[0]? fun u67 => tI .u32 u67 fun n68 => tTup v64 fun l69 => pSome l69[1]? fun u70 => tI .u32 u70 fun n71 => tTup v64 fun l72 => pSome l72[2]? fun u73 => tL 1 u73 fun s74 => tTup v64 fun l75 => pSome l75[3]? fun u76 => tI .i64 u76 fun n77 =>
            Tri Try.prog 10 [i64 n63] σ65 fun v78 σ79 => tI .i64 v78 fun n80 => bmatch (n80 == 0)
              (Tri Try.prog 10 [i64 n77] σ79 fun v81 σ82 => tI .i64 v81 fun n83 => bmatch (n83 == 5)
                (bmatch (IntKind.wrap .i64 n57 == (ms.length : Int)) (bmatch ((n54 == 1) == ok)
                  (Tri Try.prog 18 [.slice s60.a s60.n 1, .slice cA l.length ce] σ82 fun v84 σ85 => tB v84 fun b86 => bmatch b86 (Tri Try.prog 11 [] σ85 fun v87 σ88 => tB v87 fun b89 => RK1 (.bool b89) σ88) (RK1 (.bool false) σ85))
                  (RK1 (.bool false) σ82)) (RK1 (.bool false) σ82)) (RK1 (.bool false) σ82)) (RK1 (.bool false) σ79) := by
      intro p' rd ok σ6 hok H6
      refine c13 H6 (find1 x) fun σ7 y H7 => ?_
      simp only [tTup_tup, pSome_some, tI_int, List.getElem?_cons_zero, List.getElem?_cons_succ]
      simp only [tL_sl]
      refine c13none H7 2 3 rfl rfl rfl fun σ8 y2 H8 => ?_
      simp only [tTup_tup, pSome_some, tI_int, List.getElem?_cons_zero, List.getElem?_cons_succ]
      simp only [tL_nil]
      refine c10 (tI_mk ?_)
      simp only [beq_self_eq_true, bm_true, bm_false]
      refine c10 (tI_mk ?_)
      simp only [beq_self_eq_true, wrap64 (n := (ms.length : Int)) (by omega) (by omega), hok, bm_true, bm_false]
      have r1 : Rd σ8 .u32 (some ⟨b1, 0, none⟩) 0 1 W := .inr ⟨b1, .rw, cellsU W, rfl, rfl, H8.at 6 rfl, fun i v hv => by rw [Nat.zero_add]; exact cellsU_get hv⟩
      have r2 : Rd σ8 .u32 cA 0 ce W := by
        by_cases hW0 : W = []
        · exact .inl hW0
        · cases hWc : W with
          | nil => exact absurd hWc hW0
          | cons c t =>
            rw [hWc] at hsl H8
            injection hsl with g1 g2 g3
            exact .inr ⟨j, .rw, cellsU (c :: t), g1.symm, g3.symm, H8.at 7 rfl, fun i v hv => by rw [Nat.zero_add]; exact cellsU_get hv⟩
      rw [← hWl]
      refine c18 r1 r2 (by omega) ?_
      simp only [tB_bool, bm_true]
      exact c11 (by simp [tB])
    by_cases hk : ms.length < l.length
    · obtain ⟨v, hv⟩ : ∃ v, W[ms.length]? = some v := ⟨W[ms.length]'(by omega), by simp⟩
      have hmin : min l.length ms.length = ms.length := by omega
      rw [hmin] at H5 hpl
      refine c16_more H5 (find1 x) (.inr rfl) (by omega) (by omega) (by omega) (v := v) (by rw [Int.toNat_natCast]; exact cellsU_get hv) fun σ6 H6 => ?_
      have hd : decide ((ms.length : Int) < (l.length : Int)) = true := by simp; omega
      rw [hmin]
      simp only [tTup_tup, pSome_some, tI_int, tB_bool, List.getElem?_cons_zero, List.getElem?_cons_succ, hpl, bne_self_eq_false, hd, beq_self_eq_true, Bool.not_true, bm_true, bm_false]
      have hne : W ≠ [] := fun e => by rw [e] at hWl; simp at hWl; omega
      obtain ⟨rfl, rfl⟩ : cA = some ⟨j, 0, none⟩ ∧ ce = 1 := by
        cases hWc : W with
        | nil => exact absurd hWc hne
        | cons c t => rw [hWc] at hsl; injection hsl with g1 g2 g3; exact ⟨g1.symm, g3.symm⟩
      have hj : σ6 j = some (.row .rw (cellsU W)) := by
        cases hWc : W with
        | nil => exact absurd hWc hne
        | cons c t => rw [hWc] at H6; exact H6.at 5 rfl
      refine req_mk (by omega) (req_mk (by omega) ?_)
      simp only [pSome_some, hz, add_none, Int.toNat_natCast, Nat.mul_one, Nat.zero_add]
      refine req_mk (by first | rfl | trivial) ?_
      simp only [ldc, AS.cell, hj, cellsU_get hv, pSome_some]
      refine tI_mk ?_
      simp only [bne_self_eq_false, bm_false]
      exact tail _ _ true σ6 (by rw [Go.IntWalk.u32_in _ (by omega)]; rfl) H6
    · have hmin : min l.length ms.length = l.length := by omega
      rw [hmin] at H5 hpl
      refine c16_end H5 (find1 x) (.inr rfl) (by omega) ?_
      have hd : decide ((ms.length : Int) < (l.length : Int)) = false := by simp; omega
      rw [hmin]
      simp only [tTup_tup, pSome_some, tI_int, tB_bool, List.getElem?_cons_zero, List.getElem?_cons_succ, hpl, bne_self_eq_false, hd, beq_self_eq_true, Bool.not_true, bm_true, bm_false]
      exact tail _ _ false σ4 rfl H5)
end
end Go.AI
