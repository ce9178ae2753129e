/- ShelfWide: the law's function tells true, from what its callees do. -/
import Derived.Test.YtpgedoljndppdaaShTwo
import Derived.Test.YtpgedoljndppdaaShLive
set_option maxRecDepth 4000
set_option linter.unusedVariables false
set_option linter.unusedSimpArgs false
namespace Go.AI
open Go.Proofs
section
variable {σ : AS} {K : Value → AS → Prop} {fi j oi x y s st f : Nat} {bs : List Int} {most last : Int} {nm : ByteArray} {fr : List (Nat × AObj)}
theorem fl_mem2 {fi j : Nat} {bs : List Int} {op : Value} {mid fr : List (Nat × AObj)} {p : Nat × AObj} (h : p ∈ fr) : ∃ m : Nat, (fileL fi j bs op mid fr)[m]? = some p := by
  obtain ⟨q, hq⟩ := List.getElem?_of_mem h
  exact fr_at hq
theorem c24_empty {L : List (Nat × AObj)} {q qf : Nat} (H : Has σ L) (es : L[q]? = some (s, shelfO most last f st)) (ef : L[qf]? = some (f, .map [] 0)) (hK : ∀ σ', Has σ' L → K (i64 0) σ') : Tri Try.prog 24 [ptr s] σ K := tri_in (by
  rw [s24]
  refine ldc_mk H q es rfl ?_
  simp only [tM_map, rngM]
  refine mapAt_mk H qf ef (newAt_mk H fun it σ1 H1 => ?_)
  intro X hX
  refine hX _ _ ?_
  rw [s24l]
  unfold mnext
  rw [H1.at 0 rfl]
  refine mapAt_mk H1 (qf + 1) (es := []) (c := 0) (by rw [List.getElem?_cons_succ]; exact ef) ?_
  exact hK σ1 (H1.sub (.cons _ (.refl _))))
theorem c36 {L : List (Nat × AObj)} {r q : Nat} {k : RK} (H : Has σ L) (hne : bs ≠ []) (hr : L[q]? = some (r, .row k (cells8 bs))) (hl : bs.length ≤ 1099511627776)
    (hK : ∀ σ' j, Has σ' ((j, .row .rw (cells8 bs)) :: L) → K (.slice (some ⟨j, 0, none⟩) bs.length 1) σ') : Tri Try.prog 36 [.slice (some ⟨r, 0, none⟩) bs.length 1] σ K := tri_in (by
  rw [s36]
  simp only [Option.isNone, bm_false]
  refine newAt_mk H fun i0 σ1 H1 => ?_
  simp only [srcCells]
  refine req_mk trivial (lds_mk H1 (q + 1) (by rw [List.getElem?_cons_succ]; exact hr) (by simp) ?_)
  refine append_mk (n := 0) (m := bs.length) H1 0 rfl rfl (by omega) (by simp) fun j σ2 H2 => ?_
  simp only [Nat.zero_add]
  refine hK σ2 j ?_
  have e : ((([] : List Value).take (0 * 1)) ++ ((cells8 bs).drop 0).take (bs.length * 1)) = cells8 bs := by
    rw [List.drop_zero, Nat.mul_one, List.take_nil, List.nil_append, List.take_of_length_le (by simp)]
  rw [e] at H2
  exact H2)
theorem c22_new {r : Nat} {k : RK} (H : Has σ ((s, shelfO most 0 f st) :: (st, .map [] 0) :: (f, .map [] 0) :: fr)) (hne : bs ≠ []) (hr : (r, AObj.row k (cells8 bs)) ∈ fr) (hl : (bs.length : Int) ≤ most) (hmost : most ≤ 1048576) (n0 : 1 ≤ nm.size) (n1 : nm.size ≤ 32)
    (hK : ∀ σ' fi j, Has σ' (newL fi j bs s st f most nm fr) → K (i64 0) σ') : Tri Try.prog 22 [ptr s, .string nm, .slice (some ⟨r, 0, none⟩) bs.length 1] σ K := tri_in (by
  obtain ⟨q, hq⟩ := List.getElem?_of_mem hr
  rw [s22]
  refine ldc_mk H 0 rfl rfl ?_
  simp only [tM_map]
  refine mget_mk (x := none) H 2 rfl rfl ?_
  simp only [Option.map, Option.getD, tP_ptr]
  refine c35 n0 n1 ?_
  simp only [tB_bool, Bool.not_true, bm_false, ptrEq_none, bm_true]
  refine ldc_mk H 0 rfl rfl ?_
  have e0 : ((([] : List MapEntry).length : Int) == 64) = false := by decide
  simp only [tM_map, mlen, AS.ents, H.at 2 rfl, pSome_some, e0, bm_false]
  refine c24_empty (q := 0) (qf := 2) H rfl rfl fun σ1 H1 => tI_mk ?_
  refine ldc_mk H1 0 rfl rfl (tI_mk ?_)
  refine bm_mk (fun h => ?_) (fun _ => ?_)
  · have h := of_decide_eq_true h
    rw [wrap64 (by omega) (by omega)] at h
    omega
  refine ldc_mk H1 0 rfl rfl ?_
  simp only [tM_map]
  refine c36 (q := q + 3) H1 hne (by simpa using hq) (by omega) fun σ2 j H2 => tL_mk ?_
  refine ldc_mk H2 1 rfl rfl ?_
  simp only [tM_map]
  refine ⟨by first | rfl | trivial, newAt_mk H2 fun fi σ3 H3 => ?_⟩
  refine ldc_mk H3 2 rfl rfl ?_
  simp only [tM_map]
  refine ⟨by first | rfl | trivial, ?_⟩
  refine mset_new_mk H3 4 rfl rfl fun σ4 H4 => ?_
  refine hK σ4 fi j ?_
  have H5 : Has σ4 ((fi, fileO j bs (.slice none 0 0)) :: (j, .row .rw (cells8 bs)) :: ([(s, shelfO most 0 f st), (st, .map [] 0), (f, .map (ent1 nm (ptr fi)) 1)] ++ fr)) := by
    simp only [fileO]
    rw [slL_ne hne]
    exact H4
  refine H5.perm ?_
  unfold newL fileL
  rw [rowK_ne hne]
  exact .cons _ List.perm_middle)

theorem c23_open {a : Option Addr} {m e qs qf : Nat} {mid : List (Nat × AObj)} (H : Has σ (fileL fi j bs (.slice a (m + 1) e) mid fr)) (es : mid[qs]? = some (s, shelfO most last f st)) (ef : mid[qf]? = some (f, .map (ent1 nm (ptr fi)) 1)) (hn : nilOr a e 1 = true)
    (hf : Instr.findNow .string (.string nm) (ent1 nm (ptr fi)) 0 = some (some (0, ptr fi))) (hK : K (.bool false) σ) : Tri Try.prog 23 [ptr s, .string nm] σ K := tri_in (by
  rw [s23]
  refine ldc_mk H (qs + 1) (mid_at es) rfl ?_
  simp only [tM_map]
  refine mget_mk H (qf + 1) (mid_at ef) hf ?_
  simp only [Option.map, Option.getD, tP_ptr, ptrEq_some, bm_false]
  refine ldc_mk H (qs + 1) (mid_at es) rfl ?_
  simp only [tM_map]
  refine mget_mk H (qf + 1) (mid_at ef) hf ?_
  simp only [Option.map, Option.getD, tP_ptr, pSome_some]
  refine ldc_mk H 0 rfl rfl (tL_ok hn ?_)
  refine bm_mk (fun _ => hK) (fun h => ?_)
  have h := of_decide_eq_false h
  exfalso
  simp only at h
  omega)
/-- A stream to append is refused, while another one is open. -/
theorem c12a_no {w : Bool} {h : Value} {p rp q rq : Int} (H : Has σ (twoL fi j bs oi x y s st f most nm p rp q rq fr)) (n0 : 1 ≤ nm.size) (n1 : nm.size ≤ 32)
    (hf1 : ∀ v, Instr.findNow .string (.string nm) (ent1 nm v) 0 = some (some (0, v))) (hK : K (.tuple ⟨[i64 0, i64 6]⟩) σ) : Tri Try.prog 12 [ptr s, .string nm, i64 5, .bool w] σ K := tri_in (by
  have c27 : ∀ {G : Value → AS → Prop}, G (i64 6) σ → Tri Try.prog 27 [ptr s, .string nm, i64 5] σ G := fun {G} hG => tri_in (by
    rw [s27a]
    have e1 : (((2 : Nat) : Int) == 64) = false := by decide
    have hz : szOf Try.prog 76 = 1 := by kernel_rfl
    refine ldc_mk H 4 rfl rfl ?_
    simp only [tM_map]
    refine mget_mk H 6 rfl (hf1 (ptr fi)) ?_
    simp only [Option.map, Option.getD, tP_ptr]
    refine c35 n0 n1 ?_
    simp only [tB_bool, Bool.not_true, bm_false]
    refine ldc_mk H 4 rfl rfl ?_
    simp only [tM_map, mlen, AS.ents, H.at 5 rfl, pSome_some, List.length_cons, List.length_nil, Nat.zero_add, e1, bm_false, ptrEq_some]
    refine ldc_mk H 0 rfl rfl (tL_ok rfl ?_)
    intro X hX
    refine hX _ _ ?_
    rw [s27l]
    refine bm_mk (fun _ => ?_) (fun h => by simp at h)
    refine req_mk (by omega) (req_mk (by simp) ?_)
    simp only [pSome_some, hz, add_none, Int.toNat_zero, Nat.zero_mul, Nat.add_zero]
    refine ldc_mk H 1 rfl rfl ?_
    simp only [tP_ptr, pSome_some]
    refine ldc_mk H 2 rfl rfl (tI_mk ?_)
    have e5 : ((5 : Int) != 2) = true := by decide
    simp only [bne_self_eq_false, bm_false, e5, bm_true]
    exact hG)
  rw [s12a]
  refine c27 (tI_mk ?_)
  have e6 : ((6 : Int) != 0) = true := by decide
  simp only [e6, bm_true]
  exact hK)
end
theorem tmod4 (i : Nat) : (Int.tmod (i : Int) 4 == 3) = decide (i % 4 = 3) := by
  rw [Int.tmod_eq_emod_of_nonneg (by omega)]
  by_cases h : i % 4 = 3
  · simp [h]; omega
  · simp [h]; omega
theorem ishlK {x : Int} {n : Int} {m : Int} (h0 : 0 ≤ x) (h1 : x < 256) (h : (n = 8 ∧ m = 256) ∨ (n = 16 ∧ m = 65536) ∨ (n = 24 ∧ m = 16777216)) : ishl .u32 (IntKind.wrap .u32 x) n = x * m := by
  rw [Go.IntWalk.u32_in x (by omega)]
  rcases h with ⟨rfl, rfl⟩ | ⟨rfl, rfl⟩ | ⟨rfl, rfl⟩
  · simp [ishl, IntKind.bits, IntKind.wrap, IntKind.signed]; omega
  · simp [ishl, IntKind.bits, IntKind.wrap, IntKind.signed]; omega
  · simp [ishl, IntKind.bits, IntKind.wrap, IntKind.signed]; omega
theorem four_eq {bs : List Int} {i : Nat} {b0 b1 b2 b3 : Int} (h3 : 3 ≤ i) (e0 : bs[i - 3]? = some b0) (e1 : bs[i - 2]? = some b1) (e2 : bs[i - 1]? = some b2) (e3 : bs[i]? = some b3) (hm : i % 4 = 3) : viewAt true bs (i / 4) = ((b0 * 256 + b1) * 256 + b2) * 256 + b3 := by
  have e : 4 * (i / 4) = i - 3 := by omega
  simp only [viewAt, e]
  have d : ∀ {k : Nat} {v : Int}, bs[k]? = some v → bs.drop k = v :: bs.drop (k + 1) := by
    intro k v h
    have hk : k < bs.length := (List.getElem?_eq_some_iff.1 h).1
    rw [List.drop_eq_getElem_cons hk]
    rw [List.getElem?_eq_getElem hk] at h
    injection h with h
    rw [h]
  rw [d e0, show i - 3 + 1 = i - 2 by omega, d e1, show i - 2 + 1 = i - 1 by omega, d e2, show i - 1 + 1 = i by omega, d e3]
  simp [beV]
section
variable {σ : AS} {bs : List Int}
def wdI (fi j oi x y s st f : Nat) (bs : List Int) (r : Nat) (fr : List (Nat × AObj)) (i : Nat) (rg : Regs) (σ : AS) : Prop :=
  i ≤ bs.length ∧ rg = [(0, some (.slice (some ⟨r, 0, none⟩) bs.length 1)), (3, some (ptr s)), (5, some (i64 1)), (7, some (i64 2)), (15, some (i64 i))] ∧ Has σ (twoL fi j bs oi x y s st f 4096 nmF i i (i / 4 : Nat) (i / 4 : Nat) fr)
theorem wide_law {r : Nat} {fr : List (Nat × AObj)} (H : Has σ fr) (hne : bs ≠ []) (hr : (r, AObj.row .ro (cells8 bs)) ∈ fr) (hb : ∀ c ∈ bs, 0 ≤ c ∧ c < 256) : Tri Try.prog 7 [.slice (some ⟨r, 0, none⟩) bs.length 1] σ RK2 := tri_in (by
  rw [s7]
  refine bm_mk (fun _ => ?_) (fun hm => ?_)
  · refine c11 ?_
    simp only [tB_bool]
  have hm : bs.length ≤ 4096 := by have := of_decide_eq_false hm; omega
  refine c9 H (by omega) (by omega) fun σ1 s f st H1 => ?_
  simp only [tTup_tup, pSome_some, tP_ptr, tI_int, List.getElem?_cons_zero, List.getElem?_cons_succ]
  refine c10 ?_
  simp only [tI_int, bne_self_eq_false, bm_false, ptrEq_some]
  refine c22_new (nm := nmF) H1 hne hr (by omega) (by omega) (by decide) (by decide) fun σ2 fi j H2 => tI_mk (c10 (tI_mk ?_))
  simp only [bne_self_eq_false, bm_false]
  refine c12r_first (nm := nmF) H2 (by decide) (by decide) (fun v => rfl) fun σ3 oi x H3 => ?_
  simp only [tTup_tup, pSome_some, tP_ptr, tI_int, List.getElem?_cons_zero, List.getElem?_cons_succ]
  refine c12r_second (nm := nmF) H3 (by decide) (by decide) (fun v => rfl) fun σ4 oi2 y H4 => ?_
  simp only [tTup_tup, pSome_some, tP_ptr, tI_int, List.getElem?_cons_zero, List.getElem?_cons_succ]
  refine c15g (q := 1) (qs := 3) (qm := 4) (w := false) H4 rfl rfl rfl (find2a x y) (by omega) fun σ5 H5 => ?_
  simp only [tTup_tup, pSome_some, tP_ptr, tI_int, List.getElem?_cons_zero, List.getElem?_cons_succ]
  refine c15g (q := 2) (qs := 3) (qm := 4) (w := true) H5 rfl rfl rfl (find2b x y) (by omega) fun σ6 H6 => ?_
  simp only [tTup_tup, pSome_some, tP_ptr, tI_int, List.getElem?_cons_zero, List.getElem?_cons_succ]
  refine c10 (tI_mk (c10 (tI_mk ?_)))
  have e0 : (IntKind.wrap .i64 ((0 : Int) + 0) != 0) = false := by decide
  have e1 : IntKind.wrap .i64 (Int.tdiv (bs.length : Int) 4) = ((bs.length / 4 : Nat) : Int) := by
    rw [Int.tdiv_eq_ediv_of_nonneg (by omega), wrap64 (by omega) (by omega)]; omega
  rw [e0, e1]
  simp only [bm_false, sizeW, bne_self_eq_false]
  refine aloop (wdI fi j oi2 x y s st f bs r fr) (fun i => bs.length - i) ?_ (a := 0) ⟨by omega, rfl, H6⟩
  rintro i rg σ7 X hX ⟨hi, rfl, H7⟩
  rw [s7l]
  have hz5 : szOf Try.prog 5 = 1 := by kernel_rfl
  refine bm_mk (fun h => ?_) (fun h => ?_)
  · have h : i < bs.length := by have := of_decide_eq_true h; omega
    obtain ⟨v, hv⟩ : ∃ v, bs[i]? = some v := ⟨bs[i], by simp [h]⟩
    have hvv := hb v (List.mem_of_getElem? hv)
    have w1 : IntKind.wrap .u32 ((i : Int) + 1) = ((i + 1 : Nat) : Int) := by rw [Go.IntWalk.u32_in _ (by omega)]; rfl
    refine c16g_more (p := i) (q := 1) (qs := 3) (qm := 4) (w := false) H7 rfl rfl rfl (find2a x y) (by omega) hb (.inl rfl) h fun σ8 H8 => ?_
    have e2 : viewAt false bs i = v := by simp [viewAt, hv]
    rw [w1, show (i : Int) + 1 = ((i + 1 : Nat) : Int) from rfl] at H8
    have H8 : Has σ8 (twoL fi j bs oi2 x y s st f 4096 nmF (i + 1 : Nat) (i + 1 : Nat) (i / 4 : Nat) (i / 4 : Nat) fr) := H8
    simp only [tTup_tup, pSome_some, tI_int, tB_bool, List.getElem?_cons_zero, List.getElem?_cons_succ, Bool.not_true, bm_false, e2]
    have cellAt : ∀ {σ' : AS} {p rp q rq : Int} {k : Nat} {c : Int} {G : Int → Prop}, Has σ' (twoL fi j bs oi2 x y s st f 4096 nmF p rp q rq fr) → bs[k]? = some c → G c → ldc σ' ⟨r, k, none⟩ fun v => tI .u8 v G := by
      intro σ' p rp q rq k c G H' hc hG
      obtain ⟨mq, hmq⟩ := fl_mem2 (fi := fi) (j := j) (bs := bs) (op := .slice (some ⟨oi2, 0, none⟩) 2 1) (mid := [(oi2, .row .rw [ptr x, ptr y]), (x, streamO (holdV false fi) (ptr fi) 2 p rp 0), (y, streamO (holdV true fi) (ptr fi) 2 q rq 0), (s, shelfO 4096 2 f st),
        (st, .map [{ key := i64 1, val := ptr x, born := 0 }, { key := i64 2, val := ptr y, born := 1 }] 2), (f, .map (ent1 nmF (ptr fi)) 1)]) hr
      exact ldc_mk H' mq hmq (v := .int .u8 c) (by simp [hc]) (tI_mk hG)
    refine req_mk (by omega) (req_mk (by omega) ?_)
    simp only [hz5, add_none, Int.toNat_natCast, Nat.zero_add, Nat.mul_one]
    refine cellAt H8 hv ?_
    rw [Go.IntWalk.u32_in v (by omega), tmod4]
    simp only [bne_self_eq_false, bm_false]
    have qi : IntKind.wrap .i64 ((i : Int) + 1) = ((i + 1 : Nat) : Int) := wrap64 (by omega) (by omega)
    rw [qi]
    refine bm_mk (fun h4 => ?_) (fun h4 => ?_)
    · have h4 : i % 4 = 3 := of_decide_eq_true h4
      have h5 : i / 4 < sizeW true bs := by simp only [sizeW]; omega
      obtain ⟨b0, hb0⟩ : ∃ b, bs[i - 3]? = some b := ⟨bs[i - 3]'(by omega), by simp⟩
      obtain ⟨b1, hb1⟩ : ∃ b, bs[i - 2]? = some b := ⟨bs[i - 2]'(by omega), by simp⟩
      obtain ⟨b2, hb2⟩ : ∃ b, bs[i - 1]? = some b := ⟨bs[i - 1]'(by omega), by simp⟩
      have g0 := hb b0 (List.mem_of_getElem? hb0)
      have g1 := hb b1 (List.mem_of_getElem? hb1)
      have g2 := hb b2 (List.mem_of_getElem? hb2)
      have w2 : IntKind.wrap .u32 (((i / 4 : Nat) : Int) + 1) = (((i + 1) / 4 : Nat) : Int) := by rw [Go.IntWalk.u32_in _ (by omega)]; omega
      have w3 : (((i / 4 : Nat) : Int) + 1) = (((i + 1) / 4 : Nat) : Int) := by omega
      refine c16g_more (p := i / 4) (q := 2) (qs := 3) (qm := 4) (w := true) H8 rfl rfl rfl (find2b x y) (by omega) hb (.inl rfl) h5 fun σ9 H9 => ?_
      rw [w2, w3] at H9
      have H9 : Has σ9 (twoL fi j bs oi2 x y s st f 4096 nmF (i + 1 : Nat) (i + 1 : Nat) ((i + 1) / 4 : Nat) ((i + 1) / 4 : Nat) fr) := H9
      rw [four_eq (by omega) hb0 hb1 hb2 hv h4]
      simp only [tTup_tup, pSome_some, tI_int, tB_bool, List.getElem?_cons_zero, List.getElem?_cons_succ, Bool.not_true, bm_false]
      have k3 : IntKind.wrap .i64 ((i : Int) - 3) = ((i - 3 : Nat) : Int) := by rw [wrap64 (by omega) (by omega)]; omega
      have k2 : IntKind.wrap .i64 ((i : Int) - 2) = ((i - 2 : Nat) : Int) := by rw [wrap64 (by omega) (by omega)]; omega
      have k1 : IntKind.wrap .i64 ((i : Int) - 1) = ((i - 1 : Nat) : Int) := by rw [wrap64 (by omega) (by omega)]; omega
      rw [k3, k2, k1]
      refine req_mk (by omega) (req_mk (by omega) ?_)
      simp only [add_none, Int.toNat_natCast, Nat.zero_add]
      refine cellAt H9 hb0 (req_mk (by omega) (req_mk (by omega) ?_))
      refine cellAt H9 hb1 (req_mk (by omega) (req_mk (by omega) ?_))
      refine cellAt H9 hb2 ?_
      rw [ishlK g0.1 g0.2 (.inr (.inr ⟨rfl, rfl⟩)), ishlK g1.1 g1.2 (.inr (.inl ⟨rfl, rfl⟩)), ishlK g2.1 g2.2 (.inl ⟨rfl, rfl⟩)]
      rw [Go.IntWalk.u32_in (b0 * 16777216 + b1 * 65536) (by omega), Go.IntWalk.u32_in (b0 * 16777216 + b1 * 65536 + b2 * 256) (by omega), Go.IntWalk.u32_in _ (by omega)]
      have e4 : ((b0 * 256 + b1) * 256 + b2) * 256 + v = b0 * 16777216 + b1 * 65536 + b2 * 256 + v := by omega
      rw [e4]
      simp only [bne_self_eq_false, bm_false]
      exact hX (i + 1) _ _ (by omega) ⟨by omega, rfl, H9⟩
    · have h4 : ¬ i % 4 = 3 := of_decide_eq_false h4
      have e5 : i / 4 = (i + 1) / 4 := by omega
      rw [e5] at H8
      exact hX (i + 1) _ _ (by omega) ⟨by omega, rfl, H8⟩
  · have h : i = bs.length := by have := of_decide_eq_false h; omega
    subst h
    refine c16g_end (q := 1) (qs := 3) (qm := 4) (w := false) H7 rfl rfl rfl (find2a x y) (by omega) (.inl rfl) (Int.le_refl _) fun σ8 H8 => ?_
    simp only [tTup_tup, pSome_some, tI_int, tB_bool, List.getElem?_cons_zero, List.getElem?_cons_succ]
    refine c16g_end (q := 2) (qs := 3) (qm := 4) (w := true) H8 rfl rfl rfl (find2b x y) (by omega) (.inl rfl) (Int.le_refl _) fun σ9 H9 => ?_
    simp only [tTup_tup, pSome_some, tI_int, tB_bool, List.getElem?_cons_zero, List.getElem?_cons_succ]
    refine c12a_no (h := ptr 0) (nm := nmF) H9 (by decide) (by decide) (fun v => rfl) ?_
    simp only [tTup_tup, pSome_some, tI_int, tB_bool, List.getElem?_cons_zero, List.getElem?_cons_succ, Bool.not_false, bm_true]
    refine c10 (tI_mk ?_)
    simp only [beq_self_eq_true, bm_true]
    refine c23_open (qs := 3) (qf := 5) (nm := nmF) H9 rfl rfl rfl rfl ?_
    simp only [tB_bool, Bool.not_false, bm_true]
    refine c11 ?_
    simp only [tB_bool])
end
theorem wide_run0 : callN Try.prog hints noE 50 7 [.slice none 0 1] AS.nil (fun v _ => v = .bool true) = (Value.bool true = .bool true) := by kernel_rfl
theorem wide_run1 : callN Try.prog hints noE 50 7 [.slice (some ⟨0, 0, none⟩) 0 1] (AS.nil.set 0 .dead) (fun v _ => v = .bool true) = (Value.bool true = .bool true) := by kernel_rfl
theorem wide0 : Tri Try.prog 7 [.slice none 0 1] AS.nil RK2 := tri_hard (by unfold RK2; rw [wide_run0])
theorem wide1 : Tri Try.prog 7 [.slice (some ⟨0, 0, none⟩) 0 1] (AS.nil.set 0 .dead) RK2 := tri_hard (by unfold RK2; rw [wide_run1])
end Go.AI
