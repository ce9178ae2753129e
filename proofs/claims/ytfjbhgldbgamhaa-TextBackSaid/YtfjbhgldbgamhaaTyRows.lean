/- TextRows: the law's function tells true, from what its callees do. -/
import Derived.Test.YtfjbhgldbgamhaaTyNext
set_option maxRecDepth 4000
set_option linter.unusedVariables false
set_option linter.unusedSimpArgs false
namespace Go.AI
open Go.Proofs
abbrev RB (v : Value) (_ : AS) : Prop := v = .bool true
/-- A text of numbers, one behind the other, up to a 0. -/
theorem plR_row {M : List Int} {n : Nat} {cs : List Int} {k b : Int} (ad : Nat → Int) (h1 : ∀ j v, cs[j]? = some v → rd M (ad j) n = some v) (h2 : rd M (ad cs.length) n = some 0) (h3 : ∀ j, j < cs.length → w32 (ad j + n) = ad (j + 1)) (hnz : ∀ c ∈ cs, c ≠ 0) :
    ∀ (d j i : Nat) (r : List Int) (w : Bool) (e : Int), cs.length - j = d → j ≤ cs.length → i < 256 → PlR (nx1 M n) cs.length (cs.take j) ⟨k, ad j, b⟩ i r w e → r = cs ∧ w = true ∧ e = 0
  | 0, j, i, r, w, e, hd, hj, hi, h => by
    obtain rfl : j = cs.length := by omega
    have hN : nx1 M n ⟨k, ad cs.length, b⟩ = .ok ((1, []), ⟨k, w32 (ad cs.length + n), b⟩) := by
      unfold nx1; simp only [h2]; rfl
    cases h with
    | idle h => exact absurd hi h
    | err _ h => rw [hN] at h; cases h
    | fin _ h hp => exact ⟨List.take_length, rfl, rfl⟩
    | ref _ h hp => rw [hN] at h; cases h; cases hp
    | cut _ h hp => rw [hN] at h; cases h; exact absurd rfl hp
    | more _ h hp => rw [hN] at h; cases h; exact absurd rfl hp
  | d + 1, j, i, r, w, e, hd, hj, hi, h => by
    obtain ⟨v, hv⟩ : ∃ v, cs[j]? = some v := ⟨cs[j]'(by omega), by simp⟩
    have hv0 := hnz v (List.mem_of_getElem? hv)
    have hN : nx1 M n ⟨k, ad j, b⟩ = .ok ((2, [v]), ⟨k, ad (j + 1), b⟩) := by
      unfold nx1
      simp only [h1 j v hv]
      unfold oneP
      rw [if_neg hv0, h3 j (by omega)]
    have hl : (cs.take j).length = j := by rw [List.length_take]; omega
    cases h with
    | idle h => exact absurd hi h
    | err _ h => rw [hN] at h; cases h
    | fin _ h hp => rw [hN] at h; cases h; cases hp
    | ref _ h hp => rw [hN] at h; cases h; cases hp
    | cut _ h hp hp3 hc =>
      rw [hN] at h; cases h
      simp only [List.length_cons, List.length_nil] at hc
      omega
    | more _ h hp hp3 hc hr =>
      rw [hN] at h; cases h
      have e1 : cs.take j ++ [v] = cs.take (j + 1) := by rw [List.take_add_one, hv]; rfl
      simp only [e1] at hr
      exact plR_row ad h1 h2 h3 hnz d (j + 1) _ r w e (by omega) (by omega) (by simp) hr
section
variable {σ : AS}
theorem rd_at {M : List Int} {j n : Nat} {x : Int} (hx : x = (j : Int)) (h : j + n ≤ M.length) : rd M x n = some (beV ((M.drop j).take n)) := by
  subst hx
  unfold rd
  rw [if_pos (by omega), Int.toNat_natCast]
theorem beV_one (v : Int) : beV [v] = v := by simp [beV]
theorem byte_at {A B : List Int} {v : Int} : ((A ++ v :: B).drop A.length).take 1 = [v] := by simp
theorem c21_bytes {a : Option Addr} {bs : List Int} {at_ : AtS} (h : at_.k = 224 ∧ 0 ≤ at_.x ∧ at_.x ≤ 4294967295) : NextOk a bs 0 (nx1 bs 1) at_ := by
  obtain ⟨k, x, b⟩ := at_
  exact c21n (.inr ⟨h.1, rfl⟩) h.2.1 h.2.2
theorem c21_words {a : Option Addr} {bs : List Int} {at_ : AtS} (h : at_.k = 226 ∧ 0 ≤ at_.x ∧ at_.x ≤ 4294967295) : NextOk a bs 0 (nx1 bs 4) at_ := by
  obtain ⟨k, x, b⟩ := at_
  exact c21n (.inl ⟨h.1, rfl⟩) h.2.1 h.2.2
theorem nx1_keeps {bs : List Int} {n : Nat} {k : Int} : ∀ (at_ : AtS) (p : Int × List Int) (at' : AtS), (at_.k = k ∧ 0 ≤ at_.x ∧ at_.x ≤ 4294967295) → nx1 bs n at_ = .ok (p, at') → (at'.k = k ∧ 0 ≤ at'.x ∧ at'.x ≤ 4294967295) ∧ p.2.length ≤ 1048577 := by
  intro at_ p at' h hn
  unfold nx1 at hn
  split at hn
  · cases hn
  · cases hn
    refine ⟨⟨h.1, w32_in _⟩, ?_⟩
    unfold oneP
    split <;> simp
def rwI1 (a b c : Option Addr) (bs ls hs : List Int) (j : Nat) (L : List (Nat × AObj)) (i : Nat) (r : Regs) (σ : AS) : Prop :=
  i ≤ bs.length ∧ (∀ v ∈ bs.take i, v ≠ 0) ∧ r = [(0, some (.slice a bs.length 1)), (1, some (.slice b ls.length 1)), (2, some (.slice c hs.length 1)), (7, some (.slice (some ⟨j, 0, none⟩) (1 + bs.length) 1)), (8, some (i64 i))] ∧
    Has σ ((j, .row .rw (cells8 ([224] ++ bs))) :: L)
def rwI2 (a b c x : Option Addr) (bs ls hs : List Int) (L : List (Nat × AObj)) (i : Nat) (r : Regs) (σ : AS) : Prop :=
  i ≤ bs.length ∧ r = [(0, some (.slice a bs.length 1)), (1, some (.slice b ls.length 1)), (2, some (.slice c hs.length 1)), (9, some (.slice x bs.length 1)), (12, some (i64 i))] ∧ Has σ L
def rwI3 (b c : Option Addr) (ls hs : List Int) (L : List (Nat × AObj)) (i : Nat) (r : Regs) (σ : AS) : Prop :=
  ∃ j, i ≤ ls.length ∧ (∀ v ∈ ls.take i, v ≠ 0) ∧ r = [(1, some (.slice b ls.length 1)), (2, some (.slice c hs.length 1)), (13, some (.slice (some ⟨j, 0, none⟩) (4 + 4 * i) 1)), (14, some (i64 i))] ∧
    Has σ ((j, .row .rw (cells8 ([226, 1, 2, 3] ++ flat4 (ls.take i)))) :: L)
theorem rows_law {a b c : Option Addr} {bs ls hs : List Int} {L : List (Nat × AObj)} (H : Has σ L) (ha : In8 a bs L) (hb : InU b ls L) (hc : In8 c hs L) (h8 : ∀ v ∈ bs, 0 ≤ v ∧ v < 256) (hU : ∀ v ∈ ls, 0 ≤ v ∧ v ≤ 4294967295) (hh : ∀ v ∈ hs, 0 ≤ v ∧ v < 256)
    (lb : bs.length ≤ 4611686018427387903) (lh : hs.length ≤ 4611686018427387903) : Tri Try.prog 5 [.slice a bs.length 1, .slice b ls.length 1, .slice c hs.length 1] σ RB := tri_in (by
  have hz5 : szOf Try.prog 5 = 1 := by kernel_rfl
  have hz : szOf Try.prog 22 = 1 := by kernel_rfl
  rw [s5, wrap64 (by omega) (by omega)]
  refine bm_mk (fun _ => c9live (by simp only [tB_bool])) (fun hm => bm_mk (fun _ => c9live (by simp only [tB_bool])) (fun hn => ?_))
  have hm : bs.length + hs.length ≤ 16384 := by have := of_decide_eq_false hm; omega
  have hn : ls.length ≤ 300 := by have := of_decide_eq_false hn; omega
  refine newAt_mk H fun i6 σ1 H1 => ?_
  refine src8_mk H1 (ha.mono fun p h => List.mem_cons_of_mem _ h) ?_
  refine app8_mk (ys := [224]) (ms := bs) H1 (by simp; omega) rfl fun j σ2 H2 => ?_
  simp only [List.length_cons, List.length_nil, Nat.zero_add]
  refine aloop (rwI1 a b c bs ls hs j L) (fun i => bs.length - i) ?_ (a := 0) ⟨by omega, by simp, rfl, H2⟩
  rintro i r σ3 X hX ⟨hi, hnz, rfl, H3⟩
  rw [s5l]
  refine bm_mk (fun h => ?_) (fun h => ?_)
  · have h : i < bs.length := by have := of_decide_eq_true h; omega
    obtain ⟨v, hv⟩ : ∃ v, bs[i]? = some v := ⟨bs[i], by simp [h]⟩
    obtain ⟨r0, k0, rfl, m0⟩ := ha.resolve_left (fun e => by rw [e] at h; simp at h)
    obtain ⟨q, hq⟩ := List.getElem?_of_mem (List.mem_cons_of_mem (j, AObj.row .rw (cells8 ([224] ++ bs))) m0)
    refine req_mk (by omega) (req_mk (by omega) ?_)
    simp only [pSome_some, hz5, add_none, Int.toNat_natCast, Nat.mul_one, Nat.zero_add]
    refine ldc_mk H3 q hq (v := .int .u8 v) (by simp [hv]) (tI_mk (bm_mk (fun _ => c9live (by simp only [tB_bool])) (fun hv0 => ?_)))
    have hv0 : v ≠ 0 := by simpa using hv0
    rw [wrap64 (by omega) (by omega)]
    refine hX (i + 1) _ _ (by omega) ⟨by omega, ?_, by simp, H3⟩
    intro u hu
    rw [List.take_add_one, hv] at hu
    rcases List.mem_append.1 hu with h | h
    · exact hnz u h
    · simp at h; rw [h]; exact hv0
  have h : i = bs.length := by have := of_decide_eq_false h; omega
  subst h
  rw [List.take_length] at hnz
  clear hX X
  refine newAt_mk H3 fun i6' σ4 H4 => ?_
  refine lds_row H4 0 rfl rfl ?_
  have H5 := H4.perm (L' := (j, .row .rw (cells8 ([224] ++ bs))) :: (i6', .row .rw [.int .u8 0]) :: L) (.swap _ _ _)
  have elen : 1 + bs.length = ([224] ++ bs : List Int).length := by simp; omega
  rw [elen]
  refine app8_mk (ys := [224] ++ bs) (ms := [0]) (m := 1) H5 (by simp; omega) rfl fun j2 σ5 H6 => ?_
  refine src8_mk H6 (hc.mono fun p h => List.mem_cons_of_mem _ (List.mem_cons_of_mem _ h)) ?_
  have elen2 : ([224] ++ bs : List Int).length + ([0] : List Int).length = ([224] ++ bs ++ [0]).length := by simp
  rw [elen2]
  refine app8_mk (ys := [224] ++ bs ++ [0]) (ms := hs) H6 (by simp; omega) rfl fun j3 σ6 H7 => ?_
  simp only
  rw [← List.length_append]
  generalize hM : [224] ++ bs ++ [0] ++ hs = M at H7
  have hMl : M.length = 2 + bs.length + hs.length := by rw [← hM]; simp; omega
  have hMb : ∀ c ∈ M, 0 ≤ c ∧ c < 256 := by
    intro c hc
    rw [← hM] at hc
    simp only [List.mem_append, List.mem_cons, List.not_mem_nil, or_false] at hc
    rcases hc with ((rfl | hc) | rfl) | hc
    · omega
    · exact h8 c hc
    · omega
    · exact hh c hc
  have hmem : Mem (some ⟨j3, 0, none⟩) M ((j3, .row .rw (cells8 M)) :: (i6', .row .rw [.int .u8 0]) :: L) := ⟨hMb, by omega, .inr ⟨j3, .rw, [], rfl, by simp⟩⟩
  have hbg : bgS M 0 = (⟨224, 1, 0⟩, 0) := by
    have e : rd M 0 1 = some 224 := by
      rw [rd_at (M := M) (j := 0) (n := 1) (x := 0) rfl (by omega), ← hM]
      simp [beV]
    unfold bgS
    simp only [e]
    rfl
  have res : ∀ r w e, PlR (nx1 M 1) bs.length [] ⟨224, 1, 0⟩ 0 r w e → r = bs ∧ w = true ∧ e = 0 := by
    intro r w e h
    refine plR_row (k := 224) (b := 0) (fun j => ((1 + j : Nat) : Int)) ?_ ?_ ?_ hnz bs.length 0 0 r w e (by omega) (by omega) (by omega) (by simpa using h)
    · intro j v hv
      have hj : j < bs.length := (List.getElem?_eq_some_iff.1 hv).1
      rw [rd_at (j := 1 + j) rfl (by omega), ← hM]
      have e1 : ([224] ++ bs ++ [0] ++ hs).drop (1 + j) = v :: (bs.drop (j + 1) ++ [0] ++ hs) := by
        have : bs.drop j = v :: bs.drop (j + 1) := by
          rw [List.drop_eq_getElem_cons hj]
          rw [List.getElem?_eq_getElem hj] at hv
          injection hv with hv
          rw [hv]
        rw [Nat.add_comm 1 j]
        simp only [List.cons_append, List.nil_append, List.drop_succ_cons, List.append_assoc]
        rw [List.drop_append_of_le_length (by omega), this]
        simp
      rw [e1]
      simp [beV]
    · rw [rd_at (j := 1 + bs.length) rfl (by omega), ← hM]
      have e1 : ([224] ++ bs ++ [0] ++ hs).drop (1 + bs.length) = 0 :: hs := by
        rw [Nat.add_comm 1 bs.length]
        simp
      rw [e1]
      simp [beV]
    · intro j hj
      rw [w32_eq (by omega) (by omega)]
      omega
  refine c18 (mo := bs.length) (N := nx1 M 1) (R := fun at_ => at_.k = 224 ∧ 0 ≤ at_.x ∧ at_.x ≤ 4294967295) H7 hmem (by omega) (by omega) (by omega) (fun _ => by rw [hbg]; simp) nx1_keeps (fun at_ h => c21_bytes h) (fun σ7 hne _ => absurd (by rw [hbg]) hne) (fun σ7 r w e ra re new _ hpl H8 hno hra => ?_)
  rw [hbg, Int.toNat_natCast] at hpl
  obtain ⟨rfl, rfl, rfl⟩ := res _ _ _ hpl
  simp only [tTup_tup, pSome_some, tI_int, tB_bool, List.getElem?_cons_zero, List.getElem?_cons_succ]
  refine tL_ok hno ?_
  refine c15 (tI_mk ?_)
  simp only [bne_self_eq_false, bm_false, Bool.not_true]
  clear res hpl hbg hmem hMb
  generalize hL2 : new ++ ((j3, AObj.row .rw (cells8 M)) :: (i6', .row .rw [.int .u8 0]) :: L) = L2 at H8
  have inL : ∀ p ∈ L, p ∈ L2 := fun p h => by rw [← hL2]; simp [h]
  have hra2 : InU ra r L2 := hra.mono fun p h => by rw [← hL2]; exact List.mem_append_left _ h
  refine aloop (rwI2 a b c ra r ls hs L2) (fun i => r.length - i) ?_ (a := 0) ⟨by omega, rfl, H8⟩
  rintro i rg σ8 X hX ⟨hi, rfl, H9⟩
  rw [s5m]
  refine bm_mk (fun h => ?_) (fun h => ?_)
  · have h : i < r.length := by have := of_decide_eq_true h; omega
    obtain ⟨v, hv⟩ : ∃ v, r[i]? = some v := ⟨r[i], by simp [h]⟩
    have hne : r ≠ [] := fun e => by rw [e] at h; simp at h
    obtain ⟨r0, k0, rfl, m0⟩ := (ha.mono inL).resolve_left hne
    obtain ⟨r1, k1, rfl, m1⟩ := hra2.resolve_left hne
    obtain ⟨q0, hq0⟩ := List.getElem?_of_mem m0
    obtain ⟨q1, hq1⟩ := List.getElem?_of_mem m1
    have hvb := h8 v (List.mem_of_getElem? hv)
    refine req_mk (by omega) (req_mk (by omega) ?_)
    simp only [pSome_some, hz5, hz, add_none, Int.toNat_natCast, Nat.mul_one, Nat.zero_add]
    refine req_mk trivial (ldc_mk H9 q1 hq1 (cellsU_get hv) (tI_mk ?_))
    refine req_mk (by omega) (req_mk (by omega) (ldc_mk H9 q0 hq0 (v := .int .u8 v) (by simp [hv]) (tI_mk ?_)))
    rw [Go.IntWalk.u32_in v (by omega)]
    simp only [bne_self_eq_false, bm_false]
    rw [wrap64 (by omega) (by omega)]
    exact hX (i + 1) _ _ (by omega) ⟨by omega, by simp, H9⟩
  clear hX X
  refine newAt_mk H9 fun i7 σ9 H10 => ?_
  refine aloop (rwI3 b c ls hs L2) (fun i => ls.length - i) ?_ (a := 0) ⟨i7, by omega, by simp, rfl, by simpa [flat4] using H10⟩
  rintro i rg σ10 X hX ⟨j, hi, hnzl, rfl, H11⟩
  rw [s5n]
  have hfl : (flat4 (ls.take i)).length = 4 * i := by rw [flat4_len, List.length_take]; omega
  have elen3 : 4 + 4 * i = ([226, 1, 2, 3] ++ flat4 (ls.take i) : List Int).length := by simp [hfl]; omega
  refine bm_mk (fun h => ?_) (fun h => ?_)
  · have h : i < ls.length := by have := of_decide_eq_true h; omega
    obtain ⟨v, hv⟩ : ∃ v, ls[i]? = some v := ⟨ls[i], by simp [h]⟩
    have hne : ls ≠ [] := fun e => by rw [e] at h; simp at h
    obtain ⟨r0, k0, rfl, m0⟩ := (hb.mono inL).resolve_left hne
    obtain ⟨q0, hq0⟩ := List.getElem?_of_mem (List.mem_cons_of_mem (j, AObj.row .rw (cells8 ([226, 1, 2, 3] ++ flat4 (ls.take i)))) m0)
    have hvb := hU v (List.mem_of_getElem? hv)
    refine req_mk (by omega) (req_mk (by omega) ?_)
    simp only [pSome_some, hz, add_none, Int.toNat_natCast, Nat.mul_one, Nat.zero_add]
    refine ldc_mk H11 q0 hq0 (cellsU_get hv) (tI_mk (bm_mk (fun _ => c9live (by simp only [tB_bool])) (fun hv0 => ?_)))
    have hv0 : v ≠ 0 := by simpa using hv0
    refine req_mk (by omega) (req_mk (by omega) (ldc_mk H11 q0 hq0 (cellsU_get hv) (tI_mk ?_)))
    refine c19 H11 hvb.1 hvb.2 fun σ11 jb H12 => tL_mk ?_
    have e4 : 4 = (by4 v).length := rfl
    refine src8_mk (ms := by4 v) H12 (.inr ⟨jb, .rw, rfl, by simp⟩) ?_
    have H13 := H12.perm (L' := (j, .row .rw (cells8 ([226, 1, 2, 3] ++ flat4 (ls.take i)))) :: (jb, .row .rw (cells8 (by4 v))) :: L2) (.swap _ _ _)
    rw [elen3]
    refine app8_mk (ms := by4 v) H13 (by rw [← elen3]; simp [by4]; omega) rfl fun j' σ12 H14 => ?_
    rw [wrap64 (by omega) (by omega), ← elen3]
    refine hX (i + 1) _ _ (by omega) ⟨j', by omega, ?_, ?_, ?_⟩
    · intro u hu
      rw [List.take_add_one, hv] at hu
      rcases List.mem_append.1 hu with h | h
      · exact hnzl u h
      · simp at h; rw [h]; exact hv0
    · simp [by4]; omega
    · have e5 : [226, 1, 2, 3] ++ flat4 (ls.take i) ++ by4 v = [226, 1, 2, 3] ++ flat4 (ls.take (i + 1)) := by
        rw [List.take_add_one, hv, flat4_app]
        simp [flat4]
      rw [← e5]
      exact H14.sub (.cons_cons _ (.cons _ (.refl _)))
  have h : i = ls.length := by have := of_decide_eq_false h; omega
  subst h
  rw [List.take_length] at hnzl H11 elen3
  clear hX X
  refine newAt_mk H11 fun i16 σ11 H12 => ?_
  refine lds_row H12 0 rfl rfl ?_
  have H13 := H12.perm (L' := (j, .row .rw (cells8 ([226, 1, 2, 3] ++ flat4 ls))) :: (i16, .row .rw [.int .u8 0, .int .u8 0, .int .u8 0, .int .u8 0]) :: L2) (.swap _ _ _)
  rw [elen3]
  refine app8_mk (ys := [226, 1, 2, 3] ++ flat4 ls) (ms := [0, 0, 0, 0]) (m := 4) H13 (by rw [← elen3]; simp; omega) rfl fun j4 σ12 H14 => ?_
  refine src8_mk H14 (hc.mono fun p h => List.mem_cons_of_mem _ (List.mem_cons_of_mem _ (inL p h))) ?_
  have elen4 : ([226, 1, 2, 3] ++ flat4 ls : List Int).length + ([0, 0, 0, 0] : List Int).length = ([226, 1, 2, 3] ++ flat4 ls ++ [0, 0, 0, 0]).length := by simp
  rw [elen4]
  refine app8_mk (ys := [226, 1, 2, 3] ++ flat4 ls ++ [0, 0, 0, 0]) (ms := hs) H14 (by rw [← elen4, ← elen3]; simp; omega) rfl fun j5 σ13 H15 => ?_
  simp only
  rw [← List.length_append]
  generalize hM2 : [226, 1, 2, 3] ++ flat4 ls ++ [0, 0, 0, 0] ++ hs = M2 at H15
  have hM2l : M2.length = 8 + 4 * ls.length + hs.length := by rw [← hM2]; simp [flat4_len]; omega
  have hM2b : ∀ c ∈ M2, 0 ≤ c ∧ c < 256 := by
    intro c hc
    rw [← hM2] at hc
    simp only [List.mem_append, List.mem_cons, List.not_mem_nil, or_false] at hc
    rcases hc with (((rfl | rfl | rfl | rfl) | hc) | rfl | rfl | rfl | rfl) | hc
    all_goals first | omega | exact flat4_byte c hc | exact hh c hc
  have hmem2 : Mem (some ⟨j5, 0, none⟩) M2 ((j5, .row .rw (cells8 M2)) :: (i16, .row .rw [.int .u8 0, .int .u8 0, .int .u8 0, .int .u8 0]) :: L2) := ⟨hM2b, by omega, .inr ⟨j5, .rw, [], rfl, by simp⟩⟩
  have hbg2 : bgS M2 0 = (⟨226, 4, 0⟩, 0) := by
    have e : rd M2 0 1 = some 226 := by
      rw [rd_at (M := M2) (j := 0) (n := 1) (x := 0) rfl (by omega), ← hM2]
      simp [beV]
    unfold bgS
    simp only [e]
    rfl
  have res2 : ∀ r w e, PlR (nx1 M2 4) ls.length [] ⟨226, 4, 0⟩ 0 r w e → r = ls ∧ w = true ∧ e = 0 := by
    intro r w e h
    refine plR_row (k := 226) (b := 0) (fun j => ((4 + 4 * j : Nat) : Int)) ?_ ?_ ?_ hnzl ls.length 0 0 r w e (by omega) (by omega) (by omega) (by simpa using h)
    · intro j v hv
      have hj : j < ls.length := (List.getElem?_eq_some_iff.1 hv).1
      have hvb := hU v (List.mem_of_getElem? hv)
      rw [rd_at (j := 4 + 4 * j) rfl (by omega), ← hM2]
      have e1 : ([226, 1, 2, 3] ++ flat4 ls ++ [0, 0, 0, 0] ++ hs).drop (4 + 4 * j) = by4 v ++ (flat4 (ls.drop (j + 1)) ++ [0, 0, 0, 0] ++ hs) := by
        have e2 : ls.drop j = v :: ls.drop (j + 1) := by
          rw [List.drop_eq_getElem_cons hj]
          rw [List.getElem?_eq_getElem hj] at hv
          injection hv with hv
          rw [hv]
        have e3 : ([226, 1, 2, 3] ++ flat4 ls ++ [0, 0, 0, 0] ++ hs) = [226, 1, 2, 3] ++ (flat4 ls ++ ([0, 0, 0, 0] ++ hs)) := by simp
        rw [e3, show 4 + 4 * j = ([226, 1, 2, 3] : List Int).length + 4 * j from rfl, ← List.drop_drop, List.drop_left, List.drop_append_of_le_length (by rw [flat4_len]; omega), flat4_drop, e2]
        simp [flat4]
      rw [e1, List.take_append_of_le_length (by simp [by4]), List.take_of_length_le (by simp [by4]), beV_by4 hvb.1 hvb.2]
    · rw [rd_at (j := 4 + 4 * ls.length) rfl (by omega), ← hM2]
      have e1 : ([226, 1, 2, 3] ++ flat4 ls ++ [0, 0, 0, 0] ++ hs).drop (4 + 4 * ls.length) = [0, 0, 0, 0] ++ hs := by
        have e3 : ([226, 1, 2, 3] ++ flat4 ls ++ [0, 0, 0, 0] ++ hs) = ([226, 1, 2, 3] ++ flat4 ls) ++ ([0, 0, 0, 0] ++ hs) := by simp
        rw [e3, elen3, List.drop_left]
      rw [e1]
      simp [beV]
    · intro j hj
      rw [w32_eq (by omega) (by omega)]
      omega
  refine c18 (mo := ls.length) (N := nx1 M2 4) (R := fun at_ => at_.k = 226 ∧ 0 ≤ at_.x ∧ at_.x ≤ 4294967295) H15 hmem2 (by omega) (by omega) (by omega) (fun _ => by rw [hbg2]; simp) nx1_keeps (fun at_ h => c21_words h) (fun σ7 hne _ => absurd (by rw [hbg2]) hne) (fun σ14 r2 w2 e2 ra2 re2 new2 _ hpl2 H16 hno2 hra3 => ?_)
  rw [hbg2, Int.toNat_natCast] at hpl2
  obtain ⟨rfl, rfl, rfl⟩ := res2 _ _ _ hpl2
  simp only [tTup_tup, pSome_some, tI_int, tB_bool, List.getElem?_cons_zero, List.getElem?_cons_succ]
  refine tL_ok hno2 ?_
  refine c15 (tI_mk ?_)
  simp only [beq_self_eq_true, bm_true]
  refine c16 H16 (hra3.mono fun p h => List.mem_append_left _ h) (hb.mono fun p h => List.mem_append_right _ (List.mem_cons_of_mem _ (List.mem_cons_of_mem _ (inL p h)))) (by omega) ?_
  simp only [tB_bool, bm_true]
  exact c9live (by simp only [tB_bool]))
end
end Go.AI
