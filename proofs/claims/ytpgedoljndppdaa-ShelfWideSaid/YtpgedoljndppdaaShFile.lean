/- What the shelf's functions do with files, from what is known of the state. -/
import Derived.Test.YtpgedoljndppdaaShWord
set_option maxRecDepth 4000
set_option linter.unusedVariables false
set_option linter.unusedSimpArgs false
namespace Go.AI
open Go.Proofs
abbrev rowK (k : IntKind) (j : Nat) (ys : List Int) (fr : List (Nat × AObj)) : List (Nat × AObj) := match ys with | [] => fr | _ => (j, .row .rw (ys.map (.int k))) :: fr
theorem eraseIdx_mid {α : Type} (A : List α) (r : α) (fr : List α) : (A ++ r :: fr).eraseIdx A.length = A ++ fr := by
  induction A with
  | nil => rfl
  | cons a A ih => simp [ih]
section
variable {σ : AS} {K : Value → AS → Prop}
theorem app_mk {k : IntKind} {A fr : List (Nat × AObj)} {i j bytes : Nat} {tmp : AObj} {ys : List Int} {v : Int} {cA : Option Addr} {ce : Nat} {G : Sl → AS → Prop} (H : Has σ ((i, tmp) :: (A ++ rowK k j ys fr))) (hsl : slL j ys = .slice cA ys.length ce)
    (hb : (ys.length + 1) * bytes ≤ 140737488355328) (hG : ∀ j' σ', Has σ' (A ++ rowK k j' (ys ++ [v]) fr) → G ⟨some ⟨j', 0, none⟩, ys.length + 1⟩ σ') : appendTo σ 1 bytes ⟨cA, ys.length⟩ [.int k v] 1 G := by
  cases ys with
  | nil =>
    obtain ⟨rfl, rfl⟩ : cA = none ∧ ce = 0 := by injection hsl with h1 h2 h3; exact ⟨h1.symm, h3.symm⟩
    refine append_nil_mk H (by simpa using hb) fun j' σ2 H2 => hG j' σ2 ?_
    have H3 := H2.sub (.cons_cons _ (.cons _ (.refl _)))
    exact H3.perm (List.perm_middle (l₁ := A) (l₂ := fr))
  | cons c t =>
    obtain ⟨rfl, rfl⟩ : cA = some ⟨j, 0, none⟩ ∧ ce = 1 := by injection hsl with h1 h2 h3; exact ⟨h1.symm, h3.symm⟩
    refine append_mk (q := A.length + 1) (i := j) (k := .rw) (cs := (c :: t).map (.int k)) H ?_ rfl hb (by simp) fun j' σ2 H2 => hG j' σ2 ?_
    · simp [List.getElem?_append_right]
    have e : ((i, tmp) :: (A ++ rowK k j (c :: t) fr)).eraseIdx (A.length + 1) = (i, tmp) :: (A ++ fr) := by
      rw [List.eraseIdx_cons_succ]
      simp only [rowK]
      rw [eraseIdx_mid]
    rw [e] at H2
    have H3 := H2.sub (.cons_cons _ (.cons _ (.refl _)))
    have H4 := H3.perm (List.perm_middle (l₁ := A) (l₂ := fr))
    have et : ((c :: t).map (Value.int k)).take ((c :: t).length * 1) ++ [.int k v] = ((c :: t) ++ [v]).map (.int k) := by
      rw [Nat.mul_one, List.take_of_length_le (by simp)]
      simp
    rw [et] at H4
    exact H4

abbrev fileO (j : Nat) (bs : List Int) (op : Value) : AObj := .row .plain [slL j bs, op]
/-- A file, what lies beside it, its bytes. -/
abbrev fileL (fi j : Nat) (bs : List Int) (op : Value) (mid fr : List (Nat × AObj)) : List (Nat × AObj) := ((fi, fileO j bs op) :: mid) ++ rowK .u8 j bs fr
abbrev hold (fi : Nat) : Value := .agg ⟨[ptr fi]⟩
theorem slL_ex (j : Nat) (bs : List Int) : ∃ a e, slL j bs = .slice a bs.length e ∧ nilOr a e 1 = true ∧ (bs ≠ [] → a = some ⟨j, 0, none⟩ ∧ e = 1) := by
  cases bs with
  | nil => exact ⟨none, 0, rfl, rfl, fun h => absurd rfl h⟩
  | cons c t => exact ⟨_, 1, rfl, rfl, fun _ => ⟨rfl, rfl⟩⟩
theorem tL_ok {a : Option Addr} {n e : Nat} {K : Sl → Prop} (h : nilOr a e 1 = true) (hK : K ⟨a, n⟩) : tL 1 (.slice a n e) K := by
  unfold tL
  simp only [h, chk]
  exact hK
theorem row_at {fi j : Nat} {bs : List Int} {op : Value} {mid fr : List (Nat × AObj)} (H : Has σ (fileL fi j bs op mid fr)) (h : bs ≠ []) : σ j = some (.row .rw (cells8 bs)) := by
  cases bs with
  | nil => exact absurd rfl h
  | cons c t => exact H.at (mid.length + 1) (by simp [fileL, List.getElem?_append_right])
theorem Rb_file {fi j : Nat} {bs : List Int} {op : Value} {mid fr : List (Nat × AObj)} (H : Has σ (fileL fi j bs op mid fr)) {a : Option Addr} (h : bs ≠ [] → a = some ⟨j, 0, none⟩) : Rb σ a 0 bs := by
  by_cases hb : bs = []
  · exact .inl hb
  · exact .inr ⟨j, .rw, cells8 bs, h hb, row_at H hb, fun i v hv => by simp [hv]⟩

theorem c95 {fi j : Nat} {bs : List Int} {op : Value} {mid fr : List (Nat × AObj)} (H : Has σ (fileL fi j bs op mid fr)) (hK : ∀ σ', Has σ' (fileL fi j bs op mid fr) → K (i64 bs.length) σ') : Tri Try.prog 95 [hold fi] σ K := tri_in (by
  rw [s95]
  obtain ⟨a, e, hs, hn, _⟩ := slL_ex j bs
  refine newAt_mk H fun i0 σ1 H1 => ?_
  refine ldc_mk H1 0 rfl rfl ?_
  simp only [tP_ptr, pSome_some, add_none]
  refine ldc_mk H1 1 rfl (v := slL j bs) rfl ?_
  rw [hs]
  exact tL_ok hn (hK σ1 (H1.sub (.cons _ (.refl _)))))
theorem c99 {fi j : Nat} {bs : List Int} {op : Value} {mid fr : List (Nat × AObj)} (H : Has σ (fileL fi j bs op mid fr)) (hl : bs.length ≤ 1099511627776) (hK : ∀ σ', Has σ' (fileL fi j bs op mid fr) → K (i64 (bs.length / 4 : Nat)) σ') : Tri Try.prog 99 [hold fi] σ K := tri_in (by
  rw [s99]
  obtain ⟨a, e, hs, hn, _⟩ := slL_ex j bs
  refine newAt_mk H fun i0 σ1 H1 => ?_
  refine ldc_mk H1 0 rfl rfl ?_
  simp only [tP_ptr, pSome_some, add_none]
  refine ldc_mk H1 1 rfl (v := slL j bs) rfl ?_
  rw [hs]
  refine tL_ok hn ?_
  have : Int.tdiv (bs.length : Int) 4 = ((bs.length / 4 : Nat) : Int) := by
    rw [Int.tdiv_eq_ediv_of_nonneg (by omega)]; omega
  simp only [this]
  rw [wrap64 (by omega) (by omega)]
  exact hK σ1 (H1.sub (.cons _ (.refl _))))
theorem c93 {fi j : Nat} {bs : List Int} {op : Value} {mid fr : List (Nat × AObj)} {i : Int} (H : Has σ (fileL fi j bs op mid fr)) (hl : bs.length ≤ 1099511627776) (h0 : 0 ≤ i) (h1 : i ≤ 1099511627776) (hK : ∀ σ', Has σ' (fileL fi j bs op mid fr) → K (i64 (max 0 (i - bs.length))) σ') : Tri Try.prog 93 [hold fi, i64 i] σ K := tri_in (by
  rw [s93]
  obtain ⟨a, e, hs, hn, _⟩ := slL_ex j bs
  refine newAt_mk H fun i0 σ1 H1 => ?_
  refine ldc_mk H1 0 rfl rfl ?_
  simp only [tP_ptr, pSome_some, add_none]
  refine ldc_mk H1 1 rfl (v := slL j bs) rfl ?_
  rw [hs]
  refine tL_ok hn ?_
  simp only
  rw [wrap64 (by omega) (by omega)]
  have : imax 0 (i - bs.length) = max 0 (i - bs.length) := by unfold imax; split <;> omega
  rw [this]
  exact hK σ1 (H1.sub (.cons _ (.refl _))))
theorem c97 {fi j : Nat} {bs : List Int} {op : Value} {mid fr : List (Nat × AObj)} {i : Int} (H : Has σ (fileL fi j bs op mid fr)) (hl : bs.length ≤ 1099511627776) (h0 : 0 ≤ i) (h1 : i ≤ 1099511627776) (hK : ∀ σ', Has σ' (fileL fi j bs op mid fr) → K (i64 (max 0 (4 * i - bs.length))) σ') : Tri Try.prog 97 [hold fi, i64 i] σ K := tri_in (by
  rw [s97]
  obtain ⟨a, e, hs, hn, _⟩ := slL_ex j bs
  refine newAt_mk H fun i0 σ1 H1 => ?_
  refine ldc_mk H1 0 rfl rfl ?_
  simp only [tP_ptr, pSome_some, add_none]
  refine ldc_mk H1 1 rfl (v := slL j bs) rfl ?_
  rw [hs]
  refine tL_ok hn ?_
  simp only
  rw [wrap64 (n := 4 * i) (by omega) (by omega), wrap64 (by omega) (by omega)]
  have : imax 0 (4 * i - bs.length) = max 0 (4 * i - bs.length) := by unfold imax; split <;> omega
  rw [this]
  exact hK σ1 (H1.sub (.cons _ (.refl _))))
theorem c92 {fi j i : Nat} {bs : List Int} {op : Value} {mid fr : List (Nat × AObj)} {v : Int} (H : Has σ (fileL fi j bs op mid fr)) (hv : bs[i]? = some v) (hb : 0 ≤ v ∧ v < 256) (hK : ∀ σ', Has σ' (fileL fi j bs op mid fr) → K (u32 v) σ') : Tri Try.prog 92 [hold fi, i64 i] σ K := tri_in (by
  rw [s92]
  obtain ⟨a, e, hs, hn, ha⟩ := slL_ex j bs
  have hi : i < bs.length := (List.getElem?_eq_some_iff.1 hv).1
  have hne : bs ≠ [] := fun e => by rw [e] at hi; simp at hi
  obtain ⟨rfl, rfl⟩ := ha hne
  refine newAt_mk H fun i0 σ1 H1 => ?_
  refine ldc_mk H1 0 rfl rfl ?_
  simp only [tP_ptr, pSome_some, add_none]
  refine ldc_mk H1 1 rfl (v := slL j bs) rfl ?_
  rw [hs]
  have H2 := H1.sub (.cons _ (.refl _))
  have hz : szOf Try.prog 5 = 1 := by kernel_rfl
  refine tL_ok hn (req_mk (by omega) (req_mk (by simp only; omega) ?_))
  have hc : (cells8 bs)[i]? = some (.int .u8 v) := by simp [hv]
  simp only [pSome_some, add_none, hz, Int.toNat_natCast, Nat.mul_one, Nat.zero_add, ldc, AS.cell, row_at H2 hne, hc, tI_int]
  rw [Go.IntWalk.u32_in v (by omega)]
  exact hK σ1 H2)
theorem c96 {fi j i : Nat} {bs : List Int} {op : Value} {mid fr : List (Nat × AObj)} (H : Has σ (fileL fi j bs op mid fr)) (hl : bs.length ≤ 1099511627776) (hi : 4 * i + 4 ≤ bs.length) (hb : ∀ c ∈ bs, 0 ≤ c ∧ c < 256)
    (hK : ∀ σ', Has σ' (fileL fi j bs op mid fr) → K (u32 (beV ((bs.drop (4 * i)).take 4))) σ') : Tri Try.prog 96 [hold fi, i64 i] σ K := tri_in (by
  rw [s96]
  obtain ⟨a, e, hs, hn, ha⟩ := slL_ex j bs
  refine newAt_mk H fun i0 σ1 H1 => ?_
  refine ldc_mk H1 0 rfl rfl ?_
  simp only [tP_ptr, pSome_some, add_none]
  refine ldc_mk H1 1 rfl (v := slL j bs) rfl ?_
  rw [hs]
  have H2 := H1.sub (.cons _ (.refl _))
  refine tL_ok hn ?_
  simp only
  rw [wrap64 (n := 4 * (i : Int)) (by omega) (by omega)]
  have e4 : (4 * (i : Int)) = ((4 * i : Nat) : Int) := by omega
  rw [e4]
  refine c100 (Rb_file H2 (fun h => (ha h).1)) hb hl hi ?_
  simp only [tTup_tup, pSome_some, tI_int, List.getElem?_cons_zero, List.getElem?_cons_succ]
  exact hK σ1 H2)

theorem rowK_ne {k : IntKind} {j : Nat} {ys : List Int} {fr : List (Nat × AObj)} (h : ys ≠ []) : rowK k j ys fr = (j, .row .rw (ys.map (.int k))) :: fr := by
  cases ys with
  | nil => exact absurd rfl h
  | cons c t => rfl
theorem slL_ne {j : Nat} {ys : List Int} (h : ys ≠ []) : slL j ys = .slice (some ⟨j, 0, none⟩) ys.length 1 := by
  cases ys with
  | nil => exact absurd rfl h
  | cons c t => rfl
/-- One byte written to a file's bytes: at one of them, or behind all. -/
def putB (bs : List Int) (i : Nat) (c : Int) : List Int := if i < bs.length then bs.set i (putC false c) else bs ++ [putC false c]
theorem putC_byte {c : Int} (h : 0 ≤ c) : 0 ≤ putC false c ∧ putC false c < 256 := by
  unfold putC
  simp only [Bool.false_eq_true, if_false]
  split <;> omega

theorem c94 {fi j i : Nat} {bs : List Int} {op : Value} {mid fr : List (Nat × AObj)} {c : Int} (H : Has σ (fileL fi j bs op mid fr)) (hi : i ≤ bs.length) (hl : bs.length ≤ 1099511627776) (hc : 0 ≤ c)
    (hK : ∀ σ' j', Has σ' (fileL fi j' (putB bs i c) op mid fr) → K (.tuple ⟨[]⟩) σ') : Tri Try.prog 94 [hold fi, i64 i, u32 c] σ K := tri_in (by
  rw [s94]
  obtain ⟨a, e, hs, hn, ha⟩ := slL_ex j bs
  have hz : szOf Try.prog 5 = 1 := by kernel_rfl
  refine newAt_mk H fun i0 σ1 H1 => ?_
  refine ldc_mk H1 0 rfl rfl ?_
  simp only [tP_ptr, pSome_some, add_none]
  refine ldc_mk H1 1 rfl (v := slL j bs) rfl ?_
  rw [hs]
  refine tL_ok hn (bm_mk (fun h => ?_) (fun h => ?_))
  · have h : i = bs.length := by
      have : (i : Int) = (bs.length : Int) := by simpa using h
      omega
    subst h
    refine ldc_mk H1 0 rfl rfl ?_
    simp only [tP_ptr]
    refine ldc_mk H1 0 rfl rfl ?_
    simp only [tP_ptr, pSome_some, add_none]
    refine ldc_mk H1 1 rfl (v := slL j bs) rfl ?_
    rw [hs]
    refine tL_ok hn ?_
    refine newAt_mk H1 fun i1 σ2 H2 => ?_
    refine ldc_mk H2 2 rfl (v := slL j bs) rfl ?_
    rw [hs]
    refine tL_ok hn ⟨rfl, ?_⟩
    refine ldc_mk H2 1 rfl rfl ?_
    simp only [tP_ptr]
    refine ⟨by first | rfl | trivial, ldc_mk H2 1 rfl rfl ?_⟩
    simp only [tP_ptr]
    refine ⟨by first | rfl | trivial, lds_mk H2 0 rfl (by simp) ?_⟩
    refine app_mk (k := .u8) (v := 0) (A := (i0, .row .plain [ptr fi]) :: (fi, fileO j bs op) :: mid) (fr := fr) H2 hs (by omega) fun j' σ3 H3 => ?_
    refine ldc_mk H3 0 rfl rfl ?_
    simp only [tP_ptr, pSome_some, add_none]
    refine ⟨by first | rfl | trivial, put1_mk H3 1 rfl rfl (by simp) fun σ4 H4 => ?_⟩
    refine ldc_mk H4 0 rfl rfl ?_
    simp only [tP_ptr, pSome_some, add_none]
    refine ldc_mk H4 1 rfl rfl (tL_mk ?_)
    refine c41 hc (tI_mk ?_)
    refine ldc_mk H4 1 rfl rfl (tL_mk ⟨rfl, ?_⟩)
    refine ldc_mk H4 0 rfl rfl ?_
    simp only [tP_ptr]
    refine ⟨by first | rfl | trivial, req_mk (by omega) (req_mk (by omega) ?_)⟩
    simp only [pSome_some, add_none, hz, Int.toNat_natCast, Nat.mul_one, Nat.zero_add]
    have hne : bs ++ [(0 : Int)] ≠ [] := by simp
    rw [rowK_ne hne] at H4
    refine put1_mk (cs := cells8 (bs ++ [0])) (k := .rw) H4 (mid.length + 2) (by simp [List.getElem?_append_right]) rfl (by simp) fun σ5 H5 => ?_
    have H6 := H5.sub (L' := fileL fi j' (putB bs bs.length c) op mid fr) (by
      have e1 : (cells8 (bs ++ [0])).set bs.length (.int .u8 (putC false c)) = cells8 (bs ++ [putC false c]) := by simp [List.map_append]
      have e2 : putB bs bs.length c = bs ++ [putC false c] := by simp [putB]
      rw [e1, e2]
      simp only [fileL, fileO]
      rw [slL_ne (by simp), rowK_ne (by simp)]
      simp [List.set_append_right])
    exact hK σ5 j' H6
  · have hlt : i < bs.length := by
      have : (i : Int) ≠ (bs.length : Int) := by simpa using h
      omega
    have hne : bs ≠ [] := fun e => by rw [e] at hlt; simp at hlt
    obtain ⟨rfl, rfl⟩ := ha hne
    refine ldc_mk H1 0 rfl rfl ?_
    simp only [tP_ptr, pSome_some, add_none]
    refine ldc_mk H1 1 rfl (v := slL j bs) rfl ?_
    rw [hs]
    refine tL_ok hn ?_
    refine c41 hc (tI_mk ?_)
    refine ldc_mk H1 1 rfl (v := slL j bs) rfl ?_
    rw [hs]
    refine tL_ok hn ⟨rfl, ?_⟩
    refine ldc_mk H1 0 rfl rfl ?_
    simp only [tP_ptr]
    refine ⟨by first | rfl | trivial, req_mk (by omega) (req_mk (by show (i : Int) < (bs.length : Int); omega) ?_)⟩
    simp only [pSome_some, add_none, hz, Int.toNat_natCast, Nat.mul_one, Nat.zero_add]
    have H1' := H1
    simp only [fileL] at H1'
    rw [rowK_ne hne] at H1'
    refine put1_mk (cs := cells8 bs) (k := .rw) H1' (mid.length + 2) (by simp [List.getElem?_append_right]) rfl (by simp; omega) fun σ5 H5 => ?_
    have H6 := H5.sub (L' := fileL fi j (putB bs i c) op mid fr) (by
      have e1 : (cells8 bs).set i (.int .u8 (putC false c)) = cells8 (bs.set i (putC false c)) := by simp [List.map_set]
      have e2 : putB bs i c = bs.set i (putC false c) := by simp [putB, hlt]
      have e3 : bs.set i (putC false c) ≠ [] := by simpa using hne
      rw [e1, e2]
      simp only [fileL, fileO]
      rw [slL_ne e3, slL_ne hne, rowK_ne e3]
      simp [List.set_append_right])
    exact hK σ5 j H6)

abbrev pad4 (bs : List Int) (i : Nat) : List Int := bs ++ List.replicate (4 * i + 4 - bs.length) 0
/-- Four bytes written to a file's bytes. -/
def put4 (bs : List Int) (i : Nat) (c : Int) : List Int := (pad4 bs i).take (4 * i) ++ by4 c ++ (pad4 bs i).drop (4 * i + 4)
def wideI (x fi i : Nat) (c : Int) (bs : List Int) (op : Value) (mid fr : List (Nat × AObj)) (d : Nat) (r : Regs) (σ : AS) : Prop :=
  d ≤ 4 * i + 4 - bs.length ∧ r = [(1, some (i64 i)), (2, some (u32 c)), (3, some (ptr x))] ∧ ∃ j, Has σ ((x, .row .plain [ptr fi]) :: fileL fi j (bs ++ List.replicate d 0) op mid fr)
theorem c98 {fi j i : Nat} {bs : List Int} {op : Value} {mid fr : List (Nat × AObj)} {c : Int} (H : Has σ (fileL fi j bs op mid fr)) (hi : 4 * i ≤ bs.length) (hl : bs.length ≤ 1099511627776) (hc : 0 ≤ c) (hc1 : c ≤ 4294967295)
    (hK : ∀ σ' j', Has σ' (fileL fi j' (put4 bs i c) op mid fr) → K (.tuple ⟨[]⟩) σ') : Tri Try.prog 98 [hold fi, i64 i, u32 c] σ K := tri_in (by
  rw [s98]
  have hz : szOf Try.prog 5 = 1 := by kernel_rfl
  refine newAt_mk H fun x σ1 H1 => ?_
  refine aloop (wideI x fi i c bs op mid fr) (fun d => 4 * i + 4 - bs.length - d) ?_ (a := 0) ⟨Nat.zero_le _, rfl, j, by simpa using H1⟩
  rintro d r σ2 X hX ⟨hd, rfl, j2, H2⟩
  rw [s98l]
  have w1 : IntKind.wrap .i64 (4 * (i : Int)) = ((4 * i : Nat) : Int) := by rw [wrap64 (by omega) (by omega)]; omega
  have w2 : IntKind.wrap .i64 (((4 * i : Nat) : Int) + 4) = ((4 * i + 4 : Nat) : Int) := by rw [wrap64 (by omega) (by omega)]; omega
  rw [w1, w2]
  generalize hbs : bs ++ List.replicate d 0 = b2 at H2
  have hb2 : b2.length = bs.length + d := by rw [← hbs]; simp
  obtain ⟨a, e, hs, hn, ha⟩ := slL_ex j2 b2
  refine ldc_mk H2 0 rfl rfl ?_
  simp only [tP_ptr, pSome_some, add_none]
  refine ldc_mk H2 1 rfl (v := slL j2 b2) rfl ?_
  rw [hs]
  refine tL_ok hn (bm_mk (fun h => ?_) (fun h => ?_))
  · have hlt : b2.length < 4 * i + 4 := by
      have : (b2.length : Int) < ((4 * i + 4 : Nat) : Int) := of_decide_eq_true h
      omega
    refine ldc_mk H2 0 rfl rfl ?_
    simp only [tP_ptr]
    refine ldc_mk H2 0 rfl rfl ?_
    simp only [tP_ptr, pSome_some, add_none]
    refine ldc_mk H2 1 rfl (v := slL j2 b2) rfl ?_
    rw [hs]
    refine tL_ok hn ?_
    refine newAt_mk H2 fun i1 σ3 H3 => ?_
    refine ldc_mk H3 2 rfl (v := slL j2 b2) rfl ?_
    rw [hs]
    refine tL_ok hn ⟨by first | rfl | trivial, ?_⟩
    refine ldc_mk H3 1 rfl rfl ?_
    simp only [tP_ptr]
    refine ⟨by first | rfl | trivial, ldc_mk H3 1 rfl rfl ?_⟩
    simp only [tP_ptr]
    refine ⟨by first | rfl | trivial, lds_mk H3 0 rfl (by simp) ?_⟩
    refine app_mk (k := .u8) (v := 0) (A := (x, .row .plain [ptr fi]) :: (fi, fileO j2 b2 op) :: mid) (fr := fr) H3 hs (by omega) fun j' σ4 H4 => ?_
    refine ldc_mk H4 0 rfl rfl ?_
    simp only [tP_ptr, pSome_some, add_none]
    refine ⟨by first | rfl | trivial, put1_mk H4 1 rfl rfl (by simp) fun σ5 H5 => ?_⟩
    refine hX (d + 1) _ _ (by omega) ⟨by omega, rfl, j', ?_⟩
    have e1 : bs ++ List.replicate (d + 1) 0 = b2 ++ [0] := by rw [← hbs, List.append_assoc, List.replicate_succ']
    rw [e1]
    refine H5.sub ?_
    simp only [fileL, fileO]
    rw [slL_ne (ys := b2 ++ [0]) (by simp), rowK_ne (ys := b2 ++ [0]) (by simp)]
    simp
  · have hge : 4 * i + 4 ≤ b2.length := by
      have : ¬ (b2.length : Int) < ((4 * i + 4 : Nat) : Int) := of_decide_eq_false h
      omega
    have hpad : b2 = pad4 bs i := by
      rw [← hbs]
      have : d = 4 * i + 4 - bs.length := by omega
      rw [this]
    have hne : b2 ≠ [] := fun e => by rw [e] at hge; simp at hge
    obtain ⟨rfl, rfl⟩ := ha hne
    refine ldc_mk H2 0 rfl rfl ?_
    simp only [tP_ptr, pSome_some, add_none]
    refine ldc_mk H2 1 rfl (v := slL j2 b2) rfl ?_
    rw [hs]
    refine tL_ok hn (req_mk (by omega) (req_mk (by show ((4 * i : Nat) : Int) ≤ (b2.length : Int); omega) (req_mk (by simp) ?_)))
    refine c101 H2 hc hc1 fun σ3 jt H3 => tL_mk ?_
    refine ldc_mk H3 2 rfl (v := slL j2 b2) rfl ?_
    rw [hs]
    refine tL_ok hn ⟨by first | rfl | trivial, ?_⟩
    refine ldc_mk H3 1 rfl rfl ?_
    simp only [tP_ptr]
    refine ⟨by first | rfl | trivial, ?_⟩
    simp only [srcCells]
    refine req_mk (by first | rfl | trivial) (lds_mk H3 0 rfl (by simp [by4]) ?_)
    have en : ((b2.length : Int) - ((4 * i : Nat) : Int)).toNat = b2.length - 4 * i := by omega
    simp only [copyTo, Option.map, add_none, hz, Int.toNat_natCast, Nat.mul_one, Nat.zero_add, List.drop_zero]
    have ev : (List.take (min 4 ((b2.length : Int) - ((4 * i : Nat) : Int)).toNat) (List.take 4 (cells8 (by4 c)))) = cells8 (by4 c) := by
      rw [en, Nat.min_eq_left (by omega)]
      simp [by4]
    rw [ev]
    simp only [fileL] at H3
    rw [rowK_ne hne] at H3
    refine puts_mk (cs := cells8 b2) (k := .rw) H3 (mid.length + 3) (by simp [List.getElem?_append_right]) rfl (by simp [by4]; omega) fun σ4 H4 => ?_
    have H5 := H4.sub (L' := fileL fi j2 (put4 bs i c) op mid fr) (by
      have e1 : (cells8 b2).take (4 * i) ++ cells8 (by4 c) ++ (cells8 b2).drop (4 * i + (cells8 (by4 c)).length) = cells8 (put4 bs i c) := by
        unfold put4
        rw [← hpad]
        simp [by4, List.map_take, List.map_drop]
      have e3 : put4 bs i c ≠ [] := by simp [put4, by4]
      have e4 : (put4 bs i c).length = b2.length := by
        unfold put4
        rw [← hpad]
        simp [by4]
        omega
      rw [e1]
      simp only [fileL, fileO]
      rw [slL_ne e3, slL_ne hne, rowK_ne e3, e4]
      simp [List.set_append_right])
    exact hK σ4 j2 H5)
end
end Go.AI
