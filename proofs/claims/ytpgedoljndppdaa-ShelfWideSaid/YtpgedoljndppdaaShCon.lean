/- Lemmas of the abstract condition ahead of code (a part of the library that the claim's proof stands on); they hold with no condition but those that each names. -/
import Derived.Test.YtpgedoljndppdaaShForm
import Derived.IntWalk
set_option linter.unusedSimpArgs false
set_option linter.unusedVariables false
/- What the shelf's functions do, from what is known of the state. -/
namespace Go.AI
open Go.Proofs
theorem noGoS : noGo Try.prog = true := by kernel_rfl
theorem tri_in {f : Nat} {args : List Value} {σ : AS} {K : Value → AS → Prop} (h : fw Try.prog hintsS (Tri Try.prog) f args σ K) : Tri Try.prog f args σ K := tri_fw Try.checked.mixed noGoS h

theorem add_none (b o n : Nat) : Addr.add ⟨b, o, none⟩ n = ⟨b, o + n, none⟩ := by
  unfold Addr.add
  by_cases h : n = 0
  · subst h; simp
  · simp [h]
section
variable {σ : AS} {K : Value → AS → Prop} {k : RK} {xo : AObj} {s x b r st : Nat} {n i c most last place mode : Int}
abbrev ptr (i : Nat) : Value := .pointer (some ⟨i, 0, none⟩)
abbrev i64 (n : Int) : Value := .int .i64 n
abbrev u32 (n : Int) : Value := .int .u32 n
abbrev shelfO (most last : Int) (f st : Nat) : AObj := .row .plain [i64 most, i64 last, .map (some f), .map (some st)]
abbrev streamO (on f : Value) (mode place : Int) (rd wr : Int) : AObj := .row .plain [on, f, i64 mode, i64 place, u32 rd, u32 wr]
abbrev bufO (a : Option Addr) (n : Nat) (w : Bool) : AObj := .row .plain [.slice a n 1, .bool w]

theorem c10 (hK : K (i64 n) σ) : Tri Try.prog 10 [i64 n] σ K := tri_in (by rw [s10]; exact hK)

theorem c29 {f : Nat} {es : List MapEntry} {cn j : Nat} (hs : σ s = some (shelfO most last f st)) (hm : σ st = some (.map es cn)) (hf : Instr.findNow (.int .i64) (i64 n) es 0 = some (some (j, ptr x)))
    (hK : K (.tuple ⟨[ptr x, i64 0]⟩) σ) : Tri Try.prog 29 [ptr s, i64 n] σ K := tri_in (by
  rw [s29]
  simp [ldc, AS.cell, hs, pSome, tM, mget, AS.ents, hm, hf, tP, ptrEq, bmatch]
  exact hK)
theorem c29none {f : Nat} {es : List MapEntry} {cn : Nat} (hs : σ s = some (shelfO most last f st)) (hm : σ st = some (.map es cn)) (hf : Instr.findNow (.int .i64) (i64 n) es 0 = some none)
    (hK : K (.tuple ⟨[.pointer none, i64 5]⟩) σ) : Tri Try.prog 29 [ptr s, i64 n] σ K := tri_in (by
  rw [s29]
  simp [ldc, AS.cell, hs, pSome, tM, mget, AS.ents, hm, hf, tP, ptrEq, bmatch]
  exact hK)
theorem c40 {on f : Value} {rd wr : Int} (hx : σ x = some (streamO on f mode place rd wr)) (hK : K (.bool (mode == 2 || mode == 3)) σ) : Tri Try.prog 40 [ptr x] σ K := tri_in (by
  rw [s40]
  simp [ldc, AS.cell, hx, pSome, tI, chk, ikEq]
  refine bm_mk (fun h => ?_) (fun h => ?_)
  · rw [h] at hK; exact hK
  · rw [h] at hK; exact hK)
theorem c105 {a : Option Addr} {m : Nat} {w : Bool} (hb : σ b = some (bufO a m w)) (hK : K (i64 m) σ) : Tri Try.prog 105 [ptr b] σ K := tri_in (by
  rw [s105]
  simp [ldc, AS.cell, hb, pSome, tL, chk, nilOr]
  exact hK)
theorem c33 {f : Nat} {es : List MapEntry} {cn j : Nat} {on h : Value} {rd wr : Int} (hs : σ s = some (shelfO most last f st)) (hm : σ st = some (.map es cn)) (hf : Instr.findNow (.int .i64) (i64 n) es 0 = some (some (j, ptr x)))
    (hx : σ x = some (streamO on h mode place rd wr)) (hmode : mode = 2 ∨ mode = 3) (hK : K (.tuple ⟨[ptr x, i64 0]⟩) σ) : Tri Try.prog 33 [ptr s, i64 n] σ K := tri_in (by
  rw [s33]
  refine c29 hs hm hf ?_
  simp [tTup, pSome, tP, tI, chk, ikEq, bmatch]
  refine c40 hx ?_
  simp [tB]
  rcases hmode with rfl | rfl <;> simpa [bmatch] using hK)
theorem c103 {a : Nat} {m : Nat} {w : Bool} {cs : List Value} {v : Int} (hb : σ b = some (bufO (some ⟨a, 0, none⟩) m w)) (ha : σ a = some (.row .rw cs)) (h0 : 0 ≤ i) (h1 : i < m) (hv : cs[i.toNat]? = some (u32 v)) (hK : K (u32 v) σ) :
    Tri Try.prog 103 [ptr b, i64 i] σ K := tri_in (by
  rw [s103]
  have e : szOf Try.prog 32 = 1 := by kernel_rfl
  simp [ldc, AS.cell, hb, pSome, tL, chk, nilOr, req_iff, h0, h1, e, add_none, ha, hv, tI, ikEq]
  exact hK)
theorem meth_size_buf : methodOf Try.prog 87 "grotto/shelf.size" = some 105 := by kernel_rfl
theorem meth_at_buf : methodOf Try.prog 87 "grotto/shelf.at" = some 103 := by kernel_rfl
theorem wrap64 {n : Int} (h0 : -9223372036854775808 ≤ n) (h1 : n ≤ 9223372036854775807) : IntKind.wrap .i64 n = n := by
  simp [IntKind.wrap, IntKind.signed, IntKind.bits]
  omega
abbrev bufL (x s st b a : Nat) (most last : Int) (f : Nat) (es : List MapEntry) (cn : Nat) (h : Value) (mode place rd wr : Int) (m : Nat) (w : Bool) (cs : List Value) (fr : List (Nat × AObj)) : List (Nat × AObj) :=
  (x, streamO (.iface 87 (ptr b)) h mode place rd wr) :: (s, shelfO most last f st) :: (st, .map es cn) :: (b, bufO (some ⟨a, 0, none⟩) m w) :: (a, .row .rw cs) :: fr
theorem c16_end {a f cn j m : Nat} {es : List MapEntry} {h : Value} {rd wr : Int} {w : Bool} {cs : List Value} {fr : List (Nat × AObj)} (H : Has σ (bufL x s st b a most last f es cn h mode place rd wr m w cs fr))
    (hf : Instr.findNow (.int .i64) (i64 n) es 0 = some (some (j, ptr x))) (hmode : mode = 2 ∨ mode = 3) (hp : (m : Int) ≤ place) (hK : K (.tuple ⟨[u32 0, .bool false, i64 0]⟩) σ) : Tri Try.prog 16 [ptr s, i64 n] σ K := tri_in (by
  have h0 := H.at 0 rfl
  have h1 := H.at 1 rfl
  have h2 := H.at 2 rfl
  have h3 := H.at 3 rfl
  have h4 := H.at 4 rfl
  rw [s16]
  refine c33 h1 h2 hf h0 hmode ?_
  simp [tTup, pSome, tP, tI, chk, ikEq, bmatch, ldc, AS.cell, h0, add_none, tIf, meth_size_buf]
  refine c105 h3 ?_
  simp [tI, chk, ikEq, h0, hp, hK])
theorem c16_more {a f cn j m : Nat} {es : List MapEntry} {h : Value} {rd wr v : Int} {w : Bool} {cs : List Value} {fr : List (Nat × AObj)} (H : Has σ (bufL x s st b a most last f es cn h mode place rd wr m w cs fr))
    (hf : Instr.findNow (.int .i64) (i64 n) es 0 = some (some (j, ptr x))) (hmode : mode = 2 ∨ mode = 3) (hp0 : 0 ≤ place) (hp : place < m) (hm : m ≤ 4611686018427387904) (hv : cs[place.toNat]? = some (u32 v))
    (hK : ∀ σ', Has σ' (bufL x s st b a most last f es cn h mode (place + 1) (IntKind.wrap .u32 (rd + 1)) wr m w cs fr) → K (.tuple ⟨[u32 v, .bool true, i64 0]⟩) σ') : Tri Try.prog 16 [ptr s, i64 n] σ K := tri_in (by
  have h0 := H.at 0 rfl
  have h1 := H.at 1 rfl
  have h2 := H.at 2 rfl
  have h3 := H.at 3 rfl
  have h4 := H.at 4 rfl
  rw [s16]
  refine c33 h1 h2 hf h0 hmode ?_
  simp [tTup, pSome, tP, tI, chk, ikEq, bmatch, ldc, AS.cell, h0, add_none, tIf, meth_size_buf]
  refine c105 h3 ?_
  have hn : ¬ (m : Int) ≤ place := by omega
  simp [tI, chk, ikEq, h0, hn, wrap64 (n := place + 1) (by omega) (by omega)]
  refine put1_mk H 0 rfl rfl (by simp) fun σ1 H1 => ?_
  have g0 := H1.at 0 rfl
  simp [g0]
  refine put1_mk H1 0 rfl rfl (by simp) fun σ2 H2 => ?_
  have q0 := H2.at 0 rfl
  simp [q0, meth_at_buf]
  rw [wrap64 (by omega) (by omega)]
  refine c103 (H2.at 3 rfl) (H2.at 4 rfl) hp0 (by omega) hv ?_
  simp [tI, chk, ikEq]
  exact hK σ2 H2)
/-- A line: up to a 10, no longer than n. -/
def lineOf : Nat → List Int → List Int
  | 0, _ => []
  | _ + 1, [] => []
  | n + 1, c :: r => if c = 10 then [c] else c :: lineOf n r
abbrev cellsU (l : List Int) : List Value := l.map u32
/-- The row that a new slice of numbers is: none, if it has none. -/
abbrev rowL (j : Nat) (ys : List Int) (fr : List (Nat × AObj)) : List (Nat × AObj) := match ys with | [] => fr | _ => (j, .row .rw (cellsU ys)) :: fr
abbrev slL (j : Nat) (ys : List Int) : Value := match ys with | [] => .slice none 0 0 | _ => .slice (some ⟨j, 0, none⟩) ys.length 1
theorem wrap32_add (a b : Int) : IntKind.wrap .u32 (IntKind.wrap .u32 a + b) = IntKind.wrap .u32 (a + b) := by
  simp [IntKind.wrap, IntKind.signed, IntKind.bits]
theorem cellsU_get {l : List Int} {i : Nat} {v : Int} (h : l[i]? = some v) : (cellsU l)[i]? = some (u32 v) := by simp [h]
theorem Has.mv5 {A c1 c2 c3 c4 c5 : Nat × AObj} {fr : List (Nat × AObj)} (h : Has σ (A :: c1 :: c2 :: c3 :: c4 :: c5 :: fr)) : Has σ (c1 :: c2 :: c3 :: c4 :: c5 :: A :: fr) :=
  h.perm (List.perm_middle (l₁ := [c1, c2, c3, c4, c5]) (l₂ := fr) (a := A))

def lineI (x s st b a : Nat) (mo last : Int) (f : Nat) (es : List MapEntry) (cn : Nat) (h : Value) (mode : Int) (p : Nat) (rd wr : Int) (w : Bool) (l : List Int) (fr : List (Nat × AObj)) (n most : Int) (ys : List Int) (r : Regs) (σ : AS) : Prop :=
  ∃ j, r = [(0, some (ptr s)), (1, some (i64 n)), (2, some (i64 most)), (10, some (slL j ys))] ∧
    Has σ (bufL x s st b a mo last f es cn h mode ((p + ys.length : Nat) : Int) (IntKind.wrap .u32 (rd + ys.length)) wr l.length w (cellsU l) (rowL j ys fr)) ∧
    lineOf most.toNat (l.drop p) = ys ++ lineOf (most.toNat - ys.length) (l.drop (p + ys.length)) ∧ ys.length ≤ most.toNat ∧ p + ys.length ≤ l.length

theorem c19 {a f cn j p : Nat} {es : List MapEntry} {h : Value} {rd wr : Int} {w : Bool} {l : List Int} {fr : List (Nat × AObj)} {mo : Int} (hrd : IntKind.wrap .u32 rd = rd)
    (H : Has σ (bufL x s st b a mo last f es cn h mode (p : Int) rd wr l.length w (cellsU l) fr))
    (hf : Instr.findNow (.int .i64) (i64 n) es 0 = some (some (j, ptr x))) (hmode : mode = 2 ∨ mode = 3) (hm : l.length ≤ 1099511627776) (hp : p ≤ l.length)
    (hK : ∀ σ' j', Has σ' (bufL x s st b a mo last f es cn h mode ((p + (lineOf most.toNat (l.drop p)).length : Nat) : Int) (IntKind.wrap .u32 (rd + (lineOf most.toNat (l.drop p)).length)) wr l.length w (cellsU l) (rowL j' (lineOf most.toNat (l.drop p)) fr)) →
      K (.tuple ⟨[slL j' (lineOf most.toNat (l.drop p)), i64 0]⟩) σ') : Tri Try.prog 19 [ptr s, i64 n, i64 most] σ K := tri_in (by
  rw [s19]
  refine c33 (H.at 1 rfl) (H.at 2 rfl) hf (H.at 0 rfl) hmode ?_
  simp only [tTup, pSome, tP, tI, chk, ikEq, bmatch, List.getElem?_cons_zero, List.getElem?_cons_succ]
  refine aloop (lineI x s st b a mo last f es cn h mode p rd wr w l fr n most) (fun ys => most.toNat - ys.length) ?_ (a := []) ⟨0, rfl, by simpa [hrd] using H, by simp, by simp, by simpa using hp⟩
  intro ys r σ X hX ⟨j1, hr, HI, hl, hle, hpl⟩
  obtain ⟨a0, e0, hsl, hno⟩ : ∃ a0 e0, slL j1 ys = .slice a0 ys.length e0 ∧ nilOr a0 e0 1 = true := by
    cases ys with
    | nil => exact ⟨none, 0, rfl, rfl⟩
    | cons c t => exact ⟨_, 1, rfl, rfl⟩
  subst hr
  have done : lineOf most.toNat (l.drop p) = ys → K (.tuple ⟨[.slice a0 ys.length e0, i64 0]⟩) σ := fun e => by
    have := hK σ j1
    rw [e] at this
    rw [← hsl]
    exact this HI
  rw [hsl, s19l]
  refine bm_mk (fun hlt => ?_) (fun hge => ?_)
  · have hlt : (ys.length : Int) < most := of_decide_eq_true hlt
    by_cases hpe : p + ys.length < l.length
    · obtain ⟨v, hv⟩ : ∃ v, l[p + ys.length]? = some v := ⟨l[p + ys.length], by simp [hpe]⟩
      have hdrop : l.drop (p + ys.length) = v :: l.drop (p + ys.length + 1) := by
        rw [List.drop_eq_getElem_cons hpe]
        rw [List.getElem?_eq_getElem hpe] at hv
        injection hv with hv
        rw [hv]
      obtain ⟨q, hq⟩ : ∃ q, most.toNat - ys.length = q + 1 := ⟨most.toNat - ys.length - 1, by omega⟩
      rw [hq, hdrop] at hl
      refine c16_more HI hf hmode (by omega) (by exact_mod_cast hpe) (by omega) (v := v) (by rw [Int.toNat_natCast]; exact cellsU_get hv) fun σ1 H1 => ?_
      simp only [tTup, pSome, tI, chk, ikEq, tB, bmatch, List.getElem?_cons_zero, List.getElem?_cons_succ, Bool.not_true]
      refine newAt_mk H1 fun i1 σ2 H2 => ?_
      have hz : szOf Try.prog 32 = 1 := by kernel_rfl
      rw [hz, hno]
      refine lds_mk H2 0 rfl (by simp) ?_
      have fin : ∀ j' σ', Has σ' (bufL x s st b a mo last f es cn h mode ((p + ys.length : Nat) + 1 : Int) (IntKind.wrap .u32 (IntKind.wrap .u32 (rd + ys.length) + 1)) wr l.length w (cellsU l) ((j', .row .rw (cellsU ys ++ [u32 v])) :: fr)) →
          bmatch (v == 10) (K (.tuple ⟨[.slice (some ⟨j', 0, none⟩) (ys.length + 1) 1, i64 0]⟩) σ') (X [(0, some (ptr s)), (1, some (i64 n)), (2, some (i64 most)), (10, some (.slice (some ⟨j', 0, none⟩) (ys.length + 1) 1))] σ') := by
        intro j' σ' H'
        have er : rowL j' (ys ++ [v]) fr = (j', .row .rw (cellsU ys ++ [u32 v])) :: fr := by cases ys <;> simp [rowL, cellsU]
        have es' : slL j' (ys ++ [v]) = .slice (some ⟨j', 0, none⟩) (ys.length + 1) 1 := by cases ys <;> simp [slL]
        have ep : ((p + ys.length : Nat) + 1 : Int) = ((p + (ys ++ [v]).length : Nat) : Int) := by simp; omega
        have ew : IntKind.wrap .u32 (IntKind.wrap .u32 (rd + ys.length) + 1) = IntKind.wrap .u32 (rd + (ys ++ [v]).length) := by rw [wrap32_add]; simp [Int.add_assoc]
        rw [← er, ep, ew] at H'
        rw [← es']
        refine bm_mk (fun h10 => ?_) (fun h10 => ?_)
        · have h10 : v = 10 := by simpa using h10
          have e : lineOf most.toNat (l.drop p) = ys ++ [v] := by rw [hl]; simp [lineOf, h10]
          have := hK σ' j'
          rw [e] at this
          exact this H'
        · have h10 : v ≠ 10 := by simpa using h10
          refine hX (ys ++ [v]) _ _ (by simp; omega) ⟨j', rfl, H', ?_, by simp; omega, by simp; omega⟩
          rw [hl]
          have : most.toNat - (ys ++ [v]).length = q := by simp; omega
          rw [this]
          simp [lineOf, h10, Nat.add_assoc]
      cases ys with
      | nil =>
        obtain ⟨rfl, rfl⟩ : a0 = none ∧ e0 = 0 := by injection hsl with h1 h2 h3; exact ⟨h1.symm, h3.symm⟩
        refine append_nil_mk H2 (by omega) fun j' σ3 H3 => ?_
        have H4 := (H3.sub (.cons_cons _ (.cons _ (.refl _)))).mv5
        exact fin j' σ3 (by simpa using H4)
      | cons c t =>
        obtain ⟨rfl, rfl⟩ : a0 = some ⟨j1, 0, none⟩ ∧ e0 = 1 := by injection hsl with h1 h2 h3; exact ⟨h1.symm, h3.symm⟩
        refine append_mk H2 6 rfl rfl (by simp at *; omega) (by simp) fun j' σ3 H3 => ?_
        have H4 := (H3.sub (.cons_cons _ (.cons _ (.refl _)))).mv5
        refine fin j' σ3 ?_
        have et : (cellsU (c :: t)).take ((c :: t).length * 1) = cellsU (c :: t) := by rw [Nat.mul_one]; exact List.take_of_length_le (by simp)
        rw [et] at H4
        exact H4
    · refine c16_end HI hf hmode (by omega) ?_
      simp only [tTup, pSome, tI, chk, ikEq, tB, bmatch, List.getElem?_cons_zero, List.getElem?_cons_succ, Bool.not_false]
      refine done ?_
      rw [hl, List.drop_eq_nil_of_le (by omega)]
      cases (most.toNat - ys.length) <;> simp [lineOf]
  · have hge : ¬ (ys.length : Int) < most := of_decide_eq_false hge
    refine done ?_
    rw [hl, show most.toNat - ys.length = 0 by omega]
    simp [lineOf])

theorem c9 {L : List (Nat × AObj)} (H : Has σ L) (h0 : 0 ≤ n) (h1 : n ≤ 1048576) (hK : ∀ σ' s f st, Has σ' ((s, shelfO n 0 f st) :: (st, .map [] 0) :: (f, .map [] 0) :: L) → K (.tuple ⟨[ptr s, i64 0]⟩) σ') :
    Tri Try.prog 9 [i64 n] σ K := tri_in (by
  rw [s9]
  have e1 : ¬ n < 0 := by omega
  have e2 : ¬ n > 1048576 := by omega
  simp only [e1, e2, decide_false, bmatch]
  refine newAt_mk H fun f σ1 H1 => newAt_mk H1 fun st σ2 H2 => newAt_mk H2 fun s σ3 H3 => hK σ3 s f st H3)

theorem c28 {f cn : Nat} {es : List MapEntry} {fr : List (Nat × AObj)} (H : Has σ ((x, xo) :: (s, shelfO most last f st) :: (st, .map es cn) :: fr)) (h0 : 0 ≤ last) (h1 : last ≤ 4611686018427387904) (hf : Instr.findNow (.int .i64) (i64 (last + 1)) es 0 = some none)
    (hK : ∀ σ', Has σ' ((x, xo) :: (s, shelfO most (last + 1) f st) :: (st, .map (es ++ [{ key := i64 (last + 1), val := ptr x, born := cn }]) (cn + 1)) :: fr) → K (i64 (last + 1)) σ') : Tri Try.prog 28 [ptr s, ptr x] σ K := tri_in (by
  rw [s28]
  refine ldc_mk H 1 rfl rfl (tI_mk ?_)
  rw [wrap64 (by omega) (by omega)]
  refine put1_mk H 1 rfl rfl (by simp) fun σ1 H1 => ?_
  refine ldc_mk H1 1 rfl rfl ?_
  simp only [tM]
  refine ldc_mk H1 1 rfl rfl (tI_mk ?_)
  simp only [pSome]
  refine mset_new_mk H1 2 rfl hf fun σ2 H2 => ?_
  refine ldc_mk H2 1 rfl rfl (tI_mk ?_)
  exact hK σ2 H2)

def putC (w : Bool) (c : Int) : Int := if w then c else if c > 255 then 63 else c
theorem c41 (hc : 0 ≤ c) (hK : K (.int .u8 (putC false c)) σ) : Tri Try.prog 41 [u32 c] σ K := tri_in (by
  rw [s41]
  simp only [putC, Bool.false_eq_true, if_false] at hK
  refine bm_mk (fun h => ?_) (fun h => ?_)
  · rw [if_pos (of_decide_eq_true h)] at hK; exact hK
  · have h := of_decide_eq_false h
    rw [if_neg h] at hK
    rw [Go.IntWalk.u8_in c (by omega)]; exact hK)
theorem c34 {L : List (Nat × AObj)} {a m : Nat} {w : Bool} {cs : List Value} (H : Has σ L) (qb qa : Nat) (eb : L[qb]? = some (b, bufO (some ⟨a, 0, none⟩) m w)) (ea : L[qa]? = some (a, .row .rw cs)) (hc : 0 ≤ c) (hc1 : c ≤ 4294967295) (h0 : 0 ≤ i) (h1 : i < m) (hlen : cs.length = m)
    (hK : ∀ σ', Has σ' (L.set qa (a, .row .rw (cs.set i.toNat (u32 (putC w c))))) → K (.tuple ⟨[]⟩) σ') : Tri Try.prog 34 [ptr b, i64 i, u32 c] σ K := tri_in (by
  rw [s34]
  have hz : szOf Try.prog 32 = 1 := by kernel_rfl
  refine ldc_mk H qb eb rfl ?_
  simp only [tB]
  cases w with
  | false =>
    simp only [Bool.not_false, bmatch]
    refine c41 hc (tI_mk ?_)
    refine ldc_mk H qb eb rfl (tL_mk ?_)
    simp only [h1, decide_true]
    refine ldc_mk H qb eb rfl (tL_mk (req_mk h0 (req_mk h1 ?_)))
    simp only [pSome, add_none, hz]
    have hp : putC false c = IntKind.wrap .u32 (putC false c) := by
      unfold putC
      simp only [Bool.false_eq_true, if_false]
      split
      · rfl
      · rw [Go.IntWalk.u32_in c (by omega)]
    rw [← hp]
    have e0 : 0 + i.toNat * 1 = i.toNat := by omega
    rw [e0]
    exact put1_mk H qa ea rfl (by omega) hK
  | true =>
    simp only [Bool.not_true, bmatch]
    refine ldc_mk H qb eb rfl (tL_mk ?_)
    simp only [h1, decide_true]
    refine ldc_mk H qb eb rfl (tL_mk (req_mk h0 (req_mk h1 ?_)))
    simp only [pSome, add_none, hz]
    have e0 : 0 + i.toNat * 1 = i.toNat := by omega
    rw [e0]
    exact put1_mk H qa ea rfl (by omega) hK)

def sameI (a b : Option Addr) (m ea eb : Nat) (σ0 : AS) (i : Nat) (r : Regs) (σ : AS) : Prop :=
  i ≤ m ∧ σ = σ0 ∧ r = [(0, some (.slice a m ea)), (1, some (.slice b m eb)), (5, some (i64 i))]
theorem c18 {a b : Option Addr} {o1 o2 ea eb : Nat} {xs : List Int} (ha : Rd σ .u32 a o1 ea xs) (hb : Rd σ .u32 b o2 eb xs) (hl : xs.length ≤ 1099511627776) (hK : K (.bool true) σ) :
    Tri Try.prog 18 [.slice a xs.length ea, .slice b xs.length eb] σ K := tri_in (by
  rw [s18]
  simp only [bne_self_eq_false, bmatch]
  refine aloop (sameI a b xs.length ea eb σ) (fun i => xs.length - i) ?_ (a := 0) ⟨Nat.zero_le _, rfl, rfl⟩
  rintro i r σ1 X hX ⟨hi, rfl, rfl⟩
  rw [s18l]
  refine bm_mk (fun h => ?_) (fun h => hK)
  have h : i < xs.length := by have := of_decide_eq_true h; omega
  obtain ⟨v, hv⟩ : ∃ v, xs[i]? = some v := ⟨xs[i], by simp [h]⟩
  have hne : xs ≠ [] := fun e => by rw [e] at h; simp at h
  obtain ⟨r1, q1, c1, rfl, rfl, g1, k1⟩ := ha.resolve_left hne
  obtain ⟨r2, q2, c2, rfl, rfl, g2, k2⟩ := hb.resolve_left hne
  have hz : szOf Try.prog 32 = 1 := by kernel_rfl
  refine req_mk (by omega) (req_mk (by omega) ?_)
  simp only [pSome, hz, add_none, Int.toNat_natCast, Nat.mul_one]
  refine req_mk (by first | rfl | trivial) ?_
  simp only [ldc, AS.cell, g1, g2, k1 i v hv, k2 i v hv, pSome]
  refine tI_mk (req_mk (by omega) (req_mk (by omega) (req_mk (by first | rfl | trivial) (tI_mk ?_))))
  simp only [bne_self_eq_false]
  rw [wrap64 (by omega) (by omega)]
  exact hX (i + 1) _ _ (by omega) ⟨h, rfl, by simp⟩)

theorem flat_rep (z : Value) : ∀ m, (List.replicate m [z]).flatten = List.replicate m z
  | 0 => rfl
  | m + 1 => by simp [List.replicate_succ, flat_rep z m]
theorem set_rep {A : List Value} {z v : Value} {n i : Nat} (h : A.length = i) : (A ++ List.replicate (n + 1) z).set i v = A ++ [v] ++ List.replicate n z := by
  subst h
  rw [List.set_append_right _ _ (Nat.le_refl _)]
  simp [List.replicate_succ]
/-- The input's row: none is asked of, if it has none. -/
def Inp (a : Option Addr) (l : List Int) (fr : List (Nat × AObj)) : Prop := l = [] ∨ ∃ (r : Nat) (k : RK) (q : Nat), a = some ⟨r, 0, none⟩ ∧ fr[q]? = some (r, AObj.row k (cellsU l))
abbrev half (w : Bool) (l : List Int) (i : Nat) : List Value := cellsU ((l.take i).map (putC w)) ++ List.replicate (l.length - i) (u32 0)
def bufI (s st b b1 : Nat) (a : Option Addr) (mo last : Int) (f : Nat) (es : List MapEntry) (cn : Nat) (mode : Int) (w : Bool) (l : List Int) (fr : List (Nat × AObj)) (i : Nat) (r : Regs) (σ : AS) : Prop :=
  i ≤ l.length ∧ r = [(0, some (ptr s)), (2, some (i64 mode)), (10, some (ptr b)), (41, some (.slice a l.length 1)), (42, some (i64 l.length)), (43, some (i64 i))] ∧
    Has σ ((b, bufO (some ⟨b1, 0, none⟩) l.length w) :: (b1, .row .rw (half w l i)) :: (s, shelfO mo last f st) :: (st, .map es cn) :: fr)

theorem c17 {f cn : Nat} {a : Option Addr} {es : List MapEntry} {w : Bool} {l : List Int} {fr : List (Nat × AObj)} {mo : Int} (H : Has σ ((s, shelfO mo last f st) :: (st, .map es cn) :: fr)) (hin : Inp a l fr)
    (hc : ∀ c ∈ l, 0 ≤ c ∧ c ≤ 4294967295) (hl : l.length ≤ 4096) (hm0 : 1 ≤ mode) (hm1 : mode ≤ 3) (hes : es.length < 64) (h0 : 0 ≤ last) (h1 : last ≤ 4611686018427387904) (hf : Instr.findNow (.int .i64) (i64 (last + 1)) es 0 = some none)
    (hK : ∀ σ' x b b1, Has σ' (bufL x s st b b1 mo (last + 1) f (es ++ [{ key := i64 (last + 1), val := ptr x, born := cn }]) (cn + 1) (.pointer none) mode 0 0 0 l.length w (cellsU (l.map (putC w))) fr) → K (.tuple ⟨[i64 (last + 1), i64 0]⟩) σ') :
    Tri Try.prog 17 [ptr s, .slice a l.length 1, i64 mode, .bool w] σ K := tri_in (by
  rw [s17]
  have e1 : ¬ mode < 1 := by omega
  have e2 : ¬ mode > 3 := by omega
  have e3 : ¬ (l.length : Int) > 4096 := by omega
  simp only [e1, e2, e3, decide_false, bmatch]
  refine ldc_mk H 0 rfl rfl ?_
  simp only [tM]
  have hlen : ((es.length : Int) == 64) = false := by simp; omega
  simp only [mlen, AS.ents, H.at 1 rfl, pSome, hlen]
  have hb : bytesOf Try.prog 32 = 4 := by kernel_rfl
  have hv : valCells (.int .u32 0) = [u32 0] := by kernel_rfl
  rw [hb, hv, flat_rep, Int.toNat_natCast]
  refine req_mk (by omega) (req_mk (by omega) (req_mk (by omega) ?_))
  refine newAt_mk H fun b1 σ1 H1 => newAt_mk H1 fun b σ2 H2 => ?_
  refine aloop (bufI s st b b1 a mo last f es cn mode w l fr) (fun i => l.length - i) ?_ (a := 0) ⟨Nat.zero_le _, by simp, by simpa [half] using H2⟩
  rintro i r σ3 X hX ⟨hi, rfl, HI⟩
  rw [s17l]
  refine bm_mk (fun h => ?_) (fun h => ?_)
  · have h : i < l.length := by have := of_decide_eq_true h; omega
    obtain ⟨v, hv⟩ : ∃ v, l[i]? = some v := ⟨l[i], by simp [h]⟩
    have hne : l ≠ [] := fun e => by rw [e] at h; simp at h
    obtain ⟨ri, k, q, rfl, hq⟩ := hin.resolve_left hne
    have hz : szOf Try.prog 32 = 1 := by kernel_rfl
    refine req_mk (by omega) (req_mk (by omega) ?_)
    simp only [pSome, hz, add_none, Int.toNat_natCast, Nat.mul_one, Nat.zero_add]
    refine ldc_mk HI (q + 4) (by simpa using hq) (cellsU_get hv) (tI_mk ?_)
    obtain ⟨g0, g1⟩ := hc v (List.mem_of_getElem? hv)
    refine c34 HI 0 1 rfl rfl g0 g1 (by omega) (by omega) (by simp [half]; omega) fun σ4 H4 => ?_
    rw [wrap64 (by omega) (by omega)]
    refine hX (i + 1) _ _ (by omega) ⟨h, by simp, ?_⟩
    have e : (half w l i).set i (u32 (putC w v)) = half w l (i + 1) := by
      have : l.length - i = (l.length - (i + 1)) + 1 := by omega
      unfold half
      rw [this, set_rep (by simp; omega), List.take_add_one, hv]
      simp
    rw [Int.toNat_natCast, e] at H4
    exact H4
  · have h : i = l.length := by have := of_decide_eq_false h; omega
    subst h
    have e : half w l l.length = cellsU (l.map (putC w)) := by simp [half]
    rw [e] at HI
    refine newAt_mk HI fun x σ4 H4 => ?_
    have H5 : Has σ4 ((x, streamO (.iface 87 (ptr b)) (.pointer none) mode 0 0 0) :: (s, shelfO mo last f st) :: (st, .map es cn) :: (b, bufO (some ⟨b1, 0, none⟩) l.length w) :: (b1, .row .rw (cellsU (l.map (putC w)))) :: fr) :=
      H4.perm (.cons _ (List.perm_append_comm (l₁ := [_, _]) (l₂ := [_, _]) |>.append_right fr))
    refine c28 H5 h0 h1 hf fun σ5 H6 => tI_mk (hK σ5 x b b1 H6))
end
end Go.AI
