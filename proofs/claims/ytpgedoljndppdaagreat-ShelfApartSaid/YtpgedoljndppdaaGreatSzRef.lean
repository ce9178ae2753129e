/- Lemmas of the abstract condition ahead of code (a part of the library that the claim's proof stands on); they hold with no condition but those that each names. -/
import Derived.Test.YtpgedoljndppdaaGreatSzBase
import Derived.Test.YtpgedoljndppdaaGreatSzForm
section
set_option linter.unusedSimpArgs false
set_option linter.unusedVariables false
set_option maxRecDepth 10000
/- The reference's shelf in memory; its looking functions; no condition but those that each names. -/
namespace Go.AI
open Go.Proofs Go.Shelf
section
variable {α : Type} {c : α → List Value} {sz : Nat}
theorem fm_len (hc : ∀ x, (c x).length = sz) : ∀ L : List α, (L.flatMap c).length = L.length * sz
  | [] => by simp
  | x :: L => by rw [List.flatMap_cons, List.length_append, hc, fm_len hc L, List.length_cons, Nat.add_mul]; omega
theorem fm_drop (hc : ∀ x, (c x).length = sz) : ∀ (L : List α) (i : Nat) (x : α), L[i]? = some x → ∃ r, (L.flatMap c).drop (i * sz) = c x ++ r
  | [], i, x, h => by simp at h
  | v :: L, 0, x, h => by
    simp at h
    subst h
    exact ⟨L.flatMap c, by simp⟩
  | v :: L, i + 1, x, h => by
    obtain ⟨r, hr⟩ := fm_drop hc L i x (by simpa using h)
    refine ⟨r, ?_⟩
    rw [← hr, Nat.add_mul, Nat.one_mul, Nat.add_comm, ← List.drop_drop, List.flatMap_cons, List.drop_left' (hc v)]
theorem fm_get (hc : ∀ x, (c x).length = sz) {L : List α} {i o : Nat} {x : α} (h : L[i]? = some x) (ho : o < sz) : (L.flatMap c)[i * sz + o]? = (c x)[o]? := by
  obtain ⟨r, hr⟩ := fm_drop hc L i x h
  rw [← List.getElem?_drop, hr, List.getElem?_append_left (by rw [hc]; exact ho)]
theorem fm_take (hc : ∀ x, (c x).length = sz) {L : List α} {i : Nat} {x : α} (h : L[i]? = some x) : ((L.flatMap c).drop (i * sz)).take sz = c x := by
  obtain ⟨r, hr⟩ := fm_drop hc L i x h
  rw [hr]
  exact List.take_left' (hc x)
theorem fm_set (hc : ∀ x, (c x).length = sz) : ∀ (L : List α) (i o : Nat) (x y : α) (v : Value), L[i]? = some x → o < sz → (c x).set o v = c y → (L.flatMap c).set (i * sz + o) v = (L.set i y).flatMap c
  | [], i, o, x, y, v, h, _, _ => by simp at h
  | z :: L, 0, o, x, y, v, h, ho, hv => by
    simp at h
    subst h
    rw [List.flatMap_cons, List.set_cons_zero, List.flatMap_cons, Nat.zero_mul, Nat.zero_add, List.set_append_left _ _ (by rw [hc]; exact ho), hv]
  | z :: L, i + 1, o, x, y, v, h, ho, hv => by
    have := fm_set hc L i o x y v (by simpa using h) ho hv
    have e : (i + 1) * sz + o - sz = i * sz + o := by rw [Nat.add_mul]; omega
    rw [List.flatMap_cons, List.set_cons_succ, List.flatMap_cons, List.set_append_right _ _ (by rw [hc, Nat.add_mul]; omega), hc, e, this]
/-- All cells of one element written. -/
theorem fm_puts (hc : ∀ x, (c x).length = sz) : ∀ (L : List α) (i : Nat) (x y : α), L[i]? = some x → (L.flatMap c).take (i * sz) ++ c y ++ (L.flatMap c).drop (i * sz + (c y).length) = (L.set i y).flatMap c
  | [], i, x, y, h => by simp at h
  | z :: L, 0, x, y, h => by
    rw [List.flatMap_cons, List.set_cons_zero, List.flatMap_cons, Nat.zero_mul, List.take_zero, List.nil_append, Nat.zero_add, List.drop_left' (by rw [hc, hc])]
  | z :: L, i + 1, x, y, h => by
    have := fm_puts hc L i x y (by simpa using h)
    have e : (i + 1) * sz = (c z).length + i * sz := by rw [Nat.add_mul, hc]; omega
    rw [List.flatMap_cons, List.set_cons_succ, List.flatMap_cons, e, List.take_append, List.take_of_length_le (by omega), Nat.add_sub_cancel_left, Nat.add_assoc, List.drop_append, List.drop_of_length_le (by omega), Nat.add_sub_cancel_left, List.nil_append, ← this]
    simp
end
structure RF where
  f : Fi
  a : Option Addr
  e : Nat
  rows : List (Nat × AObj)
structure RQ where
  q : Sm
  a : Option Addr
  e : Nat
  rows : List (Nat × AObj)
def RF.cells (r : RF) : List Value := [.string (bsV r.f.nm), .slice r.a r.f.b.length r.e]
def RQ.cells (r : RQ) : List Value := [i64 r.q.n, .string (bsV r.q.nm), .slice r.a r.q.l.length 1, i64 r.q.mode, .bool r.q.wd, i64 r.q.pl, i64 r.q.rd, i64 r.q.wr]
def RF.ok (r : RF) : Prop := SlC 1 r.a r.e (cells8 r.f.b) r.rows
def RQ.ok (r : RQ) : Prop := SlC 1 r.a 1 (cellsU r.q.l) r.rows
structure RG where
  fa : Option Addr
  fe : Nat
  fr : List (Nat × AObj)
  F : List RF
  sa : Option Addr
  se : Nat
  sr : List (Nat × AObj)
  S : List RQ
abbrev refO (most : Int) (fa : Option Addr) (fn fe : Nat) (sa : Option Addr) (sn se : Nat) (last : Int) : AObj := .row .plain [i64 most, .slice fa fn fe, .slice sa sn se, i64 last]
structure RG.ok (g : RG) : Prop where
  f : SlC 2 g.fa g.fe (g.F.flatMap RF.cells) g.fr
  s : SlC 8 g.sa g.se (g.S.flatMap RQ.cells) g.sr
  fo : ∀ r ∈ g.F, r.ok
  so : ∀ r ∈ g.S, r.ok
abbrev RG.O (g : RG) (most last : Int) : AObj := refO most g.fa g.F.length g.fe g.sa g.S.length g.se last
abbrev RG.R (g : RG) : List (Nat × AObj) := g.fr ++ (g.sr ++ (g.F.flatMap RF.rows ++ g.S.flatMap RQ.rows))
abbrev RG.Fi (g : RG) : List Fi := g.F.map RF.f
abbrev RG.Sm (g : RG) : List Sm := g.S.map RQ.q
theorem fcl (r : RF) : r.cells.length = 2 := rfl
theorem qcl (r : RQ) : r.cells.length = 8 := rfl
theorem sz112 : szOf Tryz.prog 112 = 2 := by kernel_rfl
theorem sz94 : szOf Tryz.prog 94 = 8 := by kernel_rfl
theorem sz54 : szOf Tryz.prog 54 = 1 := by kernel_rfl
theorem sz5 : szOf Tryz.prog 5 = 1 := by kernel_rfl
section
variable {σ : AS} {K : Value → AS → Prop} {X : List (Nat × AObj)} {w : Nat} {g : RG} {most last n : Int} {nm : List UInt8}
/-- The reference is known. -/
structure RIn (w : Nat) (g : RG) (most last : Int) (X : List (Nat × AObj)) : Prop where
  o : (w, g.O most last) ∈ X
  r : ∀ p ∈ g.R, p ∈ X
  ok : g.ok
theorem RIn.mono {Y : List (Nat × AObj)} (h : RIn w g most last X) (hs : ∀ p ∈ X, p ∈ Y) : RIn w g most last Y := ⟨hs _ h.o, fun p hp => hs _ (h.r p hp), h.ok⟩
theorem RIn.new {new : List (Nat × AObj)} (h : RIn w g most last X) : RIn w g most last (new ++ X) := h.mono fun p hp => List.mem_append_right _ hp
theorem RIn.cons {p : Nat × AObj} (h : RIn w g most last X) : RIn w g most last (p :: X) := h.mono fun p hp => List.mem_cons_of_mem _ hp
theorem RIn.of {most last : Int} {fr : List (Nat × AObj)} (h : g.ok) : RIn w g most last ((w, g.O most last) :: (g.R ++ fr)) :=
  ⟨by simp, fun p hp => List.mem_cons_of_mem _ (List.mem_append_left _ hp), h⟩
/-- Of the files' row: an element, with its cells. -/
theorem RIn.fel (R : RIn w g most last X) {i : Nat} {r : RF} (hi : g.F[i]? = some r) : ∃ j, g.fa = some ⟨j, 0, none⟩ ∧ g.fe = 2 ∧ (j, AObj.row .rw (g.F.flatMap RF.cells)) ∈ X ∧ ∀ o, o < 2 → (g.F.flatMap RF.cells)[i * 2 + o]? = r.cells[o]? := by
  have hlt := (List.getElem?_eq_some_iff.1 hi).1
  obtain ⟨j, h1, h2, h3⟩ := R.ok.f.at (p := 0) (by rw [fm_len fcl]; omega)
  refine ⟨j, h1, h2.symm, R.r _ ?_, fun o ho => fm_get fcl hi ho⟩
  unfold RG.R
  rw [h3]
  simp
theorem RIn.sel (R : RIn w g most last X) {i : Nat} {r : RQ} (hi : g.S[i]? = some r) : ∃ j, g.sa = some ⟨j, 0, none⟩ ∧ g.se = 8 ∧ (j, AObj.row .rw (g.S.flatMap RQ.cells)) ∈ X ∧ (∀ o, o < 8 → (g.S.flatMap RQ.cells)[i * 8 + o]? = r.cells[o]?) ∧ i * 8 + 8 ≤ (g.S.flatMap RQ.cells).length ∧ ((g.S.flatMap RQ.cells).drop (i * 8)).take 8 = r.cells := by
  have hlt := (List.getElem?_eq_some_iff.1 hi).1
  obtain ⟨j, h1, h2, h3⟩ := R.ok.s.at (p := 0) (by rw [fm_len qcl]; omega)
  refine ⟨j, h1, h2.symm, R.r _ ?_, fun o ho => fm_get qcl hi ho, by rw [fm_len qcl]; omega, fm_take qcl hi⟩
  unfold RG.R
  rw [h3]
  simp
theorem RIn.frow (R : RIn w g most last X) {r : RF} (hr : r ∈ g.F) : (∀ p ∈ r.rows, p ∈ X) ∧ r.ok := by
  refine ⟨fun p hp => R.r _ ?_, R.ok.fo r hr⟩
  unfold RG.R
  have : p ∈ g.F.flatMap RF.rows := List.mem_flatMap.2 ⟨r, hr, hp⟩
  simp only [List.mem_append]
  exact .inr (.inr (.inl this))
theorem RIn.srow (R : RIn w g most last X) {r : RQ} (hr : r ∈ g.S) : (∀ p ∈ r.rows, p ∈ X) ∧ r.ok := by
  refine ⟨fun p hp => R.r _ ?_, R.ok.so r hr⟩
  unfold RG.R
  have : p ∈ g.S.flatMap RQ.rows := List.mem_flatMap.2 ⟨r, hr, hp⟩
  simp only [List.mem_append]
  exact .inr (.inr (.inr this))
/-- Which file has a name. -/
theorem c19 (H : Has σ X) (R : RIn w g most last X) (hl : g.F.length ≤ 1000) (hN : hasF g.Fi nm = false → K (i64 (-1)) σ) (hK : ∀ (i : Nat) r, g.F[i]? = some r → r.f.nm = nm → K (i64 i) σ) : Tri Tryz.prog 19 [ptr w, .string (bsV nm)] σ K := tri_in (by
  rw [s19]
  refine aloop (fun (i : Nat) rg σ' => σ' = σ ∧ i ≤ g.F.length ∧ (∀ r ∈ g.F.take i, r.f.nm ≠ nm) ∧ rg = [(0, some (ptr w)), (1, some (.string (bsV nm))), (5, some (i64 i))]) (fun i => g.F.length - i) ?_ (a := 0) ⟨rfl, Nat.zero_le _, by simp, rfl⟩
  rintro i rg σ1 Y hY ⟨rfl, hi, hno, rfl⟩
  rw [s19l]
  have hw := H.g R.o
  simp only [ldc_eq hw, tL_ok_eq R.ok.f.no, pSome_some, List.getElem?_cons_zero, List.getElem?_cons_succ, Nat.zero_add]
  refine bmd_mk (fun h => ?_) (fun h => ?_)
  · obtain ⟨r, hr⟩ : ∃ r, g.F[i]? = some r := ⟨g.F[i]'(by omega), by simp⟩
    obtain ⟨j, h1, h2, h3, h4⟩ := R.fel hr
    refine req_mk (by omega) (req_mk (by omega) ?_)
    have e0 := h4 0 (by omega)
    rw [Nat.add_zero] at e0
    simp only [h1, sz112, Int.toNat_natCast, ldc_eq (H.g h3), e0, RF.cells, strEq_bs, tS_str, pSome_some, List.getElem?_cons_zero, Nat.zero_add, Nat.add_zero, add_none]
    refine bmd_mk (fun e => hK i r hr e) (fun e => ?_)
    rw [wrap1 (by omega)]
    refine hY (i + 1) _ _ (by omega) ⟨rfl, by omega, ?_, rfl⟩
    intro q hq
    rw [List.take_add_one, hr] at hq
    rcases List.mem_append.1 hq with h | h
    · exact hno q h
    · simp at h; subst h; exact e
  · have e : i = g.F.length := by omega
    rw [e, List.take_length] at hno
    refine hN (hasF_false.2 fun f hf => ?_)
    obtain ⟨r, hr, rfl⟩ := List.mem_map.1 hf
    exact hno r hr)
/-- How many bytes all files have. -/
theorem c20 (H : Has σ X) (R : RIn w g most last X) (hl : g.F.length ≤ 1000) (ht : totF g.Fi ≤ 1099511627776) (hK : K (i64 (totF g.Fi)) σ) : Tri Tryz.prog 20 [ptr w] σ K := tri_in (by
  rw [s20]
  refine aloop (fun (i : Nat) rg σ' => σ' = σ ∧ i ≤ g.F.length ∧ rg = [(0, some (ptr w)), (3, some (i64 (totF ((g.F.take i).map RF.f)))), (4, some (i64 i))]) (fun i => g.F.length - i) ?_ (a := 0) ⟨rfl, Nat.zero_le _, rfl⟩
  rintro i rg σ1 Y hY ⟨rfl, hi, rfl⟩
  rw [s20l]
  have hw := H.g R.o
  simp only [ldc_eq hw, tL_ok_eq R.ok.f.no, pSome_some, List.getElem?_cons_zero, List.getElem?_cons_succ, Nat.zero_add]
  refine bmd_mk (fun h => ?_) (fun h => ?_)
  · obtain ⟨r, hr⟩ : ∃ r, g.F[i]? = some r := ⟨g.F[i]'(by omega), by simp⟩
    obtain ⟨j, h1, h2, h3, h4⟩ := R.fel hr
    refine req_mk (by omega) (req_mk (by omega) ?_)
    have e1 := h4 1 (by omega)
    have hno := (R.frow (List.mem_of_getElem? hr)).2.no
    simp only [h1, sz112, Int.toNat_natCast, ldc_eq (H.g h3), e1, RF.cells, tL_ok_eq hno, pSome_some, List.getElem?_cons_zero, List.getElem?_cons_succ, Nat.zero_add, add_none]
    have et : totF ((g.F.take (i + 1)).map RF.f) = totF ((g.F.take i).map RF.f) + r.f.b.length := by
      rw [List.take_add_one, hr]
      simp only [Option.toList, List.map_append, List.map_cons, List.map_nil, totF_app, totF_cons]
      simp [totF]
    have ele : totF ((g.F.take (i + 1)).map RF.f) ≤ totF g.Fi := by
      have : totF g.Fi = totF ((g.F.take (i + 1)).map RF.f) + totF ((g.F.drop (i + 1)).map RF.f) := by
        rw [← totF_app, ← List.map_append, List.take_append_drop]
      omega
    rw [wrap1 (by omega), wrap64 (by omega) (by omega)]
    refine hY (i + 1) _ _ (by omega) ⟨rfl, by omega, ?_⟩
    simp only [et, Int.natCast_add]
  · have e : i = g.F.length := by omega
    rw [e, List.take_length]
    exact hK)
/-- Does a stream lie on a file? One that is not just read? -/
theorem c57 (H : Has σ X) (R : RIn w g most last X) (hl : g.S.length ≤ 1000) (hK : K (.tuple ⟨[.bool (held g.Sm nm), .bool (heldW g.Sm nm)]⟩) σ) : Tri Tryz.prog 57 [ptr w, .string (bsV nm)] σ K := tri_in (by
  rw [s57]
  refine aloop (fun (i : Nat) rg σ' => σ' = σ ∧ i ≤ g.S.length ∧ rg = [(0, some (ptr w)), (1, some (.string (bsV nm))), (6, some (.bool (held ((g.S.take i).map RQ.q) nm))), (7, some (.bool (heldW ((g.S.take i).map RQ.q) nm))), (8, some (i64 i))]) (fun i => g.S.length - i) ?_ (a := 0) ⟨rfl, Nat.zero_le _, rfl⟩
  rintro i rg σ1 Y hY ⟨rfl, hi, rfl⟩
  rw [s57l]
  have hw := H.g R.o
  simp only [ldc_eq hw, tL_ok_eq R.ok.s.no, pSome_some, List.getElem?_cons_zero, List.getElem?_cons_succ, Nat.zero_add]
  refine bmd_mk (fun h => ?_) (fun h => ?_)
  · obtain ⟨r, hr⟩ : ∃ r, g.S[i]? = some r := ⟨g.S[i]'(by omega), by simp⟩
    obtain ⟨j, h1, h2, h3, h4, _⟩ := R.sel hr
    have e1 := h4 1 (by omega)
    have e3 := h4 3 (by omega)
    have t1 : held ((g.S.take (i + 1)).map RQ.q) nm = (held ((g.S.take i).map RQ.q) nm || decide (r.q.nm = nm)) := by
      rw [List.take_add_one, hr]
      simp only [Option.toList, List.map_append, List.map_cons, List.map_nil, held, List.any_append, List.any_cons, List.any_nil, Bool.or_false]
      congr 1
      by_cases e : r.q.nm = nm <;> simp [e]
    have t2 : heldW ((g.S.take (i + 1)).map RQ.q) nm = (heldW ((g.S.take i).map RQ.q) nm || (decide (r.q.nm = nm) && r.q.mode != 2)) := by
      rw [List.take_add_one, hr]
      simp only [Option.toList, List.map_append, List.map_cons, List.map_nil, heldW, List.any_append, List.any_cons, List.any_nil, Bool.or_false]
      congr 1
      by_cases e : r.q.nm = nm <;> simp [e]
    have fin : ∀ b1 b2, b1 = held ((g.S.take (i + 1)).map RQ.q) nm → b2 = heldW ((g.S.take (i + 1)).map RQ.q) nm → JoinS (jn Tryz.prog hintsS (Tri Tryz.prog) 57 [true, true, false, true, false, false, true] [Y] K) [(0, some (ptr w)), (1, some (.string (bsV nm))), (6, some (.bool b1)), (7, some (.bool b2)), (8, some (i64 i))] σ1 := by
      rintro b1 b2 rfl rfl
      refine ⟨?_⟩
      rw [s57j, wrap1 (by omega)]
      exact hY (i + 1) _ _ (by omega) ⟨rfl, by omega, rfl⟩
    refine req_mk (by omega) (req_mk (by omega) ?_)
    simp only [h1, sz94, Int.toNat_natCast, ldc_eq (H.g h3), e1, RQ.cells, strEq_bs, tS_str, pSome_some, List.getElem?_cons_zero, List.getElem?_cons_succ, Nat.zero_add, add_none]
    refine bmd_mk (fun e => ?_) (fun e => ?_)
    · refine bm_mk (fun ho => fin _ _ ?_ ?_) (fun ho => ?_)
      · rw [t1]; simp [e]
      · rw [t2, ho]; rfl
      · refine req_mk (by omega) (req_mk (by omega) ?_)
        simp only [e3, RQ.cells, tI_int, pSome_some, List.getElem?_cons_zero, List.getElem?_cons_succ]
        refine fin _ _ ?_ ?_
        · rw [t1]; simp [e]
        · rw [t2, ho]; simp [e]
    · refine fin _ _ ?_ ?_
      · rw [t1]; simp [e]
      · rw [t2]; simp [e]
  · have e : i = g.S.length := by omega
    rw [e, List.take_length]
    exact hK)
theorem c56 (hK : K (.bool (decide (named nm))) σ) : Tri Tryz.prog 56 [.string (bsV nm)] σ K := tri_in (by
  rw [s56, size_bs]
  refine bmd_mk (fun h => ?_) (fun h => ?_)
  · have : decide ((nm.length : Int) ≤ 32) = decide (named nm) := decide_eq_decide.2 ⟨fun g => ⟨by omega, by omega⟩, fun g => by have := g.2; omega⟩
    rw [this]; exact hK
  · have : decide (named nm) = false := decide_eq_false fun g => h (by have := g.1; omega)
    rw [this] at hK; exact hK)
/-- Which stream has a number. -/
theorem c62 (H : Has σ X) (R : RIn w g most last X) (hl : g.S.length ≤ 1000) (hN : atS g.Sm n = none → K (i64 (-1)) σ) (hK : ∀ (i : Nat) r, g.S[i]? = some r → r.q.n = n → atS g.Sm n = some r.q → K (i64 i) σ) : Tri Tryz.prog 62 [ptr w, i64 n] σ K := tri_in (by
  rw [s62]
  refine aloop (fun (i : Nat) rg σ' => σ' = σ ∧ i ≤ g.S.length ∧ (∀ r ∈ g.S.take i, r.q.n ≠ n) ∧ rg = [(0, some (ptr w)), (1, some (i64 n)), (5, some (i64 i))]) (fun i => g.S.length - i) ?_ (a := 0) ⟨rfl, Nat.zero_le _, by simp, rfl⟩
  rintro i rg σ1 Y hY ⟨rfl, hi, hno, rfl⟩
  rw [s62l]
  have hw := H.g R.o
  simp only [ldc_eq hw, tL_ok_eq R.ok.s.no, pSome_some, List.getElem?_cons_zero, List.getElem?_cons_succ, Nat.zero_add]
  refine bmd_mk (fun h => ?_) (fun h => ?_)
  · obtain ⟨r, hr⟩ : ∃ r, g.S[i]? = some r := ⟨g.S[i]'(by omega), by simp⟩
    obtain ⟨j, h1, h2, h3, h4, _⟩ := R.sel hr
    have e0 := h4 0 (by omega)
    rw [Nat.add_zero] at e0
    refine req_mk (by omega) (req_mk (by omega) ?_)
    simp only [h1, sz94, Int.toNat_natCast, ldc_eq (H.g h3), e0, RQ.cells, tI_int, pSome_some, List.getElem?_cons_zero, Nat.zero_add, Nat.add_zero, add_none]
    refine beq_mk (fun e => hK i r hr e ?_) (fun e => ?_)
    · have hi' := (List.getElem?_eq_some_iff.1 hr).1
      have hsp : g.S = g.S.take i ++ r :: g.S.drop (i + 1) := by
        have := (List.getElem?_eq_some_iff.1 hr).2
        rw [← this, ← List.drop_eq_getElem_cons hi', List.take_append_drop]
      unfold atS RG.Sm
      rw [hsp, List.map_append, List.map_cons, List.find?_append]
      have hn : ((g.S.take i).map RQ.q).find? (·.n == n) = none := List.find?_eq_none.2 fun q hq => by
        obtain ⟨r', hr', rfl⟩ := List.mem_map.1 hq
        have := hno r' hr'
        simpa using this
      rw [hn, List.find?_cons]
      have : (r.q.n == n) = true := by simpa using e
      rw [this]
      rfl
    · rw [wrap1 (by omega)]
      refine hY (i + 1) _ _ (by omega) ⟨rfl, by omega, ?_, rfl⟩
      intro q hq
      rw [List.take_add_one, hr] at hq
      rcases List.mem_append.1 hq with h | h
      · exact hno q h
      · simp at h; subst h; exact e
  · have e : i = g.S.length := by omega
    rw [e, List.take_length] at hno
    refine hN (List.find?_eq_none.2 fun q hq => ?_)
    obtain ⟨r, hr, rfl⟩ := List.mem_map.1 hq
    simpa using hno r hr)
theorem c70 {c : Int} (hc : 0 ≤ c) (hK : K (u32 (putC false c)) σ) : Tri Tryz.prog 70 [u32 c] σ K := tri_in (by
  rw [s70]
  simp only [putC, Bool.false_eq_true, if_false] at hK
  refine bmd_mk (fun h => ?_) (fun h => ?_)
  · rw [if_pos h] at hK; exact hK
  · rw [if_neg h] at hK; exact hK)
end
end Go.AI
end
section
set_option linter.unusedSimpArgs false
set_option linter.unusedVariables false
set_option maxRecDepth 10000
/- The reference: words and bytes, characters; a stream more, a file more; no condition but those that each names. -/
namespace Go.Shelf
theorem beV_snoc (l : List Int) (c : Int) : beV (l ++ [c]) = beV l * 256 + c := by simp [beV]
theorem beV_take {l : List Int} (hb : ∀ c ∈ l, 0 ≤ c ∧ c < 256) : ∀ i, i ≤ 4 → 0 ≤ beV (l.take i) ∧ beV (l.take i) < 256 ^ i
  | 0, _ => by simp [beV]
  | i + 1, h => by
    have ih := beV_take hb i (by omega)
    have hp : (256 : Int) ^ (i + 1) = 256 ^ i * 256 := Int.pow_succ ..
    cases hv : l[i]? with
    | none =>
      rw [List.take_add_one, hv]
      simp only [Option.toList, List.append_nil]
      omega
    | some v =>
      obtain ⟨g0, g1⟩ := hb v (List.mem_of_getElem? hv)
      rw [List.take_add_one, hv]
      simp only [Option.toList]
      rw [beV_snoc]
      omega
theorem view_be {w : Bool} {bs : List Int} {p : Nat} (h : p < sizeW w bs) : beV ((bs.drop (unW w * p)).take (unW w)) = viewAt w bs p := by
  cases w with
  | true => rfl
  | false =>
    have h : p < bs.length := h
    simp only [unW, viewAt, Nat.one_mul]
    rw [List.drop_eq_getElem_cons h]
    simp only [List.take_succ_cons, List.take_zero, beV, List.foldl]
    simp [h]
theorem drop_byte {bs : List Int} (hb : ∀ c ∈ bs, 0 ≤ c ∧ c < 256) (n : Nat) : ∀ c ∈ bs.drop n, 0 ≤ c ∧ c < 256 := fun c hc => hb c (List.mem_of_mem_drop hc)
/-- So many bytes of a number, by division. -/
def divB (un : Nat) (x : Int) : List Int := if un = 4 then by4 x else [x % 256]
end Go.Shelf
namespace Go.AI
open Go.Proofs Go.Shelf
section
variable {σ : AS} {K : Value → AS → Prop} {X : List (Nat × AObj)} {w : Nat} {g : RG} {most last n : Int} {nm : List UInt8} {a : Option Addr} {e : Nat} {rows : List (Nat × AObj)}
theorem c69 {l : List Int} {p un : Nat} (H : Has σ X) (hs : SlC 1 a 1 (cells8 l) rows) (hr : ∀ q ∈ rows, q ∈ X) (hb : ∀ c ∈ l, 0 ≤ c ∧ c < 256) (hl : l.length ≤ 1099511627776) (hu : un = 1 ∨ un = 4) (hp : p + un ≤ l.length) (hK : K (.tuple ⟨[u32 (beV ((l.drop p).take un)), i64 0]⟩) σ) :
    Tri Tryz.prog 69 [.slice a l.length 1, i64 p, i64 un] σ K := tri_in (by
  have loop : ALoop (fl Tryz.prog hintsS (Tri Tryz.prog) 69 [true, true, true, false, true, false] [] K) [(0, some (.slice a l.length 1)), (1, some (i64 p)), (2, some (i64 un)), (8, some (i64 0)), (9, some (i64 0))] σ := by
    refine aloop (fun (i : Nat) rg σ' => σ' = σ ∧ i ≤ un ∧ rg = [(0, some (.slice a l.length 1)), (1, some (i64 p)), (2, some (i64 un)), (8, some (i64 (beV ((l.drop p).take i)))), (9, some (i64 i))]) (fun i => un - i) ?_ (a := 0) ⟨rfl, Nat.zero_le _, rfl⟩
    rintro i rg σ1 Y hY ⟨rfl, hi, rfl⟩
    rw [s69l]
    have b0 := beV_take (drop_byte hb p) i (by omega)
    have p1 : (256 : Int) ^ i ≤ 4294967296 := by
      have : i = 0 ∨ i = 1 ∨ i = 2 ∨ i = 3 ∨ i = 4 := by omega
      rcases this with rfl | rfl | rfl | rfl | rfl <;> decide
    refine bmd_mk (fun h => ?_) (fun h => ?_)
    · rw [wrap64 (n := (l.length : Int) - i) (by omega) (by omega), wrap64 (n := (p : Int) + i) (by omega) (by omega)]
      refine bmd_mk (fun h2 => by omega) (fun h2 => ?_)
      refine req_mk (by omega) (req_mk (by omega) ?_)
      obtain ⟨j, rfl, _, rfl⟩ := hs.at (p := 0) (by simp; omega)
      have hv : l[p + i]? = some (l[p + i]'(by omega)) := by simp
      have e0 : ((p : Int) + i).toNat = p + i := by omega
      simp only [sz5, e0, pSome_some, Nat.zero_add, add_none]
      refine req_mk trivial ?_
      have hc : (cells8 l)[p + i]? = some (u8 (l[p + i]'(by omega))) := by rw [List.getElem?_map, hv]; rfl
      simp only [Nat.mul_one, ldc_eq (H.g (hr _ (List.mem_singleton.2 rfl))), hc, tI_int, pSome_some]
      have bv := hb _ (List.mem_of_getElem? hv)
      have et : beV ((l.drop p).take (i + 1)) = 256 * beV ((l.drop p).take i) + l[p + i]'(by omega) := by
        rw [List.take_add_one, List.getElem?_drop, hv]
        simp only [Option.toList]
        rw [beV_snoc, Int.mul_comm]
      rw [wrap1 (by omega), wrap64 (n := 256 * _) (by omega) (by omega), wrap64 (n := l[p + i]'(by omega)) (by omega) (by omega), wrap64 (by omega) (by omega), ← et]
      exact hY (i + 1) _ _ (by omega) ⟨rfl, by omega, rfl⟩
    · have e0 : i = un := by omega
      subst e0
      rw [wrapU32 b0.1 (by omega)]
      exact hK
  rw [s69]
  rcases hu with rfl | rfl
  · refine bne_mk (fun h => absurd rfl h) (fun _ => bmd_mk (fun h => by omega) (fun _ => loop))
  · refine bne_mk (fun _ => ?_) (fun h => by omega)
    refine bne_mk (fun _ => ?_) (fun h => by omega)
    refine bne_mk (fun h => absurd rfl h) (fun _ => bmd_mk (fun h => by omega) (fun _ => loop)))
theorem c63 {x : Int} {un : Nat} (H : Has σ X) (h0 : 0 ≤ x) (h1 : x ≤ 4294967295) (hu : un = 1 ∨ un = 4) (hK : ∀ σ' j, Has σ' ((j, .row .rw (cells8 (divB un x))) :: X) → K (.slice (some ⟨j, 0, none⟩) un 1) σ') :
    Tri Tryz.prog 63 [u32 x, i64 un] σ K := tri_in (by
  rw [s63]
  have push : ∀ {σ1 : AS} {j n : Nat} {cs : List Int} {v : Int} {G : Sl → AS → Prop}, cs.length = n → n ≤ 4 → Has σ1 ((j, .row .rw (cells8 cs)) :: X) → (∀ σ2 j', Has σ2 ((j', .row .rw (cells8 (cs ++ [v]))) :: X) → G ⟨some ⟨j', 0, none⟩, n + 1⟩ σ2) →
      newAt σ1 (.row .rw [u8 v]) fun i0 σ1 => chk (nilOr (some ⟨j, 0, none⟩) 1 (szOf Tryz.prog 5)) (lds σ1 ⟨i0, 0, none⟩ 1 fun l => appendTo σ1 1 1 ⟨some ⟨j, 0, none⟩, n⟩ l 1 G) := by
    intro σ1 j n cs v G hn hn4 H1 hG
    rw [sz5]
    refine pushC (rows := [(j, .row .rw (cells8 cs))]) (X := X) SlC.row H1 (by simp [hn]) rfl (by omega) (by omega) fun a' σ2 rows' hs' H2 => ?_
    obtain ⟨j', rfl, _, rfl⟩ := hs'.at (p := 0) (by simp)
    refine hG σ2 j' ?_
    rw [show cells8 (cs ++ [v]) = cells8 cs ++ [u8 v] by simp]
    exact H2
  have push0 : ∀ {σ1 : AS} {v : Int} {G : Sl → AS → Prop}, Has σ1 X → (∀ σ2 j', Has σ2 ((j', .row .rw (cells8 [v])) :: X) → G ⟨some ⟨j', 0, none⟩, 0 + 1⟩ σ2) →
      newAt σ1 (.row .rw [u8 v]) fun i0 σ1 => chk (nilOr none 0 (szOf Tryz.prog 5)) (lds σ1 ⟨i0, 0, none⟩ 1 fun l => appendTo σ1 1 1 ⟨none, 0⟩ l 1 G) := by
    intro σ1 v G H1 hG
    rw [sz5]
    refine pushC (rows := []) (cells := []) (X := X) (SlC.nil _) H1 (by simp) rfl (by omega) (by omega) fun a' σ2 rows' hs' H2 => ?_
    obtain ⟨j', rfl, _, rfl⟩ := hs'.at (p := 0) (by simp)
    exact hG σ2 j' H2
  have ew : ∀ p : Int, 0 < p → IntKind.wrap .u8 (Int.tmod (IntKind.wrap .i64 (Int.tdiv (IntKind.wrap .i64 x) p)) 256) = x / p % 256 := by
    intro p hp
    have q0 : 0 ≤ x / p := Int.ediv_nonneg h0 (by omega)
    have q1 : x / p ≤ x := Int.ediv_le_self _ h0
    rw [wrap64 (n := x) (by omega) (by omega), Int.tdiv_eq_ediv_of_nonneg h0, wrap64 (by omega) (by omega), Int.tmod_eq_emod_of_nonneg q0, wrapU8 (by omega) (by omega)]
  have m1 : IntKind.wrap .i64 (256 * 1) = 256 := by decide
  have m2 : IntKind.wrap .i64 (256 * 256) = 65536 := by decide
  have m3 : IntKind.wrap .i64 (256 * 65536) = 16777216 := by decide
  have a1 : IntKind.wrap .i64 (1 + 1) = 2 := by decide
  have a2 : IntKind.wrap .i64 (2 + 1) = 3 := by decide
  have a3 : IntKind.wrap .i64 (3 + 1) = 4 := by decide
  have a0 : IntKind.wrap .i64 (0 + 1) = 1 := by decide
  have d1 : IntKind.wrap .i64 (Int.tdiv 16777216 256) = 65536 := by decide
  have d2 : IntKind.wrap .i64 (Int.tdiv 65536 256) = 256 := by decide
  have d3 : IntKind.wrap .i64 (Int.tdiv 256 256) = 1 := by decide
  have d4 : IntKind.wrap .i64 (Int.tdiv 1 256) = 0 := by decide
  rcases hu with rfl | rfl
  · refine bne_mk (fun h => absurd rfl h) (fun _ => ?_)
    intro Y hY
    refine hY _ _ ?_
    rw [s63l]
    refine bmd_mk (fun h => by omega) (fun _ => ?_)
    intro Z hZ
    refine hZ _ _ ?_
    rw [s63l1]
    refine bmd_mk (fun _ => req_mk (by omega) (push0 H fun σ2 j2 H2 => ?_)) (fun h => absurd (show (0 : Int) < ((1 : Nat) : Int) by decide) h)
    refine hZ _ _ ?_
    rw [a0, d4, s63l1]
    refine bmd_mk (fun h => by omega) (fun _ => ?_)
    rw [ew 1 (by omega)] at H2
    exact hK σ2 j2 (by simpa [divB] using H2)
  · refine bne_mk (fun _ => ?_) (fun h => by omega)
    refine bne_mk (fun _ => ?_) (fun h => by omega)
    refine bne_mk (fun h => absurd rfl h) (fun _ => ?_)
    intro Y hY
    refine hY _ _ ?_
    rw [s63l]
    refine bmd_mk (fun _ => hY _ _ ?_) (fun h => absurd (show (1 : Int) < ((4 : Nat) : Int) by decide) h)
    rw [m1, a1, s63l]
    refine bmd_mk (fun _ => hY _ _ ?_) (fun h => absurd (show (2 : Int) < ((4 : Nat) : Int) by decide) h)
    rw [m2, a2, s63l]
    refine bmd_mk (fun _ => hY _ _ ?_) (fun h => absurd (show (3 : Int) < ((4 : Nat) : Int) by decide) h)
    rw [m3, a3, s63l]
    refine bmd_mk (fun h => absurd h (by decide)) (fun _ => ?_)
    intro Z hZ
    refine hZ _ _ ?_
    rw [s63l1]
    refine bmd_mk (fun _ => req_mk (by omega) (push0 H fun σ2 j2 H2 => ?_)) (fun h => absurd (show (0 : Int) < ((4 : Nat) : Int) by decide) h)
    refine hZ _ _ ?_
    rw [a0, d1, s63l1]
    refine bmd_mk (fun _ => req_mk (by omega) (push rfl (by simp) H2 fun σ3 j3 H3 => ?_)) (fun h => absurd (show (1 : Int) < ((4 : Nat) : Int) by decide) h)
    refine hZ _ _ ?_
    rw [a1, d2, s63l1]
    refine bmd_mk (fun _ => req_mk (by omega) (push rfl (by simp) H3 fun σ4 j4 H4 => ?_)) (fun h => absurd (show (2 : Int) < ((4 : Nat) : Int) by decide) h)
    refine hZ _ _ ?_
    rw [a2, d3, s63l1]
    refine bmd_mk (fun _ => req_mk (by omega) (push rfl (by simp) H4 fun σ5 j5 H5 => ?_)) (fun h => absurd (show (3 : Int) < ((4 : Nat) : Int) by decide) h)
    refine hZ _ _ ?_
    rw [a3, d4, s63l1]
    refine bmd_mk (fun h => absurd h (by decide)) (fun _ => ?_)
    rw [ew _ (by omega), ew _ (by omega), ew _ (by omega), ew _ (by omega), Int.ediv_one] at H5
    exact hK σ5 j5 (by simpa [divB, by4] using H5))
/-- Characters as a stream writes them. -/
theorem c61 {l : List Int} {wd : Bool} (H : Has σ X) (ha : l = [] ∨ ∃ r k, a = some ⟨r, 0, none⟩ ∧ (r, AObj.row k (cellsU l)) ∈ X) (hc : ∀ c ∈ l, 0 ≤ c ∧ c ≤ 4294967295) (hl : l.length ≤ 1000000)
    (hK : ∀ σ' a' e' rows', SlC 1 a' e' (cellsU (l.map (putC wd))) rows' → Has σ' (rows' ++ X) → K (.slice a' l.length e') σ') : Tri Tryz.prog 61 [.slice a l.length 1, .bool wd] σ K := tri_in (by
  rw [s61]
  refine aloop (fun (i : Nat) rg σ' => i ≤ l.length ∧ ∃ a' e' rows', SlC 1 a' e' (cellsU ((l.take i).map (putC wd))) rows' ∧ Has σ' (rows' ++ X) ∧ rg = [(0, some (.slice a l.length 1)), (1, some (.bool wd)), (5, some (.slice a' i e')), (6, some (i64 i))]) (fun i => l.length - i) ?_ (a := 0)
    ⟨Nat.zero_le _, none, 0, [], SlC.nil _, H, rfl⟩
  rintro i rg σ1 Y hY ⟨hi, a', e', rows', hs, H1, rfl⟩
  rw [s61l]
  refine bmd_mk (fun h => ?_) (fun h => ?_)
  · obtain ⟨c, hcv⟩ : ∃ c, l[i]? = some c := ⟨l[i]'(by omega), by simp⟩
    obtain ⟨r, k, rfl, hm⟩ := ha.resolve_left (fun e => by rw [e] at h; simp at h; omega)
    have hrow : σ1 r = some (.row k (cellsU l)) := H1.g (List.mem_append_right _ hm)
    have hc' : (cellsU l)[i]? = some (u32 c) := by rw [List.getElem?_map, hcv]; rfl
    have hb := hc c (List.mem_of_getElem? hcv)
    have fin : ∀ {σ2 : AS} {v : Int}, v = putC wd c → Has σ2 (rows' ++ X) → newAt σ2 (.row .rw [u32 v]) fun i3 σ4 => chk (nilOr a' e' (szOf Tryz.prog 54)) (lds σ4 ⟨i3, 0, none⟩ 1 fun l5 => appendTo σ4 1 4 ⟨a', i⟩ l5 1 fun s6 σ7 => JoinS (jn Tryz.prog hintsS (Tri Tryz.prog) 61 [true, true, false, true, false, false, true] [Y] K) [(0, some (.slice (some ⟨r, 0, none⟩) l.length 1)), (1, some (.bool wd)), (5, some (.slice s6.a s6.n 1)), (6, some (i64 i))] σ7) := by
      rintro σ2 v rfl H2
      rw [sz54]
      refine pushC hs H2 (by simp; omega) rfl (by omega) (by omega) fun a2 σ3 rows3 hs3 H3 => ⟨?_⟩
      simp only
      rw [s61j, wrap1 (by omega)]
      refine hY (i + 1) _ _ (by omega) ⟨by omega, a2, 1, rows3, ?_, H3, rfl⟩
      rw [List.take_add_one, hcv]
      simpa using hs3
    cases wd with
    | true =>
      rw [bm_true]
      refine req_mk (by omega) (req_mk (by omega) ?_)
      simp only [sz54, Int.toNat_natCast, Nat.mul_one, pSome_some, Nat.zero_add, add_none]
      refine req_mk trivial ?_
      simp only [ldc_eq hrow, hc', tI_int, pSome_some]
      exact fin rfl H1
    | false =>
      rw [bm_false]
      refine req_mk (by omega) (req_mk (by omega) ?_)
      simp only [sz54, Int.toNat_natCast, Nat.mul_one, pSome_some, Nat.zero_add, add_none]
      refine req_mk trivial ?_
      simp only [ldc_eq hrow, hc', tI_int, pSome_some]
      refine c70 hb.1 ?_
      rw [tI_int]
      exact fin rfl H1
  · have e0 : i = l.length := by omega
    subst e0
    rw [List.take_length] at hs
    exact hK σ1 a' e' rows' hs H1)
/-- A stream's characters. -/
theorem c59 {r : RQ} (H : Has σ X) (R : RIn w g most last X) (hl : g.F.length ≤ 1000) (ho : r.ok) (hr : ∀ q ∈ r.rows, q ∈ X) (hb : ∀ f ∈ g.Fi, ∀ c ∈ f.b, 0 ≤ c ∧ c < 256) (hf : ∀ f ∈ g.Fi, f.b.length ≤ 1048576) (hhas : r.q.nm ≠ [] → hasF g.Fi r.q.nm = true) (hsrt : Srt g.Fi)
    (hK : ∀ σ' a' e' rows' new, SlC 1 a' e' (cellsU (charsOf g.Fi r.q)) rows' → (∀ q ∈ rows', q ∈ new ++ X) → Has σ' (new ++ X) → K (.slice a' (charsOf g.Fi r.q).length e') σ') : Tri Tryz.prog 59 [ptr w, .agg ⟨r.cells⟩] σ K := tri_in (by
  rw [show r.cells = [i64 r.q.n, .string (bsV r.q.nm), .slice r.a r.q.l.length 1, i64 r.q.mode, .bool r.q.wd, i64 r.q.pl, i64 r.q.rd, i64 r.q.wr] from rfl, s59]
  refine newAt_mk H fun i0 σ1 H1 => ?_
  have h0 := H1.at 0 rfl
  have emp : (ByteArray.mk #[]) = bsV [] := rfl
  simp only [ldc_eq h0, emp, strEq_bs, tS_str, tL_sl, pSome_some, List.getElem?_cons_zero, List.getElem?_cons_succ, Nat.zero_add]
  refine bmd_mk (fun e => ?_) (fun e => ?_)
  · have ec : charsOf g.Fi r.q = r.q.l := by unfold charsOf; rw [if_pos e]
    rw [ec] at hK
    exact hK σ1 r.a 1 r.rows [_] ho.e1 (fun q hq => List.mem_cons_of_mem _ (hr q hq)) H1
  · have R1 := R.cons (p := (i0, .row .plain [i64 r.q.n, .string (bsV r.q.nm), .slice r.a r.q.l.length 1, i64 r.q.mode, .bool r.q.wd, i64 r.q.pl, i64 r.q.rd, i64 r.q.wr]))
    have hw := H1.g R1.o
    simp only [ldc_eq hw, tL_ok_eq R.ok.f.no, pSome_some, List.getElem?_cons_zero, List.getElem?_cons_succ]
    have hh := hhas e
    refine c19 H1 R1 hl (fun hn => by rw [hn] at hh; cases hh) (fun i q hi hn => ?_)
    obtain ⟨j, g1, g2, g3, g4⟩ := R1.fel hi
    have e1 := g4 1 (by omega)
    have hlt := (List.getElem?_eq_some_iff.1 hi).1
    obtain ⟨q1, q2⟩ := R1.frow (List.mem_of_getElem? hi)
    have hmem : q.f ∈ g.Fi := List.mem_map_of_mem (List.mem_of_getElem? hi)
    have hbo : bOf g.Fi r.q.nm = q.f.b := by rw [← hn]; exact bOf_mem hsrt hmem
    simp only [ldc_eq hw, tL_ok_eq R.ok.f.no, true_and, tI_int, pSome_some, List.getElem?_cons_zero, List.getElem?_cons_succ]
    refine req_mk (by omega) (req_mk (by omega) ?_)
    simp only [g1, sz112, Int.toNat_natCast, ldc_eq (H1.g g3), e1, RF.cells, tL_ok_eq q2.no, ldc_eq h0, tB_bool, pSome_some, List.getElem?_cons_zero, List.getElem?_cons_succ, Nat.zero_add, add_none]
    have ec : charsOf g.Fi r.q = view r.q.wd q.f.b := by unfold charsOf; rw [if_neg e, hbo]
    rw [ec] at hK
    have hlb := hf _ hmem
    have hbb := hb _ hmem
    have hun := sizeW_un r.q.wd q.f.b
    have hsl := sizeW_le r.q.wd q.f.b
    have go : ∀ un : Int, un = unW r.q.wd → JoinS (jn Tryz.prog hintsS (Tri Tryz.prog) 59 [true, true, true, true] [] K) [(5, some (.slice q.a q.f.b.length 1)), (6, some (i64 un))] σ1 := by
      rintro un rfl
      have hu : unW r.q.wd = 1 ∨ unW r.q.wd = 4 := by cases r.q.wd <;> simp [unW]
      have hsz : ∀ i : Nat, unW r.q.wd * i + unW r.q.wd ≤ q.f.b.length ↔ i < sizeW r.q.wd q.f.b := by
        intro i
        cases r.q.wd <;> simp only [unW, sizeW] <;> omega
      refine ⟨?_⟩
      rw [s59j]
      refine aloop (fun (i : Nat) rg σ' => i ≤ sizeW r.q.wd q.f.b ∧ ∃ a' e' rows', SlC 1 a' e' (cellsU ((view r.q.wd q.f.b).take i)) rows' ∧ Has σ' (rows' ++ ((i0, .row .plain [i64 r.q.n, .string (bsV r.q.nm), .slice r.a r.q.l.length 1, i64 r.q.mode, .bool r.q.wd, i64 r.q.pl, i64 r.q.rd, i64 r.q.wr]) :: X)) ∧
        rg = [(5, some (.slice q.a q.f.b.length 1)), (6, some (i64 (unW r.q.wd))), (7, some (.slice a' i e')), (8, some (i64 (unW r.q.wd * i : Nat)))]) (fun i => sizeW r.q.wd q.f.b - i) ?_ (a := 0) ⟨Nat.zero_le _, none, 0, [], SlC.nil _, H1, rfl⟩
      rintro i rg σ2 Y hY ⟨hi2, a', e', rows', hs, H2, rfl⟩
      rw [s59l]
      have e2 : IntKind.wrap .i64 (((unW r.q.wd * i : Nat) : Int) + unW r.q.wd) = ((unW r.q.wd * i + unW r.q.wd : Nat) : Int) := by
        have : unW r.q.wd * i ≤ unW r.q.wd * sizeW r.q.wd q.f.b := Nat.mul_le_mul_left _ hi2
        rw [wrap64 (by omega) (by omega)]; omega
      rw [e2]
      refine bmd_mk (fun h => ?_) (fun h => ?_)
      · have hlt2 : i < sizeW r.q.wd q.f.b := (hsz i).1 (by omega)
        refine c69 (l := q.f.b) (rows := q.rows) H2 q2.e1 (fun p hp => List.mem_append_right _ (q1 p hp)) hbb (by omega) hu (by omega) ?_
        rw [view_be hlt2]
        simp only [tI_int, tTup_tup, pSome_some, List.getElem?_cons_zero, List.getElem?_cons_succ]
        rw [sz54]
        refine pushC hs H2 (by rw [List.length_map, List.length_take, view_len]; omega) rfl (by omega) (by omega) fun a2 σ3 rows3 hs3 H3 => ?_
        simp only
        refine hY (i + 1) _ _ (by omega) ⟨by omega, a2, 1, rows3, ?_, H3, ?_⟩
        · rw [List.take_add_one, view_get hlt2]
          simpa using hs3
        · rw [Nat.mul_add, Nat.mul_one]
      · have e0 : i = sizeW r.q.wd q.f.b := Nat.le_antisymm hi2 (Nat.not_lt.1 fun h' => h (by have := (hsz i).2 h'; omega))
        subst e0
        rw [← view_len, List.take_length] at hs
        have H3 : Has σ2 ((rows' ++ [(i0, .row .plain [i64 r.q.n, .string (bsV r.q.nm), .slice r.a r.q.l.length 1, i64 r.q.mode, .bool r.q.wd, i64 r.q.pl, i64 r.q.rd, i64 r.q.wr])]) ++ X) := H2.sep (fun a => by simp only [cnt_app, cnt_cons, List.append_assoc, List.cons_append, List.nil_append, i64]; omega)
        have := hK σ2 a' e' rows' _ hs (fun p hp => by simp [hp]) H3
        rw [view_len] at this
        exact this
    cases hwd : r.q.wd with
    | true => rw [bm_true]; exact go 4 (by rw [hwd]; rfl)
    | false => rw [bm_false]; exact go 1 (by rw [hwd]; rfl))
/-- A new one. -/
theorem c8 (H : Has σ X) (hE : ¬ (0 ≤ n ∧ n ≤ 1048576) → K (.tuple ⟨[.pointer none, i64 1]⟩) σ) (hK : 0 ≤ n ∧ n ≤ 1048576 → ∀ σ' w, Has σ' ((w, refO n none 0 0 none 0 0 0) :: X) → K (.tuple ⟨[ptr w, i64 0]⟩) σ') : Tri Tryz.prog 8 [i64 n] σ K := tri_in (by
  rw [s8]
  refine bmd_mk (fun h => hE (by omega)) (fun h => bmd_mk (fun h2 => hE (by omega)) (fun h2 => ?_))
  exact newAt_mk H fun i σ1 H1 => hK (by omega) σ1 i H1)
end
end Go.AI
end
section
set_option linter.unusedSimpArgs false
set_option linter.unusedVariables false
set_option maxRecDepth 10000
/- The reference: a stream more, a file more, Put, Delete, Open, Buffer; no condition but those that each names. -/
namespace Go.AI
open Go.Proofs Go.Shelf
theorem cnt_perm {L M : List (Nat × AObj)} (h : L.Perm M) (a : Nat × AObj) : cnt a L = cnt a M := by
  induction h with
  | nil => rfl
  | cons x _ ih => rw [cnt_cons, cnt_cons, ih]
  | swap x y l => rw [cnt_cons, cnt_cons, cnt_cons, cnt_cons]; omega
  | trans _ _ ih1 ih2 => rw [ih1, ih2]
/-- The reference's shelf in a state, with what lies beside it. -/
def RSt (w : Nat) (most last : Int) (F : List Fi) (S : List Sm) (fr : List (Nat × AObj)) (σ : AS) : Prop :=
  ∃ g : RG, g.ok ∧ g.Fi = F ∧ g.Sm = S ∧ Has σ ((w, g.O most last) :: (g.R ++ fr))
def RF.n1 (r : RF) : RF := { r with e := 1 }
theorem RF.n1_ok {r : RF} (h : r.ok) : r.n1.ok := SlC.e1 h
def insR (r0 : RF) : List RF → List RF
  | [] => [r0]
  | r :: L => if r0.f.nm < r.f.nm then r0 :: r :: L else r :: insR r0 L
theorem insR_f (r0 : RF) : ∀ L : List RF, (insR r0 L).map RF.f = insF r0.f (L.map RF.f)
  | [] => rfl
  | r :: L => by
    unfold insR
    rw [List.map_cons]
    unfold insF
    split
    · rfl
    · rw [List.map_cons, insR_f r0 L]
theorem insR_perm (r0 : RF) : ∀ L : List RF, (insR r0 L).Perm (r0 :: L)
  | [] => .refl _
  | r :: L => by
    unfold insR
    split
    · exact .refl _
    · exact (List.Perm.cons r (insR_perm r0 L)).trans (.swap r0 r L)
theorem insR_no {r0 : RF} : ∀ {L : List RF}, (∀ r ∈ L, ¬ r0.f.nm < r.f.nm) → insR r0 L = L ++ [r0]
  | [], _ => rfl
  | r :: L, h => by
    unfold insR
    rw [if_neg (h r (by simp)), insR_no fun x hx => h x (by simp [hx])]
    rfl
theorem insR_in {r0 x : RF} : ∀ {L : List RF}, (∃ r ∈ L, r0.f.nm < r.f.nm) → insR r0 (L ++ [x]) = insR r0 L ++ [x]
  | [], h => by obtain ⟨r, hr, _⟩ := h; cases hr
  | r :: L, h => by
    rw [List.cons_append]
    unfold insR
    split
    · rfl
    · rename_i hn
      rw [insR_in (L := L)]
      · rfl
      · obtain ⟨q, hq, hl⟩ := h
        rcases List.mem_cons.1 hq with rfl | hq
        · exact absurd hl hn
        · exact ⟨q, hq, hl⟩
theorem insR_new {r0 x : RF} : ∀ {L : List RF}, (∀ r ∈ L, ¬ r0.f.nm < r.f.nm) → r0.f.nm < x.f.nm → insR r0 (L ++ [x]) = L ++ [r0, x]
  | [], _, h => by simp [insR, h]
  | r :: L, hn, h => by
    rw [List.cons_append]
    unfold insR
    rw [if_neg (hn r (by simp)), insR_new (fun q hq => hn q (by simp [hq])) h]
    rfl
theorem n1_flat (L : List RF) : (L.map RF.n1).flatMap RF.rows = L.flatMap RF.rows := by
  induction L with
  | nil => rfl
  | cons r L ih => rw [List.map_cons, List.flatMap_cons, List.flatMap_cons, ih]; rfl
theorem notLe (a b : List UInt8) : (!(decide (a < b) || decide (a = b))) = decide (b < a) := by
  by_cases h1 : b < a
  · have h2 : ¬ a < b := fun h => lt_irrefl _ (List.lt_trans h h1)
    have h3 : ¬ a = b := fun e => by rw [e] at h1; exact lt_irrefl _ h1
    simp [h1, h2, h3]
  · by_cases h2 : a < b
    · simp [h1, h2]
    · have := lt_total h2 h1
      simp [this]
section
variable {σ : AS} {K : Value → AS → Prop} {fr : List (Nat × AObj)} {w : Nat} {g : RG} {most last n : Int} {nm : List UInt8} {F : List Fi} {S : List Sm}
theorem c58 (hg : g.ok) (H : Has σ ((w, g.O most last) :: (g.R ++ fr))) (hl : g.F.length ≤ 1000) (hK : ∀ σ', RSt w most last (insF ⟨nm, []⟩ g.Fi) g.Sm fr σ' → K unit0 σ') : Tri Tryz.prog 58 [ptr w, .string (bsV nm)] σ K := tri_in (by
  rw [s58]
  let r0 : RF := ⟨⟨nm, []⟩, none, 0, []⟩
  have r0ok : r0.ok := SlC.nil 0
  have R : RIn w g most last ((w, g.O most last) :: (g.R ++ fr)) := RIn.of hg
  have done : ∀ {σ1 : AS} {a' : Option Addr} {e' : Nat} {rows' : List (Nat × AObj)} {out : List RF}, out = insR r0 (g.F.map RF.n1) → SlC 2 a' e' (out.flatMap RF.cells) rows' → Has σ1 (rows' ++ (w, g.O most last) :: (g.R ++ fr)) →
      JoinS (jn Tryz.prog hintsS (Tri Tryz.prog) 58 [true, true, true] [] K) [(0, some (ptr w)), (4, some (.slice a' out.length e'))] σ1 := by
    intro σ1 a' e' rows' out ho hs H1
    refine ⟨?_⟩
    rw [s58j1]
    have H2 : Has σ1 ((w, g.O most last) :: (rows' ++ (g.R ++ fr))) := H1.sep (fun a => by simp only [cnt_app, cnt_cons, List.append_assoc]; omega)
    refine put0 H2 rfl (by simp) fun σ2 H3 => hK σ2 ?_
    refine ⟨⟨a', e', rows', out, g.sa, g.se, g.sr, g.S⟩, ⟨hs, hg.s, ?_, hg.so⟩, ?_, rfl, ?_⟩
    · intro r hr
      rw [ho] at hr
      rcases List.mem_cons.1 ((insR_perm r0 _).mem_iff.1 hr) with rfl | hr
      · exact r0ok
      · obtain ⟨q, hq, rfl⟩ := List.mem_map.1 hr
        exact RF.n1_ok (hg.fo q hq)
    · show out.map RF.f = _
      rw [ho, insR_f, List.map_map]
      rfl
    · have hc : ∀ a, cnt a (out.flatMap RF.rows) = cnt a (g.F.flatMap RF.rows) := by
        intro a
        rw [ho, cnt_perm ((insR_perm r0 (g.F.map RF.n1)).flatMap_right RF.rows) a, List.flatMap_cons, n1_flat]
        rfl
      exact H3.sep (fun a => by simp only [RG.R, cnt_app, cnt_cons, List.append_assoc, hc a]; simp only [RG.O, refO, List.set_cons_succ, List.set_cons_zero, Nat.zero_add]; omega)
  refine aloop (fun (i : Nat) rg σ' => i ≤ g.F.length ∧ ∃ b a' e' rows' out, SlC 2 a' e' (List.flatMap RF.cells out) rows' ∧ Has σ' (rows' ++ (w, g.O most last) :: (g.R ++ fr)) ∧
    ((b = false ∧ (∀ r ∈ g.F.take i, ¬ nm < r.f.nm) ∧ out = (g.F.take i).map RF.n1) ∨ (b = true ∧ (∃ r ∈ g.F.take i, nm < r.f.nm) ∧ out = insR r0 ((g.F.take i).map RF.n1))) ∧
    rg = [(0, some (ptr w)), (1, some (.string (bsV nm))), (4, some (.slice a' out.length e')), (5, some (.bool b)), (6, some (i64 i))]) (fun i => g.F.length - i) ?_ (a := 0)
    ⟨Nat.zero_le _, false, none, 0, [], [], SlC.nil 0, H, .inl ⟨rfl, by simp, by simp⟩, rfl⟩
  rintro i rg σ1 Y hY ⟨hi, b, a', e', rows', out, hs, H1, hcase, rfl⟩
  rw [s58l]
  have R1 : RIn w g most last (rows' ++ (w, g.O most last) :: (g.R ++ fr)) := R.new
  have hw := H1.g R1.o
  have hol : out.length ≤ i + 1 := by
    rcases hcase with ⟨_, _, rfl⟩ | ⟨_, _, rfl⟩
    · simp; omega
    · rw [(insR_perm r0 _).length_eq]; simp; omega
  simp only [ldc_eq hw, tL_ok_eq hg.f.no, pSome_some, List.getElem?_cons_zero, List.getElem?_cons_succ, Nat.zero_add]
  have push : ∀ {σ2 : AS} {a2 : Option Addr} {e2 : Nat} {rows2 : List (Nat × AObj)} {out2 : List RF} {r : RF} {G : Sl → AS → Prop}, out2.length ≤ 2000 → SlC 2 a2 e2 (out2.flatMap RF.cells) rows2 → Has σ2 (rows2 ++ (w, g.O most last) :: (g.R ++ fr)) →
      (∀ a3 σ3 rows3, SlC 2 a3 2 ((out2 ++ [r]).flatMap RF.cells) rows3 → Has σ3 (rows3 ++ (w, g.O most last) :: (g.R ++ fr)) → G ⟨a3, (out2 ++ [r]).length⟩ σ3) →
      newAt σ2 (.row .rw r.cells) fun i7 σ8 => chk (nilOr a2 e2 (szOf Tryz.prog 112)) (lds σ8 ⟨i7, 0, none⟩ 2 fun l9 => appendTo σ8 2 40 ⟨a2, out2.length⟩ l9 1 G) := by
    intro σ2 a2 e2 rows2 out2 r G hlen hs2 H2 hG
    rw [sz112]
    refine pushC hs2 H2 (by rw [fm_len fcl]) rfl (by omega) (by omega) fun a3 σ3 rows3 hs3 H3 => ?_
    have e3 : (out2 ++ [r]).flatMap RF.cells = out2.flatMap RF.cells ++ r.cells := by simp
    have := hG a3 σ3 rows3 (by rw [e3]; exact hs3) H3
    rw [List.length_append] at this
    exact this
  -- the element itself
  have step : ∀ {σ2 : AS} {a2 : Option Addr} {e2 : Nat} {rows2 : List (Nat × AObj)} {out2 : List RF} {b2 : Bool} {r : RF}, g.F[i]? = some r → out2.length ≤ 2000 → SlC 2 a2 e2 (out2.flatMap RF.cells) rows2 → Has σ2 (rows2 ++ (w, g.O most last) :: (g.R ++ fr)) →
      ((b2 = false ∧ (∀ r ∈ g.F.take (i + 1), ¬ nm < r.f.nm) ∧ out2 ++ [r.n1] = (g.F.take (i + 1)).map RF.n1) ∨ (b2 = true ∧ (∃ r ∈ g.F.take (i + 1), nm < r.f.nm) ∧ out2 ++ [r.n1] = insR r0 ((g.F.take (i + 1)).map RF.n1))) →
      JoinS (jn Tryz.prog hintsS (Tri Tryz.prog) 58 [true, true, false, true, false, false, true, false, false] [Y] K) [(0, some (ptr w)), (1, some (.string (bsV nm))), (4, some (.slice a2 out2.length e2)), (5, some (.bool b2)), (6, some (i64 i))] σ2 := by
    intro σ2 a2 e2 rows2 out2 b2 r hr hlen hs2 H2 hc2
    refine ⟨?_⟩
    rw [s58j]
    have R2 : RIn w g most last (rows2 ++ (w, g.O most last) :: (g.R ++ fr)) := R.new
    have hw2 := H2.g R2.o
    obtain ⟨j, h1, h2, h3, h4⟩ := R2.fel hr
    have hlt := (List.getElem?_eq_some_iff.1 hr).1
    have hno := (R2.frow (List.mem_of_getElem? hr)).2.no
    simp only [ldc_eq hw2, tL_ok_eq hg.f.no, pSome_some, List.getElem?_cons_zero, List.getElem?_cons_succ, Nat.zero_add]
    refine req_mk (by omega) (req_mk (by omega) ?_)
    simp only [h1, sz112, Int.toNat_natCast, pSome_some, Nat.zero_add, add_none]
    refine ldsm H2 h3 (by rw [fm_len fcl]; omega) ?_
    rw [fm_take fcl hr]
    simp only [RF.cells, tL_ok_eq hno, tS_str, tCons_cons, tNil_nil]
    refine push (r := r.n1) hlen hs2 H2 fun a3 σ3 rows3 hs3 H3 => ?_
    rw [wrap1 (by omega)]
    exact hY (i + 1) _ _ (by omega) ⟨by omega, b2, a3, 2, rows3, _, hs3, H3, hc2, rfl⟩
  refine bmd_mk (fun h => ?_) (fun h => ?_)
  · obtain ⟨r, hr⟩ : ∃ r, g.F[i]? = some r := ⟨g.F[i]'(by omega), by simp⟩
    have et : g.F.take (i + 1) = g.F.take i ++ [r] := by rw [List.take_add_one, hr]; rfl
    rcases hcase with ⟨rfl, hno, ho⟩ | ⟨rfl, hin, ho⟩
    · rw [Bool.not_false, bm_true]
      obtain ⟨j, h1, h2, h3, h4⟩ := R1.fel hr
      have e0 := h4 0 (by omega)
      rw [Nat.add_zero] at e0
      refine req_mk (by omega) (req_mk (by omega) ?_)
      simp only [h1, sz112, Int.toNat_natCast, ldc_eq (H1.g h3), e0, RF.cells, strEq_bs, strLt_bs, notLe, tS_str, pSome_some, List.getElem?_cons_zero, Nat.zero_add, Nat.add_zero, add_none]
      refine bmd_mk (fun hlt => ?_) (fun hlt => ?_)
      · rw [← sz112]
        refine push (r := r0) (by omega) hs H1 fun a3 σ3 rows3 hs3 H3 => ?_
        simp only
        refine step hr (by simp; omega) hs3 H3 (.inr ⟨rfl, ⟨r, by rw [et]; simp, hlt⟩, ?_⟩)
        rw [et, List.map_append, ho]
        rw [show [r].map RF.n1 = [r.n1] from rfl, insR_new (L := (g.F.take i).map RF.n1) (fun q hq => by
          obtain ⟨q', hq', rfl⟩ := List.mem_map.1 hq
          exact hno q' hq') hlt]
        simp
      · refine step hr (by omega) hs H1 (.inl ⟨rfl, ?_, ?_⟩)
        · intro q hq
          rw [et] at hq
          rcases List.mem_append.1 hq with hq | hq
          · exact hno q hq
          · simp at hq; subst hq; exact hlt
        · rw [et, List.map_append, ho]; rfl
    · rw [Bool.not_true, bm_false]
      refine step hr (by omega) hs H1 (.inr ⟨rfl, ?_, ?_⟩)
      · obtain ⟨q, hq, hl⟩ := hin
        exact ⟨q, by rw [et]; simp [hq], hl⟩
      · rw [et, List.map_append, ho]
        rw [show [r].map RF.n1 = [r.n1] from rfl, insR_in (L := (g.F.take i).map RF.n1)]
        obtain ⟨q, hq, hl⟩ := hin
        exact ⟨q.n1, List.mem_map_of_mem hq, hl⟩
  · have e0 : i = g.F.length := by omega
    subst e0
    rw [List.take_length] at hcase
    rcases hcase with ⟨rfl, hno, ho⟩ | ⟨rfl, hin, ho⟩
    · rw [Bool.not_false, bm_true]
      refine push (r := r0) (by omega) hs H1 fun a3 σ3 rows3 hs3 H3 => done ?_ hs3 H3
      rw [ho, insR_no]
      intro q hq
      obtain ⟨q', hq', rfl⟩ := List.mem_map.1 hq
      exact hno q' hq'
    · rw [Bool.not_true, bm_false]
      exact done ho hs H1)
theorem cnt_set {α : Type} {f : α → List (Nat × AObj)} (a : Nat × AObj) : ∀ {L : List α} {i : Nat} {x : α} (y : α), L[i]? = some x → cnt a ((L.set i y).flatMap f) + cnt a (f x) = cnt a (L.flatMap f) + cnt a (f y)
  | [], i, x, y, h => by simp at h
  | z :: L, 0, x, y, h => by
    simp at h
    subst h
    rw [List.set_cons_zero, List.flatMap_cons, List.flatMap_cons, cnt_app, cnt_app]
    omega
  | z :: L, i + 1, x, y, h => by
    have := cnt_set (f := f) a (L := L) y (by simpa using h)
    rw [List.set_cons_succ, List.flatMap_cons, List.flatMap_cons, cnt_app, cnt_app]
    omega
theorem setB_at : ∀ {F : List Fi} {i : Nat} {f : Fi} (b : List Int), Srt F → F[i]? = some f → F.set i { f with b := b } = setB f.nm b F
  | [], i, f, b, _, h => by simp at h
  | x :: F, 0, f, b, hs, h => by
    simp at h
    subst h
    obtain ⟨h1, h2⟩ := List.pairwise_cons.1 hs
    have h3 : setB x.nm b F = F := setB_none fun q hq e => by
      have := h1 q hq
      rw [e] at this
      exact lt_irrefl _ this
    unfold setB at h3 ⊢
    rw [List.set_cons_zero, List.map_cons, h3, if_pos rfl]
  | x :: F, i + 1, f, b, hs, h => by
    have h' : F[i]? = some f := by simpa using h
    obtain ⟨h1, h2⟩ := List.pairwise_cons.1 hs
    have h3 := setB_at b h2 h'
    have h4 : x.nm ≠ f.nm := fun e => by
      have := h1 f (List.mem_of_getElem? h')
      rw [e] at this
      exact lt_irrefl _ this
    unfold setB at h3 ⊢
    rw [List.set_cons_succ, h3, List.map_cons, if_neg h4]
theorem setS_at : ∀ {S : List Sm} {i : Nat} {x y : Sm}, (S.Pairwise fun x y => x.n < y.n) → S[i]? = some x → y.n = x.n → S.set i y = setS y S
  | [], i, x, y, _, h, _ => by simp at h
  | z :: S, 0, x, y, hs, h, hn => by
    simp at h
    subst h
    obtain ⟨h1, h2⟩ := List.pairwise_cons.1 hs
    have h3 : S.map (fun q => if q.n = y.n then y else q) = S := by
      conv => rhs; rw [← List.map_id S]
      refine List.map_congr_left fun q hq => ?_
      have := h1 q hq
      rw [if_neg (by omega)]
      rfl
    unfold setS
    rw [List.set_cons_zero, List.map_cons, h3, if_pos hn.symm]
  | z :: S, i + 1, x, y, hs, h, hn => by
    have h' : S[i]? = some x := by simpa using h
    obtain ⟨h1, h2⟩ := List.pairwise_cons.1 hs
    have h3 := setS_at h2 h' hn
    have h4 := h1 x (List.mem_of_getElem? h')
    unfold setS at h3 ⊢
    rw [List.set_cons_succ, h3, List.map_cons, if_neg (by omega)]
theorem g_len (h : g.Fi = F) : g.F.length = F.length := by rw [← h]; simp
theorem g_lenS (h : g.Sm = S) : g.S.length = S.length := by rw [← h]; simp
/-- A file's bytes, written. -/
theorem putF {i : Nat} {r : RF} {b : List Int} {a' : Option Addr} {e' : Nat} {rn : List (Nat × AObj)} {G : AS → Prop} (hg : g.ok) (H : Has σ ((w, g.O most last) :: (g.R ++ (rn ++ fr)))) (hi : g.F[i]? = some r) (hs : SlC 1 a' e' (cells8 b) rn)
    (hG : ∀ σ' (g' : RG), g'.ok → g'.Fi = g.Fi.set i { r.f with b := b } → g'.Sm = g.Sm → g'.S = g.S → Has σ' ((w, g'.O most last) :: (g'.R ++ fr)) → G σ') : ∃ j, g.fa = some ⟨j, 0, none⟩ ∧ put1 σ ⟨j, i * 2 + 1, none⟩ (.slice a' b.length e') G := by
  have hlt := (List.getElem?_eq_some_iff.1 hi).1
  obtain ⟨j, h1, h2, h3⟩ := hg.f.at (p := 0) (by rw [fm_len fcl]; omega)
  refine ⟨j, h1, ?_⟩
  let r' : RF := ⟨{ r.f with b := b }, a', e', rn⟩
  have hset := fm_set fcl g.F i 1 r r' (.slice a' b.length e') hi (by omega) rfl
  have H2 : Has σ ((j, .row .rw (g.F.flatMap RF.cells)) :: ((w, g.O most last) :: (g.sr ++ (g.F.flatMap RF.rows ++ (g.S.flatMap RQ.rows ++ (rn ++ fr)))))) := by
    unfold RG.R at H
    rw [h3] at H
    exact H.sep (fun a => by simp only [cnt_app, cnt_cons, List.append_assoc, List.cons_append, List.nil_append]; omega)
  refine put0 H2 rfl (by rw [fm_len fcl]; omega) fun σ' H' => ?_
  rw [hset] at H'
  refine hG σ' ⟨g.fa, 2, [(j, .row .rw ((g.F.set i r').flatMap RF.cells))], g.F.set i r', g.sa, g.se, g.sr, g.S⟩ ⟨?_, hg.s, ?_, hg.so⟩ ?_ rfl rfl ?_
  · rw [h1]; exact SlC.row
  · intro q hq
    rcases List.mem_or_eq_of_mem_set hq with hq | rfl
    · exact hg.fo q hq
    · exact hs
  · show (g.F.set i r').map RF.f = _
    rw [List.map_set]
  · have hc := fun a => cnt_set (f := RF.rows) a (L := g.F) r' hi
    have e1 : g.O most last = refO most g.fa (g.F.set i r').length 2 g.sa g.S.length g.se last := by rw [List.length_set, h2]
    rw [e1] at H'
    refine H'.sep fun a => ?_
    have := hc a
    have e2 : cnt a (RF.rows r') = cnt a rn := rfl
    simp only [RG.R, RG.O, refO, cnt_app, cnt_cons, List.append_assoc, List.cons_append, List.nil_append, i64]
    omega
theorem c60 {r : RQ} (hg : g.ok) (H : Has σ ((w, g.O most last) :: (g.R ++ (r.rows ++ fr)))) (ho : r.ok) (h0 : 0 ≤ last) (h1 : last ≤ 1048576) (hl : g.S.length ≤ 1000) (hK : ∀ σ', RSt w most (last + 1) g.Fi (g.Sm ++ [{ r.q with n := last + 1 }]) fr σ' → K (i64 (last + 1)) σ') :
    Tri Tryz.prog 60 [ptr w, .agg ⟨r.cells⟩] σ K := tri_in (by
  rw [show r.cells = [i64 r.q.n, .string (bsV r.q.nm), .slice r.a r.q.l.length 1, i64 r.q.mode, .bool r.q.wd, i64 r.q.pl, i64 r.q.rd, i64 r.q.wr] from rfl, s60]
  refine newAt_mk H fun i0 σ1 H1 => ?_
  simp only [ldc_eq (H1.at 1 rfl), tI_int, pSome_some, List.getElem?_cons_zero, List.getElem?_cons_succ, Nat.zero_add]
  rw [wrap64 (by omega) (by omega)]
  have H2 : Has σ1 ((w, g.O most last) :: ((i0, .row .plain [i64 r.q.n, .string (bsV r.q.nm), .slice r.a r.q.l.length 1, i64 r.q.mode, .bool r.q.wd, i64 r.q.pl, i64 r.q.rd, i64 r.q.wr]) :: (g.R ++ (r.rows ++ fr)))) := H1.sep (fun a => by simp only [cnt_app, cnt_cons, List.append_assoc, i64, RG.O, refO]; omega)
  refine put0 H2 rfl (by simp) fun σ2 H3 => ?_
  simp only [ldc_eq (H3.at 0 rfl), List.set_cons_succ, List.set_cons_zero, tI_int, pSome_some, List.getElem?_cons_zero, List.getElem?_cons_succ]
  have H4 : Has σ2 ((i0, .row .plain [i64 r.q.n, .string (bsV r.q.nm), .slice r.a r.q.l.length 1, i64 r.q.mode, .bool r.q.wd, i64 r.q.pl, i64 r.q.rd, i64 r.q.wr]) :: ((w, g.O most (last + 1)) :: (g.R ++ (r.rows ++ fr)))) := H3.sep (fun a => by simp only [cnt_app, cnt_cons, List.append_assoc, i64, List.set_cons_zero, List.set_cons_succ, RG.O, refO]; omega)
  refine put0 H4 rfl (by simp) fun σ3 H5 => ?_
  have hw := H5.at 1 rfl
  have hi := H5.at 0 rfl
  simp only [ldc_eq hw, tL_ok_eq hg.s.no, lds_eq hi 0 8 (by simp), List.drop_zero, List.set_cons_zero, List.take_succ_cons, List.take_zero, tL_ok_eq ho.no, tI_int, tB_bool, tS_str, pSome_some, List.getElem?_cons_zero, List.getElem?_cons_succ, tCons_cons, tNil_nil]
  refine newAt_mk H5 fun i35 σ4 H6 => ?_
  have hw4 := H6.at 2 rfl
  have hi4 := H6.at 1 rfl
  have hn4 := H6.at 0 rfl
  simp only [ldc_eq hw4, tL_ok_eq hg.s.no, lds_eq hn4 0 8 (by simp), List.drop_zero, List.take_succ_cons, List.take_zero, true_and, pSome_some, List.getElem?_cons_zero, List.getElem?_cons_succ]
  let r' : RQ := ⟨{ r.q with n := last + 1 }, r.a, 1, r.rows⟩
  let r2 : RQ := ⟨{ r.q with n := last + 1 }, r.a, r.e, r.rows⟩
  refine appC (new := r'.cells) (X := (w, g.O most (last + 1)) :: (g.fr ++ (g.F.flatMap RF.rows ++ (g.S.flatMap RQ.rows ++ (r.rows ++ ((i0, .row .plain r2.cells) :: fr)))))) hg.s (H6.sep (fun a => by simp only [cnt_app, cnt_cons, List.append_assoc, i64, List.set_cons_zero, RG.R, RG.O, refO, r2, RQ.cells]; omega)) (by rw [fm_len qcl]) rfl (by omega) (by omega) fun a' σ5 rows' hs' H7 => ?_
  have H8 : Has σ5 ((w, g.O most (last + 1)) :: (rows' ++ (g.fr ++ (g.F.flatMap RF.rows ++ (g.S.flatMap RQ.rows ++ (r.rows ++ ((i0, .row .plain r2.cells) :: fr))))))) := H7.sep (fun a => by simp only [cnt_app, cnt_cons]; omega)
  refine put0 H8 rfl (by simp) fun σ6 H9 => ?_
  have hi6 : σ6 i0 = some (.row .plain r2.cells) := H9.g (by simp)
  simp only [ldc_eq hi6]
  refine hK σ6 ⟨⟨g.fa, g.fe, g.fr, g.F, a', 8, rows', g.S ++ [r']⟩, ⟨hg.f, ?_, hg.fo, ?_⟩, rfl, ?_, ?_⟩
  · rw [List.flatMap_append, List.flatMap_cons, List.flatMap_nil, List.append_nil]; exact hs'
  · intro q hq
    rcases List.mem_append.1 hq with hq | hq
    · exact hg.so q hq
    · simp at hq; subst hq; exact SlC.e1 ho
  · show (g.S ++ [r']).map RQ.q = _
    rw [List.map_append]
    rfl
  · have e1 : (g.S ++ [r']).length = g.S.length + 1 := by simp
    have e2 : r'.rows = r.rows := rfl
    refine H9.sep fun a => ?_
    simp only [RG.R, RG.O, refO, e1, e2, cnt_app, cnt_cons, List.flatMap_append, List.flatMap_cons, List.flatMap_nil, List.append_assoc, List.nil_append, i64, List.set_cons_zero, List.set_cons_succ]
    omega)
end
end Go.AI
end
section
set_option linter.unusedSimpArgs false
set_option linter.unusedVariables false
set_option maxRecDepth 10000
/- The reference: Buffer, Open, Put, Delete; no condition but those that each names. -/
namespace Go.AI
open Go.Proofs Go.Shelf
/-- A row of numbers that may be read. -/
def Inp (c : Int → Value) (a : Option Addr) (l : List Int) (X : List (Nat × AObj)) : Prop := l = [] ∨ ∃ r k, a = some ⟨r, 0, none⟩ ∧ (r, AObj.row k (l.map c)) ∈ X
theorem Inp.mono {c : Int → Value} {a : Option Addr} {l : List Int} {X Y : List (Nat × AObj)} (h : Inp c a l X) (hs : ∀ p ∈ X, p ∈ Y) : Inp c a l Y := by
  rcases h with h | ⟨r, k, h1, h2⟩
  · exact .inl h
  · exact .inr ⟨r, k, h1, hs _ h2⟩
theorem _root_.Go.Shelf.Ok.flen1 {most last : Int} {F : List Fi} {S : List Sm} {k : Nat} (ok : Ok most last F S k) : ∀ f ∈ F, f.b.length ≤ 1048576 := fun f hf => by
  have h1 := totF_mem hf
  have h2 := ok.tot
  have h3 := ok.most1
  omega
theorem find_map {g : RG} {i : Nat} {r : RF} (h : g.F[i]? = some r) : g.Fi[i]? = some r.f := by
  show (g.F.map RF.f)[i]? = _
  rw [List.getElem?_map, h]; rfl
theorem find_mapS {g : RG} {i : Nat} {r : RQ} (h : g.S[i]? = some r) : g.Sm[i]? = some r.q := by
  show (g.S.map RQ.q)[i]? = _
  rw [List.getElem?_map, h]; rfl
section
variable {σ : AS} {K : Value → AS → Prop} {fr : List (Nat × AObj)} {w k : Nat} {g : RG} {most last n mode : Int} {nm : List UInt8} {F : List Fi} {S : List Sm} {l : List Int} {a : Option Addr} {wd : Bool}
theorem c35 (hS : RSt w most last F S fr σ) (ok : Ok most last F S k) (ha : Inp u32 a l fr) (hc : ∀ c ∈ l, 0 ≤ c ∧ c ≤ 4294967295)
    (hE : bufE S l.length mode ≠ 0 → ∀ σ', RSt w most last F S fr σ' → K (.tuple ⟨[i64 0, i64 (bufE S l.length mode)]⟩) σ')
    (hK : bufE S l.length mode = 0 → ∀ σ', RSt w most (last + 1) F (S ++ [bufS last l mode wd]) fr σ' → K (.tuple ⟨[i64 (last + 1), i64 0]⟩) σ') : Tri Tryz.prog 35 [ptr w, .slice a l.length 1, i64 mode, .bool wd] σ K := tri_in (by
  rw [s35]
  have hS0 := hS
  obtain ⟨g, hg, rfl, rfl, H⟩ := hS
  have lS : g.S.length = g.Sm.length := by simp
  have sl := ok.slen
  have arg : bufE g.Sm l.length mode = 1 → JoinS (jn Tryz.prog hintsS (Tri Tryz.prog) 35 [true, false] [] K) [(0, some (ptr w)), (1, some (.slice a l.length 1)), (2, some (i64 mode)), (3, some (.bool wd)), (20, some (.bool true))] σ := by
    intro e
    refine ⟨?_⟩
    rw [s35j, bm_true]
    rw [e] at hE
    exact hE (by decide) σ hS0
  refine bmd_mk (fun h => arg ?_) (fun h => bmd_mk (fun h2 => arg ?_) (fun h2 => ⟨?_⟩))
  · unfold bufE; rw [if_pos (.inl h)]
  · unfold bufE; rw [if_pos (.inr (.inl h2))]
  rw [s35j]
  refine bmd_mk (fun h3 => ?_) (fun h3 => ?_)
  · have e : bufE g.Sm l.length mode = 1 := by unfold bufE; rw [if_pos (.inr (.inr (by omega)))]
    rw [e] at hE
    exact hE (by decide) σ hS0
  have h123 : ¬ (mode < 1 ∨ mode > 3 ∨ l.length > 4096) := by omega
  simp only [ldc_eq (H.at 0 rfl), tL_ok_eq hg.s.no, pSome_some, List.getElem?_cons_zero, List.getElem?_cons_succ, Nat.zero_add]
  refine beq_mk (fun h4 => ?_) (fun h4 => ?_)
  · have e : bufE g.Sm l.length mode = 4 := by unfold bufE; rw [if_neg h123, if_pos (by omega)]
    rw [e] at hE
    exact hE (by decide) σ hS0
  have e0 : bufE g.Sm l.length mode = 0 := by unfold bufE; rw [if_neg h123, if_neg (by omega)]
  refine c61 (wd := wd) H (ha.mono fun p hp => by simp [hp]) hc (by omega) fun σ1 a' e' rows' hs H1 => ?_
  refine tL_ok hs.no ?_
  let r : RQ := ⟨⟨0, [], l.map (putC wd), mode, wd, 0, 0, 0⟩, a', 1, rows'⟩
  have H2 : Has σ1 ((w, g.O most last) :: (g.R ++ (r.rows ++ fr))) := H1.sep (fun a => by simp only [cnt_app, cnt_cons, List.append_assoc, show r.rows = rows' from rfl]; omega)
  have el : (l.map (putC wd)).length = l.length := by simp
  have := c60 (K := fun v6 σ6 => tI .i64 v6 fun n7 => K (.tuple ⟨[i64 n7, i64 0]⟩) σ6) (r := r) (fr := fr) hg H2 hs.e1 ok.last0 (by have := ok.last1; have := ok.kle; omega) (by omega) (fun σ2 S2 => by
    rw [tI_int]
    exact hK e0 σ2 S2)
  simp only [RQ.cells, r, el] at this
  exact this)
theorem RSt.in_ (hS : RSt w most last F S fr σ) : ∃ g : RG, g.ok ∧ g.Fi = F ∧ g.Sm = S ∧ Has σ ((w, g.O most last) :: (g.R ++ fr)) := hS
theorem hasF_split {F : List Fi} {n : List UInt8} : hasF F n = true ∨ hasF F n = false := by cases hasF F n <;> simp
/-- A stream on a file, at the end. -/
theorem c34z {F' : List Fi} (hg : g.ok) (hF : g.Fi = F') (hS : g.Sm = S) (H : Has σ ((w, g.O most last) :: (g.R ++ fr))) (hfl : F'.length ≤ 64) (hfb : ∀ f ∈ F', ∀ c ∈ f.b, 0 ≤ c ∧ c < 256) (hf1 : ∀ f ∈ F', f.b.length ≤ 1048576) (hsrt : Srt F') (hsl : S.length ≤ 64) (h0 : 0 ≤ last) (h1 : last ≤ 1024)
    (hn : named nm) (hh : hasF F' nm = true)
    (hK : ∀ σ', RSt w most (last + 1) F' (S ++ [⟨last + 1, nm, [], mode, wd, if mode = 5 then sizeW wd (bOf F' nm) else 0, 0, 0⟩]) fr σ' → K (.tuple ⟨[i64 (last + 1), i64 0]⟩) σ') :
    jn Tryz.prog hintsS (Tri Tryz.prog) 34 [true, true, true, true, true, true, true, true, true] [] K [(0, some (ptr w)), (1, some (.string (bsV nm))), (2, some (i64 mode)), (3, some (.bool wd))] σ := by
  subst hF
  subst hS
  have hne : nm ≠ [] := fun e => by rw [e] at hn; exact absurd hn.1 (by simp)
  have lF : g.F.length = g.Fi.length := by simp
  have lS : g.S.length = g.Sm.length := by simp
  rw [s34j5]
  refine newAt_mk H fun i0 σ1 H1 => ?_
  refine puts0 H1 rfl (by simp) fun σ2 H2 => ?_
  have fin : ∀ {σ3 : AS} {p : Nat} {e : Nat}, Has σ3 ((i0, .row .plain [i64 0, .string (bsV nm), .slice none 0 e, i64 mode, .bool wd, i64 p, i64 0, i64 0]) :: ((w, g.O most last) :: (g.R ++ fr))) → p = (if mode = 5 then sizeW wd (bOf g.Fi nm) else 0) →
      JoinS (jn Tryz.prog hintsS (Tri Tryz.prog) 34 [true, true, true, true, true, true, true, true, true, true, true] [] K) [(0, some (ptr w)), (13, some (ptr i0))] σ3 := by
    intro σ3 p e H3 hp
    refine ⟨?_⟩
    rw [s34j6, lds_eq (H3.at 0 rfl) 0 8 (by simp)]
    simp only [List.drop_zero, List.take_succ_cons, List.take_zero, tL_nil, tI_int, tB_bool, tS_str, tCons_cons, tNil_nil]
    have := c60 (K := fun v6 σ6 => tI .i64 v6 fun n7 => K (.tuple ⟨[i64 n7, i64 0]⟩) σ6) (r := ⟨⟨0, nm, [], mode, wd, p, 0, 0⟩, none, 1, []⟩) (fr := fr) hg (H3.sep (M := (w, g.O most last) :: (g.R ++ ([] ++ fr))) (fun a => by simp only [cnt_app, cnt_cons, List.append_assoc, List.nil_append, i64]; omega)) (SlC.nil 1) h0 (by omega) (by omega) (fun σ4 S4 => by
      rw [tI_int]
      refine hK σ4 ?_
      rw [← hp]
      exact S4)
    simp only [RQ.cells, List.length_nil] at this
    exact this
  refine beq_mk (fun h5 => ?_) (fun h5 => ?_)
  · rw [lds_eq (H2.at 0 rfl) 0 8 (by simp)]
    simp only [List.drop_zero, List.take_succ_cons, List.take_zero, List.nil_append, List.drop_succ_cons, List.length_cons, List.length_nil, List.append_nil, tL_nil, tI_int, tB_bool, tS_str, Nat.zero_add, tCons_cons, tNil_nil]
    have H3 : Has σ2 ((w, g.O most last) :: (g.R ++ ((i0, .row .plain [i64 0, .string (bsV nm), .slice none 0 0, i64 mode, .bool wd, i64 0, i64 0, i64 0]) :: fr))) := by
      refine H2.sep (fun a => ?_)
      simp only [cnt_app, cnt_cons, List.append_assoc, List.nil_append, i64, List.take_zero, List.drop_succ_cons, List.length_cons, List.length_nil, List.drop_nil, Nat.zero_add, List.append_nil]
      omega
    have := c59 (K := fun v28 σ29 => tL 1 v28 fun s30 => put1 σ29 ⟨i0, 0 + 5, none⟩ (i64 s30.n) fun σ31 => JoinS (jn Tryz.prog hintsS (Tri Tryz.prog) 34 [true, true, true, true, true, true, true, true, true, true, true] [] K) [(0, some (ptr w)), (13, some (ptr i0))] σ31)
      (g := g) (w := w) (most := most) (last := last) (r := ⟨⟨0, nm, [], mode, wd, 0, 0, 0⟩, none, 1, []⟩) H3 (RIn.of hg) (by omega) (SlC.nil 1) (by simp) hfb hf1 (fun _ => hh) hsrt (fun σ3 a' e' rows' new hs hm H4 => by
        refine tL_ok hs.no ?_
        have H5 : Has σ3 ((i0, .row .plain [i64 0, .string (bsV nm), .slice none 0 0, i64 mode, .bool wd, i64 0, i64 0, i64 0]) :: ((w, g.O most last) :: (g.R ++ fr))) := H4.sep (fun a => by simp only [cnt_app, cnt_cons, List.append_assoc, i64]; omega)
        refine put0 H5 rfl (by simp) fun σ4 H6 => ?_
        refine fin (p := (charsOf g.Fi ⟨0, nm, [], mode, wd, 0, 0, 0⟩).length) H6 ?_
        rw [charsOf_len, if_neg hne, if_pos h5])
    simp only [RQ.cells, List.length_nil] at this
    exact this
  · refine fin (p := 0) (e := 0) ?_ ?_
    · refine H2.sep (fun a => ?_)
      simp only [cnt_app, cnt_cons, List.append_assoc, List.nil_append, i64, List.take_zero, List.drop_succ_cons, List.length_cons, List.length_nil, List.drop_nil, Nat.zero_add, List.append_nil]
      exact Nat.le_refl _
    · rw [if_neg h5]
theorem c34 (hS : RSt w most last F S fr σ) (ok : Ok most last F S k)
    (hE : openE F S nm mode ≠ 0 → ∀ σ', RSt w most last F S fr σ' → K (.tuple ⟨[i64 0, i64 (openE F S nm mode)]⟩) σ')
    (hK : openE F S nm mode = 0 → ∀ σ', RSt w most (last + 1) (openF F nm mode) (S ++ [openS F last nm mode wd]) fr σ' → K (.tuple ⟨[i64 (last + 1), i64 0]⟩) σ') : Tri Tryz.prog 34 [ptr w, .string (bsV nm), i64 mode, .bool wd] σ K := tri_in (by
  rw [s34]
  have hS0 := hS
  obtain ⟨g, hg, rfl, rfl, H⟩ := hS
  have lF : g.F.length = g.Fi.length := by simp
  have lS : g.S.length = g.Sm.length := by simp
  have sl := ok.slen
  have fl := ok.flen
  have hl0 := ok.last0
  have hl1 : last ≤ 1024 := by have := ok.last1; have := ok.kle; omega
  have R : RIn w g most last ((w, g.O most last) :: (g.R ++ fr)) := RIn.of hg
  refine c56 ?_
  rw [tB_bool]
  have first : ∀ b, b = decide (¬ named nm ∨ ¬ (mode = 1 ∨ mode = 2 ∨ mode = 3 ∨ mode = 5)) → JoinS (jn Tryz.prog hintsS (Tri Tryz.prog) 34 [true, false] [] K) [(0, some (ptr w)), (1, some (.string (bsV nm))), (2, some (i64 mode)), (3, some (.bool wd)), (32, some (.bool b))] σ := by
    rintro b rfl
    refine ⟨?_⟩
    rw [s34j]
    refine bmd_mk (fun h1 => ?_) (fun h1 => ?_)
    · have e : openE g.Fi g.Sm nm mode = 1 := by unfold openE; rw [if_pos h1]
      rw [e] at hE
      exact hE (by decide) σ hS0
    have hnm : named nm := Decidable.byContradiction fun h => h1 (.inl h)
    have hmd : mode = 1 ∨ mode = 2 ∨ mode = 3 ∨ mode = 5 := Decidable.byContradiction fun h => h1 (.inr h)
    simp only [ldc_eq (H.at 0 rfl), tL_ok_eq hg.s.no, pSome_some, List.getElem?_cons_zero, List.getElem?_cons_succ, Nat.zero_add]
    refine beq_mk (fun h2 => ?_) (fun h2 => ?_)
    · have e : openE g.Fi g.Sm nm mode = 4 := by unfold openE; rw [if_neg h1, if_pos (by omega)]
      rw [e] at hE
      exact hE (by decide) σ hS0
    have h2' : ¬ g.Sm.length = 64 := by omega
    -- behind the look at the number of files
    have third : ∀ (i : Int), (hasF g.Fi nm = false → i = -1) → (hasF g.Fi nm = true → ∃ (j : Nat) (r : RF), i = j ∧ g.F[j]? = some r ∧ r.f.nm = nm) → ¬ (hasF g.Fi nm = false ∧ mode = 2) → ∀ b, b = decide (hasF g.Fi nm = false ∧ g.Fi.length = 64) →
        JoinS (jn Tryz.prog hintsS (Tri Tryz.prog) 34 [true, true, true, true, true, false] [] K) [(0, some (ptr w)), (1, some (.string (bsV nm))), (2, some (i64 mode)), (3, some (.bool wd)), (10, some (i64 i)), (57, some (.bool b))] σ := by
      rintro i hi0 hi1 h3 b rfl
      refine ⟨?_⟩
      rw [s34j2]
      refine bmd_mk (fun h4 => ?_) (fun h4 => ?_)
      · have e : openE g.Fi g.Sm nm mode = 4 := by unfold openE; rw [if_neg h1, if_neg h2', if_neg h3, if_pos h4]
        rw [e] at hE
        exact hE (by decide) σ hS0
      refine c57 H R (by omega) ?_
      simp only [tB_bool, tTup_tup, pSome_some, List.getElem?_cons_zero, List.getElem?_cons_succ]
      have fourth : ∀ b, b = decide (held g.Sm nm = true ∧ (heldW g.Sm nm = true ∨ mode ≠ 2)) → JoinS (jn Tryz.prog hintsS (Tri Tryz.prog) 34 [true, true, true, true, true, true, true, false] [] K) [(0, some (ptr w)), (1, some (.string (bsV nm))), (2, some (i64 mode)), (3, some (.bool wd)), (10, some (i64 i)), (71, some (.bool b))] σ := by
        rintro b rfl
        refine ⟨?_⟩
        rw [s34j3]
        refine bmd_mk (fun h5 => ?_) (fun h5 => ?_)
        · have e : openE g.Fi g.Sm nm mode = 6 := by unfold openE; rw [if_neg h1, if_neg h2', if_neg h3, if_neg h4, if_pos h5]
          rw [e] at hE
          exact hE (by decide) σ hS0
        have e0 : openE g.Fi g.Sm nm mode = 0 := by unfold openE; rw [if_neg h1, if_neg h2', if_neg h3, if_neg h4, if_neg h5]
        have hK := hK e0
        -- a file with that name, at a place
        have five : ∀ {σ2 : AS} {g2 : RG} {F2 : List Fi} {j : Nat} {r : RF}, g2.ok → g2.Fi = F2 → g2.Sm = g.Sm → Has σ2 ((w, g2.O most last) :: (g2.R ++ fr)) → g2.F[j]? = some r → r.f.nm = nm → F2.length ≤ 64 → (∀ f ∈ F2, ∀ c ∈ f.b, 0 ≤ c ∧ c < 256) → (∀ f ∈ F2, f.b.length ≤ 1048576) → Srt F2 →
            openF g.Fi nm mode = (if mode = 1 then setB nm [] F2 else F2) →
            JoinS (jn Tryz.prog hintsS (Tri Tryz.prog) 34 [true, true, true, true, true, true, true, true] [] K) [(0, some (ptr w)), (1, some (.string (bsV nm))), (2, some (i64 mode)), (3, some (.bool wd)), (10, some (i64 j))] σ2 := by
          rintro σ2 g2 F2 j r hg2 rfl hS2 H2 hj hn fl2 fb2 f12 hs2 he
          refine ⟨?_⟩
          have hlt := (List.getElem?_eq_some_iff.1 hj).1
          have hmap : g2.Fi[j]? = some r.f := by show (g2.F.map RF.f)[j]? = _; rw [List.getElem?_map, hj]; rfl
          rw [s34j4]
          refine beq_mk (fun hm => ?_) (fun hm => ?_)
          · simp only [ldc_eq (H2.at 0 rfl), tL_ok_eq hg2.f.no, pSome_some, List.getElem?_cons_zero, List.getElem?_cons_succ, Nat.zero_add]
            refine req_mk (by omega) (req_mk (by omega) ?_)
            obtain ⟨jj, q1, q2⟩ := putF (w := w) (most := most) (last := last) (rn := []) (fr := fr) (b := []) (a' := none) (e' := 0) hg2 (H2.sep (fun a => by simp only [cnt_app, cnt_cons, List.append_assoc, List.nil_append]; omega)) hj (SlC.nil 0) (G := fun σ3 => JoinS (jn Tryz.prog hintsS (Tri Tryz.prog) 34 [true, true, true, true, true, true, true, true, true] [] K) [(0, some (ptr w)), (1, some (.string (bsV nm))), (2, some (i64 mode)), (3, some (.bool wd))] σ3) (fun σ3 g3 hg3 hF3 hS3 _ H3 => by
              have e3 : g3.Fi = setB nm [] g2.Fi := by rw [hF3, setB_at [] hs2 hmap, hn]
              refine ⟨?_⟩
              have hmem : r.f ∈ g2.Fi := List.mem_of_getElem? hmap
              have hsb : Srt (setB nm [] g2.Fi) := setB_srt hs2
              have hmm : ∀ f ∈ setB nm [] g2.Fi, f ∈ g2.Fi ∨ f.b = [] := by
                intro f hf
                obtain ⟨q, hq, rfl⟩ := List.mem_map.1 hf
                split
                · exact .inr rfl
                · exact .inl hq
              refine c34z hg3 e3 (hS3.trans hS2) H3 (by unfold setB; rw [List.length_map]; exact fl2) (fun f hf => ?_) (fun f hf => ?_) hsb sl hl0 hl1 hnm (by rw [hasF_setB]; exact hasF_iff.2 ⟨_, hmem, hn⟩) fun σ4 S4 => ?_
              · rcases hmm f hf with h | h
                · exact fb2 f h
                · rw [h]; simp
              · rcases hmm f hf with h | h
                · exact f12 f h
                · rw [h]; simp
              · refine hK σ4 ?_
                rw [if_pos hm] at he
                unfold openS
                rw [he]
                exact S4)
            rw [q1]
            simp only [sz112, Int.toNat_natCast, pSome_some, Nat.zero_add, add_none]
            exact q2
          · refine ⟨?_⟩
            refine c34z hg2 rfl hS2 H2 fl2 fb2 f12 hs2 sl hl0 hl1 hnm (hasF_iff.2 ⟨_, List.mem_of_getElem? hmap, hn⟩) fun σ4 S4 => ?_
            refine hK σ4 ?_
            rw [if_neg hm] at he
            unfold openS
            rw [he]
            exact S4
        rcases hasF_split (F := g.Fi) (n := nm) with hh | hh
        · obtain ⟨j, r, rfl, hj, hn⟩ := hi1 hh
          refine bmd_mk (fun h => by omega) (fun _ => ?_)
          refine five hg rfl rfl H hj hn fl ok.byte ok.flen1 ok.srt ?_
          unfold openF
          rw [if_pos hh]
        · rw [hi0 hh]
          refine bmd_mk (fun _ => ?_) (fun h => absurd (by decide) h)
          refine c58 hg H (by omega) fun σ2 S2 => ?_
          obtain ⟨g2, hg2, hF2, hS2, H2⟩ := S2
          have R2 : RIn w g2 most last ((w, g2.O most last) :: (g2.R ++ fr)) := RIn.of hg2
          have lF2 : g2.F.length = g2.Fi.length := by simp
          have li : (insF ⟨nm, []⟩ g.Fi).length = g.Fi.length + 1 := by rw [(insF_perm _ _).length_eq]; rfl
          have lF3 : g2.Fi.length = (insF ⟨nm, []⟩ g.Fi).length := congrArg List.length hF2
          have h64 : ¬ g.Fi.length = 64 := fun e => h4 ⟨hh, e⟩
          have hhas : hasF g2.Fi nm = true := by rw [hF2, hasF_insF]; simp
          refine c19 H2 R2 (by omega) (fun h => by rw [h] at hhas; cases hhas) (fun j r hj hn => ?_)
          rw [tI_int]
          have hmm : ∀ f ∈ insF ⟨nm, []⟩ g.Fi, f ∈ g.Fi ∨ f.b = [] := by
            intro f hf
            rcases List.mem_cons.1 ((insF_perm _ _).mem_iff.1 hf) with rfl | h
            · exact .inr rfl
            · exact .inl h
          refine five hg2 hF2 hS2 H2 hj hn (by omega) (fun f hf => ?_) (fun f hf => ?_) (insF_srt ok.srt (hasF_false.1 hh)) ?_
          · rcases hmm f hf with h | h
            · exact ok.byte f h
            · rw [h]; simp
          · rcases hmm f hf with h | h
            · exact ok.flen1 f h
            · rw [h]; simp
          · unfold openF
            rw [hh]
            simp only [Bool.false_eq_true, if_false]
            split
            · have hs' : Srt (insF ⟨nm, []⟩ g.Fi) := insF_srt ok.srt (hasF_false.1 hh)
              have : (⟨nm, []⟩ : Fi) ∈ insF ⟨nm, []⟩ g.Fi := (insF_perm _ _).mem_iff.2 (by simp)
              obtain ⟨F1, F2, e, q1, q2⟩ := split_of hs' this
              rw [e, setB_split (f := ⟨nm, []⟩) q1 q2]
            · rfl
      cases hhd : held g.Sm nm with
      | false => rw [bm_false]; exact fourth _ (by simp [hhd])
      | true =>
        rw [bm_true]
        cases hhw : heldW g.Sm nm with
        | false =>
          rw [bm_false]
          refine fourth _ ?_
          by_cases e : mode = 2 <;> simp [hhd, hhw, e]
        | true => rw [bm_true]; exact fourth _ (by simp [hhd, hhw])
    have second : ∀ (i : Int), (hasF g.Fi nm = false → i = -1) → (hasF g.Fi nm = true → ∃ (j : Nat) (r : RF), i = j ∧ g.F[j]? = some r ∧ r.f.nm = nm) → ∀ b, b = decide (hasF g.Fi nm = false ∧ mode = 2) →
        JoinS (jn Tryz.prog hintsS (Tri Tryz.prog) 34 [true, true, true, true, false] [] K) [(0, some (ptr w)), (1, some (.string (bsV nm))), (2, some (i64 mode)), (3, some (.bool wd)), (10, some (i64 i)), (47, some (.bool b))] σ := by
      rintro i hi0 hi1 b rfl
      refine ⟨?_⟩
      rw [s34j1]
      refine bmd_mk (fun h3 => ?_) (fun h3 => ?_)
      · have e : openE g.Fi g.Sm nm mode = 5 := by unfold openE; rw [if_neg h1, if_neg h2', if_pos h3]
        rw [e] at hE
        exact hE (by decide) σ hS0
      simp only [ldc_eq (H.at 0 rfl), tL_ok_eq hg.f.no, pSome_some, List.getElem?_cons_zero, List.getElem?_cons_succ, Nat.zero_add]
      rcases hasF_split (F := g.Fi) (n := nm) with hh | hh
      · obtain ⟨j, r, hj, hrest⟩ := hi1 hh
        refine bmd_mk (fun h => by omega) (fun _ => third i hi0 hi1 h3 _ ?_)
        simp [hh]
      · have := hi0 hh
        refine bmd_mk (fun h => third i hi0 hi1 h3 _ ?_) (fun h => by omega)
        rw [lF]
        by_cases e : g.Fi.length = 64
        · rw [e]; simp [hh]
        · have : ((g.Fi.length : Int) == 64) = false := by simp; omega
          rw [this]; simp [hh]; omega
    refine c19 H R (by omega) (fun hn => ?_) (fun j r hj hn => ?_)
    · rw [tI_int]
      refine bmd_mk (fun _ => second _ (fun _ => rfl) (fun h => by rw [hn] at h; cases h) _ ?_) (fun h => absurd (by decide) h)
      by_cases e : mode = 2 <;> simp [hn, e]
    · rw [tI_int]
      have hh : hasF g.Fi nm = true := hasF_iff.2 ⟨r.f, List.mem_map_of_mem (List.mem_of_getElem? hj), hn⟩
      refine bmd_mk (fun h => by omega) (fun _ => second _ (fun h => by rw [hh] at h; cases h) (fun _ => ⟨j, r, rfl, hj, hn⟩) _ ?_)
      simp [hh]
  by_cases hnm : named nm
  · simp only [hnm, decide_true, Bool.not_true, bm_false]
    refine bne_mk (fun m1 => bne_mk (fun m2 => bne_mk (fun m3 => first _ ?_) (fun e => first _ ?_)) (fun e => first _ ?_)) (fun e => first _ ?_)
    · by_cases m5 : mode = 5 <;> simp [hnm, m1, m2, m3, m5]
    · simp [hnm, e]
    · simp [hnm, e]
    · simp [hnm, e]
  · simp only [hnm, decide_false, Bool.not_false, bm_true]
    exact first _ (by simp [hnm]))
end
end Go.AI
end
section
set_option linter.unusedSimpArgs false
set_option linter.unusedVariables false
set_option maxRecDepth 10000
/- The reference: Put, Delete; no condition but those that each names. -/
namespace Go.AI
open Go.Proofs Go.Shelf
theorem delF_at : ∀ {F : List Fi} {i : Nat} {f : Fi}, Srt F → F[i]? = some f → F.take i ++ F.drop (i + 1) = delF f.nm F := by
  intro F i f hs h
  have hlt := (List.getElem?_eq_some_iff.1 h).1
  have e : F = F.take i ++ f :: F.drop (i + 1) := by
    have := (List.getElem?_eq_some_iff.1 h).2
    rw [← this, ← List.drop_eq_getElem_cons hlt, List.take_append_drop]
  have hs' := hs
  rw [e] at hs'
  have h2 : (∀ g ∈ F.take i, g.nm ≠ f.nm) ∧ (∀ g ∈ F.drop (i + 1), g.nm ≠ f.nm) := by
    obtain ⟨_, q2, q3⟩ := List.pairwise_append.1 hs'
    refine ⟨fun g hg e => ?_, fun g hg e => ?_⟩
    · have := q3 g hg f (by simp); rw [e] at this; exact lt_irrefl _ this
    · have := (List.pairwise_cons.1 q2).1 g hg; rw [e] at this; exact lt_irrefl _ this
  have := delF_split h2.1 h2.2
  rw [← e] at this
  exact this.symm
section
variable {σ : AS} {K : Value → AS → Prop} {fr : List (Nat × AObj)} {w k : Nat} {g : RG} {most last n mode : Int} {nm : List UInt8} {F : List Fi} {S : List Sm} {l : List Int} {a : Option Addr} {wd : Bool}
/-- The bytes copied into the file of a name. -/
theorem c32z {F' : List Fi} {e : Nat} (hg : g.ok) (hF : g.Fi = F') (hS : g.Sm = S) (H : Has σ ((w, g.O most last) :: (g.R ++ fr))) (hfl : F'.length ≤ 64) (hsrt : Srt F') (hh : hasF F' nm = true) (ha : Inp u8 a l fr) (he : e = 1) (hl : l.length ≤ 1048576)
    (hK : ∀ σ', RSt w most last (setB nm l F') S fr σ' → K (i64 0) σ') :
    jn Tryz.prog hintsS (Tri Tryz.prog) 32 [true, true, true, true, true, true, true, true, true] [] K [(0, some (ptr w)), (1, some (.string (bsV nm))), (2, some (.slice a l.length e))] σ := by
  subst hF
  subst hS
  subst he
  have lF : g.F.length = g.Fi.length := by simp
  -- behind the look for the file: an empty row that is new, beside all
  have tail : ∀ {σ3 : AS} {i2 : Nat}, Has σ3 ((i2, .row .rw []) :: ((w, g.O most last) :: (g.R ++ fr))) → ∀ {j : Nat} {r : RF}, g.F[j]? = some r → r.f.nm = nm →
      srcCells σ3 1 (some (.slice a l.length 1)) fun m11 new12 => appendTo σ3 1 1 ⟨some ⟨i2, 0, none⟩, 0⟩ new12 m11 fun s13 σ14 => ldc σ14 ⟨w, 0 + 1, none⟩ fun v15 => tL 2 v15 fun s16 => (Value.slice g.fa g.F.length 2 = .slice s16.a s16.n 2 ∧
        req (0 ≤ (j : Int)) (req ((j : Int) < (g.F.length : Int)) (pSome g.fa fun a17 => put1 σ14 ⟨(Addr.add a17 (Int.toNat (j : Int) * 2)).block, (Addr.add a17 (Int.toNat (j : Int) * 2)).off + 1, none⟩ (.slice s13.a s13.n 1) fun σ18 => K (i64 0) σ18))) := by
    intro σ3 i2 H3 j r hj hn
    have hlt := (List.getElem?_eq_some_iff.1 hj).1
    have hmap : g.Fi[j]? = some r.f := find_map hj
    have app : ∀ new : List Value, new = cells8 l → appendTo σ3 1 1 ⟨some ⟨i2, 0, none⟩, 0⟩ new l.length fun s13 σ14 => ldc σ14 ⟨w, 0 + 1, none⟩ fun v15 => tL 2 v15 fun s16 => (Value.slice g.fa g.F.length 2 = .slice s16.a s16.n 2 ∧
        req (0 ≤ (j : Int)) (req ((j : Int) < (g.F.length : Int)) (pSome g.fa fun a17 => put1 σ14 ⟨(Addr.add a17 (Int.toNat (j : Int) * 2)).block, (Addr.add a17 (Int.toNat (j : Int) * 2)).off + 1, none⟩ (.slice s13.a s13.n 1) fun σ18 => K (i64 0) σ18))) := by
      rintro new rfl
      refine appC (cells := []) (e := 1) (rows := [(i2, .row .rw [])]) (X := (w, g.O most last) :: (g.R ++ fr)) SlC.row H3 rfl (by simp) (by omega) (by omega) fun a' σ4 rows' hs' H4 => ?_
      rw [List.nil_append] at hs'
      rw [Nat.zero_add, Nat.zero_add]
      have H5 : Has σ4 ((w, g.O most last) :: (g.R ++ (rows' ++ fr))) := H4.sep (fun a => by simp only [cnt_app, cnt_cons, List.append_assoc]; omega)
      simp only [ldc_eq (H5.at 0 rfl), tL_ok_eq hg.f.no, true_and, pSome_some, List.getElem?_cons_zero, List.getElem?_cons_succ]
      refine req_mk (by omega) (req_mk (by omega) ?_)
      obtain ⟨jj, q1, q2⟩ := putF (w := w) (most := most) (last := last) (rn := rows') (fr := fr) (b := l) (a' := a') (e' := 1) hg H5 hj hs' (G := fun σ18 => K (i64 0) σ18) (fun σ5 g5 hg5 hF5 hS5 _ H6 => by
        refine hK σ5 ⟨g5, hg5, ?_, hS5, H6⟩
        rw [hF5, setB_at l hsrt hmap, hn])
      rw [q1]
      simp only [Int.toNat_natCast, pSome_some, Nat.zero_add, add_none]
      exact q2
    rcases ha with rfl | ⟨r0, k0, rfl, hm⟩
    · simp only [List.length_nil] at app ⊢
      cases a with
      | none => exact app [] rfl
      | some a0 =>
        unfold srcCells
        refine req_mk rfl ?_
        unfold lds AS.cells
        exact app [] rfl
    · unfold srcCells
      refine req_mk rfl (ldsm H3 (List.mem_cons_of_mem _ (List.mem_cons_of_mem _ (List.mem_append_right _ hm))) (by simp) ?_)
      exact app _ (by rw [List.drop_zero]; exact List.take_of_length_le (by simp))
  rw [s32j2]
  have hw := H.at 0 rfl
  have none_ : ¬ hasF g.Fi nm = false := by rw [hh]; decide
  refine ⟨?_, ?_⟩
  · simp only [ldc_eq hw, tL_ok_eq hg.f.no, pSome_some, List.getElem?_cons_zero, List.getElem?_cons_succ, Nat.zero_add]
    refine newAt_mk H fun i2 σ3 H3 => ?_
    have hw3 := H3.at 1 rfl
    simp only [ldc_eq hw3, tL_ok_eq hg.f.no, sz112, true_and, pSome_some, List.getElem?_cons_zero, List.getElem?_cons_succ]
    refine c19 H3 (RIn.of hg).cons (by omega) (fun h => absurd h none_) (fun j r hj hn => ?_)
    simp only [ldc_eq hw3, tL_ok_eq hg.f.no, true_and, tI_int, pSome_some, List.getElem?_cons_zero, List.getElem?_cons_succ]
    have := tail H3 hj hn
    simp only [Nat.zero_add] at this
    exact this
  · simp only [ldc_eq hw, tL_ok_eq hg.f.no, pSome_some, List.getElem?_cons_zero, List.getElem?_cons_succ, Nat.zero_add]
    refine c19 H (RIn.of hg) (by omega) (fun h => absurd h none_) (fun j r hj hn => ?_)
    simp only [ldc_eq hw, tL_ok_eq hg.f.no, sz112, true_and, tI_int, pSome_some, List.getElem?_cons_zero, List.getElem?_cons_succ]
    refine newAt_mk H fun i2 σ3 H3 => ?_
    have hw3 := H3.at 1 rfl
    simp only [ldc_eq hw3, tL_ok_eq hg.f.no, true_and, pSome_some, List.getElem?_cons_zero, List.getElem?_cons_succ]
    have := tail H3 hj hn
    simp only [Nat.zero_add] at this
    exact this
theorem c32 (hS : RSt w most last F S fr σ) (ok : Ok most last F S k) (ha : Inp u8 a l fr) (hl : l.length ≤ 1048576)
    (hE : putE most F S nm l ≠ 0 → ∀ σ', RSt w most last F S fr σ' → K (i64 (putE most F S nm l)) σ')
    (hK : putE most F S nm l = 0 → ∀ σ', RSt w most last (Shelf.putF F nm l) S fr σ' → K (i64 0) σ') : Tri Tryz.prog 32 [ptr w, .string (bsV nm), .slice a l.length 1] σ K := tri_in (by
  rw [s32]
  have hS0 := hS
  obtain ⟨g, hg, rfl, rfl, H⟩ := hS
  have lF : g.F.length = g.Fi.length := by simp
  have lS : g.S.length = g.Sm.length := by simp
  have sl := ok.slen
  have fl := ok.flen
  have R : RIn w g most last ((w, g.O most last) :: (g.R ++ fr)) := RIn.of hg
  refine c56 ?_
  rw [tB_bool]
  refine bm_mk (fun h => ?_) (fun h => ?_)
  · have hn : ¬ named nm := by simpa using h
    have e : putE most g.Fi g.Sm nm l = 1 := by unfold putE; rw [if_pos hn]
    rw [e] at hE
    exact hE (by decide) σ hS0
  have hnm : named nm := by simpa using h
  have n1 : ¬ ¬ named nm := fun h => h hnm
  refine c57 H R (by omega) ?_
  simp only [tB_bool, tTup_tup, pSome_some, List.getElem?_cons_zero, List.getElem?_cons_succ, Nat.zero_add]
  have second : ∀ (i : Int), held g.Sm nm = false → (hasF g.Fi nm = false → i = -1) → (hasF g.Fi nm = true → ∃ (j : Nat) (r : RF), i = j ∧ g.F[j]? = some r ∧ r.f.nm = nm) → ∀ b, b = decide (hasF g.Fi nm = false ∧ g.Fi.length = 64) →
      JoinS (jn Tryz.prog hintsS (Tri Tryz.prog) 32 [true, true, true, true, true, false] [] K) [(0, some (ptr w)), (1, some (.string (bsV nm))), (2, some (.slice a l.length 1)), (9, some (i64 i)), (33, some (.bool b))] σ := by
    rintro i hh hi0 hi1 b rfl
    have n2 : ¬ held g.Sm nm = true := by rw [hh]; decide
    refine ⟨?_⟩
    rw [s32j]
    refine bmd_mk (fun h3 => ?_) (fun h3 => ?_)
    · have e : putE most g.Fi g.Sm nm l = 4 := by unfold putE; rw [if_neg n1, if_neg n2, if_pos h3]
      rw [e] at hE
      exact hE (by decide) σ hS0
    have ht := ok.tot
    have hm1 := ok.most1
    refine c20 H R (by omega) (by omega) ?_
    rw [tI_int]
    have third : ∀ (n : Int), n = (totF g.Fi : Int) + l.length - (bOf g.Fi nm).length → JoinS (jn Tryz.prog hintsS (Tri Tryz.prog) 32 [true, true, true, true, true, true, true] [] K) [(0, some (ptr w)), (1, some (.string (bsV nm))), (2, some (.slice a l.length 1)), (9, some (i64 i)), (10, some (i64 n))] σ := by
      rintro n rfl
      refine ⟨?_⟩
      rw [s32j1]
      simp only [ldc_eq (H.at 0 rfl), tI_int, pSome_some, List.getElem?_cons_zero]
      refine bmd_mk (fun h4 => ?_) (fun h4 => ?_)
      · have e : putE most g.Fi g.Sm nm l = 7 := by unfold putE; rw [if_neg n1, if_neg n2, if_neg h3, if_pos h4]
        rw [e] at hE
        exact hE (by decide) σ hS0
      have e0 : putE most g.Fi g.Sm nm l = 0 := by unfold putE; rw [if_neg n1, if_neg n2, if_neg h3, if_neg h4]
      have hK := hK e0
      rcases hasF_split (F := g.Fi) (n := nm) with hh | hh
      · obtain ⟨j, r, rfl, hj, hn⟩ := hi1 hh
        refine bmd_mk (fun h => by omega) (fun _ => ⟨?_⟩)
        refine c32z hg rfl rfl H fl ok.srt hh ha rfl hl fun σ' S' => hK σ' ?_
        unfold Shelf.putF
        rw [if_pos hh]
        exact S'
      · rw [hi0 hh]
        refine bmd_mk (fun _ => ?_) (fun h => absurd (by decide) h)
        refine c58 hg H (by omega) fun σ2 S2 => ⟨?_⟩
        obtain ⟨g2, hg2, hF2, hS2, H2⟩ := S2
        have li : (insF ⟨nm, []⟩ g.Fi).length = g.Fi.length + 1 := by rw [(insF_perm _ _).length_eq]; rfl
        have h64 : ¬ g.Fi.length = 64 := fun e => h3 ⟨hh, e⟩
        have hs' : Srt (insF ⟨nm, []⟩ g.Fi) := insF_srt ok.srt (hasF_false.1 hh)
        refine c32z hg2 hF2 hS2 H2 (by omega) hs' (by rw [hasF_insF]; simp) ha rfl hl fun σ' S' => hK σ' ?_
        unfold Shelf.putF
        rw [hh]
        have e : setB nm l (insF ⟨nm, []⟩ g.Fi) = insF ⟨nm, l⟩ g.Fi := by
          refine srt_eq (setB_srt hs') (insF_srt ok.srt (hasF_false.1 hh)) ?_
          refine .trans ?_ (insF_perm ⟨nm, l⟩ g.Fi).symm
          refine .trans ((insF_perm ⟨nm, []⟩ g.Fi).map _) ?_
          rw [List.map_cons, if_pos rfl]
          have := setB_none (b := l) (hasF_false.1 hh)
          unfold setB at this
          rw [this]
        rw [e] at S'
        exact S'
    rcases hasF_split (F := g.Fi) (n := nm) with hh | hh
    · obtain ⟨j, r, rfl, hj, hn⟩ := hi1 hh
      have hlt := (List.getElem?_eq_some_iff.1 hj).1
      refine bmd_mk (fun _ => ?_) (fun h => absurd (by omega) h)
      obtain ⟨jj, q1, q2, q3, q4⟩ := R.fel hj
      have e1 := q4 1 (by omega)
      have hno := (R.frow (List.mem_of_getElem? hj)).2.no
      simp only [ldc_eq (H.at 0 rfl), tL_ok_eq hg.f.no, pSome_some, List.getElem?_cons_zero, List.getElem?_cons_succ, Nat.zero_add]
      refine req_mk (by omega) (req_mk (by omega) ?_)
      simp only [q1, sz112, Int.toNat_natCast, ldc_eq (H.g q3), e1, RF.cells, tL_ok_eq hno, pSome_some, List.getElem?_cons_zero, List.getElem?_cons_succ, Nat.zero_add, add_none]
      have hbo : bOf g.Fi nm = r.f.b := by rw [← hn]; exact bOf_mem ok.srt (List.mem_of_getElem? (find_map hj))
      have hb1 := totF_mem (List.mem_of_getElem? (find_map hj))
      refine third _ ?_
      rw [hbo, wrap64 (n := (totF g.Fi : Int) + l.length) (by omega) (by omega), wrap64 (by omega) (by omega)]
    · have := hi0 hh
      refine bmd_mk (fun h => by omega) (fun _ => third _ ?_)
      rw [bOf_none hh, wrap64 (by omega) (by omega)]
      simp
  have he : ∀ {i : Int}, held g.Sm nm = true → K (i64 6) σ := by
    intro i hh
    have e : putE most g.Fi g.Sm nm l = 6 := by unfold putE; rw [if_neg n1, if_pos hh]
    rw [e] at hE
    exact hE (by decide) σ hS0
  refine c19 H R (by omega) (fun hn => ?_) (fun j r hj hn => ?_)
  · rw [tI_int]
    refine bm_mk (fun hh => he (i := 0) hh) (fun hh => ?_)
    simp only [ldc_eq (H.at 0 rfl), tL_ok_eq hg.f.no, pSome_some, List.getElem?_cons_zero, List.getElem?_cons_succ]
    refine bmd_mk (fun _ => second _ hh (fun _ => rfl) (fun h => by rw [hn] at h; cases h) _ ?_) (fun h => absurd (by decide) h)
    rw [lF]
    by_cases e : g.Fi.length = 64
    · rw [e]; simp [hn]
    · have : ((g.Fi.length : Int) == 64) = false := by simp; omega
      rw [this]; simp [hn]; omega
  · rw [tI_int]
    have hhas : hasF g.Fi nm = true := hasF_iff.2 ⟨r.f, List.mem_map_of_mem (List.mem_of_getElem? hj), hn⟩
    refine bm_mk (fun hh => he (i := 0) hh) (fun hh => ?_)
    refine bmd_mk (fun h => by omega) (fun _ => second _ hh (fun h => by rw [hhas] at h; cases h) (fun _ => ⟨j, r, rfl, hj, hn⟩) _ ?_)
    simp [hhas])
theorem c33 (hS : RSt w most last F S fr σ) (ok : Ok most last F S k)
    (hE : delB F S nm = false → ∀ σ', RSt w most last F S fr σ' → K (.bool false) σ')
    (hK : delB F S nm = true → ∀ σ', RSt w most last (delF nm F) S fr σ' → K (.bool true) σ') : Tri Tryz.prog 33 [ptr w, .string (bsV nm)] σ K := tri_in (by
  rw [s33]
  have hS0 := hS
  obtain ⟨g, hg, rfl, rfl, H⟩ := hS
  have lF : g.F.length = g.Fi.length := by simp
  have lS : g.S.length = g.Sm.length := by simp
  have sl := ok.slen
  have fl := ok.flen
  have R : RIn w g most last ((w, g.O most last) :: (g.R ++ fr)) := RIn.of hg
  refine c57 H R (by omega) ?_
  simp only [tB_bool, tTup_tup, pSome_some, List.getElem?_cons_zero, List.getElem?_cons_succ]
  have no : ∀ {i : Int}, delB g.Fi g.Sm nm = false → JoinS (jn Tryz.prog hintsS (Tri Tryz.prog) 33 [true, true, true, false] [] K) [(0, some (ptr w)), (7, some (i64 i)), (21, some (.bool true))] σ := by
    intro i e
    refine ⟨?_⟩
    rw [s33j, bm_true]
    exact hE e σ hS0
  refine c19 H R (by omega) (fun hn => ?_) (fun j r hj hn => ?_)
  · rw [tI_int]
    refine bmd_mk (fun _ => no (by unfold delB; rw [hn]; rfl)) (fun h => absurd (by decide) h)
  · rw [tI_int]
    have hhas : hasF g.Fi nm = true := hasF_iff.2 ⟨r.f, List.mem_map_of_mem (List.mem_of_getElem? hj), hn⟩
    refine bmd_mk (fun h => by omega) (fun _ => ?_)
    cases hhd : held g.Sm nm with
    | true => exact no (by unfold delB; rw [hhd]; simp)
    | false =>
      have ed : delB g.Fi g.Sm nm = true := by unfold delB; rw [hhd, hhas]; rfl
      refine ⟨?_⟩
      rw [s33j, bm_false]
      have hlt := (List.getElem?_eq_some_iff.1 hj).1
      simp only [ldc_eq (H.at 0 rfl), tL_ok_eq hg.f.no, true_and, pSome_some, List.getElem?_cons_zero, List.getElem?_cons_succ, Nat.zero_add]
      rw [wrap1 (by omega)]
      refine req_mk (by omega) (cap_mk (by omega) (req_mk (by omega) (req_mk (by omega) (cap_mk (Int.le_refl _) ?_))))
      refine newAt_mk H fun i4 σ5 H5 => ?_
      have hw5 := H5.at 1 rfl
      obtain ⟨jj, q1, q2, q3⟩ := hg.f.at (p := 0) (by rw [fm_len fcl]; omega)
      simp only [ldc_eq hw5, tL_ok_eq hg.f.no, sz112, true_and, pSome_some, List.getElem?_cons_zero, List.getElem?_cons_succ]
      have e0 : ((j : Int) - 0).toNat = j := by omega
      have e1 : (((g.F.length : Nat) : Int) - ((j + 1 : Nat) : Int)).toNat = g.F.length - (j + 1) := by omega
      have rowm : (jj, AObj.row .rw (g.F.flatMap RF.cells)) ∈ g.R := by unfold RG.R; rw [q3]; simp
      simp only [q1, Int.toNat_zero, Nat.zero_mul, e0, Nat.zero_add, Nat.add_zero, add_none, Option.map_some]
      refine req_mk (by omega) (req_mk (by omega) (cap_mk (Int.le_refl _) (req_mk (by omega) (cap_mk (by omega) ?_))))
      unfold srcCells
      simp only
      refine req_mk trivial (ldsm (o := 0) (n := j * 2) H5 (List.mem_cons_of_mem _ (List.mem_cons_of_mem _ (List.mem_append_left _ rowm))) (by rw [fm_len fcl]; omega) ?_)
      have t1 : ((g.F.flatMap RF.cells).drop 0).take (j * 2) = (g.F.take j).flatMap RF.cells := by
        rw [List.drop_zero]
        conv => lhs; rw [← List.take_append_drop j g.F, List.flatMap_append]
        exact List.take_left' (by rw [fm_len fcl, List.length_take]; omega)
      have t2 : ((g.F.flatMap RF.cells).drop ((j + 1) * 2)).take ((g.F.length - (j + 1)) * 2) = (g.F.drop (j + 1)).flatMap RF.cells := by
        have : (g.F.flatMap RF.cells).drop ((j + 1) * 2) = (g.F.drop (j + 1)).flatMap RF.cells := by
          conv => lhs; rw [← List.take_append_drop (j + 1) g.F, List.flatMap_append]
          exact List.drop_left' (by rw [fm_len fcl, List.length_take]; omega)
        rw [this]
        exact List.take_of_length_le (by rw [fm_len fcl, List.length_drop]; omega)
      rw [t1]
      refine appC (sz := 2) (n := 0) (m := j) (by_ := 40) (cells := []) (e := 2) (rows := [(i4, .row .rw [])]) (X := (w, g.O most last) :: (g.R ++ fr)) SlC.row H5 rfl (by rw [fm_len fcl, List.length_take]; omega) (by omega) (by omega) fun a' σ6 rows' hs' H6 => ?_
      rw [List.nil_append] at hs'
      have H7 : Has σ6 ((w, g.O most last) :: (g.R ++ (rows' ++ fr))) := H6.sep (fun a => by simp only [cnt_app, cnt_cons, List.append_assoc]; omega)
      simp only [ldc_eq (H7.at 0 rfl), tL_ok_eq hg.f.no, pSome_some, List.getElem?_cons_zero, List.getElem?_cons_succ, Nat.zero_add]
      simp only [q1, Int.toNat_natCast, e1, true_and]
      refine req_mk (by omega) (req_mk (by omega) (cap_mk (Int.le_refl _) ?_))
      refine req_mk trivial (ldsm (n := (g.F.length - (j + 1)) * 2) H7 (List.mem_cons_of_mem _ (List.mem_append_left _ rowm)) (by rw [fm_len fcl]; omega) ?_)
      rw [t2]
      refine appC (sz := 2) (n := j) (m := g.F.length - (j + 1)) (by_ := 40) (rows := rows') (X := (w, g.O most last) :: (g.R ++ fr)) hs' H6 (by rw [fm_len fcl, List.length_take]; omega) (by rw [fm_len fcl, List.length_drop]) (by omega) (by omega) fun a2 σ8 rows2 hs2 H8 => ?_
      have H9 : Has σ8 ((w, g.O most last) :: (rows2 ++ (g.R ++ fr))) := H8.sep (fun a => by simp only [cnt_app, cnt_cons, List.append_assoc]; omega)
      refine put0 H9 rfl (by simp) fun σ9 H10 => hK ed σ9 ?_
      refine ⟨⟨a2, 2, rows2, g.F.take j ++ g.F.drop (j + 1), g.sa, g.se, g.sr, g.S⟩, ⟨by rw [List.flatMap_append]; exact hs2, hg.s, fun q hq => ?_, hg.so⟩, ?_, rfl, ?_⟩
      · rcases List.mem_append.1 hq with h | h
        · exact hg.fo q (List.mem_of_mem_take h)
        · exact hg.fo q (List.mem_of_mem_drop h)
      · show (g.F.take j ++ g.F.drop (j + 1)).map RF.f = _
        rw [List.map_append, List.map_take, List.map_drop]
        have := delF_at ok.srt (find_map hj)
        rw [hn] at this
        exact this
      · have el : (g.F.take j ++ g.F.drop (j + 1)).length = j + (g.F.length - (j + 1)) := by rw [List.length_append, List.length_take, List.length_drop]; omega
        have hsp : ∀ a, cnt a (g.F.flatMap RF.rows) = cnt a ((g.F.take j).flatMap RF.rows) + (cnt a r.rows + cnt a ((g.F.drop (j + 1)).flatMap RF.rows)) := by
          intro a
          have e : g.F = g.F.take j ++ r :: g.F.drop (j + 1) := by
            have := (List.getElem?_eq_some_iff.1 hj).2
            rw [← this, ← List.drop_eq_getElem_cons hlt, List.take_append_drop]
          conv => lhs; rw [e, List.flatMap_append, List.flatMap_cons, cnt_app, cnt_app]
        refine H10.sep fun a => ?_
        simp only [RG.R, RG.O, refO, el, hsp a, cnt_app, cnt_cons, List.flatMap_append, List.append_assoc, i64, List.set_cons_zero, List.set_cons_succ]
        omega)
end
end Go.AI
end
section
set_option linter.unusedSimpArgs false
set_option linter.unusedVariables false
set_option maxRecDepth 10000
/- The reference: Write; no condition but those that each names. -/
namespace Go.Shelf
theorem fl_get {α β : Type} {c : α → List β} {sz : Nat} (hc : ∀ x, (c x).length = sz) : ∀ {L : List α} {i o : Nat} {x : α}, L[i]? = some x → o < sz → (L.flatMap c)[sz * i + o]? = (c x)[o]?
  | [], i, o, x, h, _ => by simp at h
  | z :: L, 0, o, x, h, ho => by
    simp at h
    subst h
    rw [List.flatMap_cons, Nat.mul_zero, Nat.zero_add, List.getElem?_append_left (by rw [hc]; exact ho)]
  | z :: L, i + 1, o, x, h, ho => by
    have := fl_get hc (L := L) (by simpa using h) ho
    rw [List.flatMap_cons, List.getElem?_append_right (by rw [hc, Nat.mul_add]; omega), hc]
    rw [← this]
    congr 1
    rw [Nat.mul_add]
    omega
theorem divB_enc {w : Bool} {c : Int} (h0 : 0 ≤ c) : divB (unW w) (putC w c) = enc1 w c := by
  cases w with
  | true => rfl
  | false =>
    show (if (1 : Nat) = 4 then by4 (putC false c) else [putC false c % 256]) = [putC false c]
    rw [if_neg (by decide)]
    unfold putC
    simp only [Bool.false_eq_true, if_false]
    split
    · rfl
    · congr 1
      omega
theorem setA_step {b P : List Int} {i q : Nat} {p : Int} (hi : i ≤ b.length) (hp : P[q]? = some p) :
    (if i + q = (setA b i (P.take q)).length then setA b i (P.take q) ++ [0] else setA b i (P.take q)).set (i + q) p = setA b i (P.take (q + 1)) := by
  have hq := (List.getElem?_eq_some_iff.1 hp).1
  have hl : (P.take q).length = q := by rw [List.length_take]; omega
  have e1 : P.take (q + 1) = P.take q ++ [p] := by rw [List.take_add_one, hp]; rfl
  have hB := setA_len (ps := P.take q) hi
  rw [hl] at hB
  have h2 := setA_setA (b := b) (i := i) (p := P.take q) (q := [p]) hi
  rw [hl] at h2
  rw [e1, ← h2]
  generalize setA b i (P.take q) = B at hB
  unfold setA
  split
  · rename_i h
    rw [h, List.take_length, List.drop_of_length_le (by simp)]
    rw [List.set_append_right _ _ (Nat.le_refl _), Nat.sub_self]
    simp
  · rename_i h
    rw [List.set_eq_take_append_cons_drop, if_pos (by omega)]
    simp
end Go.Shelf
namespace Go.AI
open Go.Proofs Go.Shelf
section
variable {σ : AS} {K : Value → AS → Prop} {fr : List (Nat × AObj)} {w k : Nat} {g : RG} {most last n mode : Int} {nm : List UInt8} {F : List Fi} {S : List Sm} {l : List Int} {a : Option Addr} {wd : Bool}
theorem fm_same {c : RQ → List Value} : ∀ {L : List RQ} {i : Nat} {x y : RQ}, L[i]? = some x → c y = c x → (L.set i y).flatMap c = L.flatMap c
  | [], i, x, y, h, _ => by simp at h
  | z :: L, 0, x, y, h, e => by
    simp at h
    subst h
    rw [List.set_cons_zero, List.flatMap_cons, List.flatMap_cons, e]
  | z :: L, i + 1, x, y, h, e => by
    rw [List.set_cons_succ, List.flatMap_cons, List.flatMap_cons, fm_same (by simpa using h) e]
def RG.setS (g : RG) (i : Nat) (r : RQ) : RG := { g with S := g.S.set i r }
theorem RG.setS_ok {i : Nat} {r r' : RQ} (hg : g.ok) (hi : g.S[i]? = some r) (hc : r'.cells = r.cells) (ho : r'.ok) : (g.setS i r').ok := by
  refine ⟨hg.f, ?_, hg.fo, fun q hq => ?_⟩
  · show SlC 8 g.sa g.se ((g.S.set i r').flatMap RQ.cells) g.sr
    rw [fm_same hi hc]
    exact hg.s
  · rcases List.mem_or_eq_of_mem_set hq with hq | rfl
    · exact hg.so q hq
    · exact ho
theorem RG.setS_R {i : Nat} {r r' : RQ} (hi : g.S[i]? = some r) (a : Nat × AObj) : cnt a (g.setS i r').R + cnt a r.rows = cnt a g.R + cnt a r'.rows := by
  have := cnt_set (f := RQ.rows) a r' hi
  unfold RG.setS RG.R
  simp only [cnt_app]
  omega
theorem RG.setS_O {i : Nat} {r' : RQ} : (g.setS i r').O most last = g.O most last := by
  unfold RG.setS RG.O
  simp only [List.length_set]
/-- A stream's row is written: all its cells. -/
theorem putS {i : Nat} {r r' : RQ} {G : AS → Prop} (hg : g.ok) (H : Has σ ((w, g.O most last) :: (g.R ++ fr))) (hi : g.S[i]? = some r) (ho : r'.ok) (hr : r'.rows = r.rows)
    (hG : ∀ σ', RSt w most last g.Fi (g.Sm.set i r'.q) fr σ' → G σ') : ∃ j, g.sa = some ⟨j, 0, none⟩ ∧ puts σ ⟨j, i * 8, none⟩ r'.cells G := by
  have hlt := (List.getElem?_eq_some_iff.1 hi).1
  obtain ⟨j, h1, h2, h3⟩ := hg.s.at (p := 0) (by rw [fm_len qcl]; omega)
  refine ⟨j, h1, ?_⟩
  have hset := fm_puts qcl g.S i r r' hi
  have H2 : Has σ ((j, .row .rw (g.S.flatMap RQ.cells)) :: ((w, g.O most last) :: (g.fr ++ (g.F.flatMap RF.rows ++ (g.S.flatMap RQ.rows ++ fr))))) := by
    unfold RG.R at H
    rw [h3] at H
    exact H.sep (fun a => by simp only [cnt_app, cnt_cons, List.append_assoc, List.cons_append, List.nil_append]; omega)
  refine puts0 H2 rfl (by rw [fm_len qcl, qcl]; omega) fun σ' H' => ?_
  rw [hset] at H'
  refine hG σ' ⟨⟨g.fa, g.fe, g.fr, g.F, g.sa, 8, [(j, .row .rw ((g.S.set i r').flatMap RQ.cells))], g.S.set i r'⟩, ⟨hg.f, by rw [h1]; exact SlC.row, hg.fo, fun q hq => ?_⟩, rfl, ?_, ?_⟩
  · rcases List.mem_or_eq_of_mem_set hq with hq | rfl
    · exact hg.so q hq
    · exact ho
  · show (g.S.set i r').map RQ.q = _
    rw [List.map_set]
  · have e1 : g.O most last = refO most g.fa g.F.length g.fe g.sa (g.S.set i r').length 8 last := by rw [List.length_set, h2]
    rw [e1] at H'
    refine H'.sep fun a => ?_
    have := cnt_set (f := RQ.rows) a (L := g.S) r' hi
    rw [hr] at this
    simp only [RG.R, RG.O, refO, cnt_app, cnt_cons, List.append_assoc, List.cons_append, List.nil_append, i64]
    omega
/-- Behind what was written: the count, and the stream is put back. -/
theorem c36z {i x : Nat} {r r1 : RQ} {a' : Option Addr} {e' m : Nat} (hg : g.ok) (H : Has σ ((x, .row .plain r1.cells) :: ((w, g.O most last) :: (g.R ++ fr)))) (hi : g.S[i]? = some r) (ho : r1.ok) (hr : r1.rows = r.rows) (hl : g.S.length ≤ 1000) (hw : r1.q.wr ≤ 2147483648) (hm : m ≤ 2147483648)
    (hK : ∀ σ', RSt w most last g.Fi (g.Sm.set i { r1.q with wr := r1.q.wr + m }) fr σ' → K (i64 0) σ') :
    jn Tryz.prog hintsS (Tri Tryz.prog) 36 [true, true, true, true, true, true] [] K [(0, some (ptr w)), (2, some (.slice a' m e')), (7, some (i64 i)), (8, some (ptr x))] σ := by
  have hlt := (List.getElem?_eq_some_iff.1 hi).1
  rw [s36j]
  simp only [ldc_eq (H.at 0 rfl), RQ.cells, tI_int, pSome_some, List.getElem?_cons_zero, List.getElem?_cons_succ, Nat.zero_add]
  have e1 : IntKind.wrap .i64 ((r1.q.wr : Int) + m) = ((r1.q.wr + m : Nat) : Int) := by rw [wrap64 (by omega) (by omega)]; omega
  rw [e1]
  refine put0 H rfl (by rw [qcl]; omega) fun σ2 H2 => ?_
  have hx := H2.at 0 rfl
  simp only [ldc_eq (H2.at 1 rfl), tL_ok_eq hg.s.no, pSome_some, List.getElem?_cons_zero, List.getElem?_cons_succ]
  rw [lds_eq hx 0 8 (by rw [List.length_set, qcl]; omega)]
  simp only [RQ.cells, List.drop_zero, List.set_cons_succ, List.set_cons_zero, List.take_succ_cons, List.take_zero, tL_ok_eq ho.no, tI_int, tB_bool, tS_str, tCons_cons, tNil_nil]
  refine req_mk (by omega) (req_mk (by omega) ?_)
  let r2 : RQ := ⟨{ r1.q with wr := r1.q.wr + m }, r1.a, 1, r1.rows⟩
  obtain ⟨j, h1, h2⟩ := putS (w := w) (most := most) (last := last) (r' := r2) (fr := fr) (G := fun σ31 => K (i64 0) σ31) hg (H2.sep (M := (w, g.O most last) :: (g.R ++ fr)) (fun a => by simp only [cnt_app, cnt_cons, List.append_assoc]; omega)) hi ho.e1 hr hK
  rw [h1]
  simp only [sz94, Int.toNat_natCast, pSome_some, Nat.zero_add, add_none]
  exact h2
end
end Go.AI
end
section
set_option linter.unusedSimpArgs false
set_option linter.unusedVariables false
set_option maxRecDepth 10000
/- The reference: Write, whole; no condition but those that each names. -/
namespace Go.AI
open Go.Proofs Go.Shelf
abbrev pI : List Bool := [true, true, true, true, true, true, false, true, true, true, true, true, true, false, true, false, false, true, false, false, true, false, true, false]
abbrev pO : List Bool := [true, true, true, true, true, true, false, true, true, true, true, true, true, false, true, false]
section
variable {σ : AS} {K : Value → AS → Prop} {fr : List (Nat × AObj)} {w k : Nat} {g : RG} {most last n mode : Int} {nm : List UInt8} {F : List Fi} {S : List Sm} {l : List Int} {a : Option Addr} {wd : Bool}
theorem chr_at {rowsl : List (Nat × AObj)} {X : List (Nat × AObj)} {a' : Option Addr} {e' j : Nat} {c : Int} {G : Value → Prop} (hs : SlC 1 a' e' (cellsU l) rowsl) (H : Has σ X) (hr : ∀ p ∈ rowsl, p ∈ X) (hc : l[j]? = some c) (hG : G (u32 c)) :
    req (0 ≤ (j : Int)) (req ((j : Int) < (l.length : Int)) (pSome a' fun a0 => req (e' = szOf Tryz.prog 54) (ldc σ (Addr.add a0 (Int.toNat (j : Int) * szOf Tryz.prog 54)) G))) := by
  have hlt := (List.getElem?_eq_some_iff.1 hc).1
  refine req_mk (by omega) (req_mk (by omega) ?_)
  obtain ⟨r, rfl, h2, rfl⟩ := hs.at (p := 0) (by simp; omega)
  have hv : (cellsU l)[j]? = some (u32 c) := by rw [List.getElem?_map, hc]; rfl
  simp only [sz54, Int.toNat_natCast, Nat.mul_one, pSome_some, Nat.zero_add, add_none]
  refine req_mk h2.symm ?_
  rw [ldc_eq (H.g (hr _ (List.mem_singleton.2 rfl))), hv]
  exact hG
/-- Characters to a buffer's row. -/
theorem c36b {x i : Nat} {r : RQ} {ms : List Int} {rowsl : List (Nat × AObj)} {a' : Option Addr} (hg : g.ok) (H : Has σ (rowsl ++ ((x, .row .plain r.cells) :: ((w, g.O most last) :: (g.R ++ fr))))) (hi : g.S[i]? = some r) (hs : SlC 1 a' 1 (cellsU ms) rowsl)
    (hl : g.S.length ≤ 1000) (hw : r.q.wr ≤ 1073741824) (hm : ms.length ≤ 1048576) (hln : r.q.l.length ≤ 4096) (hpl : r.q.pl ≤ r.q.l.length)
    (hK : ∀ σ', RSt w most last g.Fi (g.Sm.set i { r.q with l := bufW r.q.l r.q.pl ms, pl := min (r.q.pl + ms.length) r.q.l.length, wr := r.q.wr + ms.length }) fr σ' → K (i64 0) σ') :
    ALoop (fl Tryz.prog hintsS (Tri Tryz.prog) 36 [true, true, true, true, true, true, false, true, false, true, false] [] K) [(0, some (ptr w)), (2, some (.slice a' ms.length 1)), (7, some (i64 i)), (8, some (ptr x)), (9, some (i64 0))] σ := by
  have hro : r.ok := hg.so r (List.mem_of_getElem? hi)
  have hlt := (List.getElem?_eq_some_iff.1 hi).1
  -- the stream behind j characters
  let R1 : Nat → List (Nat × AObj) → RQ := fun j rows => ⟨{ r.q with l := bufW r.q.l r.q.pl (ms.take j), pl := min (r.q.pl + j) r.q.l.length }, r.a, r.e, rows⟩
  let R0 : Nat → List (Nat × AObj) → RQ := fun j rows => ⟨{ r.q with l := bufW r.q.l r.q.pl (ms.take j) }, r.a, r.e, rows⟩
  have lenB : ∀ j, (bufW r.q.l r.q.pl (ms.take j)).length = r.q.l.length := fun j => bufW_len hpl
  have cellsR0 : ∀ j rows, (R0 j rows).cells = r.cells := fun j rows => by
    show [_, _, _, _, _, _, _, _] = _
    simp only [R0, lenB]
    rfl
  refine aloop (fun (j : Nat) rg σ' => j ≤ ms.length ∧ ∃ rows, (R0 j rows).ok ∧ Has σ' (rowsl ++ ((x, .row .plain (R1 j rows).cells) :: ((w, (g.setS i (R0 j rows)).O most last) :: ((g.setS i (R0 j rows)).R ++ fr)))) ∧
    rg = [(0, some (ptr w)), (2, some (.slice a' ms.length 1)), (7, some (i64 i)), (8, some (ptr x)), (9, some (i64 j))]) (fun j => ms.length - j) ?_ (a := 0) ⟨Nat.zero_le _, r.rows, ?_, ?_, rfl⟩
  · rintro j rg σ1 Y hY ⟨hj, rows, ho, H1, rfl⟩
    rw [s36l]
    have hg1 : (g.setS i (R0 j rows)).ok := RG.setS_ok hg hi (cellsR0 j rows) ho
    have hi1 : (g.setS i (R0 j rows)).S[i]? = some (R0 j rows) := by
      show (g.S.set i (R0 j rows))[i]? = _
      rw [List.getElem?_set_self hlt]
    have H2 : Has σ1 ((x, .row .plain (R1 j rows).cells) :: (rowsl ++ ((w, (g.setS i (R0 j rows)).O most last) :: ((g.setS i (R0 j rows)).R ++ fr)))) := H1.sep (fun a => by simp only [cnt_app, cnt_cons, List.append_assoc]; omega)
    refine bmd_mk (fun h => ?_) (fun h => ?_)
    · obtain ⟨c, hc⟩ : ∃ c, ms[j]? = some c := ⟨ms[j]'(by omega), by simp⟩
      have hno : nilOr r.a 1 1 = true := hro.no
      simp only [ldc_eq (H2.at 0 rfl), RQ.cells, R1, tL_ok_eq hno, lenB, tI_int, pSome_some, List.getElem?_cons_zero, List.getElem?_cons_succ, Nat.zero_add]
      have et : ms.take (j + 1) = ms.take j ++ [c] := by rw [List.take_add_one, hc]; rfl
      have hlj : (ms.take j).length = j := by rw [List.length_take]; omega
      refine bmd_mk (fun h2 => ?_) (fun h2 => ⟨?_⟩)
      · have hp : min (r.q.pl + j) r.q.l.length = r.q.pl + j := by omega
        refine chr_at hs H2 (fun p hp => List.mem_cons_of_mem _ (List.mem_append_left _ hp)) hc ?_
        simp only [tI_int]
        refine req_mk (by omega) (req_mk (by omega) ?_)
        obtain ⟨jr, q1, q2, q3⟩ := SlC.at (p := 0) ho (by rw [List.length_map]; show 0 < (bufW r.q.l r.q.pl (ms.take j)).length; rw [lenB]; omega)
        have q1 : r.a = some ⟨jr, 0, none⟩ := q1
        have q3 : rows = [(jr, .row .rw (cellsU (bufW r.q.l r.q.pl (ms.take j))))] := q3
        simp only [q1, sz54, Int.toNat_natCast, Nat.mul_one, pSome_some, Nat.zero_add, add_none]
        -- the row comes to the front
        have hR := fun a => RG.setS_R (g := g) (r' := R0 j rows) hi a
        have er : ∀ a, cnt a (R0 j rows).rows = cnt a rows := fun a => rfl
        have er1 : ∀ a, cnt a rows = one a (jr, .row .rw (cellsU (bufW r.q.l r.q.pl (ms.take j)))) := fun a => by rw [q3]; rfl
        have H3 : Has σ1 ((jr, .row .rw (cellsU (bufW r.q.l r.q.pl (ms.take j)))) :: ((x, .row .plain (R1 j rows).cells) :: (rowsl ++ ((w, (g.setS i (R0 j rows)).O most last) :: (g.fr ++ (g.sr ++ (g.F.flatMap RF.rows ++ ((g.S.set i (R0 j [])).flatMap RQ.rows ++ fr)))))))) := by
          have q := fun a => cnt_set (f := RQ.rows) a (R0 j rows) hi
          have q' := fun a => cnt_set (f := RQ.rows) a (R0 j []) hi
          refine H2.sep fun a => ?_
          have := q a
          have := q' a
          have e1 : cnt a (RQ.rows (R0 j rows)) = cnt a rows := rfl
          have e2 : cnt a (RQ.rows (R0 j [])) = 0 := rfl
          have e3 := er1 a
          simp only [RG.R, RG.setS, cnt_app, cnt_cons, List.append_assoc, i64, ptr] at *
          omega
        refine put0 H3 rfl (by rw [List.length_map, lenB]; omega) fun σ2 H4 => ?_
        have hrow : (cellsU (bufW r.q.l r.q.pl (ms.take j))).set (min (r.q.pl + j) r.q.l.length) (u32 c) = cellsU (bufW r.q.l r.q.pl (ms.take (j + 1))) := by
          rw [et, bufW_snoc hpl, hlj, if_pos (by omega), hp]
          exact (List.map_set (f := u32)).symm
        rw [hrow] at H4
        have hx2 := H4.at 1 rfl
        simp only [ldc_eq hx2, RQ.cells, R1, tI_int, pSome_some, List.getElem?_cons_zero, List.getElem?_cons_succ]
        have H5 : Has σ2 ((x, .row .plain (R1 j rows).cells) :: ((jr, .row .rw (cellsU (bufW r.q.l r.q.pl (ms.take (j + 1))))) :: (rowsl ++ ((w, (g.setS i (R0 j rows)).O most last) :: (g.fr ++ (g.sr ++ (g.F.flatMap RF.rows ++ ((g.S.set i (R0 j [])).flatMap RQ.rows ++ fr)))))))) := H4.sep (fun a => by simp only [cnt_app, cnt_cons]; omega)
        refine put0 H5 rfl (by rw [qcl]; omega) fun σ3 H6 => ⟨?_⟩
        rw [s36j1, wrap1 (by omega)]
        refine hY (j + 1) _ _ (by omega) ⟨by omega, [(jr, .row .rw (cellsU (bufW r.q.l r.q.pl (ms.take (j + 1)))))], ?_, ?_, rfl⟩
        · show SlC 1 r.a 1 _ _
          rw [q1]
          exact SlC.row
        · have q := fun a => cnt_set (f := RQ.rows) a (R0 (j + 1) [(jr, .row .rw (cellsU (bufW r.q.l r.q.pl (ms.take (j + 1)))))]) hi
          have q' := fun a => cnt_set (f := RQ.rows) a (R0 j []) hi
          have ex : (R1 j rows).cells.set 5 (i64 (IntKind.wrap .i64 ((min (r.q.pl + j) r.q.l.length : Nat) + 1))) = (R1 (j + 1) [(jr, .row .rw (cellsU (bufW r.q.l r.q.pl (ms.take (j + 1)))))]).cells := by
            have e1 : min (r.q.pl + (j + 1)) r.q.l.length = min (r.q.pl + j) r.q.l.length + 1 := by omega
            simp only [R1, RQ.cells, List.set_cons_succ, List.set_cons_zero, lenB, e1]
            rw [wrap1 (by omega)]
          have eo1 := RG.setS_O (g := g) (most := most) (last := last) (i := i) (r' := R0 j rows)
          have eo2 := RG.setS_O (g := g) (most := most) (last := last) (i := i) (r' := R0 (j + 1) [(jr, .row .rw (cellsU (bufW r.q.l r.q.pl (ms.take (j + 1)))))])
          rw [eo1] at H6
          rw [eo2, ← ex]
          refine H6.sep fun a => ?_
          have := q a
          have := q' a
          have e1 : cnt a (RQ.rows (R0 (j + 1) [(jr, .row .rw (cellsU (bufW r.q.l r.q.pl (ms.take (j + 1)))))])) = cnt a [(jr, .row .rw (cellsU (bufW r.q.l r.q.pl (ms.take (j + 1)))))] := rfl
          have e2 : cnt a (RQ.rows (R0 j [])) = 0 := rfl
          rw [e1] at *
          simp only [RG.R, RG.setS, cnt_app, cnt_cons, cnt_nil, List.append_assoc, i64] at *
          omega
      · rw [s36j1, wrap1 (by omega)]
        have hb : bufW r.q.l r.q.pl (ms.take (j + 1)) = bufW r.q.l r.q.pl (ms.take j) := by rw [et, bufW_snoc hpl, hlj, if_neg (by omega)]
        have e0 : R0 (j + 1) rows = R0 j rows := by simp only [R0, hb]
        have e1 : R1 (j + 1) rows = R1 j rows := by
          have : min (r.q.pl + (j + 1)) r.q.l.length = min (r.q.pl + j) r.q.l.length := by omega
          simp only [R1, hb, this]
        refine hY (j + 1) _ _ (by omega) ⟨by omega, rows, ?_, ?_, rfl⟩
        · rw [e0]; exact ho
        · rw [e0, e1]; exact H1
    · have ej : j = ms.length := by omega
      subst ej
      refine ⟨?_⟩
      have hrr : (R1 ms.length rows).rows = (R0 ms.length rows).rows := rfl
      refine c36z (fr := fr) (r1 := R1 ms.length rows) hg1 (H2.sep (M := (x, .row .plain (R1 ms.length rows).cells) :: ((w, (g.setS i (R0 ms.length rows)).O most last) :: ((g.setS i (R0 ms.length rows)).R ++ fr))) (fun a => by simp only [cnt_app, cnt_cons, List.append_assoc]; omega)) hi1 ho hrr (by show (g.S.set i _).length ≤ 1000; rw [List.length_set]; exact hl) (by show r.q.wr ≤ _; omega) (by omega) fun σ' S' => hK σ' ?_
      have eS : (g.setS i (R0 ms.length rows)).Sm.set i { (R1 ms.length rows).q with wr := (R1 ms.length rows).q.wr + ms.length } = g.Sm.set i { r.q with l := bufW r.q.l r.q.pl ms, pl := min (r.q.pl + ms.length) r.q.l.length, wr := r.q.wr + ms.length } := by
        show ((g.S.set i (R0 ms.length rows)).map RQ.q).set i _ = _
        rw [List.map_set, List.set_set]
        simp only [R1, List.take_length]
      rw [eS] at S'
      exact S'
  · show SlC 1 r.a 1 (cellsU (bufW r.q.l r.q.pl (ms.take 0))) r.rows
    rw [List.take_zero, bufW_nil]
    exact hro
  · have e0 : R0 0 r.rows = r := by simp only [R0, List.take_zero, bufW_nil]
    have e1 : R1 0 r.rows = r := by
      have : min (r.q.pl + 0) r.q.l.length = r.q.pl := by omega
      simp only [R1, List.take_zero, bufW_nil, this]
    have e2 : g.setS i r = g := by
      unfold RG.setS
      have : g.S.set i r = g.S := by
        apply List.ext_getElem?
        intro m
        rw [List.getElem?_set]
        split
        · rename_i hm
          subst hm
          exact hi.symm
        · rfl
      rw [this]
    rw [e0, e1, e2]
    exact H
end
end Go.AI
end
section
set_option linter.unusedSimpArgs false
set_option linter.unusedVariables false
set_option maxRecDepth 10000
/- The reference: Write to a file, Write; no condition but those that each names. -/
namespace Go.AI
open Go.Proofs Go.Shelf
section
variable {σ : AS} {K : Value → AS → Prop} {fr : List (Nat × AObj)} {w k : Nat} {g : RG} {most last n mode : Int} {nm : List UInt8} {F : List Fi} {S : List Sm} {l : List Int} {a : Option Addr} {wd : Bool}
theorem c36f {x i kk : Nat} {r : RQ} {rf : RF} {ms : List Int} {rowsl : List (Nat × AObj)} {a' : Option Addr} {un : Int} (hg : g.ok) (H : Has σ ((x, .row .plain r.cells) :: ((w, g.O most last) :: (g.R ++ (rowsl ++ fr))))) (hi : g.S[i]? = some r) (hf : g.F[kk]? = some rf) (hs : SlC 1 a' 1 (cellsU (ms.map (putC r.q.wd))) rowsl)
    (hu : un = unW r.q.wd) (hc : ∀ c ∈ ms, 0 ≤ c ∧ c ≤ 4294967295) (hl : g.S.length ≤ 1000) (hlf : g.F.length ≤ 1000) (hw : r.q.wr ≤ 1073741824) (hm : ms.length ≤ 1048576) (hbl : rf.f.b.length ≤ 1048576) (hpl : unW r.q.wd * r.q.pl ≤ rf.f.b.length) (ht : totF g.Fi ≤ 1048576) (hmost : 0 ≤ most ∧ most ≤ 1048576)
    (hE : (totF g.Fi : Int) - rf.f.b.length + (wrB rf.f.b r.q ms).length > most → ∀ σ', RSt w most last g.Fi g.Sm fr σ' → K (i64 7) σ')
    (hK : ¬ (totF g.Fi : Int) - rf.f.b.length + (wrB rf.f.b r.q ms).length > most → ∀ σ', RSt w most last (g.Fi.set kk { rf.f with b := wrB rf.f.b r.q ms }) (g.Sm.set i { r.q with pl := r.q.pl + ms.length, wr := r.q.wr + ms.length }) fr σ' → K (i64 0) σ') :
    jn Tryz.prog hintsS (Tri Tryz.prog) 36 [true, true, true, true, true, true, false, true, true, true, true] [] K [(0, some (ptr w)), (2, some (.slice a' ms.length 1)), (7, some (i64 i)), (8, some (ptr x)), (10, some (i64 kk)), (11, some (i64 un))] σ := by
  subst hu
  have hro : r.ok := hg.so r (List.mem_of_getElem? hi)
  have hfo : rf.ok := hg.fo rf (List.mem_of_getElem? hf)
  have hlti := (List.getElem?_eq_some_iff.1 hi).1
  have hltk := (List.getElem?_eq_some_iff.1 hf).1
  have hu14 : unW r.q.wd = 1 ∨ unW r.q.wd = 4 := by cases r.q.wd <;> simp [unW]
  let P := enc r.q.wd ms
  have hP : P.length = unW r.q.wd * ms.length := enc_len _ _
  have wrBe : wrB rf.f.b r.q ms = setA rf.f.b (unW r.q.wd * r.q.pl) P := rfl
  let Rj : Nat → RQ := fun j => ⟨{ r.q with pl := r.q.pl + j }, r.a, r.e, r.rows⟩
  have Rjc : ∀ j, (Rj j).cells = r.cells.set 5 (i64 ((r.q.pl + j : Nat) : Int)) := fun j => rfl
  rw [s36j2]
  refine newAt_mk H fun i0 σ1 H1 => ?_
  have hw1 := H1.at 2 rfl
  have R1 : RIn w g most last ((i0, AObj.row .rw []) :: ((x, AObj.row .plain r.cells) :: ((w, g.O most last) :: (g.R ++ (rowsl ++ fr))))) := (RIn.of hg).cons.cons
  obtain ⟨jf, f1, f2, f3, f4⟩ := R1.fel hf
  have e1 := f4 1 (by omega)
  simp only [ldc_eq hw1, tL_ok_eq hg.f.no, pSome_some, List.getElem?_cons_zero, List.getElem?_cons_succ, Nat.zero_add]
  refine req_mk (by omega) (req_mk (by omega) ?_)
  simp only [f1, sz112, Int.toNat_natCast, ldc_eq (H1.g f3), e1, RF.cells, tL_ok_eq hfo.no, pSome_some, List.getElem?_cons_zero, List.getElem?_cons_succ, Nat.zero_add, add_none]
  obtain ⟨q1, q2⟩ := R1.frow (List.mem_of_getElem? hf)
  refine srcC (cells := cells8 rf.f.b) (e := 1) hfo.e1 H1 q1 (by simp) (by omega) ?_
  refine appC (cells := []) (e := 1) (rows := [(i0, .row .rw [])]) (n := 0) (X := (x, .row .plain r.cells) :: ((w, g.O most last) :: (g.R ++ (rowsl ++ fr)))) SlC.row H1 rfl (by simp) (by omega) (by omega) fun ab σ2 rowsb hsb H2 => ?_
  rw [List.nil_append] at hsb
  rw [Nat.zero_add]
  -- rounds over the characters
  refine aloop (fun (j : Nat) rg σ' => j ≤ ms.length ∧ ∃ ab rowsb, SlC 1 ab 1 (cells8 (setA rf.f.b (unW r.q.wd * r.q.pl) (P.take (unW r.q.wd * j)))) rowsb ∧ Has σ' (rowsb ++ ((x, .row .plain (Rj j).cells) :: ((w, g.O most last) :: (g.R ++ (rowsl ++ fr))))) ∧
    rg = [(0, some (ptr w)), (2, some (.slice a' ms.length 1)), (7, some (i64 i)), (8, some (ptr x)), (10, some (i64 kk)), (11, some (i64 (unW r.q.wd))), (12, some (.slice ab (setA rf.f.b (unW r.q.wd * r.q.pl) (P.take (unW r.q.wd * j))).length 1)), (13, some (i64 j))]) (fun j => ms.length - j) ?_ (a := 0)
    ⟨Nat.zero_le _, ab, rowsb, ?_, ?_, ?_⟩
  · rintro j rg σ3 Y hY ⟨hj, ab, rowsb, hsb, H3, rfl⟩
    rw [s36l1]
    refine bmd_mk (fun h => ?_) (fun h => ?_)
    · obtain ⟨c, hcj⟩ : ∃ c, ms[j]? = some c := ⟨ms[j]'(by omega), by simp⟩
      have hcl : (ms.map (putC r.q.wd))[j]? = some (putC r.q.wd c) := by rw [List.getElem?_map, hcj]; rfl
      have hcb := hc c (List.mem_of_getElem? hcj)
      have hpc : 0 ≤ putC r.q.wd c ∧ putC r.q.wd c ≤ 4294967295 := by
        unfold putC
        split
        · exact hcb
        · split <;> omega
      have hch : ∀ {G : Value → Prop}, G (u32 (putC r.q.wd c)) → req (0 ≤ (j : Int)) (req ((j : Int) < (ms.length : Int)) (pSome a' fun a0 => req (1 = szOf Tryz.prog 54) (ldc σ3 (Addr.add a0 (Int.toNat (j : Int) * szOf Tryz.prog 54)) G))) := fun hG => by
        have := chr_at (l := ms.map (putC r.q.wd)) (X := rowsb ++ ((x, .row .plain (Rj j).cells) :: ((w, g.O most last) :: (g.R ++ (rowsl ++ fr))))) hs H3 (fun p hp => by simp [hp]) hcl hG
        rw [List.length_map] at this
        exact this
      refine hch ?_
      simp only [tI_int]
      refine c63 H3 hpc.1 hpc.2 hu14 fun σ4 jp H4 => ?_
      rw [divB_enc hcb.1] at H4
      simp only [tL_sl]
      have hjm : unW r.q.wd * j + unW r.q.wd ≤ P.length := by
        rw [hP]
        have := Nat.mul_le_mul_left (unW r.q.wd) (show j + 1 ≤ ms.length by omega)
        rw [Nat.mul_add] at this
        omega
      have hmul : unW r.q.wd * ms.length ≤ 4194304 := by rcases hu14 with h | h <;> rw [h] <;> omega
      -- rounds over the bytes of one
      refine aloop (fun (o : Nat) rg σ' => o ≤ unW r.q.wd ∧ ∃ ab rowsb, SlC 1 ab 1 (cells8 (setA rf.f.b (unW r.q.wd * r.q.pl) (P.take (unW r.q.wd * j + o)))) rowsb ∧ Has σ' (rowsb ++ ((jp, .row .rw (cells8 (enc1 r.q.wd c))) :: ((x, .row .plain (Rj j).cells) :: ((w, g.O most last) :: (g.R ++ (rowsl ++ fr)))))) ∧
        rg = [(0, some (ptr w)), (2, some (.slice a' ms.length 1)), (7, some (i64 i)), (8, some (ptr x)), (10, some (i64 kk)), (11, some (i64 (unW r.q.wd))), (12, some (.slice ab (setA rf.f.b (unW r.q.wd * r.q.pl) (P.take (unW r.q.wd * j + o))).length 1)), (13, some (i64 j)), (14, some (.slice (some ⟨jp, 0, none⟩) (unW r.q.wd) 1)), (15, some (i64 o))]) (fun o => unW r.q.wd - o) ?_ (a := 0)
        ⟨Nat.zero_le _, ab, rowsb, hsb, H4.sep (fun a => by simp only [cnt_app, cnt_cons, List.append_assoc]; omega), rfl⟩
      rintro o rg σ5 Z hZ ⟨ho, ab, rowsb, hsb, H5, rfl⟩
      rw [s36l2]
      have hx5 : σ5 x = some (.row .plain (Rj j).cells) := H5.g (by simp)
      refine bmd_mk (fun h2 => ?_) (fun h2 => ?_)
      · have hpo : P[unW r.q.wd * j + o]? = (enc1 r.q.wd c)[o]? := fl_get (enc1_len r.q.wd) hcj (by omega)
        obtain ⟨p, hp⟩ : ∃ p, (enc1 r.q.wd c)[o]? = some p := ⟨(enc1 r.q.wd c)[o]'(by rw [enc1_len]; omega), by simp⟩
        rw [hp] at hpo
        have hst := setA_step hpl hpo
        have hlen := setA_len (ps := P.take (unW r.q.wd * j + o)) hpl
        rw [List.length_take] at hlen
        have emul : IntKind.wrap .i64 (IntKind.wrap .i64 ((unW r.q.wd : Int) * ((r.q.pl + j : Nat) : Int)) + o) = ((unW r.q.wd * r.q.pl + (unW r.q.wd * j + o) : Nat) : Int) := by
          have m1 : unW r.q.wd * (r.q.pl + j) = unW r.q.wd * r.q.pl + unW r.q.wd * j := Nat.mul_add ..
          have m2 : ((unW r.q.wd : Int) * ((r.q.pl + j : Nat) : Int)) = ((unW r.q.wd * (r.q.pl + j) : Nat) : Int) := by rw [Int.natCast_mul]
          rw [m2, m1, wrap64 (n := ((unW r.q.wd * r.q.pl + unW r.q.wd * j : Nat) : Int)) (by omega) (by omega), wrap64 (by omega) (by omega)]
          omega
        simp only [ldc_eq hx5, RQ.cells, tI_int, pSome_some, List.getElem?_cons_zero, List.getElem?_cons_succ, Nat.zero_add]
        rw [emul]
        -- the byte is put
        have put : ∀ {σ6 : AS} {ab : Option Addr} {rowsb : List (Nat × AObj)} {B : List Int}, SlC 1 ab 1 (cells8 B) rowsb → Has σ6 (rowsb ++ ((jp, .row .rw (cells8 (enc1 r.q.wd c))) :: ((x, .row .plain (Rj j).cells) :: ((w, g.O most last) :: (g.R ++ (rowsl ++ fr)))))) → unW r.q.wd * r.q.pl + (unW r.q.wd * j + o) < B.length → B.set (unW r.q.wd * r.q.pl + (unW r.q.wd * j + o)) p = setA rf.f.b (unW r.q.wd * r.q.pl) (P.take (unW r.q.wd * j + o + 1)) →
            JoinS (jn Tryz.prog hintsS (Tri Tryz.prog) 36 [true, true, true, true, true, true, false, true, true, true, true, true, true, false, true, false, false, true, false, false, true, false, true, false, false, true, false, false] [Y, Z] K)
              [(0, some (ptr w)), (2, some (.slice a' ms.length 1)), (7, some (i64 i)), (8, some (ptr x)), (10, some (i64 kk)), (11, some (i64 (unW r.q.wd))), (12, some (.slice ab B.length 1)), (13, some (i64 j)), (14, some (.slice (some ⟨jp, 0, none⟩) (unW r.q.wd) 1)), (15, some (i64 o))] σ6 := by
          intro σ6 ab rowsb B hsb H6 hlt hset
          refine ⟨?_⟩
          rw [s36j3]
          have hx6 : σ6 x = some (.row .plain (Rj j).cells) := H6.g (by simp)
          have hj6 : σ6 jp = some (.row .rw (cells8 (enc1 r.q.wd c))) := H6.g (by simp)
          have hp8 : (cells8 (enc1 r.q.wd c))[o]? = some (u8 p) := by rw [List.getElem?_map, hp]; rfl
          simp only [ldc_eq hx6, RQ.cells, tI_int, pSome_some, List.getElem?_cons_zero, List.getElem?_cons_succ, Nat.zero_add, add_none]
          rw [emul]
          refine req_mk (by omega) (req_mk (by omega) ?_)
          simp only [sz5, Int.toNat_natCast, Nat.mul_one]
          refine req_mk trivial ?_
          simp only [ldc_eq hj6, hp8, tI_int, pSome_some]
          refine req_mk (by omega) (req_mk (by omega) ?_)
          obtain ⟨jb, rfl, _, rfl⟩ := hsb.at (p := 0) (by rw [List.length_map]; omega)
          simp only [pSome_some, Nat.zero_add, add_none]
          refine req_mk trivial (put0 H6 rfl (by rw [List.length_map]; exact hlt) fun σ7 H7 => ?_)
          rw [wrap1 (by omega)]
          have hse : (cells8 B).set (unW r.q.wd * r.q.pl + (unW r.q.wd * j + o)) (u8 p) = cells8 (setA rf.f.b (unW r.q.wd * r.q.pl) (P.take (unW r.q.wd * j + o + 1))) := by
            rw [← hset]; exact (List.map_set (f := u8)).symm
          rw [hse] at H7
          have hl2 : (setA rf.f.b (unW r.q.wd * r.q.pl) (P.take (unW r.q.wd * j + o + 1))).length = B.length := by rw [← hset, List.length_set]
          refine hZ (o + 1) _ _ (by omega) ⟨by omega, some ⟨jb, 0, none⟩, [(jb, .row .rw (cells8 (setA rf.f.b (unW r.q.wd * r.q.pl) (P.take (unW r.q.wd * j + o + 1)))))], SlC.row, H7, ?_⟩
          rw [← hl2]
          rfl
        refine beq_mk (fun h3 => ?_) (fun h3 => ?_)
        · have h3' : unW r.q.wd * r.q.pl + (unW r.q.wd * j + o) = (setA rf.f.b (unW r.q.wd * r.q.pl) (P.take (unW r.q.wd * j + o))).length := by omega
          rw [if_pos h3'] at hst
          rw [sz5]
          refine pushC hsb H5 (by rw [List.length_map]; omega) rfl (by omega) (by omega) fun a6 σ6 rows6 hs6 H6 => ?_
          have e8 : cells8 (setA rf.f.b (unW r.q.wd * r.q.pl) (P.take (unW r.q.wd * j + o))) ++ [u8 0] = cells8 (setA rf.f.b (unW r.q.wd * r.q.pl) (P.take (unW r.q.wd * j + o)) ++ [0]) := by simp
          rw [e8] at hs6
          have := put hs6 H6 (by rw [List.length_append]; simp; omega) hst
          rw [List.length_append] at this
          exact this
        · have h3' : ¬ unW r.q.wd * r.q.pl + (unW r.q.wd * j + o) = (setA rf.f.b (unW r.q.wd * r.q.pl) (P.take (unW r.q.wd * j + o))).length := by omega
          rw [if_neg h3'] at hst
          exact put hsb H5 (by omega) hst
      · have eo : o = unW r.q.wd := by omega
        subst eo
        simp only [ldc_eq hx5, RQ.cells, tI_int, pSome_some, List.getElem?_cons_zero, List.getElem?_cons_succ, Nat.zero_add]
        have hpb : r.q.pl ≤ 1048576 := by rcases hu14 with h | h <;> rw [h] at hpl <;> omega
        rw [wrap1 (n := r.q.pl + j) (by omega), wrap1 (by omega)]
        have H6 : Has σ5 ((x, .row .plain (Rj j).cells) :: (rowsb ++ ((w, g.O most last) :: (g.R ++ (rowsl ++ fr))))) := H5.sep (fun a => by simp only [cnt_app, cnt_cons, List.append_assoc]; omega)
        refine put0 H6 rfl (by rw [qcl]; omega) fun σ6 H7 => ?_
        have e9 : unW r.q.wd * (j + 1) = unW r.q.wd * j + unW r.q.wd := by rw [Nat.mul_add, Nat.mul_one]
        refine hY (j + 1) _ _ (by omega) ⟨by omega, ab, rowsb, ?_, ?_, ?_⟩
        · rw [e9]; exact hsb
        · have ec : (Rj j).cells.set 5 (i64 ((r.q.pl + j + 1 : Nat) : Int)) = (Rj (j + 1)).cells := rfl
          rw [ec] at H7
          exact H7.sep (fun a => by simp only [cnt_app, cnt_cons, List.append_assoc]; omega)
        · rw [e9]
    · have ej : j = ms.length := by omega
      subst ej
      have et : P.take (unW r.q.wd * ms.length) = P := by rw [← hP]; exact List.take_length
      rw [et, ← wrBe] at hsb ⊢
      have hx3 : σ3 x = some (.row .plain (Rj ms.length).cells) := H3.g (by simp)
      have R3 : RIn w g most last (rowsb ++ ((x, .row .plain (Rj ms.length).cells) :: ((w, g.O most last) :: (g.R ++ (rowsl ++ fr))))) := (RIn.of hg).cons.new
      have hw3 := H3.g R3.o
      obtain ⟨jf, f1, f2, f3, f4⟩ := R3.fel hf
      have e1 := f4 1 (by omega)
      have hlenB := setA_len (ps := P) hpl
      rw [← wrBe, hP] at hlenB
      have hmul : unW r.q.wd * ms.length ≤ 4194304 := by rcases hu14 with h | h <;> rw [h] <;> omega
      simp only [ldc_eq hw3, tL_ok_eq hg.f.no, true_and, tI_int, pSome_some, List.getElem?_cons_zero, List.getElem?_cons_succ, Nat.zero_add]
      refine req_mk (by omega) (req_mk (by omega) ?_)
      simp only [f1, sz112, Int.toNat_natCast, ldc_eq (H3.g f3), e1, RF.cells, tL_ok_eq hfo.no, pSome_some, List.getElem?_cons_zero, List.getElem?_cons_succ, Nat.zero_add, add_none]
      refine c20 H3 R3 (by omega) (by omega) ?_
      have hno2 : nilOr (some ⟨jf, 0, none⟩) g.fe 2 = true := by rw [← f1]; exact hg.f.no
      simp only [ldc_eq hw3, f1, tL_ok_eq hno2, ldc_eq (H3.g f3), e1, RF.cells, tL_ok_eq hfo.no, true_and, tI_int, pSome_some, List.getElem?_cons_zero, List.getElem?_cons_succ, Nat.zero_add, add_none]
      have hft := totF_mem (List.mem_of_getElem? (find_map hf))
      rw [wrap64 (n := (totF g.Fi : Int) - rf.f.b.length) (by omega) (by omega), wrap64 (by omega) (by omega)]
      refine bmd_mk (fun h4 => ?_) (fun h4 => ?_)
      · exact hE h4 σ3 ⟨g, hg, rfl, rfl, H3.sep (fun a => by simp only [cnt_app, cnt_cons, List.append_assoc]; omega)⟩
      · refine req_mk (by omega) (req_mk (by omega) ?_)
        have H4 : Has σ3 ((w, g.O most last) :: (g.R ++ (rowsb ++ ((x, .row .plain (Rj ms.length).cells) :: (rowsl ++ fr))))) := H3.sep (fun a => by simp only [cnt_app, cnt_cons, List.append_assoc]; omega)
        obtain ⟨jj, p1, p2⟩ := putF (w := w) (most := most) (last := last) (rn := rowsb) (fr := (x, .row .plain (Rj ms.length).cells) :: (rowsl ++ fr)) (b := wrB rf.f.b r.q ms) (a' := ab) (e' := 1) hg H4 hf hsb
          (G := fun σ25 => JoinS (jn Tryz.prog hintsS (Tri Tryz.prog) 36 [true, true, true, true, true, true] [] K) [(0, some (ptr w)), (2, some (.slice a' ms.length 1)), (7, some (i64 i)), (8, some (ptr x))] σ25) (fun σ5 g5 hg5 hF5 hS5 hq5 H5 => ⟨by
            have hi5 : g5.S[i]? = some r := by rw [hq5]; exact hi
            refine c36z (fr := fr) (r1 := Rj ms.length) hg5 (H5.sep (M := (x, .row .plain (Rj ms.length).cells) :: ((w, g5.O most last) :: (g5.R ++ fr))) (fun a => by simp only [cnt_app, cnt_cons, List.append_assoc]; omega)) hi5 hro rfl (by rw [hq5]; exact hl) (by show r.q.wr ≤ _; omega) (by omega) fun σ6 S6 => hK h4 σ6 ?_
            rw [hF5, hS5] at S6
            exact S6⟩)
        rw [f1] at p1
        cases p1
        exact p2
  · rw [Nat.mul_zero, List.take_zero, setA_nil]; exact hsb
  · have e0 : (Rj 0).cells = r.cells := rfl
    rw [e0]; exact H2
  · rw [Nat.mul_zero, List.take_zero, setA_nil]; rfl
theorem c36 {ms : List Int} (hS : RSt w most last F S fr σ) (ok : Ok most last F S k) (ha : Inp u32 a ms fr) (hc : ∀ c ∈ ms, 0 ≤ c ∧ c ≤ 4294967295) (hm : ms.length ≤ 1000000)
    (hN : atS S n = none → ∀ σ', RSt w most last F S fr σ' → K (i64 5) σ')
    (hE : ∀ x, atS S n = some x → wrE most F x ms ≠ 0 → ∀ σ', RSt w most last F S fr σ' → K (i64 (wrE most F x ms)) σ')
    (hK : ∀ x, atS S n = some x → wrE most F x ms = 0 → ∀ σ', RSt w most last (wrF F x ms) (setS (wrS x ms) S) fr σ' → K (i64 0) σ') : Tri Tryz.prog 36 [ptr w, i64 n, .slice a ms.length 1] σ K := tri_in (by
  rw [s36]
  have hS0 := hS
  obtain ⟨g, hg, rfl, rfl, H⟩ := hS
  have lF : g.F.length = g.Fi.length := by simp
  have lS : g.S.length = g.Sm.length := by simp
  have sl := ok.slen
  have fl := ok.flen
  have ht := ok.tot
  have hm1 := ok.most1
  have R : RIn w g most last ((w, g.O most last) :: (g.R ++ fr)) := RIn.of hg
  refine c62 H R (by omega) (fun h => ?_) (fun i r hi hn hat => ?_)
  · rw [tI_int]
    exact bmd_mk (fun _ => hN h σ hS0) (fun h => absurd (by decide) h)
  rw [tI_int]
  refine bmd_mk (fun h => by omega) (fun _ => ?_)
  have hlt := (List.getElem?_eq_some_iff.1 hi).1
  obtain ⟨js, s1, s2, s3, s4, s5, s6⟩ := R.sel hi
  have hro : r.ok := hg.so r (List.mem_of_getElem? hi)
  have hmem : r.q ∈ g.Sm := List.mem_of_getElem? (find_mapS hi)
  simp only [ldc_eq (H.at 0 rfl), tL_ok_eq hg.s.no, pSome_some, List.getElem?_cons_zero, List.getElem?_cons_succ, Nat.zero_add]
  refine req_mk (by omega) (req_mk (by omega) ?_)
  simp only [s1, sz94, Int.toNat_natCast, pSome_some, Nat.zero_add, add_none]
  rw [lds_eq (H.g s3) _ _ s5, s6]
  simp only [RQ.cells, tL_ok_eq hro.no, tI_int, tB_bool, tS_str, tCons_cons, tNil_nil]
  refine newAt_mk H fun i31 σ1 H1 => ?_
  refine puts0 H1 rfl (by simp) fun σ2 H2 => ?_
  let r1 : RQ := ⟨r.q, r.a, 1, r.rows⟩
  have H3 : Has σ2 ((i31, .row .plain r1.cells) :: ((w, g.O most last) :: (g.R ++ fr))) := by
    refine H2.sep fun a => ?_
    simp only [cnt_app, cnt_cons, List.append_assoc, List.nil_append, i64, List.take_zero, List.drop_succ_cons, List.length_cons, List.length_nil, List.drop_nil, Nat.zero_add, List.append_nil, r1, RQ.cells]
    omega
  simp only [ldc_eq (H3.at 0 rfl), RQ.cells, r1, tI_int, tB_bool, pSome_some, List.getElem?_cons_zero, List.getElem?_cons_succ]
  refine beq_mk (fun h2 => ?_) (fun h2 => ?_)
  · have e : wrE most g.Fi r.q ms = 1 := by unfold wrE; rw [if_pos h2]
    have := hE _ hat
    rw [e] at this
    exact this (by decide) σ2 ⟨g, hg, rfl, rfl, H3.sep (fun a => by simp only [cnt_app, cnt_cons, List.append_assoc]; omega)⟩
  refine c61 (wd := r.q.wd) H3 (ha.mono fun p hp => by simp [hp]) hc (by omega) fun σ3 a' e' rowsl hs H4 => ?_
  refine tL_ok hs.no ?_
  have H5 : Has σ3 ((i31, .row .plain r1.cells) :: ((w, g.O most last) :: (g.R ++ (rowsl ++ fr)))) := H4.sep (fun a => by simp only [cnt_app, cnt_cons, List.append_assoc]; omega)
  have emp : (ByteArray.mk #[]) = bsV [] := rfl
  have hwr : r.q.wr ≤ 1073741824 := by have := ok.wr _ hmem; have := ok.kle; omega
  have hat1 := ok.sn
  have hset : ∀ y : Sm, y.n = r.q.n → g.Sm.set i y = setS y g.Sm := fun y hy => setS_at ok.sn (find_mapS hi) hy
  have H6 : Has σ3 ((i31, .row .plain r.cells) :: ((w, g.O most last) :: (g.R ++ (rowsl ++ fr)))) := H5
  simp only [ldc_eq (H5.at 0 rfl), RQ.cells, r1, emp, strEq_bs, tS_str, pSome_some, List.getElem?_cons_zero, List.getElem?_cons_succ]
  refine bmd_mk (fun h3 => ?_) (fun h3 => ?_)
  · have e : wrE most g.Fi r.q ms = 0 := by unfold wrE; rw [if_neg h2, if_neg (fun h => h.1 h3)]
    have hpl := ok.pl _ hmem
    rw [charsOf_len, if_pos h3] at hpl
    have hb := c36b (K := K) (fr := fr) (ms := ms.map (putC r.q.wd)) (rowsl := rowsl) (a' := a') hg (H6.sep (M := rowsl ++ ((i31, .row .plain r.cells) :: ((w, g.O most last) :: (g.R ++ fr)))) (fun a => by simp only [cnt_app, cnt_cons, List.append_assoc]; omega)) hi hs.e1 (by omega) hwr (by rw [List.length_map]; omega) (ok.ln _ hmem) hpl (fun σ' S' => by
      refine hK _ hat e σ' ?_
      rw [hset { r.q with l := bufW r.q.l r.q.pl (ms.map (putC r.q.wd)), pl := min (r.q.pl + (ms.map (putC r.q.wd)).length) r.q.l.length, wr := r.q.wr + (ms.map (putC r.q.wd)).length } rfl] at S'
      have ew : wrS r.q ms = { r.q with l := bufW r.q.l r.q.pl (ms.map (putC r.q.wd)), pl := min (r.q.pl + (ms.map (putC r.q.wd)).length) r.q.l.length, wr := r.q.wr + (ms.map (putC r.q.wd)).length } := by
        unfold wrS
        rw [if_pos h3, List.length_map]
      have ef : wrF g.Fi r.q ms = g.Fi := by unfold wrF; rw [if_pos h3]
      rw [ew, ef]
      exact S')
    rw [List.length_map] at hb
    exact hb
  · have hhas := ok.has _ hmem h3
    refine c19 H5 (RIn.of hg).cons (by omega) (fun h => by rw [h] at hhas; cases hhas) (fun kk rf hf hnm => ?_)
    simp only [ldc_eq (H5.at 0 rfl), RQ.cells, r1, tI_int, tB_bool, pSome_some, List.getElem?_cons_zero, List.getElem?_cons_succ]
    have hbo : bOf g.Fi r.q.nm = rf.f.b := by rw [← hnm]; exact bOf_mem ok.srt (List.mem_of_getElem? (find_map hf))
    have hpl := ok.pl _ hmem
    rw [charsOf_len, if_neg h3, hbo] at hpl
    have hun := sizeW_un r.q.wd rf.f.b
    have hmul := Nat.mul_le_mul_left (unW r.q.wd) hpl
    have fin : ∀ un : Int, un = unW r.q.wd → JoinS (jn Tryz.prog hintsS (Tri Tryz.prog) 36 [true, true, true, true, true, true, false, true, true, true, true] [] K) [(0, some (ptr w)), (2, some (.slice a' ms.length 1)), (7, some (i64 i)), (8, some (ptr i31)), (10, some (i64 kk)), (11, some (i64 un))] σ3 := fun un hu => ⟨by
      refine c36f hg H6 hi hf hs.e1 hu hc (by omega) (by omega) hwr (by omega) (ok.flen1 _ (List.mem_of_getElem? (find_map hf))) (by omega) (by omega) ⟨ok.most0, ok.most1⟩ (fun h4 σ' S' => ?_) (fun h4 σ' S' => ?_)
      · have e : wrE most g.Fi r.q ms = 7 := by unfold wrE; rw [if_neg h2, if_pos ⟨h3, by rw [hbo]; exact h4⟩]
        have := hE _ hat
        rw [e] at this
        exact this (by decide) σ' S'
      · have e : wrE most g.Fi r.q ms = 0 := by unfold wrE; rw [if_neg h2, if_neg (fun h => h4 (by have := h.2; rw [hbo] at this; exact this))]
        refine hK _ hat e σ' ?_
        rw [hset { r.q with pl := r.q.pl + ms.length, wr := r.q.wr + ms.length } rfl, setB_at _ ok.srt (find_map hf), hnm] at S'
        have ew : wrS r.q ms = { r.q with pl := r.q.pl + ms.length, wr := r.q.wr + ms.length } := by unfold wrS; rw [if_neg h3]
        have ef : wrF g.Fi r.q ms = setB r.q.nm (wrB rf.f.b r.q ms) g.Fi := by unfold wrF; rw [if_neg h3, hbo]
        rw [ew, ef]
        exact S'⟩
    cases hwd : r.q.wd with
    | true => rw [bm_true]; exact fin 4 (by rw [hwd]; rfl)
    | false => rw [bm_false]; exact fin 1 (by rw [hwd]; rfl))
end
end Go.AI
end
section
set_option linter.unusedSimpArgs false
set_option linter.unusedVariables false
set_option maxRecDepth 10000
/- The reference: Tell, Read, Line, Seek, Close; no condition but those that each names. -/
namespace Go.Shelf
/-- What reading asks of files and streams. -/
structure OkD (F : List Fi) (S : List Sm) (B : Nat) : Prop where
  srt : Srt F
  byte : ∀ f ∈ F, ∀ c ∈ f.b, 0 ≤ c ∧ c < 256
  flen : F.length ≤ 64
  f1 : ∀ f ∈ F, f.b.length ≤ 1048576
  sn : S.Pairwise fun x y => x.n < y.n
  slen : S.length ≤ 64
  has : ∀ x ∈ S, x.nm ≠ [] → hasF F x.nm = true
  rd : ∀ x ∈ S, x.rd ≤ B
  ln : ∀ x ∈ S, x.l.length ≤ 4096
  pl : ∀ x ∈ S, x.pl ≤ (charsOf F x).length
theorem Ok.d {most last : Int} {F : List Fi} {S : List Sm} {k : Nat} (ok : Ok most last F S k) : OkD F S (1048576 * k) :=
  ⟨ok.srt, ok.byte, ok.flen, ok.flen1, ok.sn, ok.slen, ok.has, ok.rd, ok.ln, ok.pl⟩
theorem chars_le {F : List Fi} {S : List Sm} {B : Nat} (ok : OkD F S B) {x : Sm} (h : x ∈ S) : (charsOf F x).length ≤ 1048576 := by
  rw [charsOf_len]
  split
  · have := ok.ln x h; omega
  · have h1 := sizeW_le x.wd (bOf F x.nm)
    have h2 : (bOf F x.nm).length ≤ 1048576 := by
      unfold bOf
      cases hf : F.find? (·.nm == x.nm) with
      | none => simp
      | some g => exact ok.f1 g (List.mem_of_find?_eq_some hf)
    omega
theorem atS_mem {S : List Sm} {n : Int} {x : Sm} (h : atS S n = some x) : x ∈ S ∧ x.n = n := by
  refine ⟨List.mem_of_find?_eq_some h, ?_⟩
  have := List.find?_some h
  simpa using this
theorem setS_mem {S : List Sm} {x y : Sm} (h : y ∈ setS x S) : y = x ∨ y ∈ S := by
  obtain ⟨z, hz, rfl⟩ := List.mem_map.1 h
  split
  · exact .inl rfl
  · exact .inr hz
theorem setS_n {S : List Sm} (x : Sm) : (setS x S).map (·.n) = S.map (·.n) := by
  unfold setS
  rw [List.map_map]
  refine List.map_congr_left fun y _ => ?_
  simp only [Function.comp]
  split
  · rename_i h; exact h.symm
  · rfl
theorem setS_sn {S : List Sm} {x : Sm} (h : S.Pairwise fun x y => x.n < y.n) : (setS x S).Pairwise fun x y => x.n < y.n := by
  have h1 : (S.map (·.n)).Pairwise (· < ·) := List.pairwise_map.2 h
  rw [← setS_n x] at h1
  exact List.pairwise_map.1 h1
theorem OkD.rdS {F : List Fi} {S : List Sm} {B : Nat} (ok : OkD F S B) {x : Sm} (h : x ∈ S) {k : Nat} (hp : x.pl + k ≤ (charsOf F x).length) : OkD F (setS (rdS x k) S) (B + k) := by
  refine ⟨ok.srt, ok.byte, ok.flen, ok.f1, setS_sn ok.sn, by unfold setS; rw [List.length_map]; exact ok.slen, ?_, ?_, ?_, ?_⟩
  · intro y hy
    rcases setS_mem hy with rfl | hy
    · exact ok.has x h
    · exact ok.has y hy
  · intro y hy
    rcases setS_mem hy with rfl | hy
    · have := ok.rd x h
      show x.rd + k ≤ B + k
      omega
    · have := ok.rd y hy; omega
  · intro y hy
    rcases setS_mem hy with rfl | hy
    · exact ok.ln x h
    · exact ok.ln y hy
  · intro y hy
    rcases setS_mem hy with rfl | hy
    · exact hp
    · exact ok.pl y hy
theorem atS_setS {S : List Sm} {n : Int} {x y : Sm} (h : atS S n = some x) (hn : y.n = x.n) : atS (setS y S) n = some y := by
  induction S with
  | nil => cases h
  | cons z S ih =>
    unfold atS setS at *
    rw [List.find?_cons] at h
    rw [List.map_cons, List.find?_cons]
    cases hz : (z.n == n) with
    | true =>
      rw [hz] at h
      cases h
      rw [if_pos hn.symm]
      have : (y.n == n) = true := by rw [hn]; exact hz
      rw [this]
    | false =>
      rw [hz] at h
      have hx := (atS_mem h).2
      have hzn : z.n ≠ n := by simpa using hz
      have hyn : y.n = n := by rw [hn]; exact hx
      rw [if_neg (by rw [hyn]; exact hzn), hz]
      exact ih h
theorem setS_setS (S : List Sm) {x y : Sm} (h : x.n = y.n) : setS y (setS x S) = setS y S := by
  unfold setS
  rw [List.map_map]
  refine List.map_congr_left fun z _ => ?_
  simp only [Function.comp]
  by_cases e : z.n = x.n
  · rw [if_pos e, if_pos h, if_pos (e.trans h)]
  · rw [if_neg e]
theorem setS_self {S : List Sm} {n : Int} {x : Sm} (hs : S.Pairwise fun x y => x.n < y.n) (h : x ∈ S) : setS x S = S := by
  unfold setS
  conv => rhs; rw [← List.map_id S]
  refine List.map_congr_left fun z hz => ?_
  by_cases e : z.n = x.n
  · rw [if_pos e]
    obtain ⟨i, hi⟩ := List.getElem?_of_mem h
    obtain ⟨j, hj⟩ := List.getElem?_of_mem hz
    have hi' := List.getElem?_eq_some_iff.1 hi
    have hj' := List.getElem?_eq_some_iff.1 hj
    have hp := List.pairwise_iff_getElem.1 hs
    rcases Nat.lt_trichotomy i j with g | g | g
    · have := hp i j hi'.1 hj'.1 g
      rw [hi'.2, hj'.2] at this
      omega
    · subst g
      rw [hi] at hj
      cases hj
      rfl
    · have := hp j i hj'.1 hi'.1 g
      rw [hi'.2, hj'.2] at this
      omega
  · rw [if_neg e]; rfl
end Go.Shelf
namespace Go.AI
open Go.Proofs Go.Shelf
section
variable {σ : AS} {K : Value → AS → Prop} {fr : List (Nat × AObj)} {w k B : Nat} {g : RG} {most last n mode : Int} {nm : List UInt8} {F : List Fi} {S : List Sm} {l : List Int} {a : Option Addr} {wd : Bool}
/-- One cell of a stream's row is written. -/
theorem putS1 {i o : Nat} {r r' : RQ} {v : Value} {G : AS → Prop} (hg : g.ok) (H : Has σ ((w, g.O most last) :: (g.R ++ fr))) (hi : g.S[i]? = some r) (ho : r'.ok) (hr : r'.rows = r.rows) (hv : r.cells.set o v = r'.cells) (h8 : o < 8)
    (hG : ∀ σ' (g' : RG), g'.ok → g'.Fi = g.Fi → g'.F = g.F → g'.S = g.S.set i r' → Has σ' ((w, g'.O most last) :: (g'.R ++ fr)) → G σ') : ∃ j, g.sa = some ⟨j, 0, none⟩ ∧ put1 σ ⟨j, i * 8 + o, none⟩ v G := by
  have hlt := (List.getElem?_eq_some_iff.1 hi).1
  obtain ⟨j, h1, h2, h3⟩ := hg.s.at (p := 0) (by rw [fm_len qcl]; omega)
  refine ⟨j, h1, ?_⟩
  have hset := fm_set qcl g.S i o r r' v hi h8 hv
  have H2 : Has σ ((j, .row .rw (g.S.flatMap RQ.cells)) :: ((w, g.O most last) :: (g.fr ++ (g.F.flatMap RF.rows ++ (g.S.flatMap RQ.rows ++ fr))))) := by
    unfold RG.R at H
    rw [h3] at H
    exact H.sep (fun a => by simp only [cnt_app, cnt_cons, List.append_assoc, List.cons_append, List.nil_append]; omega)
  refine put0 H2 rfl (by rw [fm_len qcl]; omega) fun σ' H' => ?_
  rw [hset] at H'
  refine hG σ' ⟨g.fa, g.fe, g.fr, g.F, g.sa, 8, [(j, .row .rw ((g.S.set i r').flatMap RQ.cells))], g.S.set i r'⟩ ⟨hg.f, by rw [h1]; exact SlC.row, hg.fo, fun q hq => ?_⟩ rfl rfl rfl ?_
  · rcases List.mem_or_eq_of_mem_set hq with hq | rfl
    · exact hg.so q hq
    · exact ho
  · have e1 : g.O most last = refO most g.fa g.F.length g.fe g.sa (g.S.set i r').length 8 last := by rw [List.length_set, h2]
    rw [e1] at H'
    refine H'.sep fun a => ?_
    have := cnt_set (f := RQ.rows) a (L := g.S) r' hi
    rw [hr] at this
    simp only [RG.R, RG.O, refO, cnt_app, cnt_cons, List.append_assoc, List.cons_append, List.nil_append, i64]
    omega
/-- A stream's characters, with all that is asked. -/
theorem c59' {i : Nat} {r : RQ} (hg : g.ok) (H : Has σ ((w, g.O most last) :: (g.R ++ fr))) (ok : OkD g.Fi g.Sm B) (hi : g.S[i]? = some r)
    (hK : ∀ σ' a' e' rows' new, SlC 1 a' e' (cellsU (charsOf g.Fi r.q)) rows' → (∀ q ∈ rows', q ∈ (w, g.O most last) :: (g.R ++ (new ++ fr))) → Has σ' ((w, g.O most last) :: (g.R ++ (new ++ fr))) → K (.slice a' (charsOf g.Fi r.q).length e') σ') :
    Tri Tryz.prog 59 [ptr w, .agg ⟨[i64 r.q.n, .string (bsV r.q.nm), .slice r.a r.q.l.length 1, i64 r.q.mode, .bool r.q.wd, i64 r.q.pl, i64 r.q.rd, i64 r.q.wr]⟩] σ K := by
  have lF : g.F.length = g.Fi.length := by simp
  have fl := ok.flen
  have R : RIn w g most last ((w, g.O most last) :: (g.R ++ fr)) := RIn.of hg
  obtain ⟨q1, q2⟩ := R.srow (List.mem_of_getElem? hi)
  have hmem : r.q ∈ g.Sm := List.mem_of_getElem? (find_mapS hi)
  refine c59 (r := r) H R (by omega) q2 q1 ok.byte ok.f1 (ok.has _ hmem) ok.srt fun σ' a' e' rows' new hs hm H' => ?_
  refine hK σ' a' e' rows' new hs (fun q hq => ?_) (H'.sep (fun a => by simp only [cnt_app, cnt_cons, List.append_assoc]; omega))
  rcases List.mem_append.1 (hm q hq) with h | h
  · simp [h]
  · rcases List.mem_cons.1 h with h | h
    · simp [h]
    · rcases List.mem_append.1 h with h | h
      · exact List.mem_cons_of_mem _ (List.mem_append_left _ h)
      · simp [h]
theorem RIn.of' {new fr : List (Nat × AObj)} (h : g.ok) : RIn w g most last ((w, g.O most last) :: (g.R ++ (new ++ fr))) := RIn.of h
theorem c50 (hS : RSt w most last F S fr σ) (ok : OkD F S B)
    (hN : atS S n = none → ∀ σ', RSt w most last F S fr σ' → K (.tuple ⟨[i64 0, i64 0, i64 5]⟩) σ')
    (hK : ∀ x, atS S n = some x → ∀ σ', RSt w most last F S fr σ' → K (.tuple ⟨[i64 x.pl, i64 (charsOf F x).length, i64 0]⟩) σ') : Tri Tryz.prog 50 [ptr w, i64 n] σ K := tri_in (by
  rw [s50]
  have hS0 := hS
  obtain ⟨g, hg, rfl, rfl, H⟩ := hS
  have lS : g.S.length = g.Sm.length := by simp
  have sl := ok.slen
  have R : RIn w g most last ((w, g.O most last) :: (g.R ++ fr)) := RIn.of hg
  refine c62 H R (by omega) (fun h => ?_) (fun i r hi hn hat => ?_)
  · rw [tI_int]
    exact bmd_mk (fun _ => hN h σ hS0) (fun h => absurd (by decide) h)
  rw [tI_int]
  refine bmd_mk (fun h => by omega) (fun _ => ?_)
  have hlt := (List.getElem?_eq_some_iff.1 hi).1
  obtain ⟨js, s1, s2, s3, s4, s5, s6⟩ := R.sel hi
  have e5 := s4 5 (by omega)
  have hro : r.ok := hg.so r (List.mem_of_getElem? hi)
  simp only [ldc_eq (H.at 0 rfl), tL_ok_eq hg.s.no, pSome_some, List.getElem?_cons_zero, List.getElem?_cons_succ, Nat.zero_add]
  refine req_mk (by omega) (req_mk (by omega) ?_)
  have hno8 : nilOr (some ⟨js, 0, none⟩) g.se 8 = true := by rw [← s1]; exact hg.s.no
  simp only [s1, sz94, Int.toNat_natCast, ldc_eq (H.g s3), e5, RQ.cells, tI_int, pSome_some, List.getElem?_cons_zero, List.getElem?_cons_succ, Nat.zero_add, add_none]
  refine req_mk (by omega) (req_mk (by omega) ?_)
  rw [lds_eq (H.g s3) _ _ s5, s6]
  simp only [RQ.cells, tL_ok_eq hro.no, tI_int, tB_bool, tS_str, tCons_cons, tNil_nil]
  refine c59' hg H ok hi fun σ1 a' e' rows' new hs hm H1 => ?_
  refine tL_ok hs.no ?_
  have R1 : RIn w g most last ((w, g.O most last) :: (g.R ++ (new ++ fr))) := RIn.of hg
  obtain ⟨js', s1', s2', s3', s4', s5', s6'⟩ := R1.sel hi
  rw [s1] at s1'
  cases s1'
  simp only [ldc_eq (H1.g s3'), e5, RQ.cells, ldc_eq (H1.at 0 rfl), s1, tL_ok_eq hno8, true_and, tI_int, pSome_some, List.getElem?_cons_zero, List.getElem?_cons_succ]
  exact hK _ hat σ1 ⟨g, hg, rfl, rfl, H1.sep (fun a => by simp only [cnt_app, cnt_cons, List.append_assoc]; omega)⟩)
theorem c38 (hS : RSt w most last F S fr σ) (ok : OkD F S B) (hB : B ≤ 1099511627776)
    (hN : atS S n = none → ∀ σ', RSt w most last F S fr σ' → K (.tuple ⟨[u32 0, .bool false, i64 5]⟩) σ')
    (hE : ∀ x, atS S n = some x → reads x = false → ∀ σ', RSt w most last F S fr σ' → K (.tuple ⟨[u32 0, .bool false, i64 1]⟩) σ')
    (hZ : ∀ x, atS S n = some x → reads x = true → (charsOf F x).length ≤ x.pl → ∀ σ', RSt w most last F S fr σ' → K (.tuple ⟨[u32 0, .bool false, i64 0]⟩) σ')
    (hK : ∀ x c, atS S n = some x → reads x = true → (charsOf F x)[x.pl]? = some c → ∀ σ', RSt w most last F (setS (rdS x 1) S) fr σ' → K (.tuple ⟨[u32 c, .bool true, i64 0]⟩) σ') : Tri Tryz.prog 38 [ptr w, i64 n] σ K := tri_in (by
  rw [s38]
  have hS0 := hS
  obtain ⟨g, hg, rfl, rfl, H⟩ := hS
  have lS : g.S.length = g.Sm.length := by simp
  have sl := ok.slen
  have R : RIn w g most last ((w, g.O most last) :: (g.R ++ fr)) := RIn.of hg
  refine c62 H R (by omega) (fun h => ?_) (fun i r hi hn hat => ?_)
  · rw [tI_int]
    exact bmd_mk (fun _ => hN h σ hS0) (fun h => absurd (by decide) h)
  rw [tI_int]
  refine bmd_mk (fun h => by omega) (fun _ => ?_)
  have hlt := (List.getElem?_eq_some_iff.1 hi).1
  have hmem : r.q ∈ g.Sm := List.mem_of_getElem? (find_mapS hi)
  obtain ⟨js, s1, s2, s3, s4, s5, s6⟩ := R.sel hi
  have e3 := s4 3 (by omega)
  have hro : r.ok := hg.so r (List.mem_of_getElem? hi)
  have hno8 : nilOr (some ⟨js, 0, none⟩) g.se 8 = true := by rw [← s1]; exact hg.s.no
  have go : ∀ b, b = !reads r.q → JoinS (jn Tryz.prog hintsS (Tri Tryz.prog) 38 [true, true, true, false] [] K) [(0, some (ptr w)), (7, some (i64 i)), (34, some (.bool b))] σ := by
    rintro b rfl
    refine ⟨?_⟩
    rw [s38j]
    refine bnot_mk (fun h => hE _ hat h σ hS0) (fun hrd => ?_)
    simp only [ldc_eq (H.at 0 rfl), tL_ok_eq hg.s.no, pSome_some, List.getElem?_cons_zero, List.getElem?_cons_succ, Nat.zero_add]
    refine req_mk (by omega) (req_mk (by omega) ?_)
    simp only [s1, sz94, Int.toNat_natCast, pSome_some, Nat.zero_add, add_none]
    rw [lds_eq (H.g s3) _ _ s5, s6]
    simp only [RQ.cells, tL_ok_eq hro.no, tI_int, tB_bool, tS_str, tCons_cons, tNil_nil]
    refine c59' hg H ok hi fun σ1 a' e' rows' new hs hm H1 => ?_
    refine tL_ok hs.no ?_
    have R1 : RIn w g most last ((w, g.O most last) :: (g.R ++ (new ++ fr))) := RIn.of hg
    obtain ⟨js', s1', s2', s3', s4', s5', s6'⟩ := R1.sel hi
    rw [s1] at s1'
    cases s1'
    have e5 := s4' 5 (by omega)
    simp only [ldc_eq (H1.at 0 rfl), s1, tL_ok_eq hno8, pSome_some, List.getElem?_cons_zero, List.getElem?_cons_succ, Nat.zero_add, add_none]
    refine req_mk (by omega) (req_mk (by omega) ?_)
    simp only [ldc_eq (H1.g s3'), e5, RQ.cells, tI_int, pSome_some, List.getElem?_cons_zero, List.getElem?_cons_succ]
    refine bmd_mk (fun h => hZ _ hat hrd (by omega) σ1 ⟨g, hg, rfl, rfl, H1.sep (fun a => by simp only [cnt_app, cnt_cons, List.append_assoc]; omega)⟩) (fun h => ?_)
    obtain ⟨c, hc⟩ : ∃ c, (charsOf g.Fi r.q)[r.q.pl]? = some c := ⟨(charsOf g.Fi r.q)[r.q.pl]'(by omega), by simp⟩
    refine req_mk (by omega) (req_mk (by omega) (req_mk (by omega) (req_mk (by omega) ?_)))
    obtain ⟨jc, rfl, hj2, rfl⟩ := hs.at (p := 0) (by rw [List.length_map]; omega)
    have hcv : (cellsU (charsOf g.Fi r.q))[r.q.pl]? = some (u32 c) := by rw [List.getElem?_map, hc]; rfl
    simp only [sz54, Int.toNat_natCast, Nat.mul_one, ldc_eq (H1.g (hm _ (List.mem_singleton.2 rfl))), hcv, tI_int, pSome_some, Nat.zero_add, add_none]
    refine req_mk (by omega) (req_mk (by omega) ?_)
    have hrd' := ok.rd _ hmem
    have hcl := chars_le ok hmem
    refine req_mk (by omega) (req_mk (by omega) ?_)
    let r1 : RQ := ⟨{ r.q with pl := r.q.pl + 1 }, r.a, r.e, r.rows⟩
    let r2 : RQ := ⟨{ r.q with pl := r.q.pl + 1, rd := r.q.rd + 1 }, r.a, r.e, r.rows⟩
    rw [wrap1 (by omega)]
    obtain ⟨j2, t1, t2⟩ := putS1 (w := w) (most := most) (last := last) (fr := new ++ fr) (r' := r1) (o := 5) (v := i64 ((r.q.pl + 1 : Nat) : Int)) hg H1 hi hro rfl rfl (by omega)
      (G := fun σ50 => ldc σ50 ⟨w, 2, none⟩ fun v51 => tL 8 v51 fun s52 => req (0 ≤ (i : Int)) (req ((i : Int) < (s52.n : Int)) (pSome s52.a fun a53 => ldc σ50 ⟨(Addr.add a53 (i * 8)).block, (Addr.add a53 (i * 8)).off + 6, none⟩ fun v54 => tI .i64 v54 fun n55 => req (0 ≤ (i : Int)) (req ((i : Int) < (s52.n : Int)) (pSome s52.a fun a56 => put1 σ50 ⟨(Addr.add a56 (i * 8)).block, (Addr.add a56 (i * 8)).off + 6, none⟩ (i64 (IntKind.wrap .i64 (n55 + 1))) fun σ57 => K (.tuple ⟨[u32 c, .bool true, i64 0]⟩) σ57)))))
      (fun σ5 g5 hg5 hF5 hFF5 hS5 H5 => by
        have hi5 : g5.S[i]? = some r1 := by rw [hS5, List.getElem?_set_self hlt]
        have l5 : g5.S.length = g.S.length := by rw [hS5, List.length_set]
        have R5 : RIn w g5 most last ((w, g5.O most last) :: (g5.R ++ (new ++ fr))) := RIn.of hg5
        obtain ⟨j5, u1, u2, u3, u4, u5, u6⟩ := R5.sel hi5
        have e6 := u4 6 (by omega)
        simp only [ldc_eq (H5.at 0 rfl), tL_ok_eq hg5.s.no, pSome_some, List.getElem?_cons_zero, List.getElem?_cons_succ]
        refine req_mk (by omega) (req_mk (by omega) ?_)
        simp only [u1, ldc_eq (H5.g u3), e6, RQ.cells, r1, tI_int, pSome_some, List.getElem?_cons_zero, List.getElem?_cons_succ, Nat.zero_add, add_none]
        refine req_mk (by omega) (req_mk (by omega) ?_)
        rw [wrap1 (by omega)]
        obtain ⟨j6, v1, v2⟩ := putS1 (w := w) (most := most) (last := last) (fr := new ++ fr) (r' := r2) (o := 6) (v := i64 ((r.q.rd + 1 : Nat) : Int)) hg5 H5 hi5 hro rfl rfl (by omega)
          (G := fun σ57 => K (.tuple ⟨[u32 c, .bool true, i64 0]⟩) σ57) (fun σ7 g7 hg7 hF7 hFF7 hS7 H7 => by
            refine hK _ c hat hrd hc σ7 ⟨g7, hg7, hF7.trans hF5, ?_, H7.sep (fun a => by simp only [cnt_app, cnt_cons, List.append_assoc]; omega)⟩
            show g7.S.map RQ.q = _
            rw [hS7, hS5, List.set_set, List.map_set]
            exact setS_at ok.sn (find_mapS hi) rfl)
        rw [u1] at v1
        cases v1
        exact v2)
    rw [s1] at t1
    cases t1
    exact t2
  simp only [ldc_eq (H.at 0 rfl), tL_ok_eq hg.s.no, pSome_some, List.getElem?_cons_zero, List.getElem?_cons_succ, Nat.zero_add]
  refine req_mk (by omega) (req_mk (by omega) ?_)
  simp only [s1, sz94, Int.toNat_natCast, ldc_eq (H.g s3), e3, RQ.cells, tI_int, pSome_some, List.getElem?_cons_zero, List.getElem?_cons_succ, Nat.zero_add, add_none]
  refine bne_mk (fun h2 => ?_) (fun h2 => go _ ?_)
  · refine req_mk (by omega) (req_mk (by omega) ?_)
    refine go _ ?_
    unfold reads
    have : (r.q.mode == 2) = false := by simpa using h2
    rw [this, Bool.false_or]
    rfl
  · unfold reads
    rw [h2]; rfl)
end
end Go.AI
end
section
set_option linter.unusedSimpArgs false
set_option linter.unusedVariables false
set_option maxRecDepth 10000
/- The reference: Line, Seek, Close; no condition but those that each names. -/
namespace Go.Shelf
theorem reads_rdS (x : Sm) (k : Nat) : reads (rdS x k) = reads x := rfl
theorem charsOf_rdS (F : List Fi) (x : Sm) (k : Nat) : charsOf F (rdS x k) = charsOf F x := rfl
theorem rdS_rdS (x : Sm) (j k : Nat) : rdS (rdS x j) k = rdS x (j + k) := by
  unfold rdS
  simp only [Nat.add_assoc]
theorem rdS_zero (x : Sm) : rdS x 0 = x := rfl
theorem seekTo_eq {base sz p : Int} (h0 : 0 ≤ base) (h1 : base ≤ sz) : seekTo base sz p = min (max (base + max (-sz) (min p sz)) 0) sz := by
  unfold seekTo
  omega
theorem seekTo_in {base sz p : Int} (h0 : 0 ≤ base) (h1 : base ≤ sz) : 0 ≤ seekTo base sz p ∧ seekTo base sz p ≤ sz := by
  unfold seekTo
  omega
theorem delS_at : ∀ {S : List Sm} {i : Nat} {x : Sm}, (S.Pairwise fun x y => x.n < y.n) → S[i]? = some x → S.take i ++ S.drop (i + 1) = delS x.n S := by
  intro S i x hs h
  have hlt := (List.getElem?_eq_some_iff.1 h).1
  have e : S = S.take i ++ x :: S.drop (i + 1) := by
    have := (List.getElem?_eq_some_iff.1 h).2
    rw [← this, ← List.drop_eq_getElem_cons hlt, List.take_append_drop]
  have hs' := hs
  rw [e] at hs'
  obtain ⟨_, q2, q3⟩ := List.pairwise_append.1 hs'
  have a1 : (S.take i).filter (fun y => !(y.n == x.n)) = S.take i := List.filter_eq_self.2 fun y hy => by
    have := q3 y hy x (by simp)
    have : (y.n == x.n) = false := by simp; omega
    rw [this]; rfl
  have a2 : (S.drop (i + 1)).filter (fun y => !(y.n == x.n)) = S.drop (i + 1) := List.filter_eq_self.2 fun y hy => by
    have := (List.pairwise_cons.1 q2).1 y hy
    have : (y.n == x.n) = false := by simp; omega
    rw [this]; rfl
  unfold delS
  conv => rhs; rw [e, List.filter_append, List.filter_cons, a1, a2]
  simp
end Go.Shelf
namespace Go.AI
open Go.Proofs Go.Shelf
section
variable {σ : AS} {K : Value → AS → Prop} {fr : List (Nat × AObj)} {w k B : Nat} {g : RG} {most last n mode : Int} {nm : List UInt8} {F : List Fi} {S : List Sm} {l : List Int} {a : Option Addr} {wd : Bool}
theorem c40 {mx : Int} (hS : RSt w most last F S fr σ) (ok : OkD F S B) (hB : B ≤ 1073741824)
    (hN : atS S n = none → ∀ σ', RSt w most last F S fr σ' → K (.tuple ⟨[.slice none 0 0, i64 5]⟩) σ')
    (hE : ∀ x, atS S n = some x → reads x = false → ∀ σ', RSt w most last F S fr σ' → K (.tuple ⟨[.slice none 0 0, i64 1]⟩) σ')
    (hK : ∀ x, atS S n = some x → reads x = true → ∀ σ' a' e' rows, SlC 1 a' e' (cellsU (lineOf mx.toNat ((charsOf F x).drop x.pl))) rows → RSt w most last F (setS (rdS x (lineOf mx.toNat ((charsOf F x).drop x.pl)).length) S) (rows ++ fr) σ' →
      K (.tuple ⟨[.slice a' (lineOf mx.toNat ((charsOf F x).drop x.pl)).length e', i64 0]⟩) σ') : Tri Tryz.prog 40 [ptr w, i64 n, i64 mx] σ K := tri_in (by
  rw [s40]
  have hS0 := hS
  obtain ⟨g, hg, rfl, rfl, H⟩ := hS
  have lS : g.S.length = g.Sm.length := by simp
  have sl := ok.slen
  have R : RIn w g most last ((w, g.O most last) :: (g.R ++ fr)) := RIn.of hg
  refine c62 H R (by omega) (fun h => ?_) (fun i r hi hn hat => ?_)
  · rw [tI_int]
    exact bmd_mk (fun _ => hN h σ hS0) (fun h => absurd (by decide) h)
  rw [tI_int]
  refine bmd_mk (fun h => by omega) (fun _ => ?_)
  have hlt := (List.getElem?_eq_some_iff.1 hi).1
  have hmem : r.q ∈ g.Sm := List.mem_of_getElem? (find_mapS hi)
  obtain ⟨js, s1, s2, s3, s4, s5, s6⟩ := R.sel hi
  have e3 := s4 3 (by omega)
  have hcl := chars_le ok hmem
  have hplx := ok.pl _ hmem
  generalize hcs : charsOf g.Fi r.q = cs at hcl hplx
  have go : ∀ b, b = !reads r.q → JoinS (jn Tryz.prog hintsS (Tri Tryz.prog) 40 [true, true, true, true, false] [] K) [(0, some (ptr w)), (1, some (i64 n)), (2, some (i64 mx)), (8, some (.slice none 0 0)), (37, some (.bool b))] σ := by
    rintro b rfl
    refine ⟨?_⟩
    rw [s40j]
    refine bnot_mk (fun h => hE _ hat h σ hS0) (fun hrd => ?_)
    refine aloop (fun (ys : List Int) rg σ' => lineOf mx.toNat (cs.drop r.q.pl) = ys ++ lineOf (mx.toNat - ys.length) (cs.drop (r.q.pl + ys.length)) ∧ ys.length ≤ mx.toNat ∧ r.q.pl + ys.length ≤ cs.length ∧ (∃ a' e' rows, SlC 1 a' e' (cellsU ys) rows ∧ RSt w most last g.Fi (setS (rdS r.q ys.length) g.Sm) (rows ++ fr) σ' ∧
      rg = [(0, some (ptr w)), (1, some (i64 n)), (2, some (i64 mx)), (8, some (.slice a' ys.length e'))])) (fun ys => mx.toNat - ys.length) ?_ (a := [])
      ⟨by simp, Nat.zero_le _, by simpa using hplx, none, 0, [], SlC.nil 0, by rw [List.length_nil, rdS_zero, setS_self (n := n) ok.sn hmem]; exact hS0, rfl⟩
    rintro ys rg σ1 Y hY ⟨hl, hle, hpl, a', e', rows, hs, S1, rfl⟩
    have done : ∀ {σ2 : AS} {a2 : Option Addr} {e2 : Nat} {rows2 : List (Nat × AObj)} {zs : List Int}, lineOf mx.toNat (cs.drop r.q.pl) = zs → SlC 1 a2 e2 (cellsU zs) rows2 → RSt w most last g.Fi (setS (rdS r.q zs.length) g.Sm) (rows2 ++ fr) σ2 → K (.tuple ⟨[.slice a2 zs.length e2, i64 0]⟩) σ2 := by
      rintro σ2 a2 e2 rows2 zs rfl hs2 S2
      have := hK _ hat hrd σ2 a2 e2 rows2
      rw [hcs] at this
      exact this hs2 S2
    rw [s40l]
    refine bmd_mk (fun h => ?_) (fun h => ?_)
    · have okd := ok.rdS (k := ys.length) hmem (by rw [hcs]; exact hpl)
      have hat2 : atS (setS (rdS r.q ys.length) g.Sm) n = some (rdS r.q ys.length) := atS_setS hat rfl
      refine c38 S1 okd (by omega) (fun h => by rw [hat2] at h; cases h) (fun x hx hr => ?_) (fun x hx hr hz σ2 S2 => ?_) (fun x c hx hr hc σ2 S2 => ?_)
      · rw [hat2] at hx; cases hx
        rw [reads_rdS, hrd] at hr; cases hr
      · rw [hat2] at hx; cases hx
        rw [charsOf_rdS, hcs] at hz
        simp only [tI_int, tB_bool, tTup_tup, pSome_some, bm_true, List.getElem?_cons_zero, List.getElem?_cons_succ, Bool.not_false]
        refine done ?_ hs S2
        have hz : cs.length ≤ r.q.pl + ys.length := hz
        rw [hl, List.drop_eq_nil_of_le hz]
        cases (mx.toNat - ys.length) <;> simp [lineOf]
      · rw [hat2] at hx; cases hx
        rw [charsOf_rdS, hcs] at hc
        have hc : cs[r.q.pl + ys.length]? = some c := hc
        have hlt2 := (List.getElem?_eq_some_iff.1 hc).1
        have hdrop : cs.drop (r.q.pl + ys.length) = c :: cs.drop (r.q.pl + ys.length + 1) := by
          rw [List.drop_eq_getElem_cons hlt2]
          rw [(List.getElem?_eq_some_iff.1 hc).2]
        obtain ⟨q, hq⟩ : ∃ q, mx.toNat - ys.length = q + 1 := ⟨mx.toNat - ys.length - 1, by omega⟩
        rw [hq, hdrop] at hl
        simp only [tI_int, tB_bool, tTup_tup, pSome_some, bm_false, List.getElem?_cons_zero, List.getElem?_cons_succ, Bool.not_true]
        rw [setS_setS g.Sm (x := rdS r.q ys.length) (y := rdS (rdS r.q ys.length) 1) rfl, rdS_rdS] at S2
        obtain ⟨g2, hg2, hF2, hS2, H2⟩ := S2
        rw [sz54]
        refine pushC (X := (w, g2.O most last) :: (g2.R ++ fr)) hs (H2.sep (fun a => by simp only [cnt_app, cnt_cons, List.append_assoc]; omega)) (by simp) rfl (by omega) (by omega) fun a3 σ3 rows3 hs3 H3 => ?_
        have e8 : cellsU ys ++ [u32 c] = cellsU (ys ++ [c]) := by simp
        rw [e8] at hs3
        have el : (ys ++ [c]).length = ys.length + 1 := by simp
        have S3 : RSt w most last g.Fi (setS (rdS r.q (ys ++ [c]).length) g.Sm) (rows3 ++ fr) σ3 := ⟨g2, hg2, hF2, by rw [el]; exact hS2, H3.sep (fun a => by simp only [cnt_app, cnt_cons, List.append_assoc]; omega)⟩
        refine beq_mk (fun h10 => ?_) (fun h10 => ?_)
        · have := done (zs := ys ++ [c]) (by rw [hl]; simp [lineOf, h10]) hs3 S3
          rw [el] at this
          exact this
        · refine hY (ys ++ [c]) _ _ (by rw [el]; omega) ⟨?_, by rw [el]; omega, by rw [el]; omega, a3, 1, rows3, hs3, S3, by rw [el]⟩
          rw [hl, el, show mx.toNat - (ys.length + 1) = q by omega]
          simp [lineOf, h10, Nat.add_assoc]
    · refine done ?_ hs S1
      rw [hl, show mx.toNat - ys.length = 0 by omega]
      simp [lineOf]
  simp only [ldc_eq (H.at 0 rfl), tL_ok_eq hg.s.no, pSome_some, List.getElem?_cons_zero, List.getElem?_cons_succ, Nat.zero_add]
  refine req_mk (by omega) (req_mk (by omega) ?_)
  simp only [s1, sz94, Int.toNat_natCast, ldc_eq (H.g s3), e3, RQ.cells, tI_int, pSome_some, List.getElem?_cons_zero, List.getElem?_cons_succ, Nat.zero_add, add_none]
  refine bne_mk (fun h2 => ?_) (fun h2 => go _ ?_)
  · refine req_mk (by omega) (req_mk (by omega) ?_)
    refine go _ ?_
    unfold reads
    have : (r.q.mode == 2) = false := by simpa using h2
    rw [this, Bool.false_or]
    rfl
  · unfold reads
    rw [h2]; rfl)
theorem c41 {p q : Int} (hS : RSt w most last F S fr σ) (ok : OkD F S B) (hp : -9223372036854775808 ≤ p ∧ p ≤ 9223372036854775807)
    (hN : atS S n = none → ∀ σ', RSt w most last F S fr σ' → K (i64 5) σ')
    (hE : ∀ x, atS S n = some x → seekE q ≠ 0 → ∀ σ', RSt w most last F S fr σ' → K (i64 1) σ')
    (hK : ∀ x, atS S n = some x → seekE q = 0 → ∀ σ', RSt w most last F (setS (seekS F x p q) S) fr σ' → K (i64 0) σ') : Tri Tryz.prog 41 [ptr w, i64 n, i64 p, i64 q] σ K := tri_in (by
  rw [s41]
  have hS0 := hS
  obtain ⟨g, hg, rfl, rfl, H⟩ := hS
  have lS : g.S.length = g.Sm.length := by simp
  have sl := ok.slen
  have R : RIn w g most last ((w, g.O most last) :: (g.R ++ fr)) := RIn.of hg
  refine c62 H R (by omega) (fun h => ?_) (fun i r hi hn hat => ?_)
  · rw [tI_int]
    exact bmd_mk (fun _ => hN h σ hS0) (fun h => absurd (by decide) h)
  rw [tI_int]
  refine bmd_mk (fun h => by omega) (fun _ => ?_)
  refine bmd_mk (fun h => hE _ hat (by unfold seekE; rw [if_pos (.inl h)]; decide) σ hS0) (fun h0 => ?_)
  refine bmd_mk (fun h => hE _ hat (by unfold seekE; rw [if_pos (.inr h)]; decide) σ hS0) (fun h1 => ?_)
  have hq0 : seekE q = 0 := by unfold seekE; rw [if_neg (by omega)]
  have hlt := (List.getElem?_eq_some_iff.1 hi).1
  have hmem : r.q ∈ g.Sm := List.mem_of_getElem? (find_mapS hi)
  obtain ⟨js, s1, s2, s3, s4, s5, s6⟩ := R.sel hi
  have hro : r.ok := hg.so r (List.mem_of_getElem? hi)
  have hno8 : nilOr (some ⟨js, 0, none⟩) g.se 8 = true := by rw [← s1]; exact hg.s.no
  simp only [ldc_eq (H.at 0 rfl), tL_ok_eq hg.s.no, pSome_some, List.getElem?_cons_zero, List.getElem?_cons_succ, Nat.zero_add]
  refine req_mk (by omega) (req_mk (by omega) ?_)
  simp only [s1, sz94, Int.toNat_natCast, pSome_some, Nat.zero_add, add_none]
  rw [lds_eq (H.g s3) _ _ s5, s6]
  simp only [RQ.cells, tL_ok_eq hro.no, tI_int, tB_bool, tS_str, tCons_cons, tNil_nil]
  refine c59' hg H ok hi fun σ1 a' e' rows' new hs hm H1 => ?_
  refine tL_ok hs.no ?_
  have hcl := chars_le ok hmem
  have hplx := ok.pl _ hmem
  generalize hcs : charsOf g.Fi r.q = cs at hcl hplx
  have R1 : RIn w g most last ((w, g.O most last) :: (g.R ++ (new ++ fr))) := RIn.of hg
  obtain ⟨js', s1', s2', s3', s4', s5', s6'⟩ := R1.sel hi
  rw [s1] at s1'
  cases s1'
  have e5 := s4' 5 (by omega)
  -- the end
  have last_ : ∀ base p2 : Int, (0 ≤ base ∧ base ≤ cs.length) → p2 = max (-(cs.length : Int)) (min p cs.length) → seekTo base cs.length p = seekTo (if q = 0 then 0 else if q = 1 then r.q.pl else cs.length) cs.length p →
      JoinS (jn Tryz.prog hintsS (Tri Tryz.prog) 41 [true, true, true, true, true, true, true, true, true] [] K) [(0, some (ptr w)), (2, some (i64 p2)), (9, some (i64 i)), (10, some (i64 cs.length)), (11, some (i64 base))] σ1 := by
    rintro base p2 hb hp2 hsk
    refine ⟨?_⟩
    rw [s41j3]
    simp only [ldc_eq (H1.at 0 rfl), tL_ok_eq hg.s.no, pSome_some, List.getElem?_cons_zero, List.getElem?_cons_succ, Nat.zero_add]
    refine req_mk (by omega) (req_mk (by omega) ?_)
    have eq_ := seekTo_eq (base := base) (sz := cs.length) (p := p) hb.1 hb.2
    have in_ := seekTo_in (base := base) (sz := cs.length) (p := p) hb.1 hb.2
    have ev : imin (imax (IntKind.wrap .i64 (base + p2)) 0) cs.length = ((seekTo base cs.length p).toNat : Int) := by
      rw [wrap64 (by omega) (by omega)]
      have : ((seekTo base cs.length p).toNat : Int) = seekTo base cs.length p := by omega
      rw [this, eq_, hp2]
      unfold imin imax
      split <;> split <;> omega
    rw [ev]
    let r1 : RQ := ⟨{ r.q with pl := (seekTo base cs.length p).toNat }, r.a, r.e, r.rows⟩
    obtain ⟨j2, t1, t2⟩ := putS1 (w := w) (most := most) (last := last) (fr := new ++ fr) (r' := r1) (o := 5) (v := i64 ((seekTo base cs.length p).toNat : Int)) hg H1 hi hro rfl rfl (by omega)
      (G := fun σ3 => K (i64 0) σ3) (fun σ5 g5 hg5 hF5 hFF5 hS5 H5 => by
        refine hK _ hat hq0 σ5 ⟨g5, hg5, hF5, ?_, H5.sep (fun a => by simp only [cnt_app, cnt_cons, List.append_assoc]; omega)⟩
        show g5.S.map RQ.q = _
        rw [hS5, List.map_set]
        have : seekS g.Fi r.q p q = r1.q := by
          unfold seekS
          rw [hcs, ← hsk]
        rw [this]
        exact setS_at ok.sn (find_mapS hi) rfl)
    rw [s1] at t1
    cases t1
    simp only [s1, sz94, Int.toNat_natCast, pSome_some, Nat.zero_add, add_none]
    exact t2
  have mid : ∀ base : Int, (0 ≤ base ∧ base ≤ cs.length) → seekTo base cs.length p = seekTo (if q = 0 then 0 else if q = 1 then r.q.pl else cs.length) cs.length p →
      JoinS (jn Tryz.prog hintsS (Tri Tryz.prog) 41 [true, true, true, true, true, true, true] [] K) [(0, some (ptr w)), (2, some (i64 p)), (9, some (i64 i)), (10, some (i64 cs.length)), (11, some (i64 base))] σ1 := by
    intro base hb hsk
    refine ⟨?_⟩
    rw [s41j1]
    have second : ∀ p1 : Int, p1 = min p cs.length → JoinS (jn Tryz.prog hintsS (Tri Tryz.prog) 41 [true, true, true, true, true, true, true, true] [] K) [(0, some (ptr w)), (2, some (i64 p1)), (9, some (i64 i)), (10, some (i64 cs.length)), (11, some (i64 base))] σ1 := by
      intro p1 hp1
      refine ⟨?_⟩
      rw [s41j2, wrap64 (n := 0 - (cs.length : Int)) (by omega) (by omega)]
      refine bmd_mk (fun h => last_ base _ hb (by omega) hsk) (fun h => last_ base _ hb (by omega) hsk)
    exact bmd_mk (fun h => second _ (by omega)) (fun h => second _ (by omega))
  have first : ∀ base : Int, (q = 1 → base = r.q.pl) → (q ≠ 1 → base = 0) → JoinS (jn Tryz.prog hintsS (Tri Tryz.prog) 41 [true, true, true, true, true, true] [] K) [(0, some (ptr w)), (2, some (i64 p)), (3, some (i64 q)), (9, some (i64 i)), (10, some (i64 cs.length)), (11, some (i64 base))] σ1 := by
    intro base hb1 hb0
    refine ⟨?_⟩
    rw [s41j]
    refine beq_mk (fun h2 => mid _ ⟨by omega, by omega⟩ ?_) (fun h2 => mid _ ?_ ?_)
    · rw [if_neg (by omega), if_neg (by omega)]
    · by_cases h : q = 1
      · rw [hb1 h]; omega
      · rw [hb0 h]; omega
    · by_cases h : q = 1
      · rw [hb1 h, if_neg (by omega), if_pos h]
      · rw [hb0 h, if_pos (by omega)]
  refine beq_mk (fun h2 => ?_) (fun h2 => first 0 (fun h => absurd h h2) (fun _ => rfl))
  simp only [ldc_eq (H1.at 0 rfl), s1, tL_ok_eq hno8, pSome_some, List.getElem?_cons_zero, List.getElem?_cons_succ, Nat.zero_add, add_none]
  refine req_mk (by omega) (req_mk (by omega) ?_)
  simp only [ldc_eq (H1.g s3'), e5, RQ.cells, tI_int, pSome_some, List.getElem?_cons_zero, List.getElem?_cons_succ]
  exact first _ (fun _ => rfl) (fun h => absurd h2 h))
theorem c42 (hS : RSt w most last F S fr σ) (ok : OkD F S B)
    (hN : atS S n = none → ∀ σ', RSt w most last F S fr σ' → K (.tuple ⟨[i64 0, i64 0, .slice none 0 0, i64 5]⟩) σ')
    (hK : ∀ x, atS S n = some x → ∀ σ' a' rows, SlC 1 a' 1 (cellsU x.l) rows → RSt w most last F (delS n S) (rows ++ fr) σ' → K (.tuple ⟨[i64 x.rd, i64 x.wr, .slice a' x.l.length 1, i64 0]⟩) σ') : Tri Tryz.prog 42 [ptr w, i64 n] σ K := tri_in (by
  rw [s42]
  have hS0 := hS
  obtain ⟨g, hg, rfl, rfl, H⟩ := hS
  have lS : g.S.length = g.Sm.length := by simp
  have sl := ok.slen
  have R : RIn w g most last ((w, g.O most last) :: (g.R ++ fr)) := RIn.of hg
  refine c62 H R (by omega) (fun h => ?_) (fun j r hi hn hat => ?_)
  · rw [tI_int]
    exact bmd_mk (fun _ => hN h σ hS0) (fun h => absurd (by decide) h)
  rw [tI_int]
  refine bmd_mk (fun h => by omega) (fun _ => ?_)
  have hlt := (List.getElem?_eq_some_iff.1 hi).1
  have hmem : r.q ∈ g.Sm := List.mem_of_getElem? (find_mapS hi)
  obtain ⟨jj, s1, s2, s3, s4, s5, s6⟩ := R.sel hi
  have hro : r.ok := hg.so r (List.mem_of_getElem? hi)
  simp only [ldc_eq (H.at 0 rfl), tL_ok_eq hg.s.no, true_and, pSome_some, List.getElem?_cons_zero, List.getElem?_cons_succ, Nat.zero_add]
  refine req_mk (by omega) (req_mk (by omega) ?_)
  simp only [s1, sz94, Int.toNat_natCast, pSome_some, Nat.zero_add, add_none]
  rw [lds_eq (H.g s3) _ _ s5, s6]
  simp only [RQ.cells, tL_ok_eq hro.no, tI_int, tB_bool, tS_str, tCons_cons, tNil_nil]
  refine newAt_mk H fun i31 σ1 H1 => ?_
  refine puts0 H1 rfl (by simp) fun σ2 H2 => ?_
  have H3 : Has σ2 ((i31, .row .plain r.cells) :: ((w, g.O most last) :: (g.R ++ fr))) := by
    refine H2.sep fun a => ?_
    simp only [cnt_app, cnt_cons, List.append_assoc, List.nil_append, i64, List.take_zero, List.drop_succ_cons, List.length_cons, List.length_nil, List.drop_nil, Nat.zero_add, List.append_nil, RQ.cells]
    omega
  have hno8 : nilOr (some ⟨jj, 0, none⟩) g.se 8 = true := by rw [← s1]; exact hg.s.no
  simp only [ldc_eq (H3.at 1 rfl), s1, tL_ok_eq hno8, pSome_some, List.getElem?_cons_zero, List.getElem?_cons_succ, Nat.zero_add, add_none, Option.map_some]
  rw [wrap1 (by omega)]
  refine req_mk (by omega) (cap_mk (by omega) (req_mk (by omega) (req_mk (by omega) (cap_mk (Int.le_refl _) ?_))))
  refine newAt_mk H3 fun i4 σ5 H5 => ?_
  have hw5 := H5.at 2 rfl
  simp only [ldc_eq hw5, s1, tL_ok_eq hno8, true_and, pSome_some, List.getElem?_cons_zero, List.getElem?_cons_succ]
  have e0 : ((j : Int) - 0).toNat = j := by omega
  have e1 : (((g.S.length : Nat) : Int) - ((j + 1 : Nat) : Int)).toNat = g.S.length - (j + 1) := by omega
  have hsf := hg.s.at (p := 0) (by rw [fm_len qcl]; omega)
  obtain ⟨j9, t1, t2, t3⟩ := hsf
  rw [s1] at t1
  cases t1
  have rowm : (jj, AObj.row .rw (g.S.flatMap RQ.cells)) ∈ g.R := by unfold RG.R; rw [t3]; simp
  simp only [Int.toNat_zero, Nat.zero_mul, e0]
  refine req_mk (by omega) (req_mk (by omega) (cap_mk (Int.le_refl _) (req_mk (by omega) (cap_mk (by omega) ?_))))
  unfold srcCells
  simp only
  have f1 : ((g.S.flatMap RQ.cells).drop 0).take (j * 8) = (g.S.take j).flatMap RQ.cells := by
    rw [List.drop_zero]
    conv => lhs; rw [← List.take_append_drop j g.S, List.flatMap_append]
    exact List.take_left' (by rw [fm_len qcl, List.length_take]; omega)
  have f2 : ((g.S.flatMap RQ.cells).drop ((j + 1) * 8)).take ((g.S.length - (j + 1)) * 8) = (g.S.drop (j + 1)).flatMap RQ.cells := by
    have : (g.S.flatMap RQ.cells).drop ((j + 1) * 8) = (g.S.drop (j + 1)).flatMap RQ.cells := by
      conv => lhs; rw [← List.take_append_drop (j + 1) g.S, List.flatMap_append]
      exact List.drop_left' (by rw [fm_len qcl, List.length_take]; omega)
    rw [this]
    exact List.take_of_length_le (by rw [fm_len qcl, List.length_drop]; omega)
  refine req_mk trivial (ldsm (o := 0) (n := j * 8) H5 (List.mem_cons_of_mem _ (List.mem_cons_of_mem _ (List.mem_cons_of_mem _ (List.mem_append_left _ rowm)))) (by rw [fm_len qcl]; omega) ?_)
  rw [f1]
  refine appC (sz := 8) (n := 0) (m := j) (by_ := 88) (cells := []) (e := 8) (rows := [(i4, .row .rw [])]) (X := (i31, .row .plain r.cells) :: ((w, g.O most last) :: (g.R ++ fr))) SlC.row H5 rfl (by rw [fm_len qcl, List.length_take]; omega) (by omega) (by omega) fun a' σ6 rows' hs' H6 => ?_
  rw [List.nil_append] at hs'
  have H7 : Has σ6 ((w, g.O most last) :: (g.R ++ (rows' ++ ((i31, .row .plain r.cells) :: fr)))) := H6.sep (fun a => by simp only [cnt_app, cnt_cons, List.append_assoc]; omega)
  simp only [ldc_eq (H7.at 0 rfl), s1, tL_ok_eq hno8, Int.toNat_natCast, e1, true_and, pSome_some, List.getElem?_cons_zero, List.getElem?_cons_succ, Nat.zero_add]
  refine req_mk (by omega) (req_mk (by omega) (cap_mk (Int.le_refl _) ?_))
  refine req_mk trivial (ldsm (n := (g.S.length - (j + 1)) * 8) H7 (List.mem_cons_of_mem _ (List.mem_append_left _ rowm)) (by rw [fm_len qcl]; omega) ?_)
  rw [f2]
  refine appC (sz := 8) (n := j) (m := g.S.length - (j + 1)) (by_ := 88) (rows := rows') (X := (i31, .row .plain r.cells) :: ((w, g.O most last) :: (g.R ++ fr))) hs' H6 (by rw [fm_len qcl, List.length_take]; omega) (by rw [fm_len qcl, List.length_drop]) (by omega) (by omega) fun a2 σ8 rows2 hs2 H8 => ?_
  have H9 : Has σ8 ((w, g.O most last) :: (rows2 ++ (g.R ++ ((i31, .row .plain r.cells) :: fr)))) := H8.sep (fun a => by simp only [cnt_app, cnt_cons, List.append_assoc]; omega)
  refine put0 H9 rfl (by simp) fun σ9 H10 => ?_
  have hx : σ9 i31 = some (.row .plain r.cells) := H10.g (by simp)
  simp only [ldc_eq hx, RQ.cells, tI_int, tL_sl, pSome_some, List.getElem?_cons_zero, List.getElem?_cons_succ]
  refine hK _ hat σ9 r.a r.rows hro ?_
  refine ⟨⟨g.fa, g.fe, g.fr, g.F, a2, 8, rows2, g.S.take j ++ g.S.drop (j + 1)⟩, ⟨hg.f, by rw [List.flatMap_append]; exact hs2, hg.fo, fun q hq => ?_⟩, rfl, ?_, ?_⟩
  · rcases List.mem_append.1 hq with h | h
    · exact hg.so q (List.mem_of_mem_take h)
    · exact hg.so q (List.mem_of_mem_drop h)
  · show (g.S.take j ++ g.S.drop (j + 1)).map RQ.q = _
    rw [List.map_append, List.map_take, List.map_drop]
    have := delS_at ok.sn (find_mapS hi)
    rw [hn] at this
    exact this
  · have el : (g.S.take j ++ g.S.drop (j + 1)).length = j + (g.S.length - (j + 1)) := by rw [List.length_append, List.length_take, List.length_drop]; omega
    have hsp : ∀ a, cnt a (g.S.flatMap RQ.rows) = cnt a ((g.S.take j).flatMap RQ.rows) + (cnt a r.rows + cnt a ((g.S.drop (j + 1)).flatMap RQ.rows)) := by
      intro a
      have e : g.S = g.S.take j ++ r :: g.S.drop (j + 1) := by
        have := (List.getElem?_eq_some_iff.1 hi).2
        rw [← this, ← List.drop_eq_getElem_cons hlt, List.take_append_drop]
      conv => lhs; rw [e, List.flatMap_append, List.flatMap_cons, cnt_app, cnt_app]
    refine H10.sep fun a => ?_
    simp only [RG.R, RG.O, refO, el, hsp a, s1, cnt_app, cnt_cons, List.flatMap_append, List.append_assoc, i64, List.set_cons_zero, List.set_cons_succ]
    omega)
end
end Go.AI
end
section
/- Words and bytes: what word.Be and word.Put of four bytes do. -/
set_option maxRecDepth 4000
set_option linter.unusedVariables false
set_option linter.unusedSimpArgs false
namespace Go.AI
open Go.Proofs Go.Shelf
theorem flat_rep (z : Value) : ∀ m, (List.replicate m [z]).flatten = List.replicate m z
  | 0 => rfl
  | m + 1 => by simp [List.replicate_succ, flat_rep z m]
theorem set_rep {A : List Value} {z v : Value} {n i : Nat} (h : A.length = i) : (A ++ List.replicate (n + 1) z).set i v = A ++ [v] ++ List.replicate n z := by
  subst h
  rw [List.set_append_right _ _ (Nat.le_refl _)]
  simp [List.replicate_succ]
theorem ishr8 (x : Int) : ishr .u32 x 8 = x / 256 := Int.fdiv_eq_ediv_of_nonneg x (b := 256) (by omega)
theorem wrap8 (x : Int) : IntKind.wrap .u8 x = x % 256 := by
  simp [IntKind.wrap, IntKind.bits, IntKind.signed]
theorem ishl8 {x : Int} (h0 : 0 ≤ x) (h1 : x < 16777216) : ishl .u32 x 8 = x * 256 := by
  simp [ishl, IntKind.bits, IntKind.wrap, IntKind.signed]
  omega
theorem ior8 {q b : Int} (h0 : 0 ≤ q) (h1 : q < 16777216) (h2 : 0 ≤ b) (h3 : b < 256) : ior .u32 (q * 256) b = q * 256 + b := by
  obtain ⟨q, rfl⟩ := Int.eq_ofNat_of_zero_le h0
  obtain ⟨b, rfl⟩ := Int.eq_ofNat_of_zero_le h2
  unfold ior
  have e : ((BitVec.ofInt IntKind.u32.bits ((q : Int) * 256) ||| BitVec.ofInt IntKind.u32.bits (b : Int)).toNat) = q * 256 + b := by
    have e1 : ((q : Int) * 256) = ((q * 256 : Nat) : Int) := by omega
    rw [e1, BitVec.ofInt_natCast, BitVec.ofInt_natCast, BitVec.toNat_or, BitVec.toNat_ofNat, BitVec.toNat_ofNat]
    have hb : IntKind.u32.bits = 32 := rfl
    rw [hb, Nat.mod_eq_of_lt (by omega), Nat.mod_eq_of_lt (by omega)]
    have := Nat.two_pow_add_eq_or_of_lt (i := 8) (b := b) (by omega) q
    rw [Nat.mul_comm q 256]
    exact this.symm
  rw [e, Go.IntWalk.u32_in _ (by omega)]
  omega
theorem beV_by4 {x : Int} (h0 : 0 ≤ x) (h1 : x ≤ 4294967295) : beV (by4 x) = x := by
  simp only [beV, by4, List.foldl]
  omega
section
variable {σ : AS} {K : Value → AS → Prop}
theorem c132 (hK : K (.bool true) σ) : Tri Tryz.prog 132 [i64 4] σ K := tri_in (by
  rw [s132]
  refine bm_mk (fun h => by simp at h) (fun _ => bm_mk (fun h => by simp at h) (fun _ => ?_))
  simpa using hK)
/-- A slice of bytes reads so. -/
def Rb (σ : AS) (a : Option Addr) (o : Nat) (l : List Int) : Prop := l = [] ∨ ∃ r q cs, a = some ⟨r, o, none⟩ ∧ σ r = some (.row q cs) ∧ ∀ (i : Nat) v, l[i]? = some v → cs[o + i]? = some (.int .u8 v)
def beI (a : Option Addr) (l : List Int) (σ0 : AS) (i : Nat) (r : Regs) (σ : AS) : Prop :=
  i ≤ 4 ∧ σ = σ0 ∧ r = [(8, some (u32 (beV (l.take i)))), (37, some (.slice a 4 1)), (38, some (i64 4)), (39, some (i64 i))]
theorem beV_take {l : List Int} (hb : ∀ c ∈ l, 0 ≤ c ∧ c < 256) : ∀ i, i ≤ 4 → 0 ≤ beV (l.take i) ∧ beV (l.take i) < 256 ^ i
  | 0, _ => by simp [beV]
  | i + 1, h => by
    have ih := beV_take hb i (by omega)
    cases hv : l[i]? with
    | none =>
      rw [List.take_add_one, hv]
      simp only [Option.toList, List.append_nil]
      refine ⟨ih.1, Int.lt_trans ih.2 ?_⟩
      exact Int.pow_lt_pow_of_lt (by omega) (by omega)
    | some v =>
      obtain ⟨g0, g1⟩ := hb v (List.mem_of_getElem? hv)
      rw [List.take_add_one, hv]
      simp only [Option.toList, beV, List.foldl_append, List.foldl_cons, List.foldl_nil]
      rw [← beV]
      have : (256 : Int) ^ (i + 1) = 256 ^ i * 256 := Int.pow_succ ..
      omega
theorem c130 {a : Option Addr} {l : List Int} {at_ : Nat} (hR : Rb σ a 0 l) (hb : ∀ c ∈ l, 0 ≤ c ∧ c < 256) (hm : l.length ≤ 1099511627776) (h4 : at_ + 4 ≤ l.length) (hK : K (.tuple ⟨[u32 (beV ((l.drop at_).take 4)), i64 0]⟩) σ) :
    Tri Tryz.prog 130 [.slice a l.length 1, i64 at_, i64 4] σ K := tri_in (by
  rw [s130]
  refine c132 ?_
  have e1 : ¬ (at_ : Int) < 0 := by omega
  have e2 : ¬ (at_ : Int) > (l.length : Int) := by omega
  have e3 : IntKind.wrap .i64 ((l.length : Int) - at_) = (l.length : Int) - at_ := wrap64 (by omega) (by omega)
  have e4 : ¬ (l.length : Int) - at_ < 4 := by omega
  have e5 : IntKind.wrap .i64 ((at_ : Int) + 4) = (at_ : Int) + 4 := wrap64 (by omega) (by omega)
  have e6 : ((at_ : Int) + 4 - at_).toNat = 4 := by omega
  have hz : szOf Tryz.prog 5 = 1 := by kernel_rfl
  rw [e3, e5, e6, hz]
  simp only [tB_bool, Bool.not_true, bm_false, e1, e2, e4, decide_false, Int.toNat_natCast, Nat.mul_one]
  refine req_mk (by omega) (req_mk (by omega) (cap_mk (by omega) ?_))
  have hne : l ≠ [] := fun e => by rw [e] at h4; simp at h4
  obtain ⟨r0, q, cs, rfl, g1, g2⟩ := hR.resolve_left hne
  simp only [Option.map, add_none, Nat.zero_add]
  have hb' : ∀ c ∈ l.drop at_, 0 ≤ c ∧ c < 256 := fun c hc => hb c (List.mem_of_mem_drop hc)
  refine aloop (beI (some ⟨r0, at_, none⟩) (l.drop at_) σ) (fun i => 4 - i) ?_ (a := 0) ⟨by omega, rfl, rfl⟩
  rintro i r σ1 X hX ⟨hi, rfl, rfl⟩
  rw [s130l]
  refine bm_mk (fun h => ?_) (fun h => ?_)
  · have h : i < 4 := by have := of_decide_eq_true h; omega
    obtain ⟨v, hv⟩ : ∃ v, (l.drop at_)[i]? = some v := ⟨(l.drop at_)[i]'(by simp; omega), by simp⟩
    obtain ⟨w0, w1⟩ := hb' v (List.mem_of_getElem? hv)
    have hc := g2 (at_ + i) v (by rw [List.getElem?_drop] at hv; exact hv)
    rw [Nat.zero_add] at hc
    refine req_mk (by omega) (req_mk (by omega) ?_)
    simp only [pSome_some, hz, add_none, Int.toNat_natCast, Nat.mul_one, ldc, AS.cell, g1, hc]
    simp only [tI_int]
    have ⟨t0, t1⟩ := beV_take hb' i (by omega)
    have t2 : beV ((l.drop at_).take i) < 16777216 := by
      have : i = 0 ∨ i = 1 ∨ i = 2 ∨ i = 3 := by omega
      rcases this with rfl | rfl | rfl | rfl
      · simp [beV]
      · have : (256 : Int) ^ 1 = 256 := by decide
        omega
      · have : (256 : Int) ^ 2 = 65536 := by decide
        omega
      · have : (256 : Int) ^ 3 = 16777216 := by decide
        omega
    rw [ishl8 t0 t2, Go.IntWalk.u32_in v (by omega), ior8 t0 t2 w0 w1, wrap64 (by omega) (by omega)]
    refine hX (i + 1) _ _ (by omega) ⟨h, rfl, ?_⟩
    have : beV ((l.drop at_).take (i + 1)) = beV ((l.drop at_).take i) * 256 + v := by
      rw [List.take_add_one, hv]
      simp [beV, List.foldl_append]
    rw [this]
    simp
  · have h : i = 4 := by have := of_decide_eq_false h; omega
    subst h
    exact hK)

def putI (j : Nat) (x : Int) (L : List (Nat × AObj)) (d : Nat) (r : Regs) (σ : AS) : Prop :=
  d ≤ 4 ∧ r = [(0, some (u32 (x / 256 ^ d))), (5, some (.slice (some ⟨j, 0, none⟩) 4 1)), (6, some (i64 (3 - d)))] ∧
    Has σ ((j, .row .rw (cells8 (List.replicate (4 - d) 0 ++ (by4 x).drop (4 - d)))) :: L)
theorem c131 {x : Int} {L : List (Nat × AObj)} (H : Has σ L) (h0 : 0 ≤ x) (h1 : x ≤ 4294967295) (hK : ∀ σ' j, Has σ' ((j, .row .rw (cells8 (by4 x))) :: L) → K (.slice (some ⟨j, 0, none⟩) 4 1) σ') :
    Tri Tryz.prog 131 [u32 x, i64 4] σ K := tri_in (by
  rw [s131]
  refine c132 ?_
  have hb : bytesOf Tryz.prog 5 = 1 := by kernel_rfl
  have hv : valCells (.int .u8 0) = [.int .u8 0] := by kernel_rfl
  rw [hb, hv, flat_rep]
  simp only [tB_bool, Bool.not_true, bm_false]
  refine req_mk (by omega) (req_mk (by omega) (req_mk (by omega) ?_))
  refine newAt_mk H fun j σ1 H1 => ?_
  have e3 : IntKind.wrap .i64 ((4 : Int) - 1) = 3 := rfl
  rw [e3]
  refine aloop (putI j x L) (fun d => 4 - d) ?_ (a := 0) ⟨by omega, by simp, by simpa [cells8, List.replicate, by4] using H1⟩
  rintro d r σ2 X hX ⟨hd, rfl, H2⟩
  rw [s131l]
  have hz : szOf Tryz.prog 5 = 1 := by kernel_rfl
  refine bm_mk (fun h => ?_) (fun h => ?_)
  · have h : d < 4 := by have := of_decide_eq_true h; omega
    refine req_mk (by omega) (req_mk (by omega) ?_)
    have ei : ((3 : Int) - d).toNat = 3 - d := by omega
    simp only [pSome_some, hz, add_none, ei, Nat.mul_one, Nat.zero_add, wrap8, ishr8]
    refine put1_mk H2 0 rfl rfl (by simp [by4]; omega) fun σ3 H3 => ?_
    rw [wrap64 (by omega) (by omega)]
    refine hX (d + 1) _ _ (by omega) ⟨h, ?_, ?_⟩
    · have e1 : x / 256 ^ d / 256 = x / 256 ^ (d + 1) := by
        have : d = 0 ∨ d = 1 ∨ d = 2 ∨ d = 3 := by omega
        rcases this with rfl | rfl | rfl | rfl <;> simp <;> omega
      have e2 : (3 : Int) - d - 1 = 3 - ((d + 1 : Nat) : Int) := by omega
      rw [e1, e2]
    · have : d = 0 ∨ d = 1 ∨ d = 2 ∨ d = 3 := by omega
      rcases this with rfl | rfl | rfl | rfl <;> simpa [cells8, by4, List.replicate] using H3
  · have h : d = 4 := by have := of_decide_eq_false h; omega
    subst h
    exact hK σ2 j (by simpa [by4] using H2))
end
end Go.AI
end
