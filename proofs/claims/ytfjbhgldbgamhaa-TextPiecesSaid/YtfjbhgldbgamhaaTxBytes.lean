/- Rows of bytes, a number's four bytes, two rows of numbers that are alike. -/
import Derived.Test.YtfjbhgldbgamhaaTxPlain
import Derived.Test.YtfjbhgldbgamhaaTxForm4
set_option maxRecDepth 4000
set_option linter.unusedVariables false
set_option linter.unusedSimpArgs false
namespace Go.AI
open Go.Proofs
abbrev row8 (j : Nat) (ys : List Int) (fr : List (Nat × AObj)) : List (Nat × AObj) := match ys with | [] => fr | _ => (j, .row .rw (cells8 ys)) :: fr
theorem row8_ne {j : Nat} {ys : List Int} {fr : List (Nat × AObj)} (h : ys ≠ []) : row8 j ys fr = (j, .row .rw (cells8 ys)) :: fr := by
  cases ys with
  | nil => exact absurd rfl h
  | cons c t => rfl
/-- Four bytes of a number, the highest first. -/
def by4 (x : Int) : List Int := [x / 16777216 % 256, x / 65536 % 256, x / 256 % 256, x % 256]
theorem beV_by4 {x : Int} (h0 : 0 ≤ x) (h1 : x ≤ 4294967295) : beV (by4 x) = x := by
  simp only [beV, by4, List.foldl]
  omega
theorem by4_byte {x : Int} : ∀ c ∈ by4 x, 0 ≤ c ∧ c < 256 := by
  intro c h
  simp only [by4, List.mem_cons, List.not_mem_nil, or_false] at h
  rcases h with rfl | rfl | rfl | rfl <;> omega
def flat4 : List Int → List Int
  | [] => []
  | c :: r => by4 c ++ flat4 r
theorem flat4_len : ∀ l : List Int, (flat4 l).length = 4 * l.length
  | [] => rfl
  | c :: r => by simp [flat4, by4, flat4_len r]; omega
theorem flat4_app : ∀ a b : List Int, flat4 (a ++ b) = flat4 a ++ flat4 b
  | [], b => rfl
  | c :: r, b => by simp [flat4, flat4_app r b]
theorem flat4_drop : ∀ (i : Nat) (l : List Int), (flat4 l).drop (4 * i) = flat4 (l.drop i)
  | 0, l => by simp
  | i + 1, [] => by simp [flat4]
  | i + 1, c :: r => by
    have : 4 * (i + 1) = (by4 c).length + 4 * i := by simp [by4]; omega
    rw [flat4, this, List.drop_append]
    simp [flat4_drop i r]
theorem flat4_byte : ∀ {l : List Int}, ∀ c ∈ flat4 l, 0 ≤ c ∧ c < 256
  | [], c, h => by cases h
  | d :: r, c, h => by
    unfold flat4 at h
    rcases List.mem_append.1 h with h | h
    · exact by4_byte c h
    · exact flat4_byte c h
section
variable {σ : AS} {K : Value → AS → Prop}
theorem lds_row {L : List (Nat × AObj)} {i : Nat} {k : RK} {cs : List Value} {n : Nat} {G : List Value → Prop} (H : Has σ L) (q : Nat) (e : L[q]? = some (i, .row k cs)) (hn : n = cs.length) (hG : G cs) : lds σ ⟨i, 0, none⟩ n G := by
  refine lds_mk H q e (by omega) ?_
  rw [List.drop_zero, List.take_of_length_le (by omega)]
  exact hG
/-- A slice of bytes, among what is known. -/
def In8 (a : Option Addr) (l : List Int) (L : List (Nat × AObj)) : Prop := l = [] ∨ ∃ r k, a = some ⟨r, 0, none⟩ ∧ (r, AObj.row k (cells8 l)) ∈ L
theorem In8.mono {a : Option Addr} {l : List Int} {L L' : List (Nat × AObj)} (h : In8 a l L) (hs : ∀ p ∈ L, p ∈ L') : In8 a l L' := h.imp id fun ⟨r, k, e, m⟩ => ⟨r, k, e, hs _ m⟩
theorem src8_mk {L : List (Nat × AObj)} {pa : Option Addr} {ms : List Int} {G : Nat → List Value → Prop} (H : Has σ L) (hin : In8 pa ms L) (hG : G ms.length (cells8 ms)) :
    srcCells σ 1 (some (.slice pa ms.length 1)) G := by
  unfold srcCells
  simp only
  by_cases hm : ms = []
  · subst hm
    cases pa with
    | none => exact hG
    | some a => exact req_mk trivial (by simp only [List.length_nil, Nat.zero_mul]; exact lds_zero hG)
  · obtain ⟨r, k, rfl, hr⟩ := hin.resolve_left hm
    obtain ⟨q, hq⟩ := List.getElem?_of_mem hr
    exact req_mk trivial (lds_row H q hq (by simp) hG)
/-- Bytes more behind a row of the call's own, which is not nil. -/
theorem app8_mk {L : List (Nat × AObj)} {j m : Nat} {ys ms : List Int} {G : Sl → AS → Prop} (H : Has σ ((j, .row .rw (cells8 ys)) :: L)) (hb : ys.length + ms.length ≤ 1099511627776) (hm : m = ms.length)
    (hG : ∀ j' σ', Has σ' ((j', .row .rw (cells8 (ys ++ ms))) :: L) → G ⟨some ⟨j', 0, none⟩, ys.length + ms.length⟩ σ') : appendTo σ 1 1 ⟨some ⟨j, 0, none⟩, ys.length⟩ (cells8 ms) m G := by
  subst hm
  refine append_mk (k := .rw) (cs := cells8 ys) H 0 rfl rfl (by omega) (by simp) fun j' σ2 H2 => hG j' σ2 ?_
  have et : (cells8 ys).take (ys.length * 1) = cells8 ys := by rw [Nat.mul_one]; exact List.take_of_length_le (by simp)
  rw [et, ← List.map_append] at H2
  exact H2
theorem pushB {L : List (Nat × AObj)} {j : Nat} {ys : List Int} {v : Int} {c : Option Addr} {ce : Nat} {G : Sl → AS → Prop} (H : Has σ (row8 j ys L)) (hs : AllS j ys c ce) (hb : ys.length ≤ 1048576)
    (hG : ∀ j' σ' c', Has σ' (row8 j' (ys ++ [v]) L) → AllS j' (ys ++ [v]) c' 1 → G ⟨c', ys.length + 1⟩ σ') :
    newAt σ (.row .rw [.int .u8 v]) fun i σ1 => chk (nilOr c ce (szOf Try.prog 5)) (lds σ1 ⟨i, 0, none⟩ 1 fun l2 => appendTo σ1 1 1 ⟨c, ys.length⟩ l2 1 G) := by
  have hz : szOf Try.prog 5 = 1 := by kernel_rfl
  obtain ⟨hno, hne, hnil⟩ := hs
  refine newAt_mk H fun i σ1 H1 => ?_
  rw [hz, hno]
  refine lds_row H1 0 rfl rfl ?_
  cases ys with
  | nil =>
    obtain rfl := hnil rfl
    refine append_nil_mk H1 (by omega) fun j' σ2 H2 => ?_
    exact hG j' σ2 (some ⟨j', 0, none⟩) (H2.sub (.cons_cons _ (.cons _ (.refl _)))) ⟨rfl, fun _ => ⟨rfl, rfl⟩, fun h => by cases h⟩
  | cons d t =>
    obtain ⟨rfl, rfl⟩ := hne (by simp)
    refine append_mk (k := .rw) (cs := cells8 (d :: t)) H1 1 rfl rfl (by omega) (by simp) fun j' σ2 H2 => ?_
    have H3 := H2.sub (.cons_cons _ (.cons _ (.refl _)))
    have et : (cells8 (d :: t)).take ((d :: t).length * 1) = cells8 (d :: t) := by rw [Nat.mul_one]; exact List.take_of_length_le (by simp)
    rw [et] at H3
    refine hG j' σ2 _ ?_ ⟨rfl, fun _ => ⟨rfl, rfl⟩, fun h => by cases h⟩
    rw [row8_ne (by simp)]
    simpa [cells8] using H3
theorem putByte {x p : Int} (h0 : 0 ≤ x) (h1 : x ≤ 4294967295) (hp : p = 16777216 ∨ p = 65536 ∨ p = 256 ∨ p = 1) :
    IntKind.wrap .u8 (Int.tmod (IntKind.wrap .i64 (Int.tdiv (IntKind.wrap .i64 x) p)) 256) = x / p % 256 := by
  rw [wrap64 (n := x) (by omega) (by omega)]
  have e1 : Int.tdiv x p = x / p := Int.tdiv_eq_ediv_of_nonneg h0
  rw [e1]
  rcases hp with rfl | rfl | rfl | rfl
  all_goals
    rw [wrap64 (by omega) (by omega), Int.tmod_eq_emod_of_nonneg (by omega)]
    simp [IntKind.wrap, IntKind.bits, IntKind.signed]
/-- Four bytes of a number. -/
theorem c19 {L : List (Nat × AObj)} {x : Int} (H : Has σ L) (h0 : 0 ≤ x) (h1 : x ≤ 4294967295) (hK : ∀ σ' j, Has σ' ((j, .row .rw (cells8 (by4 x))) :: L) → K (.slice (some ⟨j, 0, none⟩) 4 1) σ') :
    Tri Try.prog 19 [u32 x, i64 4] σ K := tri_in (by
  rw [s19]
  refine bm_mk (fun _ => bm_mk (fun _ => bm_mk (fun h => by simp at h) (fun _ => ?_)) (fun h => by simp at h)) (fun h => by simp at h)
  have g1 : IntKind.wrap .i64 ((256 : Int) * 1) = 256 := by decide
  have g2 : IntKind.wrap .i64 ((256 : Int) * 256) = 65536 := by decide
  have g3 : IntKind.wrap .i64 ((256 : Int) * 65536) = 16777216 := by decide
  have a0 : IntKind.wrap .i64 ((0 : Int) + 1) = 1 := by decide
  have a1 : IntKind.wrap .i64 ((1 : Int) + 1) = 2 := by decide
  have a2 : IntKind.wrap .i64 ((2 : Int) + 1) = 3 := by decide
  have a3 : IntKind.wrap .i64 ((3 : Int) + 1) = 4 := by decide
  have b0 : IntKind.wrap .i64 (65536 : Int) = 65536 := by decide
  have b1 : IntKind.wrap .i64 (256 : Int) = 256 := by decide
  have b2 : IntKind.wrap .i64 (1 : Int) = 1 := by decide
  have b3 : IntKind.wrap .i64 (0 : Int) = 0 := by decide
  intro X hX
  refine hX _ _ ?_
  rw [s19l]
  refine bm_mk (fun _ => hX _ _ ?_) (fun h => by simp at h)
  rw [s19l, g1, a1]
  refine bm_mk (fun _ => hX _ _ ?_) (fun h => by simp at h)
  rw [s19l, g2, a2]
  refine bm_mk (fun _ => hX _ _ ?_) (fun h => by simp at h)
  rw [s19l, g3, a3]
  refine bm_mk (fun h => by simp at h) (fun _ => ?_)
  clear hX X
  intro X hX
  have d0 : Int.tdiv (16777216 : Int) 256 = 65536 := by decide
  have d1 : Int.tdiv (65536 : Int) 256 = 256 := by decide
  have d2 : Int.tdiv (256 : Int) 256 = 1 := by decide
  have d3 : Int.tdiv (1 : Int) 256 = 0 := by decide
  refine hX _ _ ?_
  rw [s19k, putByte h0 h1 (.inl rfl), d0]
  refine bm_mk (fun _ => req_mk (by omega) ?_) (fun h => by simp at h)
  refine pushB (j := 0) (ys := []) H (AllS.none _ _) (by simp) fun j1 σ1 c1 H1 hs1 => ?_
  rw [b0, a0]
  refine hX _ _ ?_
  rw [s19k, putByte h0 h1 (.inr (.inl rfl)), d1]
  refine bm_mk (fun _ => req_mk (by omega) ?_) (fun h => by simp at h)
  refine pushB H1 hs1 (by simp) fun j2 σ2 c2 H2 hs2 => ?_
  rw [b1, a1]
  refine hX _ _ ?_
  rw [s19k, putByte h0 h1 (.inr (.inr (.inl rfl))), d2]
  refine bm_mk (fun _ => req_mk (by omega) ?_) (fun h => by simp at h)
  refine pushB H2 hs2 (by simp) fun j3 σ3 c3 H3 hs3 => ?_
  rw [b2, a2]
  refine hX _ _ ?_
  rw [s19k, putByte h0 h1 (.inr (.inr (.inr rfl))), d3]
  refine bm_mk (fun _ => req_mk (by omega) ?_) (fun h => by simp at h)
  refine pushB H3 hs3 (by simp) fun j4 σ4 c4 H4 hs4 => ?_
  rw [b3, a3]
  refine hX _ _ ?_
  rw [s19k]
  refine bm_mk (fun h => by simp at h) (fun _ => ?_)
  obtain ⟨rfl, _⟩ := hs4.2.1 (by simp)
  refine hK σ4 j4 ?_
  have e : [] ++ [x / 16777216 % 256] ++ [x / 65536 % 256] ++ [x / 256 % 256] ++ [x / 1 % 256] = by4 x := by simp [by4]
  rw [e] at H4
  exact H4)
theorem c15 {n : Int} (hK : K (i64 n) σ) : Tri Try.prog 15 [i64 n] σ K := tri_in (by rw [s15]; exact hK)
def sameI (a b : Option Addr) (m : Nat) (σ0 : AS) (i : Nat) (r : Regs) (σ : AS) : Prop :=
  i ≤ m ∧ σ = σ0 ∧ r = [(0, some (.slice a m 1)), (1, some (.slice b m 1)), (5, some (i64 i))]
theorem c16 {L : List (Nat × AObj)} {a b : Option Addr} {xs : List Int} (H : Has σ L) (ha : InU a xs L) (hb : InU b xs L) (hl : xs.length ≤ 1099511627776) (hK : K (.bool true) σ) :
    Tri Try.prog 16 [.slice a xs.length 1, .slice b xs.length 1] σ K := tri_in (by
  rw [s16]
  refine bm_mk (fun h => by simp at h) (fun _ => ?_)
  refine aloop (sameI a b xs.length σ) (fun i => xs.length - i) ?_ (a := 0) ⟨Nat.zero_le _, rfl, rfl⟩
  rintro i r σ1 X hX ⟨hi, rfl, rfl⟩
  rw [s16l]
  refine bm_mk (fun h => ?_) (fun h => hK)
  have h : i < xs.length := by have := of_decide_eq_true h; omega
  obtain ⟨v, hv⟩ : ∃ v, xs[i]? = some v := ⟨xs[i], by simp [h]⟩
  have hne : xs ≠ [] := fun e => by rw [e] at h; simp at h
  obtain ⟨r1, k1, rfl, m1⟩ := ha.resolve_left hne
  obtain ⟨r2, k2, rfl, m2⟩ := hb.resolve_left hne
  obtain ⟨q1, g1⟩ := List.getElem?_of_mem m1
  obtain ⟨q2, g2⟩ := List.getElem?_of_mem m2
  have hz : szOf Try.prog 22 = 1 := by kernel_rfl
  refine req_mk (by omega) (req_mk (by omega) ?_)
  simp only [pSome_some, hz, add_none, Int.toNat_natCast, Nat.mul_one, Nat.zero_add]
  refine req_mk trivial (ldc_mk H q1 g1 (cellsU_get hv) (tI_mk ?_))
  refine req_mk (by omega) (req_mk (by omega) (req_mk trivial (ldc_mk H q2 g2 (cellsU_get hv) (tI_mk ?_))))
  simp only [bne_self_eq_false, bm_false]
  rw [wrap64 (by omega) (by omega)]
  exact hX (i + 1) _ _ (by omega) ⟨h, rfl, by simp⟩)
theorem c16no {L : List (Nat × AObj)} {a b : Option Addr} {m n : Nat} (h : m ≠ n) (hK : K (.bool false) σ) : Tri Try.prog 16 [.slice a m 1, .slice b n 1] σ K := tri_in (by
  rw [s16]
  exact bm_mk (fun _ => hK) (fun e => absurd (by simpa using e) (by omega)))
end
end Go.AI
