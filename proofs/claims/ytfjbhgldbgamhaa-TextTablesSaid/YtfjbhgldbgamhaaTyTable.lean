/- Lemmas of the abstract condition ahead of code (a part of the library that the claim's proof stands on); they hold with no condition but those that each names. -/
import Derived.Test.YtfjbhgldbgamhaaTySort
section
/- The table of an alphabet: its bytes; no condition. -/
set_option maxRecDepth 10000
set_option linter.unusedVariables false
set_option linter.unusedSimpArgs false
namespace Go.AI
open Go.Proofs
def InO (a : Option Addr) (l : List Int) (L : List (Nat × AObj)) : Prop := l = [] ∨ ∃ r o k cs, a = some ⟨r, o, none⟩ ∧ (r, AObj.row k (cellsU cs)) ∈ L ∧ ∀ i v, l[i]? = some v → cs[o + i]? = some v
theorem InU.cut {a : Option Addr} {l : List Int} {L : List (Nat × AObj)} {x : Addr → Addr} {o n : Nat} (h : InU a l L) (hx : ∀ r, x ⟨r, 0, none⟩ = ⟨r, o, none⟩) : InO (a.map x) ((l.drop o).take n) L := by
  rcases h with rfl | ⟨r, k, rfl, h⟩
  · exact .inl (by simp)
  · refine .inr ⟨r, o, k, l, by simp [hx], h, fun i v hv => ?_⟩
    rw [List.getElem?_take] at hv
    split at hv
    · rw [List.getElem?_drop] at hv; exact hv
    · cases hv
theorem InO.of {a : Option Addr} {l : List Int} {L : List (Nat × AObj)} (h : InU a l L) : InO a l L := by
  rcases h with rfl | ⟨r, k, rfl, h⟩
  · exact .inl rfl
  · exact .inr ⟨r, 0, k, l, rfl, h, fun i v hv => by rw [Nat.zero_add]; exact hv⟩
theorem InO.mono {a : Option Addr} {l : List Int} {L L' : List (Nat × AObj)} (h : InO a l L) (hs : ∀ p ∈ L, p ∈ L') : InO a l L' := h.imp id fun ⟨r, o, k, cs, e, m, g⟩ => ⟨r, o, k, cs, e, hs _ m, g⟩
theorem InO.sub {a : Option Addr} {l : List Int} {L : List (Nat × AObj)} {x : Addr → Addr} {o n : Nat} (h : InO a l L) (hx : ∀ r q, x ⟨r, q, none⟩ = ⟨r, q + o, none⟩) : InO (a.map x) ((l.drop o).take n) L := by
  rcases h with rfl | ⟨r, q, k, cs, rfl, h, g⟩
  · exact .inl (by simp)
  · refine .inr ⟨r, q + o, k, cs, by simp [hx], h, fun i v hv => ?_⟩
    rw [List.getElem?_take] at hv
    split at hv
    · rw [List.getElem?_drop] at hv
      have := g _ _ hv
      rw [← this]
      congr 1
      omega
    · cases hv
theorem In8.mono2 {a : Option Addr} {l : List Int} {L L' : List (Nat × AObj)} (h : In8 a l L) (hs : ∀ p ∈ L, p ∈ L') : In8 a l L' := h.mono hs
section
variable {σ : AS} {K : Value → AS → Prop} {L : List (Nat × AObj)}
theorem c26 {x : Int} (H : Has σ L) (h0 : 0 ≤ x) (h1 : x ≤ 4294967295) (hK : ∀ σ' j, Has σ' ((j, .row .rw (cells8 (by4 x))) :: L) → K (.slice (some ⟨j, 0, none⟩) 4 1) σ') : Tri Try.prog 26 [u32 x, i64 4] σ K := tri_in (by
  rw [s26]
  refine c41 (.inr rfl) ?_
  simp only [tB_bool, Bool.not_true, bm_false]
  have hbo : bytesOf Try.prog 5 = 1 := by kernel_rfl
  rw [hbo]
  refine req_mk (by omega) (req_mk (by omega) (req_mk (by omega) ?_))
  have er : (List.replicate (Int.toNat 4) (valCells (.int .u8 0))).flatten = cells8 [0, 0, 0, 0] := by kernel_rfl
  rw [er]
  have e3 : IntKind.wrap .i64 ((4 : Int) - 1) = 3 := by decide
  have e2 : IntKind.wrap .i64 ((3 : Int) - 1) = 2 := by decide
  have e1 : IntKind.wrap .i64 ((2 : Int) - 1) = 1 := by decide
  have e0 : IntKind.wrap .i64 ((1 : Int) - 1) = 0 := by decide
  have em : IntKind.wrap .i64 ((0 : Int) - 1) = -1 := by decide
  have hz : szOf Try.prog 5 = 1 := by kernel_rfl
  have hs : ∀ y : Int, ishr .u32 y 8 = y / 256 := by
    intro y
    unfold ishr
    have : (2 : Int) ^ min (8 : Int).toNat IntKind.u32.bits = 256 := by decide
    rw [this, Int.fdiv_eq_ediv_of_nonneg _ (by decide)]
  have hw : ∀ y : Int, IntKind.wrap .u8 y = y % 256 := by
    intro y
    simp [IntKind.wrap, IntKind.bits, IntKind.signed]
  refine newAt_mk H fun j σ1 H1 => ?_
  rw [e3]
  intro X hX
  refine hX _ _ ?_
  rw [s26l, e2, hs, hw]
  refine bm_mk (fun _ => req_mk (by omega) (req_mk (by decide) ?_)) (fun h => by simp at h)
  simp only [pSome_some, hz, add_none]
  refine put1_mk H1 0 rfl rfl (by simp) fun σ2 H2 => hX _ _ ?_
  rw [s26l, e1, hs, hw]
  refine bm_mk (fun _ => req_mk (by omega) (req_mk (by decide) ?_)) (fun h => by simp at h)
  simp only [pSome_some, hz, add_none]
  refine put1_mk H2 0 rfl rfl (by simp) fun σ3 H3 => hX _ _ ?_
  rw [s26l, e0, hs, hw]
  refine bm_mk (fun _ => req_mk (by omega) (req_mk (by decide) ?_)) (fun h => by simp at h)
  simp only [pSome_some, hz, add_none]
  refine put1_mk H3 0 rfl rfl (by simp) fun σ4 H4 => hX _ _ ?_
  rw [s26l, em, hs, hw]
  refine bm_mk (fun _ => req_mk (by omega) (req_mk (by decide) ?_)) (fun h => by simp at h)
  simp only [pSome_some, hz, add_none]
  refine put1_mk H4 0 rfl rfl (by simp) fun σ5 H5 => hX _ _ ?_
  rw [s26l]
  refine bm_mk (fun h => by simp at h) (fun _ => hK σ5 j ?_)
  have eb : cells8 (by4 x) = [.int .u8 (x / 256 / 256 / 256 % 256), .int .u8 (x / 256 / 256 % 256), .int .u8 (x / 256 % 256), .int .u8 (x % 256)] := by
    have g1 : x / 256 / 256 / 256 = x / 16777216 := by omega
    have g2 : x / 256 / 256 = x / 65536 := by omega
    rw [g1, g2]
    rfl
  rw [eb]
  exact H5)
/-- The bytes of slices, one behind the other. -/
def catB (ps : List (Option Addr × List Int)) : List Int := ps.flatMap (·.2)
abbrev rowS8 (ps : List (Option Addr × List Int)) : List Value := ps.map fun p => .slice p.1 p.2.length 1
theorem c25 {ps : List (Option Addr × List Int)} {i : Nat} (H : Has σ ((i, .row .rw (rowS8 ps)) :: L)) (hin : ∀ p ∈ ps, In8 p.1 p.2 L) (hpos : 0 < (catB ps).length) (hbig : (catB ps).length ≤ 1048576) (hps : ps.length ≤ 1000)
    (hK : ∀ σ' j, Has σ' ((j, .row .rw (cells8 (catB ps))) :: L) → K (.slice (some ⟨j, 0, none⟩) (catB ps).length 1) σ') : Tri Try.prog 25 [.slice (some ⟨i, 0, none⟩) ps.length 1] σ K := tri_in (by
  rw [s25]
  have hz : szOf Try.prog 25 = 1 := by kernel_rfl
  have step : ∀ {k : Nat} {p}, ps[k]? = some p → catB (ps.take (k + 1)) = catB (ps.take k) ++ p.2 := by
    intro k p hp
    rw [List.take_add_one, hp]
    simp [catB, List.flatMap_append]
  have le : ∀ k, (catB (ps.take k)).length ≤ (catB ps).length := by
    intro k
    have : catB ps = catB (ps.take k) ++ catB (ps.drop k) := by
      unfold catB
      rw [← List.flatMap_append, List.take_append_drop]
    rw [this, List.length_append]
    omega
  refine aloop (fun (k : Nat) rg σ => k ≤ ps.length ∧ Has σ ((i, .row .rw (rowS8 ps)) :: L) ∧ rg = [(0, some (.slice (some ⟨i, 0, none⟩) ps.length 1)), (3, some (i64 (catB (ps.take k)).length)), (9, some (.slice (some ⟨i, 0, none⟩) ps.length 1)), (10, some (i64 ps.length)), (11, some (i64 k))]) (fun k => ps.length - k) ?_ (a := 0) ⟨Nat.zero_le _, H, rfl⟩
  rintro k rg σ1 X hX ⟨hk, H1, rfl⟩
  rw [s25a (x := 0)]
  refine bmd_mk (fun h => ?_) (fun h => ?_)
  · obtain ⟨p, hp⟩ : ∃ p, ps[k]? = some p := ⟨ps[k]'(by omega), by simp⟩
    refine req_mk (by omega) (req_mk h ?_)
    simp only [pSome_some, hz, add_none, Int.toNat_natCast, Nat.mul_one, Nat.zero_add]
    refine ldc_mk H1 0 rfl (v := .slice p.1 p.2.length 1) (by simp [rowS8, hp]) (tL_mk ?_)
    have hl := le (k + 1)
    rw [step hp, List.length_append] at hl
    have e1 : IntKind.wrap .i64 (((catB (ps.take k)).length : Int) + (p.2.length : Int)) = (((catB (ps.take (k + 1))).length : Nat) : Int) := by rw [wrap64 (by omega) (by omega), step hp, List.length_append]; omega
    have e2 : IntKind.wrap .i64 ((k : Int) + 1) = ((k + 1 : Nat) : Int) := by rw [wrap64 (by omega) (by omega)]; omega
    simp only
    rw [e1, e2]
    exact bmd_mk (fun g => by omega) (fun _ => hX (k + 1) _ _ (by omega) ⟨by omega, H1, rfl⟩)
  · have ek : k = ps.length := by omega
    subst ek
    rw [List.take_length]
    refine grow_tri ?_
    obtain ⟨N, hN⟩ : ∃ N, (catB ps).length = N + 1 := ⟨(catB ps).length - 1, by omega⟩
    have gg : ∀ {K : Value → AS → Prop}, (newAt σ1 (.row .rw []) fun i σ => K (.slice (some ⟨i, 0, none⟩) 0 1) σ) → gGrow [.slice none 0 0, i64 ((catB ps).length : Nat)] σ1 K := by
      intro K h
      rw [hN]
      exact req_mk (by omega) h
    refine gg (newAt_mk H1 fun w σ2 H2 => tL_mk ?_)
    simp only
    refine aloop (fun (k : Nat) rg σ => k ≤ ps.length ∧ ∃ w, Has σ ((w, .row .rw (cells8 (catB (ps.take k)))) :: (i, .row .rw (rowS8 ps)) :: L) ∧ rg = [(6, some (.slice (some ⟨w, 0, none⟩) (catB (ps.take k)).length 1)), (25, some (.slice (some ⟨i, 0, none⟩) ps.length 1)), (26, some (i64 ps.length)), (27, some (i64 k))]) (fun k => ps.length - k) ?_ (a := 0) ⟨Nat.zero_le _, w, H2, rfl⟩
    rintro k rg σ3 Y hY ⟨hk, w, H3, rfl⟩
    rw [s25b]
    refine bmd_mk (fun h => ?_) (fun h => ?_)
    · obtain ⟨p, hp⟩ : ∃ p, ps[k]? = some p := ⟨ps[k]'(by omega), by simp⟩
      refine req_mk (by omega) (req_mk h ?_)
      simp only [pSome_some, hz, add_none, Int.toNat_natCast, Nat.mul_one, Nat.zero_add]
      refine ldc_mk H3 1 rfl (v := .slice p.1 p.2.length 1) (by simp [rowS8, hp]) (tL_mk ?_)
      refine src8_mk H3 ((hin p (List.mem_of_getElem? hp)).mono fun q h => by simp [h]) ?_
      have hl := le (k + 1)
      rw [step hp, List.length_append] at hl
      refine app8_mk (ys := catB (ps.take k)) (ms := p.2) H3 (by omega) rfl fun w' σ4 H4 => ?_
      have e2 : IntKind.wrap .i64 ((k : Int) + 1) = ((k + 1 : Nat) : Int) := by rw [wrap64 (by omega) (by omega)]; omega
      simp only
      rw [e2]
      refine hY (k + 1) _ _ (by omega) ⟨by omega, w', ?_, ?_⟩
      · rw [step hp]; exact H4
      · rw [step hp, List.length_append]
    · have ek : k = ps.length := by omega
      subst ek
      rw [List.take_length] at H3 ⊢
      exact hK σ3 w (H3.sub (.cons_cons _ (.cons _ (.refl _)))))
theorem by4_tab : by4 = Go.Tab.by4 := rfl
theorem w32_U (x : Int) : IntKind.wrap .u32 x = Go.Tab.U x := by
  simp [IntKind.wrap, IntKind.bits, IntKind.signed, Go.Tab.U]
theorem U_in (x : Int) : 0 ≤ Go.Tab.U x ∧ Go.Tab.U x ≤ 4294967295 := by
  unfold Go.Tab.U
  omega
theorem U_eq {x : Int} (h0 : 0 ≤ x) (h1 : x ≤ 4294967295) : Go.Tab.U x = x := by
  unfold Go.Tab.U
  omega
theorem branchU_len (t : Int) (x y : List Int) : (Go.Tab.branchU t x y).length = 9 + x.length + y.length := by
  simp [Go.Tab.branchU, Go.Tab.by4]; omega
theorem branchU_U (t : Int) (x y : List Int) : Go.Tab.branchU (Go.Tab.U t) x y = Go.Tab.branchU t x y := by
  unfold Go.Tab.branchU
  rw [Go.Tab.U_add, show Go.Tab.U t + 9 + (x.length : Int) = Go.Tab.U t + (9 + x.length) by omega, Go.Tab.U_add, show t + (9 + (x.length : Int)) = t + 9 + x.length by omega]
theorem c24 {t : Int} {a b : Option Addr} {x y : List Int} (H : Has σ L) (ha : In8 a x L) (hb : In8 b y L) (hbig : x.length + y.length ≤ 1000000)
    (hK : ∀ σ' j new, Has σ' ((j, .row .rw (cells8 (Go.Tab.branchU t x y))) :: (new ++ L)) → K (.slice (some ⟨j, 0, none⟩) (Go.Tab.branchU t x y).length 1) σ') : Tri Try.prog 24 [u32 t, .slice a x.length 1, .slice b y.length 1] σ K := tri_in (by
  rw [s24]
  refine newAt_mk H fun i0 σ1 H1 => ?_
  have e2 : Go.Tab.U ((x.length : Nat) : Int) = x.length := U_eq (by omega) (by omega)
  rw [w32_U, w32_U, w32_U, e2, Go.Tab.U_add]
  have g1 := U_in (t + 9)
  have g2 := U_in (t + 9 + x.length)
  refine c26 H1 g1.1 g1.2 fun σ2 j2 H2 => tL_mk ?_
  refine c26 H2 g2.1 g2.2 fun σ3 j3 H3 => tL_mk ?_
  refine newAt_mk H3 fun i8 σ4 H4 => ?_
  let ps : List (Option Addr × List Int) := [(some ⟨i0, 0, none⟩, [0]), (some ⟨j2, 0, none⟩, by4 (Go.Tab.U (t + 9))), (some ⟨j3, 0, none⟩, by4 (Go.Tab.U (t + 9 + x.length))), (a, x), (b, y)]
  have ec : catB ps = Go.Tab.branchU t x y := by simp [catB, ps, Go.Tab.branchU, by4_tab]
  have el := branchU_len t x y
  have := c25 (ps := ps) (i := i8) (K := fun v10 σ11 => tL 1 v10 fun s12 => K (.slice s12.a s12.n 1) σ11) H4 ?_ ?_ ?_ (by simp [ps]) fun σ5 j H5 => tL_mk ?_
  · exact this
  · intro p hp
    simp only [ps, List.mem_cons, List.not_mem_nil, or_false] at hp
    rcases hp with rfl | rfl | rfl | rfl | rfl
    · exact .inr ⟨i0, .rw, rfl, by simp⟩
    · exact .inr ⟨j2, .rw, rfl, by simp⟩
    · exact .inr ⟨j3, .rw, rfl, by simp⟩
    · exact ha.mono fun p h => by simp [h]
    · exact hb.mono fun p h => by simp [h]
  · rw [ec, el]; omega
  · rw [ec, el]; omega
  · rw [ec] at H5 ⊢
    exact hK σ5 j [_, _, _] H5)
end
end Go.AI
end
section
/- The nodes of an alphabet, its table: their bytes, exactly; no condition. -/
set_option maxRecDepth 10000
set_option linter.unusedVariables false
set_option linter.unusedSimpArgs false
namespace Go.AI
open Go.Proofs
open Go.Tab (nodeU cntN sizeB branchU U)
theorem nodeU_two {f : Nat} {t : Int} {l : List Int} (h : 2 ≤ l.length) : nodeU (f + 1) t l = branchU t (nodeU f (t + 9) (l.take (l.length / 2))) (nodeU f (t + 9 + (nodeU f (t + 9) (l.take (l.length / 2))).length) (l.drop (l.length / 2))) := by
  match l, h with
  | a :: b :: r, _ => rfl
theorem cntN_two {f : Nat} {l : List Int} (h : 2 ≤ l.length) : cntN (f + 1) l = 1 + cntN f (l.take (l.length / 2)) + cntN f (l.drop (l.length / 2)) := by
  match l, h with
  | a :: b :: r, _ => rfl
theorem tleafB_len (c : Int) : 2 ≤ (Go.Tab.leafB c).length ∧ (Go.Tab.leafB c).length ≤ 5 := by unfold Go.Tab.leafB; split <;> simp [Go.Tab.by4]
theorem nodeU_lens : ∀ (f : Nat) (t : Int) (l : List Int), l.length ≤ f → 0 < (nodeU f t l).length ∧ ((nodeU f t l).length = 1 ∧ l = [] ∨ 0 < l.length ∧ (nodeU f t l).length + 9 ≤ 14 * l.length)
  | 0, t, l, h => by
    have : l = [] := List.length_eq_zero_iff.1 (by omega)
    subst this
    exact ⟨by simp [nodeU], .inl ⟨rfl, rfl⟩⟩
  | f + 1, t, [], _ => ⟨by simp [nodeU], .inl ⟨rfl, rfl⟩⟩
  | f + 1, t, [c], _ => by
    have := tleafB_len c
    refine ⟨?_, .inr ⟨by simp, ?_⟩⟩
    · show 0 < (Go.Tab.leafB c).length; omega
    · show (Go.Tab.leafB c).length + 9 ≤ _; simp only [List.length_singleton]; omega
  | f + 1, t, a :: b :: r, h => by
    have h2 : 2 ≤ (a :: b :: r).length := by simp
    rw [nodeU_two h2]
    generalize a :: b :: r = l at *
    have i1 := nodeU_lens f (t + 9) (l.take (l.length / 2)) (by rw [List.length_take]; omega)
    have i2 := nodeU_lens f (t + 9 + (nodeU f (t + 9) (l.take (l.length / 2))).length) (l.drop (l.length / 2)) (by rw [List.length_drop]; omega)
    rw [branchU_len]
    have z1 : (l.take (l.length / 2)).length = l.length / 2 := by rw [List.length_take]; omega
    have z2 : (l.drop (l.length / 2)).length = l.length - l.length / 2 := by rw [List.length_drop]
    refine ⟨by omega, .inr ⟨by omega, ?_⟩⟩
    rcases i1.2 with ⟨_, g⟩ | ⟨_, g1⟩
    · rw [g] at z1; simp at z1; omega
    · rcases i2.2 with ⟨_, g⟩ | ⟨_, g2⟩
      · rw [g] at z2; simp at z2; omega
      · omega
theorem cntN_le : ∀ (f : Nat) (l : List Int), l.length ≤ f → cntN f l ≤ 2 * l.length + 1 ∧ (l ≠ [] → cntN f l + 1 ≤ 2 * l.length)
  | 0, l, h => by
    have : l = [] := List.length_eq_zero_iff.1 (by omega)
    subst this
    exact ⟨by simp [cntN], fun h => absurd rfl h⟩
  | f + 1, [], _ => ⟨by simp [cntN], fun h => absurd rfl h⟩
  | f + 1, [c], _ => ⟨by simp [cntN], fun _ => by simp [cntN]⟩
  | f + 1, a :: b :: r, h => by
    have h2 : 2 ≤ (a :: b :: r).length := by simp
    rw [cntN_two h2]
    generalize a :: b :: r = l at *
    have z1 : (l.take (l.length / 2)).length = l.length / 2 := by rw [List.length_take]; omega
    have z2 : (l.drop (l.length / 2)).length = l.length - l.length / 2 := by rw [List.length_drop]
    have i1 := (cntN_le f (l.take (l.length / 2)) (by omega)).2 (fun e => by rw [e] at z1; simp at z1; omega)
    have i2 := (cntN_le f (l.drop (l.length / 2)) (by omega)).2 (fun e => by rw [e] at z2; simp at z2; omega)
    refine ⟨by omega, fun _ => by omega⟩
theorem nodeU_Ut (f : Nat) (t : Int) (l : List Int) : nodeU f (U t) l = nodeU f t l := Go.Tab.nodeU_U f _ _ l (Go.Tab.U_U t)
section
variable {σ : AS} {K : Value → AS → Prop} {L : List (Nat × AObj)}
theorem c23 : ∀ (f : Nat) {σ : AS} {K : Value → AS → Prop} {L : List (Nat × AObj)} {t : Int} {a : Option Addr} {l : List Int}, Has σ L → InO a l L → l.length ≤ f → f ≤ 300 → (∀ c ∈ l, 0 ≤ c ∧ c ≤ 4294967295) →
    (∀ σ' s new, Has σ' (new ++ L) → In8 s (nodeU f t l) new → K (.tuple ⟨[.slice s (nodeU f t l).length 1, u32 (cntN f l : Nat)]⟩) σ') → Tri Try.prog 23 [u32 t, .slice a l.length 1] σ K := by
  intro f
  induction f with
  | zero =>
    intro σ K L t a l H hin hl hf hc hK
    have : l = [] := List.length_eq_zero_iff.1 (by omega)
    subst this
    refine tri_in ?_
    rw [s23]
    refine bm_mk (fun _ => ?_) (fun h => by simp at h)
    refine newAt_mk H fun i0 σ1 H1 => ?_
    exact hK σ1 _ [_] H1 (.inr ⟨i0, .rw, rfl, by simp [nodeU]⟩)
  | succ f ih =>
    intro σ K L t a l H hin hl hf hc hK
    refine tri_in ?_
    rw [s23]
    have hz : szOf Try.prog 22 = 1 := by kernel_rfl
    refine bm_mk (fun h => ?_) (fun h => ?_)
    · have : l = [] := List.length_eq_zero_iff.1 (by have : (l.length : Int) = 0 := by simpa using h
                                                     omega)
      subst this
      refine newAt_mk H fun i0 σ1 H1 => ?_
      exact hK σ1 _ [_] H1 (.inr ⟨i0, .rw, rfl, by simp [nodeU]⟩)
    have hne : l.length ≠ 0 := by
      have : ¬ ((l.length : Int) = 0) := by simpa using h
      omega
    have big : l.length ≠ 1 → req (0 ≤ IntKind.wrap .i64 (Int.tdiv (l.length : Int) 2)) (req (IntKind.wrap .i64 (Int.tdiv (l.length : Int) 2) ≤ (l.length : Int))
        (Tri Try.prog 23 [u32 (IntKind.wrap .u32 (t + 9)), .slice (a.map fun x => Addr.add x (Int.toNat 0 * szOf Try.prog 22)) (Int.toNat (IntKind.wrap .i64 (Int.tdiv (l.length : Int) 2) - 0)) 1] σ fun v22 σ23 =>
          tTup v22 fun l24 => pSome l24[0]? fun u25 => tL 1 u25 fun s26 => tTup v22 fun l27 => pSome l27[1]? fun u28 => tI .u32 u28 fun n29 =>
          req (0 ≤ IntKind.wrap .i64 (Int.tdiv (l.length : Int) 2)) (req (IntKind.wrap .i64 (Int.tdiv (l.length : Int) 2) ≤ (l.length : Int)) (req ((l.length : Int) ≤ (l.length : Int))
          (Tri Try.prog 23 [u32 (IntKind.wrap .u32 (IntKind.wrap .u32 (t + 9) + IntKind.wrap .u32 (s26.n : Int))), .slice (a.map fun x => Addr.add x (Int.toNat (IntKind.wrap .i64 (Int.tdiv (l.length : Int) 2)) * szOf Try.prog 22)) (Int.toNat ((l.length : Int) - IntKind.wrap .i64 (Int.tdiv (l.length : Int) 2))) 1] σ23 fun v30 σ31 =>
            tTup v30 fun l32 => pSome l32[0]? fun u33 => tL 1 u33 fun s34 => tTup v30 fun l35 => pSome l35[1]? fun u36 => tI .u32 u36 fun n37 =>
            Tri Try.prog 24 [u32 t, .slice s26.a s26.n 1, .slice s34.a s34.n 1] σ31 fun v38 σ39 => tL 1 v38 fun s40 => K (.tuple ⟨[.slice s40.a s40.n 1, u32 (IntKind.wrap .u32 (IntKind.wrap .u32 (n29 + n37) + 1))]⟩) σ39))))) := by
      intro hl1
      have h2 : 2 ≤ l.length := by omega
      have e1 : IntKind.wrap .i64 (Int.tdiv (l.length : Int) 2) = ((l.length / 2 : Nat) : Int) := by
        have : Int.tdiv (l.length : Int) 2 = ((l.length / 2 : Nat) : Int) := by rw [Int.tdiv_eq_ediv_of_nonneg (by omega)]; omega
        rw [this, wrap64 (by omega) (by omega)]
      have e2 : IntKind.wrap .u32 (t + 9) = U (t + 9) := w32_U _
      have z1 : (l.take (l.length / 2)).length = l.length / 2 := by rw [List.length_take]; omega
      have z2 : (l.drop (l.length / 2)).length = l.length - l.length / 2 := by rw [List.length_drop]
      have e3 : (((l.length / 2 : Nat) : Int) - 0).toNat = (l.take (l.length / 2)).length := by omega
      have e4 : ((l.length : Int) - ((l.length / 2 : Nat) : Int)).toNat = (l.drop (l.length / 2)).length := by omega
      rw [e1, e2, e3, e4]
      have hin1 : InO (a.map fun x => Addr.add x (Int.toNat 0 * szOf Try.prog 22)) (l.take (l.length / 2)) L := by
        have := hin.sub (x := fun x => Addr.add x (Int.toNat 0 * szOf Try.prog 22)) (o := 0) (n := l.length / 2) (fun r q => by rw [hz, add_none]; rfl)
        rw [List.drop_zero] at this
        exact this
      have hin2 : InO (a.map fun x => Addr.add x (Int.toNat ((l.length / 2 : Nat) : Int) * szOf Try.prog 22)) (l.drop (l.length / 2)) L := by
        have := hin.sub (x := fun x => Addr.add x (Int.toNat ((l.length / 2 : Nat) : Int) * szOf Try.prog 22)) (o := l.length / 2) (n := l.length) (fun r q => by rw [hz, add_none, Int.toNat_natCast, Nat.mul_one])
        rw [List.take_of_length_le (by rw [List.length_drop]; omega)] at this
        exact this
      refine req_mk (by omega) (req_mk (by omega) ?_)
      have len1 := nodeU_lens f (t + 9) (l.take (l.length / 2)) (by omega)
      refine ih H hin1 (by omega) (by omega) (fun c h => hc c (List.mem_of_mem_take h)) fun σ1 s1 new1 H1 i1 => ?_
      rw [nodeU_Ut] at i1 ⊢
      simp only [tTup_tup, pSome_some, List.getElem?_cons_zero, List.getElem?_cons_succ, tI_int]
      refine tL_mk ?_
      simp only
      refine req_mk (by omega) (req_mk (by omega) (req_mk (by omega) ?_))
      have e5 : IntKind.wrap .u32 (((nodeU f (t + 9) (l.take (l.length / 2))).length : Nat) : Int) = (nodeU f (t + 9) (l.take (l.length / 2))).length := by
        rw [w32_U]; exact U_eq (by omega) (by rcases len1.2 with ⟨g, _⟩ | ⟨_, g⟩ <;> omega)
      rw [e5, w32_U, Go.Tab.U_add]
      have len2 := nodeU_lens f (t + 9 + (nodeU f (t + 9) (l.take (l.length / 2))).length) (l.drop (l.length / 2)) (by omega)
      refine ih H1 (hin2.mono fun p h => by simp [h]) (by omega) (by omega) (fun c h => hc c (List.mem_of_mem_drop h)) fun σ2 s2 new2 H2 i2 => ?_
      rw [nodeU_Ut] at i2 ⊢
      simp only [tTup_tup, pSome_some, List.getElem?_cons_zero, List.getElem?_cons_succ, tI_int]
      refine tL_mk ?_
      simp only
      have c1 := (cntN_le f (l.take (l.length / 2)) (by omega)).1
      have c2 := (cntN_le f (l.drop (l.length / 2)) (by omega)).1
      have ec : IntKind.wrap .u32 (IntKind.wrap .u32 (((cntN f (l.take (l.length / 2)) : Nat) : Int) + ((cntN f (l.drop (l.length / 2)) : Nat) : Int)) + 1) = ((cntN (f + 1) l : Nat) : Int) := by
        rw [w32_U, w32_U, U_eq (x := ((cntN f (l.take (l.length / 2)) : Nat) : Int) + _) (by omega) (by omega), U_eq (by omega) (by omega), cntN_two h2]
        omega
      refine c24 H2 (i1.mono fun p h => by simp [h]) (i2.mono fun p h => by simp [h]) (by rcases len1.2 with ⟨g, _⟩ | ⟨_, g⟩ <;> rcases len2.2 with ⟨g', _⟩ | ⟨_, g'⟩ <;> omega) fun σ3 j3 new3 H3 => tL_mk ?_
      have e := nodeU_two (f := f) (t := t) h2
      simp only
      rw [← e] at H3 ⊢
      rw [ec]
      refine hK σ3 _ ((j3, AObj.row .rw (cells8 (nodeU (f + 1) t l))) :: (new3 ++ (new2 ++ new1))) ?_ (.inr ⟨j3, .rw, rfl, by simp⟩)
      simpa using H3
    have one : ∀ c, l = [c] → (newAt σ (.row .rw [.int .u8 4]) fun i10 σ11 => req (0 < (l.length : Int)) (pSome a fun a12 => ldc σ11 (Addr.add a12 (Int.toNat 0 * szOf Try.prog 22)) fun v13 => tI .u32 v13 fun n14 =>
        Tri Try.prog 26 [u32 n14, i64 4] σ11 fun v15 σ16 => tL 1 v15 fun s17 => srcCells σ16 1 (some (.slice s17.a s17.n 1)) fun m18 new19 => appendTo σ16 1 1 ⟨some ⟨i10, 0, none⟩, 1⟩ new19 m18 fun s20 σ21 => K (.tuple ⟨[.slice s20.a s20.n 1, u32 1]⟩) σ21)) ∨ c < 256 := by
      intro c hl
      by_cases hc2 : c < 256
      · exact .inr hc2
      refine .inl ?_
      subst hl
      have hcr := hc c (by simp)
      refine newAt_mk H fun i10 σ1 H1 => req_mk (by simp) ?_
      obtain ⟨r, o, k, cs, rfl, hm, hg⟩ := hin.resolve_left (by simp)
      obtain ⟨q, hq⟩ := List.getElem?_of_mem (show (r, AObj.row k (cellsU cs)) ∈ (i10, AObj.row .rw [.int .u8 4]) :: L from List.mem_cons_of_mem _ hm)
      simp only [pSome_some, hz, add_none, Int.toNat_zero, Nat.zero_mul, Nat.add_zero]
      have hv : (cellsU cs)[o]? = some (u32 c) := cellsU_get (hg 0 c rfl)
      refine ldc_mk H1 q hq hv (tI_mk ?_)
      refine c26 H1 hcr.1 hcr.2 fun σ2 j2 H2 => tL_mk ?_
      refine src8_mk (ms := by4 c) H2 (.inr ⟨j2, .rw, rfl, by simp⟩) ?_
      refine app8_mk (ys := [4]) (ms := by4 c) (L := (j2, .row .rw (cells8 (by4 c))) :: L) (H2.perm (.swap _ _ _)) (by simp [by4]) rfl fun j' σ3 H3 => ?_
      have el : nodeU (f + 1) t [c] = [4] ++ by4 c := by show Go.Tab.leafB c = _; unfold Go.Tab.leafB; rw [if_neg hc2]; rfl
      rw [← el] at H3
      have := hK σ3 (some ⟨j', 0, none⟩) [(j', _), (j2, _)] H3 (.inr ⟨j', .rw, rfl, by simp⟩)
      rw [el] at this
      exact this
    refine bm_mk (fun h1 => ?_) (fun h1 => ?_)
    · have h1 : (l.length : Int) = 1 := by simpa using h1
      obtain ⟨c, hlc⟩ : ∃ c, l = [c] := by
        match l, h1 with
        | [c], _ => exact ⟨c, rfl⟩
        | [], h => simp at h
        | _ :: _ :: _, h => simp at h; omega
      have hcr := hc c (by rw [hlc]; simp)
      refine req_mk (by omega) ?_
      obtain ⟨r, o, k, cs, rfl, hm, hg⟩ := hin.resolve_left (by rw [hlc]; simp)
      obtain ⟨q, hq⟩ := List.getElem?_of_mem hm
      have hv : (cellsU cs)[o]? = some (u32 c) := cellsU_get (hg 0 c (by rw [hlc]; rfl))
      have ad : Addr.add ⟨r, o, none⟩ (Int.toNat 0 * szOf Try.prog 22) = ⟨r, o, none⟩ := by rw [hz, add_none]; rfl
      simp only [pSome_some]
      rw [ad]
      refine ldc_mk H q hq hv (tI_mk (bmd_mk (fun g => ?_) (fun g => ?_)))
      · refine req_mk (by omega) (ldc_mk H q hq hv (tI_mk ?_))
        have ew : IntKind.wrap .u8 c = c := by
          simp [IntKind.wrap, IntKind.bits, IntKind.signed]
          omega
        rw [ew]
        refine newAt_mk H fun i8 σ1 H1 => ?_
        subst hlc
        have el : nodeU (f + 1) t [c] = [2, c] := by show Go.Tab.leafB c = _; unfold Go.Tab.leafB; rw [if_pos g]
        have := hK σ1 (some ⟨i8, 0, none⟩) [(i8, _)] H1 (.inr ⟨i8, .rw, rfl, by rw [el]; simp⟩)
        rw [el] at this
        exact this
      · refine bm_mk (fun _ => ?_) (fun h => ?_)
        · have := (one c hlc).resolve_right g
          simp only [pSome_some, ad] at this
          exact this
        · have : ¬ ((l.length : Int) = 1) := by simpa using h
          omega
    · have hl1 : ¬ ((l.length : Int) = 1) := by simpa using h1
      refine bm_mk (fun h => absurd (by simpa using h) hl1) (fun _ => big (by omega))
theorem c10 {t : Int} {a : Option Addr} {l : List Int} (H : Has σ L) (hin : InU a l L) (hl : l.length ≤ 300) (hc : ∀ c ∈ l, 0 ≤ c ∧ c ≤ 4294967295)
    (hE : Go.Tab.alphE l ≠ 0 → ∀ σ' new, Has σ' (new ++ L) → K (.tuple ⟨[.slice none 0 0, i64 (Go.Tab.alphE l)]⟩) σ')
    (hK : Go.Tab.alphE l = 0 → ∀ σ' s new, Has σ' (new ++ L) → In8 s (Go.Tab.tabU t l) new → K (.tuple ⟨[.slice s (Go.Tab.tabU t l).length 1, i64 0]⟩) σ') :
    Tri Try.prog 10 [u32 t, .slice a l.length 1] σ K := tri_in (by
  rw [s10]
  refine c22 H hin hl fun σ1 new1 H1 => ?_
  simp only [tI_int]
  refine bm_mk (fun h => hE (by simpa using h) _ new1 H1) (fun h => ?_)
  have h0 : Go.Tab.alphE l = 0 := by simpa using h
  have hK := hK h0
  clear hE
  have e1 : IntKind.wrap .u32 (t + 22) = U (t + 22) := w32_U _
  have e2 : IntKind.wrap .u32 (t + 12) = U (t + 12) := w32_U _
  rw [e1, e2]
  have len := nodeU_lens l.length (t + 22) l (Nat.le_refl _)
  have len2 : (nodeU l.length (t + 22) l).length ≤ 4210 := by rcases len.2 with ⟨g, _⟩ | ⟨_, g⟩ <;> omega
  have cl := (cntN_le l.length l (Nat.le_refl _)).1
  refine c23 l.length H1 (InO.of (hin.mono fun p h => by simp [h])) (Nat.le_refl _) hl hc fun σ2 s2 new2 H2 i2 => ?_
  rw [nodeU_Ut] at i2 ⊢
  simp only [tTup_tup, pSome_some, List.getElem?_cons_zero, List.getElem?_cons_succ, tI_int]
  refine tL_mk ?_
  refine newAt_mk H2 fun i11 σ3 H3 => ?_
  refine c24 (x := [1]) (y := nodeU l.length (t + 22) l) H3 (.inr ⟨i11, .rw, rfl, by simp⟩) (i2.mono fun p h => by simp [h]) (by simp only [List.length_singleton]; omega) fun σ4 j4 new4 H4 => tL_mk ?_
  rw [branchU_U] at H4 ⊢
  have lr : (branchU (t + 12) [1] (nodeU l.length (t + 22) l)).length = 10 + (nodeU l.length (t + 22) l).length := by rw [branchU_len]; simp
  have htab := Go.Tab.tab_prog t l
  generalize hroot : branchU (t + 12) [1] (nodeU l.length (t + 22) l) = rootU at *
  simp only
  have ex : IntKind.wrap .u32 (IntKind.wrap .i64 (12 + (rootU.length : Int))) = 12 + (rootU.length : Int) := by
    rw [wrap64 (by omega) (by omega), w32_U]; exact U_eq (by omega) (by omega)
  have ey : IntKind.wrap .u32 (((cntN l.length l : Nat) : Int) + 2) = (cntN l.length l : Int) + 2 := by
    rw [w32_U]; exact U_eq (by omega) (by omega)
  rw [ex, ey]
  refine c26 H4 (by omega) (by omega) fun σ5 j5 H5 => tL_mk ?_
  refine c26 H5 (by omega) (by omega) fun σ6 j6 H6 => tL_mk ?_
  have g3 := U_in (t + 12)
  refine c26 H6 g3.1 g3.2 fun σ7 j7 H7 => tL_mk ?_
  refine newAt_mk H7 fun i25 σ8 H8 => ?_
  let ps : List (Option Addr × List Int) := [(some ⟨j5, 0, none⟩, by4 (12 + (rootU.length : Int))), (some ⟨j6, 0, none⟩, by4 ((cntN l.length l : Int) + 2)), (some ⟨j7, 0, none⟩, by4 (U (t + 12))), (some ⟨j4, 0, none⟩, rootU)]
  have ec : catB ps = Go.Tab.tabU t l := by
    rw [← htab]
    simp [catB, ps, by4_tab]
  have el : (catB ps).length = 12 + rootU.length := by simp [catB, ps, by4]; omega
  have := c25 (ps := ps) (i := i25) (K := fun v27 σ28 => tL 1 v27 fun s29 => K (.tuple ⟨[.slice s29.a s29.n 1, i64 0]⟩) σ28) H8 ?_ ?_ ?_ (by simp [ps]) fun σ9 j H9 => tL_mk ?_
  · exact this
  · intro p hp
    simp only [ps, List.mem_cons, List.not_mem_nil, or_false] at hp
    rcases hp with rfl | rfl | rfl | rfl
    · exact .inr ⟨j5, .rw, rfl, by simp⟩
    · exact .inr ⟨j6, .rw, rfl, by simp⟩
    · exact .inr ⟨j7, .rw, rfl, by simp⟩
    · exact .inr ⟨j4, .rw, rfl, by simp⟩
  · rw [el]; omega
  · rw [el]; omega
  · rw [ec] at H9 ⊢
    refine hK σ9 (some ⟨j, 0, none⟩) ((j, AObj.row .rw (cells8 (Go.Tab.tabU t l))) :: (j7, AObj.row .rw (cells8 (by4 (U (t + 12))))) :: (j6, AObj.row .rw (cells8 (by4 ((cntN l.length l : Int) + 2)))) :: (j5, AObj.row .rw (cells8 (by4 (12 + (rootU.length : Int))))) :: (j4, AObj.row .rw (cells8 rootU)) :: (new4 ++ ((i11, AObj.row .rw [.int .u8 1]) :: (new2 ++ new1)))) ?_ (.inr ⟨j, .rw, rfl, by simp⟩)
    simpa using H9)
theorem c30 {a : Option Addr} {xs : List Int} {v : Int} (H : Has σ L) (hin : InU a xs L) (hl : xs.length ≤ 300) (hE : K (i64 (-1)) σ) (hK : ∀ i : Nat, xs[i]? = some v → K (i64 i) σ) : Tri Try.prog 30 [.slice a xs.length 1, u32 v] σ K := tri_in (by
  rw [s30]
  have hz : szOf Try.prog 22 = 1 := by kernel_rfl
  refine aloop (fun (k : Nat) rg σ' => σ' = σ ∧ rg = [(0, some (.slice a xs.length 1)), (1, some (u32 v)), (7, some (i64 xs.length)), (8, some (i64 k))]) (fun k => xs.length - k) ?_ (a := 0) ⟨rfl, rfl⟩
  rintro k rg σ1 X hX ⟨rfl, rfl⟩
  rw [s30l]
  refine bmd_mk (fun h => ?_) (fun _ => hE)
  obtain ⟨x, hx⟩ : ∃ x, xs[k]? = some x := ⟨xs[k]'(by omega), by simp⟩
  have hne : xs ≠ [] := fun e => by rw [e] at h; simp at h; omega
  obtain ⟨r, kk, rfl, hr⟩ := hin.resolve_left hne
  obtain ⟨q, hq⟩ := List.getElem?_of_mem hr
  refine req_mk (by omega) (req_mk h ?_)
  simp only [pSome_some, hz, add_none, Int.toNat_natCast, Nat.mul_one, Nat.zero_add]
  refine ldc_mk H q hq (cellsU_get hx) (tI_mk (bm_mk (fun g => ?_) (fun g => ?_)))
  · have g : v = x := by simpa using g
    exact hK k (by rw [hx, g])
  · have e : IntKind.wrap .i64 ((k : Int) + 1) = ((k + 1 : Nat) : Int) := by rw [wrap64 (by omega) (by omega)]; omega
    rw [e]
    exact hX (k + 1) _ _ (by omega) ⟨rfl, rfl⟩)
end
end Go.AI
end
section
/- A text packed by an alphabet: its bytes, exactly; no condition. -/
set_option maxRecDepth 10000
set_option linter.unusedVariables false
set_option linter.unusedSimpArgs false
namespace Go.AI
open Go.Proofs
open Go.Tab (pathB pathB_len packU bitsU packT packE alphE)
theorem idxOf_first {xs : List Int} {v : Int} {k : Nat} (h : xs[k]? = some v) (hno : ∀ i, i < k → xs[i]? ≠ some v) : xs.idxOf v = k := by
  have hk := (List.getElem?_eq_some_iff.1 h).1
  have hm : v ∈ xs := List.mem_of_getElem? h
  have hlt : xs.idxOf v < xs.length := List.idxOf_lt_length_of_mem hm
  have hat : xs[xs.idxOf v]? = some v := by rw [List.getElem?_eq_getElem hlt, List.getElem_idxOf]
  rcases Nat.lt_trichotomy (xs.idxOf v) k with g | g | g
  · exact absurd hat (hno _ g)
  · exact g
  · have := List.not_of_lt_findIdx (p := fun x => x == v) (xs := xs) (i := k) g
    rw [List.getElem?_eq_getElem hk] at h
    simp [Option.some.inj h] at this
section
variable {σ : AS} {K : Value → AS → Prop} {L : List (Nat × AObj)}
theorem ps2_mk {i q n : Nat} {cs vs : List Value} {G : AS → Prop} (H : Has σ L) (e : L[q]? = some (i, .row .plain cs)) (h1 : vs.length = n) (h2 : cs.length = n)
    (hG : ∀ σ', Has σ' (L.set q (i, .row .plain vs)) → G σ') : puts σ ⟨i, 0, none⟩ vs fun σ' => G σ' := by
  refine puts_mk H q e rfl (by omega) fun σ1 H1 => ?_
  have e1 : cs.take 0 ++ vs ++ cs.drop (0 + vs.length) = vs := by
    rw [List.take_zero, List.nil_append, List.drop_eq_nil_of_le (by omega), List.append_nil]
  rw [e1] at H1
  exact hG σ1 H1
theorem c30x {a : Option Addr} {xs : List Int} {v : Int} (H : Has σ L) (hin : InU a xs L) (hl : xs.length ≤ 300) (hE : v ∉ xs → K (i64 (-1)) σ) (hK : v ∈ xs → K (i64 (xs.idxOf v : Nat)) σ) : Tri Try.prog 30 [.slice a xs.length 1, u32 v] σ K := tri_in (by
  rw [s30]
  have hz : szOf Try.prog 22 = 1 := by kernel_rfl
  refine aloop (fun (k : Nat) rg σ' => (∀ i, i < k → xs[i]? ≠ some v) ∧ σ' = σ ∧ rg = [(0, some (.slice a xs.length 1)), (1, some (u32 v)), (7, some (i64 xs.length)), (8, some (i64 k))]) (fun k => xs.length - k) ?_ (a := 0) ⟨fun i h => by omega, rfl, rfl⟩
  rintro k rg σ1 X hX ⟨hno, rfl, rfl⟩
  rw [s30l]
  refine bmd_mk (fun h => ?_) (fun h => hE fun hm => ?_)
  · obtain ⟨x, hx⟩ : ∃ x, xs[k]? = some x := ⟨xs[k]'(by omega), by simp⟩
    have hne : xs ≠ [] := fun e => by rw [e] at h; simp at h; omega
    obtain ⟨r, kk, rfl, hr⟩ := hin.resolve_left hne
    obtain ⟨q, hq⟩ := List.getElem?_of_mem hr
    refine req_mk (by omega) (req_mk h ?_)
    simp only [pSome_some, hz, add_none, Int.toNat_natCast, Nat.mul_one, Nat.zero_add]
    refine ldc_mk H q hq (cellsU_get hx) (tI_mk (bm_mk (fun g => ?_) (fun g => ?_)))
    · have g : v = x := by simpa using g
      subst g
      have := hK (List.mem_of_getElem? hx)
      rw [idxOf_first hx hno] at this
      exact this
    · have g : ¬ v = x := by simpa using g
      have e : IntKind.wrap .i64 ((k : Int) + 1) = ((k + 1 : Nat) : Int) := by rw [wrap64 (by omega) (by omega)]; omega
      rw [e]
      refine hX (k + 1) _ _ (by omega) ⟨fun i hi he => ?_, rfl, rfl⟩
      by_cases e2 : i = k
      · subst e2
        rw [hx] at he
        exact g (Option.some.inj he).symm
      · exact hno i (by omega) he
  · obtain ⟨i, hi⟩ := List.getElem?_of_mem hm
    have := (List.getElem?_eq_some_iff.1 hi).1
    exact hno i (by omega) hi)
end
/-- Bits, laid into bytes, the lowest first. -/
def Packed (ys : List Int) (w : List Int) : Prop :=
  (w.length % 8 = 0 ∧ ys.length = w.length / 8 ∨ w.length % 8 ≠ 0 ∧ ys.length = w.length / 8 + 1) ∧ (∀ y ∈ ys, 0 ≤ y ∧ y < 256) ∧ (∀ (q : Nat) (b : Int), w[q]? = some b → (b = 0 ∨ b = 1) ∧ ∃ y, ys[q / 8]? = some y ∧ y / 2 ^ (q % 8) % 2 = b) ∧
  (w.length % 8 ≠ 0 → ∃ y, ys[w.length / 8]? = some y ∧ y < 2 ^ (w.length % 8))
theorem ior_bit : ∀ (k : Fin 8) (y : Fin 128) (b : Fin 2), y.val < 2 ^ k.val → ior .u8 (y.val : Int) (ishl .u8 (b.val : Int) (k.val : Int)) = (y.val : Int) + (b.val : Int) * 2 ^ k.val := by decide +kernel
theorem ior_bit' {k : Nat} {y b : Int} (hk : k < 8) (hy : 0 ≤ y) (hy2 : y < 2 ^ k) (hb : b = 0 ∨ b = 1) : ior .u8 y (ishl .u8 b (k : Int)) = y + b * 2 ^ k := by
  obtain ⟨y, rfl⟩ := Int.eq_ofNat_of_zero_le hy
  have hy3 : y < 2 ^ k := by
    have : ((2 : Int) ^ k) = ((2 ^ k : Nat) : Int) := by simp
    rw [this] at hy2
    omega
  have h128 : 2 ^ k ≤ 2 ^ 7 := Nat.pow_le_pow_right (by omega) (by omega)
  have := ior_bit ⟨k, hk⟩ ⟨y, by omega⟩
  rcases hb with rfl | rfl
  · exact this 0 hy3
  · exact this 1 hy3
theorem bit_old : ∀ (k : Fin 8) (y : Fin 256) (b : Fin 2) (q : Fin 8), y.val < 2 ^ k.val → q.val < k.val → (y.val + b.val * 2 ^ k.val) / 2 ^ q.val % 2 = y.val / 2 ^ q.val % 2 := by decide +kernel
theorem bit_new : ∀ (k : Fin 8) (y : Fin 256) (b : Fin 2), y.val < 2 ^ k.val → (y.val + b.val * 2 ^ k.val) / 2 ^ k.val % 2 = b.val ∧ y.val + b.val * 2 ^ k.val < 2 ^ (k.val + 1) := by decide +kernel
theorem row8_out {σ : AS} {j : Nat} {ys : List Int} {p : Nat × AObj} {L : List (Nat × AObj)} (H : Has σ (row8 j ys (p :: L))) : Has σ (p :: row8 j ys L) := by
  cases ys with
  | nil => exact H
  | cons c t => exact H.perm (.swap _ _ _)
theorem packed_step {zs w : List Int} {b z : Int} (hl : zs.length = w.length / 8 + 1) (hb : ∀ y ∈ zs, 0 ≤ y ∧ y < 256) (hw : ∀ (q : Nat) (b : Int), w[q]? = some b → (b = 0 ∨ b = 1) ∧ ∃ y, zs[q / 8]? = some y ∧ y / 2 ^ (q % 8) % 2 = b)
    (hz : zs[w.length / 8]? = some z) (hz2 : z < 2 ^ (w.length % 8)) (hb01 : b = 0 ∨ b = 1) : Packed (zs.set (w.length / 8) (z + b * 2 ^ (w.length % 8))) (w ++ [b]) := by
  obtain ⟨z0, z1⟩ := hb z (List.mem_of_getElem? hz)
  obtain ⟨z, rfl⟩ := Int.eq_ofNat_of_zero_le z0
  obtain ⟨k, hk⟩ : ∃ k, w.length % 8 = k := ⟨_, rfl⟩
  have hk8 : k < 8 := by omega
  rw [hk] at hz2 ⊢
  have hzk : z < 2 ^ k := by
    have : ((2 : Int) ^ k) = ((2 ^ k : Nat) : Int) := by simp
    rw [this] at hz2
    omega
  obtain ⟨bn, rfl, hbn⟩ : ∃ bn : Nat, b = (bn : Int) ∧ bn < 2 := by
    rcases hb01 with rfl | rfl
    · exact ⟨0, rfl, by omega⟩
    · exact ⟨1, rfl, by omega⟩
  have ev : ((z : Int) + (bn : Int) * 2 ^ k) = ((z + bn * 2 ^ k : Nat) : Int) := by simp
  rw [ev]
  have hnew := bit_new ⟨k, hk8⟩ ⟨z, by omega⟩ ⟨bn, hbn⟩ hzk
  simp only at hnew
  have hlt : z + bn * 2 ^ k < 256 := Nat.lt_of_lt_of_le hnew.2 (show 2 ^ (k + 1) ≤ 2 ^ 8 from Nat.pow_le_pow_right (by omega) (by omega))
  have pc : ∀ (x y : Nat), ((x : Int) / 2 ^ y % 2) = ((x / 2 ^ y % 2 : Nat) : Int) := by intro x y; simp
  have hdiv : w.length / 8 < zs.length := by omega
  refine ⟨?_, ?_, ?_, ?_⟩
  · simp only [List.length_append, List.length_singleton, List.length_set]
    by_cases h7 : k = 7
    · left; omega
    · right; omega
  · intro y hy
    rcases List.mem_or_eq_of_mem_set hy with h | rfl
    · exact hb y h
    · omega
  · intro q b' hq
    rw [List.getElem?_append] at hq
    split at hq
    · rename_i hqw
      obtain ⟨g1, y, g2, g3⟩ := hw q b' hq
      refine ⟨g1, ?_⟩
      by_cases hqd : q / 8 = w.length / 8
      · rw [hqd] at g2
        rw [hz] at g2
        cases g2
        refine ⟨_, by rw [hqd]; exact List.getElem?_set_self hdiv, ?_⟩
        rw [← g3, pc, pc]
        have hq8 : q % 8 < 8 := by omega
        have := bit_old ⟨k, hk8⟩ ⟨z, by omega⟩ ⟨bn, hbn⟩ ⟨q % 8, hq8⟩ hzk (by simp only; omega)
        simp only at this
        rw [this]
      · exact ⟨y, by rw [List.getElem?_set_ne (by omega)]; exact g2, g3⟩
    · rename_i hqw
      have hq2 : q = w.length := by
        have := (List.getElem?_eq_some_iff.1 hq).1
        simp at this
        omega
      subst hq2
      simp at hq
      subst hq
      refine ⟨by omega, _, List.getElem?_set_self hdiv, ?_⟩
      rw [hk, pc, hnew.1]
  · intro hne
    simp only [List.length_append, List.length_singleton] at hne ⊢
    have hk7 : k < 7 := by omega
    have e1 : (w.length + 1) / 8 = w.length / 8 := by omega
    have e2 : (w.length + 1) % 8 = k + 1 := by omega
    rw [e1, e2]
    refine ⟨_, List.getElem?_set_self hdiv, ?_⟩
    have : ((2 : Int) ^ (k + 1)) = ((2 ^ (k + 1) : Nat) : Int) := by simp
    rw [this]
    have := hnew.2
    omega
def BitsSt (c : Nat) (w : List Int) (L : List (Nat × AObj)) (σ : AS) : Prop :=
  ∃ (j : Nat) (ys : List Int) (s : Option Addr) (se : Nat), Packed ys w ∧ AllS j ys s se ∧ Has σ (row8 j ys ((c, .row .plain [.slice s ys.length se, i64 w.length]) :: L))
section
variable {σ : AS} {K : Value → AS → Prop} {L : List (Nat × AObj)}
theorem put_tail {c j : Nat} {zs w : List Int} {b z : Int} (H : Has σ ((j, .row .rw (cells8 zs)) :: (c, .row .plain [.slice (some ⟨j, 0, none⟩) zs.length 1, i64 w.length]) :: L)) (hwl : w.length ≤ 1000000)
    (hl : zs.length = w.length / 8 + 1) (hb : ∀ y ∈ zs, 0 ≤ y ∧ y < 256) (hw : ∀ (q : Nat) (b : Int), w[q]? = some b → (b = 0 ∨ b = 1) ∧ ∃ y, zs[q / 8]? = some y ∧ y / 2 ^ (q % 8) % 2 = b)
    (hz : zs[w.length / 8]? = some z) (hz2 : z < 2 ^ (w.length % 8)) (hb01 : b = 0 ∨ b = 1) (hK : ∀ σ', BitsSt c (w ++ [b]) L σ' → K unit0 σ') :
    req (0 ≤ IntKind.wrap .i64 ((zs.length : Int) - 1)) (req (IntKind.wrap .i64 ((zs.length : Int) - 1) < (zs.length : Int)) (pSome (some (⟨j, 0, none⟩ : Addr)) fun a14 =>
      ldc σ (Addr.add a14 (Int.toNat (IntKind.wrap .i64 ((zs.length : Int) - 1)) * szOf Try.prog 5)) fun v15 => tI .u8 v15 fun n16 => ldc σ ⟨c, 0 + 1, none⟩ fun v17 => tI .i64 v17 fun n18 =>
      req (0 ≤ Int.tmod n18 8) (req (0 ≤ IntKind.wrap .i64 ((zs.length : Int) - 1)) (req (IntKind.wrap .i64 ((zs.length : Int) - 1) < (zs.length : Int)) (pSome (some (⟨j, 0, none⟩ : Addr)) fun a19 =>
      put1 σ (Addr.add a19 (Int.toNat (IntKind.wrap .i64 ((zs.length : Int) - 1)) * szOf Try.prog 5)) (.int .u8 (ior .u8 n16 (ishl .u8 b (Int.tmod n18 8)))) fun σ20 =>
      ldc σ20 ⟨c, 0 + 1, none⟩ fun v21 => tI .i64 v21 fun n22 => put1 σ20 ⟨c, 0 + 1, none⟩ (i64 (IntKind.wrap .i64 (n22 + 1))) fun σ23 => K unit0 σ23))))) := by
  have e1 : IntKind.wrap .i64 ((zs.length : Int) - 1) = ((w.length / 8 : Nat) : Int) := by rw [wrap64 (by omega) (by omega)]; omega
  have hz5 : szOf Try.prog 5 = 1 := by kernel_rfl
  rw [e1]
  refine req_mk (by omega) (req_mk (by omega) ?_)
  simp only [pSome_some, hz5, add_none, Int.toNat_natCast, Nat.mul_one, Nat.zero_add]
  refine ldc_mk H 0 rfl (v := .int .u8 z) (by simp [hz]) (tI_mk ?_)
  refine ldc_mk H 1 rfl rfl (tI_mk ?_)
  have e2 : Int.tmod (w.length : Int) 8 = ((w.length % 8 : Nat) : Int) := by rw [Int.tmod_eq_emod_of_nonneg (by omega)]; omega
  rw [e2]
  refine req_mk (by omega) (req_mk (by omega) (req_mk (by omega) ?_))
  obtain ⟨z0, z1⟩ := hb z (List.mem_of_getElem? hz)
  rw [ior_bit' (by omega) z0 hz2 hb01]
  refine put1_mk H 0 rfl rfl (by simp; omega) fun σ1 H1 => ?_
  refine ldc_mk H1 1 rfl rfl (tI_mk ?_)
  refine put1_mk H1 1 rfl rfl (by simp) fun σ2 H2 => ?_
  have e3 : IntKind.wrap .i64 ((w.length : Int) + 1) = ((w.length + 1 : Nat) : Int) := by rw [wrap64 (by omega) (by omega)]; omega
  refine hK σ2 ⟨j, zs.set (w.length / 8) (z + b * 2 ^ (w.length % 8)), some ⟨j, 0, none⟩, 1, packed_step hl hb hw hz hz2 hb01, ⟨rfl, fun _ => ⟨rfl, rfl⟩, fun h => ?_⟩, ?_⟩
  · have : zs = [] := by simpa using h
    rw [this] at hl
    simp at hl
  · rw [row8_ne (by intro h; have : zs = [] := by simpa using h
                    rw [this] at hl; simp at hl)]
    rw [e3] at H2
    simpa using H2
theorem c31 {c : Nat} {w : List Int} {b : Int} (hS : BitsSt c w L σ) (hwl : w.length ≤ 1000000) (hb01 : b = 0 ∨ b = 1) (hK : ∀ σ', BitsSt c (w ++ [b]) L σ' → K unit0 σ') : Tri Try.prog 31 [ptr c, .int .u8 b] σ K := tri_in (by
  obtain ⟨j, ys, s, se, hP, hs, H⟩ := hS
  obtain ⟨p1, p2, p3, p4⟩ := hP
  rw [s31]
  refine ldc_mk (row8_out H) 0 rfl rfl (tI_mk ?_)
  have e2 : Int.tmod (w.length : Int) 8 = ((w.length % 8 : Nat) : Int) := by rw [Int.tmod_eq_emod_of_nonneg (by omega)]; omega
  refine bm_mk (fun h => ?_) (fun h => ?_)
  · have h : w.length % 8 = 0 := by
      have : Int.tmod (w.length : Int) 8 = 0 := by simpa using h
      clear p3 p4
      omega
    have hyl : ys.length = w.length / 8 := by clear p3 p4; omega
    refine ldc_mk (row8_out H) 0 rfl rfl (tL_ok hs.1 ?_)
    simp only
    have psh : ∀ {G : Sl → AS → Prop}, (∀ j' σ' c', Has σ' (row8 j' (ys ++ [0]) ((c, .row .plain [.slice s ys.length se, i64 w.length]) :: L)) → AllS j' (ys ++ [0]) c' 1 → G ⟨c', ys.length + 1⟩ σ') →
        newAt σ (.row .rw [.int .u8 0]) fun i4 σ5 => lds σ5 ⟨i4, 0, none⟩ 1 fun l6 => appendTo σ5 1 1 ⟨s, ys.length⟩ l6 1 G := by
      intro G hG
      have := pushB (v := 0) (G := G) H hs (by clear p3 p4; omega) hG
      have hz5 : szOf Try.prog 5 = 1 := by kernel_rfl
      unfold newAt at this ⊢
      simp only [hz5, hs.1, chk] at this
      exact this
    refine psh fun j' σ1 c' H1 hs1 => ?_
    obtain ⟨rfl, _⟩ := hs1.2.1 (by simp)
    rw [row8_ne (by simp)] at H1
    refine put1_mk H1 1 rfl rfl (by simp) fun σ2 H2 => ?_
    have H2 : Has σ2 ((j', .row .rw (cells8 (ys ++ [0]))) :: (c, .row .plain [.slice (some ⟨j', 0, none⟩) (ys.length + 1) 1, i64 w.length]) :: L) := H2
    refine ldc_mk H2 1 rfl rfl (tL_mk (ldc_mk H2 1 rfl rfl (tL_mk ?_)))
    simp only
    have el : (ys ++ [0]).length = ys.length + 1 := by simp
    rw [← el] at H2 ⊢
    refine put_tail (zs := ys ++ [0]) (z := 0) H2 hwl (by rw [el, hyl]) ?_ ?_ ?_ ?_ hb01 hK
    · intro y hy
      rcases List.mem_append.1 hy with g | g
      · exact p2 y g
      · simp at g; omega
    · intro q b' hq
      obtain ⟨g1, y, g2, g3⟩ := p3 q b' hq
      exact ⟨g1, y, by rw [List.getElem?_append_left (List.getElem?_eq_some_iff.1 g2).1]; exact g2, g3⟩
    · rw [← hyl]; simp
    · rw [h]; decide
  · have h : w.length % 8 ≠ 0 := by
      have : ¬ Int.tmod (w.length : Int) 8 = 0 := by simpa using h
      clear p3 p4
      omega
    have hyl : ys.length = w.length / 8 + 1 := by clear p3 p4; omega
    have hne : ys ≠ [] := fun e => by rw [e] at hyl; simp at hyl
    obtain ⟨rfl, rfl⟩ := hs.2.1 hne
    rw [row8_ne hne] at H
    refine ldc_mk H 1 rfl rfl (tL_mk (ldc_mk H 1 rfl rfl (tL_mk ?_)))
    simp only
    obtain ⟨z, z1, z2⟩ := p4 h
    exact put_tail H hwl hyl p2 p3 z1 z2 hb01 hK)
end
def bitsL (n : Nat) (is : List Nat) : List Int := is.flatMap fun i => 1 :: pathB n i
theorem bitsL_len (n : Nat) : ∀ is : List Nat, (bitsL n is).length ≤ is.length * (n + 1)
  | [] => by simp [bitsL]
  | i :: r => by
    have h1 := bitsL_len n r
    have h2 := pathB_len n i
    have e : bitsL n (i :: r) = (1 :: pathB n i) ++ bitsL n r := rfl
    rw [e, List.length_append, List.length_cons, List.length_cons]
    have : (r.length + 1) * (n + 1) = r.length * (n + 1) + (n + 1) := by rw [Nat.add_mul, Nat.one_mul]
    omega
theorem bitsL_app (n : Nat) (a b : List Nat) : bitsL n (a ++ b) = bitsL n a ++ bitsL n b := by unfold bitsL; rw [List.flatMap_append]
theorem row8_mem {j : Nat} {ys : List Int} {fr : List (Nat × AObj)} {p : Nat × AObj} (h : p ∈ fr) : p ∈ row8 j ys fr := by
  cases ys with
  | nil => exact h
  | cons c t => exact List.mem_cons_of_mem _ h
section
variable {σ : AS} {K : Value → AS → Prop} {L : List (Nat × AObj)}
theorem BitsSt.has {c : Nat} {w : List Int} (h : BitsSt c w L σ) : ∃ P, Has σ (P ++ L) := by
  obtain ⟨j, ys, s, se, _, _, H⟩ := h
  cases ys with
  | nil => exact ⟨[_], H⟩
  | cons a r => exact ⟨[_, _], H⟩
theorem len8 {a m : Nat} (h : m % 8 = 0 ∧ a = m / 8 ∨ m % 8 ≠ 0 ∧ a = m / 8 + 1) : a = (m + 7) / 8 := by omega
theorem c12 {a u : Option Addr} {xs l : List Int} (H : Has σ L) (hin : InU a xs L) (hu : InU u l L) (hx : xs.length ≤ 300) (hl : l.length ≤ 300)
    (hE : packE xs l ≠ 0 → ∀ σ' new, Has σ' (new ++ L) → K (.tuple ⟨[.slice none 0 0, i64 (packE xs l)]⟩) σ')
    (hK : packE xs l = 0 → ∀ σ' s new, Has σ' (new ++ L) → In8 s (packT xs l) new → K (.tuple ⟨[.slice s (packT xs l).length 1, i64 0]⟩) σ') :
    Tri Try.prog 12 [.slice a xs.length 1, .slice u l.length 1] σ K := tri_in (by
  rw [s12]
  refine c22 H hin hx fun σ1 new1 H1 => ?_
  simp only [tI_int]
  refine bm_mk (fun h => ?_) (fun h => ?_)
  · have h : alphE xs ≠ 0 := by simpa using h
    have e : packE xs l = alphE xs := by unfold packE; rw [if_pos h]
    rw [e] at hE
    exact hE h _ new1 H1
  have h0 : alphE xs = 0 := by simpa using h
  have hpe : packE xs l = if ∀ c ∈ l, c ∈ xs then 0 else 5 := by unfold packE; rw [if_neg (by simp [h0])]
  refine newAt_mk H1 fun c σ2 H2 => ?_
  refine ps2_mk (n := 2) H2 (q := 0) rfl rfl rfl fun σ3 H3 => ?_
  have hz : szOf Try.prog 22 = 1 := by kernel_rfl
  have hS : BitsSt c (bitsL xs.length []) (new1 ++ L) σ3 := ⟨0, [], none, 0, ⟨.inl (by simp [bitsL]), by simp, by simp [bitsL], by simp [bitsL]⟩, AllS.none _ _, H3⟩
  refine aloop (fun (z : Nat) rg σ => ∃ is : List Nat, is.length = z ∧ z ≤ l.length ∧ (is = (l.take z).map xs.idxOf ∧ ∀ c ∈ l.take z, c ∈ xs) ∧ BitsSt c (bitsL xs.length is) (new1 ++ L) σ ∧
    rg = [(0, some (.slice a xs.length 1)), (7, some (ptr c)), (20, some (.slice u l.length 1)), (21, some (i64 l.length)), (22, some (i64 z))]) (fun z => l.length - z) ?_ (a := 0) ⟨[], rfl, Nat.zero_le _, ⟨by simp, by simp⟩, hS, rfl⟩
  rintro z rg σ4 X hX ⟨is, rfl, hzl, his, hS4, rfl⟩
  rw [s12a]
  have hw := bitsL_len xs.length is
  have hw2 : is.length * (xs.length + 1) ≤ 300 * 301 := Nat.mul_le_mul (by omega) (by omega)
  refine bmd_mk (fun h => ?_) (fun h => ?_)
  · obtain ⟨v, hv⟩ : ∃ v, l[is.length]? = some v := ⟨l[is.length]'(by omega), by simp⟩
    refine req_mk (by omega) (req_mk h ?_)
    have hne : l ≠ [] := fun e => by rw [e] at h; simp at h; omega
    obtain ⟨r, kk, rfl, hr⟩ := hu.resolve_left hne
    obtain ⟨P, HP⟩ := hS4.has
    obtain ⟨q, hq⟩ := List.getElem?_of_mem (show (r, AObj.row kk (cellsU l)) ∈ P ++ (new1 ++ L) by simp [hr])
    simp only [pSome_some, hz, add_none, Int.toNat_natCast, Nat.mul_one, Nat.zero_add]
    refine ldc_mk HP q hq (cellsU_get hv) (tI_mk ?_)
    refine c30x HP (hin.mono fun p h => by simp [h]) hx (fun hvx => ?_) fun hvx => ?_
    · simp only [tI_int]
      refine bmd_mk (fun _ => ?_) (fun h => absurd (by decide) h)
      rw [hpe, if_neg (fun g => hvx (g v (List.mem_of_getElem? hv)))] at hE
      exact hE (by decide) _ (P ++ new1) (by rw [List.append_assoc]; exact HP)
    · simp only [tI_int]
      refine bmd_mk (fun h => absurd h (by omega)) (fun _ => ?_)
      have hin2 : xs.idxOf v < xs.length := List.idxOf_lt_length_of_mem hvx
      generalize hiv : xs.idxOf v = i at *
      refine c31 hS4 (by omega) (.inr rfl) fun σ5 hS5 => ?_
      refine aloop (fun (q : Nat × Nat) rg σ => q.1 ≤ i ∧ i < q.2 ∧ q.2 ≤ xs.length ∧ (∃ pre, BitsSt c (bitsL xs.length is ++ (1 :: pre)) (new1 ++ L) σ ∧ pre ++ pathB (q.2 - q.1) (i - q.1) = pathB xs.length i) ∧
        rg = [(0, some (.slice a xs.length 1)), (7, some (ptr c)), (10, some (i64 i)), (11, some (i64 q.1)), (12, some (i64 q.2)), (20, some (.slice (some ⟨r, 0, none⟩) l.length 1)), (21, some (i64 l.length)), (22, some (i64 is.length))]) (fun q => q.2 - q.1) ?_ (a := (0, xs.length))
        ⟨Nat.zero_le _, hin2, Nat.le_refl _, ⟨[], hS5, rfl⟩, rfl⟩
      rintro ⟨lo, hi'⟩ rg σ6 Y hY ⟨g1, g2, g3, ⟨pre, hS6, hpre⟩, rfl⟩
      simp only at g1 g2 g3 hpre
      rw [s12b]
      have e1 : IntKind.wrap .i64 ((hi' : Int) - lo) = ((hi' - lo : Nat) : Int) := by rw [wrap64 (by omega) (by omega)]; omega
      have e2 : IntKind.wrap .i64 ((lo : Int) + IntKind.wrap .i64 (Int.tdiv ((hi' - lo : Nat) : Int) 2)) = ((lo + (hi' - lo) / 2 : Nat) : Int) := by
        have : Int.tdiv ((hi' - lo : Nat) : Int) 2 = (((hi' - lo) / 2 : Nat) : Int) := by rw [Int.tdiv_eq_ediv_of_nonneg (by omega)]; omega
        rw [this, wrap64 (n := (((hi' - lo) / 2 : Nat) : Int)) (by omega) (by omega), wrap64 (by omega) (by omega)]
        omega
      simp only
      rw [e1, e2]
      have plen : pre.length ≤ xs.length := by
        have h1 := congrArg List.length hpre
        rw [List.length_append] at h1
        have h2 := pathB_len xs.length i
        omega
      have wlen : (bitsL xs.length is ++ (1 :: pre)).length ≤ 1000000 := by rw [List.length_append, List.length_cons]; omega
      refine bmd_mk (fun k1 => ?_) (fun k1 => ?_)
      · rw [pathB, if_neg (by omega)] at hpre
        refine bmd_mk (fun k2 => ?_) (fun k2 => ?_)
        · rw [if_pos (by omega)] at hpre
          refine c31 hS6 wlen (.inl rfl) fun σ7 hS7 => ?_
          refine hY (lo, lo + (hi' - lo) / 2) _ _ (by simp only; omega) ⟨g1, by simp only; omega, by simp only; omega, ⟨pre ++ [0], ?_, ?_⟩, rfl⟩
          · simpa using hS7
          · have e : lo + (hi' - lo) / 2 - lo = (hi' - lo) / 2 := by omega
            simp only
            rw [e, List.append_assoc]
            exact hpre
        · rw [if_neg (by omega)] at hpre
          refine c31 hS6 wlen (.inr rfl) fun σ7 hS7 => ?_
          refine hY (lo + (hi' - lo) / 2, hi') _ _ (by simp only; omega) ⟨by simp only; omega, g2, g3, ⟨pre ++ [1], ?_, ?_⟩, rfl⟩
          · simpa using hS7
          · have e : hi' - (lo + (hi' - lo) / 2) = hi' - lo - (hi' - lo) / 2 := by omega
            have e' : i - (lo + (hi' - lo) / 2) = i - lo - (hi' - lo) / 2 := by omega
            simp only
            rw [e, e', List.append_assoc]
            exact hpre
      · rw [pathB, if_pos (by omega), List.append_nil] at hpre
        subst hpre
        have e3 : IntKind.wrap .i64 ((is.length : Int) + 1) = ((is.length + 1 : Nat) : Int) := by rw [wrap64 (by omega) (by omega)]; omega
        rw [e3]
        refine hX (is.length + 1) _ _ (by omega) ⟨is ++ [i], by simp, by omega, ?_, ?_, rfl⟩
        · have et : l.take (is.length + 1) = l.take is.length ++ [v] := by rw [List.take_add_one, hv]; rfl
          rw [et]
          refine ⟨?_, ?_⟩
          · rw [List.map_append, ← his.1]
            simp [hiv]
          · intro c hc
            rcases List.mem_append.1 hc with hc | hc
            · exact his.2 c hc
            · rw [List.mem_singleton.1 hc]
              exact hvx
        · rw [bitsL_app]
          simpa [bitsL] using hS6
  · have hzl2 : is.length = l.length := by omega
    rw [hzl2, List.take_length] at his
    refine c31 hS4 (by omega) (.inl rfl) fun σ5 hS5 => ?_
    obtain ⟨j, ys, s, se, hP, hs, H5⟩ := hS5
    refine newAt_mk H5 fun i10 σ6 H6 => ?_
    have H7 : Has σ6 ((c, .row .plain [.slice s ys.length se, i64 (bitsL xs.length is ++ [0]).length]) :: (i10, .row .rw [.int .u8 225]) :: row8 j ys (new1 ++ L)) := by
      cases ys with
      | nil => exact H6.perm (.swap _ _ _)
      | cons y t => exact H6.perm ((List.Perm.swap _ _ _).trans (.cons _ (.swap _ _ _)))
    refine ldc_mk H7 0 rfl rfl (tL_ok hs.1 ?_)
    simp only
    have hyne : ys ≠ [] := by
      intro h
      have := hP.1
      rw [h] at this
      simp only [List.length_nil, List.length_append, List.length_singleton] at this
      omega
    obtain ⟨rfl, rfl⟩ := hs.2.1 hyne
    rw [row8_ne hyne] at H7
    have H8 : Has σ6 ((i10, .row .rw [.int .u8 225]) :: (c, .row .plain [.slice (some ⟨j, 0, none⟩) ys.length 1, i64 (bitsL xs.length is ++ [0]).length]) :: (j, .row .rw (cells8 ys)) :: (new1 ++ L)) := H7.perm (.swap _ _ _)
    refine src8_mk (ms := ys) H8 (.inr ⟨j, .rw, rfl, by simp⟩) ?_
    have hyl : ys.length ≤ 100000 := by
      have h1 := hP.1
      have h2 : (bitsL xs.length is ++ [0]).length ≤ 300 * 301 + 1 := by simp only [List.length_append, List.length_singleton]; omega
      omega
    refine app8_mk (ys := [225]) (ms := ys) H8 (by simp; omega) rfl fun j' σ7 H9 => ?_
    have hys : ys = packU (bitsU xs l ++ [0]) := by
      have ew : bitsL xs.length is = bitsU xs l := by
        rw [his.1]
        unfold bitsL bitsU
        rw [List.flatMap_map]
      rw [ew] at hP
      obtain ⟨p1, p2, p3, p4⟩ := hP
      exact Go.Tab.packed_eq (len8 p1) p2 (fun q b h => (p3 q b h).2) p4
    have hp0 : packE xs l = 0 := by rw [hpe, if_pos his.2]
    have el : (225 :: ys).length = [225].length + ys.length := by simp; omega
    have := hK hp0 σ7 (some ⟨j', 0, none⟩) ((j', AObj.row .rw (cells8 (225 :: ys))) :: (c, .row .plain [.slice (some ⟨j, 0, none⟩) ys.length 1, i64 (bitsL xs.length is ++ [0]).length]) :: (j, .row .rw (cells8 ys)) :: new1) (by simpa using H9) (.inr ⟨j', .rw, rfl, by rw [hys]; simp [packT]⟩)
    have ep : packT xs l = 225 :: ys := by rw [hys]; rfl
    rw [ep, el] at this
    exact this)
end
end Go.AI
end
