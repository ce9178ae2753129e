/- Lemmas of the abstract condition ahead of code (a part of the library that the claim's proof stands on); they hold with no condition but those that each names. -/
import Derived.Test.YtlofpopejkohbaaGreatGyOne
import Derived.Test.YtlofpopejkohbaaGreatGyForm
section
set_option linter.unusedSimpArgs false
set_option linter.unusedVariables false
set_option maxRecDepth 100000
/- A stream on memory opened by a call; no condition but those that each names. -/
namespace Go.AI
open Go.Proofs
section
variable {σ : AS} {K : Value → AS → Prop} {L M Fr : List (Nat × AObj)}
/-- What lies in a memory, by units. -/
def memF (B : List Int) (u : Nat) (i : Nat) : Int := beV ((B.drop (100 + u * i)).take u)
theorem memF_in {B : List Int} {u i : Nat} (hB : ∀ c ∈ B, 0 ≤ c ∧ c < 256) (hu : u = 1 ∨ u = 4) : 0 ≤ memF B u i ∧ memF B u i ≤ 4294967295 ∧ (u = 1 → memF B u i ≤ 255) := by
  have h := beV_take (l := (B.drop (100 + u * i))) (fun c h => hB c (List.mem_of_mem_drop h)) u
  unfold memF
  rcases hu with rfl | rfl
  · have e : (256 : Int) ^ 1 = 256 := by decide
    rw [e] at h
    omega
  · have e : (256 : Int) ^ 4 = 4294967296 := by decide
    rw [e] at h
    omega
theorem n158 : ∀ (a : Int) (σ : AS) (K : Value → AS → Prop), callN Tryz.prog hints glE 80 158 [u32 a] σ K = bmatch (a == 0) (K (.bool true) σ) (K (.bool (a == 4294967295)) σ) := by
  intros
  kernel_rfl
/-- What the world is before a stream is opened. -/
def w0 (tm tr fm sm sh al g : Nat) : List (Nat × AObj) := [(tm, .map [] 0), (tr, .row .plain [i64 20, i64 10, i64 0, i64 0, .map (some tm)]), (fm, .map [] 0), (sm, .map [] 0), (sh, .row .plain [i64 1048576, i64 0, .map (some fm), .map (some sm)]), (al, .map [] 0), (g, .row .plain [u32 0, .map (some al), ptr tr, ptr sh, .slice none 0 0, .slice none 0 0, u32 0, .bool false])]
theorem c97 {tm tr fm sm sh al g m bj ar c u k : Nat} {w : Bool} {B : List Int} (hB : ∀ c ∈ B, 0 ≤ c ∧ c < 256) (hl : B.length = 1024) (hu : (u = 1 ∧ w = false) ∨ (u = 4 ∧ w = true)) (hk : k < 100)
    (H : Has σ ((c, .row .plain [ptr g, .iface 29 (ptr m), .slice (some ⟨ar, 0, none⟩) 4 1]) :: (ar, .row .rw [u32 100, u32 k, u32 1, u32 5]) :: (m, spO bj none 0 0) :: (bj, .row .rw (cells8 B)) :: (w0 tm tr fm sm sh al g ++ M)))
    (hK : ∀ ob st bf ro σ', Has σ' ([(tm, .map [] 0), (tr, .row .plain [i64 20, i64 10, i64 0, i64 0, .map (some tm)]), (fm, .map [] 0), (sm, .map [.mk (i64 1) (ptr st) 0] 1), (sh, .row .plain [i64 1048576, i64 1, .map (some fm), .map (some sm)]),
      (al, .map [.mk (u32 1) (ptr ob) 0] 1), (g, .row .plain [u32 1, .map (some al), ptr tr, ptr sh, .slice none 0 0, .slice none 0 0, u32 0, .bool false]),
      (ob, .row .plain [i64 2, u32 5, i64 0, u32 0, u32 0, .slice none 0 0, .map none, u32 0, u32 0, i64 0, u32 0, u32 0, u32 0, i64 1, u32 100, i64 u, .bool true, u32 0, .string (ByteArray.mk #[])]),
      (m, spO bj none 0 0), (st, .row .plain [.iface 270 (ptr bf), .pointer none, i64 1, i64 0, u32 0, u32 0]), (bf, .row .plain [.slice (some ⟨ro, 0, none⟩) k 1, .bool w]), (ro, .row .rw (cellsU (fill (memF B u) k k))), (bj, .row .rw (cells8 B))] ++ M) → K (.tuple ⟨[u32 1, i64 0]⟩) σ') :
    Tri Tryz.prog 97 [ptr c, i64 u] σ K := tri_in (by
  have hu' : u = 1 ∨ u = 4 := by rcases hu with ⟨h, _⟩ | ⟨h, _⟩ <;> simp [h]
  rw [s97]
  have hc : ∀ {X : List (Nat × AObj)}, (c, AObj.row .plain [ptr g, .iface 29 (ptr m), .slice (some ⟨ar, 0, none⟩) 4 1]) ∈ (c, AObj.row .plain [ptr g, .iface 29 (ptr m), .slice (some ⟨ar, 0, none⟩) 4 1]) :: X := List.mem_cons_self
  have ha : ∀ {y} {X : List (Nat × AObj)}, (ar, AObj.row .rw [u32 100, u32 k, u32 1, u32 5]) ∈ y :: (ar, AObj.row .rw [u32 100, u32 k, u32 1, u32 5]) :: X := List.mem_cons_of_mem _ List.mem_cons_self
  refine ldm H hc rfl (tL_mk (req_mk (by simp only; omega) ?_))
  simp only [pSome_some, aadd_none, szP32]
  refine ldm H ha rfl (tI_mk ?_)
  refine ldm H hc rfl (tL_mk (req_mk (by simp only; omega) ?_))
  simp only [pSome_some, aadd_none, szP32]
  refine ldm H ha rfl (tI_mk ?_)
  refine ldm H hc rfl (tL_mk (req_mk (by simp only; omega) ?_))
  simp only [pSome_some, aadd_none, szP32]
  refine ldm H ha rfl (tI_mk ?_)
  refine bmd_mk (fun h => by omega) (fun _ => ?_)
  refine tri_hard ?_
  rw [n158]
  refine beq_mk (fun h => by simp at h) (fun _ => ?_)
  simp only [tB_bool]
  refine bm_mk (fun h => by simp at h) (fun _ => ?_)
  refine req_mk (by omega) (req_mk (by omega) (req_mk (by rw [bytes32]; omega) ?_))
  rw [zeros, Int.toNat_natCast, ← fill_zero (memF B u)]
  refine newAt_mk H fun j σ1 H1 => ?_
  refine aloop (fun (i : Nat) rg σ' => i ≤ k ∧ Has σ' ((j, .row .rw (cellsU (fill (memF B u) i k))) :: (c, .row .plain [ptr g, .iface 29 (ptr m), .slice (some ⟨ar, 0, none⟩) 4 1]) :: (ar, .row .rw [u32 100, u32 k, u32 1, u32 5]) :: (m, spO bj none 0 0) :: (bj, .row .rw (cells8 B)) :: (w0 tm tr fm sm sh al g ++ M)) ∧
    rg = [(0, some (ptr c)), (1, some (i64 u)), (6, some (u32 100)), (8, some (u32 1)), (9, some (.slice (some ⟨j, 0, none⟩) k 1)), (40, some (i64 k)), (41, some (i64 i))]) (fun i => k - i) ?_ (a := 0) ⟨Nat.zero_le _, H1, rfl⟩
  rintro i rg σ2 X hX ⟨hi, H2, rfl⟩
  have hc2 : (c, AObj.row .plain [ptr g, .iface 29 (ptr m), .slice (some ⟨ar, 0, none⟩) 4 1]) ∈ ((j, .row .rw (cellsU (fill (memF B u) i k))) :: (c, .row .plain [ptr g, .iface 29 (ptr m), .slice (some ⟨ar, 0, none⟩) 4 1]) :: (ar, .row .rw [u32 100, u32 k, u32 1, u32 5]) :: (m, spO bj none 0 0) :: (bj, .row .rw (cells8 B)) :: (w0 tm tr fm sm sh al g ++ M) : List (Nat × AObj)) := List.mem_cons_of_mem _ List.mem_cons_self
  rw [s97l]
  refine bmd_mk (fun h => ?_) (fun h => ?_)
  · refine ldm H2 hc2 rfl ?_
    simp only [tIf, mGet, pSome_some]
    have ew : IntKind.wrap .u32 (100 + IntKind.wrap .u32 (IntKind.wrap .i64 ((i : Int) * (u : Int)))) = ((100 + u * i : Nat) : Int) := by
      have e0 : (i : Int) * (u : Int) = ((u * i : Nat) : Int) := by push_cast; rw [Int.mul_comm]
      have e1 : u * i ≤ 400 := by rcases hu' with rfl | rfl <;> omega
      rw [e0, wrap64 (by omega) (by omega), wrapU32 (n := ((u * i : Nat) : Int)) (by omega) (by omega), wrapU32 (by omega) (by omega)]
      omega
    have e1 : u * i ≤ 396 := by rcases hu' with rfl | rfl <;> omega
    rw [ew]
    refine c122 (B := B) (k := .rw) H2 (List.mem_cons_of_mem _ (List.mem_cons_of_mem _ (List.mem_cons_of_mem _ List.mem_cons_self))) (List.mem_cons_of_mem _ (List.mem_cons_of_mem _ (List.mem_cons_of_mem _ (List.mem_cons_of_mem _ List.mem_cons_self)))) hB hl hu' (by omega) ?_
    simp only [tTup_tup, pSome_some, List.getElem?_cons_zero, List.getElem?_cons_succ, tI_int]
    refine bne_mk (fun h => absurd rfl h) (fun _ => ?_)
    refine req_mk (by omega) (req_mk (by omega) ?_)
    simp only [pSome_some, aadd_none, szP32, Int.toNat_natCast, Nat.mul_one, Nat.zero_add]
    refine req_mk trivial (put0 H2 rfl (by simp [fill_len _ hi]; omega) fun σ3 H3 => ?_)
    have es : (cellsU (fill (memF B u) i k)).set i (u32 (beV ((B.drop (100 + u * i)).take u))) = cellsU (fill (memF B u) (i + 1) k) := by
      rw [← fill_set (memF B u) (by omega)]
      exact (List.map_set ..).symm
    rw [es] at H3
    rw [wrap1 (by omega)]
    exact hX (i + 1) _ _ (by omega) ⟨by omega, H3, rfl⟩
  · have e : i = k := by omega
    subst e
    refine bmd_mk (fun h => by omega) (fun _ => ?_)
    refine ldm H2 hc2 rfl ?_
    simp only [tP_ptr, pSome_some, w0, List.cons_append, List.nil_append]
    rw [ldc_eq (H2.g (i := g) (x := .row .plain [u32 0, .map (some al), ptr tr, ptr sh, .slice none 0 0, .slice none 0 0, u32 0, .bool false]) (by simp [w0]))]
    simp only [Nat.zero_add, List.getElem?_cons_zero, List.getElem?_cons_succ, pSome_some, tP_ptr]
    have ew : IntKind.wrap .i64 1 = 1 := by decide
    rw [ew]
    have hwe : ((u : Int) == 4) = w := by rcases hu with ⟨rfl, rfl⟩ | ⟨rfl, rfl⟩ <;> rfl
    rw [hwe]
    refine c159 (F := memF B u) (sm := sm) (fm := fm) (M := (j, .row .rw (cellsU (fill (memF B u) i i))) :: (c, .row .plain [ptr g, .iface 29 (ptr m), .slice (some ⟨ar, 0, none⟩) 4 1]) :: (ar, .row .rw [u32 100, u32 i, u32 1, u32 5]) :: (m, spO bj none 0 0) :: (bj, .row .rw (cells8 B)) :: (tm, .map [] 0) :: (tr, .row .plain [i64 20, i64 10, i64 0, i64 0, .map (some tm)]) :: (fm, .map [] 0) :: (al, .map [] 0) :: (g, .row .plain [u32 0, .map (some al), ptr tr, ptr sh, .slice none 0 0, .slice none 0 0, u32 0, .bool false]) :: M)
      (by decide) (by omega) (fun i _ => ⟨(memF_in hB hu').1, (memF_in hB hu').2.1⟩) (fun h i _ => (memF_in hB hu').2.2 (by rcases hu with ⟨h1, _⟩ | ⟨_, h1⟩ <;> simp_all)) (by simp) (H2.sep fun a => by simp only [w0, cnt_app, cnt_cons, cnt_nil]; omega) fun st bf ro σ3 H3 => ?_
    simp only [tTup_tup, pSome_some, List.getElem?_cons_zero, List.getElem?_cons_succ, tI_int]
    refine bne_mk (fun h => absurd rfl h) (fun _ => ?_)
    have hc3 := H3.g (i := c) (x := .row .plain [ptr g, .iface 29 (ptr m), .slice (some ⟨ar, 0, none⟩) 4 1]) (by simp)
    have ha3 := H3.g (i := ar) (x := .row .rw [u32 100, u32 i, u32 1, u32 5]) (by simp)
    rw [ldc_eq hc3]
    simp only [Nat.zero_add, List.getElem?_cons_zero, List.getElem?_cons_succ, pSome_some, tP_ptr]
    rw [ldc_eq hc3]
    simp only [Nat.zero_add, List.getElem?_cons_zero, List.getElem?_cons_succ, pSome_some]
    refine tL_mk (req_mk (by simp only; omega) ?_)
    simp only [pSome_some, aadd_none, szP32]
    refine ldm H3 (k := .rw) (cs := [u32 100, u32 i, u32 1, u32 5]) (by simp) rfl (tI_mk ?_)
    have e12 : ((1 : Int) != 2) = true := rfl
    rw [e12]
    refine newAt_mk H3 fun ob σ4 H4 => ?_
    rw [ldc_eq (H4.g (i := c) (x := .row .plain [ptr g, .iface 29 (ptr m), .slice (some ⟨ar, 0, none⟩) 4 1]) (by simp))]
    simp only [Nat.zero_add, List.getElem?_cons_zero, List.getElem?_cons_succ, pSome_some, tP_ptr]
    refine ⟨trivial, ?_⟩
    refine c157 (x := ob) (al := al) (cs := [ptr tr, ptr sh, .slice none 0 0, .slice none 0 0, u32 0, .bool false]) (H4.sep (M := (g, .row .plain [u32 0, .map (some al), ptr tr, ptr sh, .slice none 0 0, .slice none 0 0, u32 0, .bool false]) :: (al, .map [] 0) :: (ob, .row .plain [i64 2, u32 5, i64 0, u32 0, u32 0, .slice none 0 0, .map none, u32 0, u32 0, i64 0, u32 0, u32 0, u32 0, i64 1, u32 100, i64 u, .bool true, u32 0, .string (ByteArray.mk #[])])
       :: (tm, .map [] 0) :: (tr, .row .plain [i64 20, i64 10, i64 0, i64 0, .map (some tm)]) :: (fm, .map [] 0) :: (sm, .map [.mk (i64 1) (ptr st) 0] 1) :: (sh, .row .plain [i64 1048576, i64 1, .map (some fm), .map (some sm)]) :: (m, spO bj none 0 0) :: (st, .row .plain [.iface 270 (ptr bf), .pointer none, i64 1, i64 0, u32 0, u32 0]) :: (bf, .row .plain [.slice (some ⟨ro, 0, none⟩) i 1, .bool w]) :: (ro, .row .rw (cellsU (fill (memF B u) i i))) :: (bj, .row .rw (cells8 B)) :: M) (fun a => by simp only [cnt_app, cnt_cons, cnt_nil, i64, u32, u8, ptr, Nat.zero_add, Int.zero_add, List.nil_append, List.set_cons_zero, List.set_cons_succ]; omega)) fun σ5 H5 => ?_
    exact tI_mk (hK ob st bf ro σ5 (H5.sep fun a => by simp only [cnt_app, cnt_cons, cnt_nil, i64, u32, u8, ptr, Nat.zero_add, Int.zero_add, List.nil_append, List.set_cons_zero, List.set_cons_succ]; omega)))
end
end Go.AI
end
section
set_option linter.unusedSimpArgs false
set_option linter.unusedVariables false
set_option maxRecDepth 100000
/- A stream on memory: opened, written, closed, each by one call; no condition but those that each names. -/
namespace Go.AI
open Go.Proofs
section
variable {σ : AS} {K : Value → AS → Prop} {L M Fr : List (Nat × AObj)}
theorem n46a : ∀ (σ : AS) (K : Value → AS → Prop), callN Tryz.prog hints glE 80 46 [u32 67] σ K = K (i64 4) σ := by
  intros
  kernel_rfl
theorem n46b : ∀ (σ : AS) (K : Value → AS → Prop), callN Tryz.prog hints glE 80 46 [u32 313] σ K = K (i64 4) σ := by
  intros
  kernel_rfl
theorem n46c : ∀ (σ : AS) (K : Value → AS → Prop), callN Tryz.prog hints glE 80 46 [u32 68] σ K = K (i64 2) σ := by
  intros
  kernel_rfl
theorem renU (π : Nat → Nat) : renV π ∘ u32 = u32 := by funext a; simp [renV]
/-- What the world is with a stream on memory open. -/
def wL (u : Int) (w : Bool) (tm tr fm sm sh al g ob m st bf ro bj : Nat) (place written : Int) (k : Nat) (C B : List Int) : List (Nat × AObj) :=
  [(tm, .map [] 0), (tr, .row .plain [i64 20, i64 10, i64 0, i64 0, .map (some tm)]), (fm, .map [] 0), (sm, .map [.mk (i64 1) (ptr st) 0] 1), (sh, .row .plain [i64 1048576, i64 1, .map (some fm), .map (some sm)]),
      (al, .map [.mk (u32 1) (ptr ob) 0] 1), (g, .row .plain [u32 1, .map (some al), ptr tr, ptr sh, .slice none 0 0, .slice none 0 0, u32 0, .bool false]),
      (ob, .row .plain [i64 2, u32 5, i64 0, u32 0, u32 0, .slice none 0 0, .map none, u32 0, u32 0, i64 0, u32 0, u32 0, u32 0, i64 1, u32 100, i64 u, .bool true, u32 0, .string (ByteArray.mk #[])]),
      (m, spO bj none 0 0), (st, .row .plain [.iface 270 (ptr bf), .pointer none, i64 1, i64 place, u32 0, u32 written]), (bf, .row .plain [.slice (some ⟨ro, 0, none⟩) k 1, .bool w]), (ro, .row .rw (cellsU C)), (bj, .row .rw (cells8 B))]
theorem c16op {tm tr fm sm sh al g m bj ar u k : Nat} {w : Bool} {B : List Int} (hB : ∀ c ∈ B, 0 ≤ c ∧ c < 256) (hl : B.length = 1024) (hu : (u = 1 ∧ w = false) ∨ (u = 4 ∧ w = true)) (hk : k < 100)
    (H : Has σ ((ar, .row .rw [u32 100, u32 k, u32 1, u32 5]) :: (m, spO bj none 0 0) :: (bj, .row .rw (cells8 B)) :: (w0 tm tr fm sm sh al g ++ M)))
    (hK : ∀ ob st bf ro σ', Has σ' (wL u w tm tr fm sm sh al g ob m st bf ro bj 0 0 k (fill (memF B u) k k) B ++ M) → K (.tuple ⟨[u32 1, i64 0]⟩) σ') :
    Tri Tryz.prog 16 [ptr g, .iface 29 (ptr m), u32 (if w = true then 313 else 67), .slice (some ⟨ar, 0, none⟩) 4 1] σ K := by
  have hg : (g, AObj.row .plain [u32 0, .map (some al), ptr tr, ptr sh, .slice none 0 0, .slice none 0 0, u32 0, .bool false]) ∈ ((ar, .row .rw [u32 100, u32 k, u32 1, u32 5]) :: (m, spO bj none 0 0) :: (bj, .row .rw (cells8 B)) :: (w0 tm tr fm sm sh al g ++ M) : List (Nat × AObj)) := by simp [w0]
  rcases hu with ⟨rfl, rfl⟩ | ⟨rfl, rfl⟩
  · refine tri_in ?_
    simp only [Bool.false_eq_true, if_false]
    rw [s16mem]
    refine ldm H hg rfl ?_
    simp only [tB_bool, bm_false]
    refine tri_hard ?_
    rw [n46a]
    refine tI_mk (bne_mk (fun h => absurd rfl h) (fun _ => ?_))
    refine newAt_mk H fun c σ1 H1 => tri_in ?_
    rw [s50mem]
    refine c97 (w := false) hB hl (.inl ⟨rfl, rfl⟩) hk H1 fun ob st bf ro σ2 H2 => ?_
    simp only [tTup_tup, pSome_some, List.getElem?_cons_zero, List.getElem?_cons_succ, tI_int]
    exact hK ob st bf ro σ2 H2
  · refine tri_in ?_
    simp only [if_true]
    rw [s16memw]
    refine ldm H hg rfl ?_
    simp only [tB_bool, bm_false]
    refine tri_hard ?_
    rw [n46b]
    refine tI_mk (bne_mk (fun h => absurd rfl h) (fun _ => ?_))
    refine newAt_mk H fun c σ1 H1 => tri_in ?_
    rw [s50memw]
    refine c97 (w := true) hB hl (.inr ⟨rfl, rfl⟩) hk H1 fun ob st bf ro σ2 H2 => ?_
    simp only [tTup_tup, pSome_some, List.getElem?_cons_zero, List.getElem?_cons_succ, tI_int]
    exact hK ob st bf ro σ2 H2
theorem c160 {sh sm fm st bf ro n : Nat} {pl r wr : Int} {C : List Int} {w : Bool}
    (H : Has σ ([(sh, .row .plain [i64 1048576, i64 1, .map (some fm), .map (some sm)]), (sm, .map [.mk (i64 1) (ptr st) 0] 1), (fm, .map [] 0), (st, .row .plain [.iface 270 (ptr bf), .pointer none, i64 1, i64 pl, u32 r, u32 wr]), (bf, .row .plain [.slice (some ⟨ro, 0, none⟩) n 1, .bool w]), (ro, .row .rw (cellsU C))] ++ M))
    (hK : ∀ σ', Has σ' ([(sh, .row .plain [i64 1048576, i64 1, .map (some fm), .map (some sm)]), (sm, .map [] 1), (fm, .map [] 0), (st, .row .plain [.iface 270 (ptr bf), .pointer none, i64 1, i64 pl, u32 r, u32 wr]), (bf, .row .plain [.slice (some ⟨ro, 0, none⟩) n 1, .bool w]), (ro, .row .rw (cellsU C))] ++ M) → K (.tuple ⟨[u32 r, u32 wr, .slice (some ⟨ro, 0, none⟩) n 1, i64 0]⟩) σ') :
    Tri Tryz.prog 160 [ptr sh, i64 1] σ K := by
  refine tri_can2 (Eq.tri (n160 pl r wr C n w _) ⟨rfl, _, rfl⟩) (ids := [sh, sm, fm, st, bf, ro]) (Fr := M) rfl rfl rfl ?_ ?_ fun q σ' H' => ?_
  · simpa [pairs, renO, renV, renE, pf, renU] using H
  · simp [renVs, renV, pf]
  · have := hK σ' (by simpa [pairs, renO, renV, renE, pf, renU] using H')
    simpa [renVs, renV, pf] using this
theorem setN_app {B P Q : List Int} {a : Nat} (h : a + P.length + Q.length ≤ B.length) : setN (setN B a P) (a + P.length) Q = setN B a (P ++ Q) := by
  unfold setN
  have e1 : (B.take a ++ P).length = a + P.length := by simp; omega
  rw [List.take_append_of_le_length (by simp; omega), ← e1, List.take_length, List.drop_append, List.drop_of_length_le (by omega), e1]
  simp only [List.append_assoc, List.nil_append, List.drop_drop, List.length_append]
  congr 4
  omega
/-- The numbers' bytes one behind the other. -/
def flatP (u : Nat) (C : List Int) : List Int := C.flatMap (beP u)
theorem flatP_len {u : Nat} (hu : u = 1 ∨ u = 4) : ∀ C : List Int, (flatP u C).length = u * C.length
  | [] => by simp [flatP]
  | c :: C => by
    have := flatP_len hu C
    unfold flatP at this ⊢
    rw [List.flatMap_cons, List.length_append, this, beP_len hu, List.length_cons, Nat.mul_add]
    omega
theorem flatP_snoc (u : Nat) (C : List Int) (c : Int) : flatP u (C ++ [c]) = flatP u C ++ beP u c := by unfold flatP; simp
end
end Go.AI
end
section
set_option linter.unusedSimpArgs false
set_option linter.unusedVariables false
set_option maxRecDepth 100000
/- A stream on memory closed by a call; no condition but those that each names. -/
namespace Go.AI
open Go.Proofs
section
variable {σ : AS} {K : Value → AS → Prop} {L M Fr : List (Nat × AObj)}
theorem c100 {u : Nat} {w : Bool} {tm tr fm sm sh al g ob m st bf ro bj c ar k : Nat} {place written : Int} {C B : List Int} (hl : B.length = 1024) (hu : u = 1 ∨ u = 4) (hk : k < 100) (hC : C.length = k) (hCx : ∀ x ∈ C, 0 ≤ x ∧ x ≤ 4294967295)
    (H : Has σ ((c, .row .plain [ptr g, .iface 29 (ptr m), .slice (some ⟨ar, 0, none⟩) 2 1]) :: (ar, .row .rw [u32 1, u32 4294967295]) :: (wL u w tm tr fm sm sh al g ob m st bf ro bj place written k C B ++ M)))
    (hK : ∀ a' e' rows' σ', SlC 1 a' e' (cellsU [0, written]) rows' → Has σ' (rows' ++ ((m, spO bj a' 2 e') :: (bj, .row .rw (cells8 (setN B 100 (flatP u C)))) :: M)) → K (.tuple ⟨[u32 0, i64 0]⟩) σ') :
    Tri Tryz.prog 100 [ptr c, ptr ob] σ K := tri_in (by
  rw [s100]
  have hc := H.g (i := c) (x := .row .plain [ptr g, .iface 29 (ptr m), .slice (some ⟨ar, 0, none⟩) 2 1]) (by simp)
  have hg := H.g (i := g) (x := .row .plain [u32 1, .map (some al), ptr tr, ptr sh, .slice none 0 0, .slice none 0 0, u32 0, .bool false]) (by simp [wL])
  have ho := H.g (i := ob) (x := .row .plain [i64 2, u32 5, i64 0, u32 0, u32 0, .slice none 0 0, .map none, u32 0, u32 0, i64 0, u32 0, u32 0, u32 0, i64 1, u32 100, i64 u, .bool true, u32 0, .string (ByteArray.mk #[])]) (by simp [wL])
  rw [ldc_eq hc]
  simp only [Nat.zero_add, List.getElem?_cons_zero, List.getElem?_cons_succ, pSome_some, tP_ptr]
  rw [ldc_eq hg]
  simp only [Nat.zero_add, List.getElem?_cons_zero, List.getElem?_cons_succ, pSome_some, tP_ptr]
  rw [ldc_eq ho]
  simp only [Nat.zero_add, List.getElem?_cons_zero, List.getElem?_cons_succ, pSome_some, tI_int]
  refine c160 (n := k) (w := w) (st := st) (bf := bf) (ro := ro) (fm := fm) (sm := sm) (C := C) (pl := place) (r := 0) (wr := written)
    (M := (al, .map [.mk (u32 1) (ptr ob) 0] 1) :: (c, .row .plain [ptr g, .iface 29 (ptr m), .slice (some ⟨ar, 0, none⟩) 2 1]) :: (ar, .row .rw [u32 1, u32 4294967295]) :: (g, .row .plain [u32 1, .map (some al), ptr tr, ptr sh, .slice none 0 0, .slice none 0 0, u32 0, .bool false]) :: (ob, .row .plain [i64 2, u32 5, i64 0, u32 0, u32 0, .slice none 0 0, .map none, u32 0, u32 0, i64 0, u32 0, u32 0, u32 0, i64 1, u32 100, i64 u, .bool true, u32 0, .string (ByteArray.mk #[])]) :: (m, spO bj none 0 0) :: (bj, .row .rw (cells8 B)) :: M)
    (H.sep fun a => by simp only [wL, cnt_app, cnt_cons, cnt_nil]; omega) fun σ1 H1 => ?_
  simp only [tTup_tup, pSome_some, List.getElem?_cons_zero, List.getElem?_cons_succ, tI_int]
  refine tL_mk ?_
  have hc1 := H1.g (i := c) (x := .row .plain [ptr g, .iface 29 (ptr m), .slice (some ⟨ar, 0, none⟩) 2 1]) (by simp)
  have hg1 := H1.g (i := g) (x := .row .plain [u32 1, .map (some al), ptr tr, ptr sh, .slice none 0 0, .slice none 0 0, u32 0, .bool false]) (by simp)
  rw [ldc_eq hc1]
  simp only [Nat.zero_add, List.getElem?_cons_zero, List.getElem?_cons_succ, pSome_some, tP_ptr]
  rw [ldc_eq hg1]
  simp only [Nat.zero_add, List.getElem?_cons_zero, List.getElem?_cons_succ, pSome_some, tM_map]
  rw [ldc_eq hc1]
  simp only [Nat.zero_add, List.getElem?_cons_zero, List.getElem?_cons_succ, pSome_some, tM_map]
  refine tL_mk (req_mk (by simp only; omega) ?_)
  simp only [pSome_some, aadd_none, szP32]
  refine ldm H1 (k := .rw) (cs := [u32 1, u32 4294967295]) (by simp) rfl (tI_mk ?_)
  refine mdel0 (H1.sep (M := (al, .map [.mk (u32 1) (ptr ob) 0] 1) :: (c, .row .plain [ptr g, .iface 29 (ptr m), .slice (some ⟨ar, 0, none⟩) 2 1]) :: (ar, .row .rw [u32 1, u32 4294967295]) :: (g, .row .plain [u32 1, .map (some al), ptr tr, ptr sh, .slice none 0 0, .slice none 0 0, u32 0, .bool false]) :: (ob, .row .plain [i64 2, u32 5, i64 0, u32 0, u32 0, .slice none 0 0, .map none, u32 0, u32 0, i64 0, u32 0, u32 0, u32 0, i64 1, u32 100, i64 u, .bool true, u32 0, .string (ByteArray.mk #[])]) :: (m, spO bj none 0 0) :: (bj, .row .rw (cells8 B)) :: (ro, .row .rw (cellsU C)) :: M) (fun a => by simp only [cnt_app, cnt_cons, cnt_nil]; omega)) rfl fun σ2 H2 => ?_
  have hc2 := H2.g (i := c) (x := .row .plain [ptr g, .iface 29 (ptr m), .slice (some ⟨ar, 0, none⟩) 2 1]) (by simp)
  have hg2 := H2.g (i := g) (x := .row .plain [u32 1, .map (some al), ptr tr, ptr sh, .slice none 0 0, .slice none 0 0, u32 0, .bool false]) (by simp)
  rw [ldc_eq hc2]
  simp only [Nat.zero_add, List.getElem?_cons_zero, List.getElem?_cons_succ, pSome_some, tP_ptr]
  rw [ldc_eq hg2]
  simp only [Nat.zero_add, List.getElem?_cons_zero, List.getElem?_cons_succ, pSome_some, tI_int]
  rw [ldc_eq hc2]
  simp only [Nat.zero_add, List.getElem?_cons_zero, List.getElem?_cons_succ, pSome_some]
  refine tL_mk (req_mk (by simp only; omega) ?_)
  simp only [pSome_some, aadd_none, szP32]
  refine ldm H2 (k := .rw) (cs := [u32 1, u32 4294967295]) (by simp) rfl (tI_mk ?_)
  refine beq_mk (fun h => by simp at h) (fun _ => ?_)
  refine aloop (fun (i : Nat) rg σ' => i ≤ k ∧ Has σ' ((bj, .row .rw (cells8 (setN B 100 (flatP u (C.take i))))) :: (m, spO bj none 0 0) :: (c, .row .plain [ptr g, .iface 29 (ptr m), .slice (some ⟨ar, 0, none⟩) 2 1]) :: (ar, .row .rw [u32 1, u32 4294967295]) :: (ob, .row .plain [i64 2, u32 5, i64 0, u32 0, u32 0, .slice none 0 0, .map none, u32 0, u32 0, i64 0, u32 0, u32 0, u32 0, i64 1, u32 100, i64 u, .bool true, u32 0, .string (ByteArray.mk #[])]) :: (ro, .row .rw (cellsU C)) :: M) ∧
    rg = [(0, some (ptr c)), (1, some (ptr ob)), (6, some (u32 0)), (7, some (u32 written)), (63, some (.slice (some ⟨ro, 0, none⟩) k 1)), (64, some (i64 k)), (65, some (i64 i))]) (fun i => k - i) ?_ (a := 0) ⟨Nat.zero_le _, ?_, rfl⟩
  · rintro i rg σ3 X hX ⟨hi, H3, rfl⟩
    rw [s100l]
    have hc3 := H3.g (i := c) (x := .row .plain [ptr g, .iface 29 (ptr m), .slice (some ⟨ar, 0, none⟩) 2 1]) (by simp)
    have ho3 := H3.g (i := ob) (x := .row .plain [i64 2, u32 5, i64 0, u32 0, u32 0, .slice none 0 0, .map none, u32 0, u32 0, i64 0, u32 0, u32 0, u32 0, i64 1, u32 100, i64 u, .bool true, u32 0, .string (ByteArray.mk #[])]) (by simp)
    refine bmd_mk (fun h => ?_) (fun h => ?_)
    · refine req_mk (by omega) (req_mk h ?_)
      simp only [pSome_some, aadd_none, szP32, Int.toNat_natCast, Nat.mul_one, Nat.zero_add]
      refine req_mk trivial ?_
      obtain ⟨v, hv⟩ : ∃ v, C[i]? = some v := ⟨C[i]'(by omega), by simp⟩
      refine ldm H3 (k := .rw) (cs := cellsU C) (by simp) (cU hv) (tI_mk ?_)
      rw [ldc_eq ho3]
      simp only [List.getElem?_cons_zero, List.getElem?_cons_succ, pSome_some, tB_bool, Bool.not_true, bm_false]
      rw [ldc_eq hc3]
      simp only [List.getElem?_cons_zero, List.getElem?_cons_succ, pSome_some, tIf]
      rw [ldc_eq ho3]
      simp only [List.getElem?_cons_zero, List.getElem?_cons_succ, pSome_some, tI_int]
      rw [ldc_eq ho3]
      simp only [List.getElem?_cons_zero, List.getElem?_cons_succ, pSome_some, tI_int]
      rw [ldc_eq ho3]
      simp only [List.getElem?_cons_zero, List.getElem?_cons_succ, pSome_some, tI_int, mSet]
      have e1 : u * i ≤ 396 := by rcases hu with rfl | rfl <;> omega
      have ew : IntKind.wrap .u32 (100 + IntKind.wrap .u32 (IntKind.wrap .i64 ((i : Int) * (u : Int)))) = ((100 + u * i : Nat) : Int) := by
        have e0 : (i : Int) * (u : Int) = ((u * i : Nat) : Int) := by push_cast; rw [Int.mul_comm]
        rw [e0, wrap64 (by omega) (by omega), wrapU32 (n := ((u * i : Nat) : Int)) (by omega) (by omega), wrapU32 (by omega) (by omega)]
        omega
      rw [ew]
      have el : (flatP u (C.take i)).length = u * i := by rw [flatP_len hu, List.length_take, Nat.min_eq_left (by omega)]
      have e2 : u ≤ 4 := by omega
      refine c128 (n := u) H3 (by rw [setN_len (by rw [el]; omega)]; exact hl) hu (hCx v (List.mem_of_getElem? hv)) (by omega) fun σ4 H4 => ?_
      refine tI_mk (bne_mk (fun h => absurd rfl h) (fun _ => ?_))
      rw [wrap1 (by omega)]
      refine hX (i + 1) _ _ (by omega) ⟨by omega, ?_, rfl⟩
      have e3 : setN (setN B 100 (flatP u (C.take i))) (100 + u * i) (beP u v) = setN B 100 (flatP u (C.take (i + 1))) := by
        have := setN_app (B := B) (P := flatP u (C.take i)) (Q := beP u v) (a := 100) (by rw [el, beP_len hu]; omega)
        rw [el] at this
        rw [this, ← flatP_snoc, List.take_add_one, hv]
        rfl
      rw [e3] at H4
      exact H4
    · have e : i = k := by omega
      subst e
      rw [List.take_of_length_le (by omega)] at H3
      rw [ldc_eq hc3]
      simp only [Nat.zero_add, List.getElem?_cons_zero, List.getElem?_cons_succ, pSome_some]
      refine tL_mk (req_mk (by simp only; omega) ?_)
      simp only [pSome_some, aadd_none, szP32]
      refine ldm H3 (k := .rw) (cs := [u32 1, u32 4294967295]) (by simp) rfl (tI_mk ?_)
      refine newAt_mk H3 fun j σ4 H4 => ?_
      refine c92 (V := [0, written]) (S := []) (rows := []) (bj := bj) (ln := 0) (M := (bj, .row .rw (cells8 (setN B 100 (flatP u C)))) :: (c, .row .plain [ptr g, .iface 29 (ptr m), .slice (some ⟨ar, 0, none⟩) 2 1]) :: (j, .row .rw [u32 0, u32 written]) :: M) (SlC.nil 0) rfl (by simp) (List.mem_cons_of_mem _ List.mem_cons_self) (List.mem_cons_of_mem _ (List.mem_cons_of_mem _ List.mem_cons_self))
        (H4.sep fun a => by simp only [cnt_app, cnt_cons, cnt_nil, u32]; omega) fun a' e' rows' σ5 hs H5 => ?_
      simp only [tTup_tup, pSome_some, List.getElem?_cons_zero, List.getElem?_cons_succ, tI_int]
      exact hK a' e' rows' σ5 hs (H5.sep fun a => by simp only [cnt_app, cnt_cons, cnt_nil, List.length_cons, List.length_nil, Nat.zero_add, Nat.reduceAdd]; omega)
  · rw [List.take_zero]
    have e0 : flatP u [] = [] := rfl
    rw [e0, setN_nil]
    exact H2.sep fun a => by simp only [cnt_app, cnt_cons, cnt_nil]; omega)
end
end Go.AI
end
section
set_option linter.unusedSimpArgs false
set_option linter.unusedVariables false
set_option maxRecDepth 100000
/- The close of a stream on memory as a call; a character put; no condition but those that each names. -/
namespace Go.AI
open Go.Proofs
section
variable {σ : AS} {K : Value → AS → Prop} {L M Fr : List (Nat × AObj)}
theorem c54 {g al ob : Nat} {gs os : List Value} {es : List MapEntry} {n i : Nat} {id sort : Int} {y : Value} (hg : (g, AObj.row .plain (y :: .map (some al) :: gs)) ∈ L) (hal : (al, AObj.map es n) ∈ L) (ho : (ob, AObj.row .plain (i64 sort :: os)) ∈ L) (hf : Instr.findNow (.int .u32) (u32 id) es 0 = some (some (i, ptr ob))) (H : Has σ L)
    (hK : K (ptr ob) σ) : Tri Tryz.prog 54 [ptr g, u32 id, i64 sort] σ K := tri_in (by
  rw [s54]
  refine ldm H hg rfl ?_
  simp only [tM_map]
  rw [mget_eq (H.g hal), hf]
  simp only [pSome_some, Option.map, Option.getD, tP_ptr, ptrEq_some, Bool.not_false, bm_true, add_none]
  refine ldm H ho rfl (tI_mk ?_)
  exact beq_mk (fun _ => hK) (fun h => absurd rfl h))
theorem c16cl {u : Nat} {w : Bool} {tm tr fm sm sh al g ob m st bf ro bj ar k : Nat} {place written : Int} {C B : List Int} (hl : B.length = 1024) (hu : u = 1 ∨ u = 4) (hk : k < 100) (hC : C.length = k) (hCx : ∀ x ∈ C, 0 ≤ x ∧ x ≤ 4294967295)
    (H : Has σ ((ar, .row .rw [u32 1, u32 4294967295]) :: (wL u w tm tr fm sm sh al g ob m st bf ro bj place written k C B ++ M)))
    (hK : ∀ a' e' rows' σ', SlC 1 a' e' (cellsU [0, written]) rows' → Has σ' (rows' ++ ((m, spO bj a' 2 e') :: (bj, .row .rw (cells8 (setN B 100 (flatP u C)))) :: M)) → K (.tuple ⟨[u32 0, i64 0]⟩) σ') :
    Tri Tryz.prog 16 [ptr g, .iface 29 (ptr m), u32 68, .slice (some ⟨ar, 0, none⟩) 2 1] σ K := tri_in (by
  rw [s16cl]
  rw [ldc_eq (H.g (i := g) (x := .row .plain [u32 1, .map (some al), ptr tr, ptr sh, .slice none 0 0, .slice none 0 0, u32 0, .bool false]) (by simp [wL]))]
  simp only [Nat.zero_add, List.getElem?_cons_zero, List.getElem?_cons_succ, pSome_some, tB_bool, bm_false]
  refine tri_hard ?_
  rw [n46c]
  refine tI_mk (bne_mk (fun h => absurd rfl h) (fun _ => ?_))
  refine newAt_mk H fun c σ1 H1 => tri_in ?_
  rw [s50cl]
  have hc := H1.g (i := c) (x := .row .plain [ptr g, .iface 29 (ptr m), .slice (some ⟨ar, 0, none⟩) 2 1]) (by simp)
  rw [ldc_eq hc]
  simp only [Nat.zero_add, List.getElem?_cons_zero, List.getElem?_cons_succ, pSome_some, tP_ptr]
  rw [ldc_eq hc]
  simp only [Nat.zero_add, List.getElem?_cons_zero, List.getElem?_cons_succ, pSome_some]
  refine tL_mk (req_mk (by simp only; omega) ?_)
  simp only [pSome_some, aadd_none, szP32]
  refine ldm H1 (k := .rw) (cs := [u32 1, u32 4294967295]) (by simp) rfl (tI_mk ?_)
  refine c54 (y := u32 1) (al := al) (ob := ob) (es := [.mk (u32 1) (ptr ob) 0]) (n := 1) (i := 0) (gs := [ptr tr, ptr sh, .slice none 0 0, .slice none 0 0, u32 0, .bool false]) (os := [u32 5, i64 0, u32 0, u32 0, .slice none 0 0, .map none, u32 0, u32 0, i64 0, u32 0, u32 0, u32 0, i64 1, u32 100, i64 u, .bool true, u32 0, .string (ByteArray.mk #[])]) (by simp [wL]) (by simp [wL]) (by simp [wL]) rfl H1 ?_
  simp only [tP_ptr, ptrEq_some, bm_false, pSome_some]
  rw [ldc_eq (H1.g (i := ob) (x := .row .plain [i64 2, u32 5, i64 0, u32 0, u32 0, .slice none 0 0, .map none, u32 0, u32 0, i64 0, u32 0, u32 0, u32 0, i64 1, u32 100, i64 u, .bool true, u32 0, .string (ByteArray.mk #[])]) (by simp [wL]))]
  simp only [Nat.zero_add, List.getElem?_cons_zero, List.getElem?_cons_succ, pSome_some, tI_int]
  refine bne_mk (fun h => absurd rfl h) (fun _ => ?_)
  refine c100 hl hu hk hC hCx H1 fun a' e' rows' σ2 hs H2 => ?_
  simp only [tTup_tup, pSome_some, List.getElem?_cons_zero, List.getElem?_cons_succ, tI_int]
  exact hK a' e' rows' σ2 hs H2)
/-- A character put. -/
theorem c16put {u : Nat} {w : Bool} {tm tr fm sm sh al g ob m st bf ro bj ar k p : Nat} {x written : Int} {C B : List Int} (hu : (u = 1 ∧ w = false) ∨ (u = 4 ∧ w = true)) (hx : 0 ≤ x ∧ x ≤ 4294967295) (hp : p ≤ k) (hk : k ≤ 4096) (hC : C.length = k)
    (H : Has σ ((ar, .row .rw [u32 1, u32 x]) :: (wL u w tm tr fm sm sh al g ob m st bf ro bj p written k C B ++ M)))
    (hK : ∀ σ', Has σ' (wL u w tm tr fm sm sh al g ob m st bf ro bj (if p < k then p + 1 else p : Nat) (IntKind.wrap .u32 (written + 1)) k (if p < k then C.set p (chM w x) else C) B ++ M) → K (.tuple ⟨[u32 0, i64 0]⟩) σ') :
    Tri Tryz.prog 16 [ptr g, .iface 29 (ptr m), u32 299, .slice (some ⟨ar, 0, none⟩) 2 1] σ K := by
  refine cput (u := u) (w := w) (p := p) (Fr := M) (tm := tm) (tr := tr) (fm := fm) (sm := sm) (sh := sh) (al := al) (ob := ob) (bu := bf) (st := st) (ro := ro) (bj := bj) (written := written) (C := C) (B := B) (by rcases hu with ⟨rfl, rfl⟩ | ⟨rfl, rfl⟩ <;> simp) hx hp hk hC (H.sep fun a => by simp only [pairs, wM, wL, cnt_app, cnt_cons, cnt_nil]; omega) fun σ' H' => ?_
  exact hK σ' (H'.sep fun a => by simp only [pairs, wM, wL, cnt_app, cnt_cons, cnt_nil]; omega)
end
end Go.AI
end
