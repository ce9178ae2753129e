/- Lemmas of the abstract condition ahead of code (a part of the library that the claim's proof stands on); they hold with no condition but those that each names. -/
import Derived.Test.YtfjbhgldbgamhaaTyBase
import Derived.Test.YtfjbhgldbgamhaaTyForm6
import Derived.Test.YtfjbhgldbgamhaaTyTab
import Derived.Test.YtfjbhgldbgamhaaTyForm1
import Derived.Test.YtfjbhgldbgamhaaTyForm8
section
/- The sort, exactly: insertion sort, heap sort, a row turned about; no condition. -/
set_option maxRecDepth 4000
set_option linter.unusedVariables false
set_option linter.unusedSimpArgs false
namespace Go.AI
open Go.Proofs
open Go.Sort (ltInt swp)
/-- A row of these numbers, and what is known beside it. -/
def RowA (j n : Nat) (A : Array Int) (L : List (Nat × AObj)) (σ : AS) : Prop := A.size = n ∧ Has σ (rowL j A.toList L)
/-- The slice of that row. -/
def SlA (d : Option Addr) (j n : Nat) : Prop := n ≠ 0 → d = some ⟨j, 0, none⟩
abbrev unit0 : Value := .tuple ⟨[]⟩
theorem ltInt_eq (x y : Int) : ltInt x y = decide (x < y) := rfl
theorem swp_size (A : Array Int) (i j : Nat) : (swp A i j).size = A.size := by simp [swp]
section
variable {σ : AS} {K : Value → AS → Prop} {j n : Nat} {A : Array Int} {L : List (Nat × AObj)} {d : Option Addr}
theorem cellsA {e : Nat} (h : e < A.size) : (cellsU A.toList)[e]? = some (u32 A[e]!) := by
  have h1 : A.toList[e]? = some A[e]! := by
    rw [Array.getElem?_toList, Array.getElem!_eq_getD, Array.getD_eq_getD_getElem?]
    rw [Array.getElem?_eq_getElem h]
    rfl
  simp [cellsU, h1]
theorem rdA {e : Nat} {G : Int → Prop} (hR : RowA j n A L σ) (hd : SlA d j n) (h1 : e < n) (hG : G A[e]!) :
    req (0 ≤ (e : Int)) (req ((e : Int) < (n : Int)) (pSome d fun a => ldc σ (Addr.add a (Int.toNat (e : Int) * szOf Try.prog 22)) fun v => tI .u32 v G)) := by
  obtain ⟨hl, H⟩ := hR
  refine req_mk (by omega) (req_mk (by omega) ?_)
  obtain rfl := hd (by omega)
  have hz : szOf Try.prog 22 = 1 := by kernel_rfl
  have hne : A.toList ≠ [] := fun h => by
    have : A.toList.length = 0 := by rw [h]; rfl
    rw [Array.length_toList] at this; omega
  rw [rowL_ne hne] at H
  simp only [pSome_some, hz, add_none, Nat.mul_one, Nat.zero_add, Int.toNat_natCast]
  exact ldc_mk H 0 rfl (cellsA (by omega)) (tI_mk hG)
theorem wrA {e : Nat} {x : Int} {G : AS → Prop} (hR : RowA j n A L σ) (hd : SlA d j n) (h1 : e < n) (hG : ∀ σ', RowA j n (A.setIfInBounds e x) L σ' → G σ') :
    req (0 ≤ (e : Int)) (req ((e : Int) < (n : Int)) (pSome d fun a => put1 σ (Addr.add a (Int.toNat (e : Int) * szOf Try.prog 22)) (u32 x) G)) := by
  obtain ⟨hl, H⟩ := hR
  refine req_mk (by omega) (req_mk (by omega) ?_)
  obtain rfl := hd (by omega)
  have hz : szOf Try.prog 22 = 1 := by kernel_rfl
  have hne : A.toList ≠ [] := fun h => by
    have : A.toList.length = 0 := by rw [h]; rfl
    rw [Array.length_toList] at this; omega
  rw [rowL_ne hne] at H
  simp only [pSome_some, hz, add_none, Nat.mul_one, Nat.zero_add, Int.toNat_natCast]
  refine put1_mk H 0 rfl rfl (by simp; omega) fun σ' H' => hG σ' ⟨by simpa using hl, ?_⟩
  have hne' : (A.setIfInBounds e x).toList ≠ [] := fun h => by
    have : (A.setIfInBounds e x).toList.length = 0 := by rw [h]; rfl
    rw [Array.length_toList, Array.size_setIfInBounds] at this; omega
  rw [rowL_ne hne']
  simpa using H'
theorem swA {e f : Nat} {G : AS → Prop} (hR : RowA j n A L σ) (hd : SlA d j n) (h1 : e < n) (h3 : f < n) (hG : ∀ σ', RowA j n (swp A f e) L σ' → G σ') :
    req (0 ≤ (e : Int)) (req ((e : Int) < (n : Int)) (pSome d fun a => ldc σ (Addr.add a (Int.toNat (e : Int) * szOf Try.prog 22)) fun v => tI .u32 v fun x =>
      req (0 ≤ (f : Int)) (req ((f : Int) < (n : Int)) (pSome d fun a => ldc σ (Addr.add a (Int.toNat (f : Int) * szOf Try.prog 22)) fun v => tI .u32 v fun y =>
        req (0 ≤ (f : Int)) (req ((f : Int) < (n : Int)) (pSome d fun a => put1 σ (Addr.add a (Int.toNat (f : Int) * szOf Try.prog 22)) (u32 x) fun σ1 =>
          req (0 ≤ (e : Int)) (req ((e : Int) < (n : Int)) (pSome d fun a => put1 σ1 (Addr.add a (Int.toNat (e : Int) * szOf Try.prog 22)) (u32 y) G)))))))) :=
  rdA hR hd h1 (rdA hR hd h3 (wrA hR hd h3 fun σ1 hR1 => wrA hR1 hd h1 hG))
theorem c57 {x y : Int} (hK : K (.bool (ltInt x y)) σ) : Tri Try.prog 57 [u32 x, u32 y] σ K := tri_in (by
  rw [s57]
  refine tri_in ?_
  rw [s67]
  have e : (x != x) = false := by simp
  rw [e]
  simp only [tB_bool, bm_false]
  exact hK)
theorem ltA {e f : Nat} {G : Bool → AS → Prop} (hR : RowA j n A L σ) (hd : SlA d j n) (h1 : e < n) (h3 : f < n) (hG : G (ltInt A[e]! A[f]!) σ) :
    req (0 ≤ (e : Int)) (req ((e : Int) < (n : Int)) (pSome d fun a => ldc σ (Addr.add a (Int.toNat (e : Int) * szOf Try.prog 22)) fun v => tI .u32 v fun x =>
      req (0 ≤ (f : Int)) (req ((f : Int) < (n : Int)) (pSome d fun a => ldc σ (Addr.add a (Int.toNat (f : Int) * szOf Try.prog 22)) fun v => tI .u32 v fun y =>
        Tri Try.prog 57 [u32 x, u32 y] σ fun v σ' => tB v fun b => G b σ')))) :=
  rdA hR hd h1 (rdA hR hd h3 (c57 (by simp only [tB_bool]; exact hG)))
theorem insInner_step {a k : Nat} (h : a < k) (A : Array Int) : Go.Sort.insInner ltInt a k A = if ltInt A[k]! A[k - 1]! then Go.Sort.insInner ltInt a (k - 1) (swp A k (k - 1)) else A := by
  cases k with
  | zero => omega
  | succ k =>
    rw [Go.Sort.insInner]
    have : k + 1 > a := h
    simp only [this, decide_true, Bool.true_and, Nat.add_sub_cancel]
theorem insInner_stop {a k : Nat} (h : k ≤ a) (A : Array Int) : Go.Sort.insInner ltInt a k A = A := by
  cases k with
  | zero => rfl
  | succ k =>
    rw [Go.Sort.insInner]
    have : ¬ (k + 1 > a) := by omega
    simp [this]
theorem c51 {a b : Nat} (hR : RowA j n A L σ) (hd : SlA d j n) (hab : a ≤ b) (hb : b ≤ n) (hn : n ≤ 1048576) (hK : ∀ σ', RowA j n (Go.Sort.insertionSort ltInt A a b) L σ' → K unit0 σ') :
    Tri Try.prog 51 [.slice d n 1, i64 a, i64 b] σ K := tri_in (by
  rw [s51, wrap64 (by omega) (by omega)]
  generalize hT : Go.Sort.insertionSort ltInt A a b = T at hK
  refine aloop (fun (p : Nat × Array Int) r σ => a < p.1 ∧ RowA j n p.2 L σ ∧ Go.Sort.insOuter ltInt a b p.1 p.2 = T ∧ r = [(0, some (.slice d n 1)), (1, some (i64 a)), (2, some (i64 b)), (6, some (i64 p.1))]) (fun p => b - p.1) ?_ (a := (a + 1, A)) ⟨by simp only; omega, hR, hT, by simp⟩
  rintro ⟨i, B⟩ r σ1 X hX ⟨hi, hR1, hT1, rfl⟩
  simp only at hi hR1 hT1
  rw [s51l]
  refine bm_mk (fun h => ?_) (fun h => ?_)
  rotate_left
  · have h := of_decide_eq_false h
    simp only at h
    rw [Go.Sort.insOuter, if_neg (by omega)] at hT1
    rw [hT1] at hR1
    exact hK _ hR1
  have h : i < b := by have := of_decide_eq_true h; simp only at this; omega
  rw [Go.Sort.insOuter, if_pos h] at hT1
  generalize hU : Go.Sort.insInner ltInt a i B = U at hT1
  refine aloop (fun (p : Nat × Array Int) r σ => a ≤ p.1 ∧ p.1 ≤ i ∧ RowA j n p.2 L σ ∧ Go.Sort.insInner ltInt a p.1 p.2 = U ∧ r = [(0, some (.slice d n 1)), (1, some (i64 a)), (2, some (i64 b)), (6, some (i64 i)), (7, some (i64 p.1))]) (fun p => p.1) ?_ (a := (i, B)) ⟨by simp only; omega, by simp only; omega, hR1, hU, rfl⟩
  rintro ⟨k, C⟩ r σ2 Y hY ⟨hk, hki, hR2, hU2, rfl⟩
  simp only at hk hki hR2 hU2
  rw [s51k]
  have out : ∀ {σ}, RowA j n U L σ → X [(0, some (.slice d n 1)), (1, some (i64 a)), (2, some (i64 b)), (6, some (i64 (IntKind.wrap .i64 ((i : Int) + 1))))] σ := by
    intro σ h
    rw [wrap64 (by omega) (by omega)]
    exact hX (i + 1, U) _ _ (by simp only; omega) ⟨by simp only; omega, h, hT1, by simp⟩
  refine bm_mk (fun h2 => ?_) (fun h2 => ?_)
  rotate_left
  · have h2 := of_decide_eq_false h2
    simp only at h2
    rw [insInner_stop (by omega)] at hU2
    rw [hU2] at hR2
    exact out hR2
  have h2 : a < k := by have := of_decide_eq_true h2; simp only at this; omega
  rw [insInner_step h2] at hU2
  have e : IntKind.wrap .i64 ((k : Int) - 1) = ((k - 1 : Nat) : Int) := by rw [wrap64 (by omega) (by omega)]; omega
  simp only
  rw [e]
  refine ltA hR2 hd (by omega) (by omega) (bm_mk (fun g => ?_) (fun g => ?_))
  · rw [g, if_pos rfl] at hU2
    exact swA hR2 hd (by omega) (by omega) fun σ3 hR3 => hY (k - 1, swp C k (k - 1)) _ _ (by simp only; omega) ⟨by simp only; omega, by simp only; omega, hR3, hU2, rfl⟩
  · rw [g, if_neg (by simp)] at hU2
    rw [hU2] at hR2
    exact out hR2)
theorem c62 {lo hi fi : Nat} (hR : RowA j n A L σ) (hd : SlA d j n) (hf : fi + hi ≤ n) (hlo : lo ≤ n) (hn : n ≤ 1048576) (hK : ∀ σ', RowA j n (Go.Sort.siftDown ltInt hi fi lo A) L σ' → K unit0 σ') :
    Tri Try.prog 62 [.slice d n 1, i64 lo, i64 hi, i64 fi] σ K := tri_in (by
  rw [s62]
  generalize hT : Go.Sort.siftDown ltInt hi fi lo A = T at hK
  refine aloop (fun (p : Nat × Array Int) rg σ => p.1 ≤ n ∧ RowA j n p.2 L σ ∧ Go.Sort.siftDown ltInt hi fi p.1 p.2 = T ∧ rg = [(0, some (.slice d n 1)), (2, some (i64 hi)), (3, some (i64 fi)), (8, some (i64 p.1))]) (fun p => hi - p.1) ?_ (a := (lo, A)) ⟨hlo, hR, hT, rfl⟩
  rintro ⟨r, B⟩ rg σ1 X hX ⟨hr, hR1, hT1, rfl⟩
  simp only at hr hR1 hT1
  rw [s62l]
  have e1 : IntKind.wrap .i64 (IntKind.wrap .i64 (2 * (r : Int)) + 1) = ((2 * r + 1 : Nat) : Int) := by rw [wrap64 (n := 2 * (r : Int)) (by omega) (by omega), wrap64 (by omega) (by omega)]; omega
  simp only
  rw [e1]
  rw [Go.Sort.siftDown] at hT1
  refine bm_mk (fun h => ?_) (fun h => ?_)
  · have h : 2 * r + 1 ≥ hi := by have := of_decide_eq_true h; omega
    rw [dif_pos h] at hT1
    rw [hT1] at hR1
    exact hK _ hR1
  have h : 2 * r + 1 < hi := by have := of_decide_eq_false h; omega
  rw [dif_neg (by omega)] at hT1
  have e2 : IntKind.wrap .i64 (((2 * r + 1 : Nat) : Int) + 1) = ((2 * r + 2 : Nat) : Int) := by rw [wrap64 (by omega) (by omega)]; omega
  have e3 : IntKind.wrap .i64 ((fi : Int) + ((2 * r + 1 : Nat) : Int)) = ((fi + (2 * r + 1) : Nat) : Int) := by rw [wrap64 (by omega) (by omega)]; omega
  have e4 : IntKind.wrap .i64 (((fi + (2 * r + 1) : Nat) : Int) + 1) = ((fi + (2 * r + 1) + 1 : Nat) : Int) := by rw [wrap64 (by omega) (by omega)]; omega
  have e5 : IntKind.wrap .i64 ((fi : Int) + r) = ((fi + r : Nat) : Int) := by rw [wrap64 (by omega) (by omega)]; omega
  have e6 : IntKind.wrap .i64 ((fi : Int) + ((2 * r + 2 : Nat) : Int)) = ((fi + (2 * r + 2) : Nat) : Int) := by rw [wrap64 (by omega) (by omega)]; omega
  rw [e2, e3, e4, e5, e6]
  have one : ∀ {G1 G2 : Prop}, (ltInt B[fi + r]! B[fi + (2 * r + 1)]! = false → B = T → G1) → (ltInt B[fi + r]! B[fi + (2 * r + 1)]! = true → Go.Sort.siftDown ltInt hi fi (2 * r + 1) (swp B (fi + r) (fi + (2 * r + 1))) = T → G2) →
      (if (!ltInt B[fi + r]! B[fi + (2 * r + 1)]!) = true then B else Go.Sort.siftDown ltInt hi fi (2 * r + 1) (swp B (fi + r) (fi + (2 * r + 1)))) = T → bmatch (!ltInt B[fi + r]! B[fi + (2 * r + 1)]!) G1 G2 := by
    intro G1 G2 g1 g2 hU
    cases hc : ltInt B[fi + r]! B[fi + (2 * r + 1)]! with
    | true => rw [hc] at hU; exact g2 hc (by simpa using hU)
    | false => rw [hc] at hU; exact g1 hc (by simpa using hU)
  refine bm_mk (fun h2 => ?_) (fun h2 => ?_)
  · have h2 : 2 * r + 2 < hi := by have := of_decide_eq_true h2; omega
    have h2' : 2 * r + 1 + 1 < hi := h2
    simp only [h2', decide_true, Bool.true_and] at hT1
    refine ltA hR1 hd (by omega) (by omega) (bm_mk (fun g => ?_) (fun g => ?_))
    · rw [if_pos g] at hT1
      refine ltA hR1 hd (by omega) (by omega) (bm_mk (fun g => ?_) (fun g => ?_))
      · rw [if_pos g] at hT1
        rw [hT1] at hR1
        exact hK _ hR1
      · rw [if_neg (by rw [g]; simp), dif_pos trivial] at hT1
        exact swA hR1 hd (by omega) (by omega) fun σ3 hR3 => hX (2 * r + 2, swp B (fi + r) (fi + (2 * r + 2))) _ _ (by simp only; omega) ⟨by simp only; omega, hR3, hT1, rfl⟩
    · rw [if_neg (by rw [g]; simp)] at hT1
      refine ltA hR1 hd (by omega) (by omega) (one (fun _ e => ?_) (fun _ e => ?_) hT1)
      · rw [e] at hR1
        exact hK _ hR1
      · exact swA hR1 hd (by omega) (by omega) fun σ3 hR3 => hX (2 * r + 1, swp B (fi + r) (fi + (2 * r + 1))) _ _ (by simp only; omega) ⟨by simp only; omega, hR3, e, rfl⟩
  · have h2 : ¬ (2 * r + 1 + 1 < hi) := by have := of_decide_eq_false h2; omega
    simp only [h2, decide_false, Bool.false_and] at hT1
    rw [if_neg (by simp)] at hT1
    refine ltA hR1 hd (by omega) (by omega) (one (fun _ e => ?_) (fun _ e => ?_) hT1)
    · rw [e] at hR1
      exact hK _ hR1
    · exact swA hR1 hd (by omega) (by omega) fun σ3 hR3 => hX (2 * r + 1, swp B (fi + r) (fi + (2 * r + 1))) _ _ (by simp only; omega) ⟨by simp only; omega, hR3, e, rfl⟩)
end
end Go.AI
end
section
/- The sort, exactly, further: heap sort, a row turned about, the pivot; no condition. -/
set_option maxRecDepth 4000
set_option linter.unusedVariables false
set_option linter.unusedSimpArgs false
namespace Go.AI
open Go.Proofs
open Go.Sort (ltInt swp)
section
variable {σ : AS} {K : Value → AS → Prop} {j n : Nat} {A : Array Int} {L : List (Nat × AObj)} {d : Option Addr}
theorem c52 {a b : Nat} (hR : RowA j n A L σ) (hd : SlA d j n) (hab : a ≤ b) (hb : b ≤ n) (hn : n ≤ 1048576) (hK : ∀ σ', RowA j n (Go.Sort.heapSort ltInt A a b) L σ' → K unit0 σ') :
    Tri Try.prog 52 [.slice d n 1, i64 a, i64 b] σ K := tri_in (by
  rw [s52]
  have e1 : IntKind.wrap .i64 ((b : Int) - a) = ((b - a : Nat) : Int) := by rw [wrap64 (by omega) (by omega)]; omega
  rw [e1]
  have hw : ∀ k : Int, -1 ≤ k → k ≤ n → IntKind.wrap .i64 k = k := fun k h0 h1 => wrap64 (by omega) (by omega)
  have e2 : IntKind.wrap .i64 (Int.tdiv (IntKind.wrap .i64 (((b - a : Nat) : Int) - 1)) 2) = (((b - a - 1) / 2 + 1 : Nat) : Int) - 1 := by
    rw [hw (((b - a : Nat) : Int) - 1) (by omega) (by omega)]
    by_cases h : a = b
    · subst h
      rw [Nat.sub_self]
      decide
    · have t : Int.tdiv (((b - a : Nat) : Int) - 1) 2 = (((b - a - 1) / 2 : Nat) : Int) := by
        rw [Int.tdiv_eq_ediv_of_nonneg (by omega)]; omega
      rw [t, hw _ (by omega) (by omega)]
      omega
  rw [e2]
  unfold Go.Sort.heapSort at hK
  generalize hT : Go.Sort.heapBuild ltInt (b - a) a ((b - a - 1) / 2 + 1) A = T at hK
  refine aloop (fun (p : Nat × Array Int) rg σ => p.1 ≤ b - a + 1 ∧ (p.1 = 0 ∨ p.1 ≤ b - a ∨ b = a) ∧ RowA j n p.2 L σ ∧ Go.Sort.heapBuild ltInt (b - a) a p.1 p.2 = T ∧ rg = [(0, some (.slice d n 1)), (6, some (i64 a)), (7, some (i64 0)), (8, some (i64 ((b - a : Nat) : Int))), (9, some (i64 ((p.1 : Int) - 1)))]) (fun p => p.1) ?_ (a := ((b - a - 1) / 2 + 1, A))
    ⟨by simp only; omega, by simp only; omega, hR, hT, rfl⟩
  rintro ⟨k, B⟩ rg σ1 X hX ⟨h0, h1, hR1, hT1, rfl⟩
  simp only at h0 h1 hR1 hT1
  rw [s52l]
  refine bm_mk (fun h => ?_) (fun h => ?_)
  · have h := of_decide_eq_true h
    simp only at h
    obtain ⟨k, rfl⟩ : ∃ q, k = q + 1 := ⟨k - 1, by omega⟩
    have ek : ((k + 1 : Nat) : Int) - 1 = (k : Int) := by omega
    simp only
    rw [ek]
    rw [Go.Sort.heapBuild] at hT1
    refine c62 hR1 hd (by omega) (by omega) hn fun σ2 hR2 => ?_
    rw [hw _ (by omega) (by omega)]
    exact hX (k, _) _ _ (by simp only; omega) ⟨by simp only; omega, by simp only; omega, hR2, hT1, rfl⟩
  · have h := of_decide_eq_false h
    simp only at h
    have k0 : k = 0 := by omega
    subst k0
    rw [Go.Sort.heapBuild] at hT1
    subst hT1
    rw [hw _ (by omega) (by omega)]
    generalize hU : Go.Sort.heapPop ltInt a (b - a) B = U at hK
    refine aloop (fun (p : Nat × Array Int) rg σ => p.1 ≤ b - a ∧ RowA j n p.2 L σ ∧ Go.Sort.heapPop ltInt a p.1 p.2 = U ∧ rg = [(0, some (.slice d n 1)), (6, some (i64 a)), (7, some (i64 0)), (10, some (i64 ((p.1 : Int) - 1)))]) (fun p => p.1) ?_ (a := (b - a, B)) ⟨Nat.le_refl _, hR1, hU, rfl⟩
    rintro ⟨k, C⟩ rg σ2 Y hY ⟨h1, hR2, hU2, rfl⟩
    simp only at h1 hR2 hU2
    rw [s52k]
    refine bm_mk (fun h => ?_) (fun h => ?_)
    · have h := of_decide_eq_true h
      simp only at h
      obtain ⟨k, rfl⟩ : ∃ q, k = q + 1 := ⟨k - 1, by omega⟩
      have ek : ((k + 1 : Nat) : Int) - 1 = (k : Int) := by omega
      simp only
      rw [ek]
      rw [Go.Sort.heapPop] at hU2
      have e3 : IntKind.wrap .i64 ((a : Int) + (k : Int)) = ((a + k : Nat) : Int) := by rw [wrap64 (by omega) (by omega)]; omega
      rw [e3]
      refine swA hR2 hd (by omega) (by omega) fun σ3 hR3 => ?_
      refine c62 (lo := 0) hR3 hd (by omega) (by omega) hn fun σ4 hR4 => ?_
      rw [hw _ (by omega) (by omega)]
      exact hY (k, _) _ _ (by simp only; omega) ⟨by simp only; omega, hR4, hU2, rfl⟩
    · have h := of_decide_eq_false h
      simp only at h
      have k0 : k = 0 := by omega
      subst k0
      rw [Go.Sort.heapPop] at hU2
      subst hU2
      exact hK _ hR2)
theorem c55 {a b : Nat} (hR : RowA j n A L σ) (hd : SlA d j n) (hab : a < b) (hb : b ≤ n) (hn : n ≤ 1048576) (hK : ∀ σ', RowA j n (Go.Sort.reverseRange A a b) L σ' → K unit0 σ') :
    Tri Try.prog 55 [.slice d n 1, i64 a, i64 b] σ K := tri_in (by
  rw [s55]
  have e1 : IntKind.wrap .i64 ((b : Int) - 1) = ((b - 1 : Nat) : Int) := by rw [wrap64 (by omega) (by omega)]; omega
  rw [e1]
  unfold Go.Sort.reverseRange at hK
  generalize hT : Go.Sort.reverseLoop a (b - 1) A = T at hK
  refine aloop (fun (q : Nat × Nat × Array Int) rg σ => q.1 ≤ n ∧ q.2.1 < b ∧ RowA j n q.2.2 L σ ∧ Go.Sort.reverseLoop q.1 q.2.1 q.2.2 = T ∧ rg = [(0, some (.slice d n 1)), (6, some (i64 q.1)), (7, some (i64 q.2.1))]) (fun q => q.2.1 - q.1) ?_ (a := (a, b - 1, A)) ⟨by simp only; omega, by simp only; omega, hR, hT, rfl⟩
  rintro ⟨x, y, B⟩ rg σ1 X hX ⟨h0, h1, hR1, hT1, rfl⟩
  simp only at h0 h1 hR1 hT1
  rw [s55l]
  rw [Go.Sort.reverseLoop] at hT1
  refine bm_mk (fun h => ?_) (fun h => ?_)
  · have h := of_decide_eq_true h
    simp only at h
    rw [if_pos (by omega)] at hT1
    refine swA hR1 hd (by simp only; omega) (by simp only; omega) fun σ3 hR3 => ?_
    have e2 : IntKind.wrap .i64 ((x : Int) + 1) = ((x + 1 : Nat) : Int) := by rw [wrap64 (by omega) (by omega)]; omega
    have e3 : IntKind.wrap .i64 ((y : Int) - 1) = ((y - 1 : Nat) : Int) := by rw [wrap64 (by omega) (by omega)]; omega
    simp only
    rw [e2, e3]
    exact hX (x + 1, y - 1, _) _ _ (by simp only; omega) ⟨by simp only; omega, by simp only; omega, hR3, hT1, rfl⟩
  · have h := of_decide_eq_false h
    simp only at h
    rw [if_neg (by omega)] at hT1
    subst hT1
    exact hK _ hR1)
theorem order2_or (A : Array Int) (a b s : Nat) : (Go.Sort.order2 ltInt A a b s = (a, b, s)) ∨ (Go.Sort.order2 ltInt A a b s = (b, a, s + 1)) := by
  unfold Go.Sort.order2
  split
  · exact .inr rfl
  · exact .inl rfl
theorem c68 {a b c s : Nat} (hR : RowA j n A ((c, .row .plain [i64 s]) :: L) σ) (hd : SlA d j n) (ha : a < n) (hb : b < n) (hn : n ≤ 1048576) (hs : s ≤ 1000)
    (hK : ∀ σ', RowA j n A ((c, .row .plain [i64 ((Go.Sort.order2 ltInt A a b s).2.2 : Nat)]) :: L) σ' → K (.tuple ⟨[i64 (Go.Sort.order2 ltInt A a b s).1, i64 (Go.Sort.order2 ltInt A a b s).2.1]⟩) σ') :
    Tri Try.prog 68 [.slice d n 1, i64 a, i64 b, ptr c] σ K := tri_in (by
  rw [s68]
  unfold Go.Sort.order2 at hK
  refine ltA hR hd (by omega) (by omega) (bm_mk (fun g => ?_) (fun g => ?_))
  · rw [if_pos g] at hK
    obtain ⟨hl, H⟩ := hR
    refine ldc_mk (rowL_out H) 0 rfl rfl (tI_mk ?_)
    refine put1_mk (rowL_out H) 0 rfl rfl (by simp) fun σ' H' => ?_
    refine hK σ' ⟨hl, ?_⟩
    have e : IntKind.wrap .i64 ((s : Int) + 1) = ((s + 1 : Nat) : Int) := by rw [wrap64 (by omega) (by omega)]; omega
    rw [e] at H'
    exact rowL_swap H'
  · rw [if_neg (by rw [g]; simp)] at hK
    exact hK _ hR)
theorem c66 {a b e c s : Nat} (hR : RowA j n A ((c, .row .plain [i64 s]) :: L) σ) (hd : SlA d j n) (ha : a < n) (hb : b < n) (he : e < n) (hn : n ≤ 1048576) (hs : s ≤ 500)
    (hK : ∀ σ', RowA j n A ((c, .row .plain [i64 ((Go.Sort.median ltInt A a b e s).2 : Nat)]) :: L) σ' → K (i64 (Go.Sort.median ltInt A a b e s).1) σ') :
    Tri Try.prog 66 [.slice d n 1, i64 a, i64 b, i64 e, ptr c] σ K := tri_in (by
  rw [s66]
  unfold Go.Sort.median at hK
  simp only at hK
  have o1 := order2_or A a b s
  refine c68 hR hd ha hb hn (by omega) fun σ1 hR1 => ?_
  generalize Go.Sort.order2 ltInt A a b s = r1 at *
  simp only [tTup_tup, pSome_some, List.getElem?_cons_zero, List.getElem?_cons_succ, tI_int]
  have b1 : r1.1 < n ∧ r1.2.1 < n ∧ r1.2.2 ≤ s + 1 := by rcases o1 with rfl | rfl <;> exact ⟨by assumption, by assumption, by simp⟩
  have o2 := order2_or A r1.2.1 e r1.2.2
  refine c68 hR1 hd b1.2.1 he hn (by omega) fun σ2 hR2 => ?_
  generalize Go.Sort.order2 ltInt A r1.2.1 e r1.2.2 = r2 at *
  simp only [tTup_tup, pSome_some, List.getElem?_cons_zero, List.getElem?_cons_succ, tI_int]
  have b2 : r2.1 < n ∧ r2.2.2 ≤ s + 2 := by rcases o2 with rfl | rfl <;> simp only <;> omega
  refine c68 hR2 hd b1.1 b2.1 hn (by omega) fun σ3 hR3 => ?_
  simp only [tTup_tup, pSome_some, List.getElem?_cons_zero, List.getElem?_cons_succ, tI_int]
  exact hK σ3 hR3)
theorem median_in (A : Array Int) (a b c s : Nat) : ((Go.Sort.median ltInt A a b c s).1 = a ∨ (Go.Sort.median ltInt A a b c s).1 = b ∨ (Go.Sort.median ltInt A a b c s).1 = c) ∧ (Go.Sort.median ltInt A a b c s).2 ≤ s + 3 := by
  unfold Go.Sort.median
  simp only
  rcases order2_or A a b s with e | e <;> rw [e] <;> simp only
  · rcases order2_or A b c s with e | e <;> rw [e] <;> simp only
    · rcases order2_or A a b s with e | e <;> rw [e] <;> simp
    · rcases order2_or A a c (s + 1) with e | e <;> rw [e] <;> simp
  · rcases order2_or A a c (s + 1) with e | e <;> rw [e] <;> simp only
    · rcases order2_or A b a (s + 1) with e | e <;> rw [e] <;> simp
    · rcases order2_or A b c (s + 1 + 1) with e | e <;> rw [e] <;> simp
theorem medAdj_in (A : Array Int) (a s : Nat) : ((Go.Sort.medianAdjacent ltInt A a s).1 = a - 1 ∨ (Go.Sort.medianAdjacent ltInt A a s).1 = a ∨ (Go.Sort.medianAdjacent ltInt A a s).1 = a + 1) ∧ (Go.Sort.medianAdjacent ltInt A a s).2 ≤ s + 3 := median_in A (a - 1) a (a + 1) s
theorem c65 {a c s : Nat} (hR : RowA j n A ((c, .row .plain [i64 s]) :: L) σ) (hd : SlA d j n) (ha : 0 < a) (hb : a + 1 < n) (hn : n ≤ 1048576) (hs : s ≤ 500)
    (hK : ∀ σ', RowA j n A ((c, .row .plain [i64 ((Go.Sort.medianAdjacent ltInt A a s).2 : Nat)]) :: L) σ' → K (i64 (Go.Sort.medianAdjacent ltInt A a s).1) σ') :
    Tri Try.prog 65 [.slice d n 1, i64 a, ptr c] σ K := tri_in (by
  rw [s65]
  have e1 : IntKind.wrap .i64 ((a : Int) - 1) = ((a - 1 : Nat) : Int) := by rw [wrap64 (by omega) (by omega)]; omega
  have e2 : IntKind.wrap .i64 ((a : Int) + 1) = ((a + 1 : Nat) : Int) := by rw [wrap64 (by omega) (by omega)]; omega
  rw [e1, e2]
  refine c66 hR hd (by omega) (by omega) (by omega) hn hs fun σ1 hR1 => ?_
  simp only [tI_int]
  exact hK σ1 hR1)
theorem RowA.drop {p : Nat × AObj} (h : RowA j n A (p :: L) σ) : RowA j n A L σ := ⟨h.1, (rowL_out h.2).sub (.cons _ (.refl _))⟩
def hintV : Go.Sort.Hint → Int
  | .unknown => 0
  | .increasing => 1
  | .decreasing => 2
set_option maxHeartbeats 1000000 in
theorem c54 {a b : Nat} (hR : RowA j n A L σ) (hd : SlA d j n) (hab : a + 8 ≤ b) (hb : b ≤ n) (hn : n ≤ 1048576)
    (hK : ∀ σ', a ≤ (Go.Sort.choosePivot ltInt A a b).1 → (Go.Sort.choosePivot ltInt A a b).1 < b → RowA j n A L σ' → K (.tuple ⟨[i64 (Go.Sort.choosePivot ltInt A a b).1, i64 (hintV (Go.Sort.choosePivot ltInt A a b).2)]⟩) σ') : Tri Try.prog 54 [.slice d n 1, i64 a, i64 b] σ K := tri_in (by
  rw [s54]
  unfold Go.Sort.choosePivot at hK
  simp only at hK
  rw [if_pos (show b - a ≥ 8 by omega)] at hK
  obtain ⟨hl, H⟩ := hR
  refine newAt_mk H fun c σ1 H1 => ?_
  have hR1 : RowA j n A ((c, .row .plain [i64 (0 : Nat)]) :: L) σ1 := ⟨hl, rowL_swap H1⟩
  have e1 : IntKind.wrap .i64 ((b : Int) - a) = ((b - a : Nat) : Int) := by rw [wrap64 (by omega) (by omega)]; omega
  have e2 : ∀ k : Nat, k ≤ 3 → IntKind.wrap .i64 ((a : Int) + IntKind.wrap .i64 (IntKind.wrap .i64 (Int.tdiv ((b - a : Nat) : Int) 4) * (k : Int))) = ((a + (b - a) / 4 * k : Nat) : Int) := by
    intro k hk
    have h0 : Int.tdiv ((b - a : Nat) : Int) 4 = (((b - a) / 4 : Nat) : Int) := by rw [Int.tdiv_eq_ediv_of_nonneg (by omega)]; omega
    rw [h0, wrap64 (n := (((b - a) / 4 : Nat) : Int)) (by omega) (by omega)]
    have h1 : (((b - a) / 4 : Nat) : Int) * (k : Int) = (((b - a) / 4 * k : Nat) : Int) := by rw [Int.natCast_mul]
    have h2 : (b - a) / 4 * k ≤ (b - a) / 4 * 3 := Nat.mul_le_mul_left _ hk
    rw [h1, wrap64 (n := (((b - a) / 4 * k : Nat) : Int)) (by omega) (by omega), wrap64 (by omega) (by omega)]
    omega
  have f1 := e2 1 (by omega)
  have f2 := e2 2 (by omega)
  have f3 := e2 3 (by omega)
  have g1 : ((1 : Nat) : Int) = 1 := rfl
  have g2 : ((2 : Nat) : Int) = 2 := rfl
  have g3 : ((3 : Nat) : Int) = 3 := rfl
  rw [g1] at f1
  rw [g2] at f2
  rw [g3] at f3
  rw [e1, f1, f2, f3]
  have fin : ∀ {x s : Nat} {σ : AS} {G : AS → Prop}, (∀ σ', RowA j n A L σ' → (x, s) = (x, s) → K (.tuple ⟨[i64 x, i64 (hintV (if s = 0 then .increasing else if s = 12 then .decreasing else .unknown))]⟩) σ') → RowA j n A ((c, .row .plain [i64 s]) :: L) σ →
      ldc σ ⟨c, 0, none⟩ fun v => tI .i64 v fun k => bmatch (k == 0) (K (.tuple ⟨[i64 x, i64 1]⟩) σ) (bmatch (k == 12) (K (.tuple ⟨[i64 x, i64 2]⟩) σ) (K (.tuple ⟨[i64 x, i64 0]⟩) σ)) := by
    intro x s σ G hG hR5
    refine ldc_mk (rowL_out hR5.2) 0 rfl rfl (tI_mk ?_)
    have hG := hG σ hR5.drop rfl
    refine bm_mk (fun h => ?_) (fun h => bm_mk (fun h' => ?_) (fun h' => ?_))
    · have : s = 0 := by simpa using h
      rw [if_pos this] at hG; exact hG
    · have h1 : ¬ s = 0 := by simpa using h
      have h2 : (s : Int) = 12 := by simpa using h'
      rw [if_neg h1, if_pos (by omega)] at hG; exact hG
    · have h1 : ¬ s = 0 := by simpa using h
      have h2 : ¬ (s : Int) = 12 := by simpa using h'
      rw [if_neg h1, if_neg (by omega)] at hG; exact hG
  refine bm_mk (fun _ => bm_mk (fun h => ?_) (fun h => ?_)) (fun h => by have := of_decide_eq_false h; omega)
  · have h := of_decide_eq_true h
    rw [if_pos (show b - a ≥ 50 by omega)] at hK
    have m1 := medAdj_in A (a + (b - a) / 4 * 1) 0
    refine c65 hR1 hd (by omega) (by omega) hn (by omega) fun σ2 hR2 => ?_
    simp only [tI_int]
    generalize Go.Sort.medianAdjacent ltInt A (a + (b - a) / 4 * 1) 0 = ri at *
    have p1 : a ≤ ri.1 ∧ ri.1 < b ∧ ri.2 ≤ 3 := by omega
    clear m1
    have m2 := medAdj_in A (a + (b - a) / 4 * 2) ri.2
    refine c65 hR2 hd (by omega) (by omega) hn (by omega) fun σ3 hR3 => ?_
    simp only [tI_int]
    generalize Go.Sort.medianAdjacent ltInt A (a + (b - a) / 4 * 2) ri.2 = rj at *
    have p2 : a ≤ rj.1 ∧ rj.1 < b ∧ rj.2 ≤ 6 := by omega
    clear m2
    have m3 := medAdj_in A (a + (b - a) / 4 * 3) rj.2
    refine c65 hR3 hd (by omega) (by omega) hn (by omega) fun σ4 hR4 => ?_
    simp only [tI_int]
    generalize Go.Sort.medianAdjacent ltInt A (a + (b - a) / 4 * 3) rj.2 = rk at *
    have p3 : a ≤ rk.1 ∧ rk.1 < b ∧ rk.2 ≤ 9 := by omega
    clear m3
    have m4 := median_in A ri.1 rj.1 rk.1 rk.2
    refine c66 hR4 hd (Nat.lt_of_lt_of_le p1.2.1 hb) (Nat.lt_of_lt_of_le p2.2.1 hb) (Nat.lt_of_lt_of_le p3.2.1 hb) hn (by omega) fun σ5 hR5 => ?_
    simp only [tI_int]
    generalize Go.Sort.median ltInt A ri.1 rj.1 rk.1 rk.2 = r at *
    have p4 : a ≤ r.1 ∧ r.1 < b := by omega
    clear m4
    exact fin (G := fun _ => True) (fun σ' hR' _ => hK σ' (by omega) (by omega) hR') hR5
  · have h := of_decide_eq_false h
    rw [if_neg (show ¬ b - a ≥ 50 by omega)] at hK
    have m4 := median_in A (a + (b - a) / 4 * 1) (a + (b - a) / 4 * 2) (a + (b - a) / 4 * 3) 0
    refine c66 hR1 hd (by omega) (by omega) (by omega) hn (by omega) fun σ5 hR5 => ?_
    simp only [tI_int]
    generalize Go.Sort.median ltInt A (a + (b - a) / 4 * 1) (a + (b - a) / 4 * 2) (a + (b - a) / 4 * 3) 0 = r at *
    exact fin (G := fun _ => True) (fun σ' hR' _ => hK σ' (by omega) (by omega) hR') hR5)
end
end Go.AI
end
section
/- The sort, exactly, further: the partitions, the insertion sort that gives up; no condition. -/
set_option maxRecDepth 4000
set_option linter.unusedVariables false
set_option linter.unusedSimpArgs false
namespace Go.AI
open Go.Proofs
open Go.Sort (ltInt swp scanUp scanDown)
theorem scanUp_step (p : Int → Bool) (B : Array Int) (j i : Nat) : scanUp p B j i = if i ≤ j ∧ p B[i]! = true then scanUp p B j (i + 1) else i := by
  rw [scanUp]
  simp only [Bool.and_eq_true, decide_eq_true_eq]
theorem scanDown_step (p : Int → Bool) (B : Array Int) {i : Nat} (hi : 1 ≤ i) (j : Nat) : scanDown p B i j = if i ≤ j ∧ p B[j]! = true then scanDown p B i (j - 1) else j := by
  cases j with
  | zero => rw [scanDown, if_neg (by omega)]
  | succ j =>
    rw [scanDown]
    simp only [Bool.and_eq_true, decide_eq_true_eq, Nat.add_sub_cancel]
theorem partEq_at {a i j I J : Nat} {B : Array Int} (h1 : scanUp (fun x => !ltInt B[a]! x) B j i = I) (h2 : scanDown (fun x => ltInt B[a]! x) B I j = J) :
    Go.Sort.partEqLoop ltInt a i j B = if I > J then (I, B) else if h : (J - 1) + 1 - (I + 1) < j + 1 - i then Go.Sort.partEqLoop ltInt a (I + 1) (J - 1) (swp B I J) else (I, B) := by
  rw [Go.Sort.partEqLoop]
  subst h1
  subst h2
  rfl
theorem part_at {a i j I J : Nat} {B : Array Int} (h1 : scanUp (fun x => ltInt x B[a]!) B j i = I) (h2 : scanDown (fun x => !ltInt x B[a]!) B I j = J) :
    Go.Sort.partLoop ltInt a i j B = if I > J then (J, B) else if h : (J - 1) + 1 - (I + 1) < j + 1 - i then Go.Sort.partLoop ltInt a (I + 1) (J - 1) (swp B I J) else (J, B) := by
  rw [Go.Sort.partLoop]
  subst h1
  subst h2
  rfl
section
variable {σ : AS} {K : Value → AS → Prop} {j n : Nat} {A : Array Int} {L : List (Nat × AObj)} {d : Option Addr}
theorem c58 {a b p : Nat} (hR : RowA j n A L σ) (hd : SlA d j n) (hab : a < b) (hb : b ≤ n) (ha : a ≤ p) (hp : p < b) (hn : n ≤ 1048576)
    (hK : ∀ σ', a < (Go.Sort.partitionEqual ltInt A a b p).1 → (Go.Sort.partitionEqual ltInt A a b p).1 ≤ b → RowA j n (Go.Sort.partitionEqual ltInt A a b p).2 L σ' → K (i64 (Go.Sort.partitionEqual ltInt A a b p).1) σ') : Tri Try.prog 58 [.slice d n 1, i64 a, i64 b, i64 p] σ K := tri_in (by
  rw [s58]
  have e1 : IntKind.wrap .i64 ((a : Int) + 1) = ((a + 1 : Nat) : Int) := by rw [wrap64 (by omega) (by omega)]; omega
  have e2 : IntKind.wrap .i64 ((b : Int) - 1) = ((b - 1 : Nat) : Int) := by rw [wrap64 (by omega) (by omega)]; omega
  rw [e1, e2]
  unfold Go.Sort.partitionEqual at hK
  refine swA hR hd (by omega) (by omega) fun σ1 hR1 => ?_
  generalize hT : Go.Sort.partEqLoop ltInt a (a + 1) (b - 1) (swp A a p) = T at hK
  refine aloop (fun (q : Nat × Nat × Array Int) rg σ => (a + 1 ≤ q.1 ∧ q.1 ≤ b ∧ q.1 ≤ q.2.1 + 2 ∧ a ≤ q.2.1 ∧ q.2.1 < b) ∧ RowA j n q.2.2 L σ ∧ Go.Sort.partEqLoop ltInt a q.1 q.2.1 q.2.2 = T ∧ rg = [(0, some (.slice d n 1)), (1, some (i64 a)), (9, some (i64 q.1)), (10, some (i64 q.2.1))]) (fun q => q.2.1 + 2 - q.1) ?_ (a := (a + 1, b - 1, swp A a p)) ⟨by simp only; omega, hR1, hT, rfl⟩
  clear hR1 hT
  rintro ⟨x0, y0, B⟩ rg σ2 Z hZ ⟨h, hR2, hT, rfl⟩
  rw [s58a]
  simp only at h hT hR2
  generalize hI : scanUp (fun x => !ltInt B[a]! x) B y0 x0 = I
  generalize hJ : scanDown (fun x => ltInt B[a]! x) B I y0 = J
  rw [partEq_at hI hJ] at hT
  refine aloop (fun (x : Nat) rg σ => (x0 ≤ x ∧ x ≤ b ∧ x ≤ y0 + 2) ∧ RowA j n B L σ ∧ scanUp (fun x => !ltInt B[a]! x) B y0 x = I ∧ rg = [(0, some (.slice d n 1)), (1, some (i64 a)), (9, some (i64 x)), (10, some (i64 y0))]) (fun x => b + 1 - x) ?_ (a := x0) ⟨by omega, hR2, hI, rfl⟩
  clear hI hR2
  rintro x rg σ3 X hX ⟨hx, hR3, hI, rfl⟩
  rw [s58b]
  rw [scanUp_step] at hI
  have down : ∀ {σ : AS}, x = I → RowA j n B L σ → ALoop (fl Try.prog hintsS (Tri Try.prog) 58 [true, true, true, false, false, false, false, true, false, false] [Z] K) [(0, some (.slice d n 1)), (1, some (i64 a)), (9, some (i64 x)), (10, some (i64 y0))] σ := by
    intro σ hxI hR4
    subst hxI
    refine aloop (fun (y : Nat) rg σ => (y ≤ y0 ∧ a ≤ y ∧ x ≤ y + 2) ∧ RowA j n B L σ ∧ scanDown (fun x => ltInt B[a]! x) B x y = J ∧ rg = [(0, some (.slice d n 1)), (1, some (i64 a)), (9, some (i64 x)), (10, some (i64 y))]) (fun y => y) ?_ (a := y0) ⟨by omega, hR4, hJ, rfl⟩
    rintro y rg σ5 Y hY ⟨hy, hR5, hJ5, rfl⟩
    rw [s58c]
    rw [scanDown_step _ _ (by omega)] at hJ5
    refine bm_mk (fun h1 => ?_) (fun h1 => ?_)
    · have h1 : x ≤ y := by have := of_decide_eq_true h1; omega
      have e3 : IntKind.wrap .i64 ((y : Int) - 1) = ((y - 1 : Nat) : Int) := by rw [wrap64 (by omega) (by omega)]; omega
      refine ltA hR5 hd (by omega) (by omega) (bm_mk (fun g => ?_) (fun g => ?_))
      · rw [if_pos ⟨h1, g⟩] at hJ5
        rw [e3]
        exact hY (y - 1) _ _ (by omega) ⟨by omega, hR5, hJ5, rfl⟩
      · rw [if_neg (fun c => by rw [c.2] at g; cases g)] at hJ5
        subst hJ5
        rw [if_neg (by omega), dif_pos (by omega)] at hT
        refine bm_mk (fun c => ?_) (fun c => ?_)
        · have c := of_decide_eq_true c
          omega
        · refine swA hR5 hd (by omega) (by omega) fun σ6 hR6 => ?_
          have e4 : IntKind.wrap .i64 ((x : Int) + 1) = ((x + 1 : Nat) : Int) := by rw [wrap64 (by omega) (by omega)]; omega
          rw [e3, e4]
          exact hZ (x + 1, y - 1, _) _ _ (by simp only; omega) ⟨by simp only; omega, hR6, hT, rfl⟩
    · have h1 : ¬ x ≤ y := by have := of_decide_eq_false h1; omega
      rw [if_neg (fun c => h1 c.1)] at hJ5
      subst hJ5
      rw [if_pos (by omega)] at hT
      subst hT
      refine bm_mk (fun c => hK _ (by simp only; omega) (by simp only; omega) hR5) (fun c => ?_)
      have c := of_decide_eq_false c
      omega
  refine bm_mk (fun h1 => ?_) (fun h1 => ?_)
  · have h1 : x ≤ y0 := by have := of_decide_eq_true h1; omega
    refine ltA hR3 hd (by omega) (by omega) (bm_mk (fun g => ?_) (fun g => ?_))
    · rw [if_pos ⟨h1, g⟩] at hI
      have e4 : IntKind.wrap .i64 ((x : Int) + 1) = ((x + 1 : Nat) : Int) := by rw [wrap64 (by omega) (by omega)]; omega
      rw [e4]
      exact hX (x + 1) _ _ (by omega) ⟨by omega, hR3, hI, rfl⟩
    · rw [if_neg (fun c => by rw [c.2] at g; cases g)] at hI
      exact down hI hR3
  · have h1 : ¬ x ≤ y0 := by have := of_decide_eq_false h1; omega
    rw [if_neg (fun c => h1 c.1)] at hI
    exact down hI hR3)
theorem c59 {a b p : Nat} (hR : RowA j n A L σ) (hd : SlA d j n) (hab : a < b) (hb : b ≤ n) (ha : a ≤ p) (hp : p < b) (hn : n ≤ 1048576)
    (hK : ∀ σ', a ≤ (Go.Sort.partition ltInt A a b p).1 → (Go.Sort.partition ltInt A a b p).1 < b → RowA j n (Go.Sort.partition ltInt A a b p).2.2 L σ' → K (.tuple ⟨[i64 (Go.Sort.partition ltInt A a b p).1, .bool (Go.Sort.partition ltInt A a b p).2.1]⟩) σ') : Tri Try.prog 59 [.slice d n 1, i64 a, i64 b, i64 p] σ K := tri_in (by
  rw [s59]
  have e1 : IntKind.wrap .i64 ((a : Int) + 1) = ((a + 1 : Nat) : Int) := by rw [wrap64 (by omega) (by omega)]; omega
  have e2 : IntKind.wrap .i64 ((b : Int) - 1) = ((b - 1 : Nat) : Int) := by rw [wrap64 (by omega) (by omega)]; omega
  rw [e1, e2]
  unfold Go.Sort.partition at hK
  simp only at hK
  refine swA hR hd (by omega) (by omega) fun σ1 hR1 => ?_
  clear hR
  generalize swp A a p = A1 at hK hR1
  have third : ∀ {σ : AS} {x y : Nat} {C : Array Int} {T : Nat × Array Int}, a + 1 ≤ x → x ≤ b → x ≤ y + 2 → a ≤ y → y < b → RowA j n C L σ → Go.Sort.partLoop ltInt a x y C = T →
      (∀ σ', a ≤ T.1 → T.1 < b → RowA j n (swp T.2 T.1 a) L σ' → K (.tuple ⟨[i64 T.1, .bool false]⟩) σ') →
      ALoop (fl Try.prog hintsS (Tri Try.prog) 59 [true, true, true, true, true, true, true, true, true, false, false] [] K)
      [(0, some (.slice d n 1)), (1, some (i64 a)), (10, some (i64 x)), (11, some (i64 y))] σ := by
    clear hK hR1
    intro σ x y C T h1 h2 h3 h4 h5 hR2 hT hK
    refine aloop (fun (q : Nat × Nat × Array Int) rg σ => (a + 1 ≤ q.1 ∧ q.1 ≤ b ∧ q.1 ≤ q.2.1 + 2 ∧ a ≤ q.2.1 ∧ q.2.1 < b) ∧ RowA j n q.2.2 L σ ∧ Go.Sort.partLoop ltInt a q.1 q.2.1 q.2.2 = T ∧ rg = [(0, some (.slice d n 1)), (1, some (i64 a)), (10, some (i64 q.1)), (11, some (i64 q.2.1))]) (fun q => q.2.1 + 2 - q.1) ?_ (a := (x, y, C)) ⟨by simp only; omega, hR2, hT, rfl⟩
    clear h1 h2 h3 h4 h5 hR2 hT x y C
    rintro ⟨x0, y0, B⟩ rg σ2 Z hZ ⟨h, hR2, hT, rfl⟩
    rw [s59c]
    simp only at h hT hR2
    generalize hI : scanUp (fun x => ltInt x B[a]!) B y0 x0 = I
    generalize hJ : scanDown (fun x => !ltInt x B[a]!) B I y0 = J
    rw [part_at hI hJ] at hT
    refine aloop (fun (x : Nat) rg σ => (x0 ≤ x ∧ x ≤ b ∧ x ≤ y0 + 2) ∧ RowA j n B L σ ∧ scanUp (fun x => ltInt x B[a]!) B y0 x = I ∧ rg = [(0, some (.slice d n 1)), (1, some (i64 a)), (10, some (i64 x)), (11, some (i64 y0))]) (fun x => b + 1 - x) ?_ (a := x0) ⟨by omega, hR2, hI, rfl⟩
    clear hI hR2
    rintro x rg σ3 X hX ⟨hx, hR3, hI, rfl⟩
    rw [s59d]
    rw [scanUp_step] at hI
    have down : ∀ {σ : AS}, x = I → RowA j n B L σ → ALoop (fl Try.prog hintsS (Tri Try.prog) 59 [true, true, true, true, true, true, true, true, true, false, false, false, false, true, false, false] [Z] K) [(0, some (.slice d n 1)), (1, some (i64 a)), (10, some (i64 x)), (11, some (i64 y0))] σ := by
      intro σ hxI hR4
      subst hxI
      refine aloop (fun (y : Nat) rg σ => (y ≤ y0 ∧ a ≤ y ∧ x ≤ y + 2) ∧ RowA j n B L σ ∧ scanDown (fun x => !ltInt x B[a]!) B x y = J ∧ rg = [(0, some (.slice d n 1)), (1, some (i64 a)), (10, some (i64 x)), (11, some (i64 y))]) (fun y => y) ?_ (a := y0) ⟨by omega, hR4, hJ, rfl⟩
      rintro y rg σ5 Y hY ⟨hy, hR5, hJ5, rfl⟩
      rw [s59e]
      rw [scanDown_step _ _ (by omega)] at hJ5
      refine bm_mk (fun h1 => ?_) (fun h1 => ?_)
      · have h1 : x ≤ y := by have := of_decide_eq_true h1; omega
        have e3 : IntKind.wrap .i64 ((y : Int) - 1) = ((y - 1 : Nat) : Int) := by rw [wrap64 (by omega) (by omega)]; omega
        refine ltA hR5 hd (by omega) (by omega) (bm_mk (fun g => ?_) (fun g => ?_))
        · rw [if_pos ⟨h1, g⟩] at hJ5
          rw [e3]
          exact hY (y - 1) _ _ (by omega) ⟨by omega, hR5, hJ5, rfl⟩
        · rw [if_neg (fun c => by rw [c.2] at g; cases g)] at hJ5
          subst hJ5
          rw [if_neg (by omega), dif_pos (by omega)] at hT
          refine bm_mk (fun c => ?_) (fun c => ?_)
          · have c := of_decide_eq_true c
            omega
          · refine swA hR5 hd (by omega) (by omega) fun σ6 hR6 => ?_
            have e4 : IntKind.wrap .i64 ((x : Int) + 1) = ((x + 1 : Nat) : Int) := by rw [wrap64 (by omega) (by omega)]; omega
            rw [e3, e4]
            exact hZ (x + 1, y - 1, _) _ _ (by simp only; omega) ⟨by simp only; omega, hR6, hT, rfl⟩
      · have h1 : ¬ x ≤ y := by have := of_decide_eq_false h1; omega
        rw [if_neg (fun c => h1 c.1)] at hJ5
        subst hJ5
        rw [if_pos (by omega)] at hT
        subst hT
        refine bm_mk (fun c => swA hR5 hd (by omega) (by omega) fun σ6 hR6 => hK _ (by simp only; omega) (by simp only; omega) hR6) (fun c => ?_)
        have c := of_decide_eq_false c
        omega
    refine bm_mk (fun h1 => ?_) (fun h1 => ?_)
    · have h1 : x ≤ y0 := by have := of_decide_eq_true h1; omega
      refine ltA hR3 hd (by omega) (by omega) (bm_mk (fun g => ?_) (fun g => ?_))
      · rw [if_pos ⟨h1, g⟩] at hI
        have e4 : IntKind.wrap .i64 ((x : Int) + 1) = ((x + 1 : Nat) : Int) := by rw [wrap64 (by omega) (by omega)]; omega
        rw [e4]
        exact hX (x + 1) _ _ (by omega) ⟨by omega, hR3, hI, rfl⟩
      · rw [if_neg (fun c => by rw [c.2] at g; cases g)] at hI
        exact down hI hR3
    · have h1 : ¬ x ≤ y0 := by have := of_decide_eq_false h1; omega
      rw [if_neg (fun c => h1 c.1)] at hI
      exact down hI hR3
  generalize hI : scanUp (fun x => ltInt x A1[a]!) A1 (b - 1) (a + 1) = I at hK
  generalize hJ : scanDown (fun x => !ltInt x A1[a]!) A1 I (b - 1) = J at hK
  refine aloop (fun (x : Nat) rg σ => (a + 1 ≤ x ∧ x ≤ b) ∧ RowA j n A1 L σ ∧ scanUp (fun x => ltInt x A1[a]!) A1 (b - 1) x = I ∧ rg = [(0, some (.slice d n 1)), (1, some (i64 a)), (10, some (i64 x)), (11, some (i64 ((b - 1 : Nat) : Int)))]) (fun x => b + 1 - x) ?_ (a := a + 1) ⟨by omega, hR1, hI, rfl⟩
  clear hI hR1
  rintro x rg σ3 X hX ⟨hx, hR3, hI, rfl⟩
  rw [s59a]
  rw [scanUp_step] at hI
  have second : ∀ {σ : AS}, x = I → RowA j n A1 L σ → ALoop (fl Try.prog hintsS (Tri Try.prog) 59 [true, true, true, true, false, false] [] K)
      [(0, some (.slice d n 1)), (1, some (i64 a)), (10, some (i64 x)), (11, some (i64 ((b - 1 : Nat) : Int)))] σ := by
    intro σ hxI hR4
    subst hxI
    refine aloop (fun (y : Nat) rg σ => (y ≤ b - 1 ∧ a ≤ y ∧ x ≤ y + 2) ∧ RowA j n A1 L σ ∧ scanDown (fun x => !ltInt x A1[a]!) A1 x y = J ∧ rg = [(0, some (.slice d n 1)), (1, some (i64 a)), (10, some (i64 x)), (11, some (i64 y))]) (fun y => y) ?_ (a := b - 1) ⟨by omega, hR4, hJ, rfl⟩
    rintro y rg σ5 Y hY ⟨hy, hR5, hJ5, rfl⟩
    rw [s59b]
    rw [scanDown_step _ _ (by omega)] at hJ5
    refine bm_mk (fun h1 => ?_) (fun h1 => ?_)
    · have h1 : x ≤ y := by have := of_decide_eq_true h1; omega
      have e3 : IntKind.wrap .i64 ((y : Int) - 1) = ((y - 1 : Nat) : Int) := by rw [wrap64 (by omega) (by omega)]; omega
      refine ltA hR5 hd (by omega) (by omega) (bm_mk (fun g => ?_) (fun g => ?_))
      · rw [if_pos ⟨h1, g⟩] at hJ5
        rw [e3]
        exact hY (y - 1) _ _ (by omega) ⟨by omega, hR5, hJ5, rfl⟩
      · rw [if_neg (fun c => by rw [c.2] at g; cases g)] at hJ5
        subst hJ5
        rw [if_neg (by omega)] at hK
        refine bm_mk (fun c => ?_) (fun c => ?_)
        · have c := of_decide_eq_true c
          omega
        · refine swA hR5 hd (by omega) (by omega) fun σ6 hR6 => ?_
          have e4 : IntKind.wrap .i64 ((x : Int) + 1) = ((x + 1 : Nat) : Int) := by rw [wrap64 (by omega) (by omega)]; omega
          rw [e3, e4]
          exact third (by omega) (by omega) (by omega) (by omega) (by omega) hR6 rfl hK
    · have h1 : ¬ x ≤ y := by have := of_decide_eq_false h1; omega
      rw [if_neg (fun c => h1 c.1)] at hJ5
      subst hJ5
      rw [if_pos (by omega)] at hK
      refine bm_mk (fun c => swA hR5 hd (by omega) (by omega) fun σ6 hR6 => hK _ (by simp only; omega) (by simp only; omega) hR6) (fun c => ?_)
      have c := of_decide_eq_false c
      omega
  refine bm_mk (fun h1 => ?_) (fun h1 => ?_)
  · have h1 : x ≤ b - 1 := by have := of_decide_eq_true h1; omega
    refine ltA hR3 hd (by omega) (by omega) (bm_mk (fun g => ?_) (fun g => ?_))
    · rw [if_pos ⟨h1, g⟩] at hI
      have e4 : IntKind.wrap .i64 ((x : Int) + 1) = ((x + 1 : Nat) : Int) := by rw [wrap64 (by omega) (by omega)]; omega
      rw [e4]
      exact hX (x + 1) _ _ (by omega) ⟨by omega, hR3, hI, rfl⟩
    · rw [if_neg (fun c => by rw [c.2] at g; cases g)] at hI
      exact second hI hR3
  · have h1 : ¬ x ≤ b - 1 := by have := of_decide_eq_false h1; omega
    rw [if_neg (fun c => h1 c.1)] at hI
    exact second hI hR3)
end
end Go.AI
end
section
/- The sort, exactly, further: the insertion sort that gives up; no condition. -/
set_option maxRecDepth 4000
set_option linter.unusedVariables false
set_option linter.unusedSimpArgs false
namespace Go.AI
open Go.Proofs
open Go.Sort (ltInt swp)
theorem scanSorted_step (B : Array Int) (b i : Nat) : Go.Sort.scanSorted ltInt B b i = if i < b ∧ (!ltInt B[i]! B[i - 1]!) = true then Go.Sort.scanSorted ltInt B b (i + 1) else i := by
  rw [Go.Sort.scanSorted]
  simp only [Bool.and_eq_true, decide_eq_true_eq]
theorem shiftDown_step {k : Nat} (h : 1 ≤ k) (B : Array Int) : Go.Sort.shiftDown ltInt k B = if (!ltInt B[k]! B[k - 1]!) = true then B else Go.Sort.shiftDown ltInt (k - 1) (swp B k (k - 1)) := by
  cases k with
  | zero => omega
  | succ k =>
    rw [Go.Sort.shiftDown]
    simp only [Nat.add_sub_cancel]
section
variable {σ : AS} {K : Value → AS → Prop} {j n : Nat} {A : Array Int} {L : List (Nat × AObj)} {d : Option Addr}
theorem c56 {a b : Nat} (hR : RowA j n A L σ) (hd : SlA d j n) (hab : a < b) (hb : b ≤ n) (hn : n ≤ 1048576)
    (hK : ∀ σ', RowA j n (Go.Sort.partialInsertionSort ltInt A a b).1 L σ' → K (.bool (Go.Sort.partialInsertionSort ltInt A a b).2) σ') : Tri Try.prog 56 [.slice d n 1, i64 a, i64 b] σ K := tri_in (by
  rw [s56]
  have e1 : IntKind.wrap .i64 ((a : Int) + 1) = ((a + 1 : Nat) : Int) := by rw [wrap64 (by omega) (by omega)]; omega
  rw [e1]
  unfold Go.Sort.partialInsertionSort at hK
  generalize hT : Go.Sort.partialIns ltInt a b 5 (a + 1) A = T at hK
  have ep : ∀ k : Nat, k ≤ n → IntKind.wrap .i64 ((k : Int) + 1) = ((k + 1 : Nat) : Int) := fun k h => by rw [wrap64 (by omega) (by omega)]; omega
  have em : ∀ k : Nat, 0 < k → k ≤ n → IntKind.wrap .i64 ((k : Int) - 1) = ((k - 1 : Nat) : Int) := fun k h0 h => by rw [wrap64 (by omega) (by omega)]; omega
  refine aloop (fun (q : Nat × Nat × Array Int) rg σ => (a < q.1 ∧ q.1 ≤ b ∧ q.2.1 ≤ 5) ∧ RowA j n q.2.2 L σ ∧ Go.Sort.partialIns ltInt a b (5 - q.2.1) q.1 q.2.2 = T ∧ rg = [(0, some (.slice d n 1)), (1, some (i64 a)), (2, some (i64 b)), (7, some (i64 q.1)), (8, some (i64 q.2.1))]) (fun q => 5 - q.2.1) ?_ (a := (a + 1, 0, A)) ⟨by simp only; omega, hR, hT, rfl⟩
  clear hR hT
  rintro ⟨x0, s, B⟩ rg σ1 Y hY ⟨h0, hR1, hT, rfl⟩
  rw [s56a]
  simp only at h0 hT hR1
  refine bm_mk (fun h => ?_) (fun h => ?_)
  rotate_left
  · have h := of_decide_eq_false h
    simp only at h
    have : 5 - s = 0 := by omega
    rw [this, Go.Sort.partialIns] at hT
    subst hT
    exact hK _ hR1
  have h := of_decide_eq_true h
  simp only at h
  have hs : s < 5 := by omega
  clear h
  have h5 : 5 - s = (5 - (s + 1)) + 1 := by omega
  rw [h5, Go.Sort.partialIns] at hT
  simp only at hT
  have es : IntKind.wrap .i64 ((s : Int) + 1) = ((s + 1 : Nat) : Int) := by rw [wrap64 (by omega) (by omega)]; omega
  generalize hI : Go.Sort.scanSorted ltInt B b x0 = I at hT
  have fin : ∀ {σ : AS} {x : Nat} {C : Array Int}, a < x → x ≤ b → RowA j n C L σ → Go.Sort.partialIns ltInt a b (5 - (s + 1)) x C = T → Y [(0, some (.slice d n 1)), (1, some (i64 a)), (2, some (i64 b)), (7, some (i64 x)), (8, some (i64 (IntKind.wrap .i64 ((s : Int) + 1))))] σ := by
    intro σ x C g1 g2 hR2 g3
    rw [es]
    exact hY (x, s + 1, C) _ _ (by simp only; omega) ⟨by simp only; omega, hR2, g3, rfl⟩
  have lD : ∀ {σ : AS} {x : Nat} {C : Array Int}, a < x → x ≤ b → RowA j n C L σ → Go.Sort.partialIns ltInt a b (5 - (s + 1)) x (Go.Sort.shiftUp ltInt b (x + 1) C) = T → ALoop (fl Try.prog hintsS (Tri Try.prog) 56 [true, true, false, true, false, false, true, false, false, true, true, true, true, true, true, false, true, false] [Y] K)
      [(0, some (.slice d n 1)), (1, some (i64 a)), (2, some (i64 b)), (7, some (i64 x)), (8, some (i64 s)), (10, some (i64 (IntKind.wrap .i64 ((x : Int) + 1))))] σ := by
    intro σ x C g1 g2 hR2 hC
    rw [ep x (by omega)]
    generalize hU : Go.Sort.shiftUp ltInt b (x + 1) C = U at hC
    refine aloop (fun (m : Nat × Array Int) rg σ => 1 ≤ m.1 ∧ RowA j n m.2 L σ ∧ Go.Sort.shiftUp ltInt b m.1 m.2 = U ∧ rg = [(0, some (.slice d n 1)), (1, some (i64 a)), (2, some (i64 b)), (7, some (i64 x)), (8, some (i64 s)), (10, some (i64 m.1))]) (fun m => b - m.1) ?_ (a := (x + 1, C)) ⟨by simp only; omega, hR2, hU, rfl⟩
    rintro ⟨m, D⟩ rg σ3 X hX ⟨k1, hR3, hU3, rfl⟩
    simp only at k1 hU3 hR3
    rw [s56d]
    rw [Go.Sort.shiftUp] at hU3
    refine bm_mk (fun h => ?_) (fun h => ?_)
    rotate_left
    · have h := of_decide_eq_false h
      simp only at h
      rw [if_neg (by omega)] at hU3
      subst hU3
      exact fin g1 g2 hR3 hC
    have h := of_decide_eq_true h
    simp only at h
    rw [if_pos (by omega)] at hU3
    simp only
    rw [em m (by omega) (by omega)]
    refine ltA hR3 hd (by omega) (by omega) (bm_mk (fun g => ?_) (fun g => ?_))
    · rw [if_pos g] at hU3
      subst hU3
      exact fin g1 g2 hR3 hC
    · rw [if_neg (by rw [g]; simp)] at hU3
      refine swA hR3 hd (by omega) (by omega) fun σ4 hR4 => ?_
      rw [ep m (by omega)]
      exact hX (m + 1, _) _ _ (by simp only; omega) ⟨by simp only; omega, hR4, hU3, rfl⟩
  have tD : ∀ {σ : AS} {x : Nat} {C : Array Int}, a < x → x ≤ b → RowA j n C L σ → Go.Sort.partialIns ltInt a b (5 - (s + 1)) x (if b - x ≥ 2 then Go.Sort.shiftUp ltInt b (x + 1) C else C) = T → bmatch (decide (IntKind.wrap .i64 ((b : Int) - x) ≥ 2))
      (ALoop (fl Try.prog hintsS (Tri Try.prog) 56 [true, true, false, true, false, false, true, false, false, true, true, true, true, true, true, false, true, false] [Y] K)
        [(0, some (.slice d n 1)), (1, some (i64 a)), (2, some (i64 b)), (7, some (i64 x)), (8, some (i64 s)), (10, some (i64 (IntKind.wrap .i64 ((x : Int) + 1))))] σ)
      (Y [(0, some (.slice d n 1)), (1, some (i64 a)), (2, some (i64 b)), (7, some (i64 x)), (8, some (i64 (IntKind.wrap .i64 ((s : Int) + 1))))] σ) := by
    intro σ x C g1 g2 hR2 hC
    rw [wrap64 (n := (b : Int) - x) (by omega) (by omega)]
    refine bm_mk (fun c => ?_) (fun c => ?_)
    · have c := of_decide_eq_true c
      rw [if_pos (by omega)] at hC
      exact lD g1 g2 hR2 hC
    · have c := of_decide_eq_false c
      rw [if_neg (by omega)] at hC
      exact fin g1 g2 hR2 hC
  have lC : ∀ {σ : AS} {x : Nat} {C : Array Int}, a < x → x < b → RowA j n C L σ → Go.Sort.partialIns ltInt a b (5 - (s + 1)) x (if b - x ≥ 2 then Go.Sort.shiftUp ltInt b (x + 1) (Go.Sort.shiftDown ltInt (x - 1) C) else Go.Sort.shiftDown ltInt (x - 1) C) = T → ALoop (fl Try.prog hintsS (Tri Try.prog) 56 [true, true, false, true, false, false, true, false, false, true, true, true, true, false, true, false, true, false] [Y] K)
      [(0, some (.slice d n 1)), (1, some (i64 a)), (2, some (i64 b)), (7, some (i64 x)), (8, some (i64 s)), (9, some (i64 ((x - 1 : Nat) : Int)))] σ := by
    intro σ x C g1 g2 hR2 hC
    generalize hU : Go.Sort.shiftDown ltInt (x - 1) C = U at hC
    refine aloop (fun (m : Nat × Array Int) rg σ => m.1 < b ∧ RowA j n m.2 L σ ∧ Go.Sort.shiftDown ltInt m.1 m.2 = U ∧ rg = [(0, some (.slice d n 1)), (1, some (i64 a)), (2, some (i64 b)), (7, some (i64 x)), (8, some (i64 s)), (9, some (i64 m.1))]) (fun m => m.1) ?_ (a := (x - 1, C)) ⟨by simp only; omega, hR2, hU, rfl⟩
    rintro ⟨m, D⟩ rg σ3 X hX ⟨k1, hR3, hU3, rfl⟩
    simp only at k1 hU3 hR3
    rw [s56c]
    refine bm_mk (fun h => ?_) (fun h => ?_)
    rotate_left
    · have h := of_decide_eq_false h
      simp only at h
      have m0 : m = 0 := by omega
      subst m0
      rw [Go.Sort.shiftDown] at hU3
      subst hU3
      exact tD g1 (by omega) hR3 hC
    have h := of_decide_eq_true h
    simp only at h
    rw [shiftDown_step (by omega)] at hU3
    simp only
    rw [em m (by omega) (by omega)]
    refine ltA hR3 hd (by omega) (by omega) (bm_mk (fun g => ?_) (fun g => ?_))
    · rw [if_pos g] at hU3
      subst hU3
      exact tD g1 (by omega) hR3 hC
    · rw [if_neg (by rw [g]; simp)] at hU3
      refine swA hR3 hd (by omega) (by omega) fun σ4 hR4 => ?_
      exact hX (m - 1, _) _ _ (by simp only; omega) ⟨by simp only; omega, hR4, hU3, rfl⟩
  refine aloop (fun (x : Nat) rg σ => (a < x ∧ x ≤ b) ∧ RowA j n B L σ ∧ Go.Sort.scanSorted ltInt B b x = I ∧ rg = [(0, some (.slice d n 1)), (1, some (i64 a)), (2, some (i64 b)), (7, some (i64 x)), (8, some (i64 s))]) (fun x => b - x) ?_ (a := x0) ⟨by omega, hR1, hI, rfl⟩
  clear hI hR1
  rintro x rg σ2 X hX ⟨g0, hR2, hI, rfl⟩
  rw [s56b]
  rw [em x (by omega) (by omega)]
  rw [scanSorted_step] at hI
  have stop : ∀ {G1 : Prop} {σ : AS}, x = I → RowA j n B L σ → (x ≠ b → ¬ b - a < 50 → G1) → bmatch (decide ((x : Int) = (b : Int))) (K (.bool true) σ) (bmatch (decide (IntKind.wrap .i64 ((b : Int) - a) < 50)) (K (.bool false) σ) G1) := by
    intro G1 σ hxI hR3 hG
    subst hxI
    refine bm_mk (fun c => ?_) (fun c => ?_)
    · have c := of_decide_eq_true c
      rw [if_pos (by omega)] at hT
      subst hT
      exact hK _ hR3
    · have c := of_decide_eq_false c
      rw [if_neg (by omega)] at hT
      rw [wrap64 (by omega) (by omega)]
      refine bm_mk (fun c' => ?_) (fun c' => ?_)
      · have c' := of_decide_eq_true c'
        rw [if_pos (by omega)] at hT
        subst hT
        exact hK _ hR3
      · have c' := of_decide_eq_false c'
        exact hG (by omega) (by omega)
  have eqd : ((x : Int) == (b : Int)) = decide ((x : Int) = (b : Int)) := by by_cases h : (x : Int) = b <;> simp [h]
  refine bm_mk (fun h => ?_) (fun h => ?_)
  · have h := of_decide_eq_true h
    refine ltA hR2 hd (by omega) (by omega) (bm_mk (fun g => ?_) (fun g => ?_))
    · rw [if_pos ⟨by omega, g⟩] at hI
      rw [ep x (by omega)]
      exact hX (x + 1) _ _ (by omega) ⟨by omega, hR2, hI, rfl⟩
    · rw [if_neg (fun c => by rw [c.2] at g; cases g)] at hI
      rw [eqd]
      refine stop hI hR2 fun c1 c2 => ?_
      subst hI
      rw [if_neg c1, if_neg c2] at hT
      refine swA hR2 hd (by omega) (by omega) fun σ4 hR4 => ?_
      rw [wrap64 (n := (x : Int) - a) (by omega) (by omega)]
      refine bm_mk (fun c => ?_) (fun c => ?_)
      · have c := of_decide_eq_true c
        rw [if_pos (show x - a ≥ 2 by omega)] at hT
        exact lC (by omega) (by omega) hR4 hT
      · have c := of_decide_eq_false c
        rw [if_neg (show ¬ x - a ≥ 2 by omega)] at hT
        exact tD (by omega) (by omega) hR4 hT
  · have h := of_decide_eq_false h
    rw [if_neg (fun c => by omega)] at hI
    rw [eqd]
    exact stop hI hR2 fun c1 c2 => absurd (show x = b by omega) c1)
end
end Go.AI
end
section
/- The sort, exactly, further: the random exchanges; no condition. -/
set_option maxRecDepth 10000
set_option linter.unusedVariables false
set_option linter.unusedSimpArgs false
namespace Go.AI
open Go.Proofs
open Go.Sort (ltInt swp)
/-- The lengths of the numbers of eight bits. -/
def lenTab : List UInt8 := [0, 1] ++ List.replicate 2 2 ++ List.replicate 4 3 ++ List.replicate 8 4 ++ List.replicate 16 5 ++ List.replicate 32 6 ++ List.replicate 64 7 ++ List.replicate 128 8
theorem lenTab_all : ∀ l : Fin 256, (lenTab.getD l.val 0).toNat = Go.Sort.bitsLen l.val ∧ Go.Sort.bitsLen l.val ≤ 8 := by decide +kernel
theorem bitsLen_hi : ∀ l : Fin 256, Go.Sort.bitsLen (l.val + 256) = 9 := by decide +kernel
theorem bitsLen_low : ∀ l : Fin 512, l.val < 2 ^ Go.Sort.bitsLen l.val := by decide +kernel
theorem wrapU64 {n : Int} (h0 : 0 ≤ n) (h1 : n ≤ 18446744073709551615) : IntKind.wrap .u64 n = n := by
  simp [IntKind.wrap, IntKind.signed, IntKind.bits]
  omega
theorem u64_lt (u : UInt64) : u.toNat ≤ 18446744073709551615 := by
  have := u.toNat_lt
  omega
theorem xor64 (u v : UInt64) : ixor .u64 (u.toNat : Int) (v.toNat : Int) = ((u ^^^ v).toNat : Int) := by
  unfold ixor
  have hb : IntKind.u64.bits = 64 := rfl
  have h1 := u64_lt u
  have h2 := u64_lt v
  rw [BitVec.toNat_xor, BitVec.ofInt_natCast, BitVec.ofInt_natCast, BitVec.toNat_ofNat, BitVec.toNat_ofNat, hb, Nat.mod_eq_of_lt (by omega), Nat.mod_eq_of_lt (by omega), ← UInt64.toNat_xor]
  exact wrapU64 (by omega) (by have := u64_lt (u ^^^ v); omega)
theorem shl64 (u : UInt64) (k : Nat) (hk : k < 64) : ishl .u64 (u.toNat : Int) (k : Int) = ((u <<< UInt64.ofNat k).toNat : Int) := by
  unfold ishl
  have hb : IntKind.u64.bits = 64 := rfl
  have hk2 : (UInt64.ofNat k).toNat % 64 = k := by
    rw [UInt64.toNat_ofNat', Nat.mod_eq_of_lt (by omega), Nat.mod_eq_of_lt (by omega)]
  rw [UInt64.toNat_shiftLeft, hk2, Int.toNat_natCast, hb, Nat.min_eq_left (by omega), Nat.shiftLeft_eq]
  have e : (u.toNat : Int) * 2 ^ k = ((u.toNat * 2 ^ k : Nat) : Int) := by simp
  rw [e]
  simp only [IntKind.wrap, IntKind.bits, IntKind.signed]
  generalize u.toNat * 2 ^ k = z
  simp
theorem shr64 (u : UInt64) (k : Nat) (hk : k < 64) : ishr .u64 (u.toNat : Int) (k : Int) = ((u >>> UInt64.ofNat k).toNat : Int) := by
  unfold ishr
  have hb : IntKind.u64.bits = 64 := rfl
  have hk2 : (UInt64.ofNat k).toNat % 64 = k := by
    rw [UInt64.toNat_ofNat', Nat.mod_eq_of_lt (by omega), Nat.mod_eq_of_lt (by omega)]
  rw [UInt64.toNat_shiftRight, hk2, Int.toNat_natCast, hb, Nat.min_eq_left (by omega), Nat.shiftRight_eq_div_pow]
  have e : (2 : Int) ^ k = ((2 ^ k : Nat) : Int) := by simp
  rw [e, Int.fdiv_eq_ediv_of_nonneg _ (Int.natCast_nonneg _), Int.natCast_ediv]
theorem and64 (u : UInt64) {y : Nat} (h1 : y < 18446744073709551616) : iand .u64 (u.toNat : Int) (y : Int) = ((u.toNat &&& y : Nat) : Int) := by
  unfold iand
  have hb : IntKind.u64.bits = 64 := rfl
  have h2 := u64_lt u
  rw [BitVec.toNat_and, BitVec.ofInt_natCast, BitVec.ofInt_natCast, BitVec.toNat_ofNat, BitVec.toNat_ofNat, hb, Nat.mod_eq_of_lt (by omega), Nat.mod_eq_of_lt (by omega)]
  exact wrapU64 (by omega) (by have : u.toNat &&& y ≤ y := Nat.and_le_right
                               omega)
section
variable {σ : AS} {K : Value → AS → Prop} {j n : Nat} {A : Array Int} {L : List (Nat × AObj)} {d : Option Addr}
theorem c61 {l : Nat} (h0 : 0 < l) (h1 : l < 512) (hK : K (i64 (Go.Sort.bitsLen l : Nat)) σ) : Tri Try.prog 61 [.int .u64 l] σ K := tri_in (by
  rw [s61]
  refine bm_mk (fun h => by have := of_decide_eq_true h; omega) (fun _ => bm_mk (fun h => by have := of_decide_eq_true h; omega) (fun _ => bm_mk (fun h => ?_) (fun h => ?_)))
  · have h := of_decide_eq_true h
    have e : ishr .u64 (l : Int) 8 = 1 := by
      unfold ishr
      have : (2 : Int) ^ min (8 : Int).toNat IntKind.u64.bits = 256 := by decide
      rw [this, Int.fdiv_eq_ediv_of_nonneg _ (by decide)]
      omega
    rw [e]
    have := bitsLen_hi ⟨l - 256, by omega⟩
    simp only at this
    rw [show l - 256 + 256 = l by omega] at this
    rw [this] at hK
    exact req_mk (by decide) (req_mk (by decide) hK)
  · have h := of_decide_eq_false h
    have e : IntKind.wrap .u8 (l : Int) = (l : Int) := by
      simp [IntKind.wrap, IntKind.bits, IntKind.signed]
      omega
    rw [e]
    refine req_mk (by omega) (req_mk (show (l : Int) < (256 : Nat) by omega) ?_)
    obtain ⟨g1, g2⟩ := lenTab_all ⟨l, by omega⟩
    simp only at g1 g2
    rw [Int.toNat_natCast]
    change K (i64 (IntKind.wrap .i64 (0 + IntKind.wrap .i64 (((lenTab.getD l 0).toNat : Nat) : Int)))) σ
    rw [g1, wrap64 (n := (Go.Sort.bitsLen l : Int)) (by omega) (by omega), wrap64 (by omega) (by omega), Int.zero_add]
    exact hK)
theorem bitsLen_le {l : Nat} (h : l < 512) : Go.Sort.bitsLen l ≤ 9 := by
  by_cases h2 : l < 256
  · have := (lenTab_all ⟨l, h2⟩).2
    simp only at this
    omega
  · have := bitsLen_hi ⟨l - 256, by omega⟩
    simp only at this
    rw [show l - 256 + 256 = l by omega] at this
    omega
theorem c50 {l : Nat} (h0 : 0 < l) (h1 : l < 512) (hK : K (i64 (Go.Sort.bitsLen l : Nat)) σ) : Tri Try.prog 50 [.int .u64 l] σ K := tri_in (by
  rw [s50]
  refine c61 h0 h1 ?_
  simp only [tI_int]
  exact hK)
theorem c63 {l : Nat} (h0 : 0 < l) (h1 : l < 512) (hK : K (.int .u64 (1 <<< Go.Sort.bitsLen l : Nat)) σ) : Tri Try.prog 63 [i64 l] σ K := tri_in (by
  rw [s63, wrapU64 (by omega) (by omega)]
  refine c50 h0 h1 ?_
  simp only [tI_int]
  refine req_mk (by omega) ?_
  have h9 := bitsLen_le h1
  generalize Go.Sort.bitsLen l = t at *
  have e : ishl .u64 1 (t : Int) = ((1 <<< t : Nat) : Int) := by
    unfold ishl
    have hb : IntKind.u64.bits = 64 := rfl
    rw [Int.toNat_natCast, hb, Nat.min_eq_left (by omega), Int.one_mul, Nat.shiftLeft_eq, Nat.one_mul]
    have e2 : ((2 : Int) ^ t) = ((2 ^ t : Nat) : Int) := by simp
    rw [e2]
    have : 2 ^ t ≤ 2 ^ 9 := Nat.pow_le_pow_right (by omega) h9
    generalize 2 ^ t = z at *
    exact wrapU64 (by omega) (by omega)
  rw [e]
  exact hK)
theorem c64 {c : Nat} {u : UInt64} (H : Has σ ((c, .row .plain [.int .u64 u.toNat]) :: L)) (hK : ∀ σ', Has σ' ((c, .row .plain [.int .u64 (Go.Sort.xorNext u).toNat]) :: L) → K (.int .u64 (Go.Sort.xorNext u).toNat) σ') : Tri Try.prog 64 [ptr c] σ K := tri_in (by
  rw [s64]
  refine ldc_mk H 0 rfl rfl (tI_mk (ldc_mk H 0 rfl rfl (tI_mk ?_)))
  have e1 : ishl .u64 (u.toNat : Int) 13 = ((u <<< 13).toNat : Int) := shl64 u 13 (by omega)
  rw [e1, xor64]
  generalize hu1 : u ^^^ (u <<< 13) = u1
  refine put1_mk H 0 rfl rfl (by simp) fun σ1 H1 => ?_
  refine ldc_mk H1 0 rfl rfl (tI_mk (ldc_mk H1 0 rfl rfl (tI_mk ?_)))
  have e2 : ishr .u64 (u1.toNat : Int) 7 = ((u1 >>> 7).toNat : Int) := shr64 u1 7 (by omega)
  rw [e2, xor64]
  generalize hu2 : u1 ^^^ (u1 >>> 7) = u2
  refine put1_mk H1 0 rfl rfl (by simp) fun σ2 H2 => ?_
  refine ldc_mk H2 0 rfl rfl (tI_mk (ldc_mk H2 0 rfl rfl (tI_mk ?_)))
  have e3 : ishl .u64 (u2.toNat : Int) 17 = ((u2 <<< 17).toNat : Int) := shl64 u2 17 (by omega)
  rw [e3, xor64]
  have hx : Go.Sort.xorNext u = u2 ^^^ (u2 <<< 17) := by
    unfold Go.Sort.xorNext
    simp only [hu1, hu2]
  rw [← hx]
  refine put1_mk H2 0 rfl rfl (by simp) fun σ3 H3 => ?_
  exact ldc_mk H3 0 rfl rfl (tI_mk (hK _ H3)))
/-- So many random exchanges. -/
def brk (a l m : Nat) : Nat → Nat → UInt64 × Array Int → Array Int
  | 0, _, st => st.2
  | k + 1, x, st => brk a l m k (x + 1) (Go.Sort.breakStep a l m st x)
theorem brk3 (a l m x : Nat) (st : UInt64 × Array Int) : (Go.Sort.breakStep a l m (Go.Sort.breakStep a l m (Go.Sort.breakStep a l m st x) (x + 1)) (x + 2)).2 = brk a l m 3 x st := rfl
set_option maxHeartbeats 1000000 in
theorem c53 {a b : Nat} (hR : RowA j n A L σ) (hd : SlA d j n) (hab : a ≤ b) (hb : b ≤ n) (hn : n < 512) (hK : ∀ σ', RowA j n (Go.Sort.breakPatterns A a b) L σ' → K unit0 σ') :
    Tri Try.prog 53 [.slice d n 1, i64 a, i64 b] σ K := tri_in (by
  rw [s53]
  have e1 : IntKind.wrap .i64 ((b : Int) - a) = ((b - a : Nat) : Int) := by rw [wrap64 (by omega) (by omega)]; omega
  rw [e1]
  unfold Go.Sort.breakPatterns at hK
  simp only at hK
  refine bm_mk (fun h => ?_) (fun h => ?_)
  rotate_left
  · have h := of_decide_eq_false h
    rw [if_neg (by omega)] at hK
    exact hK _ hR
  have h := of_decide_eq_true h
  rw [if_pos (by omega)] at hK
  obtain ⟨hl, H⟩ := hR
  refine newAt_mk H fun c σ1 H1 => ?_
  refine put1_mk H1 0 rfl rfl (by simp) fun σ2 H2 => ?_
  refine c63 (l := b - a) (by omega) (by omega) ?_
  simp only [tI_int]
  generalize hl0 : b - a = l at *
  have hm1 : l < 1 <<< Go.Sort.bitsLen l := by
    have := bitsLen_low ⟨l, by omega⟩
    rw [Nat.shiftLeft_eq, Nat.one_mul]
    exact this
  have hm2 : 1 <<< Go.Sort.bitsLen l ≤ 512 := by
    rw [Nat.shiftLeft_eq, Nat.one_mul]
    exact Nat.pow_le_pow_right (by omega) (bitsLen_le (l := l) (by omega))
  have hm3 : 1 <<< Go.Sort.bitsLen l ≤ 2 * l := by
    rw [Nat.shiftLeft_eq, Nat.one_mul]
    unfold Go.Sort.bitsLen
    rw [if_neg (by omega), Nat.pow_succ]
    have := Nat.log2_self_le (n := l) (by omega)
    omega
  generalize 1 <<< Go.Sort.bitsLen l = m at *
  have e2 : IntKind.wrap .i64 ((a : Int) + IntKind.wrap .i64 (IntKind.wrap .i64 (Int.tdiv (l : Int) 4) * 2)) = ((a + l / 4 * 2 : Nat) : Int) := by
    have h0 : Int.tdiv (l : Int) 4 = ((l / 4 : Nat) : Int) := by rw [Int.tdiv_eq_ediv_of_nonneg (by omega)]; omega
    rw [h0, wrap64 (n := ((l / 4 : Nat) : Int)) (by omega) (by omega), wrap64 (n := ((l / 4 : Nat) : Int) * 2) (by omega) (by omega), wrap64 (by omega) (by omega)]
    omega
  have e3 : IntKind.wrap .i64 (((a + l / 4 * 2 : Nat) : Int) - 1) = ((a + l / 4 * 2 - 1 : Nat) : Int) := by rw [wrap64 (by omega) (by omega)]; omega
  rw [e2, e3]
  have e0 : IntKind.wrap .u64 (l : Int) = (((UInt64.ofNat l).toNat : Nat) : Int) := by
    rw [wrapU64 (by omega) (by omega), UInt64.toNat_ofNat', Nat.mod_eq_of_lt (by omega)]
  rw [e0] at H2
  rw [brk3] at hK
  generalize hT : brk a l m 3 (a + l / 4 * 2 - 1) (UInt64.ofNat l, A) = T at hK
  have hT' : brk a l m (a + l / 4 * 2 + 2 - (a + l / 4 * 2 - 1)) (a + l / 4 * 2 - 1) (UInt64.ofNat l, A) = T := by
    have e : a + l / 4 * 2 + 2 - (a + l / 4 * 2 - 1) = 3 := by omega
    rw [e]
    exact hT
  clear hT
  refine aloop (fun (p : Nat × UInt64 × Array Int) rg σ => (p.1 ≤ a + l / 4 * 2 + 2 ∧ a < p.1) ∧ RowA j n p.2.2 ((c, .row .plain [.int .u64 p.2.1.toNat]) :: L) σ ∧ brk a l m (a + l / 4 * 2 + 2 - p.1) p.1 p.2 = T ∧
    rg = [(0, some (.slice d n 1)), (1, some (i64 a)), (6, some (i64 l)), (7, some (ptr c)), (8, some (.int .u64 m)), (9, some (i64 p.1))]) (fun p => a + l / 4 * 2 + 2 - p.1) ?_ (a := (a + l / 4 * 2 - 1, UInt64.ofNat l, A))
    ⟨by simp only; omega, ⟨hl, rowL_swap H2⟩, hT', rfl⟩
  rintro ⟨x, u, B⟩ rg σ3 X hX ⟨h1, hR3, hT3, rfl⟩
  simp only at h1 hR3 hT3
  have hR4 := hR3.drop
  rw [s53l, e2]
  have e4 : IntKind.wrap .i64 (((a + l / 4 * 2 : Nat) : Int) + 1) = ((a + l / 4 * 2 + 1 : Nat) : Int) := by rw [wrap64 (by omega) (by omega)]; omega
  rw [e4]
  refine bm_mk (fun h3 => ?_) (fun h3 => ?_)
  rotate_left
  · have h3 := of_decide_eq_false h3
    simp only at h3
    rw [show a + l / 4 * 2 + 2 - x = 0 by omega] at hT3
    change B = T at hT3
    subst hT3
    exact hK _ hR4
  have h3 := of_decide_eq_true h3
  simp only at h3
  rw [show a + l / 4 * 2 + 2 - x = (a + l / 4 * 2 + 2 - (x + 1)) + 1 by omega, brk] at hT3
  unfold Go.Sort.breakStep at hT3
  simp only at hT3
  obtain ⟨hz, H3⟩ := hR3
  refine c64 (rowL_out H3) fun σ4 H4 => ?_
  simp only [tI_int]
  have hR5 : RowA j n B ((c, .row .plain [.int .u64 (Go.Sort.xorNext u).toNat]) :: L) σ4 := ⟨hz, rowL_swap H4⟩
  have e5 : IntKind.wrap .u64 ((m : Int) - 1) = ((m - 1 : Nat) : Int) := by rw [wrapU64 (by omega) (by omega)]; omega
  rw [e5, and64 _ (by omega)]
  have hw : (Go.Sort.xorNext u).toNat &&& (m - 1) ≤ m - 1 := Nat.and_le_right
  generalize (Go.Sort.xorNext u).toNat &&& (m - 1) = w at *
  have e6 : IntKind.wrap .i64 (w : Int) = (w : Int) := wrap64 (by omega) (by omega)
  have e9 : IntKind.wrap .i64 ((x : Int) + 1) = ((x + 1 : Nat) : Int) := by rw [wrap64 (by omega) (by omega)]; omega
  rw [e6, e9]
  refine bm_mk (fun g => ?_) (fun g => ?_)
  · have g := of_decide_eq_true g
    rw [if_pos (show w ≥ l by omega)] at hT3
    have e7 : IntKind.wrap .i64 ((w : Int) - l) = ((w - l : Nat) : Int) := by rw [wrap64 (by omega) (by omega)]; omega
    have e8 : IntKind.wrap .i64 ((a : Int) + ((w - l : Nat) : Int)) = ((a + (w - l) : Nat) : Int) := by rw [wrap64 (by omega) (by omega)]; omega
    rw [e7, e8]
    exact swA hR5 hd (by omega) (by omega) fun σ5 hR6 => hX (x + 1, _, _) _ _ (by simp only; omega) ⟨by simp only; omega, hR6, hT3, rfl⟩
  · have g := of_decide_eq_false g
    rw [if_neg (show ¬ w ≥ l by omega)] at hT3
    have e8 : IntKind.wrap .i64 ((a : Int) + (w : Int)) = ((a + w : Nat) : Int) := by rw [wrap64 (by omega) (by omega)]; omega
    rw [e8]
    exact swA hR5 hd (by omega) (by omega) fun σ5 hR6 => hX (x + 1, _, _) _ _ (by simp only; omega) ⟨by simp only; omega, hR6, hT3, rfl⟩)
end
end Go.AI
end
section
/- The sort, exactly: pdqsort; no condition. -/
set_option maxRecDepth 1000000
set_option linter.unusedVariables false
set_option linter.unusedSimpArgs false
namespace Go.AI
open Go.Proofs
open Go.Sort (ltInt swp)
abbrev w64 (n : Int) : Int := IntKind.wrap .i64 n
/-- Behind the pivot: the parting in two. -/
def pdqP (T : Ct) (d : Option Addr) (n : Nat) (a b p q : Int) (X : Regs → AS → Prop) (σ : AS) : Prop :=
  T 59 [.slice d n 1, i64 a, i64 b, i64 p] σ fun v σ1 => tTup v fun l => pSome l[0]? fun u => tI .i64 u fun m => tTup v fun l2 => pSome l2[1]? fun u2 => tB u2 fun t =>
    bmatch (decide (w64 (m - a) < w64 (b - m)))
      (T 49 [.slice d n 1, i64 a, i64 m, i64 q] σ1 fun _ σ2 => X [(0, some (.slice d n 1)), (1, some (i64 (w64 (m + 1)))), (2, some (i64 b)), (3, some (i64 q)), (8, some (.bool (decide (w64 (m - a) ≥ w64 (Int.tdiv (w64 (b - a)) 8))))), (9, some (.bool t))] σ2)
      (T 49 [.slice d n 1, i64 (w64 (m + 1)), i64 b, i64 q] σ1 fun _ σ2 => X [(0, some (.slice d n 1)), (1, some (i64 a)), (2, some (i64 m)), (3, some (i64 q)), (8, some (.bool (decide (w64 (b - m) ≥ w64 (Int.tdiv (w64 (b - a)) 8))))), (9, some (.bool t))] σ2)
def pdqT (T : Ct) (d : Option Addr) (n : Nat) (a b p q : Int) (u v : Bool) (X : Regs → AS → Prop) (σ : AS) : Prop :=
  bmatch (decide (a > 0))
    (req (0 ≤ w64 (a - 1)) (req (w64 (a - 1) < (n : Int)) (pSome d fun a0 => ldc σ (Addr.add a0 (Int.toNat (w64 (a - 1)) * szOf Try.prog 22)) fun x => tI .u32 x fun x =>
      req (0 ≤ p) (req (p < (n : Int)) (pSome d fun a0 => ldc σ (Addr.add a0 (Int.toNat p * szOf Try.prog 22)) fun y => tI .u32 y fun y =>
        T 57 [u32 x, u32 y] σ fun c σ1 => tB c fun c => bmatch (!c)
          (T 58 [.slice d n 1, i64 a, i64 b, i64 p] σ1 fun m σ2 => tI .i64 m fun m => X [(0, some (.slice d n 1)), (1, some (i64 m)), (2, some (i64 b)), (3, some (i64 q)), (8, some (.bool u)), (9, some (.bool v))] σ2)
          (pdqP T d n a b p q X σ1))))))
    (pdqP T d n a b p q X σ)
def pdqM (T : Ct) (d : Option Addr) (n : Nat) (a b q : Int) (u v : Bool) (X : Regs → AS → Prop) (K : Value → AS → Prop) (σ : AS) : Prop :=
  T 54 [.slice d n 1, i64 a, i64 b] σ fun c σ1 => tTup c fun l => pSome l[0]? fun p => tI .i64 p fun p => tTup c fun l2 => pSome l2[1]? fun h => tI .i64 h fun h =>
    bmatch (h == 2)
      (T 55 [.slice d n 1, i64 a, i64 b] σ1 fun _ σ2 => bmatch u (bmatch v (T 56 [.slice d n 1, i64 a, i64 b] σ2 fun c σ3 => tB c fun c => bmatch c (K (.tuple ⟨[]⟩) σ3) (pdqT T d n a b (w64 (w64 (b - 1) - w64 (p - a))) q u v X σ3))
        (pdqT T d n a b (w64 (w64 (b - 1) - w64 (p - a))) q u v X σ2)) (pdqT T d n a b (w64 (w64 (b - 1) - w64 (p - a))) q u v X σ2))
      (bmatch u (bmatch v (bmatch (h == 1) (T 56 [.slice d n 1, i64 a, i64 b] σ1 fun c σ3 => tB c fun c => bmatch c (K (.tuple ⟨[]⟩) σ3) (pdqT T d n a b p q u v X σ3)) (pdqT T d n a b p q u v X σ1))
        (pdqT T d n a b p q u v X σ1)) (pdqT T d n a b p q u v X σ1))
theorem s49m : ∀ (T : Ct) (d : Option Addr) (n : Nat) (a b l : Int) (u v : Bool) (X : Regs → AS → Prop) (σ : AS) (K : Value → AS → Prop),
    fl Try.prog hintsS T 49 [true, true, false] [] K X [(0, some (.slice d n 1)), (1, some (i64 a)), (2, some (i64 b)), (3, some (i64 l)), (8, some (.bool u)), (9, some (.bool v))] σ =
      bmatch (decide (w64 (b - a) ≤ 12)) (T 51 [.slice d n 1, i64 a, i64 b] σ fun _ σ1 => K (.tuple ⟨[]⟩) σ1)
        (bmatch (l == 0) (T 52 [.slice d n 1, i64 a, i64 b] σ fun _ σ1 => K (.tuple ⟨[]⟩) σ1)
          (bmatch (!u) (T 53 [.slice d n 1, i64 a, i64 b] σ fun _ σ1 => pdqM T d n a b (w64 (l - 1)) u v X K σ1) (pdqM T d n a b l u v X K σ))) := by
  intros
  kernel_rfl
end Go.AI
end
section
/- The sort, exactly: pdqsort puts a row in order; no condition. -/
set_option maxRecDepth 10000
set_option linter.unusedVariables false
set_option linter.unusedSimpArgs false
namespace Go.AI
open Go.Proofs
open Go.Sort (ltInt swp)
theorem bmd_mk {p : Prop} [Decidable p] {A B : Prop} (h1 : p → A) (h2 : ¬ p → B) : bmatch (decide p) A B := bm_mk (fun h => h1 (of_decide_eq_true h)) (fun h => h2 (of_decide_eq_false h))
section
variable {σ : AS} {K : Value → AS → Prop} {j n : Nat} {A : Array Int} {L : List (Nat × AObj)} {d : Option Addr}
/-- What is proved of pdqsort, at rows of less than so many places. -/
def Pdq (j n : Nat) (L : List (Nat × AObj)) (d : Option Addr) (m : Nat) : Prop :=
  ∀ {σ : AS} {K : Value → AS → Prop} {A : Array Int} {a b l : Nat}, b - a < m → RowA j n A L σ → SlA d j n → a ≤ b → b ≤ n → n < 512 → l ≤ 1000 → (∀ σ', RowA j n (Go.Sort.pdq ltInt A a b l true true) L σ' → K unit0 σ') → Tri Try.prog 49 [.slice d n 1, i64 a, i64 b, i64 l] σ K
/-- What the loop's next round is asked. -/
def Again (j n : Nat) (L : List (Nat × AObj)) (d : Option Addr) (T : Array Int) (r : Nat) (X : Regs → AS → Prop) : Prop :=
  ∀ {σ : AS} {B : Array Int} {a b l : Nat} {u v : Bool}, b - a < r → a ≤ b → b ≤ n → l ≤ 1000 → RowA j n B L σ → Go.Sort.pdq ltInt B a b l u v = T →
    X [(0, some (.slice d n 1)), (1, some (i64 a)), (2, some (i64 b)), (3, some (i64 l)), (8, some (.bool u)), (9, some (.bool v))] σ
theorem w64_eq {n : Int} (h0 : -9223372036854775808 ≤ n) (h1 : n ≤ 9223372036854775807) : w64 n = n := wrap64 h0 h1
theorem pdqP_mk {m a b p q : Nat} {B T : Array Int} {X : Regs → AS → Prop} (ih : Pdq j n L d m) (hX : Again j n L d T (b - a) X) (hR : RowA j n B L σ) (hd : SlA d j n) (hm : b - a < m + 1) (ha : a ≤ p) (hp : p < b) (hb : b ≤ n) (hn : n < 512) (hq : q ≤ 1000)
    (hT : (match Go.Sort.partition ltInt B a b p with
      | (mid, al, d4) => if _h : a ≤ mid ∧ mid < b then
          if mid - a < b - mid then Go.Sort.pdq ltInt (Go.Sort.pdq ltInt d4 a mid q true true) (mid + 1) b q (decide (mid - a ≥ (b - a) / 8)) al
          else Go.Sort.pdq ltInt (Go.Sort.pdq ltInt d4 (mid + 1) b q true true) a mid q (decide (b - mid ≥ (b - a) / 8)) al
        else d4) = T) : pdqP (Tri Try.prog) d n a b p q X σ := by
  unfold pdqP
  refine c59 hR hd (by omega) hb ha hp (by omega) fun σ1 g1 g2 hR1 => ?_
  generalize Go.Sort.partition ltInt B a b p = r at *
  obtain ⟨mid, al, D⟩ := r
  simp only at g1 g2 hR1 hT
  simp only [tTup_tup, pSome_some, List.getElem?_cons_zero, List.getElem?_cons_succ, tI_int, tB_bool]
  rw [dif_pos ⟨g1, g2⟩] at hT
  have e0 : Int.tdiv ((b : Int) - a) 8 = (((b - a) / 8 : Nat) : Int) := by rw [Int.tdiv_eq_ediv_of_nonneg (by omega)]; omega
  have e1 : w64 ((b : Int) - a) = (b : Int) - a := w64_eq (by omega) (by omega)
  have e2 : w64 ((mid : Int) - a) = (mid : Int) - a := w64_eq (by omega) (by omega)
  have e3 : w64 ((b : Int) - mid) = (b : Int) - mid := w64_eq (by omega) (by omega)
  have e4 : w64 ((mid : Int) + 1) = ((mid + 1 : Nat) : Int) := by rw [w64_eq (by omega) (by omega)]; omega
  have e5 : w64 (((b - a) / 8 : Nat) : Int) = (((b - a) / 8 : Nat) : Int) := w64_eq (by omega) (by omega)
  rw [e1, e2, e3, e4, e0, e5]
  refine bmd_mk (fun c => ?_) (fun c => ?_)
  · rw [if_pos (by omega)] at hT
    have e6 : decide ((mid : Int) - a ≥ (((b - a) / 8 : Nat) : Int)) = decide (mid - a ≥ (b - a) / 8) := decide_eq_decide.2 (by omega)
    rw [e6]
    refine ih (by omega) hR1 hd (by omega) (by omega) hn hq fun σ2 hR2 => ?_
    exact hX (by omega) (by omega) (by omega) hq hR2 hT
  · rw [if_neg (by omega)] at hT
    have e6 : decide ((b : Int) - mid ≥ (((b - a) / 8 : Nat) : Int)) = decide (b - mid ≥ (b - a) / 8) := decide_eq_decide.2 (by omega)
    rw [e6]
    refine ih (by omega) hR1 hd (by omega) (by omega) hn hq fun σ2 hR2 => ?_
    exact hX (by omega) (by omega) (by omega) hq hR2 hT
theorem pdqT_mk {m a b p q : Nat} {u v : Bool} {B T : Array Int} {X : Regs → AS → Prop} (ih : Pdq j n L d m) (hX : Again j n L d T (b - a) X) (hR : RowA j n B L σ) (hd : SlA d j n) (hm : b - a < m + 1) (ha : a ≤ p) (hp : p < b) (hb : b ≤ n) (hn : n < 512) (hq : q ≤ 1000)
    (hT : (if (decide (a > 0) && !ltInt B[a - 1]! B[p]!) = true then
      match Go.Sort.partitionEqual ltInt B a b p with
      | (mid, d4) => if _h : a < mid ∧ mid ≤ b then Go.Sort.pdq ltInt d4 mid b q u v else d4
    else
      match Go.Sort.partition ltInt B a b p with
      | (mid, al, d4) => if _h : a ≤ mid ∧ mid < b then
          if mid - a < b - mid then Go.Sort.pdq ltInt (Go.Sort.pdq ltInt d4 a mid q true true) (mid + 1) b q (decide (mid - a ≥ (b - a) / 8)) al
          else Go.Sort.pdq ltInt (Go.Sort.pdq ltInt d4 (mid + 1) b q true true) a mid q (decide (b - mid ≥ (b - a) / 8)) al
        else d4) = T) : pdqT (Tri Try.prog) d n a b p q u v X σ := by
  unfold pdqT
  refine bmd_mk (fun c => ?_) (fun c => ?_)
  · have c' : a > 0 := by omega
    have e1 : w64 ((a : Int) - 1) = ((a - 1 : Nat) : Int) := by rw [w64_eq (by omega) (by omega)]; omega
    rw [e1]
    simp only [c', decide_true, Bool.true_and] at hT
    refine ltA hR hd (by omega) (by omega) (bm_mk (fun g => ?_) (fun g => ?_))
    · rw [if_pos g] at hT
      refine c58 hR hd (by omega) hb ha hp (by omega) fun σ1 g1 g2 hR1 => ?_
      generalize Go.Sort.partitionEqual ltInt B a b p = r at *
      obtain ⟨mid, D⟩ := r
      simp only at g1 g2 hR1 hT
      simp only [tI_int]
      rw [dif_pos ⟨g1, g2⟩] at hT
      exact hX (by omega) (by omega) (by omega) hq hR1 hT
    · rw [if_neg (by rw [g]; simp)] at hT
      exact pdqP_mk ih hX hR hd hm ha hp hb hn hq hT
  · have c' : ¬ a > 0 := by omega
    simp only [c', decide_false, Bool.false_and] at hT
    rw [if_neg (by simp)] at hT
    exact pdqP_mk ih hX hR hd hm ha hp hb hn hq hT
theorem pdqM_mk {m a b q : Nat} {u v : Bool} {B T : Array Int} {X : Regs → AS → Prop} (ih : Pdq j n L d m) (hX : Again j n L d T (b - a) X) (hR : RowA j n B L σ) (hd : SlA d j n) (hm : b - a < m + 1) (hab : a + 12 < b) (hb : b ≤ n) (hn : n < 512) (hq : q ≤ 1000)
    (hK : ∀ σ', RowA j n T L σ' → K unit0 σ')
    (hT : (let c := Go.Sort.choosePivot ltInt B a b
      let d2 := if c.2 = .decreasing then Go.Sort.reverseRange B a b else B
      let pivot := if c.2 = .decreasing then (b - 1) - (c.1 - a) else c.1
      let hint := if c.2 = .decreasing then Go.Sort.Hint.increasing else c.2
      let pi := if (u && v && decide (hint = .increasing)) = true then Go.Sort.partialInsertionSort ltInt d2 a b else (d2, false)
      if pi.2 = true then pi.1 else
      let B := pi.1
      if (decide (a > 0) && !ltInt B[a - 1]! B[pivot]!) = true then
      match Go.Sort.partitionEqual ltInt B a b pivot with
      | (mid, d4) => if _h : a < mid ∧ mid ≤ b then Go.Sort.pdq ltInt d4 mid b q u v else d4
    else
      match Go.Sort.partition ltInt B a b pivot with
      | (mid, al, d4) => if _h : a ≤ mid ∧ mid < b then
          if mid - a < b - mid then Go.Sort.pdq ltInt (Go.Sort.pdq ltInt d4 a mid q true true) (mid + 1) b q (decide (mid - a ≥ (b - a) / 8)) al
          else Go.Sort.pdq ltInt (Go.Sort.pdq ltInt d4 (mid + 1) b q true true) a mid q (decide (b - mid ≥ (b - a) / 8)) al
        else d4) = T) : pdqM (Tri Try.prog) d n a b q u v X K σ := by
  unfold pdqM
  refine c54 hR hd (by omega) hb (by omega) fun σ1 g1 g2 hR1 => ?_
  generalize Go.Sort.choosePivot ltInt B a b = c at *
  obtain ⟨p, h⟩ := c
  simp only at g1 g2 hT
  simp only [tTup_tup, pSome_some, List.getElem?_cons_zero, List.getElem?_cons_succ, tI_int]
  have e1 : w64 ((b : Int) - 1) = (b : Int) - 1 := w64_eq (by omega) (by omega)
  have e2 : w64 ((p : Int) - a) = (p : Int) - a := w64_eq (by omega) (by omega)
  have e3 : w64 ((b : Int) - 1 - ((p : Int) - a)) = ((b - 1 - (p - a) : Nat) : Int) := by rw [w64_eq (by omega) (by omega)]; omega
  rw [e1, e2, e3]
  have ins : ∀ {σ : AS} {C : Array Int} {p : Nat}, a ≤ p → p < b → RowA j n C L σ →
      (if (Go.Sort.partialInsertionSort ltInt C a b).2 = true then (Go.Sort.partialInsertionSort ltInt C a b).1 else
        if (decide (a > 0) && !ltInt (Go.Sort.partialInsertionSort ltInt C a b).1[a - 1]! (Go.Sort.partialInsertionSort ltInt C a b).1[p]!) = true then
        match Go.Sort.partitionEqual ltInt (Go.Sort.partialInsertionSort ltInt C a b).1 a b p with
        | (mid, d4) => if _h : a < mid ∧ mid ≤ b then Go.Sort.pdq ltInt d4 mid b q u v else d4
      else
        match Go.Sort.partition ltInt (Go.Sort.partialInsertionSort ltInt C a b).1 a b p with
        | (mid, al, d4) => if _h : a ≤ mid ∧ mid < b then
            if mid - a < b - mid then Go.Sort.pdq ltInt (Go.Sort.pdq ltInt d4 a mid q true true) (mid + 1) b q (decide (mid - a ≥ (b - a) / 8)) al
            else Go.Sort.pdq ltInt (Go.Sort.pdq ltInt d4 (mid + 1) b q true true) a mid q (decide (b - mid ≥ (b - a) / 8)) al
          else d4) = T →
      Tri Try.prog 56 [.slice d n 1, i64 a, i64 b] σ fun c σ3 => tB c fun c => bmatch c (K (.tuple ⟨[]⟩) σ3) (pdqT (Tri Try.prog) d n a b p q u v X σ3) := by
    intro σ C p h1 h2 hRC hC
    refine c56 hRC hd (by omega) hb (by omega) fun σ3 hR3 => ?_
    generalize Go.Sort.partialInsertionSort ltInt C a b = r at *
    simp only [tB_bool]
    refine bm_mk (fun c => ?_) (fun c => ?_)
    · rw [if_pos c] at hC
      subst hC
      exact hK _ hR3
    · rw [if_neg (by rw [c]; simp)] at hC
      exact pdqT_mk ih hX hR3 hd hm h1 h2 hb hn hq hC
  cases h with
  | decreasing =>
    simp only [if_true] at hT
    refine bm_mk (fun _ => ?_) (fun h => by simp [hintV] at h)
    refine c55 hR1 hd (by omega) hb (by omega) fun σ2 hR2 => ?_
    cases u with
    | false =>
      simp only [bm_false]
      simp only [Bool.false_and, Bool.false_eq_true, if_false] at hT
      exact pdqT_mk ih hX hR2 hd hm (by omega) (by omega) hb hn hq hT
    | true =>
      simp only [bm_true]
      cases v with
      | false =>
        simp only [bm_false]
        simp only [Bool.and_false, Bool.false_and, Bool.false_eq_true, if_false] at hT
        exact pdqT_mk ih hX hR2 hd hm (by omega) (by omega) hb hn hq hT
      | true =>
        simp only [bm_true]
        simp only [Bool.and_self, Bool.true_and, decide_true, if_true] at hT
        exact ins (by omega) (by omega) hR2 hT
  | increasing =>
    simp only [reduceCtorEq, if_false] at hT
    refine bm_mk (fun h => by simp [hintV] at h) (fun _ => ?_)
    cases u with
    | false =>
      simp only [bm_false]
      simp only [Bool.false_and, Bool.false_eq_true, if_false] at hT
      exact pdqT_mk ih hX hR1 hd hm (by omega) (by omega) hb hn hq hT
    | true =>
      simp only [bm_true]
      cases v with
      | false =>
        simp only [bm_false]
        simp only [Bool.and_false, Bool.false_and, Bool.false_eq_true, if_false] at hT
        exact pdqT_mk ih hX hR1 hd hm (by omega) (by omega) hb hn hq hT
      | true =>
        simp only [bm_true]
        simp only [Bool.and_self, Bool.true_and, decide_true, if_true] at hT
        refine bm_mk (fun _ => ins (by omega) (by omega) hR1 hT) (fun h => by simp [hintV] at h)
  | unknown =>
    simp only [reduceCtorEq, if_false, decide_false, Bool.and_false, Bool.false_eq_true] at hT
    refine bm_mk (fun h => by simp [hintV] at h) (fun _ => ?_)
    have go := pdqT_mk (u := u) (v := v) (p := p) (q := q) ih hX hR1 hd hm (by omega) (by omega) hb hn hq hT
    exact bm_mk (fun _ => bm_mk (fun _ => bm_mk (fun h => by simp [hintV] at h) (fun _ => go)) (fun _ => go)) (fun _ => go)
theorem c49_step {m : Nat} (ih : Pdq j n L d m) : Pdq j n L d (m + 1) := by
  intro σ K A a0 b0 l0 hm hR hd hab0 hb0 hn hl hK
  refine tri_in ?_
  rw [s49]
  generalize hT : Go.Sort.pdq ltInt A a0 b0 l0 true true = T at hK
  refine aloop (fun (q : Nat × Nat × Nat × Bool × Bool × Array Int) rg σ => (q.1 ≤ q.2.1 ∧ q.2.1 ≤ n ∧ q.2.1 - q.1 < m + 1 ∧ q.2.2.1 ≤ 1000) ∧ RowA j n q.2.2.2.2.2 L σ ∧ Go.Sort.pdq ltInt q.2.2.2.2.2 q.1 q.2.1 q.2.2.1 q.2.2.2.1 q.2.2.2.2.1 = T ∧
    rg = [(0, some (.slice d n 1)), (1, some (i64 q.1)), (2, some (i64 q.2.1)), (3, some (i64 q.2.2.1)), (8, some (.bool q.2.2.2.1)), (9, some (.bool q.2.2.2.2.1))]) (fun q => q.2.1 - q.1) ?_ (a := (a0, b0, l0, true, true, A)) ⟨⟨hab0, hb0, hm, hl⟩, hR, hT, rfl⟩
  clear hm hR hab0 hb0 hT hl a0 b0 l0 A σ
  rintro ⟨a, b, l, u, v, B⟩ rg σ X hX ⟨⟨hab, hb, hm, hl⟩, hR, hT, rfl⟩
  simp only at hab hb hm hl hR hT hX ⊢
  have hX' : Again j n L d T (b - a) X := fun h1 h2 h3 h4 h5 h6 => hX (_, _, _, _, _, _) _ _ h1 ⟨⟨h2, h3, by simp only; omega, h4⟩, h5, h6, rfl⟩
  clear hX
  rw [s49m]
  have e1 : w64 ((b : Int) - a) = (b : Int) - a := w64_eq (by omega) (by omega)
  rw [e1]
  rw [Go.Sort.pdq] at hT
  refine bmd_mk (fun h => ?_) (fun h => ?_)
  · rw [if_pos (by omega)] at hT
    subst hT
    exact c51 hR hd hab hb (by omega) fun σ' hR' => hK _ hR'
  rw [if_neg (by omega)] at hT
  refine bm_mk (fun g => ?_) (fun g => ?_)
  · have g : l = 0 := by simpa using g
    rw [if_pos g] at hT
    subst hT
    exact c52 hR hd hab hb (by omega) fun σ' hR' => hK _ hR'
  have g : ¬ l = 0 := by simpa using g
  rw [if_neg g] at hT
  cases u with
  | false =>
    simp only [Bool.not_false, bm_true, if_true] at hT ⊢
    refine c53 hR hd hab hb hn fun σ1 hR1 => ?_
    have e2 : w64 ((l : Int) - 1) = ((l - 1 : Nat) : Int) := by rw [w64_eq (by omega) (by omega)]; omega
    rw [e2]
    exact pdqM_mk ih hX' hR1 hd hm (by omega) hb hn (by omega) hK hT
  | true =>
    simp only [Bool.not_true, bm_false, Bool.false_eq_true, if_false] at hT ⊢
    exact pdqM_mk ih hX' hR hd hm (by omega) hb hn hl hK hT
theorem c49 : ∀ m, Pdq j n L d m := by
  intro m
  induction m with
  | zero => exact fun h => absurd h (Nat.not_lt_zero _)
  | succ m ih => exact c49_step ih
end
end Go.AI
end
section
/- Whether a list may be an alphabet: the answer; all else stays; no condition. -/
set_option maxRecDepth 10000
set_option linter.unusedVariables false
set_option linter.unusedSimpArgs false
namespace Go.AI
open Go.Proofs
open Go.Sort (ltInt swp)
theorem adj_nodup (l : List Int) (h : l.Pairwise (· ≤ ·)) : (∃ k, 1 ≤ k ∧ k < l.length ∧ l[k]? = l[k - 1]?) ↔ ¬ l.Nodup := by
  constructor
  · rintro ⟨k, h1, h2, h3⟩ hn
    rw [List.getElem?_eq_getElem h2, List.getElem?_eq_getElem (by omega)] at h3
    exact (List.pairwise_iff_getElem.1 hn) (k - 1) k (by omega) h2 (by omega) (Option.some.inj h3).symm
  · intro hn
    apply Classical.byContradiction
    intro hk
    apply hn
    rw [List.pairwise_iff_getElem] at h
    refine List.Pairwise.imp (R := (· < ·)) (fun hab => by intro e; rw [e] at hab; exact absurd hab (Int.lt_irrefl _)) ?_
    rw [List.pairwise_iff_getElem]
    intro i j hi hj hij
    have a1 := h i (i + 1) hi (by omega) (by omega)
    have a2 : l[i] ≠ l[i + 1] := by
      intro e
      refine hk ⟨i + 1, by omega, by omega, ?_⟩
      rw [Nat.add_sub_cancel, List.getElem?_eq_getElem (by omega), List.getElem?_eq_getElem hi, e]
    have a3 : l[i + 1] ≤ l[j] := by
      by_cases e : i + 1 = j
      · subst e; exact Int.le_refl _
      · exact h (i + 1) j (by omega) hj (by omega)
    omega
theorem getE {A : Array Int} {k : Nat} (h : k < A.size) : A.toList[k]? = some A[k]! := by
  rw [Array.getElem?_toList, Array.getElem!_eq_getD, Array.getD_eq_getD_getElem?, Array.getElem?_eq_getElem h]
  rfl
theorem sort_size (xs : List Int) : (Go.Sort.sort ltInt xs.toArray).size = xs.length := by
  rw [← Array.length_toList, Go.Sort.sortInt xs, List.length_mergeSort]
/-- Neighbours that are alike, of a sorted row. -/
theorem adj_sort (xs : List Int) : (∃ k, 1 ≤ k ∧ k < xs.length ∧ (Go.Sort.sort ltInt xs.toArray)[k]! = (Go.Sort.sort ltInt xs.toArray)[k - 1]!) ↔ ¬ xs.Nodup := by
  have hs := sort_size xs
  have h := adj_nodup _ (Go.Tab.sorted_merge xs)
  rw [← Go.Sort.sortInt xs, Array.length_toList, hs] at h
  rw [Go.Sort.sortInt xs, Go.Tab.nodup_perm (List.mergeSort_perm xs _), ← Go.Sort.sortInt xs] at h
  rw [← h]
  constructor
  · rintro ⟨k, h1, h2, h3⟩
    refine ⟨k, h1, h2, ?_⟩
    rw [getE (by omega), getE (by omega), h3]
  · rintro ⟨k, h1, h2, h3⟩
    refine ⟨k, h1, h2, ?_⟩
    rw [getE (by omega), getE (by omega)] at h3
    exact Option.some.inj h3
theorem run50z : callN Try.prog hints txE 60 50 [.int .u64 0] AS.nil (fun v _ => v = .int .i64 0) = (Value.int .i64 0 = .int .i64 0) := by kernel_rfl
section
variable {σ : AS} {K : Value → AS → Prop} {j n : Nat} {L : List (Nat × AObj)} {d : Option Addr}
theorem c50z (hK : K (i64 0) σ) : Tri Try.prog 50 [.int .u64 0] σ K :=
  tri_pure (R := fun v => v = i64 0) rfl (tri_hard (by rw [run50z])) (fun v h => by subst h; rfl) (fun v h => by subst h; exact hK)
theorem c46 {A : Array Int} (hR : RowA j n A L σ) (hd : SlA d j n) (hn : n < 512) (hK : ∀ σ', RowA j n (Go.Sort.sort ltInt A) L σ' → K unit0 σ') : Tri Try.prog 46 [.slice d n 1] σ K := tri_in (by
  rw [s46, wrapU64 (by omega) (by omega)]
  have hs : A.size = n := hR.1
  unfold Go.Sort.sort at hK
  rw [hs] at hK
  by_cases h0 : n = 0
  · subst h0
    refine c50z ?_
    simp only [tI_int]
    exact c49 _ (Nat.lt_succ_self _) hR hd (Nat.le_refl _) (Nat.le_refl _) hn (by decide) hK
  · refine c50 (by omega) hn ?_
    simp only [tI_int]
    have := bitsLen_le (l := n) (by omega)
    exact c49 _ (Nat.lt_succ_self _) hR hd (Nat.zero_le _) (Nat.le_refl _) hn (by omega) hK)
theorem clA {k : Nat} {A : Array Int} {G : AS → Prop} (hR : RowA j n A L σ) (hd : SlA d j n) (hk : k ≤ n) (hG : ∀ σ' B, RowA j n B L σ' → G σ') : clearTo σ (d.map fun x => Addr.add x (Int.toNat (k : Int) * szOf Try.prog 22)) (n - k) [u32 0] G := by
  by_cases h : n - k = 0
  · rw [h]
    exact hG _ _ hR
  · obtain ⟨q, hq⟩ : ∃ q, n - k = q + 1 := ⟨n - k - 1, by omega⟩
    obtain ⟨hl, H⟩ := hR
    obtain rfl := hd (by omega)
    have hz : szOf Try.prog 22 = 1 := by kernel_rfl
    have hne : A.toList ≠ [] := fun h => by
      have : A.toList.length = 0 := by rw [h]; rfl
      rw [Array.length_toList] at this; omega
    rw [rowL_ne hne] at H
    rw [hq]
    unfold clearTo
    simp only [Option.map, pSome_some, hz, add_none, Int.toNat_natCast, Nat.mul_one, Nat.zero_add]
    have ef : (List.replicate (q + 1) [u32 0]).flatten = cellsU (List.replicate (q + 1) 0) := by
      induction q + 1 with
      | zero => rfl
      | succ q ih => rw [List.replicate_succ, List.replicate_succ, List.flatten_cons, ih]; rfl
    rw [ef]
    refine puts_mk H 0 rfl rfl (by simp; omega) fun σ' H' => hG σ' (A.toList.take k ++ List.replicate (q + 1) 0 ++ A.toList.drop (k + (q + 1))).toArray ⟨by simp; omega, ?_⟩
    rw [rowL_ne (by simp)]
    simpa using H'
theorem c39 {A : Array Int} (hR : RowA j n A L σ) (hd : SlA d j n) (hn : n < 512) (hK : ∀ σ' a (q : Nat) B, (q < n ↔ ∃ k, 1 ≤ k ∧ k < n ∧ A[k]! = A[k - 1]!) → RowA j n B L σ' → K (.slice a q 1) σ') : Tri Try.prog 39 [.slice d n 1] σ K := tri_in (by
  rw [s39]
  refine bmd_mk (fun h => hK _ _ _ _ ⟨fun h => absurd h (Nat.lt_irrefl _), fun ⟨k, h1, h2, _⟩ => by omega⟩ hR) (fun _ => ?_)
  refine aloop (fun (k : Nat) rg σ => (1 ≤ k ∧ ∀ i, 1 ≤ i → i < k → A[i]! ≠ A[i - 1]!) ∧ RowA j n A L σ ∧ rg = [(0, some (.slice d n 1)), (3, some (i64 k))]) (fun k => n - k) ?_ (a := 1) ⟨⟨by omega, fun i h1 h2 => by omega⟩, hR, rfl⟩
  rintro k rg σ1 X hX ⟨⟨hk, hno⟩, hR1, rfl⟩
  rw [s39a]
  refine bmd_mk (fun h => ?_) (fun h => hK _ _ _ _ ⟨fun h => absurd h (Nat.lt_irrefl _), fun ⟨i, h1, h2, h3⟩ => absurd h3 (hno i h1 (by omega))⟩ hR1)
  have e1 : IntKind.wrap .i64 ((k : Int) - 1) = ((k - 1 : Nat) : Int) := by rw [wrap64 (by omega) (by omega)]; omega
  have e2 : IntKind.wrap .i64 ((k : Int) + 1) = ((k + 1 : Nat) : Int) := by rw [wrap64 (by omega) (by omega)]; omega
  rw [e1, e2]
  refine rdA hR1 hd (by omega) (rdA hR1 hd (by omega) (bm_mk (fun g => ?_) (fun g => ?_)))
  rotate_left
  · have g : ¬ A[k]! = A[k - 1]! := by simpa using g
    refine hX (k + 1) _ _ (by omega) ⟨⟨by omega, fun i h1 h2 => ?_⟩, hR1, rfl⟩
    by_cases e : i = k
    · subst e; exact g
    · exact hno i h1 (by omega)
  have g : A[k]! = A[k - 1]! := by simpa using g
  have hadj : ∃ k, 1 ≤ k ∧ k < n ∧ A[k]! = A[k - 1]! := ⟨k, hk, by omega, g⟩
  refine req_mk (by omega) (req_mk (by omega) (req_mk (by omega) ?_))
  have hz : szOf Try.prog 22 = 1 := by kernel_rfl
  obtain rfl := hd (by omega)
  have e3 : ((n : Int) - k).toNat = n - k := by omega
  rw [e3]
  refine aloop (fun (p : Nat × Nat) rg σ => (1 ≤ p.1 ∧ p.2 ≤ n ∧ p.1 + 1 ≤ k + p.2 ∧ 1 ≤ p.2 ∧ p.2 ≤ n - k) ∧ (∃ B, RowA j n B L σ) ∧
    rg = [(0, some (.slice (some ⟨j, 0, none⟩) n 1)), (3, some (i64 p.1)), (4, some (.slice ((some (⟨j, 0, none⟩ : Addr)).map fun x => Addr.add x (Int.toNat (k : Int) * szOf Try.prog 22)) (n - k) 1)), (5, some (i64 p.2))]) (fun p => n - p.2) ?_ (a := (k, 1))
    ⟨by simp only; omega, ⟨_, hR1⟩, rfl⟩
  rintro ⟨p, e⟩ rg σ2 Y hY ⟨h1, ⟨B, hR2⟩, rfl⟩
  rw [s39b]
  simp only at h1 ⊢
  refine bmd_mk (fun g => ?_) (fun g => ?_)
  · have e5 : IntKind.wrap .i64 ((e : Int) - 1) = ((e - 1 : Nat) : Int) := by rw [wrap64 (by omega) (by omega)]; omega
    have e6 : IntKind.wrap .i64 ((e : Int) + 1) = ((e + 1 : Nat) : Int) := by rw [wrap64 (by omega) (by omega)]; omega
    have e7 : IntKind.wrap .i64 ((p : Int) + 1) = ((p + 1 : Nat) : Int) := by rw [wrap64 (by omega) (by omega)]; omega
    rw [e5, e6, e7]
    have rd2 : ∀ {e : Nat} {G : Int → Prop}, e < n - k → (∀ v, G v) → req (0 ≤ (e : Int)) (req ((e : Int) < ((n - k : Nat) : Int)) (pSome ((some (⟨j, 0, none⟩ : Addr)).map fun x => Addr.add x (Int.toNat (k : Int) * szOf Try.prog 22)) fun a => ldc σ2 (Addr.add a (Int.toNat (e : Int) * szOf Try.prog 22)) fun v => tI .u32 v G)) := by
      intro e G he hG
      refine req_mk (by omega) (req_mk (by omega) ?_)
      obtain ⟨hl, H⟩ := hR2
      have hne : B.toList ≠ [] := fun h => by
        have : B.toList.length = 0 := by rw [h]; rfl
        rw [Array.length_toList] at this; omega
      rw [rowL_ne hne] at H
      simp only [Option.map, pSome_some, hz, add_none, Nat.mul_one, Nat.zero_add, Int.toNat_natCast]
      exact ldc_mk H 0 rfl (cellsA (e := k + e) (by omega)) (tI_mk (hG _))
    refine rd2 (by omega) fun x => rd2 (by omega) fun y => bm_mk (fun _ => ?_) (fun _ => ?_)
    · refine rd2 (by omega) fun z => ?_
      exact wrA hR2 hd (by omega) fun σ3 hR3 => hY (p + 1, e + 1) _ _ (by simp only; omega) ⟨by simp only; omega, ⟨_, hR3⟩, rfl⟩
    · exact hY (p, e + 1) _ _ (by simp only; omega) ⟨by simp only; omega, ⟨_, hR2⟩, rfl⟩
  · refine req_mk (by omega) (req_mk (by omega) (req_mk (by omega) ?_))
    have e8 : ((n : Int) - p).toNat = n - p := by omega
    rw [e8]
    refine clA hR2 hd (by omega) fun σ3 C hR3 => req_mk (by omega) (req_mk (by omega) ?_)
    refine hK _ _ _ _ ⟨fun _ => hadj, fun _ => ?_⟩ hR3
    omega)
theorem c22 {a : Option Addr} {xs : List Int} (H : Has σ L) (hin : InU a xs L) (hl : xs.length ≤ 300) (hK : ∀ σ' new, Has σ' (new ++ L) → K (i64 (Go.Tab.alphE xs)) σ') : Tri Try.prog 22 [.slice a xs.length 1] σ K := tri_in (by
  rw [s22]
  refine bmd_mk (fun h => by omega) (fun _ => ?_)
  refine tri_in ?_
  rw [s38]
  refine newAt_mk H fun c σ1 H1 => ?_
  refine tri_in ?_
  rw [s37]
  refine tri_in ?_
  rw [s45]
  refine as_tri ?_
  unfold gAS
  simp only
  refine ldc_mk H1 0 rfl rfl ?_
  simp only
  have tail : ∀ {σ2 : AS} {s : Option Addr} {j e : Nat}, nilOr s e 1 = true → SlA s j xs.length → RowA j xs.length xs.toArray ((c, .row .plain [.slice a xs.length 1]) :: L) σ2 →
      tL 1 (.slice s xs.length e) fun s2 => (fun v0 σ1 => tL 1 v0 fun s2 => Tri Try.prog 46 [.slice s2.a s2.n 1] σ1 fun v3 σ4 => (fun v2 σ3 => tL 1 v2 fun s4 => Tri Try.prog 39 [.slice s4.a s4.n 1] σ3 fun v5 σ6 => tL 1 v5 fun s7 => bmatch (decide ((s7.n : Int) < (xs.length : Int))) (K (i64 6) σ6) (K (i64 0) σ6)) (.slice s2.a s2.n 1) σ4) (.slice s2.a s2.n 1) σ2 := by
    intro σ2 s j e hno hs hR
    refine tL_ok hno ?_
    simp only
    refine tL_mk ?_
    refine c46 (n := xs.length) hR hs (by omega) fun σ3 hR3 => ?_
    simp only
    refine tL_mk ?_
    refine c39 (n := xs.length) hR3 hs (by omega) fun σ4 a' q B hq hR4 => ?_
    refine tL_mk ?_
    rw [adj_sort] at hq
    obtain ⟨hy, H4⟩ := hR4.drop
    obtain ⟨P, hP⟩ := rowL_app j B.toList
    rw [hP] at H4
    have hk := hK _ P H4
    unfold Go.Tab.alphE at hk
    rw [if_neg (by omega)] at hk
    simp only
    refine bmd_mk (fun g => ?_) (fun g => ?_)
    · rw [if_neg (hq.1 (by omega))] at hk
      exact hk
    · rw [if_pos (Classical.byContradiction fun c => g (by have := hq.2 c; omega))] at hk
      exact hk
  cases hx : xs with
  | nil =>
    subst hx
    simp only [List.length_nil]
    have H2 : RowA 0 0 #[] ((c, .row .plain [.slice a 0 1]) :: L) σ1 := ⟨rfl, H1⟩
    exact tail (s := none) (e := 0) rfl (fun h => absurd rfl h) H2
  | cons x t =>
    rw [← hx]
    obtain ⟨r, k, rfl, hr⟩ := hin.resolve_left (by rw [hx]; simp)
    obtain ⟨q, hq⟩ := List.getElem?_of_mem (show (r, AObj.row k (cellsU xs)) ∈ (c, AObj.row .plain [.slice (some ⟨r, 0, none⟩) xs.length 1]) :: L from List.mem_cons_of_mem _ hr)
    have hlen : xs.length = t.length + 1 := by rw [hx]; rfl
    rw [hlen]
    simp only [pSome_some]
    refine req_mk trivial (lds_mk H1 q hq (by simp; omega) ?_)
    have et : ((cellsU xs).drop 0).take (t.length + 1) = cellsU xs := by rw [List.drop_zero]; exact List.take_of_length_le (by simp; omega)
    rw [et]
    refine chk_mk (by simp [List.all_map, isU32]) (req_mk (by omega) ?_)
    rw [← hlen]
    refine newAt_mk H1 fun j σ2 H2 => ?_
    exact tail (j := j) (e := 1) rfl (fun _ => rfl) ⟨by simp, by rw [rowL_ne (by rw [hx]; simp)]; simpa using H2⟩)
end
end Go.AI
end
