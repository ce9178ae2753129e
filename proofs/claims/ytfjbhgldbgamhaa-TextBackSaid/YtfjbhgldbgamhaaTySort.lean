/- Lemmas of the abstract condition ahead of code (a part of the library that the claim's proof stands on); they hold with no condition but those that each names. -/
import Derived.Test.YtfjbhgldbgamhaaTyNext
import Derived.Test.YtfjbhgldbgamhaaTyForm6
import Derived.Test.YtfjbhgldbgamhaaTyForm1
import Derived.Test.YtfjbhgldbgamhaaTyForm8
section
/- The sort, as far as it is asked here: it comes to an end and keeps the row's length; what else is known stays. -/
set_option maxRecDepth 4000
set_option linter.unusedVariables false
set_option linter.unusedSimpArgs false
namespace Go.AI
open Go.Proofs
/-- A row of so many numbers, and what is known beside it. -/
def RowN (j n : Nat) (L : List (Nat × AObj)) (σ : AS) : Prop := ∃ ys : List Int, ys.length = n ∧ Has σ (rowL j ys L)
/-- The slice of that row. -/
def SlN (d : Option Addr) (j n : Nat) : Prop := n ≠ 0 → d = some ⟨j, 0, none⟩
abbrev unit0 : Value := .tuple ⟨[]⟩
section
variable {σ : AS} {K : Value → AS → Prop} {j n : Nat} {L : List (Nat × AObj)} {d : Option Addr}
theorem rdU {e : Int} {G : Int → Prop} (hR : RowN j n L σ) (hd : SlN d j n) (h0 : 0 ≤ e) (h1 : e < n) (hG : ∀ v, G v) :
    req (0 ≤ e) (req (e < (n : Int)) (pSome d fun a => ldc σ (Addr.add a (e.toNat * szOf Try.prog 22)) fun v => tI .u32 v G)) := by
  obtain ⟨ys, hl, H⟩ := hR
  refine req_mk h0 (req_mk h1 ?_)
  obtain rfl := hd (by omega)
  have hz : szOf Try.prog 22 = 1 := by kernel_rfl
  obtain ⟨v, hv⟩ : ∃ v, ys[e.toNat]? = some v := ⟨ys[e.toNat]'(by omega), by simp⟩
  have hne : ys ≠ [] := fun h => by rw [h] at hl; simp at hl; omega
  rw [rowL_ne hne] at H
  simp only [pSome_some, hz, add_none, Nat.mul_one, Nat.zero_add]
  exact ldc_mk H 0 rfl (cellsU_get hv) (tI_mk (hG v))
theorem wrU {e : Int} {x : Int} {G : AS → Prop} (hR : RowN j n L σ) (hd : SlN d j n) (h0 : 0 ≤ e) (h1 : e < n) (hG : ∀ σ', RowN j n L σ' → G σ') :
    req (0 ≤ e) (req (e < (n : Int)) (pSome d fun a => put1 σ (Addr.add a (e.toNat * szOf Try.prog 22)) (u32 x) G)) := by
  obtain ⟨ys, hl, H⟩ := hR
  refine req_mk h0 (req_mk h1 ?_)
  obtain rfl := hd (by omega)
  have hz : szOf Try.prog 22 = 1 := by kernel_rfl
  have hne : ys ≠ [] := fun h => by rw [h] at hl; simp at hl; omega
  rw [rowL_ne hne] at H
  simp only [pSome_some, hz, add_none, Nat.mul_one, Nat.zero_add]
  refine put1_mk H 0 rfl rfl (by simp; omega) fun σ' H' => hG σ' ⟨ys.set e.toNat x, by simpa using hl, ?_⟩
  have hne' : ys.set e.toNat x ≠ [] := fun h => hne (by simpa using h)
  rw [rowL_ne hne']
  simpa using H'
theorem swU {e f : Int} {G : AS → Prop} (hR : RowN j n L σ) (hd : SlN d j n) (h0 : 0 ≤ e) (h1 : e < n) (h2 : 0 ≤ f) (h3 : f < n) (hG : ∀ σ', RowN j n L σ' → G σ') :
    req (0 ≤ e) (req (e < (n : Int)) (pSome d fun a => ldc σ (Addr.add a (e.toNat * szOf Try.prog 22)) fun v => tI .u32 v fun x =>
      req (0 ≤ f) (req (f < (n : Int)) (pSome d fun a => ldc σ (Addr.add a (f.toNat * szOf Try.prog 22)) fun v => tI .u32 v fun y =>
        req (0 ≤ f) (req (f < (n : Int)) (pSome d fun a => put1 σ (Addr.add a (f.toNat * szOf Try.prog 22)) (u32 x) fun σ1 =>
          req (0 ≤ e) (req (e < (n : Int)) (pSome d fun a => put1 σ1 (Addr.add a (e.toNat * szOf Try.prog 22)) (u32 y) G)))))))) :=
  rdU hR hd h0 h1 fun x => rdU hR hd h2 h3 fun y => wrU hR hd h2 h3 fun σ1 hR1 => wrU hR1 hd h0 h1 hG
theorem c57 {x y : Int} (hK : ∀ b, K (.bool b) σ) : Tri Try.prog 57 [u32 x, u32 y] σ K := tri_in (by
  rw [s57]
  refine tri_in ?_
  rw [s67]
  have e : (x != x) = false := by simp
  rw [e]
  simp only [tB_bool, bm_false]
  exact hK _)
theorem ltU {e f : Int} {G : Bool → AS → Prop} (hR : RowN j n L σ) (hd : SlN d j n) (h0 : 0 ≤ e) (h1 : e < n) (h2 : 0 ≤ f) (h3 : f < n) (hG : ∀ b, G b σ) :
    req (0 ≤ e) (req (e < (n : Int)) (pSome d fun a => ldc σ (Addr.add a (e.toNat * szOf Try.prog 22)) fun v => tI .u32 v fun x =>
      req (0 ≤ f) (req (f < (n : Int)) (pSome d fun a => ldc σ (Addr.add a (f.toNat * szOf Try.prog 22)) fun v => tI .u32 v fun y =>
        Tri Try.prog 57 [u32 x, u32 y] σ fun v σ' => tB v fun b => G b σ')))) :=
  rdU hR hd h0 h1 fun x => rdU hR hd h2 h3 fun y => c57 fun b => by simp only [tB_bool]; exact hG b
theorem c51 {a b : Nat} (hR : RowN j n L σ) (hd : SlN d j n) (hab : a ≤ b) (hb : b ≤ n) (hn : n ≤ 1048576) (hK : ∀ σ', RowN j n L σ' → K unit0 σ') :
    Tri Try.prog 51 [.slice d n 1, i64 a, i64 b] σ K := tri_in (by
  rw [s51, wrap64 (by omega) (by omega)]
  refine aloop (fun (i : Nat) r σ => a < i ∧ RowN j n L σ ∧ r = [(0, some (.slice d n 1)), (1, some (i64 a)), (2, some (i64 b)), (6, some (i64 i))]) (fun i => b - i) ?_ (a := a + 1) ⟨by omega, hR, by simp⟩
  rintro i r σ1 X hX ⟨hi, hR1, rfl⟩
  rw [s51l]
  refine bm_mk (fun h => ?_) (fun h => hK _ hR1)
  have h : i < b := by have := of_decide_eq_true h; omega
  refine aloop (fun (k : Nat) r σ => a ≤ k ∧ k ≤ i ∧ RowN j n L σ ∧ r = [(0, some (.slice d n 1)), (1, some (i64 a)), (2, some (i64 b)), (6, some (i64 i)), (7, some (i64 k))]) (fun k => k) ?_ (a := i) ⟨by omega, by omega, hR1, rfl⟩
  rintro k r σ2 Y hY ⟨hk, hki, hR2, rfl⟩
  rw [s51k]
  have out : ∀ {σ}, RowN j n L σ → X [(0, some (.slice d n 1)), (1, some (i64 a)), (2, some (i64 b)), (6, some (i64 (IntKind.wrap .i64 ((i : Int) + 1))))] σ := by
    intro σ h
    rw [wrap64 (by omega) (by omega)]
    exact hX (i + 1) _ _ (by omega) ⟨by omega, h, by simp⟩
  refine bm_mk (fun h2 => ?_) (fun _ => out hR2)
  have h2 : a < k := by have := of_decide_eq_true h2; omega
  have e : IntKind.wrap .i64 ((k : Int) - 1) = ((k - 1 : Nat) : Int) := by rw [wrap64 (by omega) (by omega)]; omega
  rw [e]
  refine ltU hR2 hd (by omega) (by omega) (by omega) (by omega) fun b => bm_mk (fun _ => ?_) (fun _ => out hR2)
  exact swU hR2 hd (by omega) (by omega) (by omega) (by omega) fun σ3 hR3 => hY (k - 1) _ _ (by omega) ⟨by omega, by omega, hR3, rfl⟩)
theorem c62 {lo hi fi : Nat} (hR : RowN j n L σ) (hd : SlN d j n) (hf : fi + hi ≤ n) (hlo : lo ≤ n) (hn : n ≤ 1048576) (hK : ∀ σ', RowN j n L σ' → K unit0 σ') :
    Tri Try.prog 62 [.slice d n 1, i64 lo, i64 hi, i64 fi] σ K := tri_in (by
  rw [s62]
  refine aloop (fun (r : Nat) rg σ => r ≤ n ∧ RowN j n L σ ∧ rg = [(0, some (.slice d n 1)), (2, some (i64 hi)), (3, some (i64 fi)), (8, some (i64 r))]) (fun r => hi - r) ?_ (a := lo) ⟨hlo, hR, rfl⟩
  rintro r rg σ1 X hX ⟨hr, hR1, rfl⟩
  rw [s62l]
  have e1 : IntKind.wrap .i64 (IntKind.wrap .i64 (2 * (r : Int)) + 1) = ((2 * r + 1 : Nat) : Int) := by rw [wrap64 (n := 2 * (r : Int)) (by omega) (by omega), wrap64 (by omega) (by omega)]; omega
  rw [e1]
  refine bm_mk (fun _ => hK _ hR1) (fun h => ?_)
  have h : 2 * r + 1 < hi := by have := of_decide_eq_false h; omega
  have e2 : IntKind.wrap .i64 (((2 * r + 1 : Nat) : Int) + 1) = ((2 * r + 2 : Nat) : Int) := by rw [wrap64 (by omega) (by omega)]; omega
  have e3 : IntKind.wrap .i64 ((fi : Int) + ((2 * r + 1 : Nat) : Int)) = ((fi + (2 * r + 1) : Nat) : Int) := by rw [wrap64 (by omega) (by omega)]; omega
  have e4 : IntKind.wrap .i64 (((fi + (2 * r + 1) : Nat) : Int) + 1) = ((fi + (2 * r + 2) : Nat) : Int) := by rw [wrap64 (by omega) (by omega)]; omega
  have e5 : IntKind.wrap .i64 ((fi : Int) + r) = ((fi + r : Nat) : Int) := by rw [wrap64 (by omega) (by omega)]; omega
  have e6 : IntKind.wrap .i64 ((fi : Int) + ((2 * r + 2 : Nat) : Int)) = ((fi + (2 * r + 2) : Nat) : Int) := by rw [wrap64 (by omega) (by omega)]; omega
  rw [e2, e3, e4, e5, e6]
  refine bm_mk (fun h2 => ?_) (fun h2 => ?_)
  · have h2 : 2 * r + 2 < hi := by have := of_decide_eq_true h2; omega
    refine ltU hR1 hd (by omega) (by omega) (by omega) (by omega) fun b => bm_mk (fun _ => ?_) (fun _ => ?_)
    · refine ltU hR1 hd (by omega) (by omega) (by omega) (by omega) fun b => bm_mk (fun _ => hK _ hR1) (fun _ => ?_)
      exact swU hR1 hd (by omega) (by omega) (by omega) (by omega) fun σ3 hR3 => hX (2 * r + 2) _ _ (by omega) ⟨by omega, hR3, rfl⟩
    · refine ltU hR1 hd (by omega) (by omega) (by omega) (by omega) fun b => bm_mk (fun _ => hK _ hR1) (fun _ => ?_)
      exact swU hR1 hd (by omega) (by omega) (by omega) (by omega) fun σ3 hR3 => hX (2 * r + 1) _ _ (by omega) ⟨by omega, hR3, rfl⟩
  · refine ltU hR1 hd (by omega) (by omega) (by omega) (by omega) fun b => bm_mk (fun _ => hK _ hR1) (fun _ => ?_)
    exact swU hR1 hd (by omega) (by omega) (by omega) (by omega) fun σ3 hR3 => hX (2 * r + 1) _ _ (by omega) ⟨by omega, hR3, rfl⟩)
theorem c52 {a b : Nat} (hR : RowN j n L σ) (hd : SlN d j n) (hab : a ≤ b) (hb : b ≤ n) (hn : n ≤ 1048576) (hK : ∀ σ', RowN j n L σ' → K unit0 σ') :
    Tri Try.prog 52 [.slice d n 1, i64 a, i64 b] σ K := tri_in (by
  rw [s52]
  have e1 : IntKind.wrap .i64 ((b : Int) - a) = ((b - a : Nat) : Int) := by rw [wrap64 (by omega) (by omega)]; omega
  rw [e1]
  have hw : ∀ k : Int, -1 ≤ k → k ≤ n → IntKind.wrap .i64 k = k := fun k h0 h1 => wrap64 (by omega) (by omega)
  have e2 : ∃ k : Int, -1 ≤ k ∧ k ≤ b - a ∧ IntKind.wrap .i64 (Int.tdiv (IntKind.wrap .i64 (((b - a : Nat) : Int) - 1)) 2) = k := by
    rw [hw (((b - a : Nat) : Int) - 1) (by omega) (by omega)]
    have t : -1 ≤ Int.tdiv (((b - a : Nat) : Int) - 1) 2 ∧ Int.tdiv (((b - a : Nat) : Int) - 1) 2 ≤ b - a := by
      by_cases h : a = b
      · subst h
        rw [Nat.sub_self]
        have : Int.tdiv (((0 : Nat) : Int) - 1) 2 = 0 := by decide
        omega
      · rw [Int.tdiv_eq_ediv_of_nonneg (by omega)]
        omega
    exact ⟨_, t.1, t.2, hw _ t.1 (by omega)⟩
  obtain ⟨k0, hk0, hk1, e2⟩ := e2
  rw [e2]
  refine aloop (fun (k : Int) rg σ => -1 ≤ k ∧ k ≤ b - a ∧ RowN j n L σ ∧ rg = [(0, some (.slice d n 1)), (6, some (i64 a)), (7, some (i64 0)), (8, some (i64 ((b - a : Nat) : Int))), (9, some (i64 k))]) (fun k => (k + 1).toNat) ?_ (a := k0) ⟨hk0, hk1, hR, rfl⟩
  rintro k rg σ1 X hX ⟨h0, h1, hR1, rfl⟩
  rw [s52l]
  refine bm_mk (fun h => ?_) (fun h => ?_)
  · have h := of_decide_eq_true h
    obtain ⟨k, rfl⟩ := Int.eq_ofNat_of_zero_le h
    refine c62 hR1 hd (by omega) (by omega) hn fun σ2 hR2 => ?_
    rw [hw _ (by omega) (by omega)]
    exact hX (k - 1) _ _ (by omega) ⟨by omega, by omega, hR2, rfl⟩
  · rw [hw _ (by omega) (by omega)]
    refine aloop (fun (k : Int) rg σ => -1 ≤ k ∧ k < b - a + 0 ∧ RowN j n L σ ∧ rg = [(0, some (.slice d n 1)), (6, some (i64 a)), (7, some (i64 0)), (10, some (i64 k))]) (fun k => (k + 1).toNat) ?_ (a := ((b - a : Nat) : Int) - 1) ⟨by omega, by omega, hR1, rfl⟩
    rintro k rg σ2 Y hY ⟨h0, h1, hR2, rfl⟩
    rw [s52k]
    refine bm_mk (fun h => ?_) (fun h => hK _ hR2)
    have h := of_decide_eq_true h
    obtain ⟨k, rfl⟩ := Int.eq_ofNat_of_zero_le h
    have e3 : IntKind.wrap .i64 ((a : Int) + (k : Int)) = ((a + k : Nat) : Int) := by rw [wrap64 (by omega) (by omega)]; omega
    rw [e3]
    refine swU hR2 hd (by omega) (by omega) (by omega) (by omega) fun σ3 hR3 => ?_
    refine c62 (lo := 0) hR3 hd (by omega) (by omega) hn fun σ4 hR4 => ?_
    rw [hw _ (by omega) (by omega)]
    exact hY (k - 1) _ _ (by omega) ⟨by omega, by omega, hR4, rfl⟩)
theorem c55 {a b : Nat} (hR : RowN j n L σ) (hd : SlN d j n) (hab : a < b) (hb : b ≤ n) (hn : n ≤ 1048576) (hK : ∀ σ', RowN j n L σ' → K unit0 σ') :
    Tri Try.prog 55 [.slice d n 1, i64 a, i64 b] σ K := tri_in (by
  rw [s55]
  have e1 : IntKind.wrap .i64 ((b : Int) - 1) = ((b - 1 : Nat) : Int) := by rw [wrap64 (by omega) (by omega)]; omega
  rw [e1]
  refine aloop (fun (q : Nat × Nat) rg σ => q.1 ≤ n ∧ q.2 < b ∧ RowN j n L σ ∧ rg = [(0, some (.slice d n 1)), (6, some (i64 q.1)), (7, some (i64 q.2))]) (fun q => q.2 - q.1) ?_ (a := (a, b - 1)) ⟨by simp only; omega, by simp only; omega, hR, rfl⟩
  rintro ⟨x, y⟩ rg σ1 X hX ⟨h0, h1, hR1, rfl⟩
  simp only at h0 h1
  rw [s55l]
  refine bm_mk (fun h => ?_) (fun h => hK _ hR1)
  have h := of_decide_eq_true h
  simp only at h
  refine swU hR1 hd (by simp only; omega) (by simp only; omega) (by simp only; omega) (by simp only; omega) fun σ3 hR3 => ?_
  have e2 : IntKind.wrap .i64 ((x : Int) + 1) = ((x + 1 : Nat) : Int) := by rw [wrap64 (by omega) (by omega)]; omega
  have e3 : IntKind.wrap .i64 ((y : Int) - 1) = ((y - 1 : Nat) : Int) := by rw [wrap64 (by omega) (by omega)]; omega
  simp only
  rw [e2, e3]
  exact hX (x + 1, y - 1) _ _ (by simp only; omega) ⟨by simp only; omega, by simp only; omega, hR3, rfl⟩)
end
end Go.AI
end
section
/- The sort, further: the pivot, the partitions, the insertion sort that gives up; no condition. -/
set_option maxRecDepth 4000
set_option linter.unusedVariables false
set_option linter.unusedSimpArgs false
namespace Go.AI
open Go.Proofs
section
variable {σ : AS} {K : Value → AS → Prop} {j n : Nat} {L : List (Nat × AObj)} {d : Option Addr}
theorem c68 {a b c : Nat} {s : Int} (hR : RowN j n ((c, .row .plain [i64 s]) :: L) σ) (hd : SlN d j n) (ha : a < n) (hb : b < n) (hn : n ≤ 1048576)
    (hK : ∀ σ' (x y : Nat) s', ((x = a ∧ y = b) ∨ (x = b ∧ y = a)) → RowN j n ((c, .row .plain [i64 s']) :: L) σ' → K (.tuple ⟨[i64 x, i64 y]⟩) σ') :
    Tri Try.prog 68 [.slice d n 1, i64 a, i64 b, ptr c] σ K := tri_in (by
  rw [s68]
  refine ltU hR hd (by omega) (by omega) (by omega) (by omega) fun t => bm_mk (fun _ => ?_) (fun _ => hK _ _ _ _ (.inl ⟨rfl, rfl⟩) hR)
  obtain ⟨ys, hl, H⟩ := hR
  refine ldc_mk (rowL_out H) 0 rfl rfl (tI_mk ?_)
  refine put1_mk (rowL_out H) 0 rfl rfl (by simp) fun σ' H' => ?_
  exact hK σ' _ _ _ (.inr ⟨rfl, rfl⟩) ⟨ys, hl, rowL_swap H'⟩)
theorem c66 {a b e c : Nat} {s : Int} (hR : RowN j n ((c, .row .plain [i64 s]) :: L) σ) (hd : SlN d j n) (ha : a < n) (hb : b < n) (he : e < n) (hn : n ≤ 1048576)
    (hK : ∀ σ' (x : Nat) s', (x = a ∨ x = b ∨ x = e) → RowN j n ((c, .row .plain [i64 s']) :: L) σ' → K (i64 x) σ') :
    Tri Try.prog 66 [.slice d n 1, i64 a, i64 b, i64 e, ptr c] σ K := tri_in (by
  rw [s66]
  refine c68 hR hd ha hb hn fun σ1 x1 y1 t1 h1 hR1 => ?_
  simp only [tTup_tup, pSome_some, List.getElem?_cons_zero, List.getElem?_cons_succ, tI_int]
  refine c68 hR1 hd (by omega) he hn fun σ2 x2 y2 t2 h2 hR2 => ?_
  simp only [tTup_tup, pSome_some, List.getElem?_cons_zero, List.getElem?_cons_succ, tI_int]
  refine c68 hR2 hd (by omega) (by omega) hn fun σ3 x3 y3 t3 h3 hR3 => ?_
  simp only [tTup_tup, pSome_some, List.getElem?_cons_zero, List.getElem?_cons_succ, tI_int]
  exact hK σ3 y3 t3 (by omega) hR3)
theorem c65 {a c : Nat} {s : Int} (hR : RowN j n ((c, .row .plain [i64 s]) :: L) σ) (hd : SlN d j n) (ha : 0 < a) (hb : a + 1 < n) (hn : n ≤ 1048576)
    (hK : ∀ σ' (x : Nat) s', (a - 1 ≤ x ∧ x ≤ a + 1) → RowN j n ((c, .row .plain [i64 s']) :: L) σ' → K (i64 x) σ') :
    Tri Try.prog 65 [.slice d n 1, i64 a, ptr c] σ K := tri_in (by
  rw [s65]
  have e1 : IntKind.wrap .i64 ((a : Int) - 1) = ((a - 1 : Nat) : Int) := by rw [wrap64 (by omega) (by omega)]; omega
  have e2 : IntKind.wrap .i64 ((a : Int) + 1) = ((a + 1 : Nat) : Int) := by rw [wrap64 (by omega) (by omega)]; omega
  rw [e1, e2]
  refine c66 hR hd (by omega) (by omega) (by omega) hn fun σ1 x t h hR1 => ?_
  simp only [tI_int]
  exact hK σ1 x t (by omega) hR1)
theorem RowN.drop {p : Nat × AObj} (h : RowN j n (p :: L) σ) : RowN j n L σ := by
  obtain ⟨ys, hl, H⟩ := h
  exact ⟨ys, hl, (rowL_out H).sub (.cons _ (.refl _))⟩
theorem c54 {a b : Nat} (hR : RowN j n L σ) (hd : SlN d j n) (hab : a + 8 ≤ b) (hb : b ≤ n) (hn : n ≤ 1048576)
    (hK : ∀ σ' (x : Nat) (h : Int), a ≤ x → x < b → RowN j n L σ' → K (.tuple ⟨[i64 x, i64 h]⟩) σ') : Tri Try.prog 54 [.slice d n 1, i64 a, i64 b] σ K := tri_in (by
  rw [s54]
  obtain ⟨ys, hl, H⟩ := hR
  refine newAt_mk H fun c σ1 H1 => ?_
  have hR1 : RowN j n ((c, .row .plain [i64 0]) :: L) σ1 := ⟨ys, hl, rowL_swap H1⟩
  have e1 : IntKind.wrap .i64 ((b : Int) - a) = ((b - a : Nat) : Int) := by rw [wrap64 (by omega) (by omega)]; omega
  have e2 : ∀ k : Nat, k ≤ 3 → IntKind.wrap .i64 ((a : Int) + IntKind.wrap .i64 (IntKind.wrap .i64 (Int.tdiv ((b - a : Nat) : Int) 4) * (k : Int))) = ((a + (b - a) / 4 * k : Nat) : Int) := by
    intro k hk
    have h0 : Int.tdiv ((b - a : Nat) : Int) 4 = (((b - a) / 4 : Nat) : Int) := by rw [Int.tdiv_eq_ediv_of_nonneg (by omega)]; omega
    rw [h0, wrap64 (n := (((b - a) / 4 : Nat) : Int)) (by omega) (by omega)]
    have h1 : (((b - a) / 4 : Nat) : Int) * (k : Int) = (((b - a) / 4 * k : Nat) : Int) := by rw [Int.natCast_mul]
    have h2 : (b - a) / 4 * k ≤ (b - a) / 4 * 3 := Nat.mul_le_mul_left _ hk
    rw [h1, wrap64 (n := (((b - a) / 4 * k : Nat) : Int)) (by omega) (by omega), wrap64 (by omega) (by omega)]
    omega
  have f1 := e2 1 (by omega)
  have f2 := e2 2 (by omega)
  have f3 := e2 3 (by omega)
  have g1 : ((1 : Nat) : Int) = 1 := rfl
  have g2 : ((2 : Nat) : Int) = 2 := rfl
  have g3 : ((3 : Nat) : Int) = 3 := rfl
  rw [g1] at f1
  rw [g2] at f2
  rw [g3] at f3
  rw [e1, f1, f2, f3]
  refine bm_mk (fun _ => bm_mk (fun h => ?_) (fun _ => ?_)) (fun h => by have := of_decide_eq_false h; omega)
  · have h := of_decide_eq_true h
    refine c65 hR1 hd (by omega) (by omega) hn fun σ2 x t hx hR2 => ?_
    simp only [tI_int]
    refine c65 hR2 hd (by omega) (by omega) hn fun σ3 y t hy hR3 => ?_
    simp only [tI_int]
    refine c65 hR3 hd (by omega) (by omega) hn fun σ4 z t hz hR4 => ?_
    simp only [tI_int]
    refine c66 hR4 hd (by omega) (by omega) (by omega) hn fun σ5 w t hw hR5 => ?_
    simp only [tI_int]
    obtain ⟨zs, hl5, H5⟩ := hR5
    refine ldc_mk (rowL_out H5) 0 rfl rfl (tI_mk ?_)
    have hR6 : RowN j n L σ5 := RowN.drop ⟨zs, hl5, H5⟩
    exact bm_mk (fun _ => hK _ _ _ (by omega) (by omega) hR6) (fun _ => bm_mk (fun _ => hK _ _ _ (by omega) (by omega) hR6) (fun _ => hK _ _ _ (by omega) (by omega) hR6))
  · refine c66 hR1 hd (by omega) (by omega) (by omega) hn fun σ5 w t hw hR5 => ?_
    simp only [tI_int]
    obtain ⟨zs, hl5, H5⟩ := hR5
    refine ldc_mk (rowL_out H5) 0 rfl rfl (tI_mk ?_)
    have hR6 : RowN j n L σ5 := RowN.drop ⟨zs, hl5, H5⟩
    exact bm_mk (fun _ => hK _ _ _ (by omega) (by omega) hR6) (fun _ => bm_mk (fun _ => hK _ _ _ (by omega) (by omega) hR6) (fun _ => hK _ _ _ (by omega) (by omega) hR6)))
def ptI (d : Option Addr) (n a b j : Nat) (L : List (Nat × AObj)) (r1 r2 M : Nat) (q : Nat × Nat) (rg : Regs) (σ : AS) : Prop :=
  a + 1 ≤ q.1 ∧ q.1 ≤ b ∧ q.1 ≤ q.2 + 2 ∧ a ≤ q.2 ∧ q.2 < b ∧ q.2 + 2 - q.1 ≤ M ∧ RowN j n L σ ∧ rg = [(0, some (.slice d n 1)), (1, some (i64 a)), (r1, some (i64 q.1)), (r2, some (i64 q.2))]
theorem c58 {a b p : Nat} (hR : RowN j n L σ) (hd : SlN d j n) (hab : a < b) (hb : b ≤ n) (ha : a ≤ p) (hp : p < b) (hn : n ≤ 1048576)
    (hK : ∀ σ' (x : Nat), a < x → x ≤ b → RowN j n L σ' → K (i64 x) σ') : Tri Try.prog 58 [.slice d n 1, i64 a, i64 b, i64 p] σ K := tri_in (by
  rw [s58]
  have e1 : IntKind.wrap .i64 ((a : Int) + 1) = ((a + 1 : Nat) : Int) := by rw [wrap64 (by omega) (by omega)]; omega
  have e2 : IntKind.wrap .i64 ((b : Int) - 1) = ((b - 1 : Nat) : Int) := by rw [wrap64 (by omega) (by omega)]; omega
  rw [e1, e2]
  refine swU hR hd (by omega) (by omega) (by omega) (by omega) fun σ1 hR1 => ?_
  refine aloop (ptI d n a b j L 9 10 1048578) (fun q => q.2 + 2 - q.1) ?_ (a := (a + 1, b - 1)) ⟨by simp only; omega, by simp only; omega, by simp only; omega, by simp only; omega, by simp only; omega, by simp only; omega, hR1, rfl⟩
  rintro ⟨x0, y0⟩ rg σ2 Z hZ ⟨h1, h2, h3, h4, h5, h6, hR2, rfl⟩
  rw [s58a]
  simp only at h1 h2 h3 h4 h5 h6
  refine aloop (ptI d n a b j L 9 10 (y0 + 2 - x0)) (fun q => q.2 + 2 - q.1) ?_ (a := (x0, y0)) ⟨h1, h2, h3, h4, h5, Nat.le_refl _, hR2, rfl⟩
  rintro ⟨x, y⟩ rg σ3 X hX ⟨h1, h2, h3, h4, h5, h6, hR3, rfl⟩
  simp only at h1 h2 h3 h4 h5 h6
  rw [s58b]
  have down : ∀ {σ : AS}, RowN j n L σ → ALoop (fl Try.prog hintsS (Tri Try.prog) 58 [true, true, true, false, false, false, false, true, false, false] [Z] K) [(0, some (.slice d n 1)), (1, some (i64 a)), (9, some (i64 x)), (10, some (i64 y))] σ := by
    intro σ hR4
    refine aloop (ptI d n a b j L 9 10 (y0 + 2 - x0)) (fun q => q.2 + 2 - q.1) ?_ (a := (x, y)) ⟨h1, h2, h3, h4, h5, h6, hR4, rfl⟩
    rintro ⟨x, y⟩ rg σ5 Y hY ⟨h1, h2, h3, h4, h5, h6, hR5, rfl⟩
    simp only at h1 h2 h3 h4 h5 h6
    rw [s58c]
    refine bm_mk (fun h => ?_) (fun h => bm_mk (fun g => hK _ _ (by omega) h2 hR5) (fun g => ?_))
    · have h := of_decide_eq_true h
      simp only at h
      refine ltU hR5 hd (by omega) (by omega) (by simp only; omega) (by simp only; omega) fun t => bm_mk (fun _ => ?_) (fun _ => bm_mk (fun g => ?_) (fun g => ?_))
      · have e3 : IntKind.wrap .i64 ((y : Int) - 1) = ((y - 1 : Nat) : Int) := by rw [wrap64 (by omega) (by omega)]; omega
        simp only
        rw [e3]
        exact hY (x, y - 1) _ _ (by simp only; omega) ⟨h1, h2, by simp only; omega, by simp only; omega, by simp only; omega, by simp only; omega, hR5, rfl⟩
      · have g := of_decide_eq_true g
        simp only at g
        omega
      · refine swU hR5 hd (by simp only; omega) (by simp only; omega) (by simp only; omega) (by simp only; omega) fun σ6 hR6 => ?_
        have e3 : IntKind.wrap .i64 ((y : Int) - 1) = ((y - 1 : Nat) : Int) := by rw [wrap64 (by omega) (by omega)]; omega
        have e4 : IntKind.wrap .i64 ((x : Int) + 1) = ((x + 1 : Nat) : Int) := by rw [wrap64 (by omega) (by omega)]; omega
        simp only
        rw [e3, e4]
        exact hZ (x + 1, y - 1) _ _ (by simp only; omega) ⟨by simp only; omega, by simp only; omega, by simp only; omega, by simp only; omega, by simp only; omega, by simp only; omega, hR6, rfl⟩
    · have h := of_decide_eq_false h
      have g := of_decide_eq_false g
      simp only at h g
      omega
  refine bm_mk (fun h => ?_) (fun h => down hR3)
  have h := of_decide_eq_true h
  simp only at h
  refine ltU hR3 hd (by omega) (by omega) (by simp only; omega) (by simp only; omega) fun t => bm_mk (fun _ => ?_) (fun _ => down hR3)
  have e4 : IntKind.wrap .i64 ((x : Int) + 1) = ((x + 1 : Nat) : Int) := by rw [wrap64 (by omega) (by omega)]; omega
  simp only
  rw [e4]
  exact hX (x + 1, y) _ _ (by simp only; omega) ⟨by simp only; omega, by simp only; omega, by simp only; omega, h4, h5, by simp only; omega, hR3, rfl⟩)
end
end Go.AI
end
section
/- The sort, further: the partition, the insertion sort that gives up; no condition. -/
set_option maxRecDepth 4000
set_option linter.unusedVariables false
set_option linter.unusedSimpArgs false
namespace Go.AI
open Go.Proofs
section
variable {σ : AS} {K : Value → AS → Prop} {j n : Nat} {L : List (Nat × AObj)} {d : Option Addr}
theorem c59 {a b p : Nat} (hR : RowN j n L σ) (hd : SlN d j n) (hab : a < b) (hb : b ≤ n) (ha : a ≤ p) (hp : p < b) (hn : n ≤ 1048576)
    (hK : ∀ σ' (x : Nat) t, a ≤ x → x < b → RowN j n L σ' → K (.tuple ⟨[i64 x, .bool t]⟩) σ') : Tri Try.prog 59 [.slice d n 1, i64 a, i64 b, i64 p] σ K := tri_in (by
  rw [s59]
  have e1 : IntKind.wrap .i64 ((a : Int) + 1) = ((a + 1 : Nat) : Int) := by rw [wrap64 (by omega) (by omega)]; omega
  have e2 : IntKind.wrap .i64 ((b : Int) - 1) = ((b - 1 : Nat) : Int) := by rw [wrap64 (by omega) (by omega)]; omega
  rw [e1, e2]
  refine swU hR hd (by omega) (by omega) (by omega) (by omega) fun σ1 hR1 => ?_
  -- the loop behind the first exchange
  have third : ∀ {σ : AS} {x y : Nat}, a + 1 ≤ x → x ≤ b → x ≤ y + 2 → a ≤ y → y < b → RowN j n L σ → ALoop (fl Try.prog hintsS (Tri Try.prog) 59 [true, true, true, true, true, true, true, true, true, false, false] [] K)
      [(0, some (.slice d n 1)), (1, some (i64 a)), (10, some (i64 x)), (11, some (i64 y))] σ := by
    intro σ x y h1 h2 h3 h4 h5 hR2
    refine aloop (ptI d n a b j L 10 11 1048578) (fun q => q.2 + 2 - q.1) ?_ (a := (x, y)) ⟨h1, h2, h3, h4, h5, by simp only; omega, hR2, rfl⟩
    clear h1 h2 h3 h4 h5 hR2 x y
    rintro ⟨x0, y0⟩ rg σ2 Z hZ ⟨h1, h2, h3, h4, h5, h6, hR2, rfl⟩
    rw [s59c]
    simp only at h1 h2 h3 h4 h5 h6
    refine aloop (ptI d n a b j L 10 11 (y0 + 2 - x0)) (fun q => q.2 + 2 - q.1) ?_ (a := (x0, y0)) ⟨h1, h2, h3, h4, h5, Nat.le_refl _, hR2, rfl⟩
    rintro ⟨x, y⟩ rg σ3 X hX ⟨h1, h2, h3, h4, h5, h6, hR3, rfl⟩
    simp only at h1 h2 h3 h4 h5 h6
    rw [s59d]
    have down : ∀ {σ : AS}, RowN j n L σ → ALoop (fl Try.prog hintsS (Tri Try.prog) 59 [true, true, true, true, true, true, true, true, true, false, false, false, false, true, false, false] [Z] K) [(0, some (.slice d n 1)), (1, some (i64 a)), (10, some (i64 x)), (11, some (i64 y))] σ := by
      intro σ hR4
      refine aloop (ptI d n a b j L 10 11 (y0 + 2 - x0)) (fun q => q.2 + 2 - q.1) ?_ (a := (x, y)) ⟨h1, h2, h3, h4, h5, h6, hR4, rfl⟩
      rintro ⟨x, y⟩ rg σ5 Y hY ⟨h1, h2, h3, h4, h5, h6, hR5, rfl⟩
      simp only at h1 h2 h3 h4 h5 h6
      rw [s59e]
      refine bm_mk (fun h => ?_) (fun h => bm_mk (fun g => ?_) (fun g => ?_))
      · have h := of_decide_eq_true h
        simp only at h
        refine ltU hR5 hd (by simp only; omega) (by simp only; omega) (by omega) (by omega) fun t => bm_mk (fun _ => ?_) (fun _ => bm_mk (fun g => ?_) (fun g => ?_))
        · have e3 : IntKind.wrap .i64 ((y : Int) - 1) = ((y - 1 : Nat) : Int) := by rw [wrap64 (by omega) (by omega)]; omega
          simp only
          rw [e3]
          exact hY (x, y - 1) _ _ (by simp only; omega) ⟨h1, h2, by simp only; omega, by simp only; omega, by simp only; omega, by simp only; omega, hR5, rfl⟩
        · have g := of_decide_eq_true g
          simp only at g
          omega
        · refine swU hR5 hd (by simp only; omega) (by simp only; omega) (by simp only; omega) (by simp only; omega) fun σ6 hR6 => ?_
          have e3 : IntKind.wrap .i64 ((y : Int) - 1) = ((y - 1 : Nat) : Int) := by rw [wrap64 (by omega) (by omega)]; omega
          have e4 : IntKind.wrap .i64 ((x : Int) + 1) = ((x + 1 : Nat) : Int) := by rw [wrap64 (by omega) (by omega)]; omega
          simp only
          rw [e3, e4]
          exact hZ (x + 1, y - 1) _ _ (by simp only; omega) ⟨by simp only; omega, by simp only; omega, by simp only; omega, by simp only; omega, by simp only; omega, by simp only; omega, hR6, rfl⟩
      · exact swU hR5 hd (by omega) (by omega) (by simp only; omega) (by simp only; omega) fun σ6 hR6 => hK _ _ _ h4 h5 hR6
      · have h := of_decide_eq_false h
        have g := of_decide_eq_false g
        simp only at h g
        omega
    refine bm_mk (fun h => ?_) (fun h => down hR3)
    have h := of_decide_eq_true h
    simp only at h
    refine ltU hR3 hd (by simp only; omega) (by simp only; omega) (by omega) (by omega) fun t => bm_mk (fun _ => ?_) (fun _ => down hR3)
    have e4 : IntKind.wrap .i64 ((x : Int) + 1) = ((x + 1 : Nat) : Int) := by rw [wrap64 (by omega) (by omega)]; omega
    simp only
    rw [e4]
    exact hX (x + 1, y) _ _ (by simp only; omega) ⟨by simp only; omega, by simp only; omega, by simp only; omega, h4, h5, by simp only; omega, hR3, rfl⟩
  have second : ∀ {σ : AS} {x y : Nat}, a + 1 ≤ x → x ≤ b → x ≤ y + 2 → a ≤ y → y < b → RowN j n L σ → ALoop (fl Try.prog hintsS (Tri Try.prog) 59 [true, true, true, true, false, false] [] K)
      [(0, some (.slice d n 1)), (1, some (i64 a)), (10, some (i64 x)), (11, some (i64 y))] σ := by
    intro σ x y h1 h2 h3 h4 h5 hR2
    refine aloop (ptI d n a b j L 10 11 1048578) (fun q => q.2 + 2 - q.1) ?_ (a := (x, y)) ⟨h1, h2, h3, h4, h5, by simp only; omega, hR2, rfl⟩
    clear h1 h2 h3 h4 h5 hR2 x y
    rintro ⟨x, y⟩ rg σ5 Y hY ⟨h1, h2, h3, h4, h5, h6, hR5, rfl⟩
    simp only at h1 h2 h3 h4 h5 h6
    rw [s59b]
    refine bm_mk (fun h => ?_) (fun h => bm_mk (fun g => ?_) (fun g => ?_))
    · have h := of_decide_eq_true h
      simp only at h
      refine ltU hR5 hd (by simp only; omega) (by simp only; omega) (by omega) (by omega) fun t => bm_mk (fun _ => ?_) (fun _ => bm_mk (fun g => ?_) (fun g => ?_))
      · have e3 : IntKind.wrap .i64 ((y : Int) - 1) = ((y - 1 : Nat) : Int) := by rw [wrap64 (by omega) (by omega)]; omega
        simp only
        rw [e3]
        exact hY (x, y - 1) _ _ (by simp only; omega) ⟨h1, h2, by simp only; omega, by simp only; omega, by simp only; omega, by simp only; omega, hR5, rfl⟩
      · have g := of_decide_eq_true g
        simp only at g
        omega
      · refine swU hR5 hd (by simp only; omega) (by simp only; omega) (by simp only; omega) (by simp only; omega) fun σ6 hR6 => ?_
        have e3 : IntKind.wrap .i64 ((y : Int) - 1) = ((y - 1 : Nat) : Int) := by rw [wrap64 (by omega) (by omega)]; omega
        have e4 : IntKind.wrap .i64 ((x : Int) + 1) = ((x + 1 : Nat) : Int) := by rw [wrap64 (by omega) (by omega)]; omega
        simp only
        rw [e3, e4]
        exact third (by omega) (by omega) (by omega) (by omega) (by omega) hR6
    · exact swU hR5 hd (by omega) (by omega) (by simp only; omega) (by simp only; omega) fun σ6 hR6 => hK _ _ _ h4 h5 hR6
    · have h := of_decide_eq_false h
      have g := of_decide_eq_false g
      simp only at h g
      omega
  refine aloop (ptI d n a b j L 10 11 1048578) (fun q => q.2 + 2 - q.1) ?_ (a := (a + 1, b - 1)) ⟨by simp only; omega, by simp only; omega, by simp only; omega, by simp only; omega, by simp only; omega, by simp only; omega, hR1, rfl⟩
  rintro ⟨x, y⟩ rg σ3 X hX ⟨h1, h2, h3, h4, h5, h6, hR3, rfl⟩
  simp only at h1 h2 h3 h4 h5 h6
  rw [s59a]
  refine bm_mk (fun h => ?_) (fun h => second h1 h2 h3 h4 h5 hR3)
  have h := of_decide_eq_true h
  simp only at h
  refine ltU hR3 hd (by simp only; omega) (by simp only; omega) (by omega) (by omega) fun t => bm_mk (fun _ => ?_) (fun _ => second h1 h2 h3 h4 h5 hR3)
  have e4 : IntKind.wrap .i64 ((x : Int) + 1) = ((x + 1 : Nat) : Int) := by rw [wrap64 (by omega) (by omega)]; omega
  simp only
  rw [e4]
  exact hX (x + 1, y) _ _ (by simp only; omega) ⟨by simp only; omega, by simp only; omega, by simp only; omega, h4, h5, by simp only; omega, hR3, rfl⟩)
theorem c56 {a b : Nat} (hR : RowN j n L σ) (hd : SlN d j n) (hab : a < b) (hb : b ≤ n) (hn : n ≤ 1048576)
    (hK : ∀ σ' t, RowN j n L σ' → K (.bool t) σ') : Tri Try.prog 56 [.slice d n 1, i64 a, i64 b] σ K := tri_in (by
  rw [s56]
  have e1 : IntKind.wrap .i64 ((a : Int) + 1) = ((a + 1 : Nat) : Int) := by rw [wrap64 (by omega) (by omega)]; omega
  rw [e1]
  have ep : ∀ k : Nat, k ≤ n → IntKind.wrap .i64 ((k : Int) + 1) = ((k + 1 : Nat) : Int) := fun k h => by rw [wrap64 (by omega) (by omega)]; omega
  have em : ∀ k : Nat, 0 < k → k ≤ n → IntKind.wrap .i64 ((k : Int) - 1) = ((k - 1 : Nat) : Int) := fun k h0 h => by rw [wrap64 (by omega) (by omega)]; omega
  refine aloop (fun (q : Nat × Nat) rg σ => a < q.1 ∧ q.1 ≤ b ∧ q.2 ≤ 5 ∧ RowN j n L σ ∧ rg = [(0, some (.slice d n 1)), (1, some (i64 a)), (2, some (i64 b)), (7, some (i64 q.1)), (8, some (i64 q.2))]) (fun q => 5 - q.2) ?_ (a := (a + 1, 0)) ⟨by simp only; omega, by simp only; omega, by simp only; omega, hR, rfl⟩
  rintro ⟨x0, s⟩ rg σ1 Y hY ⟨h1, h2, h3, hR1, rfl⟩
  rw [s56a]
  simp only at h1 h2 h3
  refine bm_mk (fun h => ?_) (fun _ => hK _ _ hR1)
  have h := of_decide_eq_true h
  simp only at h
  have hs : s < 5 := by omega
  clear h
  have es : IntKind.wrap .i64 ((s : Int) + 1) = ((s + 1 : Nat) : Int) := by rw [wrap64 (by omega) (by omega)]; omega
  have fin : ∀ {σ : AS} {x : Nat}, a < x → x ≤ b → RowN j n L σ → Y [(0, some (.slice d n 1)), (1, some (i64 a)), (2, some (i64 b)), (7, some (i64 x)), (8, some (i64 (IntKind.wrap .i64 ((s : Int) + 1))))] σ := by
    intro σ x g1 g2 hR2
    rw [es]
    exact hY (x, s + 1) _ _ (by simp only; omega) ⟨g1, g2, hs, hR2, rfl⟩
  have lD : ∀ {σ : AS} {x : Nat}, a < x → x ≤ b → RowN j n L σ → ALoop (fl Try.prog hintsS (Tri Try.prog) 56 [true, true, false, true, false, false, true, false, false, true, true, true, true, true, true, false, true, false] [Y] K)
      [(0, some (.slice d n 1)), (1, some (i64 a)), (2, some (i64 b)), (7, some (i64 x)), (8, some (i64 s)), (10, some (i64 (IntKind.wrap .i64 ((x : Int) + 1))))] σ := by
    intro σ x g1 g2 hR2
    rw [ep x (by omega)]
    refine aloop (fun (m : Nat) rg σ => 1 ≤ m ∧ RowN j n L σ ∧ rg = [(0, some (.slice d n 1)), (1, some (i64 a)), (2, some (i64 b)), (7, some (i64 x)), (8, some (i64 s)), (10, some (i64 m))]) (fun m => b - m) ?_ (a := x + 1) ⟨by omega, hR2, rfl⟩
    rintro m rg σ3 X hX ⟨k1, hR3, rfl⟩
    rw [s56d]
    refine bm_mk (fun h => ?_) (fun _ => fin g1 g2 hR3)
    have h := of_decide_eq_true h
    rw [em m (by omega) (by omega)]
    refine ltU hR3 hd (by omega) (by omega) (by omega) (by omega) fun t => bm_mk (fun _ => fin g1 g2 hR3) (fun _ => ?_)
    refine swU hR3 hd (by omega) (by omega) (by omega) (by omega) fun σ4 hR4 => ?_
    rw [ep m (by omega)]
    exact hX (m + 1) _ _ (by omega) ⟨by omega, hR4, rfl⟩
  have tD : ∀ {σ : AS} {x : Nat}, a < x → x ≤ b → RowN j n L σ → bmatch (decide (IntKind.wrap .i64 ((b : Int) - x) ≥ 2))
      (ALoop (fl Try.prog hintsS (Tri Try.prog) 56 [true, true, false, true, false, false, true, false, false, true, true, true, true, true, true, false, true, false] [Y] K)
        [(0, some (.slice d n 1)), (1, some (i64 a)), (2, some (i64 b)), (7, some (i64 x)), (8, some (i64 s)), (10, some (i64 (IntKind.wrap .i64 ((x : Int) + 1))))] σ)
      (Y [(0, some (.slice d n 1)), (1, some (i64 a)), (2, some (i64 b)), (7, some (i64 x)), (8, some (i64 (IntKind.wrap .i64 ((s : Int) + 1))))] σ) :=
    fun g1 g2 hR2 => bm_mk (fun _ => lD g1 g2 hR2) (fun _ => fin g1 g2 hR2)
  have lC : ∀ {σ : AS} {x : Nat}, a < x → x < b → RowN j n L σ → ALoop (fl Try.prog hintsS (Tri Try.prog) 56 [true, true, false, true, false, false, true, false, false, true, true, true, true, false, true, false, true, false] [Y] K)
      [(0, some (.slice d n 1)), (1, some (i64 a)), (2, some (i64 b)), (7, some (i64 x)), (8, some (i64 s)), (9, some (i64 ((x - 1 : Nat) : Int)))] σ := by
    intro σ x g1 g2 hR2
    refine aloop (fun (m : Nat) rg σ => m < b ∧ RowN j n L σ ∧ rg = [(0, some (.slice d n 1)), (1, some (i64 a)), (2, some (i64 b)), (7, some (i64 x)), (8, some (i64 s)), (9, some (i64 m))]) (fun m => m) ?_ (a := x - 1) ⟨by omega, hR2, rfl⟩
    rintro m rg σ3 X hX ⟨k1, hR3, rfl⟩
    rw [s56c]
    refine bm_mk (fun h => ?_) (fun _ => tD g1 (by omega) hR3)
    have h := of_decide_eq_true h
    rw [em m (by omega) (by omega)]
    refine ltU hR3 hd (by omega) (by omega) (by omega) (by omega) fun t => bm_mk (fun _ => tD g1 (by omega) hR3) (fun _ => ?_)
    refine swU hR3 hd (by omega) (by omega) (by omega) (by omega) fun σ4 hR4 => ?_
    exact hX (m - 1) _ _ (by omega) ⟨by omega, hR4, rfl⟩
  refine aloop (fun (x : Nat) rg σ => a < x ∧ x ≤ b ∧ RowN j n L σ ∧ rg = [(0, some (.slice d n 1)), (1, some (i64 a)), (2, some (i64 b)), (7, some (i64 x)), (8, some (i64 s))]) (fun x => b - x) ?_ (a := x0) ⟨h1, h2, hR1, rfl⟩
  rintro x rg σ2 X hX ⟨g1, g2, hR2, rfl⟩
  rw [s56b]
  rw [em x (by omega) (by omega)]
  refine bm_mk (fun h => ?_) (fun h => ?_)
  · have h := of_decide_eq_true h
    refine ltU hR2 hd (by omega) (by omega) (by omega) (by omega) fun t => bm_mk (fun _ => ?_) (fun _ => ?_)
    · rw [ep x (by omega)]
      exact hX (x + 1) _ _ (by omega) ⟨by omega, by omega, hR2, rfl⟩
    · refine bm_mk (fun _ => hK _ _ hR2) (fun _ => bm_mk (fun _ => hK _ _ hR2) (fun _ => ?_))
      exact swU hR2 hd (by omega) (by omega) (by omega) (by omega) fun σ4 hR4 => bm_mk (fun _ => lC g1 (by omega) hR4) (fun _ => tD g1 g2 hR4)
  · have h := of_decide_eq_false h
    refine bm_mk (fun _ => hK _ _ hR2) (fun g => ?_)
    have g : ¬ ((x : Int) = b) := by simpa using g
    omega)
end
end Go.AI
end
section
/- The sort, further: the random exchanges; no condition. -/
set_option maxRecDepth 10000
set_option linter.unusedVariables false
set_option linter.unusedSimpArgs false
namespace Go.AI
open Go.Proofs
/-- The lengths of the numbers of eight bits. -/
def lenTab : List UInt8 := [0, 1] ++ List.replicate 2 2 ++ List.replicate 4 3 ++ List.replicate 8 4 ++ List.replicate 16 5 ++ List.replicate 32 6 ++ List.replicate 64 7 ++ List.replicate 128 8
theorem lenTab_all : ∀ l : Fin 256, (l.val = 0 ∨ (l.val < 2 ^ (lenTab.getD l.val 0).toNat ∧ 2 ^ (lenTab.getD l.val 0).toNat ≤ 2 * l.val ∧ (lenTab.getD l.val 0).toNat ≤ 8)) := by decide +kernel
theorem iand_le {x y : Int} (h0 : 0 ≤ y) (h1 : y < 9223372036854775808) : 0 ≤ iand .u64 x y ∧ iand .u64 x y ≤ y := by
  obtain ⟨y, rfl⟩ := Int.eq_ofNat_of_zero_le h0
  unfold iand
  have hb : IntKind.u64.bits = 64 := rfl
  rw [BitVec.toNat_and, BitVec.ofInt_natCast, BitVec.toNat_ofNat, hb, Nat.mod_eq_of_lt (a := y) (by omega)]
  have h : (BitVec.ofInt 64 x).toNat &&& y ≤ y := Nat.and_le_right
  generalize (BitVec.ofInt 64 x).toNat &&& y = z at h
  have e : IntKind.wrap .u64 (z : Int) = z := by
    simp [IntKind.wrap, IntKind.bits, IntKind.signed]
    omega
  rw [e]
  omega
theorem wrapU64 {n : Int} (h0 : 0 ≤ n) (h1 : n ≤ 18446744073709551615) : IntKind.wrap .u64 n = n := by
  simp [IntKind.wrap, IntKind.signed, IntKind.bits]
  omega
section
variable {σ : AS} {K : Value → AS → Prop} {j n : Nat} {L : List (Nat × AObj)} {d : Option Addr}
theorem c61 {l : Nat} (h0 : 0 < l) (h1 : l < 512) (hK : ∀ t : Nat, l < 2 ^ t → 2 ^ t ≤ 2 * l → t ≤ 9 → K (i64 t) σ) : Tri Try.prog 61 [.int .u64 l] σ K := tri_in (by
  rw [s61]
  refine bm_mk (fun h => by have := of_decide_eq_true h; omega) (fun _ => bm_mk (fun h => by have := of_decide_eq_true h; omega) (fun _ => bm_mk (fun h => ?_) (fun h => ?_)))
  · have h := of_decide_eq_true h
    have e : ishr .u64 (l : Int) 8 = 1 := by
      unfold ishr
      have : (2 : Int) ^ min (8 : Int).toNat IntKind.u64.bits = 256 := by decide
      rw [this, Int.fdiv_eq_ediv_of_nonneg _ (by decide)]
      omega
    rw [e]
    exact req_mk (by decide) (req_mk (by decide) (hK 9 (by omega) (by omega) (by omega)))
  · have h := of_decide_eq_false h
    have e : IntKind.wrap .u8 (l : Int) = (l : Int) := by
      simp [IntKind.wrap, IntKind.bits, IntKind.signed]
      omega
    rw [e]
    refine req_mk (by omega) (req_mk (show (l : Int) < (256 : Nat) by omega) ?_)
    obtain hz | ⟨g1, g2, g3⟩ := lenTab_all ⟨l, by omega⟩
    · simp only at hz
      omega
    · simp only at g1 g2 g3
      have := hK _ g1 g2 (by omega)
      rw [Int.toNat_natCast]
      generalize ht : (lenTab.getD l 0).toNat = t at this g3
      have ht2 : _ = t := ht
      change K (i64 (IntKind.wrap .i64 (0 + IntKind.wrap .i64 (((lenTab.getD l 0).toNat : Nat) : Int)))) σ
      rw [ht, wrap64 (n := (t : Int)) (by omega) (by omega), wrap64 (by omega) (by omega), Int.zero_add]
      exact this)
theorem c50 {l : Nat} (h0 : 0 < l) (h1 : l < 512) (hK : ∀ t : Nat, l < 2 ^ t → 2 ^ t ≤ 2 * l → t ≤ 9 → K (i64 t) σ) : Tri Try.prog 50 [.int .u64 l] σ K := tri_in (by
  rw [s50]
  refine c61 h0 h1 fun t g1 g2 g3 => ?_
  simp only [tI_int]
  exact hK t g1 g2 g3)
theorem c63 {l : Nat} (h0 : 0 < l) (h1 : l < 512) (hK : ∀ m : Nat, l < m → m ≤ 2 * l → K (.int .u64 m) σ) : Tri Try.prog 63 [i64 l] σ K := tri_in (by
  rw [s63, wrapU64 (by omega) (by omega)]
  refine c50 h0 h1 fun t g1 g2 g3 => ?_
  simp only [tI_int]
  refine req_mk (by omega) ?_
  have e : ishl .u64 1 (t : Int) = ((2 ^ t : Nat) : Int) := by
    unfold ishl
    have hb : IntKind.u64.bits = 64 := rfl
    rw [Int.toNat_natCast, hb, Nat.min_eq_left (by omega), Int.one_mul]
    have : ((2 : Int) ^ t) = ((2 ^ t : Nat) : Int) := by simp
    rw [this]
    exact wrapU64 (by omega) (by omega)
  rw [e]
  exact hK _ g1 g2)
theorem c64 {c : Nat} {r : Int} (H : Has σ ((c, .row .plain [.int .u64 r]) :: L)) (hK : ∀ σ' r', Has σ' ((c, .row .plain [.int .u64 r']) :: L) → K (.int .u64 r') σ') : Tri Try.prog 64 [ptr c] σ K := tri_in (by
  rw [s64]
  refine ldc_mk H 0 rfl rfl (tI_mk (ldc_mk H 0 rfl rfl (tI_mk ?_)))
  refine put1_mk H 0 rfl rfl (by simp) fun σ1 H1 => ?_
  refine ldc_mk H1 0 rfl rfl (tI_mk (ldc_mk H1 0 rfl rfl (tI_mk ?_)))
  refine put1_mk H1 0 rfl rfl (by simp) fun σ2 H2 => ?_
  refine ldc_mk H2 0 rfl rfl (tI_mk (ldc_mk H2 0 rfl rfl (tI_mk ?_)))
  refine put1_mk H2 0 rfl rfl (by simp) fun σ3 H3 => ?_
  exact ldc_mk H3 0 rfl rfl (tI_mk (hK _ _ H3)))
theorem c53 {a b : Nat} (hR : RowN j n L σ) (hd : SlN d j n) (hab : a ≤ b) (hb : b ≤ n) (hn : n < 512) (hK : ∀ σ', RowN j n L σ' → K unit0 σ') :
    Tri Try.prog 53 [.slice d n 1, i64 a, i64 b] σ K := tri_in (by
  rw [s53]
  have e1 : IntKind.wrap .i64 ((b : Int) - a) = ((b - a : Nat) : Int) := by rw [wrap64 (by omega) (by omega)]; omega
  rw [e1]
  refine bm_mk (fun h => ?_) (fun _ => hK _ hR)
  have h := of_decide_eq_true h
  obtain ⟨ys, hl, H⟩ := hR
  refine newAt_mk H fun c σ1 H1 => ?_
  refine put1_mk H1 0 rfl rfl (by simp) fun σ2 H2 => ?_
  refine c63 (l := b - a) (by omega) (by omega) fun m hm1 hm2 => ?_
  simp only [tI_int]
  generalize hl0 : b - a = l at *
  have e2 : IntKind.wrap .i64 ((a : Int) + IntKind.wrap .i64 (IntKind.wrap .i64 (Int.tdiv (l : Int) 4) * 2)) = ((a + l / 4 * 2 : Nat) : Int) := by
    have h0 : Int.tdiv (l : Int) 4 = ((l / 4 : Nat) : Int) := by rw [Int.tdiv_eq_ediv_of_nonneg (by omega)]; omega
    rw [h0, wrap64 (n := ((l / 4 : Nat) : Int)) (by omega) (by omega), wrap64 (n := ((l / 4 : Nat) : Int) * 2) (by omega) (by omega), wrap64 (by omega) (by omega)]
    omega
  have e3 : IntKind.wrap .i64 (((a + l / 4 * 2 : Nat) : Int) - 1) = ((a + l / 4 * 2 - 1 : Nat) : Int) := by rw [wrap64 (by omega) (by omega)]; omega
  rw [e2, e3]
  refine aloop (fun (x : Nat) rg σ => x ≤ a + l / 4 * 2 + 2 ∧ a < x ∧ (∃ r, RowN j n ((c, .row .plain [.int .u64 r]) :: L) σ) ∧
    rg = [(0, some (.slice d n 1)), (1, some (i64 a)), (6, some (i64 l)), (7, some (ptr c)), (8, some (.int .u64 m)), (9, some (i64 x))]) (fun x => a + l / 4 * 2 + 2 - x) ?_ (a := a + l / 4 * 2 - 1)
    ⟨by omega, by omega, ⟨_, ys, hl, rowL_swap H2⟩, rfl⟩
  rintro x rg σ3 X hX ⟨h1, h2, ⟨r, hR3⟩, rfl⟩
  have hR4 := hR3.drop
  rw [s53l, e2]
  have e4 : IntKind.wrap .i64 (((a + l / 4 * 2 : Nat) : Int) + 1) = ((a + l / 4 * 2 + 1 : Nat) : Int) := by rw [wrap64 (by omega) (by omega)]; omega
  rw [e4]
  refine bm_mk (fun h3 => ?_) (fun _ => hK _ hR4)
  have h3 := of_decide_eq_true h3
  obtain ⟨zs, hz, H3⟩ := hR3
  refine c64 (rowL_out H3) fun σ4 r' H4 => ?_
  simp only [tI_int]
  have hR5 : RowN j n ((c, .row .plain [.int .u64 r']) :: L) σ4 := ⟨zs, hz, rowL_swap H4⟩
  have e5 : IntKind.wrap .u64 ((m : Int) - 1) = ((m - 1 : Nat) : Int) := by rw [wrapU64 (by omega) (by omega)]; omega
  rw [e5]
  have ⟨i0, i1⟩ := iand_le (x := r') (y := ((m - 1 : Nat) : Int)) (by omega) (by omega)
  generalize iand .u64 r' ((m - 1 : Nat) : Int) = w at i0 i1
  obtain ⟨w, rfl⟩ := Int.eq_ofNat_of_zero_le i0
  have e6 : IntKind.wrap .i64 (w : Int) = (w : Int) := wrap64 (by omega) (by omega)
  have e9 : IntKind.wrap .i64 ((x : Int) + 1) = ((x + 1 : Nat) : Int) := by rw [wrap64 (by omega) (by omega)]; omega
  rw [e6, e9]
  refine bm_mk (fun g => ?_) (fun g => ?_)
  · have g := of_decide_eq_true g
    have e7 : IntKind.wrap .i64 ((w : Int) - l) = ((w - l : Nat) : Int) := by rw [wrap64 (by omega) (by omega)]; omega
    have e8 : IntKind.wrap .i64 ((a : Int) + ((w - l : Nat) : Int)) = ((a + (w - l) : Nat) : Int) := by rw [wrap64 (by omega) (by omega)]; omega
    rw [e7, e8]
    exact swU hR5 hd (by omega) (by omega) (by omega) (by omega) fun σ5 hR6 => hX (x + 1) _ _ (by omega) ⟨by omega, by omega, ⟨r', hR6⟩, rfl⟩
  · have g := of_decide_eq_false g
    have e8 : IntKind.wrap .i64 ((a : Int) + (w : Int)) = ((a + w : Nat) : Int) := by rw [wrap64 (by omega) (by omega)]; omega
    rw [e8]
    exact swU hR5 hd (by omega) (by omega) (by omega) (by omega) fun σ5 hR6 => hX (x + 1) _ _ (by omega) ⟨by omega, by omega, ⟨r', hR6⟩, rfl⟩)
end
end Go.AI
end
section
/- The sort: it comes to an end; no condition. -/
set_option maxRecDepth 10000
set_option linter.unusedVariables false
set_option linter.unusedSimpArgs false
namespace Go.AI
open Go.Proofs
theorem bmd_mk {p : Prop} [Decidable p] {A B : Prop} (h1 : p → A) (h2 : ¬ p → B) : bmatch (decide p) A B := bm_mk (fun h => h1 (of_decide_eq_true h)) (fun h => h2 (of_decide_eq_false h))
section
variable {σ : AS} {K : Value → AS → Prop} {j n : Nat} {L : List (Nat × AObj)} {d : Option Addr}
theorem c51I {a b : Int} (hR : RowN j n L σ) (hd : SlN d j n) (h0 : 0 ≤ a) (hab : a ≤ b) (hb : b ≤ n) (hn : n < 512) (hK : ∀ σ', RowN j n L σ' → K unit0 σ') : Tri Try.prog 51 [.slice d n 1, i64 a, i64 b] σ K := by
  obtain ⟨a, rfl⟩ := Int.eq_ofNat_of_zero_le h0
  obtain ⟨b, rfl⟩ := Int.eq_ofNat_of_zero_le (Int.le_trans h0 hab)
  exact c51 hR hd (by omega) (by omega) (by omega) hK
theorem c52I {a b : Int} (hR : RowN j n L σ) (hd : SlN d j n) (h0 : 0 ≤ a) (hab : a ≤ b) (hb : b ≤ n) (hn : n < 512) (hK : ∀ σ', RowN j n L σ' → K unit0 σ') : Tri Try.prog 52 [.slice d n 1, i64 a, i64 b] σ K := by
  obtain ⟨a, rfl⟩ := Int.eq_ofNat_of_zero_le h0
  obtain ⟨b, rfl⟩ := Int.eq_ofNat_of_zero_le (Int.le_trans h0 hab)
  exact c52 hR hd (by omega) (by omega) (by omega) hK
theorem c53I {a b : Int} (hR : RowN j n L σ) (hd : SlN d j n) (h0 : 0 ≤ a) (hab : a ≤ b) (hb : b ≤ n) (hn : n < 512) (hK : ∀ σ', RowN j n L σ' → K unit0 σ') : Tri Try.prog 53 [.slice d n 1, i64 a, i64 b] σ K := by
  obtain ⟨a, rfl⟩ := Int.eq_ofNat_of_zero_le h0
  obtain ⟨b, rfl⟩ := Int.eq_ofNat_of_zero_le (Int.le_trans h0 hab)
  exact c53 hR hd (by omega) (by omega) (by omega) hK
theorem c54I {a b : Int} (hR : RowN j n L σ) (hd : SlN d j n) (h0 : 0 ≤ a) (hab : a + 8 ≤ b) (hb : b ≤ n) (hn : n < 512) (hK : ∀ σ' (x h : Int), a ≤ x → x < b → RowN j n L σ' → K (.tuple ⟨[i64 x, i64 h]⟩) σ') : Tri Try.prog 54 [.slice d n 1, i64 a, i64 b] σ K := by
  obtain ⟨a, rfl⟩ := Int.eq_ofNat_of_zero_le h0
  obtain ⟨b, rfl⟩ := Int.eq_ofNat_of_zero_le (show 0 ≤ b by omega)
  exact c54 hR hd (by omega) (by omega) (by omega) fun σ' x h g1 g2 hR' => hK σ' x h (by omega) (by omega) hR'
theorem c55I {a b : Int} (hR : RowN j n L σ) (hd : SlN d j n) (h0 : 0 ≤ a) (hab : a < b) (hb : b ≤ n) (hn : n < 512) (hK : ∀ σ', RowN j n L σ' → K unit0 σ') : Tri Try.prog 55 [.slice d n 1, i64 a, i64 b] σ K := by
  obtain ⟨a, rfl⟩ := Int.eq_ofNat_of_zero_le h0
  obtain ⟨b, rfl⟩ := Int.eq_ofNat_of_zero_le (show 0 ≤ b by omega)
  exact c55 hR hd (by omega) (by omega) (by omega) hK
theorem c56I {a b : Int} (hR : RowN j n L σ) (hd : SlN d j n) (h0 : 0 ≤ a) (hab : a < b) (hb : b ≤ n) (hn : n < 512) (hK : ∀ σ' t, RowN j n L σ' → K (.bool t) σ') : Tri Try.prog 56 [.slice d n 1, i64 a, i64 b] σ K := by
  obtain ⟨a, rfl⟩ := Int.eq_ofNat_of_zero_le h0
  obtain ⟨b, rfl⟩ := Int.eq_ofNat_of_zero_le (show 0 ≤ b by omega)
  exact c56 hR hd (by omega) (by omega) (by omega) hK
theorem c58I {a b p : Int} (hR : RowN j n L σ) (hd : SlN d j n) (h0 : 0 ≤ a) (ha : a ≤ p) (hp : p < b) (hb : b ≤ n) (hn : n < 512) (hK : ∀ σ' (x : Int), a < x → x ≤ b → RowN j n L σ' → K (i64 x) σ') : Tri Try.prog 58 [.slice d n 1, i64 a, i64 b, i64 p] σ K := by
  obtain ⟨a, rfl⟩ := Int.eq_ofNat_of_zero_le h0
  obtain ⟨b, rfl⟩ := Int.eq_ofNat_of_zero_le (show 0 ≤ b by omega)
  obtain ⟨p, rfl⟩ := Int.eq_ofNat_of_zero_le (show 0 ≤ p by omega)
  exact c58 hR hd (by omega) (by omega) (by omega) (by omega) (by omega) fun σ' x g1 g2 hR' => hK σ' x (by omega) (by omega) hR'
theorem c59I {a b p : Int} (hR : RowN j n L σ) (hd : SlN d j n) (h0 : 0 ≤ a) (ha : a ≤ p) (hp : p < b) (hb : b ≤ n) (hn : n < 512) (hK : ∀ σ' (x : Int) t, a ≤ x → x < b → RowN j n L σ' → K (.tuple ⟨[i64 x, .bool t]⟩) σ') : Tri Try.prog 59 [.slice d n 1, i64 a, i64 b, i64 p] σ K := by
  obtain ⟨a, rfl⟩ := Int.eq_ofNat_of_zero_le h0
  obtain ⟨b, rfl⟩ := Int.eq_ofNat_of_zero_le (show 0 ≤ b by omega)
  obtain ⟨p, rfl⟩ := Int.eq_ofNat_of_zero_le (show 0 ≤ p by omega)
  exact c59 hR hd (by omega) (by omega) (by omega) (by omega) (by omega) fun σ' x t g1 g2 hR' => hK σ' x t (by omega) (by omega) hR'
def Pdq (j n : Nat) (L : List (Nat × AObj)) (d : Option Addr) (m : Nat) : Prop :=
  ∀ {σ : AS} {K : Value → AS → Prop} {a b l : Int}, (b - a).toNat < m → RowN j n L σ → SlN d j n → 0 ≤ a → a ≤ b → b ≤ n → n < 512 → (∀ σ', RowN j n L σ' → K unit0 σ') → Tri Try.prog 49 [.slice d n 1, i64 a, i64 b, i64 l] σ K
set_option maxHeartbeats 4000000 in
theorem c49_step {m : Nat} (ih : Pdq j n L d m) : Pdq j n L d (m + 1) := by
    intro σ K a0 b0 l0 hm hR hd ha0 hab0 hb0 hn hK
    refine tri_in ?_
    rw [s49]
    refine aloop (fun (q : Int × Int × Int × Bool × Bool) rg σ => 0 ≤ q.1 ∧ q.1 ≤ q.2.1 ∧ q.2.1 ≤ n ∧ (q.2.1 - q.1).toNat < m + 1 ∧ RowN j n L σ ∧
      rg = [(0, some (.slice d n 1)), (1, some (i64 q.1)), (2, some (i64 q.2.1)), (3, some (i64 q.2.2.1)), (8, some (.bool q.2.2.2.1)), (9, some (.bool q.2.2.2.2))]) (fun q => (q.2.1 - q.1).toNat) ?_ (a := (a0, b0, l0, true, true)) ⟨ha0, hab0, hb0, hm, hR, rfl⟩
    clear hm hR ha0 hab0 hb0 a0 b0 l0 σ
    rintro ⟨a, b, l, u, v⟩ rg σ X hX ⟨h0, hab, hb, hm, hR, rfl⟩
    rw [s49l]
    simp only at h0 hab hb hm hX ⊢
    have hX' : ∀ {σ' : AS} {a' b' l' : Int} {u' v' : Bool}, (b' - a').toNat < (b - a).toNat → 0 ≤ a' → a' ≤ b' → b' ≤ n → RowN j n L σ' →
        X [(0, some (.slice d n 1)), (1, some (i64 a')), (2, some (i64 b')), (3, some (i64 l')), (8, some (.bool u')), (9, some (.bool v'))] σ' :=
      fun h1 h2 h3 h4 h5 => hX (_, _, _, _, _) _ _ h1 ⟨h2, h3, h4, by simp only; omega, h5, rfl⟩
    clear hX
    rw [wrap64 (n := b - a) (by omega) (by omega), wrap64 (n := b - 1) (by omega) (by omega), wrap64 (n := a - 1) (by omega) (by omega)]
    refine bmd_mk (fun h => c51I hR hd h0 hab hb hn fun σ' hR' => hK _ hR') (fun h => ?_)
    refine bm_mk (fun _ => c52I hR hd h0 hab hb hn fun σ' hR' => hK _ hR') (fun _ => ?_)
    have t59 : ∀ {σ : AS} {p l' : Int} {S : Value → AS → Prop}, a ≤ p → p < b → RowN j n L σ → (∀ σ' (x : Int) t, a ≤ x → x < b → RowN j n L σ' → S (.tuple ⟨[i64 x, .bool t]⟩) σ') → Tri Try.prog 59 [.slice d n 1, i64 a, i64 b, i64 p] σ S :=
      fun h1 h2 h3 h4 => c59I h3 hd h0 h1 h2 hb hn h4
    repeat' (first
      | (refine bmd_mk (fun h => ?_) (fun h => ?_))
      | (refine bm_mk (fun h => ?_) (fun h => ?_))
      | (refine c53I (by assumption) hd h0 hab hb hn fun _ _ => ?_)
      | (refine c54I (by assumption) hd h0 (by omega) hb hn fun _ _ _ _ _ _ => ?_
         simp only [tTup_tup, pSome_some, List.getElem?_cons_zero, List.getElem?_cons_succ, tI_int, tB_bool]
         rw [wrap64 (n := _ - a) (by omega) (by omega), wrap64 (n := b - 1 - _) (by omega) (by omega)])
      | (refine c55I (by assumption) hd h0 (by omega) hb hn fun _ _ => ?_)
      | (refine c56I (by assumption) hd h0 (by omega) hb hn fun _ _ _ => ?_; simp only [tB_bool])
      | (refine ltU (by assumption) hd (by omega) (by omega) (by omega) (by omega) fun _ => ?_)
      | (refine c58I (by assumption) hd h0 (by omega) (by omega) hb hn fun _ _ _ _ _ => ?_; simp only [tI_int])
      | (refine c59I (by assumption) hd h0 (by omega) (by omega) hb hn fun _ x _ _ _ _ => ?_
         simp only [tTup_tup, pSome_some, List.getElem?_cons_zero, List.getElem?_cons_succ, tI_int, tB_bool]
         rw [wrap64 (n := x - a) (by omega) (by omega), wrap64 (n := b - x) (by omega) (by omega), wrap64 (n := x + 1) (by omega) (by omega)])
      | (refine ih (by omega) (by assumption) hd (by omega) (by omega) (by omega) hn fun _ _ => ?_)
      | (exact hX' (by omega) (by omega) (by omega) (by omega) (by assumption))
      | (exact hK _ (by assumption)))
theorem c49 : ∀ m, Pdq j n L d m := by
  intro m
  induction m with
  | zero => exact fun h => absurd h (Nat.not_lt_zero _)
  | succ m ih => exact c49_step ih
end
end Go.AI
end
section
/- Whether a list may be an alphabet: an answer comes, all else stays; no condition. -/
set_option maxRecDepth 10000
set_option linter.unusedVariables false
set_option linter.unusedSimpArgs false
namespace Go.AI
open Go.Proofs
theorem run50z : callN Try.prog hints txE 60 50 [.int .u64 0] AS.nil (fun v _ => v = .int .i64 0) = (Value.int .i64 0 = .int .i64 0) := by kernel_rfl
section
variable {σ : AS} {K : Value → AS → Prop} {j n : Nat} {L : List (Nat × AObj)} {d : Option Addr}
theorem c50z (hK : K (i64 0) σ) : Tri Try.prog 50 [.int .u64 0] σ K :=
  tri_pure (R := fun v => v = i64 0) rfl (tri_hard (by rw [run50z])) (fun v h => by subst h; rfl) (fun v h => by subst h; exact hK)
theorem c46 (hR : RowN j n L σ) (hd : SlN d j n) (hn : n < 512) (hK : ∀ σ', RowN j n L σ' → K unit0 σ') : Tri Try.prog 46 [.slice d n 1] σ K := tri_in (by
  rw [s46, wrapU64 (by omega) (by omega)]
  have go : ∀ l : Int, Tri Try.prog 49 [.slice d n 1, i64 0, i64 n, i64 l] σ fun _ σ' => K unit0 σ' := fun l =>
    c49 _ (Nat.lt_succ_self _) hR hd (Int.le_refl _) (by omega) (Int.le_refl _) hn hK
  by_cases h0 : n = 0
  · subst h0
    refine c50z ?_
    simp only [tI_int]
    exact go 0
  · refine c50 (by omega) hn fun t _ _ _ => ?_
    simp only [tI_int]
    exact go t)
theorem clU {k : Nat} {G : AS → Prop} (hR : RowN j n L σ) (hd : SlN d j n) (hk : k ≤ n) (hG : ∀ σ', RowN j n L σ' → G σ') : clearTo σ (d.map fun x => Addr.add x (Int.toNat (k : Int) * szOf Try.prog 22)) (n - k) [u32 0] G := by
  by_cases h : n - k = 0
  · rw [h]
    exact hG _ hR
  · obtain ⟨q, hq⟩ : ∃ q, n - k = q + 1 := ⟨n - k - 1, by omega⟩
    obtain ⟨ys, hl, H⟩ := hR
    obtain rfl := hd (by omega)
    have hz : szOf Try.prog 22 = 1 := by kernel_rfl
    have hne : ys ≠ [] := fun h => by rw [h] at hl; simp at hl; omega
    rw [rowL_ne hne] at H
    rw [hq]
    unfold clearTo
    simp only [Option.map, pSome_some, hz, add_none, Int.toNat_natCast, Nat.mul_one, Nat.zero_add]
    have ef : (List.replicate (q + 1) [u32 0]).flatten = cellsU (List.replicate (q + 1) 0) := by
      induction q + 1 with
      | zero => rfl
      | succ q ih => rw [List.replicate_succ, List.replicate_succ, List.flatten_cons, ih]; rfl
    rw [ef]
    refine puts_mk H 0 rfl rfl (by simp; omega) fun σ' H' => hG σ' ⟨ys.take k ++ List.replicate (q + 1) 0 ++ ys.drop (k + (q + 1)), by simp; omega, ?_⟩
    rw [rowL_ne (by simp)]
    simpa using H'
theorem c39 (hR : RowN j n L σ) (hd : SlN d j n) (hn : n < 512) (hK : ∀ σ' a (q : Nat), RowN j n L σ' → K (.slice a q 1) σ') : Tri Try.prog 39 [.slice d n 1] σ K := tri_in (by
  rw [s39]
  refine bmd_mk (fun _ => hK _ _ _ hR) (fun _ => ?_)
  refine aloop (fun (k : Nat) rg σ => 1 ≤ k ∧ RowN j n L σ ∧ rg = [(0, some (.slice d n 1)), (3, some (i64 k))]) (fun k => n - k) ?_ (a := 1) ⟨by omega, hR, rfl⟩
  rintro k rg σ1 X hX ⟨hk, hR1, rfl⟩
  rw [s39a]
  refine bmd_mk (fun h => ?_) (fun _ => hK _ _ _ hR1)
  have e1 : IntKind.wrap .i64 ((k : Int) - 1) = ((k - 1 : Nat) : Int) := by rw [wrap64 (by omega) (by omega)]; omega
  have e2 : IntKind.wrap .i64 ((k : Int) + 1) = ((k + 1 : Nat) : Int) := by rw [wrap64 (by omega) (by omega)]; omega
  rw [e1, e2]
  refine rdU hR1 hd (by omega) (by omega) fun x => rdU hR1 hd (by omega) (by omega) fun y => bm_mk (fun _ => ?_) (fun _ => hX (k + 1) _ _ (by omega) ⟨by omega, hR1, rfl⟩)
  refine req_mk (by omega) (req_mk (by omega) (req_mk (by omega) ?_))
  have hz : szOf Try.prog 22 = 1 := by kernel_rfl
  obtain rfl := hd (by omega)
  have e3 : ((n : Int) - k).toNat = n - k := by omega
  rw [e3]
  refine aloop (fun (p : Nat × Nat) rg σ => 1 ≤ p.1 ∧ p.2 ≤ n ∧ p.1 ≤ k + p.2 ∧ 1 ≤ p.2 ∧ p.1 ≤ n ∧ RowN j n L σ ∧
    rg = [(0, some (.slice (some ⟨j, 0, none⟩) n 1)), (3, some (i64 p.1)), (4, some (.slice ((some (⟨j, 0, none⟩ : Addr)).map fun x => Addr.add x (Int.toNat (k : Int) * szOf Try.prog 22)) (n - k) 1)), (5, some (i64 p.2))]) (fun p => n - p.2) ?_ (a := (k, 1))
    ⟨hk, by simp only; omega, by simp only; omega, by simp only; omega, by simp only; omega, hR1, rfl⟩
  rintro ⟨p, e⟩ rg σ2 Y hY ⟨h1, h2, h3, h4, h5, hR2, rfl⟩
  rw [s39b]
  simp only at h1 h2 h3 h4 h5 ⊢
  refine bmd_mk (fun g => ?_) (fun g => ?_)
  · have e5 : IntKind.wrap .i64 ((e : Int) - 1) = ((e - 1 : Nat) : Int) := by rw [wrap64 (by omega) (by omega)]; omega
    have e6 : IntKind.wrap .i64 ((e : Int) + 1) = ((e + 1 : Nat) : Int) := by rw [wrap64 (by omega) (by omega)]; omega
    have e7 : IntKind.wrap .i64 ((p : Int) + 1) = ((p + 1 : Nat) : Int) := by rw [wrap64 (by omega) (by omega)]; omega
    rw [e5, e6, e7]
    have rd2 : ∀ {e : Nat} {G : Int → Prop}, e < n - k → (∀ v, G v) → req (0 ≤ (e : Int)) (req ((e : Int) < ((n - k : Nat) : Int)) (pSome ((some (⟨j, 0, none⟩ : Addr)).map fun x => Addr.add x (Int.toNat (k : Int) * szOf Try.prog 22)) fun a => ldc σ2 (Addr.add a (Int.toNat (e : Int) * szOf Try.prog 22)) fun v => tI .u32 v G)) := by
      intro e G he hG
      refine req_mk (by omega) (req_mk (by omega) ?_)
      obtain ⟨ys, hl, H⟩ := hR2
      obtain ⟨v, hv⟩ : ∃ v, ys[k + e]? = some v := ⟨ys[k + e]'(by omega), by simp⟩
      have hne : ys ≠ [] := fun h => by rw [h] at hl; simp at hl; omega
      rw [rowL_ne hne] at H
      simp only [Option.map, pSome_some, hz, add_none, Nat.mul_one, Nat.zero_add, Int.toNat_natCast]
      exact ldc_mk H 0 rfl (cellsU_get hv) (tI_mk (hG v))
    refine rd2 (by omega) fun x => rd2 (by omega) fun y => bm_mk (fun _ => ?_) (fun _ => ?_)
    · refine rd2 (by omega) fun z => ?_
      exact wrU hR2 hd (by omega) (by omega) fun σ3 hR3 => hY (p + 1, e + 1) _ _ (by simp only; omega) ⟨by simp only; omega, by simp only; omega, by simp only; omega, by simp only; omega, by simp only; omega, hR3, rfl⟩
    · exact hY (p, e + 1) _ _ (by simp only; omega) ⟨h1, by simp only; omega, by simp only; omega, by simp only; omega, h5, hR2, rfl⟩
  · refine req_mk (by omega) (req_mk (by omega) (req_mk (by omega) ?_))
    have e8 : ((n : Int) - p).toNat = n - p := by omega
    rw [e8]
    refine clU hR2 hd h5 fun σ3 hR3 => req_mk (by omega) (req_mk (by omega) ?_)
    exact hK _ _ _ hR3)
theorem c22 {a : Option Addr} {xs : List Int} (H : Has σ L) (hin : InU a xs L) (hl : xs.length ≤ 300) (hK : ∀ σ' (e : Int) new, 0 ≤ e → e ≤ 6 → Has σ' (new ++ L) → K (i64 e) σ') : Tri Try.prog 22 [.slice a xs.length 1] σ K := tri_in (by
  rw [s22]
  refine bmd_mk (fun h => by omega) (fun _ => ?_)
  refine tri_in ?_
  rw [s38]
  refine newAt_mk H fun c σ1 H1 => ?_
  refine tri_in ?_
  rw [s37]
  refine tri_in ?_
  rw [s45]
  refine as_tri ?_
  unfold gAS
  simp only
  refine ldc_mk H1 0 rfl rfl ?_
  simp only
  have tail : ∀ {σ2 : AS} {s : Option Addr} {j e : Nat}, nilOr s e 1 = true → SlN s j xs.length → RowN j xs.length ((c, .row .plain [.slice a xs.length 1]) :: L) σ2 →
      tL 1 (.slice s xs.length e) fun s2 => (fun v0 σ1 => tL 1 v0 fun s2 => Tri Try.prog 46 [.slice s2.a s2.n 1] σ1 fun v3 σ4 => (fun v2 σ3 => tL 1 v2 fun s4 => Tri Try.prog 39 [.slice s4.a s4.n 1] σ3 fun v5 σ6 => tL 1 v5 fun s7 => bmatch (decide ((s7.n : Int) < (xs.length : Int))) (K (i64 6) σ6) (K (i64 0) σ6)) (.slice s2.a s2.n 1) σ4) (.slice s2.a s2.n 1) σ2 := by
    intro σ2 s j e hno hs hR
    refine tL_ok hno ?_
    simp only
    refine tL_mk ?_
    refine c46 (n := xs.length) hR hs (by omega) fun σ3 hR3 => ?_
    simp only
    refine tL_mk ?_
    refine c39 (n := xs.length) hR3 hs (by omega) fun σ4 a' q hR4 => ?_
    refine tL_mk ?_
    obtain ⟨ys, hy, H4⟩ := hR4.drop
    obtain ⟨P, hP⟩ := rowL_app j ys
    rw [hP] at H4
    exact bmd_mk (fun _ => hK _ _ P (by omega) (by omega) H4) (fun _ => hK _ _ P (by omega) (by omega) H4)
  cases hx : xs with
  | nil =>
    subst hx
    simp only [List.length_nil]
    have H2 : RowN 0 0 ((c, .row .plain [.slice a 0 1]) :: L) σ1 := ⟨[], rfl, H1⟩
    exact tail (s := none) (e := 0) rfl (fun h => absurd rfl h) H2
  | cons x t =>
    rw [← hx]
    obtain ⟨r, k, rfl, hr⟩ := hin.resolve_left (by rw [hx]; simp)
    obtain ⟨q, hq⟩ := List.getElem?_of_mem (show (r, AObj.row k (cellsU xs)) ∈ (c, AObj.row .plain [.slice (some ⟨r, 0, none⟩) xs.length 1]) :: L from List.mem_cons_of_mem _ hr)
    have hlen : xs.length = t.length + 1 := by rw [hx]; rfl
    rw [hlen]
    simp only [pSome_some]
    refine req_mk trivial (lds_mk H1 q hq (by simp; omega) ?_)
    have et : ((cellsU xs).drop 0).take (t.length + 1) = cellsU xs := by rw [List.drop_zero]; exact List.take_of_length_le (by simp; omega)
    rw [et]
    refine chk_mk (by simp [List.all_map, isU32]) (req_mk (by omega) ?_)
    rw [← hlen]
    refine newAt_mk H1 fun j σ2 H2 => ?_
    exact tail (j := j) (e := 1) rfl (fun _ => rfl) ⟨xs, rfl, by rw [rowL_ne (by rw [hx]; simp)]; exact H2⟩)
end
end Go.AI
end
