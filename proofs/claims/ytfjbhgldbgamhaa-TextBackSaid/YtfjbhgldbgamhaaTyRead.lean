/- Lemmas of the abstract condition ahead of code (a part of the library that the claim's proof stands on); they hold with no condition but those that each names. -/
import Derived.Test.YtfjbhgldbgamhaaTyTable
section
/- What was packed is read as it was: in plain Lean. -/
set_option maxRecDepth 10000
set_option linter.unusedVariables false
set_option linter.unusedSimpArgs false
namespace Go.AI
open Go.Proofs
/-- These bytes lie at a place. -/
def AtB (bs : List Int) (x : Nat) (l : List Int) : Prop := ∃ A B, bs = A ++ (l ++ B) ∧ A.length = x
theorem AtB.fst {bs l r : List Int} {x : Nat} (h : AtB bs x (l ++ r)) : AtB bs x l := by
  obtain ⟨A, B, rfl, h⟩ := h
  exact ⟨A, r ++ B, by simp, h⟩
theorem AtB.snd {bs l r : List Int} {x y : Nat} (h : AtB bs x (l ++ r)) (hy : y = x + l.length) : AtB bs y r := by
  obtain ⟨A, B, rfl, h⟩ := h
  exact ⟨A ++ l, B, by simp, by simp [h, hy]⟩
theorem rd_of {bs l : List Int} {x n : Nat} (h : AtB bs x l) (hn : n ≤ l.length) : rd bs x n = some (beV (l.take n)) := by
  obtain ⟨A, B, rfl, h⟩ := h
  unfold rd
  rw [if_pos (by simp; omega), Int.toNat_natCast, ← h, List.drop_left, List.take_append_of_le_length hn]
theorem rd_one {bs l : List Int} {x : Nat} {c : Int} (h : AtB bs x (c :: l)) : rd bs x 1 = some c := by
  rw [rd_of h (by simp)]
  simp [beV]
theorem rd_four {bs l : List Int} {x : Nat} {v : Int} (h : AtB bs x (by4 v)) (h0 : 0 ≤ v) (h1 : v ≤ 4294967295) : rd bs x 4 = some v := by
  rw [rd_of h (by simp [by4])]
  have : (by4 v).take 4 = by4 v := rfl
  rw [this, beV_by4 h0 h1]
theorem na_at {node : Nat} {y : Int} {b : Nat} {d : Int} (hn : node ≤ 2000000000) (h0 : 0 ≤ y) (h1 : y < 256) (hb : b < 8) (hd : y / 2 ^ b % 2 = d) : na node y b = ((node + 1 + 4 * d.toNat : Nat) : Int) := by
  have e1 : ishr .u32 y (b : Int) = y / 2 ^ b := by
    unfold ishr
    have hb32 : IntKind.u32.bits = 32 := rfl
    rw [Int.toNat_natCast, hb32, Nat.min_eq_left (by omega), Int.fdiv_eq_ediv_of_nonneg _ (Int.le_of_lt (Int.pow_pos (by decide)))]
  have e2 : iand .u32 (y / 2 ^ b) 1 = d := by
    obtain ⟨y, rfl⟩ := Int.eq_ofNat_of_zero_le h0
    have e3 : ((y : Int) / 2 ^ b) = ((y / 2 ^ b : Nat) : Int) := by simp
    have hdd : d = ((y / 2 ^ b % 2 : Nat) : Int) := by rw [← hd]; simp
    rw [e3, hdd]
    have hle : y / 2 ^ b < 256 := Nat.lt_of_le_of_lt (Nat.div_le_self _ _) (by omega)
    generalize y / 2 ^ b = z at hle
    unfold iand
    have hb32 : IntKind.u32.bits = 32 := rfl
    have e1 : (1 : Int) = ((1 : Nat) : Int) := rfl
    rw [e1, BitVec.ofInt_natCast, BitVec.ofInt_natCast, BitVec.toNat_and, BitVec.toNat_ofNat, BitVec.toNat_ofNat, hb32, Nat.mod_eq_of_lt (a := z) (by omega), Nat.mod_eq_of_lt (a := 1) (by omega), Nat.and_one_is_mod]
    exact w32_eq (by omega) (by omega)
  have hd01 : 0 ≤ d ∧ d ≤ 1 := by omega
  unfold na
  rw [e1, e2, w32_eq (n := (node : Int) + 1) (by omega) (by omega), w32_eq (n := 4 * d) (by omega) (by omega), w32_eq (by omega) (by omega)]
  omega
/-- The bits from a byte on. -/
def BitsAt (bs : List Int) (x0 : Nat) (w : List Int) : Prop := ∀ (q : Nat) (b : Int), w[q]? = some b → (b = 0 ∨ b = 1) ∧ ∃ y, rd bs ((x0 + q / 8 : Nat) : Int) 1 = some y ∧ 0 ≤ y ∧ y < 256 ∧ y / 2 ^ (q % 8) % 2 = b
theorem pathB_log : ∀ (k n i : Nat), n ≤ 2 ^ k → (pathB n i).length ≤ k
  | 0, n, i, h => by rw [pathB, if_pos (by simpa using h)]; simp
  | k + 1, n, i, h => by
    have hp : 2 ^ (k + 1) = 2 * 2 ^ k := by rw [Nat.pow_succ, Nat.mul_comm]
    rw [pathB]
    split
    · simp
    · split
      · have := pathB_log k (n / 2) i (by omega)
        simp only [List.length_cons]; omega
      · have := pathB_log k (n - n / 2) (i - n / 2) (by omega)
        simp only [List.length_cons]; omega
theorem step_pos {x0 q : Nat} (h : x0 + q / 8 ≤ 4000000000) : (if ((q % 8 : Nat) : Int) + 1 = 8 then w32 (((x0 + q / 8 : Nat) : Int) + 1) else ((x0 + q / 8 : Nat) : Int)) = ((x0 + (q + 1) / 8 : Nat) : Int) ∧ (if ((q % 8 : Nat) : Int) + 1 = 8 then (0 : Int) else ((q % 8 : Nat) : Int) + 1) = (((q + 1) % 8 : Nat) : Int) := by
  by_cases h8 : q % 8 = 7
  · rw [if_pos (by omega), if_pos (by omega), w32_eq (by omega) (by omega)]
    constructor <;> omega
  · rw [if_neg (by omega), if_neg (by omega)]
    constructor <;> omega
/-- One bit down a branch. -/
theorem walk_branch {bs x y w : List Int} {fuel node x0 q : Nat} {d : Int} (ha : AtB bs node (branchB node x y)) (hn : node + 9 + x.length ≤ 1000000000) (hw : BitsAt bs x0 w) (hq : w[q]? = some d) (hx0 : x0 + q / 8 ≤ 4000000000) :
    walkL bs (fuel + 1) node ((x0 + q / 8 : Nat) : Int) ((q % 8 : Nat) : Int) = walkL bs fuel (if d = 0 then ((node + 9 : Nat) : Int) else ((node + 9 + x.length : Nat) : Int)) ((x0 + (q + 1) / 8 : Nat) : Int) (((q + 1) % 8 : Nat) : Int) := by
  obtain ⟨hd, y1, r1, g0, g1, hb⟩ := hw q d hq
  unfold branchB at ha
  have a1 : AtB bs node [0] := by
    have : AtB bs node ([0] ++ (by4 ((node : Int) + 9) ++ by4 ((node : Int) + 9 + x.length) ++ x ++ y)) := by simpa using ha
    exact this.fst
  have a2 : AtB bs (node + 1) (by4 ((node : Int) + 9) ++ (by4 ((node : Int) + 9 + x.length) ++ x ++ y)) := by
    have : AtB bs node ([0] ++ (by4 ((node : Int) + 9) ++ (by4 ((node : Int) + 9 + x.length) ++ x ++ y))) := by simpa using ha
    exact this.snd rfl
  have a3 : AtB bs (node + 5) (by4 ((node : Int) + 9 + x.length)) := by
    have := a2.snd (y := node + 5) (by simp [by4])
    rw [List.append_assoc] at this
    exact this.fst
  rw [walkL, rd_one a1]
  simp only [ne_eq, not_true_eq_false, if_false, r1]
  have hna := na_at (node := node) (b := q % 8) (by omega) g0 g1 (by omega) hb
  rw [hna, (step_pos hx0).1, (step_pos hx0).2]
  rcases hd with rfl | rfl
  · have e : node + 1 + 4 * Int.toNat 0 = node + 1 := rfl
    rw [e, rd_four (l := []) a2.fst (by omega) (by omega), if_pos rfl]
    rfl
  · have e : node + 1 + 4 * Int.toNat 1 = node + 5 := rfl
    rw [e, rd_four (l := []) a3 (by omega) (by omega), if_neg (by decide)]
    rfl
theorem walk_path {bs w : List Int} {x0 : Nat} (hw : BitsAt bs x0 w) (hx0 : x0 + w.length ≤ 4000000000) : ∀ (n f fuel node : Nat) (l : List Int) (i q : Nat), l.length = n → n ≤ f → i < n → (pathB n i).length ≤ fuel → node + 14 * n + 20 ≤ 1000000000 → AtB bs node (nodeB f node l) →
    (∀ (k : Nat) (b : Int), (pathB n i)[k]? = some b → w[q + k]? = some b) → ∃ (leaf : Nat) (c : Int), l[i]? = some c ∧ walkL bs fuel node ((x0 + q / 8 : Nat) : Int) ((q % 8 : Nat) : Int) = .ok ((leaf : Int), ((x0 + (q + (pathB n i).length) / 8 : Nat) : Int), (((q + (pathB n i).length) % 8 : Nat) : Int)) ∧ AtB bs leaf (leafB c) ∧ leaf ≤ 1000000000 := by
  intro n
  induction n using Nat.strongRecOn with
  | _ n ih =>
    intro f fuel node l i q hl hf hi hfu hnode ha hp
    obtain ⟨f, rfl⟩ : ∃ g, f = g + 1 := ⟨f - 1, by omega⟩
    by_cases h1 : n = 1
    · subst h1
      obtain ⟨c, rfl⟩ : ∃ c, l = [c] := by
        match l, hl with
        | [c], _ => exact ⟨c, rfl⟩
      obtain rfl : i = 0 := by omega
      have e : pathB 1 0 = [] := by rw [pathB, if_pos (by omega)]
      rw [e]
      have hk : ∃ kd, rd bs node 1 = some kd ∧ kd ≠ 0 := by
        have ha : AtB bs node (leafB c) := ha
        unfold leafB at ha
        split at ha
        · exact ⟨2, rd_one ha, by decide⟩
        · exact ⟨4, rd_one ha, by decide⟩
      obtain ⟨kd, k1, k2⟩ := hk
      exact ⟨node, c, rfl, by rw [walkL_leaf k1 k2]; rfl, ha, by omega⟩
    · have h2 : 2 ≤ l.length := by omega
      rw [nodeB_two h2, hl] at ha
      rw [pathB, if_neg (by omega)] at hfu hp ⊢
      have len1 := nodeB_len f ((node : Int) + 9) (l.take (n / 2)) (by rw [List.length_take]; omega)
      have z1 : (l.take (n / 2)).length = n / 2 := by rw [List.length_take]; omega
      have z2 : (l.drop (n / 2)).length = n - n / 2 := by rw [List.length_drop]; omega
      have lb : (nodeB f ((node : Int) + 9) (l.take (n / 2))).length + 9 ≤ 14 * (n / 2) := by
        rcases len1.2 with ⟨_, g⟩ | ⟨_, g⟩
        · rw [g] at z1; simp at z1; omega
        · omega
      generalize hX : nodeB f ((node : Int) + 9) (l.take (n / 2)) = X at ha lb
      have ha' := ha
      unfold branchB at ha
      have aX : AtB bs (node + 9) X := by
        have : AtB bs node ((0 :: by4 ((node : Int) + 9) ++ by4 ((node : Int) + 9 + X.length)) ++ (X ++ nodeB f ((node : Int) + 9 + X.length) (l.drop (n / 2)))) := by simpa using ha
        exact (this.snd (y := node + 9) (by simp [by4])).fst
      have aY : AtB bs (node + 9 + X.length) (nodeB f ((node : Int) + 9 + X.length) (l.drop (n / 2))) := ha.snd (by simp [by4]; omega)
      by_cases hlt : i < n / 2
      · rw [if_pos hlt] at hfu hp ⊢
        obtain ⟨fuel, rfl⟩ : ∃ g, fuel = g + 1 := ⟨fuel - 1, by simp at hfu; omega⟩
        have hq : w[q]? = some 0 := hp 0 0 rfl
        have hql : q < w.length := (List.getElem?_eq_some_iff.1 hq).1
        have e1 : ((node : Int) + 9) = ((node + 9 : Nat) : Int) := by omega
        obtain ⟨leaf, c, r1, r2, r3, r4⟩ := ih (n / 2) (by omega) f fuel (node + 9) (l.take (n / 2)) i (q + 1) z1 (by omega) hlt (by simp at hfu; omega) (by omega) (by rw [← e1, hX]; exact aX) (fun k b hb => by
          have := hp (k + 1) b (by simpa using hb)
          rw [← this]; congr 1; omega)
        refine ⟨leaf, c, ?_, ?_, r3, r4⟩
        · rw [List.getElem?_take, if_pos hlt] at r1
          exact r1
        · rw [walk_branch ha' (by omega) hw hq (by omega), if_pos rfl, r2, List.length_cons]
          have e3 : q + 1 + (pathB (n / 2) i).length = q + ((pathB (n / 2) i).length + 1) := by omega
          rw [e3]
      · rw [if_neg hlt] at hfu hp ⊢
        obtain ⟨fuel, rfl⟩ : ∃ g, fuel = g + 1 := ⟨fuel - 1, by simp at hfu; omega⟩
        have hq : w[q]? = some 1 := hp 0 1 rfl
        have hql : q < w.length := (List.getElem?_eq_some_iff.1 hq).1
        have e1 : ((node : Int) + 9 + (X.length : Int)) = ((node + 9 + X.length : Nat) : Int) := by omega
        obtain ⟨leaf, c, r1, r2, r3, r4⟩ := ih (n - n / 2) (by omega) f fuel (node + 9 + X.length) (l.drop (n / 2)) (i - n / 2) (q + 1) z2 (by omega) (by omega) (by simp at hfu; omega) (by omega) (by rw [← e1]; exact aY) (fun k b hb => by
          have := hp (k + 1) b (by simpa using hb)
          rw [← this]; congr 1; omega)
        refine ⟨leaf, c, ?_, ?_, r3, r4⟩
        · rw [List.getElem?_drop] at r1
          rw [← r1]
          congr 1
          omega
        · rw [walk_branch ha' (by omega) hw hq (by omega), if_neg (by decide), r2, List.length_cons]
          have e3 : q + 1 + (pathB (n - n / 2) (i - n / 2)).length = q + ((pathB (n - n / 2) (i - n / 2)).length + 1) := by omega
          rw [e3]
/-- A table of these lies at a place. -/
def TableAt (bs : List Int) (t : Nat) (xs : List Int) : Prop := AtB bs (t + 8) (by4 ((t : Int) + 12) ++ rootB t xs)
theorem walk_root {bs xs w : List Int} {t x0 q : Nat} {d : Int} (hT : TableAt bs t xs) (ht0 : 0 < t) (ht : t ≤ 1000000) (hw : BitsAt bs x0 w) (hq : w[q]? = some d) (hx0 : x0 + q / 8 ≤ 4000000000) :
    walkS bs t ((x0 + q / 8 : Nat) : Int) ((q % 8 : Nat) : Int) = walkL bs 255 (if d = 0 then ((t + 21 : Nat) : Int) else ((t + 22 : Nat) : Int)) ((x0 + (q + 1) / 8 : Nat) : Int) (((q + 1) % 8 : Nat) : Int) := by
  unfold walkS
  rw [if_neg (by omega), if_neg (by omega), w32_eq (by omega) (by omega)]
  have e8 : ((t : Int) + 8) = ((t + 8 : Nat) : Int) := by omega
  rw [e8, rd_four (l := []) hT.fst (by omega) (by omega)]
  have e12 : ((t : Int) + 12) = ((t + 12 : Nat) : Int) := by omega
  have hr : AtB bs (t + 12) (rootB t xs) := hT.snd (by simp [by4])
  unfold rootB at hr
  simp only
  rw [e12] at hr ⊢
  rw [walk_branch hr (by simp; omega) hw hq hx0]
  rfl
theorem nx_end {bs xs w : List Int} {t x0 q : Nat} (hT : TableAt bs t xs) (ht0 : 0 < t) (ht : t ≤ 1000000) (hw : BitsAt bs x0 w) (hq : w[q]? = some 0) (hx0 : x0 + q / 8 ≤ 4000000000) :
    nxA bs t ⟨225, ((x0 + q / 8 : Nat) : Int), ((q % 8 : Nat) : Int)⟩ = .ok ((1, []), ⟨225, ((x0 + (q + 1) / 8 : Nat) : Int), (((q + 1) % 8 : Nat) : Int)⟩) := by
  have hr : AtB bs (t + 12) (rootB t xs) := hT.snd (by simp [by4])
  have a1 : AtB bs (t + 21) [1] := by
    unfold rootB branchB at hr
    have : AtB bs (t + 12) ((0 :: by4 ((t : Int) + 12 + 9) ++ by4 ((t : Int) + 12 + 9 + ([1] : List Int).length)) ++ ([1] ++ nodeB xs.length (t + 22) xs)) := by simpa using hr
    exact (this.snd (y := t + 21) (by simp [by4])).fst
  unfold nxA
  simp only
  rw [if_neg (by decide), if_neg (by decide)]
  unfold nxP
  simp only
  rw [walk_root hT ht0 ht hw hq hx0, if_pos rfl, walkL_leaf (rd_one a1) (by decide)]
  simp only
  unfold leafS
  rw [rd_one a1]
  simp [leafK]
theorem nx_char {bs xs w : List Int} {t x0 q i : Nat} (hT : TableAt bs t xs) (ht0 : 0 < t) (ht : t ≤ 1000000) (hw : BitsAt bs x0 w) (hx0 : x0 + w.length ≤ 4000000000) (hxs : xs.length ≤ 300) (hc : ∀ c ∈ xs, 0 ≤ c ∧ c ≤ 4294967295) (hi : i < xs.length)
    (hp : ∀ (k : Nat) (b : Int), (1 :: pathB xs.length i)[k]? = some b → w[q + k]? = some b) : ∃ c, xs[i]? = some c ∧
    nxA bs t ⟨225, ((x0 + q / 8 : Nat) : Int), ((q % 8 : Nat) : Int)⟩ = .ok ((2, [c]), ⟨225, ((x0 + (q + (1 :: pathB xs.length i).length) / 8 : Nat) : Int), (((q + (1 :: pathB xs.length i).length) % 8 : Nat) : Int)⟩) := by
  have hr : AtB bs (t + 12) (rootB t xs) := hT.snd (by simp [by4])
  have a2 : AtB bs (t + 22) (nodeB xs.length ((t + 22 : Nat) : Int) xs) := by
    unfold rootB branchB at hr
    exact hr.snd (by simp [by4])
  have hq : w[q]? = some 1 := hp 0 1 rfl
  have hql : q < w.length := (List.getElem?_eq_some_iff.1 hq).1
  have hlog := pathB_log 9 xs.length i (by omega)
  obtain ⟨leaf, c, r1, r2, r3, r4⟩ := walk_path hw hx0 xs.length xs.length 255 (t + 22) xs i (q + 1) rfl (Nat.le_refl _) hi (by omega) (by omega) a2 (fun k b hb => by
    have := hp (k + 1) b (by simpa using hb)
    rw [← this]; congr 1; omega)
  refine ⟨c, r1, ?_⟩
  unfold nxA
  simp only
  rw [if_neg (by decide), if_neg (by decide)]
  unfold nxP
  simp only
  rw [walk_root hT ht0 ht hw hq (by omega), if_neg (by decide), r2]
  simp only
  have hc2 := hc c (List.mem_of_getElem? r1)
  have e : leafS bs leaf = .ok (2, [c]) := by
    unfold leafS
    unfold leafB at r3
    have ew : w32 ((leaf : Int) + 1) = ((leaf + 1 : Nat) : Int) := by rw [w32_eq (by omega) (by omega)]; omega
    split at r3
    · rw [rd_one r3]
      show leafK bs leaf 2 = _
      unfold leafK
      rw [if_neg (by decide), if_pos rfl]
      unfold oneS
      have : AtB bs (leaf + 1) [c] := AtB.snd (l := [2]) r3 rfl
      rw [ew, rd_one this]
    · rw [rd_one r3]
      show leafK bs leaf 4 = _
      unfold leafK
      rw [if_neg (by decide), if_neg (by decide), if_pos rfl]
      unfold oneS
      have : AtB bs (leaf + 1) (by4 c) := AtB.snd (l := [4]) r3 rfl
      rw [ew, rd_four (l := []) this hc2.1 hc2.2]
  rw [e, List.length_cons]
  have e3 : q + 1 + (pathB xs.length i).length = q + ((pathB xs.length i).length + 1) := by omega
  rw [e3]
end Go.AI
end
section
/- What was packed is read as it was, whole, in part, cut off: in plain Lean. -/
set_option maxRecDepth 10000
set_option linter.unusedVariables false
set_option linter.unusedSimpArgs false
namespace Go.AI
open Go.Proofs
theorem leafB_byte {c : Int} (h0 : 0 ≤ c) : ∀ y ∈ leafB c, 0 ≤ y ∧ y < 256 := by
  intro y hy
  unfold leafB at hy
  split at hy
  · simp at hy; omega
  · rcases List.mem_cons.1 hy with rfl | h
    · omega
    · exact by4_byte y h
theorem branchB_byte {t : Int} {x y : List Int} (hx : ∀ c ∈ x, 0 ≤ c ∧ c < 256) (hy : ∀ c ∈ y, 0 ≤ c ∧ c < 256) : ∀ c ∈ branchB t x y, 0 ≤ c ∧ c < 256 := by
  intro c hc
  unfold branchB at hc
  simp only [List.cons_append, List.mem_cons, List.mem_append] at hc
  rcases hc with rfl | ((h | h) | h) | h
  · omega
  · exact by4_byte c h
  · exact by4_byte c h
  · exact hx c h
  · exact hy c h
theorem nodeB_byte : ∀ (f : Nat) (t : Int) (l : List Int), (∀ c ∈ l, 0 ≤ c ∧ c ≤ 4294967295) → ∀ c ∈ nodeB f t l, 0 ≤ c ∧ c < 256
  | 0, t, l, h => by intro c hc; simp [nodeB] at hc; omega
  | f + 1, t, [], h => by intro c hc; simp [nodeB] at hc; omega
  | f + 1, t, [c], h => leafB_byte (h c (by simp)).1
  | f + 1, t, a :: b :: r, h => by
    rw [nodeB_two (by simp)]
    exact branchB_byte (nodeB_byte f _ _ fun c hc => h c (List.mem_of_mem_take hc)) (nodeB_byte f _ _ fun c hc => h c (List.mem_of_mem_drop hc))
theorem rootB_byte {t : Int} {l : List Int} (h : ∀ c ∈ l, 0 ≤ c ∧ c ≤ 4294967295) : ∀ c ∈ rootB t l, 0 ≤ c ∧ c < 256 :=
  branchB_byte (fun c hc => by simp at hc; omega) (nodeB_byte _ _ _ h)
section
variable {bs xs w : List Int} {t x0 : Nat}
theorem read_whole (hT : TableAt bs t xs) (ht0 : 0 < t) (ht : t ≤ 1000000) (hw : BitsAt bs x0 w) (hx0 : x0 + w.length ≤ 4000000000) (hxs : xs.length ≤ 300) (hc : ∀ c ∈ xs, 0 ≤ c ∧ c ≤ 4294967295) {m : Nat} :
    ∀ (is : List Nat) (l2 l1 : List Int) (q : Nat), is.length = l2.length → (∀ (k i : Nat), is[k]? = some i → xs[i]? = l2[k]?) → (∀ (k : Nat) (b : Int), (bitsL xs.length is ++ [0])[k]? = some b → w[q + k]? = some b) → l1.length + is.length ≤ m →
    PlR (nxA bs t) m l1 ⟨225, ((x0 + q / 8 : Nat) : Int), ((q % 8 : Nat) : Int)⟩ 0 (l1 ++ l2) true 0
  | [], l2, l1, q, hl, his, hp, hm => by
    have : l2 = [] := List.length_eq_zero_iff.1 hl.symm
    subst this
    rw [List.append_nil]
    have hq : w[q]? = some 0 := hp 0 0 rfl
    have hql : q < w.length := (List.getElem?_eq_some_iff.1 hq).1
    exact .fin (by omega) (nx_end hT ht0 ht hw hq (by omega)) rfl
  | i :: r, [], l1, q, hl, his, hp, hm => by simp at hl
  | i :: r, c :: l2, l1, q, hl, his, hp, hm => by
    have hi : xs[i]? = some c := his 0 i rfl
    have e : bitsL xs.length (i :: r) ++ [0] = (1 :: pathB xs.length i) ++ (bitsL xs.length r ++ [0]) := by simp [bitsL]
    rw [e] at hp
    obtain ⟨c', h1, h2⟩ := nx_char (q := q) (i := i) hT ht0 ht hw hx0 hxs hc (List.getElem?_eq_some_iff.1 hi).1 (fun k b hb => hp k b (by rw [List.getElem?_append_left (List.getElem?_eq_some_iff.1 hb).1]; exact hb))
    rw [hi] at h1
    cases h1
    refine .more (by omega) h2 (show (2 : Int) ≠ 1 by decide) (show (2 : Int) ≠ 3 by decide) (show l1.length + 1 ≤ m by simp only [List.length_cons] at hm; omega) ?_
    rw [if_pos (by simp)]
    have := read_whole hT ht0 ht hw hx0 hxs hc (m := m) r l2 (l1 ++ [c]) (q + (1 :: pathB xs.length i).length) (by simpa using hl) (fun k i' hk => by have := his (k + 1) i' (by simpa using hk); simpa using this)
      (fun k b hb => by
        have := hp ((1 :: pathB xs.length i).length + k) b (by rw [List.getElem?_append_right (by omega)]; rw [Nat.add_sub_cancel_left]; exact hb)
        rw [← this]; congr 1; omega) (by simp only [List.length_append, List.length_singleton, List.length_cons, List.length_nil] at hm ⊢; omega)
    rw [List.append_assoc] at this
    exact this
theorem read_part (hT : TableAt bs t xs) (ht0 : 0 < t) (ht : t ≤ 1000000) (hw : BitsAt bs x0 w) (hx0 : x0 + w.length ≤ 4000000000) (hxs : xs.length ≤ 300) (hc : ∀ c ∈ xs, 0 ≤ c ∧ c ≤ 4294967295) {m : Nat} :
    ∀ (is : List Nat) (l2 l1 : List Int) (q : Nat), is.length = l2.length → (∀ (k i : Nat), is[k]? = some i → xs[i]? = l2[k]?) → (∀ (k : Nat) (b : Int), (bitsL xs.length is ++ [0])[k]? = some b → w[q + k]? = some b) → l1.length ≤ m → m < l1.length + is.length →
    PlR (nxA bs t) m l1 ⟨225, ((x0 + q / 8 : Nat) : Int), ((q % 8 : Nat) : Int)⟩ 0 ((l1 ++ l2).take m) false 0
  | [], l2, l1, q, hl, his, hp, hm, hm2 => by simp at hm2; omega
  | i :: r, [], l1, q, hl, his, hp, hm, hm2 => by simp at hl
  | i :: r, c :: l2, l1, q, hl, his, hp, hm, hm2 => by
    have hi : xs[i]? = some c := his 0 i rfl
    have e : bitsL xs.length (i :: r) ++ [0] = (1 :: pathB xs.length i) ++ (bitsL xs.length r ++ [0]) := by simp [bitsL]
    rw [e] at hp
    obtain ⟨c', h1, h2⟩ := nx_char (q := q) (i := i) hT ht0 ht hw hx0 hxs hc (List.getElem?_eq_some_iff.1 hi).1 (fun k b hb => hp k b (by rw [List.getElem?_append_left (List.getElem?_eq_some_iff.1 hb).1]; exact hb))
    rw [hi] at h1
    cases h1
    by_cases hlt : l1.length < m
    · refine .more (by omega) h2 (show (2 : Int) ≠ 1 by decide) (show (2 : Int) ≠ 3 by decide) (show l1.length + 1 ≤ m by omega) ?_
      rw [if_pos (by simp)]
      have := read_part hT ht0 ht hw hx0 hxs hc (m := m) r l2 (l1 ++ [c]) (q + (1 :: pathB xs.length i).length) (by simpa using hl) (fun k i' hk => by have := his (k + 1) i' (by simpa using hk); simpa using this)
        (fun k b hb => by
          have := hp ((1 :: pathB xs.length i).length + k) b (by rw [List.getElem?_append_right (by omega)]; rw [Nat.add_sub_cancel_left]; exact hb)
          rw [← this]; congr 1; omega) (by simp only [List.length_append, List.length_singleton]; omega) (by simp only [List.length_append, List.length_singleton, List.length_cons, List.length_nil] at hm2 ⊢; omega)
      rw [List.append_assoc] at this
      exact this
    · have hm3 : m = l1.length := by omega
      subst hm3
      have := PlR.cut (N := nxA bs t) (most := l1.length) (l := l1) (i := 0) (by omega) h2 (show (2 : Int) ≠ 1 by decide) (show (2 : Int) ≠ 3 by decide) (by simp)
      rw [Nat.sub_self, List.take_zero, List.append_nil] at this
      rw [List.take_left]
      exact this
theorem walkL_moved {bs : List Int} {f : Nat} {node x b nd x' b' : Int} (h : walkL bs f node x b = .ok (nd, x', b')) (hne : ¬ (x' = x ∧ b' = b)) : rd bs x 1 ≠ none := by
  intro hr
  cases f with
  | zero =>
    simp only [walkL] at h
    split at h
    · cases h
    · split at h
      · cases h; exact hne ⟨rfl, rfl⟩
      · cases h
  | succ f =>
    simp only [walkL, hr] at h
    split at h
    · cases h
    · split at h
      · cases h; exact hne ⟨rfl, rfl⟩
      · cases h
theorem read_cut {tl : List Int} (hT : TableAt (bs ++ tl) t xs) (ht0 : 0 < t) (ht : t ≤ 1000000) (hw : BitsAt (bs ++ tl) x0 w) (hx0 : x0 + w.length ≤ 4000000000) (hxs : xs.length ≤ 300) (hc : ∀ c ∈ xs, 0 ≤ c ∧ c ≤ 4294967295) (hend : bs.length ≤ x0 + (w.length - 1) / 8) {m : Nat} :
    ∀ (is : List Nat) (l2 l1 : List Int) (q : Nat), is.length = l2.length → (∀ (k i : Nat), is[k]? = some i → xs[i]? = l2[k]?) → (∀ (k : Nat) (b : Int), (bitsL xs.length is ++ [0])[k]? = some b → w[q + k]? = some b) → q + (bitsL xs.length is ++ [0]).length = w.length → l1.length + is.length ≤ m →
    PlR (nxA bs t) m l1 ⟨225, ((x0 + q / 8 : Nat) : Int), ((q % 8 : Nat) : Int)⟩ 0 [] false 90
  | [], l2, l1, q, hl, his, hp, hq, hm => by
    by_cases he : nxA bs t ⟨225, ((x0 + q / 8 : Nat) : Int), ((q % 8 : Nat) : Int)⟩ = .error 90
    · exact .err (by omega) he
    · exfalso
      have hmo := nxA_mono (tl := tl) he
      have hq0 : w[q]? = some 0 := hp 0 0 rfl
      have hql : q < w.length := (List.getElem?_eq_some_iff.1 hq0).1
      rw [nx_end hT ht0 ht hw hq0 (by omega)] at hmo
      have hqe : q = w.length - 1 := by simp [bitsL] at hq; omega
      have h := hmo.symm
      unfold nxA at h
      simp only at h
      rw [if_neg (by decide), if_neg (by decide)] at h
      unfold nxP at h
      simp only at h
      have hrd : rd bs ((x0 + q / 8 : Nat) : Int) 1 ≠ none := by
        cases hwk : walkS bs t ((x0 + q / 8 : Nat) : Int) ((q % 8 : Nat) : Int) with
        | error e => rw [hwk] at h; cases h
        | ok p =>
          obtain ⟨nd, x', b'⟩ := p
          rw [hwk] at h
          simp only at h
          split at h
          · cases h
          · injection h with h
            injection h with _ h
            injection h with _ hx hb
            unfold walkS at hwk
            split at hwk
            · cases hwk
            · split at hwk
              · cases hwk
              · split at hwk
                · cases hwk
                · refine walkL_moved hwk ?_
                  rintro ⟨g1, g2⟩
                  omega
      apply hrd
      unfold rd
      rw [if_neg (by omega)]
  | i :: r, [], l1, q, hl, his, hp, hq, hm => by simp at hl
  | i :: r, c :: l2, l1, q, hl, his, hp, hq, hm => by
    by_cases he : nxA bs t ⟨225, ((x0 + q / 8 : Nat) : Int), ((q % 8 : Nat) : Int)⟩ = .error 90
    · exact .err (by omega) he
    · have hmo := nxA_mono (tl := tl) he
      have hi : xs[i]? = some c := his 0 i rfl
      have e : bitsL xs.length (i :: r) ++ [0] = (1 :: pathB xs.length i) ++ (bitsL xs.length r ++ [0]) := by simp [bitsL]
      rw [e] at hp hq
      obtain ⟨c', h1, h2⟩ := nx_char (q := q) (i := i) hT ht0 ht hw hx0 hxs hc (List.getElem?_eq_some_iff.1 hi).1 (fun k b hb => hp k b (by rw [List.getElem?_append_left (List.getElem?_eq_some_iff.1 hb).1]; exact hb))
      rw [hi] at h1
      cases h1
      rw [h2] at hmo
      refine .more (by omega) hmo.symm (show (2 : Int) ≠ 1 by decide) (show (2 : Int) ≠ 3 by decide) (show l1.length + 1 ≤ m by simp only [List.length_cons] at hm; omega) ?_
      rw [if_pos (by simp)]
      exact read_cut hT ht0 ht hw hx0 hxs hc hend (m := m) r l2 (l1 ++ [c]) (q + (1 :: pathB xs.length i).length) (by simpa using hl) (fun k i' hk => by have := his (k + 1) i' (by simpa using hk); simpa using this)
        (fun k b hb => by
          have := hp ((1 :: pathB xs.length i).length + k) b (by rw [List.getElem?_append_right (by omega)]; rw [Nat.add_sub_cancel_left]; exact hb)
          rw [← this]; congr 1; omega) (by simp only [List.length_append] at hq ⊢; omega) (by simp only [List.length_append, List.length_singleton, List.length_cons, List.length_nil] at hm ⊢; omega)
theorem bits_of_packed {ys : List Int} (hP : Packed ys w) (ha : AtB bs x0 ys) : BitsAt bs x0 w := by
  intro q b hq
  obtain ⟨h1, y, h2, h3⟩ := hP.2.2.1 q b hq
  have hy := hP.2.1 y (List.mem_of_getElem? h2)
  refine ⟨h1, y, ?_, hy.1, hy.2, h3⟩
  have hlt := (List.getElem?_eq_some_iff.1 h2).1
  have e : ys = ys.take (q / 8) ++ (y :: ys.drop (q / 8 + 1)) := by
    have h4 : ys[q / 8]'hlt = y := (List.getElem?_eq_some_iff.1 h2).2
    rw [← h4, ← List.drop_eq_getElem_cons hlt, List.take_append_drop]
  rw [e] at ha
  exact rd_one (ha.snd (y := x0 + q / 8) (by rw [List.length_take]; omega))
end
end Go.AI
end
