/- A wide file as a row of numbers. -/
import Derived.Test.YtpgedoljndppdaaShOpen
set_option maxRecDepth 4000
set_option linter.unusedVariables false
set_option linter.unusedSimpArgs false
namespace Go.AI
/-- The bytes of numbers, four each. -/
def flat4 : List Int → List Int
  | [] => []
  | c :: r => by4 c ++ flat4 r
theorem flat4_len : ∀ l : List Int, (flat4 l).length = 4 * l.length
  | [] => rfl
  | c :: r => by simp [flat4, by4, flat4_len r]; omega
theorem flat4_app : ∀ a b : List Int, flat4 (a ++ b) = flat4 a ++ flat4 b
  | [], b => rfl
  | c :: r, b => by simp [flat4, flat4_app r b]
theorem flat4_drop : ∀ (i : Nat) (l : List Int), (flat4 l).drop (4 * i) = flat4 (l.drop i)
  | 0, l => by simp
  | i + 1, [] => by simp [flat4]
  | i + 1, c :: r => by
    have : 4 * (i + 1) = (by4 c).length + 4 * i := by simp [by4]; omega
    rw [flat4, this, List.drop_append]
    simp [flat4_drop i r]
theorem flat4_take : ∀ (i : Nat) (l : List Int), (flat4 l).take (4 * i) = flat4 (l.take i)
  | 0, l => by simp [flat4]
  | i + 1, [] => by simp [flat4]
  | i + 1, c :: r => by
    have : 4 * (i + 1) = (by4 c).length + 4 * i := by simp [by4]; omega
    rw [flat4, this, List.take_length_add_append]
    simp [flat4_take i r, flat4]
theorem flat4_byte : ∀ {l : List Int}, ∀ c ∈ flat4 l, 0 ≤ c ∧ c < 256
  | [], c, h => by cases h
  | d :: r, c, h => by
    unfold flat4 at h
    rcases List.mem_append.1 h with h | h
    · simp only [by4, List.mem_cons, List.not_mem_nil, or_false] at h
      rcases h with rfl | rfl | rfl | rfl <;> omega
    · exact flat4_byte c h
theorem flat4_at {l : List Int} {i : Nat} {v : Int} (h : l[i]? = some v) (h0 : 0 ≤ v) (h1 : v ≤ 4294967295) : beV (((flat4 l).drop (4 * i)).take 4) = v := by
  have hi : i < l.length := (List.getElem?_eq_some_iff.1 h).1
  rw [flat4_drop, List.drop_eq_getElem_cons hi]
  rw [List.getElem?_eq_getElem hi] at h
  injection h with h
  rw [h, flat4]
  have : (by4 v ++ flat4 (l.drop (i + 1))).take 4 = by4 v := by simp [by4]
  rw [this, beV_by4 h0 h1]
/-- A number put at a place of a row, or behind it. -/
def setA (l : List Int) (i : Nat) (c : Int) : List Int := if i < l.length then l.set i c else l ++ [c]
theorem setA_len {l : List Int} {i : Nat} {c : Int} (h : i ≤ l.length) : (setA l i c).length = max l.length (i + 1) := by
  unfold setA
  split
  · simp; omega
  · simp; omega
theorem put4_flat {l : List Int} {i : Nat} {c : Int} (h : i ≤ l.length) : put4 (flat4 l) i c = flat4 (setA l i c) := by
  unfold put4 setA
  by_cases hi : i < l.length
  · have hp : pad4 (flat4 l) i = flat4 l := by
      have : 4 * i + 4 - (flat4 l).length = 0 := by rw [flat4_len]; omega
      simp [this]
    rw [hp, if_pos hi]
    have e1 : 4 * i + 4 = 4 * (i + 1) := by omega
    rw [e1, flat4_take, flat4_drop]
    rw [List.set_eq_take_append_cons_drop, if_pos hi, flat4_app]
    simp [flat4]
  · have hi : i = l.length := by omega
    subst hi
    rw [if_neg (Nat.lt_irrefl _)]
    have hp : pad4 (flat4 l) l.length = flat4 l ++ [0, 0, 0, 0] := by
      have : 4 * l.length + 4 - (flat4 l).length = 4 := by rw [flat4_len]; omega
      simp [this, List.replicate]
    rw [hp, flat4_app]
    have e2 : (flat4 l ++ [0, 0, 0, 0]).take (4 * l.length) = flat4 l := by
      rw [List.take_append_of_le_length (by rw [flat4_len]; exact Nat.le_refl _), List.take_of_length_le (by rw [flat4_len]; exact Nat.le_refl _)]
    have e3 : (flat4 l ++ [0, 0, 0, 0]).drop (4 * l.length + 4) = [] := List.drop_eq_nil_of_le (by simp [flat4_len])
    rw [e2, e3]
    simp [flat4]
end Go.AI
