/- Lemmas of the abstract condition ahead of code (a part of the library that the claim's proof stands on); they hold with no condition but those that each names. -/
import Derived.Sort.AssemblyPlain
section
set_option linter.unusedSimpArgs false
set_option linter.unusedVariables false
/- Tables and packed texts, as both the program and the reference lay them: plain lists; for TextTables; no condition but those that each names. -/
namespace Go.Tab
def by4 (x : Int) : List Int := [x / 16777216 % 256, x / 65536 % 256, x / 256 % 256, x % 256]
def U (x : Int) : Int := x % 4294967296
def leafB (c : Int) : List Int := if c < 256 then [2, c] else 4 :: by4 c
def branchU (t : Int) (x y : List Int) : List Int := 0 :: (by4 (U (t + 9)) ++ by4 (U (t + 9 + x.length)) ++ x ++ y)
/-- The node of a list of characters at a place (addresses by 2^32). -/
def nodeU : Nat → Int → List Int → List Int
  | 0, _, _ => [1]
  | f + 1, t, l =>
    match l with
    | [] => [1]
    | [c] => leafB c
    | _ => branchU t (nodeU f (t + 9) (l.take (l.length / 2))) (nodeU f (t + 9 + (nodeU f (t + 9) (l.take (l.length / 2))).length) (l.drop (l.length / 2)))
/-- How many bytes, how many nodes. -/
def sizeB : Nat → List Int → Nat
  | 0, _ => 1
  | f + 1, l =>
    match l with
    | [] => 1
    | [c] => if c < 256 then 2 else 5
    | _ => 9 + sizeB f (l.take (l.length / 2)) + sizeB f (l.drop (l.length / 2))
def cntN : Nat → List Int → Nat
  | 0, _ => 1
  | f + 1, l =>
    match l with
    | [] => 1
    | [_] => 1
    | _ => 1 + cntN f (l.take (l.length / 2)) + cntN f (l.drop (l.length / 2))
theorem two_cases (l : List Int) : l = [] ∨ (∃ c, l = [c]) ∨ ∃ a b r, l = a :: b :: r := by
  cases l with
  | nil => exact .inl rfl
  | cons a r =>
    cases r with
    | nil => exact .inr (.inl ⟨a, rfl⟩)
    | cons b r => exact .inr (.inr ⟨a, b, r, rfl⟩)
theorem leafB_len (c : Int) : (leafB c).length = if c < 256 then 2 else 5 := by
  unfold leafB
  split <;> rfl
theorem nodeU_len : ∀ (f : Nat) (t : Int) (l : List Int), (nodeU f t l).length = sizeB f l
  | 0, _, _ => rfl
  | f + 1, t, l => by
    rcases two_cases l with rfl | ⟨c, rfl⟩ | ⟨a, b, r, rfl⟩
    · rfl
    · exact leafB_len c
    · simp only [nodeU, sizeB, branchU, List.length_cons, List.length_append, nodeU_len f]
      simp only [by4, List.length_cons, List.length_nil]
      omega
theorem U_add (a b : Int) : U (U a + b) = U (a + b) := by unfold U; omega
theorem U_U (a : Int) : U (U a) = U a := by unfold U; omega
/-- Only a place by 2^32 counts. -/
theorem nodeU_U : ∀ (f : Nat) (t t' : Int) (l : List Int), U t = U t' → nodeU f t l = nodeU f t' l
  | 0, _, _, _, _ => rfl
  | f + 1, t, t', l, h => by
    have hd : ∀ x : Int, U (t + x) = U (t' + x) := fun x => by rw [← U_add t, ← U_add t', h]
    rcases two_cases l with rfl | ⟨c, rfl⟩ | ⟨a, b, r, rfl⟩
    · rfl
    · rfl
    · simp only [nodeU, branchU]
      rw [nodeU_U f (t + 9) (t' + 9) _ (hd 9), hd 9]
      have h2 : ∀ n : Int, U (t + 9 + n) = U (t' + 9 + n) := fun n => by
        have := hd (9 + n)
        rw [← Int.add_assoc, ← Int.add_assoc] at this
        exact this
      rw [h2]
      rw [nodeU_U f (t + 9 + _) (t' + 9 + _) _ (h2 _)]
theorem half_lt {a b : Int} {r : List Int} {f : Nat} (h : (a :: b :: r).length ≤ f + 1) : ((a :: b :: r).take ((a :: b :: r).length / 2)).length ≤ f ∧ ((a :: b :: r).drop ((a :: b :: r).length / 2)).length ≤ f := by
  rw [List.length_take, List.length_drop]
  simp only [List.length_cons] at h ⊢
  omega
theorem nodeU_fuel : ∀ (f g : Nat) (t : Int) (l : List Int), l.length ≤ f → l.length ≤ g → nodeU f t l = nodeU g t l
  | 0, g, t, l, h, _ => by
    have : l = [] := List.length_eq_zero_iff.1 (by omega)
    subst this
    cases g <;> rfl
  | f + 1, 0, t, l, _, h => by
    have : l = [] := List.length_eq_zero_iff.1 (by omega)
    subst this
    rfl
  | f + 1, g + 1, t, l, h1, h2 => by
    rcases two_cases l with rfl | ⟨c, rfl⟩ | ⟨a, b, r, rfl⟩
    · rfl
    · rfl
    · obtain ⟨p1, p2⟩ := half_lt h1
      obtain ⟨q1, q2⟩ := half_lt h2
      simp only [nodeU]
      rw [nodeU_fuel f g _ _ p1 q1, nodeU_fuel f g _ _ p2 q2]
theorem sizeB_fuel : ∀ (f g : Nat) (l : List Int), l.length ≤ f → l.length ≤ g → sizeB f l = sizeB g l := fun f g l h1 h2 => by
  rw [← nodeU_len f 0 l, ← nodeU_len g 0 l, nodeU_fuel f g 0 l h1 h2]
theorem cntN_fuel : ∀ (f g : Nat) (l : List Int), l.length ≤ f → l.length ≤ g → cntN f l = cntN g l
  | 0, g, l, h, _ => by
    have : l = [] := List.length_eq_zero_iff.1 (by omega)
    subst this
    cases g <;> rfl
  | f + 1, 0, l, _, h => by
    have : l = [] := List.length_eq_zero_iff.1 (by omega)
    subst this
    rfl
  | f + 1, g + 1, l, h1, h2 => by
    rcases two_cases l with rfl | ⟨c, rfl⟩ | ⟨a, b, r, rfl⟩
    · rfl
    · rfl
    · obtain ⟨p1, p2⟩ := half_lt h1
      obtain ⟨q1, q2⟩ := half_lt h2
      simp only [cntN]
      rw [cntN_fuel f g _ p1 q1, cntN_fuel f g _ p2 q2]
/-- The reference lays a node behind what there is: a branch's own nine bytes, then its two nodes, one behind the other. -/
theorem lay_step {f : Nat} {from_ : Int} {bs : List Int} {l : List Int} (hl : l.length ≤ f + 1) (h2 : 2 ≤ l.length) :
    bs ++ nodeU (f + 1) (from_ + bs.length) l =
      ((bs ++ 0 :: (by4 (U (from_ + bs.length + 9)) ++ by4 (U (from_ + bs.length + 9 + sizeB f (l.take (l.length / 2)))))) ++ nodeU f (from_ + (bs.length + 9 : Nat)) (l.take (l.length / 2))) ++
        nodeU f (from_ + (bs.length + 9 + sizeB f (l.take (l.length / 2)) : Nat)) (l.drop (l.length / 2)) := by
  rcases two_cases l with rfl | ⟨c, rfl⟩ | ⟨a, b, r, rfl⟩
  · simp at h2
  · simp at h2
  · simp only [nodeU, branchU, nodeU_len]
    have e1 : from_ + (bs.length : Int) + 9 = from_ + ((bs.length + 9 : Nat) : Int) := by omega
    have e2 : from_ + (bs.length : Int) + 9 + (sizeB f ((a :: b :: r).take ((a :: b :: r).length / 2)) : Int) = from_ + ((bs.length + 9 + sizeB f ((a :: b :: r).take ((a :: b :: r).length / 2)) : Nat) : Int) := by omega
    rw [e2, e1]
    simp
-- the bits of a character's way
def pathB (n i : Nat) : List Int := if n ≤ 1 then [] else if i < n / 2 then 0 :: pathB (n / 2) i else 1 :: pathB (n - n / 2) (i - n / 2)
termination_by n
decreasing_by all_goals omega
/-- The reference's way: the left half first. -/
def wayR : Nat → List Int → List Int → Int → List Int × Bool
  | 0, bits, _, _ => (bits, false)
  | f + 1, bits, l, c =>
    match l with
    | [] => (bits, false)
    | [d] => (bits, d == c)
    | _ => match wayR f (bits ++ [0]) (l.take (l.length / 2)) c with
      | (left, true) => (left, true)
      | (_, false) => wayR f (bits ++ [1]) (l.drop (l.length / 2)) c
theorem wayR_eq : ∀ (f : Nat) (bits l : List Int) (c : Int), l.length ≤ f → (c ∉ l → (wayR f bits l c).2 = false) ∧ (c ∈ l → wayR f bits l c = (bits ++ pathB l.length (l.idxOf c), true))
  | 0, bits, l, c, h => by
    have : l = [] := List.length_eq_zero_iff.1 (by omega)
    subst this
    exact ⟨fun _ => rfl, fun h => by simp at h⟩
  | f + 1, bits, l, c, h => by
    rcases two_cases l with rfl | ⟨d, rfl⟩ | ⟨a, b, r, rfl⟩
    · exact ⟨fun _ => rfl, fun h => by simp at h⟩
    · refine ⟨fun hc => ?_, fun hc => ?_⟩
      · have : d ≠ c := fun e => hc (by simp [e])
        simpa [wayR] using this
      · have : d = c := by simpa using Eq.symm (List.mem_singleton.1 hc)
        subst this
        have : pathB [d].length ([d].idxOf d) = [] := by unfold pathB; rw [if_pos (by simp)]
        rw [this]
        simp [wayR]
    · obtain ⟨p1, p2⟩ := half_lt h
      generalize hL : (a :: b :: r) = L at *
      have hLl : 2 ≤ L.length := by rw [← hL]; simp
      have hne : wayR (f + 1) bits L c = match wayR f (bits ++ [0]) (L.take (L.length / 2)) c with | (left, true) => (left, true) | (_, false) => wayR f (bits ++ [1]) (L.drop (L.length / 2)) c := by rw [← hL]; rfl
      obtain ⟨i1, i2⟩ := wayR_eq f (bits ++ [0]) (L.take (L.length / 2)) c p1
      obtain ⟨j1, j2⟩ := wayR_eq f (bits ++ [1]) (L.drop (L.length / 2)) c p2
      have happ : L = L.take (L.length / 2) ++ L.drop (L.length / 2) := (List.take_append_drop _ _).symm
      have htl : (L.take (L.length / 2)).length = L.length / 2 := by rw [List.length_take]; omega
      have hp : ∀ i, pathB L.length i = if i < L.length / 2 then 0 :: pathB (L.length / 2) i else 1 :: pathB (L.length - L.length / 2) (i - L.length / 2) := fun i => by
        rw [pathB, if_neg (by omega)]
      by_cases hl : c ∈ L.take (L.length / 2)
      · have hin : c ∈ L := List.mem_of_mem_take hl
        refine ⟨fun hn => absurd hin hn, fun _ => ?_⟩
        rw [hne, i2 hl]
        have hi : L.idxOf c = (L.take (L.length / 2)).idxOf c := by
          conv => lhs; rw [happ]
          rw [List.idxOf_append, if_pos hl]
        have hlt : (L.take (L.length / 2)).idxOf c < L.length / 2 := by
          have := List.idxOf_lt_length_of_mem hl
          omega
        rw [hi, hp, if_pos hlt, htl]
        simp
      · have e1 := i1 hl
        generalize wayR f (bits ++ [0]) (L.take (L.length / 2)) c = w at hne e1
        obtain ⟨w1, w2⟩ := w
        have e1 : w2 = false := e1
        subst e1
        have hne : wayR (f + 1) bits L c = wayR f (bits ++ [1]) (L.drop (L.length / 2)) c := hne
        rw [hne]
        refine ⟨fun hn => j1 fun hd => hn (List.mem_of_mem_drop hd), fun hin => ?_⟩
        have hd : c ∈ L.drop (L.length / 2) := by
          rw [happ] at hin
          rcases List.mem_append.1 hin with h | h
          · exact absurd h hl
          · exact h
        rw [j2 hd]
        have hi : L.idxOf c = (L.drop (L.length / 2)).idxOf c + L.length / 2 := by
          conv => lhs; rw [happ]
          rw [List.idxOf_append, if_neg hl, htl]
        rw [hi, hp, if_neg (by omega), List.length_drop, Nat.add_sub_cancel]
        simp
end Go.Tab
end
section
set_option linter.unusedSimpArgs false
set_option linter.unusedVariables false
/- Bits laid into bytes, the lowest first, one by one and by eights: plain lists; for TextTables; no condition but those that each names. -/
namespace Go.Tab
def bitAt (w : List Int) (i : Nat) : Int := w.getD i 0
def byteAt (w : List Int) (j : Nat) : Int := bitAt w (8 * j) + 2 * bitAt w (8 * j + 1) + 4 * bitAt w (8 * j + 2) + 8 * bitAt w (8 * j + 3) + 16 * bitAt w (8 * j + 4) + 32 * bitAt w (8 * j + 5) + 64 * bitAt w (8 * j + 6) + 128 * bitAt w (8 * j + 7)
def packU (w : List Int) : List Int := (List.range ((w.length + 7) / 8)).map (byteAt w)
theorem bitAt_old {w : List Int} {b : Int} {i : Nat} (h : i < w.length) : bitAt (w ++ [b]) i = bitAt w i := by
  unfold bitAt
  rw [List.getD_eq_getElem?_getD, List.getD_eq_getElem?_getD, List.getElem?_append_left h]
theorem bitAt_new (w : List Int) (b : Int) : bitAt (w ++ [b]) w.length = b := by
  unfold bitAt
  rw [List.getD_eq_getElem?_getD, List.getElem?_append_right (Nat.le_refl _)]
  simp
theorem bitAt_out {w : List Int} {i : Nat} (h : w.length ≤ i) : bitAt w i = 0 := by
  unfold bitAt
  rw [List.getD_eq_getElem?_getD, List.getElem?_eq_none h]
  rfl
theorem bitAt_behind {w : List Int} {b : Int} {i : Nat} (h : w.length < i) : bitAt (w ++ [b]) i = bitAt w i := by
  rw [bitAt_out (w := w) (by omega), bitAt_out (by rw [List.length_append]; simp; omega)]
theorem byteAt_old {w : List Int} {b : Int} {j : Nat} (h : j ≠ w.length / 8) : byteAt (w ++ [b]) j = byteAt w j := by
  have g : ∀ k, k < 8 → bitAt (w ++ [b]) (8 * j + k) = bitAt w (8 * j + k) := by
    intro k hk
    rcases Nat.lt_trichotomy (8 * j + k) w.length with h1 | h1 | h1
    · exact bitAt_old h1
    · omega
    · exact bitAt_behind h1
  unfold byteAt
  have g0 := g 0 (by omega)
  rw [Nat.add_zero] at g0
  rw [g0, g 1 (by omega), g 2 (by omega), g 3 (by omega), g 4 (by omega), g 5 (by omega), g 6 (by omega), g 7 (by omega)]
/-- One bit more in the byte that is begun (or is to be). -/
theorem byteAt_new {w : List Int} {b : Int} : byteAt (w ++ [b]) (w.length / 8) = byteAt w (w.length / 8) + b * 2 ^ (w.length % 8) := by
  have g : ∀ k, k < 8 → bitAt (w ++ [b]) (8 * (w.length / 8) + k) = bitAt w (8 * (w.length / 8) + k) + if k = w.length % 8 then b else 0 := by
    intro k hk
    rcases Nat.lt_trichotomy (8 * (w.length / 8) + k) w.length with h1 | h1 | h1
    · rw [bitAt_old h1, if_neg (by omega)]
      omega
    · rw [if_pos (by omega), h1, bitAt_new, bitAt_out (Nat.le_refl _)]
      omega
    · rw [bitAt_behind h1, if_neg (by omega)]
      omega
  unfold byteAt
  have g0 := g 0 (by omega)
  rw [Nat.add_zero] at g0
  rw [g0, g 1 (by omega), g 2 (by omega), g 3 (by omega), g 4 (by omega), g 5 (by omega), g 6 (by omega), g 7 (by omega)]
  have hr : w.length % 8 < 8 := Nat.mod_lt _ (by omega)
  generalize w.length % 8 = r at hr
  have : r = 0 ∨ r = 1 ∨ r = 2 ∨ r = 3 ∨ r = 4 ∨ r = 5 ∨ r = 6 ∨ r = 7 := by omega
  rcases this with rfl | rfl | rfl | rfl | rfl | rfl | rfl | rfl <;> simp <;> omega
theorem packU_len (w : List Int) : (packU w).length = (w.length + 7) / 8 := by unfold packU; simp
/-- A bit is put: a byte is begun. -/
theorem packU_begin {w : List Int} {b : Int} (h : w.length % 8 = 0) : packU (w ++ [b]) = packU w ++ [b] := by
  unfold packU
  have e : ((w ++ [b]).length + 7) / 8 = (w.length + 7) / 8 + 1 := by rw [List.length_append]; simp; omega
  rw [e, List.range_succ, List.map_append]
  congr 1
  · refine List.map_congr_left fun j hj => byteAt_old ?_
    have := List.mem_range.1 hj
    omega
  · have : (w.length + 7) / 8 = w.length / 8 := by omega
    rw [this]
    simp only [List.map_cons, List.map_nil]
    rw [byteAt_new, h]
    have z : byteAt w (w.length / 8) = 0 := by
      unfold byteAt
      rw [bitAt_out (by omega), bitAt_out (by omega), bitAt_out (by omega), bitAt_out (by omega), bitAt_out (by omega), bitAt_out (by omega), bitAt_out (by omega), bitAt_out (by omega)]
      rfl
    rw [z]
    simp
/-- .. or the last one goes on. -/
theorem packU_on {w : List Int} {b : Int} (h : w.length % 8 ≠ 0) : packU (w ++ [b]) = (packU w).set (w.length / 8) (byteAt w (w.length / 8) + b * 2 ^ (w.length % 8)) := by
  unfold packU
  have e : ((w ++ [b]).length + 7) / 8 = (w.length + 7) / 8 := by rw [List.length_append]; simp; omega
  rw [e]
  apply List.ext_getElem?
  intro j
  rw [List.getElem?_set]
  by_cases hj : w.length / 8 = j
  · subst hj
    rw [if_pos rfl, if_pos (by simp; omega), List.getElem?_map, List.getElem?_range (by omega)]
    simp only [Option.map_some]
    rw [byteAt_new]
  · rw [if_neg hj, List.getElem?_map, List.getElem?_map]
    cases hx : (List.range ((w.length + 7) / 8))[j]? with
    | none => rfl
    | some x =>
      have hlt := (List.getElem?_eq_some_iff.1 hx).1
      have hxj : x = j := by
        have := (List.getElem?_eq_some_iff.1 hx).2
        simpa using this.symm
      subst hxj
      simp only [Option.map_some]
      rw [byteAt_old (fun e => hj e.symm)]
theorem bit_sum {w : List Int} (h : ∀ b ∈ w, b = 0 ∨ b = 1) (i : Nat) : bitAt w i = 0 ∨ bitAt w i = 1 := by
  rcases Nat.lt_or_ge i w.length with hi | hi
  · have : bitAt w i = w[i] := by unfold bitAt; rw [List.getD_eq_getElem?_getD, List.getElem?_eq_getElem hi]; rfl
    rw [this]
    exact h _ (List.getElem_mem hi)
  · exact .inl (bitAt_out hi)
theorem byteAt_range {w : List Int} (h : ∀ b ∈ w, b = 0 ∨ b = 1) (j : Nat) : 0 ≤ byteAt w j ∧ byteAt w j < 256 := by
  have g := bit_sum h
  unfold byteAt
  have g0 := g (8 * j)
  have g1 := g (8 * j + 1)
  have g2 := g (8 * j + 2)
  have g3 := g (8 * j + 3)
  have g4 := g (8 * j + 4)
  have g5 := g (8 * j + 5)
  have g6 := g (8 * j + 6)
  have g7 := g (8 * j + 7)
  omega
end Go.Tab
end
section
set_option linter.unusedSimpArgs false
set_option linter.unusedVariables false
/- Bytes whose bits are told are those bytes; alphabets: all different, and sorted lists; plain lists; for TextTables; no condition but those that each names. -/
namespace Go.Tab
theorem byte_bits {y : Int} (h0 : 0 ≤ y) (h1 : y < 256) : y = y % 2 + 2 * (y / 2 % 2) + 4 * (y / 4 % 2) + 8 * (y / 8 % 2) + 16 * (y / 16 % 2) + 32 * (y / 32 % 2) + 64 * (y / 64 % 2) + 128 * (y / 128 % 2) := by omega
/-- What TxPack tells of packed bytes (its own word) makes them these. -/
theorem packed_eq {ys w : List Int} (hl : ys.length = (w.length + 7) / 8) (hb : ∀ y ∈ ys, 0 ≤ y ∧ y < 256) (hw : ∀ (q : Nat) (b : Int), w[q]? = some b → ∃ y, ys[q / 8]? = some y ∧ y / 2 ^ (q % 8) % 2 = b)
    (ht : w.length % 8 ≠ 0 → ∃ y, ys[w.length / 8]? = some y ∧ y < 2 ^ (w.length % 8)) : ys = packU w := by
  apply List.ext_getElem?
  intro j
  unfold packU
  rw [List.getElem?_map]
  rcases Nat.lt_or_ge j ((w.length + 7) / 8) with hj | hj
  · rw [List.getElem?_range hj]
    obtain ⟨y, hy⟩ : ∃ y, ys[j]? = some y := ⟨ys[j]'(by omega), by simp⟩
    rw [hy]
    simp only [Option.map_some]
    congr 1
    obtain ⟨y0, y1⟩ := hb y (List.mem_of_getElem? hy)
    have bit : ∀ k, k < 8 → bitAt w (8 * j + k) = y / 2 ^ k % 2 := by
      intro k hk
      rcases Nat.lt_or_ge (8 * j + k) w.length with h | h
      · have hv : w[8 * j + k]? = some (w[8 * j + k]) := by simp [h]
        obtain ⟨z, hz, e⟩ := hw _ _ hv
        rw [show (8 * j + k) / 8 = j by omega, hy] at hz
        cases hz
        rw [show (8 * j + k) % 8 = k by omega] at e
        rw [e]
        unfold bitAt
        rw [List.getD_eq_getElem?_getD, hv]
        rfl
      · rw [bitAt_out h]
        have hr : w.length % 8 ≠ 0 := by omega
        obtain ⟨z, hz, e⟩ := ht hr
        rw [show w.length / 8 = j by omega, hy] at hz
        cases hz
        have hkr : w.length % 8 ≤ k := by omega
        have : (2 : Int) ^ (w.length % 8) ≤ 2 ^ k := by
          have h2 : (2 : Nat) ^ (w.length % 8) ≤ 2 ^ k := Nat.pow_le_pow_right (by omega) hkr
          exact_mod_cast h2
        have : y / 2 ^ k = 0 := Int.ediv_eq_zero_of_lt y0 (by omega)
        rw [this]
        rfl
    have b0 := bit 0 (by omega)
    have b1 := bit 1 (by omega)
    have b2 := bit 2 (by omega)
    have b3 := bit 3 (by omega)
    have b4 := bit 4 (by omega)
    have b5 := bit 5 (by omega)
    have b6 := bit 6 (by omega)
    have b7 := bit 7 (by omega)
    rw [Nat.add_zero] at b0
    unfold byteAt
    rw [b0, b1, b2, b3, b4, b5, b6, b7]
    have := byte_bits y0 y1
    simpa using this
  · rw [List.getElem?_eq_none (by omega), List.getElem?_eq_none (by simpa using hj)]
    rfl
-- alphabets
/-- Neighbours left out: what slices.Compact leaves. -/
def compact : List Int → List Int
  | [] => []
  | [a] => [a]
  | a :: b :: r => if a = b then compact (b :: r) else a :: compact (b :: r)
theorem compact_le : ∀ l : List Int, (compact l).length ≤ l.length
  | [] => by simp [compact]
  | [a] => by simp [compact]
  | a :: b :: r => by
    have := compact_le (b :: r)
    unfold compact
    split
    · simp only [List.length_cons] at this ⊢; omega
    · simp only [List.length_cons] at this ⊢; omega
/-- Of a list in order: shorter then, if and only if two are alike. -/
theorem compact_sorted : ∀ l : List Int, l.Pairwise (· ≤ ·) → ((compact l).length < l.length ↔ ¬ l.Nodup)
  | [], _ => by simp [compact]
  | [a], _ => by simp [compact]
  | a :: b :: r, h => by
    obtain ⟨h1, h2⟩ := List.pairwise_cons.1 h
    have ih := compact_sorted (b :: r) h2
    have hle := compact_le (b :: r)
    unfold compact
    split
    · rename_i e
      subst e
      constructor
      · intro _ hn
        exact (List.nodup_cons.1 hn).1 (by simp)
      · intro _
        simp only [List.length_cons] at hle ⊢
        omega
    · rename_i e
      have hab : a ∉ b :: r := by
        intro hm
        rcases List.mem_cons.1 hm with rfl | hm
        · exact e rfl
        · have g1 := h1 b (by simp)
          have g2 := (List.pairwise_cons.1 h2).1 a hm
          omega
      rw [List.nodup_cons]
      simp only [List.length_cons] at ih ⊢
      constructor
      · intro hlt hn
        exact (ih.1 (by omega)) hn.2
      · intro hn
        have : ¬ (b :: r).Nodup := fun hd => hn ⟨hab, hd⟩
        have := ih.2 this
        omega
theorem nodup_perm {l m : List Int} (h : l.Perm m) : l.Nodup ↔ m.Nodup := h.nodup_iff
/-- The reference looks at each two. -/
theorem nodup_pairs {l : List Int} : l.Nodup ↔ ∀ i k : Nat, k < i → i < l.length → l[i]? ≠ l[k]? := by
  constructor
  · intro h i k hk hi e
    have h1 : l[i]? = some l[i] := by simp [hi]
    have h2 : l[k]? = some (l[k]'(by omega)) := by simp [show k < l.length by omega]
    rw [h1, h2] at e
    injection e with e
    have := (List.getElem_inj h).1 e
    omega
  · intro h
    rw [List.Nodup, List.pairwise_iff_getElem]
    intro i j hi hj hij e
    refine h j i hij hj ?_
    simp [hi, hj, e]
end Go.Tab
end
section
set_option linter.unusedSimpArgs false
set_option linter.unusedVariables false
/- The kit's sort, done to numbers, and what is left when neighbours that are alike are left out; for TextTables; no condition. -/
namespace Go.Tab
open Go.Sort
theorem sorted_merge (xs : List Int) : (xs.mergeSort fun x y => decide (x ≤ y)).Pairwise (· ≤ ·) := by
  have h := List.pairwise_mergeSort (le := fun x y : Int => decide (x ≤ y)) (fun a b c h1 h2 => by simp at *; omega) (fun a b => by simp; omega) xs
  exact h.imp fun h => of_decide_eq_true h
theorem compact_merge (xs : List Int) : ((compact (xs.mergeSort fun x y => decide (x ≤ y))).length < xs.length ↔ ¬ xs.Nodup) := by
  have h := compact_sorted _ (sorted_merge xs)
  rw [List.length_mergeSort] at h
  rw [h, nodup_perm (List.mergeSort_perm xs _)]
theorem compact_sort (xs : List Int) : ((compact (sort ltInt xs.toArray).toList).length < xs.length ↔ ¬ xs.Nodup) := by
  rw [sortInt xs]
  exact compact_merge xs
end Go.Tab
end
section
set_option linter.unusedSimpArgs false
set_option linter.unusedVariables false
/- A whole table and a whole packed text, as both lay them; plain lists; for TextTables; no condition but those that each names. -/
namespace Go.Tab
/-- A table of an alphabet at a place. -/
def tabU (t : Int) (l : List Int) : List Int :=
  by4 (22 + sizeB l.length l) ++ by4 (cntN l.length l + 2) ++ by4 (U (t + 12)) ++ (0 :: (by4 (U (t + 21)) ++ by4 (U (t + 22)) ++ [1])) ++ nodeU l.length (t + 22) l
/-- The program: a root whose left node is the end's. -/
theorem tab_prog (t : Int) (l : List Int) :
    by4 (12 + (branchU (t + 12) [1] (nodeU l.length (t + 22) l)).length) ++ by4 (cntN l.length l + 2) ++ by4 (U (t + 12)) ++ branchU (t + 12) [1] (nodeU l.length (t + 22) l) = tabU t l := by
  have e1 : (branchU (t + 12) [1] (nodeU l.length (t + 22) l)).length = 10 + sizeB l.length l := by
    unfold branchU
    simp only [List.length_cons, List.length_append, nodeU_len]
    simp only [by4, List.length_cons, List.length_nil]
    omega
  have e2 : (12 : Int) + ((10 + sizeB l.length l : Nat) : Int) = 22 + (sizeB l.length l : Int) := by omega
  have e3 : t + 12 + 9 = t + 21 := by omega
  have e4 : t + 21 + 1 = t + 22 := by omega
  rw [e1, e2]
  unfold tabU branchU
  simp only [List.length_cons, List.length_nil, e3]
  simp [e4, List.append_assoc]
/-- The reference: what there is ahead of the nodes has 22 bytes. -/
theorem tab_ref_len (t : Int) (l : List Int) : (by4 (22 + sizeB l.length l) ++ by4 (cntN l.length l + 2) ++ by4 (U (t + 12)) ++ (0 :: (by4 (U (t + 21)) ++ by4 (U (t + 22)) ++ [1]))).length = 22 := by
  simp [by4]
/-- The bits of a text: a one, and the way, for each character; a zero at the end. -/
def bitsU (xs l : List Int) : List Int := l.flatMap fun c => 1 :: pathB xs.length (xs.idxOf c)
def packT (xs l : List Int) : List Int := 225 :: packU (bitsU xs l ++ [0])
theorem bitsU_snoc (xs l : List Int) (c : Int) : bitsU xs (l ++ [c]) = bitsU xs l ++ 1 :: pathB xs.length (xs.idxOf c) := by unfold bitsU; simp
theorem pathB_bit : ∀ (n i : Nat), ∀ b ∈ pathB n i, b = 0 ∨ b = 1 := by
  intro n
  induction n using Nat.strongRecOn with
  | _ n ih =>
    intro i b hb
    rw [pathB] at hb
    split at hb
    · simp at hb
    · split at hb
      · rcases List.mem_cons.1 hb with rfl | hb
        · exact .inl rfl
        · exact ih (n / 2) (by omega) _ b hb
      · rcases List.mem_cons.1 hb with rfl | hb
        · exact .inr rfl
        · exact ih (n - n / 2) (by omega) _ b hb
theorem bitsU_bit (xs l : List Int) : ∀ b ∈ bitsU xs l ++ [0], b = 0 ∨ b = 1 := by
  intro b hb
  rcases List.mem_append.1 hb with hb | hb
  · obtain ⟨c, _, hb⟩ := List.mem_flatMap.1 hb
    rcases List.mem_cons.1 hb with rfl | hb
    · exact .inr rfl
    · exact pathB_bit _ _ b hb
  · rw [List.mem_singleton.1 hb]
    exact .inl rfl
theorem pathB_len : ∀ (n i : Nat), (pathB n i).length ≤ n := by
  intro n
  induction n using Nat.strongRecOn with
  | _ n ih =>
    intro i
    rw [pathB]
    split
    · simp
    · split
      · have := ih (n / 2) (by omega) i
        simp only [List.length_cons]; omega
      · have := ih (n - n / 2) (by omega) (i - n / 2)
        simp only [List.length_cons]; omega
theorem bitsU_len (xs : List Int) : ∀ l : List Int, (bitsU xs l).length ≤ l.length * (xs.length + 1)
  | [] => by simp [bitsU]
  | c :: l => by
    have h1 := bitsU_len xs l
    have h2 := pathB_len xs.length (xs.idxOf c)
    have e : (bitsU xs (c :: l)).length = 1 + (pathB xs.length (xs.idxOf c)).length + (bitsU xs l).length := by unfold bitsU; simp; omega
    rw [e, List.length_cons, Nat.succ_mul]
    omega
/-- The errors: 4 of too many, 6 of two alike, 5 of a character that the alphabet lacks. -/
def alphE (xs : List Int) : Int := if xs.length > 1024 then 4 else if xs.Nodup then 0 else 6
def packE (xs l : List Int) : Int := if alphE xs ≠ 0 then alphE xs else if ∀ c ∈ l, c ∈ xs then 0 else 5
def tabO (t : Int) (xs : List Int) : List Int := if alphE xs = 0 then tabU t xs else []
def packO (xs l : List Int) : List Int := if packE xs l = 0 then packT xs l else []
end Go.Tab
end
