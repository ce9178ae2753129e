/- Lemmas of the abstract condition ahead of code (a part of the library that the claim's proof stands on); they hold with no condition but those that each names. -/
import Derived.Test.YtlofpopejkohbaaGreatAISep
import Derived.Test.YtlofpopejkohbaaGreatGyLaw
import Derived.Test.YtlofpopejkohbaaGreatGyZ
import Derived.IntWalk
import Derived.Laws.Strings
section
set_option linter.unusedSimpArgs false
set_option linter.unusedVariables false
/- Files as a list by their names: insertion, finding, changing, deleting, how many bytes; no condition but those that each names. -/
namespace Go.Shelf
structure Fi where
  nm : List UInt8
  b : List Int
def Srt (F : List Fi) : Prop := F.Pairwise fun x y => x.nm < y.nm
def insF (f : Fi) : List Fi → List Fi
  | [] => [f]
  | g :: F => if f.nm < g.nm then f :: g :: F else g :: insF f F
def hasF (F : List Fi) (n : List UInt8) : Bool := F.any (·.nm == n)
def setB (n : List UInt8) (b : List Int) (F : List Fi) : List Fi := F.map fun f => if f.nm = n then { f with b := b } else f
def delF (n : List UInt8) (F : List Fi) : List Fi := F.filter fun f => !(f.nm == n)
def totF (F : List Fi) : Nat := (F.map (·.b.length)).sum
theorem lt_irrefl (a : List UInt8) : ¬ a < a := List.lt_irrefl a
theorem lt_total {a b : List UInt8} (h : ¬ a < b) (h2 : ¬ b < a) : a = b := List.le_antisymm (List.not_lt.1 h2) (List.not_lt.1 h)
theorem hasF_iff {F : List Fi} {n : List UInt8} : hasF F n = true ↔ ∃ f ∈ F, f.nm = n := by simp [hasF]
theorem hasF_false {F : List Fi} {n : List UInt8} : hasF F n = false ↔ ∀ f ∈ F, f.nm ≠ n := by simp [hasF]
theorem insF_perm (f : Fi) : ∀ F : List Fi, (insF f F).Perm (f :: F)
  | [] => .refl _
  | g :: F => by
    unfold insF
    split
    · exact .refl _
    · exact (List.Perm.cons g (insF_perm f F)).trans (.swap f g F)
theorem insF_srt {f : Fi} : ∀ {F : List Fi}, Srt F → (∀ g ∈ F, g.nm ≠ f.nm) → Srt (insF f F)
  | [], _, _ => by simp [insF, Srt]
  | g :: F, h, hn => by
    obtain ⟨h1, h2⟩ := List.pairwise_cons.1 h
    unfold insF
    split
    · rename_i hl
      refine List.pairwise_cons.2 ⟨fun x hx => ?_, h⟩
      rcases List.mem_cons.1 hx with rfl | hx
      · exact hl
      · exact List.lt_trans hl (h1 x hx)
    · rename_i hl
      have hg : g.nm < f.nm := by
        by_cases hgf : g.nm < f.nm
        · exact hgf
        · exact absurd (lt_total hgf hl) (hn g (by simp))
      refine List.pairwise_cons.2 ⟨fun x hx => ?_, insF_srt h2 fun x hx => hn x (by simp [hx])⟩
      rcases List.mem_cons.1 ((insF_perm f F).mem_iff.1 hx) with rfl | hx
      · exact hg
      · exact h1 x hx
theorem setB_nm (n : List UInt8) (b : List Int) (F : List Fi) : (setB n b F).map (·.nm) = F.map (·.nm) := by
  unfold setB
  rw [List.map_map]
  refine List.map_congr_left fun f _ => ?_
  simp only [Function.comp]
  split <;> rfl
theorem setB_srt {n : List UInt8} {b : List Int} {F : List Fi} (h : Srt F) : Srt (setB n b F) := by
  have h1 : (F.map (·.nm)).Pairwise (· < ·) := List.pairwise_map.2 h
  rw [← setB_nm n b F] at h1
  exact List.pairwise_map.1 h1
theorem delF_srt {n : List UInt8} {F : List Fi} (h : Srt F) : Srt (delF n F) := h.filter _
theorem totF_insF (f : Fi) (F : List Fi) : totF (insF f F) = f.b.length + totF F := by
  unfold totF
  rw [((insF_perm f F).map _).sum_nat]
  simp
theorem srt_inj {F : List Fi} (h : Srt F) {x y : Fi} (hx : x ∈ F) (hy : y ∈ F) (e : x.nm = y.nm) : x = y := by
  induction F with
  | nil => cases hx
  | cons g F ih =>
    obtain ⟨h1, h2⟩ := List.pairwise_cons.1 h
    rcases List.mem_cons.1 hx with e1 | k1 <;> rcases List.mem_cons.1 hy with e2 | k2
    · rw [e1, e2]
    · have := h1 y k2; rw [← e1, e] at this; exact absurd this (lt_irrefl _)
    · have := h1 x k1; rw [← e2, e] at this; exact absurd this (lt_irrefl _)
    · exact ih h2 k1 k2
/-- Two lists by names with the same files are one. -/
theorem srt_eq {F G : List Fi} (h1 : Srt F) (h2 : Srt G) (hp : F.Perm G) : F = G := by
  refine List.Perm.eq_of_pairwise (le := fun x y : Fi => x.nm < y.nm) ?_ h1 h2 hp
  intro a b _ _ e1 e2
  exact absurd (List.lt_trans e1 e2) (lt_irrefl _)
theorem totF_app (F G : List Fi) : totF (F ++ G) = totF F + totF G := by unfold totF; simp
theorem totF_cons (f : Fi) (F : List Fi) : totF (f :: F) = f.b.length + totF F := by unfold totF; simp
theorem hasF_setB (n m : List UInt8) (b : List Int) (F : List Fi) : hasF (setB n b F) m = hasF F m := by
  have h : ∀ F : List Fi, hasF F m = (F.map (·.nm)).any (· == m) := fun F => by unfold hasF; rw [List.any_map]; rfl
  rw [h, h, setB_nm]
theorem setB_none {n : List UInt8} {b : List Int} : ∀ {F : List Fi}, (∀ f ∈ F, f.nm ≠ n) → setB n b F = F
  | [], _ => rfl
  | f :: F, h => by
    have h1 := setB_none (b := b) (F := F) fun x hx => h x (by simp [hx])
    unfold setB at h1 ⊢
    rw [List.map_cons, h1, if_neg (h f (by simp))]
theorem delF_none {n : List UInt8} {F : List Fi} (h : ∀ f ∈ F, f.nm ≠ n) : delF n F = F := by
  unfold delF
  rw [List.filter_eq_self]
  intro f hf
  simpa using h f hf
/-- The file of a name, and those before and behind it. -/
theorem split_of {F : List Fi} (hs : Srt F) {f : Fi} (hf : f ∈ F) : ∃ F1 F2, F = F1 ++ f :: F2 ∧ (∀ g ∈ F1, g.nm ≠ f.nm) ∧ (∀ g ∈ F2, g.nm ≠ f.nm) := by
  obtain ⟨F1, F2, rfl⟩ := List.append_of_mem hf
  obtain ⟨_, h2, h3⟩ := List.pairwise_append.1 hs
  refine ⟨F1, F2, rfl, fun g hg e => ?_, fun g hg e => ?_⟩
  · have := h3 g hg f (by simp); rw [e] at this; exact lt_irrefl _ this
  · have := (List.pairwise_cons.1 h2).1 g hg; rw [e] at this; exact lt_irrefl _ this
theorem setB_split {F1 F2 : List Fi} {f : Fi} {b : List Int} (h1 : ∀ g ∈ F1, g.nm ≠ f.nm) (h2 : ∀ g ∈ F2, g.nm ≠ f.nm) : setB f.nm b (F1 ++ f :: F2) = F1 ++ { f with b := b } :: F2 := by
  have e1 := setB_none (b := b) h1
  have e2 := setB_none (b := b) h2
  unfold setB at e1 e2 ⊢
  rw [List.map_append, List.map_cons, e1, e2, if_pos rfl]
theorem delF_split {F1 F2 : List Fi} {f : Fi} (h1 : ∀ g ∈ F1, g.nm ≠ f.nm) (h2 : ∀ g ∈ F2, g.nm ≠ f.nm) : delF f.nm (F1 ++ f :: F2) = F1 ++ F2 := by
  have e1 := delF_none h1
  have e2 := delF_none h2
  unfold delF at e1 e2 ⊢
  rw [List.filter_append, List.filter_cons, e1, e2, if_neg (by simp)]
theorem totF_setB {F : List Fi} (hs : Srt F) {f : Fi} (hf : f ∈ F) (b : List Int) : totF (setB f.nm b F) + f.b.length = totF F + b.length := by
  obtain ⟨F1, F2, rfl, h1, h2⟩ := split_of hs hf
  rw [setB_split h1 h2, totF_app, totF_app, totF_cons, totF_cons]
  simp only
  omega
theorem totF_delF {F : List Fi} (hs : Srt F) {f : Fi} (hf : f ∈ F) : totF (delF f.nm F) + f.b.length = totF F := by
  obtain ⟨F1, F2, rfl, h1, h2⟩ := split_of hs hf
  rw [delF_split h1 h2, totF_app, totF_app, totF_cons]
  omega
/-- A streams' row. -/
structure Sm where
  n : Int
  nm : List UInt8
  l : List Int
  mode : Int
  wd : Bool
  pl : Nat
  rd : Nat
  wr : Nat
/-- Bytes laid at a place; behind the end: appended. -/
def setA (b : List Int) (i : Nat) (ps : List Int) : List Int := b.take i ++ ps ++ b.drop (i + ps.length)
def putU (b : List Int) (i : Nat) : List Int → List Int
  | [] => b
  | p :: ps => putU (if i = b.length then b ++ [p] else b.set i p) (i + 1) ps
theorem putU_eq : ∀ (ps b : List Int) (i : Nat), i ≤ b.length → putU b i ps = setA b i ps
  | [], b, i, h => by unfold putU setA; simp
  | p :: ps, b, i, h => by
    unfold putU
    have h1 : (if i = b.length then b ++ [p] else b.set i p) = b.take i ++ p :: b.drop (i + 1) := by
      split
      · rename_i e
        rw [e, List.take_length, List.drop_of_length_le (by omega)]
      · rw [List.set_eq_take_append_cons_drop, if_pos (by omega)]
    rw [h1]
    have hl : (b.take i).length = i := by rw [List.length_take]; omega
    rw [putU_eq ps _ (i + 1) (by rw [List.length_append, hl]; simp)]
    unfold setA
    have e1 : (b.take i ++ p :: b.drop (i + 1)).take (i + 1) = b.take i ++ [p] := by
      rw [List.take_append, hl, List.take_of_length_le (by rw [hl]; omega)]
      simp
    have e2 : (b.take i ++ p :: b.drop (i + 1)).drop (i + 1 + ps.length) = b.drop (i + (p :: ps).length) := by
      rw [List.drop_append, hl, List.drop_of_length_le (by rw [hl]; omega), List.nil_append]
      rw [show i + 1 + ps.length - i = ps.length + 1 by omega, List.drop_succ_cons, List.drop_drop]
      congr 1
      simp only [List.length_cons]
      omega
    rw [e1, e2]
    simp
theorem setA_len {b : List Int} {i : Nat} {ps : List Int} (h : i ≤ b.length) : (setA b i ps).length = max b.length (i + ps.length) := by
  unfold setA
  simp only [List.length_append, List.length_take, List.length_drop]
  omega
end Go.Shelf
end
section
set_option linter.unusedSimpArgs false
set_option linter.unusedVariables false
/- What a shelf is, and what each call does to it: plain lists; no condition but those that each names. -/
namespace Go.Shelf
def putC (w : Bool) (c : Int) : Int := if w then c else if c > 255 then 63 else c
/-- Four bytes of a number, the highest first. -/
def by4 (x : Int) : List Int := [x / 16777216 % 256, x / 65536 % 256, x / 256 % 256, x % 256]
/-- The number of some bytes. -/
def beW (l : List Int) : Int := l.foldl (fun x b => x * 256 + b) 0
def unW (w : Bool) : Nat := match w with | true => 4 | false => 1
/-- How many characters there are, and which. -/
def sizeW (w : Bool) (bs : List Int) : Nat := match w with | true => bs.length / 4 | false => bs.length
def viewAt (w : Bool) (bs : List Int) (p : Nat) : Int := match w with | true => beW ((bs.drop (4 * p)).take 4) | false => bs.getD p 0
def view (w : Bool) (bs : List Int) : List Int := (List.range (sizeW w bs)).map (viewAt w bs)
/-- The bytes that one character is, that many are. -/
def enc1 (w : Bool) (c : Int) : List Int := match w with | true => by4 c | false => [putC false c]
def enc (w : Bool) (l : List Int) : List Int := l.flatMap (enc1 w)
theorem view_len (w : Bool) (bs : List Int) : (view w bs).length = sizeW w bs := by unfold view; simp
theorem view_get {w : Bool} {bs : List Int} {p : Nat} (h : p < sizeW w bs) : (view w bs)[p]? = some (viewAt w bs p) := by
  unfold view
  rw [List.getElem?_map, List.getElem?_range h]
  rfl
theorem sizeW_le (w : Bool) (bs : List Int) : sizeW w bs ≤ bs.length := by cases w <;> simp only [sizeW] <;> omega
theorem sizeW_un (w : Bool) (bs : List Int) : unW w * sizeW w bs ≤ bs.length := by cases w <;> simp only [sizeW, unW] <;> omega
theorem enc1_len (w : Bool) (c : Int) : (enc1 w c).length = unW w := by cases w <;> rfl
theorem enc_len (w : Bool) : ∀ l : List Int, (enc w l).length = unW w * l.length
  | [] => by simp [enc]
  | c :: l => by
    have := enc_len w l
    unfold enc at this ⊢
    rw [List.flatMap_cons, List.length_append, this, enc1_len, List.length_cons, Nat.mul_add]
    omega
theorem enc_nil (w : Bool) : enc w [] = [] := rfl
theorem enc_cons (w : Bool) (c : Int) (l : List Int) : enc w (c :: l) = enc1 w c ++ enc w l := by simp [enc]
theorem enc_app (w : Bool) (a b : List Int) : enc w (a ++ b) = enc w a ++ enc w b := by simp [enc]
theorem enc1_byte {w : Bool} {c : Int} (h : 0 ≤ c) : ∀ b ∈ enc1 w c, 0 ≤ b ∧ b < 256 := by
  cases w with
  | true =>
    intro b hb
    simp only [enc1, by4, List.mem_cons, List.not_mem_nil, or_false] at hb
    rcases hb with rfl | rfl | rfl | rfl <;> omega
  | false =>
    intro b hb
    simp only [enc1, List.mem_singleton] at hb
    subst hb
    unfold putC
    simp only [Bool.false_eq_true, if_false]
    split <;> omega
theorem enc_byte {w : Bool} {l : List Int} (h : ∀ c ∈ l, 0 ≤ c) : ∀ b ∈ enc w l, 0 ≤ b ∧ b < 256 := by
  intro b hb
  obtain ⟨c, hc, hb⟩ := List.mem_flatMap.1 hb
  exact enc1_byte (h c hc) b hb
theorem setA_setA {b : List Int} {i : Nat} {p q : List Int} (h : i ≤ b.length) : setA (setA b i p) (i + p.length) q = setA b i (p ++ q) := by
  have h1 := setA_len (ps := p) h
  unfold setA at h1 ⊢
  have hl : (b.take i).length = i := by rw [List.length_take]; omega
  have e1 : (b.take i ++ p ++ b.drop (i + p.length)).take (i + p.length) = b.take i ++ p := by
    rw [List.take_append_of_le_length (by rw [List.length_append, hl]; omega)]
    exact List.take_of_length_le (by rw [List.length_append, hl]; omega)
  have e2 : (b.take i ++ p ++ b.drop (i + p.length)).drop (i + p.length + q.length) = b.drop (i + (p ++ q).length) := by
    rw [List.drop_append, List.drop_of_length_le (by rw [List.length_append, hl]; omega), List.nil_append, List.length_append, hl, List.drop_drop]
    congr 1
    rw [List.length_append]
    omega
  rw [e1, e2]
  simp
theorem setA_nil (b : List Int) (i : Nat) : setA b i [] = b := by unfold setA; simp
theorem setA_mem {b : List Int} {i : Nat} {p : List Int} {x : Int} (h : x ∈ setA b i p) : x ∈ b ∨ x ∈ p := by
  unfold setA at h
  rcases List.mem_append.1 h with h | h
  · rcases List.mem_append.1 h with h | h
    · exact .inl (List.mem_of_mem_take h)
    · exact .inr h
  · exact .inl (List.mem_of_mem_drop h)
/-- A row of characters that is written to from a place on; what there is no room for is passed over. -/
def bufW (l : List Int) (p : Nat) (ms : List Int) : List Int := l.take p ++ ms.take (l.length - p) ++ l.drop (p + ms.length)
theorem bufW_len {l : List Int} {p : Nat} {ms : List Int} (h : p ≤ l.length) : (bufW l p ms).length = l.length := by
  unfold bufW
  simp only [List.length_append, List.length_take, List.length_drop]
  omega
theorem bufW_nil (l : List Int) (p : Nat) : bufW l p [] = l := by unfold bufW; simp
theorem bufW_snoc {l : List Int} {p : Nat} {ms : List Int} {c : Int} (h : p ≤ l.length) : bufW l p (ms ++ [c]) = if p + ms.length < l.length then (bufW l p ms).set (p + ms.length) c else bufW l p ms := by
  unfold bufW
  split
  · rename_i g
    have e1 : (ms ++ [c]).take (l.length - p) = ms ++ [c] := List.take_of_length_le (by rw [List.length_append]; simp; omega)
    have e2 : ms.take (l.length - p) = ms := List.take_of_length_le (by omega)
    rw [e1, e2]
    have hl : (l.take p ++ ms).length = p + ms.length := by rw [List.length_append, List.length_take]; omega
    rw [List.set_append_right _ _ (by rw [hl]; exact Nat.le_refl _), hl, Nat.sub_self]
    have e3 : l.drop (p + ms.length) = l[p + ms.length]'g :: l.drop (p + ms.length + 1) := List.drop_eq_getElem_cons g
    rw [e3, List.set_cons_zero]
    simp [Nat.add_assoc]
  · rename_i g
    have e1 : (ms ++ [c]).take (l.length - p) = ms.take (l.length - p) := List.take_append_of_le_length (by omega)
    have e2 : l.drop (p + (ms ++ [c]).length) = l.drop (p + ms.length) := by
      rw [List.drop_of_length_le (by rw [List.length_append]; simp; omega), List.drop_of_length_le (by omega)]
    rw [e1, e2]
/-- A line: up to a 10, no longer than n. -/
def lineOf : Nat → List Int → List Int
  | 0, _ => []
  | _ + 1, [] => []
  | n + 1, c :: r => if c = 10 then [c] else c :: lineOf n r
theorem lineOf_len : ∀ (n : Nat) (l : List Int), (lineOf n l).length ≤ l.length
  | 0, _ => by simp [lineOf]
  | _ + 1, [] => by simp [lineOf]
  | n + 1, c :: r => by
    unfold lineOf
    have := lineOf_len n r
    split <;> simp <;> omega
def seekTo (base sz p : Int) : Int := base + max (-base) (min p (sz - base))

/-- The bytes of a name; none: as if it had none. -/
def bOf (F : List Fi) (n : List UInt8) : List Int := match F.find? (·.nm == n) with | some f => f.b | none => []
def charsOf (F : List Fi) (x : Sm) : List Int := if x.nm = [] then x.l else view x.wd (bOf F x.nm)
def named (n : List UInt8) : Prop := 1 ≤ n.length ∧ n.length ≤ 32
instance (n : List UInt8) : Decidable (named n) := inferInstanceAs (Decidable (_ ∧ _))
def held (S : List Sm) (n : List UInt8) : Bool := S.any (·.nm == n)
def heldW (S : List Sm) (n : List UInt8) : Bool := S.any fun x => x.nm == n && x.mode != 2
def atS (S : List Sm) (n : Int) : Option Sm := S.find? (·.n == n)
def setS (x : Sm) (S : List Sm) : List Sm := S.map fun y => if y.n = x.n then x else y
def delS (n : Int) (S : List Sm) : List Sm := S.filter fun y => !(y.n == n)
def putE (most : Int) (F : List Fi) (S : List Sm) (n : List UInt8) (b : List Int) : Int :=
  if ¬ named n then 1 else if held S n then 6 else if hasF F n = false ∧ F.length = 64 then 4 else if (totF F : Int) + b.length - (bOf F n).length > most then 7 else 0
def putF (F : List Fi) (n : List UInt8) (b : List Int) : List Fi := if hasF F n then setB n b F else insF ⟨n, b⟩ F
def delB (F : List Fi) (S : List Sm) (n : List UInt8) : Bool := hasF F n && !held S n
def openE (F : List Fi) (S : List Sm) (n : List UInt8) (mode : Int) : Int :=
  if ¬ named n ∨ ¬ (mode = 1 ∨ mode = 2 ∨ mode = 3 ∨ mode = 5) then 1 else if S.length = 64 then 4 else if hasF F n = false ∧ mode = 2 then 5 else if hasF F n = false ∧ F.length = 64 then 4
  else if held S n = true ∧ (heldW S n = true ∨ mode ≠ 2) then 6 else 0
def openF (F : List Fi) (n : List UInt8) (mode : Int) : List Fi := if hasF F n then (if mode = 1 then setB n [] F else F) else insF ⟨n, []⟩ F
def openS (F : List Fi) (last : Int) (n : List UInt8) (mode : Int) (w : Bool) : Sm := ⟨last + 1, n, [], mode, w, if mode = 5 then sizeW w (bOf (openF F n mode) n) else 0, 0, 0⟩
def bufE (S : List Sm) (len : Nat) (mode : Int) : Int := if mode < 1 ∨ mode > 3 ∨ len > 4096 then 1 else if S.length = 64 then 4 else 0
def bufS (last : Int) (l : List Int) (mode : Int) (w : Bool) : Sm := ⟨last + 1, [], l.map (putC w), mode, w, 0, 0, 0⟩
/-- A stream that is written to; the bytes of its file behind that. -/
def wrB (b : List Int) (x : Sm) (ms : List Int) : List Int := setA b (unW x.wd * x.pl) (enc x.wd ms)
def wrE (most : Int) (F : List Fi) (x : Sm) (ms : List Int) : Int :=
  if x.mode = 2 then 1 else if x.nm ≠ [] ∧ (totF F : Int) - (bOf F x.nm).length + (wrB (bOf F x.nm) x ms).length > most then 7 else 0
def wrF (F : List Fi) (x : Sm) (ms : List Int) : List Fi := if x.nm = [] then F else setB x.nm (wrB (bOf F x.nm) x ms) F
def wrS (x : Sm) (ms : List Int) : Sm :=
  if x.nm = [] then { x with l := bufW x.l x.pl (ms.map (putC x.wd)), pl := min (x.pl + ms.length) x.l.length, wr := x.wr + ms.length } else { x with pl := x.pl + ms.length, wr := x.wr + ms.length }
def reads (x : Sm) : Bool := x.mode == 2 || x.mode == 3
def rdS (x : Sm) (k : Nat) : Sm := { x with pl := x.pl + k, rd := x.rd + k }
def seekE (q : Int) : Int := if q < 0 ∨ 2 < q then 1 else 0
def seekS (F : List Fi) (x : Sm) (p q : Int) : Sm :=
  { x with pl := (seekTo (if q = 0 then 0 else if q = 1 then x.pl else (charsOf F x).length) (charsOf F x).length p).toNat }

/-- A shelf that is well, behind so many acts. -/
structure Ok (most last : Int) (F : List Fi) (S : List Sm) (k : Nat) : Prop where
  most0 : 0 ≤ most
  most1 : most ≤ 1048576
  last0 : 0 ≤ last
  last1 : last ≤ k
  kle : k ≤ 1024
  srt : Srt F
  nm : ∀ f ∈ F, named f.nm
  byte : ∀ f ∈ F, ∀ c ∈ f.b, 0 ≤ c ∧ c < 256
  flen : F.length ≤ 64
  tot : (totF F : Int) ≤ most
  sn : S.Pairwise fun x y => x.n < y.n
  sle : ∀ x ∈ S, 1 ≤ x.n ∧ x.n ≤ last
  slen : S.length ≤ 64
  has : ∀ x ∈ S, x.nm ≠ [] → hasF F x.nm = true
  pl : ∀ x ∈ S, x.pl ≤ (charsOf F x).length
  ln : ∀ x ∈ S, x.l.length ≤ 4096
  lc : ∀ x ∈ S, ∀ c ∈ x.l, 0 ≤ c ∧ c ≤ 4294967295
  l0 : ∀ x ∈ S, x.nm ≠ [] → x.l = []
  md : ∀ x ∈ S, x.mode = 1 ∨ x.mode = 2 ∨ x.mode = 3 ∨ x.mode = 5
  rd : ∀ x ∈ S, x.rd ≤ 1048576 * k
  wr : ∀ x ∈ S, x.wr ≤ 1048576 * k
theorem totF_mem {F : List Fi} {f : Fi} (h : f ∈ F) : f.b.length ≤ totF F := by
  obtain ⟨A, B, rfl⟩ := List.append_of_mem h
  rw [totF_app, totF_cons]
  omega
theorem bOf_mem {F : List Fi} (hs : Srt F) {f : Fi} (h : f ∈ F) : bOf F f.nm = f.b := by
  unfold bOf
  cases hf : F.find? (·.nm == f.nm) with
  | none =>
    have := List.find?_eq_none.1 hf f h
    simp at this
  | some g =>
    have h1 := List.mem_of_find?_eq_some hf
    have h2 := List.find?_some hf
    have : g = f := srt_inj hs h1 h (by simpa using h2)
    rw [this]
theorem bOf_none {F : List Fi} {n : List UInt8} (h : hasF F n = false) : bOf F n = [] := by
  unfold bOf
  have : F.find? (·.nm == n) = none := List.find?_eq_none.2 fun f hf => by
    have := hasF_false.1 h f hf
    simpa using this
  rw [this]
theorem bOf_byte {F : List Fi} (hb : ∀ f ∈ F, ∀ c ∈ f.b, 0 ≤ c ∧ c < 256) (n : List UInt8) : ∀ c ∈ bOf F n, 0 ≤ c ∧ c < 256 := by
  unfold bOf
  cases hf : F.find? (·.nm == n) with
  | none => simp
  | some g => exact hb g (List.mem_of_find?_eq_some hf)
theorem bOf_len {F : List Fi} (n : List UInt8) : (bOf F n).length ≤ totF F := by
  unfold bOf
  cases hf : F.find? (·.nm == n) with
  | none => simp
  | some g => exact totF_mem (List.mem_of_find?_eq_some hf)
theorem bOf_setB {F : List Fi} {n m : List UInt8} {b : List Int} : bOf (setB n b F) m = if n = m ∧ hasF F m = true then b else bOf F m := by
  induction F with
  | nil => simp [bOf, setB, hasF]
  | cons g F ih =>
    unfold bOf setB at ih ⊢
    rw [List.map_cons, List.find?_cons, List.find?_cons]
    have e1 : (if g.nm = n then ({ g with b := b } : Fi) else g).nm = g.nm := by split <;> rfl
    rw [e1]
    by_cases hg : g.nm = m
    · have : (g.nm == m) = true := by simpa using hg
      rw [this]
      simp only
      have hh : hasF (g :: F) m = true := hasF_iff.2 ⟨g, by simp, hg⟩
      rw [hh]
      by_cases hn : n = m
      · have h1 : g.nm = n := hg.trans hn.symm
        have h2 : n = m ∧ true = true := ⟨hn, rfl⟩
        rw [if_pos h1, if_pos h2]
      · have h1 : ¬ g.nm = n := fun e => hn (e.symm.trans hg)
        have h2 : ¬ (n = m ∧ true = true) := fun h => hn h.1
        rw [if_neg h1, if_neg h2]
    · have : (g.nm == m) = false := by simpa using hg
      rw [this]
      simp only
      have hh : hasF (g :: F) m = hasF F m := by simp [hasF, hg]
      rw [hh]
      exact ih
theorem bOf_insF {F : List Fi} (hs : Srt F) {f : Fi} (hn : hasF F f.nm = false) (m : List UInt8) : bOf (insF f F) m = if f.nm = m then f.b else bOf F m := by
  have hno := hasF_false.1 hn
  have hs' : Srt (insF f F) := insF_srt hs hno
  have hp := insF_perm f F
  by_cases e : f.nm = m
  · rw [if_pos e, ← e]
    exact bOf_mem hs' (hp.mem_iff.2 (by simp))
  · rw [if_neg e]
    cases hm : hasF F m with
    | true =>
      obtain ⟨g, hg, rfl⟩ := hasF_iff.1 hm
      rw [bOf_mem hs hg]
      exact bOf_mem hs' (hp.mem_iff.2 (by simp [hg]))
    | false =>
      rw [bOf_none hm]
      apply bOf_none
      refine hasF_false.2 fun g hg => ?_
      rcases List.mem_cons.1 (hp.mem_iff.1 hg) with rfl | hg
      · exact e
      · exact hasF_false.1 hm g hg
theorem hasF_insF (f : Fi) (F : List Fi) (m : List UInt8) : hasF (insF f F) m = (f.nm == m || hasF F m) := by
  have hp := insF_perm f F
  unfold hasF
  rw [hp.any_eq, List.any_cons]
theorem bOf_delF {F : List Fi} {n m : List UInt8} (h : n ≠ m) : bOf (delF n F) m = bOf F m := by
  unfold bOf delF
  rw [List.find?_filter]
  congr 2
  funext f
  by_cases e : f.nm = m
  · have h1 : (f.nm == m) = true := by simpa using e
    have h2 : (f.nm == n) = false := by rw [e]; simpa using fun e => h e.symm
    rw [h1, h2]; rfl
  · have h1 : (f.nm == m) = false := by simpa using e
    rw [h1]; simp
theorem hasF_delF {F : List Fi} {n m : List UInt8} (h : n ≠ m) : hasF (delF n F) m = hasF F m := by
  unfold hasF delF
  rw [List.any_filter]
  congr 1
  funext f
  by_cases e : f.nm = m
  · have h1 : (f.nm == m) = true := by simpa using e
    have h2 : (f.nm == n) = false := by rw [e]; simpa using fun e => h e.symm
    rw [h1, h2]; rfl
  · have h1 : (f.nm == m) = false := by simpa using e
    rw [h1]; simp
theorem charsOf_len (F : List Fi) (x : Sm) : (charsOf F x).length = if x.nm = [] then x.l.length else sizeW x.wd (bOf F x.nm) := by
  unfold charsOf
  split
  · rfl
  · rw [view_len]
end Go.Shelf
end
section
set_option linter.unusedSimpArgs false
set_option linter.unusedVariables false
set_option maxRecDepth 100000
/- The program's shelf inside a world: what its functions' contracts stand on; no condition but those that each names. -/
namespace Go.AI
open Go.Proofs Go.Shelf
theorem tri_iz {f : Nat} {args : List Value} {σ : AS} {K : Value → AS → Prop} (h : fw Tryz.prog hintsZ (Tri Tryz.prog) f args σ K) : Tri Tryz.prog f args σ K := tri_fw Tryz.checked.mixed noGoS h
theorem sz54 : szOf Tryz.prog 32 = 1 := by kernel_rfl
theorem sz5 : szOf Tryz.prog 5 = 1 := by kernel_rfl
theorem setS_at : ∀ {S : List Sm} {i : Nat} {x y : Sm}, (S.Pairwise fun x y => x.n < y.n) → S[i]? = some x → y.n = x.n → S.set i y = setS y S
  | [], i, x, y, _, h, _ => by simp at h
  | z :: S, 0, x, y, hs, h, hn => by
    simp at h
    subst h
    obtain ⟨h1, h2⟩ := List.pairwise_cons.1 hs
    have h3 : S.map (fun q => if q.n = y.n then y else q) = S := by
      conv => rhs; rw [← List.map_id S]
      refine List.map_congr_left fun q hq => ?_
      have := h1 q hq
      rw [if_neg (by omega)]
      rfl
    unfold setS
    rw [List.set_cons_zero, List.map_cons, h3, if_pos hn.symm]
  | z :: S, i + 1, x, y, hs, h, hn => by
    have h' : S[i]? = some x := by simpa using h
    obtain ⟨h1, h2⟩ := List.pairwise_cons.1 hs
    have h3 := setS_at h2 h' hn
    have h4 := h1 x (List.mem_of_getElem? h')
    unfold setS at h3 ⊢
    rw [List.set_cons_succ, h3, List.map_cons, if_neg (by omega)]
theorem setA_step {b P : List Int} {i q : Nat} {p : Int} (hi : i ≤ b.length) (hp : P[q]? = some p) :
    (if i + q = (setA b i (P.take q)).length then setA b i (P.take q) ++ [0] else setA b i (P.take q)).set (i + q) p = setA b i (P.take (q + 1)) := by
  have hq := (List.getElem?_eq_some_iff.1 hp).1
  have hl : (P.take q).length = q := by rw [List.length_take]; omega
  have e1 : P.take (q + 1) = P.take q ++ [p] := by rw [List.take_add_one, hp]; rfl
  have hB := setA_len (ps := P.take q) hi
  rw [hl] at hB
  have h2 := setA_setA (b := b) (i := i) (p := P.take q) (q := [p]) hi
  rw [hl] at h2
  rw [e1, ← h2]
  generalize setA b i (P.take q) = B at hB
  unfold setA
  split
  · rename_i h
    rw [h, List.take_length, List.drop_of_length_le (by simp)]
    rw [List.set_append_right _ _ (Nat.le_refl _), Nat.sub_self]
    simp
  · rename_i h
    rw [List.set_eq_take_append_cons_drop, if_pos (by omega)]
    simp
structure OkD (F : List Fi) (S : List Sm) (B : Nat) : Prop where
  srt : Srt F
  byte : ∀ f ∈ F, ∀ c ∈ f.b, 0 ≤ c ∧ c < 256
  flen : F.length ≤ 64
  f1 : ∀ f ∈ F, f.b.length ≤ 1048576
  sn : S.Pairwise fun x y => x.n < y.n
  slen : S.length ≤ 64
  has : ∀ x ∈ S, x.nm ≠ [] → hasF F x.nm = true
  rd : ∀ x ∈ S, x.rd ≤ B
  ln : ∀ x ∈ S, x.l.length ≤ 4096
  pl : ∀ x ∈ S, x.pl ≤ (charsOf F x).length
theorem chars_le {F : List Fi} {S : List Sm} {B : Nat} (ok : OkD F S B) {x : Sm} (h : x ∈ S) : (charsOf F x).length ≤ 1048576 := by
  rw [charsOf_len]
  split
  · have := ok.ln x h; omega
  · have h1 := sizeW_le x.wd (bOf F x.nm)
    have h2 : (bOf F x.nm).length ≤ 1048576 := by
      unfold bOf
      cases hf : F.find? (·.nm == x.nm) with
      | none => simp
      | some g => exact ok.f1 g (List.mem_of_find?_eq_some hf)
    omega
theorem atS_mem {S : List Sm} {n : Int} {x : Sm} (h : atS S n = some x) : x ∈ S ∧ x.n = n := by
  refine ⟨List.mem_of_find?_eq_some h, ?_⟩
  have := List.find?_some h
  simpa using this
theorem setS_mem {S : List Sm} {x y : Sm} (h : y ∈ setS x S) : y = x ∨ y ∈ S := by
  obtain ⟨z, hz, rfl⟩ := List.mem_map.1 h
  split
  · exact .inl rfl
  · exact .inr hz
theorem setS_n {S : List Sm} (x : Sm) : (setS x S).map (·.n) = S.map (·.n) := by
  unfold setS
  rw [List.map_map]
  refine List.map_congr_left fun y _ => ?_
  simp only [Function.comp]
  split
  · rename_i h; exact h.symm
  · rfl
theorem setS_sn {S : List Sm} {x : Sm} (h : S.Pairwise fun x y => x.n < y.n) : (setS x S).Pairwise fun x y => x.n < y.n := by
  have h1 : (S.map (·.n)).Pairwise (· < ·) := List.pairwise_map.2 h
  rw [← setS_n x] at h1
  exact List.pairwise_map.1 h1
theorem OkD.rdS {F : List Fi} {S : List Sm} {B : Nat} (ok : OkD F S B) {x : Sm} (h : x ∈ S) {k : Nat} (hp : x.pl + k ≤ (charsOf F x).length) : OkD F (setS (rdS x k) S) (B + k) := by
  refine ⟨ok.srt, ok.byte, ok.flen, ok.f1, setS_sn ok.sn, by unfold setS; rw [List.length_map]; exact ok.slen, ?_, ?_, ?_, ?_⟩
  · intro y hy
    rcases setS_mem hy with rfl | hy
    · exact ok.has x h
    · exact ok.has y hy
  · intro y hy
    rcases setS_mem hy with rfl | hy
    · have := ok.rd x h
      show x.rd + k ≤ B + k
      omega
    · have := ok.rd y hy; omega
  · intro y hy
    rcases setS_mem hy with rfl | hy
    · exact ok.ln x h
    · exact ok.ln y hy
  · intro y hy
    rcases setS_mem hy with rfl | hy
    · exact hp
    · exact ok.pl y hy
theorem atS_setS {S : List Sm} {n : Int} {x y : Sm} (h : atS S n = some x) (hn : y.n = x.n) : atS (setS y S) n = some y := by
  induction S with
  | nil => cases h
  | cons z S ih =>
    unfold atS setS at *
    rw [List.find?_cons] at h
    rw [List.map_cons, List.find?_cons]
    cases hz : (z.n == n) with
    | true =>
      rw [hz] at h
      cases h
      rw [if_pos hn.symm]
      have : (y.n == n) = true := by rw [hn]; exact hz
      rw [this]
    | false =>
      rw [hz] at h
      have hx := (atS_mem h).2
      have hzn : z.n ≠ n := by simpa using hz
      have hyn : y.n = n := by rw [hn]; exact hx
      rw [if_neg (by rw [hyn]; exact hzn), hz]
      exact ih h
theorem setS_setS (S : List Sm) {x y : Sm} (h : x.n = y.n) : setS y (setS x S) = setS y S := by
  unfold setS
  rw [List.map_map]
  refine List.map_congr_left fun z _ => ?_
  simp only [Function.comp]
  by_cases e : z.n = x.n
  · rw [if_pos e, if_pos h, if_pos (e.trans h)]
  · rw [if_neg e]
theorem setS_self {S : List Sm} {n : Int} {x : Sm} (hs : S.Pairwise fun x y => x.n < y.n) (h : x ∈ S) : setS x S = S := by
  unfold setS
  conv => rhs; rw [← List.map_id S]
  refine List.map_congr_left fun z hz => ?_
  by_cases e : z.n = x.n
  · rw [if_pos e]
    obtain ⟨i, hi⟩ := List.getElem?_of_mem h
    obtain ⟨j, hj⟩ := List.getElem?_of_mem hz
    have hi' := List.getElem?_eq_some_iff.1 hi
    have hj' := List.getElem?_eq_some_iff.1 hj
    have hp := List.pairwise_iff_getElem.1 hs
    rcases Nat.lt_trichotomy i j with g | g | g
    · have := hp i j hi'.1 hj'.1 g
      rw [hi'.2, hj'.2] at this
      omega
    · subst g
      rw [hi] at hj
      cases hj
      rfl
    · have := hp j i hj'.1 hi'.1 g
      rw [hi'.2, hj'.2] at this
      omega
  · rw [if_neg e]; rfl
theorem reads_rdS (x : Sm) (k : Nat) : reads (rdS x k) = reads x := rfl
theorem charsOf_rdS (F : List Fi) (x : Sm) (k : Nat) : charsOf F (rdS x k) = charsOf F x := rfl
theorem rdS_rdS (x : Sm) (j k : Nat) : rdS (rdS x j) k = rdS x (j + k) := by
  unfold rdS
  simp only [Nat.add_assoc]
theorem rdS_zero (x : Sm) : rdS x 0 = x := rfl
theorem seekTo_in {base sz p : Int} (h0 : 0 ≤ base) (h1 : base ≤ sz) : 0 ≤ seekTo base sz p ∧ seekTo base sz p ≤ sz := by
  unfold seekTo
  omega
theorem delS_at : ∀ {S : List Sm} {i : Nat} {x : Sm}, (S.Pairwise fun x y => x.n < y.n) → S[i]? = some x → S.take i ++ S.drop (i + 1) = delS x.n S := by
  intro S i x hs h
  have hlt := (List.getElem?_eq_some_iff.1 h).1
  have e : S = S.take i ++ x :: S.drop (i + 1) := by
    have := (List.getElem?_eq_some_iff.1 h).2
    rw [← this, ← List.drop_eq_getElem_cons hlt, List.take_append_drop]
  have hs' := hs
  rw [e] at hs'
  obtain ⟨_, q2, q3⟩ := List.pairwise_append.1 hs'
  have a1 : (S.take i).filter (fun y => !(y.n == x.n)) = S.take i := List.filter_eq_self.2 fun y hy => by
    have := q3 y hy x (by simp)
    have : (y.n == x.n) = false := by simp; omega
    rw [this]; rfl
  have a2 : (S.drop (i + 1)).filter (fun y => !(y.n == x.n)) = S.drop (i + 1) := List.filter_eq_self.2 fun y hy => by
    have := (List.pairwise_cons.1 q2).1 y hy
    have : (y.n == x.n) = false := by simp; omega
    rw [this]; rfl
  unfold delS
  conv => rhs; rw [e, List.filter_append, List.filter_cons, a1, a2]
  simp
theorem _root_.Go.Shelf.Ok.flen1 {most last : Int} {F : List Fi} {S : List Sm} {k : Nat} (ok : Ok most last F S k) : ∀ f ∈ F, f.b.length ≤ 1048576 := fun f hf => by
  have h1 := totF_mem hf
  have h2 := ok.tot
  have h3 := ok.most1
  omega
theorem _root_.Go.Shelf.Ok.d {most last : Int} {F : List Fi} {S : List Sm} {k : Nat} (ok : Ok most last F S k) : OkD F S (1048576 * k) :=
  ⟨ok.srt, ok.byte, ok.flen, ok.flen1, ok.sn, ok.slen, ok.has, ok.rd, ok.ln, ok.pl⟩
end Go.AI
end
section
/- Words and bytes: what word.Be and word.Put of four bytes do. -/
set_option maxRecDepth 4000
set_option linter.unusedVariables false
set_option linter.unusedSimpArgs false
namespace Go.AI
open Go.Proofs Go.Shelf
theorem flat_rep (z : Value) : ∀ m, (List.replicate m [z]).flatten = List.replicate m z
  | 0 => rfl
  | m + 1 => by simp [List.replicate_succ, flat_rep z m]
theorem set_rep {A : List Value} {z v : Value} {n i : Nat} (h : A.length = i) : (A ++ List.replicate (n + 1) z).set i v = A ++ [v] ++ List.replicate n z := by
  subst h
  rw [List.set_append_right _ _ (Nat.le_refl _)]
  simp [List.replicate_succ]
theorem ishr8 (x : Int) : ishr .u32 x 8 = x / 256 := Int.fdiv_eq_ediv_of_nonneg x (b := 256) (by omega)
theorem wrap8 (x : Int) : IntKind.wrap .u8 x = x % 256 := by
  simp [IntKind.wrap, IntKind.bits, IntKind.signed]
theorem ishl8 {x : Int} (h0 : 0 ≤ x) (h1 : x < 16777216) : ishl .u32 x 8 = x * 256 := by
  simp [ishl, IntKind.bits, IntKind.wrap, IntKind.signed]
  omega
theorem ior8 {q b : Int} (h0 : 0 ≤ q) (h1 : q < 16777216) (h2 : 0 ≤ b) (h3 : b < 256) : ior .u32 (q * 256) b = q * 256 + b := by
  obtain ⟨q, rfl⟩ := Int.eq_ofNat_of_zero_le h0
  obtain ⟨b, rfl⟩ := Int.eq_ofNat_of_zero_le h2
  unfold ior
  have e : ((BitVec.ofInt IntKind.u32.bits ((q : Int) * 256) ||| BitVec.ofInt IntKind.u32.bits (b : Int)).toNat) = q * 256 + b := by
    have e1 : ((q : Int) * 256) = ((q * 256 : Nat) : Int) := by omega
    rw [e1, BitVec.ofInt_natCast, BitVec.ofInt_natCast, BitVec.toNat_or, BitVec.toNat_ofNat, BitVec.toNat_ofNat]
    have hb : IntKind.u32.bits = 32 := rfl
    rw [hb, Nat.mod_eq_of_lt (by omega), Nat.mod_eq_of_lt (by omega)]
    have := Nat.two_pow_add_eq_or_of_lt (i := 8) (b := b) (by omega) q
    rw [Nat.mul_comm q 256]
    exact this.symm
  rw [e, Go.IntWalk.u32_in _ (by omega)]
  omega
theorem beW_by4 {x : Int} (h0 : 0 ≤ x) (h1 : x ≤ 4294967295) : beW (by4 x) = x := by
  simp only [beW, by4, List.foldl]
  omega
section
variable {σ : AS} {K : Value → AS → Prop}
theorem p262 (hK : K (.bool true) σ) : Tri Tryz.prog 262 [i64 4] σ K := tri_iz (by
  rw [z262]
  refine bm_mk (fun h => by simp at h) (fun _ => bm_mk (fun h => by simp at h) (fun _ => ?_))
  simpa using hK)
/-- A slice of bytes reads so. -/
def Rb (σ : AS) (a : Option Addr) (o : Nat) (l : List Int) : Prop := l = [] ∨ ∃ r q cs, a = some ⟨r, o, none⟩ ∧ σ r = some (.row q cs) ∧ ∀ (i : Nat) v, l[i]? = some v → cs[o + i]? = some (.int .u8 v)
def beI (a : Option Addr) (l : List Int) (σ0 : AS) (i : Nat) (r : Regs) (σ : AS) : Prop :=
  i ≤ 4 ∧ σ = σ0 ∧ r = [(8, some (u32 (beW (l.take i)))), (37, some (.slice a 4 1)), (38, some (i64 4)), (39, some (i64 i))]
theorem beW_take {l : List Int} (hb : ∀ c ∈ l, 0 ≤ c ∧ c < 256) : ∀ i, i ≤ 4 → 0 ≤ beW (l.take i) ∧ beW (l.take i) < 256 ^ i
  | 0, _ => by simp [beW]
  | i + 1, h => by
    have ih := beW_take hb i (by omega)
    cases hv : l[i]? with
    | none =>
      rw [List.take_add_one, hv]
      simp only [Option.toList, List.append_nil]
      refine ⟨ih.1, Int.lt_trans ih.2 ?_⟩
      exact Int.pow_lt_pow_of_lt (by omega) (by omega)
    | some v =>
      obtain ⟨g0, g1⟩ := hb v (List.mem_of_getElem? hv)
      rw [List.take_add_one, hv]
      simp only [Option.toList, beW, List.foldl_append, List.foldl_cons, List.foldl_nil]
      rw [← beW]
      have : (256 : Int) ^ (i + 1) = 256 ^ i * 256 := Int.pow_succ ..
      omega
theorem p260 {a : Option Addr} {l : List Int} {at_ : Nat} (hR : Rb σ a 0 l) (hb : ∀ c ∈ l, 0 ≤ c ∧ c < 256) (hm : l.length ≤ 1099511627776) (h4 : at_ + 4 ≤ l.length) (hK : K (.tuple ⟨[u32 (beW ((l.drop at_).take 4)), i64 0]⟩) σ) :
    Tri Tryz.prog 260 [.slice a l.length 1, i64 at_, i64 4] σ K := tri_iz (by
  rw [z260]
  refine p262 ?_
  have e1 : ¬ (at_ : Int) < 0 := by omega
  have e2 : ¬ (at_ : Int) > (l.length : Int) := by omega
  have e3 : IntKind.wrap .i64 ((l.length : Int) - at_) = (l.length : Int) - at_ := wrap64 (by omega) (by omega)
  have e4 : ¬ (l.length : Int) - at_ < 4 := by omega
  have e5 : IntKind.wrap .i64 ((at_ : Int) + 4) = (at_ : Int) + 4 := wrap64 (by omega) (by omega)
  have e6 : ((at_ : Int) + 4 - at_).toNat = 4 := by omega
  have hz : szOf Tryz.prog 5 = 1 := by kernel_rfl
  rw [e3, e5, e6, hz]
  simp only [tB_bool, Bool.not_true, bm_false, e1, e2, e4, decide_false, Int.toNat_natCast, Nat.mul_one]
  refine req_mk (by omega) (req_mk (by omega) (cap_mk (by omega) ?_))
  have hne : l ≠ [] := fun e => by rw [e] at h4; simp at h4
  obtain ⟨r0, q, cs, rfl, g1, g2⟩ := hR.resolve_left hne
  simp only [Option.map, add_none, aadd_none, Nat.zero_add]
  have hb' : ∀ c ∈ l.drop at_, 0 ≤ c ∧ c < 256 := fun c hc => hb c (List.mem_of_mem_drop hc)
  refine aloop (beI (some ⟨r0, at_, none⟩) (l.drop at_) σ) (fun i => 4 - i) ?_ (a := 0) ⟨by omega, rfl, rfl⟩
  rintro i r σ1 X hX ⟨hi, rfl, rfl⟩
  rw [z260l]
  refine bm_mk (fun h => ?_) (fun h => ?_)
  · have h : i < 4 := by have := of_decide_eq_true h; omega
    obtain ⟨v, hv⟩ : ∃ v, (l.drop at_)[i]? = some v := ⟨(l.drop at_)[i]'(by simp; omega), by simp⟩
    obtain ⟨w0, w1⟩ := hb' v (List.mem_of_getElem? hv)
    have hc := g2 (at_ + i) v (by rw [List.getElem?_drop] at hv; exact hv)
    rw [Nat.zero_add] at hc
    refine req_mk (by omega) (req_mk (by omega) ?_)
    simp only [pSome_some, hz, add_none, aadd_none, Int.toNat_natCast, Nat.mul_one, ldc, AS.cell, g1, hc]
    simp only [tI_int]
    have ⟨t0, t1⟩ := beW_take hb' i (by omega)
    have t2 : beW ((l.drop at_).take i) < 16777216 := by
      have : i = 0 ∨ i = 1 ∨ i = 2 ∨ i = 3 := by omega
      rcases this with rfl | rfl | rfl | rfl
      · simp [beW]
      · have : (256 : Int) ^ 1 = 256 := by decide
        omega
      · have : (256 : Int) ^ 2 = 65536 := by decide
        omega
      · have : (256 : Int) ^ 3 = 16777216 := by decide
        omega
    rw [ishl8 t0 t2, Go.IntWalk.u32_in v (by omega), ior8 t0 t2 w0 w1, wrap64 (by omega) (by omega)]
    refine hX (i + 1) _ _ (by omega) ⟨h, rfl, ?_⟩
    have : beW ((l.drop at_).take (i + 1)) = beW ((l.drop at_).take i) * 256 + v := by
      rw [List.take_add_one, hv]
      simp [beW, List.foldl_append]
    rw [this]
    simp
  · have h : i = 4 := by have := of_decide_eq_false h; omega
    subst h
    exact hK)

def putI (j : Nat) (x : Int) (L : List (Nat × AObj)) (d : Nat) (r : Regs) (σ : AS) : Prop :=
  d ≤ 4 ∧ r = [(0, some (u32 (x / 256 ^ d))), (5, some (.slice (some ⟨j, 0, none⟩) 4 1)), (6, some (i64 (3 - d)))] ∧
    Has σ ((j, .row .rw (cells8 (List.replicate (4 - d) 0 ++ (by4 x).drop (4 - d)))) :: L)
theorem p261 {x : Int} {L : List (Nat × AObj)} (H : Has σ L) (h0 : 0 ≤ x) (h1 : x ≤ 4294967295) (hK : ∀ σ' j, Has σ' ((j, .row .rw (cells8 (by4 x))) :: L) → K (.slice (some ⟨j, 0, none⟩) 4 1) σ') :
    Tri Tryz.prog 261 [u32 x, i64 4] σ K := tri_iz (by
  rw [z261]
  refine p262 ?_
  have hb : bytesOf Tryz.prog 5 = 1 := by kernel_rfl
  have hv : valCells (.int .u8 0) = [.int .u8 0] := by kernel_rfl
  rw [hb, hv, flat_rep]
  simp only [tB_bool, Bool.not_true, bm_false]
  refine req_mk (by omega) (req_mk (by omega) (req_mk (by omega) ?_))
  refine newAt_mk H fun j σ1 H1 => ?_
  have e3 : IntKind.wrap .i64 ((4 : Int) - 1) = 3 := rfl
  rw [e3]
  refine aloop (putI j x L) (fun d => 4 - d) ?_ (a := 0) ⟨by omega, by simp, by simpa [cells8, List.replicate, by4] using H1⟩
  rintro d r σ2 X hX ⟨hd, rfl, H2⟩
  rw [z261l]
  have hz : szOf Tryz.prog 5 = 1 := by kernel_rfl
  refine bm_mk (fun h => ?_) (fun h => ?_)
  · have h : d < 4 := by have := of_decide_eq_true h; omega
    refine req_mk (by omega) (req_mk (by omega) ?_)
    have ei : ((3 : Int) - d).toNat = 3 - d := by omega
    simp only [pSome_some, hz, add_none, aadd_none, ei, Nat.mul_one, Nat.zero_add, wrap8, ishr8]
    refine put1_mk H2 0 rfl rfl (by simp [by4]; omega) fun σ3 H3 => ?_
    rw [wrap64 (by omega) (by omega)]
    refine hX (d + 1) _ _ (by omega) ⟨h, ?_, ?_⟩
    · have e1 : x / 256 ^ d / 256 = x / 256 ^ (d + 1) := by
        have : d = 0 ∨ d = 1 ∨ d = 2 ∨ d = 3 := by omega
        rcases this with rfl | rfl | rfl | rfl <;> simp <;> omega
      have e2 : (3 : Int) - d - 1 = 3 - ((d + 1 : Nat) : Int) := by omega
      rw [e1, e2]
    · have : d = 0 ∨ d = 1 ∨ d = 2 ∨ d = 3 := by omega
      rcases this with rfl | rfl | rfl | rfl <;> simpa [cells8, by4, List.replicate] using H3
  · have h : d = 4 := by have := of_decide_eq_false h; omega
    subst h
    exact hK σ2 j (by simpa [by4] using H2))
end
end Go.AI
end
section
set_option linter.unusedSimpArgs false
set_option linter.unusedVariables false
set_option maxRecDepth 10000
/- The program: what lies behind a stream, a file by one byte or by four, a row of characters; no condition but those that each names. -/
namespace Go.AI
open Go.Proofs Go.Shelf
abbrev fiO (a : Option Addr) (n e : Nat) (oa : Option Addr) (on oe : Nat) : AObj := .row .plain [.slice a n e, .slice oa on oe]
abbrev buO (a : Option Addr) (n : Nat) (w : Bool) : AObj := .row .plain [.slice a n 1, .bool w]
abbrev hold (fi : Nat) : Value := .agg ⟨[ptr fi]⟩
def tyW (w : Bool) : TypeId := match w with | true => 268 | false => 267
def szF (w : Bool) : FuncId := match w with | true => 259 | false => 255
def atF (w : Bool) : FuncId := match w with | true => 256 | false => 252
def puF (w : Bool) : FuncId := match w with | true => 258 | false => 254
def moF (w : Bool) : FuncId := match w with | true => 257 | false => 253
abbrev tyB : TypeId := 270
theorem meth_size_g (w : Bool) : methodOf Tryz.prog (tyW w) "grotto/shelf.size" = some (szF w) := by cases w <;> kernel_rfl
theorem meth_at_g (w : Bool) : methodOf Tryz.prog (tyW w) "grotto/shelf.at" = some (atF w) := by cases w <;> kernel_rfl
theorem meth_put_g (w : Bool) : methodOf Tryz.prog (tyW w) "grotto/shelf.put" = some (puF w) := by cases w <;> kernel_rfl
theorem meth_more_g (w : Bool) : methodOf Tryz.prog (tyW w) "grotto/shelf.more" = some (moF w) := by cases w <;> kernel_rfl
theorem meth_size_b : methodOf Tryz.prog tyB "grotto/shelf.size" = some 265 := by kernel_rfl
theorem meth_at_b : methodOf Tryz.prog tyB "grotto/shelf.at" = some 263 := by kernel_rfl
theorem meth_put_b : methodOf Tryz.prog tyB "grotto/shelf.put" = some 187 := by kernel_rfl
section
variable {σ : AS} {K : Value → AS → Prop} {X rows : List (Nat × AObj)} {fi e on oe : Nat} {a oa : Option Addr} {bs : List Int} {w : Bool}
theorem p199 {c : Int} (hc : 0 ≤ c) (hK : K (u8 (putC false c)) σ) : Tri Tryz.prog 199 [u32 c] σ K := tri_iz (by
  rw [z199]
  simp only [putC, Bool.false_eq_true, if_false] at hK
  refine bmd_mk (fun h => ?_) (fun h => ?_)
  · rw [if_pos h] at hK; exact hK
  · rw [if_neg h] at hK
    rw [wrapU8 (by omega) (by omega)]; exact hK)
theorem csz (H : Has σ ((fi, fiO a bs.length e oa on oe) :: (rows ++ X))) (hs : SlC 1 a e (cells8 bs) rows) (hl : bs.length ≤ 1099511627776) (hK : ∀ σ', Has σ' ((fi, fiO a bs.length e oa on oe) :: (rows ++ X)) → K (i64 (sizeW w bs)) σ') : Tri Tryz.prog (szF w) [hold fi] σ K := by
  cases w with
  | true =>
    refine tri_iz ?_
    show fw _ _ _ 259 _ _ _
    rw [z259]
    refine newAt_mk H fun i0 σ1 H1 => ?_
    simp only [ldc_eq (H1.at 0 rfl), ldc_eq (H1.at 1 rfl), tL_ok_eq hs.no, true_and, tI_int, tB_bool, tP_ptr, tM_map, tS_str, tTup_tup, tL_sl, tIf_if, pSome_some, chk_true, bm_true, bm_false, List.getElem?_cons_zero, List.getElem?_cons_succ, Nat.zero_add, Nat.add_zero, bne_self_eq_false, beq_self_eq_true, ptrEq_some, ptrEq_none, Bool.not_true, Bool.not_false, tAgg_agg, tCons_cons, tNil_nil, add_none, aadd_none, Option.getD_some, Option.getD_none, Option.map_some, Option.map_none]
    have : Int.tdiv (bs.length : Int) 4 = ((bs.length / 4 : Nat) : Int) := by rw [Int.tdiv_eq_ediv_of_nonneg (by omega)]; omega
    rw [this, wrap64 (by omega) (by omega)]
    exact hK σ1 (H1.sep (fun a => by simp only [cnt_app, cnt_cons, cnt_nil, List.flatMap_append, List.flatMap_cons, List.flatMap_nil, List.append_assoc, List.cons_append, List.nil_append, i64, u32, u8, ptr, List.set_cons_zero, List.set_cons_succ]; omega))
  | false =>
    refine tri_iz ?_
    show fw _ _ _ 255 _ _ _
    rw [z255]
    refine newAt_mk H fun i0 σ1 H1 => ?_
    simp only [ldc_eq (H1.at 0 rfl), ldc_eq (H1.at 1 rfl), tL_ok_eq hs.no, true_and, tI_int, tB_bool, tP_ptr, tM_map, tS_str, tTup_tup, tL_sl, tIf_if, pSome_some, chk_true, bm_true, bm_false, List.getElem?_cons_zero, List.getElem?_cons_succ, Nat.zero_add, Nat.add_zero, bne_self_eq_false, beq_self_eq_true, ptrEq_some, ptrEq_none, Bool.not_true, Bool.not_false, tAgg_agg, tCons_cons, tNil_nil, add_none, aadd_none, Option.getD_some, Option.getD_none, Option.map_some, Option.map_none]
    exact hK σ1 (H1.sep (fun a => by simp only [cnt_app, cnt_cons, cnt_nil, List.flatMap_append, List.flatMap_cons, List.flatMap_nil, List.append_assoc, List.cons_append, List.nil_append, i64, u32, u8, ptr, List.set_cons_zero, List.set_cons_succ]; omega))
theorem cmo {n : Nat} (H : Has σ ((fi, fiO a bs.length e oa on oe) :: (rows ++ X))) (hs : SlC 1 a e (cells8 bs) rows) (hl : bs.length ≤ 1099511627776) (hn : n ≤ 1099511627776) (hK : ∀ σ', Has σ' ((fi, fiO a bs.length e oa on oe) :: (rows ++ X)) → K (i64 (unW w * n - bs.length : Nat)) σ') : Tri Tryz.prog (moF w) [hold fi, i64 n] σ K := by
  have em : ∀ z : Nat, imax 0 ((z : Int) - bs.length) = ((z - bs.length : Nat) : Int) := fun z => by unfold imax; split <;> omega
  cases w with
  | true =>
    refine tri_iz ?_
    show fw _ _ _ 257 _ _ _
    rw [z257]
    refine newAt_mk H fun i0 σ1 H1 => ?_
    simp only [ldc_eq (H1.at 0 rfl), ldc_eq (H1.at 1 rfl), tL_ok_eq hs.no, true_and, tI_int, tB_bool, tP_ptr, tM_map, tS_str, tTup_tup, tL_sl, tIf_if, pSome_some, chk_true, bm_true, bm_false, List.getElem?_cons_zero, List.getElem?_cons_succ, Nat.zero_add, Nat.add_zero, bne_self_eq_false, beq_self_eq_true, ptrEq_some, ptrEq_none, Bool.not_true, Bool.not_false, tAgg_agg, tCons_cons, tNil_nil, add_none, aadd_none, Option.getD_some, Option.getD_none, Option.map_some, Option.map_none]
    have e4 : (4 * (n : Int)) = ((4 * n : Nat) : Int) := by omega
    rw [wrap64 (n := 4 * (n : Int)) (by omega) (by omega), wrap64 (by omega) (by omega), e4, em]
    exact hK σ1 (H1.sep (fun a => by simp only [cnt_app, cnt_cons, cnt_nil, List.flatMap_append, List.flatMap_cons, List.flatMap_nil, List.append_assoc, List.cons_append, List.nil_append, i64, u32, u8, ptr, List.set_cons_zero, List.set_cons_succ]; omega))
  | false =>
    refine tri_iz ?_
    show fw _ _ _ 253 _ _ _
    rw [z253]
    refine newAt_mk H fun i0 σ1 H1 => ?_
    simp only [ldc_eq (H1.at 0 rfl), ldc_eq (H1.at 1 rfl), tL_ok_eq hs.no, true_and, tI_int, tB_bool, tP_ptr, tM_map, tS_str, tTup_tup, tL_sl, tIf_if, pSome_some, chk_true, bm_true, bm_false, List.getElem?_cons_zero, List.getElem?_cons_succ, Nat.zero_add, Nat.add_zero, bne_self_eq_false, beq_self_eq_true, ptrEq_some, ptrEq_none, Bool.not_true, Bool.not_false, tAgg_agg, tCons_cons, tNil_nil, add_none, aadd_none, Option.getD_some, Option.getD_none, Option.map_some, Option.map_none]
    rw [wrap64 (by omega) (by omega), em]
    have := hK σ1 (H1.sep (fun a => by simp only [cnt_app, cnt_cons, cnt_nil, List.flatMap_append, List.flatMap_cons, List.flatMap_nil, List.append_assoc, List.cons_append, List.nil_append, i64, u32, u8, ptr, List.set_cons_zero, List.set_cons_succ]; omega))
    simp only [unW, Nat.one_mul] at this
    exact this
theorem cat {p : Nat} (H : Has σ ((fi, fiO a bs.length e oa on oe) :: (rows ++ X))) (hs : SlC 1 a e (cells8 bs) rows) (hl : bs.length ≤ 1099511627776) (hb : ∀ c ∈ bs, 0 ≤ c ∧ c < 256) (hp : p < sizeW w bs) (hK : ∀ σ', Has σ' ((fi, fiO a bs.length e oa on oe) :: (rows ++ X)) → K (u32 (Go.Shelf.viewAt w bs p)) σ') : Tri Tryz.prog (atF w) [hold fi, i64 p] σ K := by
  have hpl : 0 < bs.length := by have := sizeW_le w bs; omega
  obtain ⟨j, rfl, rfl, rfl⟩ := hs.at (p := 0) (by simpa using hpl)
  cases w with
  | true =>
    have hp : p < bs.length / 4 := hp
    refine tri_iz ?_
    show fw _ _ _ 256 _ _ _
    rw [z256]
    refine newAt_mk H fun i0 σ1 H1 => ?_
    simp only [ldc_eq (H1.at 0 rfl), ldc_eq (H1.at 1 rfl), true_and, tI_int, tB_bool, tP_ptr, tM_map, tS_str, tTup_tup, tL_sl, tIf_if, pSome_some, chk_true, bm_true, bm_false, List.getElem?_cons_zero, List.getElem?_cons_succ, Nat.zero_add, Nat.add_zero, bne_self_eq_false, beq_self_eq_true, ptrEq_some, ptrEq_none, Bool.not_true, Bool.not_false, tAgg_agg, tCons_cons, tNil_nil, add_none, aadd_none, Option.getD_some, Option.getD_none, Option.map_some, Option.map_none]
    have e4 : (4 * (p : Int)) = ((4 * p : Nat) : Int) := by omega
    rw [wrap64 (n := 4 * (p : Int)) (by omega) (by omega), e4]
    refine p260 (l := bs) (.inr ⟨j, .rw, cells8 bs, rfl, H1.g (by simp), fun i v hv => by rw [Nat.zero_add, List.getElem?_map, hv]; rfl⟩) hb hl (by omega) ?_
    simp only [true_and, tI_int, tB_bool, tP_ptr, tM_map, tS_str, tTup_tup, tL_sl, tIf_if, pSome_some, chk_true, bm_true, bm_false, List.getElem?_cons_zero, List.getElem?_cons_succ, Nat.zero_add, Nat.add_zero, bne_self_eq_false, beq_self_eq_true, ptrEq_some, ptrEq_none, Bool.not_true, Bool.not_false, tAgg_agg, tCons_cons, tNil_nil, add_none, aadd_none, Option.getD_some, Option.getD_none, Option.map_some, Option.map_none]
    exact hK σ1 (H1.sep (fun a => by simp only [cnt_app, cnt_cons, cnt_nil, List.flatMap_append, List.flatMap_cons, List.flatMap_nil, List.append_assoc, List.cons_append, List.nil_append, i64, u32, u8, ptr, List.set_cons_zero, List.set_cons_succ]; omega))
  | false =>
    have hp : p < bs.length := hp
    refine tri_iz ?_
    show fw _ _ _ 252 _ _ _
    rw [z252]
    refine newAt_mk H fun i0 σ1 H1 => ?_
    simp only [ldc_eq (H1.at 0 rfl), ldc_eq (H1.at 1 rfl), true_and, tI_int, tB_bool, tP_ptr, tM_map, tS_str, tTup_tup, tL_sl, tIf_if, pSome_some, chk_true, bm_true, bm_false, List.getElem?_cons_zero, List.getElem?_cons_succ, Nat.zero_add, Nat.add_zero, bne_self_eq_false, beq_self_eq_true, ptrEq_some, ptrEq_none, Bool.not_true, Bool.not_false, tAgg_agg, tCons_cons, tNil_nil, add_none, aadd_none, Option.getD_some, Option.getD_none, Option.map_some, Option.map_none]
    refine req_mk (by omega) (req_mk (by omega) ?_)
    have hv : bs[p]? = some (bs[p]'hp) := by simp
    have hcv : (cells8 bs)[p]? = some (u8 (bs[p]'hp)) := by rw [List.getElem?_map, hv]; rfl
    simp only [sz5, Int.toNat_natCast, Nat.mul_one, ldc_eq (H1.at 2 rfl), hcv, true_and, tI_int, tB_bool, tP_ptr, tM_map, tS_str, tTup_tup, tL_sl, tIf_if, pSome_some, chk_true, bm_true, bm_false, List.getElem?_cons_zero, List.getElem?_cons_succ, Nat.zero_add, Nat.add_zero, bne_self_eq_false, beq_self_eq_true, ptrEq_some, ptrEq_none, Bool.not_true, Bool.not_false, tAgg_agg, tCons_cons, tNil_nil, add_none, aadd_none, Option.getD_some, Option.getD_none, Option.map_some, Option.map_none]
    have bv := hb _ (List.mem_of_getElem? hv)
    rw [wrapU32 bv.1 (by omega)]
    have := hK σ1 (H1.sep (fun a => by simp only [cnt_app, cnt_cons, cnt_nil, List.flatMap_append, List.flatMap_cons, List.flatMap_nil, List.append_assoc, List.cons_append, List.nil_append, i64, u32, u8, ptr, List.set_cons_zero, List.set_cons_succ]; omega))
    unfold Go.Shelf.viewAt at this
    rw [List.getD_eq_getElem?_getD, hv] at this
    exact this
/-- A character is put to a file. -/
theorem cpu {p : Nat} {c : Int} (H : Has σ ((fi, fiO a bs.length e oa on oe) :: (rows ++ X))) (hs : SlC 1 a e (cells8 bs) rows) (hl : bs.length ≤ 1099511627776) (hc : 0 ≤ c ∧ c ≤ 4294967295) (hp : unW w * p ≤ bs.length)
    (hK : ∀ σ' a' rows', SlC 1 a' 1 (cells8 (setA bs (unW w * p) (enc1 w c))) rows' → Has σ' ((fi, fiO a' (setA bs (unW w * p) (enc1 w c)).length 1 oa on oe) :: (rows' ++ X)) → K unit0 σ') : Tri Tryz.prog (puF w) [hold fi, i64 p, u32 c] σ K := by
  cases w with
  | false =>
    simp only [unW, Nat.one_mul] at hp hK
    refine tri_iz ?_
    show fw _ _ _ 254 _ _ _
    rw [z254]
    refine newAt_mk H fun i0 σ1 H1 => ?_
    -- a byte that is there is put
    have put : ∀ {σ2 : AS} {a2 : Option Addr} {e2 : Nat} {rows2 : List (Nat × AObj)} {bs2 : List Int}, SlC 1 a2 e2 (cells8 bs2) rows2 → Has σ2 ((i0, .row .plain [ptr fi]) :: ((fi, fiO a2 bs2.length e2 oa on oe) :: (rows2 ++ X))) → p < bs2.length → bs2.set p (putC false c) = setA bs p (enc1 false c) →
        JoinS (jn Tryz.prog hintsZ (Tri Tryz.prog) 254 [true] [] K) [(1, some (i64 p)), (2, some (u32 c)), (3, some (ptr i0))] σ2 := by
      intro σ2 a2 e2 rows2 bs2 hs2 H2 hlt hset
      refine ⟨?_⟩
      rw [z254j]
      obtain ⟨j, rfl, rfl, rfl⟩ := hs2.at (p := 0) (by rw [List.length_map]; omega)
      simp only [ldc_eq (H2.at 0 rfl), ldc_eq (H2.at 1 rfl), true_and, tI_int, tB_bool, tP_ptr, tM_map, tS_str, tTup_tup, tL_sl, tIf_if, pSome_some, chk_true, bm_true, bm_false, List.getElem?_cons_zero, List.getElem?_cons_succ, Nat.zero_add, Nat.add_zero, bne_self_eq_false, beq_self_eq_true, ptrEq_some, ptrEq_none, Bool.not_true, Bool.not_false, tAgg_agg, tCons_cons, tNil_nil, add_none, aadd_none, Option.getD_some, Option.getD_none, Option.map_some, Option.map_none]
      refine p199 hc.1 ?_
      simp only [ldc_eq (H2.at 0 rfl), ldc_eq (H2.at 1 rfl), true_and, tI_int, tB_bool, tP_ptr, tM_map, tS_str, tTup_tup, tL_sl, tIf_if, pSome_some, chk_true, bm_true, bm_false, List.getElem?_cons_zero, List.getElem?_cons_succ, Nat.zero_add, Nat.add_zero, bne_self_eq_false, beq_self_eq_true, ptrEq_some, ptrEq_none, Bool.not_true, Bool.not_false, tAgg_agg, tCons_cons, tNil_nil, add_none, aadd_none, Option.getD_some, Option.getD_none, Option.map_some, Option.map_none]
      refine req_mk (by omega) (req_mk (by omega) ?_)
      simp only [sz5, Int.toNat_natCast, Nat.mul_one, true_and, tI_int, tB_bool, tP_ptr, tM_map, tS_str, tTup_tup, tL_sl, tIf_if, pSome_some, chk_true, bm_true, bm_false, List.getElem?_cons_zero, List.getElem?_cons_succ, Nat.zero_add, Nat.add_zero, bne_self_eq_false, beq_self_eq_true, ptrEq_some, ptrEq_none, Bool.not_true, Bool.not_false, tAgg_agg, tCons_cons, tNil_nil, add_none, aadd_none, Option.getD_some, Option.getD_none, Option.map_some, Option.map_none]
      have H3 : Has σ2 ((j, .row .rw (cells8 bs2)) :: ((fi, fiO (some ⟨j, 0, none⟩) bs2.length 1 oa on oe) :: X)) := H2.sep (fun a => by simp only [cnt_app, cnt_cons, cnt_nil, List.flatMap_append, List.flatMap_cons, List.flatMap_nil, List.append_assoc, List.cons_append, List.nil_append, i64, u32, u8, ptr, List.set_cons_zero, List.set_cons_succ]; omega)
      refine put0 H3 rfl (by rw [List.length_map]; exact hlt) fun σ3 H4 => ?_
      have e1 : (cells8 bs2).set p (u8 (putC false c)) = cells8 (setA bs p (enc1 false c)) := by rw [← hset]; exact (List.map_set (f := u8)).symm
      have e2 : bs2.length = (setA bs p (enc1 false c)).length := by rw [← hset, List.length_set]
      rw [e1, e2] at H4
      exact hK σ3 _ _ (SlC.row (j := j)) (H4.sep (fun a => by simp only [cnt_app, cnt_cons, cnt_nil, List.flatMap_append, List.flatMap_cons, List.flatMap_nil, List.append_assoc, List.cons_append, List.nil_append, i64, u32, u8, ptr, List.set_cons_zero, List.set_cons_succ]; omega))
    have hst := setA_step (b := bs) (P := enc1 false c) (i := p) (q := 0) (p := putC false c) hp rfl
    simp only [List.take_zero, setA_nil, Nat.add_zero, Nat.zero_add] at hst
    have et : (enc1 false c).take 1 = enc1 false c := rfl
    rw [et] at hst
    simp only [ldc_eq (H1.at 0 rfl), ldc_eq (H1.at 1 rfl), tL_ok_eq hs.no, true_and, tI_int, tB_bool, tP_ptr, tM_map, tS_str, tTup_tup, tL_sl, tIf_if, pSome_some, chk_true, bm_true, bm_false, List.getElem?_cons_zero, List.getElem?_cons_succ, Nat.zero_add, Nat.add_zero, bne_self_eq_false, beq_self_eq_true, ptrEq_some, ptrEq_none, Bool.not_true, Bool.not_false, tAgg_agg, tCons_cons, tNil_nil, add_none, aadd_none, Option.getD_some, Option.getD_none, Option.map_some, Option.map_none]
    refine beq_mk (fun h => ?_) (fun h => ?_)
    · rw [if_pos (by omega)] at hst
      refine newAt_mk H1 fun i14 σ2 H2 => ?_
      simp only [ldc_eq (H2.at 1 rfl), ldc_eq (H2.at 2 rfl), tL_ok_eq hs.no, sz5, lds_eq (H2.at 0 rfl) 0 1 (by simp), List.drop_zero, List.take_succ_cons, List.take_zero, true_and, tI_int, tB_bool, tP_ptr, tM_map, tS_str, tTup_tup, tL_sl, tIf_if, pSome_some, chk_true, bm_true, bm_false, List.getElem?_cons_zero, List.getElem?_cons_succ, Nat.zero_add, Nat.add_zero, bne_self_eq_false, beq_self_eq_true, ptrEq_some, ptrEq_none, Bool.not_true, Bool.not_false, tAgg_agg, tCons_cons, tNil_nil, add_none, aadd_none, Option.getD_some, Option.getD_none, Option.map_some, Option.map_none]
      refine appC (new := [u8 0]) (X := (i0, .row .plain [ptr fi]) :: ((fi, fiO a bs.length e oa on oe) :: X)) hs (H2.sep (fun a => by simp only [cnt_app, cnt_cons, cnt_nil, List.flatMap_append, List.flatMap_cons, List.flatMap_nil, List.append_assoc, List.cons_append, List.nil_append, i64, u32, u8, ptr, List.set_cons_zero, List.set_cons_succ]; omega)) (by simp) rfl (by omega) (by omega) fun a' σ3 rows' hs' H3 => ?_
      have H4 : Has σ3 ((fi, fiO a bs.length e oa on oe) :: ((i0, .row .plain [ptr fi]) :: (rows' ++ X))) := H3.sep (fun a => by simp only [cnt_app, cnt_cons, cnt_nil, List.flatMap_append, List.flatMap_cons, List.flatMap_nil, List.append_assoc, List.cons_append, List.nil_append, i64, u32, u8, ptr, List.set_cons_zero, List.set_cons_succ]; omega)
      simp only [ldc_eq (H4.at 1 rfl), true_and, tI_int, tB_bool, tP_ptr, tM_map, tS_str, tTup_tup, tL_sl, tIf_if, pSome_some, chk_true, bm_true, bm_false, List.getElem?_cons_zero, List.getElem?_cons_succ, Nat.zero_add, Nat.add_zero, bne_self_eq_false, beq_self_eq_true, ptrEq_some, ptrEq_none, Bool.not_true, Bool.not_false, tAgg_agg, tCons_cons, tNil_nil, add_none, aadd_none, Option.getD_some, Option.getD_none, Option.map_some, Option.map_none]
      refine put0 H4 rfl (by simp) fun σ4 H5 => ?_
      have e8 : cells8 bs ++ [u8 0] = cells8 (bs ++ [0]) := by simp
      rw [e8] at hs'
      refine put (bs2 := bs ++ [0]) hs' (H5.sep ?_) (by rw [List.length_append]; simp; omega) hst
      intro a
      simp only [fiO, cnt_app, cnt_cons, cnt_nil, List.flatMap_append, List.flatMap_cons, List.flatMap_nil, List.append_assoc, List.cons_append, List.nil_append, i64, u32, u8, ptr, List.set_cons_zero, List.set_cons_succ, List.length_append, List.length_cons, List.length_nil, Nat.zero_add]
      omega
    · rw [if_neg (by omega)] at hst
      exact put hs H1 (by omega) hst
  | true =>
    simp only [unW] at hp hK
    refine tri_iz ?_
    show fw _ _ _ 258 _ _ _
    rw [z258]
    refine newAt_mk H fun i0 σ1 H1 => ?_
    have w1 : IntKind.wrap .i64 (4 * (p : Int)) = ((4 * p : Nat) : Int) := by rw [wrap64 (by omega) (by omega)]; omega
    have w2 : IntKind.wrap .i64 (((4 * p : Nat) : Int) + 4) = ((4 * p + 4 : Nat) : Int) := by rw [wrap64 (by omega) (by omega)]; omega
    refine aloop (fun (d : Nat) rg σ' => d ≤ 4 * p + 4 - bs.length ∧ rg = [(1, some (i64 p)), (2, some (u32 c)), (3, some (ptr i0))] ∧ ∃ a' e' rows', SlC 1 a' e' (cells8 (bs ++ List.replicate d 0)) rows' ∧ Has σ' ((i0, .row .plain [ptr fi]) :: ((fi, fiO a' (bs ++ List.replicate d 0).length e' oa on oe) :: (rows' ++ X)))) (fun d => 4 * p + 4 - bs.length - d) ?_ (a := 0)
      ⟨Nat.zero_le _, rfl, a, e, rows, by simpa using hs, by simpa using H1⟩
    rintro d rg σ2 Y hY ⟨hd, rfl, a2, e2, rows2, hs2, H2⟩
    rw [z258l, w1, w2]
    generalize hbs : bs ++ List.replicate d 0 = b2 at hs2 H2
    have hb2 : b2.length = bs.length + d := by rw [← hbs]; simp
    simp only [ldc_eq (H2.at 0 rfl), ldc_eq (H2.at 1 rfl), tL_ok_eq hs2.no, true_and, tI_int, tB_bool, tP_ptr, tM_map, tS_str, tTup_tup, tL_sl, tIf_if, pSome_some, chk_true, bm_true, bm_false, List.getElem?_cons_zero, List.getElem?_cons_succ, Nat.zero_add, Nat.add_zero, bne_self_eq_false, beq_self_eq_true, ptrEq_some, ptrEq_none, Bool.not_true, Bool.not_false, tAgg_agg, tCons_cons, tNil_nil, add_none, aadd_none, Option.getD_some, Option.getD_none, Option.map_some, Option.map_none]
    refine bmd_mk (fun h => ?_) (fun h => ?_)
    · refine newAt_mk H2 fun i12 σ3 H3 => ?_
      simp only [ldc_eq (H3.at 1 rfl), ldc_eq (H3.at 2 rfl), tL_ok_eq hs2.no, sz5, lds_eq (H3.at 0 rfl) 0 1 (by simp), List.drop_zero, List.take_succ_cons, List.take_zero, true_and, tI_int, tB_bool, tP_ptr, tM_map, tS_str, tTup_tup, tL_sl, tIf_if, pSome_some, chk_true, bm_true, bm_false, List.getElem?_cons_zero, List.getElem?_cons_succ, Nat.zero_add, Nat.add_zero, bne_self_eq_false, beq_self_eq_true, ptrEq_some, ptrEq_none, Bool.not_true, Bool.not_false, tAgg_agg, tCons_cons, tNil_nil, add_none, aadd_none, Option.getD_some, Option.getD_none, Option.map_some, Option.map_none]
      refine appC (new := [u8 0]) (X := (i0, .row .plain [ptr fi]) :: ((fi, fiO a2 b2.length e2 oa on oe) :: X)) hs2 (H3.sep (fun a => by simp only [cnt_app, cnt_cons, cnt_nil, List.flatMap_append, List.flatMap_cons, List.flatMap_nil, List.append_assoc, List.cons_append, List.nil_append, i64, u32, u8, ptr, List.set_cons_zero, List.set_cons_succ]; omega)) (by simp) rfl (by omega) (by omega) fun a' σ4 rows' hs' H4 => ?_
      have H5 : Has σ4 ((fi, fiO a2 b2.length e2 oa on oe) :: ((i0, .row .plain [ptr fi]) :: (rows' ++ X))) := H4.sep (fun a => by simp only [cnt_app, cnt_cons, cnt_nil, List.flatMap_append, List.flatMap_cons, List.flatMap_nil, List.append_assoc, List.cons_append, List.nil_append, i64, u32, u8, ptr, List.set_cons_zero, List.set_cons_succ]; omega)
      simp only [ldc_eq (H5.at 1 rfl), true_and, tI_int, tB_bool, tP_ptr, tM_map, tS_str, tTup_tup, tL_sl, tIf_if, pSome_some, chk_true, bm_true, bm_false, List.getElem?_cons_zero, List.getElem?_cons_succ, Nat.zero_add, Nat.add_zero, bne_self_eq_false, beq_self_eq_true, ptrEq_some, ptrEq_none, Bool.not_true, Bool.not_false, tAgg_agg, tCons_cons, tNil_nil, add_none, aadd_none, Option.getD_some, Option.getD_none, Option.map_some, Option.map_none]
      refine put0 H5 rfl (by simp) fun σ5 H6 => ?_
      have e8 : cells8 b2 ++ [u8 0] = cells8 (b2 ++ [0]) := by simp
      rw [e8] at hs'
      have er : bs ++ List.replicate (d + 1) 0 = b2 ++ [0] := by rw [← hbs, List.append_assoc, List.replicate_succ']
      refine hY (d + 1) _ _ (by omega) ⟨by omega, rfl, a', 1, rows', by rw [er]; exact hs', ?_⟩
      rw [er]
      refine H6.sep fun a => ?_
      simp only [fiO, cnt_app, cnt_cons, cnt_nil, List.flatMap_append, List.flatMap_cons, List.flatMap_nil, List.append_assoc, List.cons_append, List.nil_append, i64, u32, u8, ptr, List.set_cons_zero, List.set_cons_succ, List.length_append, List.length_cons, List.length_nil, Nat.zero_add]
      omega
    · have hge : 4 * p + 4 ≤ b2.length := by omega
      obtain ⟨j, rfl, rfl, rfl⟩ := hs2.at (p := 0) (by rw [List.length_map]; omega)
      refine req_mk (by omega) (req_mk (by omega) (cap_mk (Int.le_refl _) ?_))
      refine p261 H2 hc.1 hc.2 fun σ3 jp H3 => ?_
      simp only [ldc_eq (H3.at 1 rfl), ldc_eq (H3.at 2 rfl), true_and, tI_int, tB_bool, tP_ptr, tM_map, tS_str, tTup_tup, tL_sl, tIf_if, pSome_some, chk_true, bm_true, bm_false, List.getElem?_cons_zero, List.getElem?_cons_succ, Nat.zero_add, Nat.add_zero, bne_self_eq_false, beq_self_eq_true, ptrEq_some, ptrEq_none, Bool.not_true, Bool.not_false, tAgg_agg, tCons_cons, tNil_nil, add_none, aadd_none, Option.getD_some, Option.getD_none, Option.map_some, Option.map_none]
      refine req_mk (by omega) (req_mk (by omega) (cap_mk (Int.le_refl _) ?_))
      unfold srcCells
      simp only
      refine req_mk trivial ?_
      rw [lds_eq (H3.at 0 rfl) 0 (4 * 1) (by simp [by4])]
      have en : (((b2.length : Nat) : Int) - ((4 * p : Nat) : Int)).toNat = b2.length - 4 * p := by omega
      unfold copyTo
      simp only [sz5, Int.toNat_natCast, Nat.mul_one, en, List.drop_zero, true_and, tI_int, tB_bool, tP_ptr, tM_map, tS_str, tTup_tup, tL_sl, tIf_if, pSome_some, chk_true, bm_true, bm_false, List.getElem?_cons_zero, List.getElem?_cons_succ, Nat.zero_add, Nat.add_zero, bne_self_eq_false, beq_self_eq_true, ptrEq_some, ptrEq_none, Bool.not_true, Bool.not_false, tAgg_agg, tCons_cons, tNil_nil, add_none, aadd_none, Option.getD_some, Option.getD_none, Option.map_some, Option.map_none]
      have ev : (List.take (min 4 (b2.length - 4 * p)) (List.take 4 (cells8 (by4 c)))) = cells8 (by4 c) := by
        rw [Nat.min_eq_left (by omega)]
        simp [by4]
      rw [ev]
      have H4 : Has σ3 ((j, .row .rw (cells8 b2)) :: ((fi, fiO (some ⟨j, 0, none⟩) b2.length 1 oa on oe) :: X)) := H3.sep (fun a => by simp only [cnt_app, cnt_cons, cnt_nil, List.flatMap_append, List.flatMap_cons, List.flatMap_nil, List.append_assoc, List.cons_append, List.nil_append, i64, u32, u8, ptr, List.set_cons_zero, List.set_cons_succ]; omega)
      refine puts0 H4 rfl (by simp [by4]; omega) fun σ4 H5 => ?_
      have ec : (cells8 b2).take (4 * p) ++ cells8 (by4 c) ++ (cells8 b2).drop (4 * p + (cells8 (by4 c)).length) = cells8 (setA bs (4 * p) (by4 c)) := by
        have : setA bs (4 * p) (by4 c) = b2.take (4 * p) ++ by4 c ++ b2.drop (4 * p + 4) := by
          unfold setA
          rw [← hbs]
          have h4 : (by4 c).length = 4 := rfl
          rw [h4, List.take_append_of_le_length hp]
          congr 1
          rw [List.drop_append]
          have : (List.replicate d (0 : Int)).drop (4 * p + 4 - bs.length) = [] := by
            apply List.drop_eq_nil_of_le
            rw [List.length_replicate]
            omega
          rw [this, List.append_nil]
        rw [this]
        simp [by4, List.map_take, List.map_drop]
      have el : b2.length = (setA bs (4 * p) (by4 c)).length := by
        rw [setA_len hp]
        have h4 : (by4 c).length = 4 := rfl
        omega
      rw [ec, el] at H5
      exact hK σ4 _ _ (SlC.row (j := j)) (H5.sep (fun a => by simp only [cnt_app, cnt_cons, cnt_nil, List.flatMap_append, List.flatMap_cons, List.flatMap_nil, List.append_assoc, List.cons_append, List.nil_append, i64, u32, u8, ptr, List.set_cons_zero, List.set_cons_succ, show by4 c = enc1 true c from rfl]; omega))
-- a row of characters
theorem p265 {n : Nat} {wd : Bool} (H : Has σ ((fi, buO a n wd) :: X)) (hK : K (i64 n) σ) : Tri Tryz.prog 265 [ptr fi] σ K := tri_iz (by
  rw [z265]
  simp only [ldc_eq (H.at 0 rfl), true_and, tI_int, tB_bool, tP_ptr, tM_map, tS_str, tTup_tup, tL_sl, tIf_if, pSome_some, chk_true, bm_true, bm_false, List.getElem?_cons_zero, List.getElem?_cons_succ, Nat.zero_add, Nat.add_zero, bne_self_eq_false, beq_self_eq_true, ptrEq_some, ptrEq_none, Bool.not_true, Bool.not_false, tAgg_agg, tCons_cons, tNil_nil, add_none, aadd_none, Option.getD_some, Option.getD_none, Option.map_some, Option.map_none]
  exact hK)
theorem p263 {l : List Int} {wd : Bool} {p : Nat} {c : Int} (H : Has σ ((fi, buO a l.length wd) :: (rows ++ X))) (hs : SlC 1 a 1 (cellsU l) rows) (hc : l[p]? = some c) (hK : K (u32 c) σ) : Tri Tryz.prog 263 [ptr fi, i64 p] σ K := tri_iz (by
  rw [z263]
  have hlt := (List.getElem?_eq_some_iff.1 hc).1
  obtain ⟨j, rfl, _, rfl⟩ := hs.at (p := 0) (by rw [List.length_map]; omega)
  simp only [ldc_eq (H.at 0 rfl), true_and, tI_int, tB_bool, tP_ptr, tM_map, tS_str, tTup_tup, tL_sl, tIf_if, pSome_some, chk_true, bm_true, bm_false, List.getElem?_cons_zero, List.getElem?_cons_succ, Nat.zero_add, Nat.add_zero, bne_self_eq_false, beq_self_eq_true, ptrEq_some, ptrEq_none, Bool.not_true, Bool.not_false, tAgg_agg, tCons_cons, tNil_nil, add_none, aadd_none, Option.getD_some, Option.getD_none, Option.map_some, Option.map_none]
  refine req_mk (by omega) (req_mk (by omega) ?_)
  have hcv : (cellsU l)[p]? = some (u32 c) := by rw [List.getElem?_map, hc]; rfl
  simp only [sz54, Int.toNat_natCast, Nat.mul_one, ldc_eq (H.at 1 rfl), hcv, true_and, tI_int, tB_bool, tP_ptr, tM_map, tS_str, tTup_tup, tL_sl, tIf_if, pSome_some, chk_true, bm_true, bm_false, List.getElem?_cons_zero, List.getElem?_cons_succ, Nat.zero_add, Nat.add_zero, bne_self_eq_false, beq_self_eq_true, ptrEq_some, ptrEq_none, Bool.not_true, Bool.not_false, tAgg_agg, tCons_cons, tNil_nil, add_none, aadd_none, Option.getD_some, Option.getD_none, Option.map_some, Option.map_none]
  exact hK)
theorem p187 {l : List Int} {wd : Bool} {p : Nat} {c : Int} (H : Has σ ((fi, buO a l.length wd) :: (rows ++ X))) (hs : SlC 1 a 1 (cellsU l) rows) (hc : 0 ≤ c ∧ c ≤ 4294967295)
    (hK : ∀ σ' rows', SlC 1 a 1 (cellsU (if p < l.length then l.set p (putC wd c) else l)) rows' → Has σ' ((fi, buO a l.length wd) :: (rows' ++ X)) → K unit0 σ') : Tri Tryz.prog 187 [ptr fi, i64 p, u32 c] σ K := tri_iz (by
  rw [z187]
  have go : ∀ v : Int, v = putC wd c → JoinS (jn Tryz.prog hintsZ (Tri Tryz.prog) 187 [] [] K) [(0, some (ptr fi)), (1, some (i64 p)), (2, some (u32 v))] σ := by
    rintro v rfl
    refine ⟨?_⟩
    rw [z187j]
    simp only [ldc_eq (H.at 0 rfl), true_and, tI_int, tB_bool, tP_ptr, tM_map, tS_str, tTup_tup, tL_sl, tIf_if, pSome_some, chk_true, bm_true, bm_false, List.getElem?_cons_zero, List.getElem?_cons_succ, Nat.zero_add, Nat.add_zero, bne_self_eq_false, beq_self_eq_true, ptrEq_some, ptrEq_none, Bool.not_true, Bool.not_false, tAgg_agg, tCons_cons, tNil_nil, add_none, aadd_none, Option.getD_some, Option.getD_none, Option.map_some, Option.map_none]
    refine bmd_mk (fun h => ?_) (fun h => ?_)
    · refine req_mk (by omega) (req_mk (by omega) ?_)
      obtain ⟨j, rfl, _, rfl⟩ := hs.at (p := 0) (by rw [List.length_map]; omega)
      simp only [sz54, Int.toNat_natCast, Nat.mul_one, true_and, tI_int, tB_bool, tP_ptr, tM_map, tS_str, tTup_tup, tL_sl, tIf_if, pSome_some, chk_true, bm_true, bm_false, List.getElem?_cons_zero, List.getElem?_cons_succ, Nat.zero_add, Nat.add_zero, bne_self_eq_false, beq_self_eq_true, ptrEq_some, ptrEq_none, Bool.not_true, Bool.not_false, tAgg_agg, tCons_cons, tNil_nil, add_none, aadd_none, Option.getD_some, Option.getD_none, Option.map_some, Option.map_none]
      have H2 : Has σ ((j, .row .rw (cellsU l)) :: ((fi, buO (some ⟨j, 0, none⟩) l.length wd) :: X)) := H.sep (fun a => by simp only [cnt_app, cnt_cons, cnt_nil, List.flatMap_append, List.flatMap_cons, List.flatMap_nil, List.append_assoc, List.cons_append, List.nil_append, i64, u32, u8, ptr, List.set_cons_zero, List.set_cons_succ]; omega)
      refine put0 H2 rfl (by rw [List.length_map]; omega) fun σ2 H3 => ?_
      have e1 : (cellsU l).set p (u32 (putC wd c)) = cellsU (l.set p (putC wd c)) := (List.map_set (f := u32)).symm
      rw [e1] at H3
      rw [if_pos (by omega)] at hK
      exact hK σ2 _ SlC.row (H3.sep (fun a => by simp only [cnt_app, cnt_cons, cnt_nil, List.flatMap_append, List.flatMap_cons, List.flatMap_nil, List.append_assoc, List.cons_append, List.nil_append, i64, u32, u8, ptr, List.set_cons_zero, List.set_cons_succ]; omega))
    · rw [if_neg (by omega)] at hK
      exact hK σ rows hs H
  simp only [ldc_eq (H.at 0 rfl), true_and, tI_int, tB_bool, tP_ptr, tM_map, tS_str, tTup_tup, tL_sl, tIf_if, pSome_some, chk_true, bm_true, bm_false, List.getElem?_cons_zero, List.getElem?_cons_succ, Nat.zero_add, Nat.add_zero, bne_self_eq_false, beq_self_eq_true, ptrEq_some, ptrEq_none, Bool.not_true, Bool.not_false, tAgg_agg, tCons_cons, tNil_nil, add_none, aadd_none, Option.getD_some, Option.getD_none, Option.map_some, Option.map_none]
  cases wd with
  | false =>
    rw [Bool.not_false, bm_true]
    refine p199 hc.1 ?_
    rw [tI_int]
    have hb : 0 ≤ putC false c ∧ putC false c ≤ 4294967295 := by
      unfold putC
      simp only [Bool.false_eq_true, if_false]
      split <;> omega
    rw [wrapU32 hb.1 hb.2]
    exact go _ rfl
  | true =>
    rw [Bool.not_true, bm_false]
    exact go _ rfl)
end
end Go.AI
end
