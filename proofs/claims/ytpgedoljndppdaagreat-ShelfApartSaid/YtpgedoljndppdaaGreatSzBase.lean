/- Lemmas of the abstract condition ahead of code (a part of the library that the claim's proof stands on); they hold with no condition but those that each names. -/
import Derived.Test.YtpgedoljndppdaaGreatAISep
import Derived.Test.YtpgedoljndppdaaGreatSzForm
import Derived.Test.YtpgedoljndppdaaGreatSzForm2
import Derived.Test.YtpgedoljndppdaaGreatAISepTop
import Derived.IntWalk
import Derived.Laws.Strings
section
set_option linter.unusedSimpArgs false
set_option linter.unusedVariables false
/- Files as a list by their names: insertion, finding, changing, deleting, how many bytes; no condition but those that each names. -/
namespace Go.Shelf
structure Fi where
  nm : List UInt8
  b : List Int
def Srt (F : List Fi) : Prop := F.Pairwise fun x y => x.nm < y.nm
def insF (f : Fi) : List Fi → List Fi
  | [] => [f]
  | g :: F => if f.nm < g.nm then f :: g :: F else g :: insF f F
def hasF (F : List Fi) (n : List UInt8) : Bool := F.any (·.nm == n)
def setB (n : List UInt8) (b : List Int) (F : List Fi) : List Fi := F.map fun f => if f.nm = n then { f with b := b } else f
def delF (n : List UInt8) (F : List Fi) : List Fi := F.filter fun f => !(f.nm == n)
def totF (F : List Fi) : Nat := (F.map (·.b.length)).sum
theorem lt_irrefl (a : List UInt8) : ¬ a < a := List.lt_irrefl a
theorem lt_total {a b : List UInt8} (h : ¬ a < b) (h2 : ¬ b < a) : a = b := List.le_antisymm (List.not_lt.1 h2) (List.not_lt.1 h)
theorem hasF_iff {F : List Fi} {n : List UInt8} : hasF F n = true ↔ ∃ f ∈ F, f.nm = n := by simp [hasF]
theorem hasF_false {F : List Fi} {n : List UInt8} : hasF F n = false ↔ ∀ f ∈ F, f.nm ≠ n := by simp [hasF]
theorem insF_perm (f : Fi) : ∀ F : List Fi, (insF f F).Perm (f :: F)
  | [] => .refl _
  | g :: F => by
    unfold insF
    split
    · exact .refl _
    · exact (List.Perm.cons g (insF_perm f F)).trans (.swap f g F)
theorem insF_srt {f : Fi} : ∀ {F : List Fi}, Srt F → (∀ g ∈ F, g.nm ≠ f.nm) → Srt (insF f F)
  | [], _, _ => by simp [insF, Srt]
  | g :: F, h, hn => by
    obtain ⟨h1, h2⟩ := List.pairwise_cons.1 h
    unfold insF
    split
    · rename_i hl
      refine List.pairwise_cons.2 ⟨fun x hx => ?_, h⟩
      rcases List.mem_cons.1 hx with rfl | hx
      · exact hl
      · exact List.lt_trans hl (h1 x hx)
    · rename_i hl
      have hg : g.nm < f.nm := by
        by_cases hgf : g.nm < f.nm
        · exact hgf
        · exact absurd (lt_total hgf hl) (hn g (by simp))
      refine List.pairwise_cons.2 ⟨fun x hx => ?_, insF_srt h2 fun x hx => hn x (by simp [hx])⟩
      rcases List.mem_cons.1 ((insF_perm f F).mem_iff.1 hx) with rfl | hx
      · exact hg
      · exact h1 x hx
theorem setB_nm (n : List UInt8) (b : List Int) (F : List Fi) : (setB n b F).map (·.nm) = F.map (·.nm) := by
  unfold setB
  rw [List.map_map]
  refine List.map_congr_left fun f _ => ?_
  simp only [Function.comp]
  split <;> rfl
theorem setB_srt {n : List UInt8} {b : List Int} {F : List Fi} (h : Srt F) : Srt (setB n b F) := by
  have h1 : (F.map (·.nm)).Pairwise (· < ·) := List.pairwise_map.2 h
  rw [← setB_nm n b F] at h1
  exact List.pairwise_map.1 h1
theorem delF_srt {n : List UInt8} {F : List Fi} (h : Srt F) : Srt (delF n F) := h.filter _
theorem totF_insF (f : Fi) (F : List Fi) : totF (insF f F) = f.b.length + totF F := by
  unfold totF
  rw [((insF_perm f F).map _).sum_nat]
  simp
theorem srt_inj {F : List Fi} (h : Srt F) {x y : Fi} (hx : x ∈ F) (hy : y ∈ F) (e : x.nm = y.nm) : x = y := by
  induction F with
  | nil => cases hx
  | cons g F ih =>
    obtain ⟨h1, h2⟩ := List.pairwise_cons.1 h
    rcases List.mem_cons.1 hx with e1 | k1 <;> rcases List.mem_cons.1 hy with e2 | k2
    · rw [e1, e2]
    · have := h1 y k2; rw [← e1, e] at this; exact absurd this (lt_irrefl _)
    · have := h1 x k1; rw [← e2, e] at this; exact absurd this (lt_irrefl _)
    · exact ih h2 k1 k2
/-- Two lists by names with the same files are one. -/
theorem srt_eq {F G : List Fi} (h1 : Srt F) (h2 : Srt G) (hp : F.Perm G) : F = G := by
  refine List.Perm.eq_of_pairwise (le := fun x y : Fi => x.nm < y.nm) ?_ h1 h2 hp
  intro a b _ _ e1 e2
  exact absurd (List.lt_trans e1 e2) (lt_irrefl _)
theorem totF_app (F G : List Fi) : totF (F ++ G) = totF F + totF G := by unfold totF; simp
theorem totF_cons (f : Fi) (F : List Fi) : totF (f :: F) = f.b.length + totF F := by unfold totF; simp
theorem hasF_setB (n m : List UInt8) (b : List Int) (F : List Fi) : hasF (setB n b F) m = hasF F m := by
  have h : ∀ F : List Fi, hasF F m = (F.map (·.nm)).any (· == m) := fun F => by unfold hasF; rw [List.any_map]; rfl
  rw [h, h, setB_nm]
theorem setB_none {n : List UInt8} {b : List Int} : ∀ {F : List Fi}, (∀ f ∈ F, f.nm ≠ n) → setB n b F = F
  | [], _ => rfl
  | f :: F, h => by
    have h1 := setB_none (b := b) (F := F) fun x hx => h x (by simp [hx])
    unfold setB at h1 ⊢
    rw [List.map_cons, h1, if_neg (h f (by simp))]
theorem delF_none {n : List UInt8} {F : List Fi} (h : ∀ f ∈ F, f.nm ≠ n) : delF n F = F := by
  unfold delF
  rw [List.filter_eq_self]
  intro f hf
  simpa using h f hf
/-- The file of a name, and those before and behind it. -/
theorem split_of {F : List Fi} (hs : Srt F) {f : Fi} (hf : f ∈ F) : ∃ F1 F2, F = F1 ++ f :: F2 ∧ (∀ g ∈ F1, g.nm ≠ f.nm) ∧ (∀ g ∈ F2, g.nm ≠ f.nm) := by
  obtain ⟨F1, F2, rfl⟩ := List.append_of_mem hf
  obtain ⟨_, h2, h3⟩ := List.pairwise_append.1 hs
  refine ⟨F1, F2, rfl, fun g hg e => ?_, fun g hg e => ?_⟩
  · have := h3 g hg f (by simp); rw [e] at this; exact lt_irrefl _ this
  · have := (List.pairwise_cons.1 h2).1 g hg; rw [e] at this; exact lt_irrefl _ this
theorem setB_split {F1 F2 : List Fi} {f : Fi} {b : List Int} (h1 : ∀ g ∈ F1, g.nm ≠ f.nm) (h2 : ∀ g ∈ F2, g.nm ≠ f.nm) : setB f.nm b (F1 ++ f :: F2) = F1 ++ { f with b := b } :: F2 := by
  have e1 := setB_none (b := b) h1
  have e2 := setB_none (b := b) h2
  unfold setB at e1 e2 ⊢
  rw [List.map_append, List.map_cons, e1, e2, if_pos rfl]
theorem delF_split {F1 F2 : List Fi} {f : Fi} (h1 : ∀ g ∈ F1, g.nm ≠ f.nm) (h2 : ∀ g ∈ F2, g.nm ≠ f.nm) : delF f.nm (F1 ++ f :: F2) = F1 ++ F2 := by
  have e1 := delF_none h1
  have e2 := delF_none h2
  unfold delF at e1 e2 ⊢
  rw [List.filter_append, List.filter_cons, e1, e2, if_neg (by simp)]
theorem totF_setB {F : List Fi} (hs : Srt F) {f : Fi} (hf : f ∈ F) (b : List Int) : totF (setB f.nm b F) + f.b.length = totF F + b.length := by
  obtain ⟨F1, F2, rfl, h1, h2⟩ := split_of hs hf
  rw [setB_split h1 h2, totF_app, totF_app, totF_cons, totF_cons]
  simp only
  omega
theorem totF_delF {F : List Fi} (hs : Srt F) {f : Fi} (hf : f ∈ F) : totF (delF f.nm F) + f.b.length = totF F := by
  obtain ⟨F1, F2, rfl, h1, h2⟩ := split_of hs hf
  rw [delF_split h1 h2, totF_app, totF_app, totF_cons]
  omega
/-- A streams' row. -/
structure Sm where
  n : Int
  nm : List UInt8
  l : List Int
  mode : Int
  wd : Bool
  pl : Nat
  rd : Nat
  wr : Nat
/-- Bytes laid at a place; behind the end: appended. -/
def setA (b : List Int) (i : Nat) (ps : List Int) : List Int := b.take i ++ ps ++ b.drop (i + ps.length)
def putU (b : List Int) (i : Nat) : List Int → List Int
  | [] => b
  | p :: ps => putU (if i = b.length then b ++ [p] else b.set i p) (i + 1) ps
theorem putU_eq : ∀ (ps b : List Int) (i : Nat), i ≤ b.length → putU b i ps = setA b i ps
  | [], b, i, h => by unfold putU setA; simp
  | p :: ps, b, i, h => by
    unfold putU
    have h1 : (if i = b.length then b ++ [p] else b.set i p) = b.take i ++ p :: b.drop (i + 1) := by
      split
      · rename_i e
        rw [e, List.take_length, List.drop_of_length_le (by omega)]
      · rw [List.set_eq_take_append_cons_drop, if_pos (by omega)]
    rw [h1]
    have hl : (b.take i).length = i := by rw [List.length_take]; omega
    rw [putU_eq ps _ (i + 1) (by rw [List.length_append, hl]; simp)]
    unfold setA
    have e1 : (b.take i ++ p :: b.drop (i + 1)).take (i + 1) = b.take i ++ [p] := by
      rw [List.take_append, hl, List.take_of_length_le (by rw [hl]; omega)]
      simp
    have e2 : (b.take i ++ p :: b.drop (i + 1)).drop (i + 1 + ps.length) = b.drop (i + (p :: ps).length) := by
      rw [List.drop_append, hl, List.drop_of_length_le (by rw [hl]; omega), List.nil_append]
      rw [show i + 1 + ps.length - i = ps.length + 1 by omega, List.drop_succ_cons, List.drop_drop]
      congr 1
      simp only [List.length_cons]
      omega
    rw [e1, e2]
    simp
theorem setA_len {b : List Int} {i : Nat} {ps : List Int} (h : i ≤ b.length) : (setA b i ps).length = max b.length (i + ps.length) := by
  unfold setA
  simp only [List.length_append, List.length_take, List.length_drop]
  omega
end Go.Shelf
end
section
set_option linter.unusedSimpArgs false
set_option linter.unusedVariables false
/- What a shelf is, and what each call does to it: plain lists; no condition but those that each names. -/
namespace Go.Shelf
def putC (w : Bool) (c : Int) : Int := if w then c else if c > 255 then 63 else c
/-- Four bytes of a number, the highest first. -/
def by4 (x : Int) : List Int := [x / 16777216 % 256, x / 65536 % 256, x / 256 % 256, x % 256]
/-- The number of some bytes. -/
def beV (l : List Int) : Int := l.foldl (fun x b => x * 256 + b) 0
def unW (w : Bool) : Nat := match w with | true => 4 | false => 1
/-- How many characters there are, and which. -/
def sizeW (w : Bool) (bs : List Int) : Nat := match w with | true => bs.length / 4 | false => bs.length
def viewAt (w : Bool) (bs : List Int) (p : Nat) : Int := match w with | true => beV ((bs.drop (4 * p)).take 4) | false => bs.getD p 0
def view (w : Bool) (bs : List Int) : List Int := (List.range (sizeW w bs)).map (viewAt w bs)
/-- The bytes that one character is, that many are. -/
def enc1 (w : Bool) (c : Int) : List Int := match w with | true => by4 c | false => [putC false c]
def enc (w : Bool) (l : List Int) : List Int := l.flatMap (enc1 w)
theorem view_len (w : Bool) (bs : List Int) : (view w bs).length = sizeW w bs := by unfold view; simp
theorem view_get {w : Bool} {bs : List Int} {p : Nat} (h : p < sizeW w bs) : (view w bs)[p]? = some (viewAt w bs p) := by
  unfold view
  rw [List.getElem?_map, List.getElem?_range h]
  rfl
theorem sizeW_le (w : Bool) (bs : List Int) : sizeW w bs ≤ bs.length := by cases w <;> simp only [sizeW] <;> omega
theorem sizeW_un (w : Bool) (bs : List Int) : unW w * sizeW w bs ≤ bs.length := by cases w <;> simp only [sizeW, unW] <;> omega
theorem enc1_len (w : Bool) (c : Int) : (enc1 w c).length = unW w := by cases w <;> rfl
theorem enc_len (w : Bool) : ∀ l : List Int, (enc w l).length = unW w * l.length
  | [] => by simp [enc]
  | c :: l => by
    have := enc_len w l
    unfold enc at this ⊢
    rw [List.flatMap_cons, List.length_append, this, enc1_len, List.length_cons, Nat.mul_add]
    omega
theorem enc_nil (w : Bool) : enc w [] = [] := rfl
theorem enc_cons (w : Bool) (c : Int) (l : List Int) : enc w (c :: l) = enc1 w c ++ enc w l := by simp [enc]
theorem enc_app (w : Bool) (a b : List Int) : enc w (a ++ b) = enc w a ++ enc w b := by simp [enc]
theorem enc1_byte {w : Bool} {c : Int} (h : 0 ≤ c) : ∀ b ∈ enc1 w c, 0 ≤ b ∧ b < 256 := by
  cases w with
  | true =>
    intro b hb
    simp only [enc1, by4, List.mem_cons, List.not_mem_nil, or_false] at hb
    rcases hb with rfl | rfl | rfl | rfl <;> omega
  | false =>
    intro b hb
    simp only [enc1, List.mem_singleton] at hb
    subst hb
    unfold putC
    simp only [Bool.false_eq_true, if_false]
    split <;> omega
theorem enc_byte {w : Bool} {l : List Int} (h : ∀ c ∈ l, 0 ≤ c) : ∀ b ∈ enc w l, 0 ≤ b ∧ b < 256 := by
  intro b hb
  obtain ⟨c, hc, hb⟩ := List.mem_flatMap.1 hb
  exact enc1_byte (h c hc) b hb
theorem setA_setA {b : List Int} {i : Nat} {p q : List Int} (h : i ≤ b.length) : setA (setA b i p) (i + p.length) q = setA b i (p ++ q) := by
  have h1 := setA_len (ps := p) h
  unfold setA at h1 ⊢
  have hl : (b.take i).length = i := by rw [List.length_take]; omega
  have e1 : (b.take i ++ p ++ b.drop (i + p.length)).take (i + p.length) = b.take i ++ p := by
    rw [List.take_append_of_le_length (by rw [List.length_append, hl]; omega)]
    exact List.take_of_length_le (by rw [List.length_append, hl]; omega)
  have e2 : (b.take i ++ p ++ b.drop (i + p.length)).drop (i + p.length + q.length) = b.drop (i + (p ++ q).length) := by
    rw [List.drop_append, List.drop_of_length_le (by rw [List.length_append, hl]; omega), List.nil_append, List.length_append, hl, List.drop_drop]
    congr 1
    rw [List.length_append]
    omega
  rw [e1, e2]
  simp
theorem setA_nil (b : List Int) (i : Nat) : setA b i [] = b := by unfold setA; simp
theorem setA_mem {b : List Int} {i : Nat} {p : List Int} {x : Int} (h : x ∈ setA b i p) : x ∈ b ∨ x ∈ p := by
  unfold setA at h
  rcases List.mem_append.1 h with h | h
  · rcases List.mem_append.1 h with h | h
    · exact .inl (List.mem_of_mem_take h)
    · exact .inr h
  · exact .inl (List.mem_of_mem_drop h)
/-- A row of characters that is written to from a place on; what there is no room for is passed over. -/
def bufW (l : List Int) (p : Nat) (ms : List Int) : List Int := l.take p ++ ms.take (l.length - p) ++ l.drop (p + ms.length)
theorem bufW_len {l : List Int} {p : Nat} {ms : List Int} (h : p ≤ l.length) : (bufW l p ms).length = l.length := by
  unfold bufW
  simp only [List.length_append, List.length_take, List.length_drop]
  omega
theorem bufW_nil (l : List Int) (p : Nat) : bufW l p [] = l := by unfold bufW; simp
theorem bufW_snoc {l : List Int} {p : Nat} {ms : List Int} {c : Int} (h : p ≤ l.length) : bufW l p (ms ++ [c]) = if p + ms.length < l.length then (bufW l p ms).set (p + ms.length) c else bufW l p ms := by
  unfold bufW
  split
  · rename_i g
    have e1 : (ms ++ [c]).take (l.length - p) = ms ++ [c] := List.take_of_length_le (by rw [List.length_append]; simp; omega)
    have e2 : ms.take (l.length - p) = ms := List.take_of_length_le (by omega)
    rw [e1, e2]
    have hl : (l.take p ++ ms).length = p + ms.length := by rw [List.length_append, List.length_take]; omega
    rw [List.set_append_right _ _ (by rw [hl]; exact Nat.le_refl _), hl, Nat.sub_self]
    have e3 : l.drop (p + ms.length) = l[p + ms.length]'g :: l.drop (p + ms.length + 1) := List.drop_eq_getElem_cons g
    rw [e3, List.set_cons_zero]
    simp [Nat.add_assoc]
  · rename_i g
    have e1 : (ms ++ [c]).take (l.length - p) = ms.take (l.length - p) := List.take_append_of_le_length (by omega)
    have e2 : l.drop (p + (ms ++ [c]).length) = l.drop (p + ms.length) := by
      rw [List.drop_of_length_le (by rw [List.length_append]; simp; omega), List.drop_of_length_le (by omega)]
    rw [e1, e2]
/-- A line: up to a 10, no longer than n. -/
def lineOf : Nat → List Int → List Int
  | 0, _ => []
  | _ + 1, [] => []
  | n + 1, c :: r => if c = 10 then [c] else c :: lineOf n r
theorem lineOf_len : ∀ (n : Nat) (l : List Int), (lineOf n l).length ≤ l.length
  | 0, _ => by simp [lineOf]
  | _ + 1, [] => by simp [lineOf]
  | n + 1, c :: r => by
    unfold lineOf
    have := lineOf_len n r
    split <;> simp <;> omega
def seekTo (base sz p : Int) : Int := base + max (-base) (min p (sz - base))

/-- The bytes of a name; none: as if it had none. -/
def bOf (F : List Fi) (n : List UInt8) : List Int := match F.find? (·.nm == n) with | some f => f.b | none => []
def charsOf (F : List Fi) (x : Sm) : List Int := if x.nm = [] then x.l else view x.wd (bOf F x.nm)
def named (n : List UInt8) : Prop := 1 ≤ n.length ∧ n.length ≤ 32
instance (n : List UInt8) : Decidable (named n) := inferInstanceAs (Decidable (_ ∧ _))
def held (S : List Sm) (n : List UInt8) : Bool := S.any (·.nm == n)
def heldW (S : List Sm) (n : List UInt8) : Bool := S.any fun x => x.nm == n && x.mode != 2
def atS (S : List Sm) (n : Int) : Option Sm := S.find? (·.n == n)
def setS (x : Sm) (S : List Sm) : List Sm := S.map fun y => if y.n = x.n then x else y
def delS (n : Int) (S : List Sm) : List Sm := S.filter fun y => !(y.n == n)
def putE (most : Int) (F : List Fi) (S : List Sm) (n : List UInt8) (b : List Int) : Int :=
  if ¬ named n then 1 else if held S n then 6 else if hasF F n = false ∧ F.length = 64 then 4 else if (totF F : Int) + b.length - (bOf F n).length > most then 7 else 0
def putF (F : List Fi) (n : List UInt8) (b : List Int) : List Fi := if hasF F n then setB n b F else insF ⟨n, b⟩ F
def delB (F : List Fi) (S : List Sm) (n : List UInt8) : Bool := hasF F n && !held S n
def openE (F : List Fi) (S : List Sm) (n : List UInt8) (mode : Int) : Int :=
  if ¬ named n ∨ ¬ (mode = 1 ∨ mode = 2 ∨ mode = 3 ∨ mode = 5) then 1 else if S.length = 64 then 4 else if hasF F n = false ∧ mode = 2 then 5 else if hasF F n = false ∧ F.length = 64 then 4
  else if held S n = true ∧ (heldW S n = true ∨ mode ≠ 2) then 6 else 0
def openF (F : List Fi) (n : List UInt8) (mode : Int) : List Fi := if hasF F n then (if mode = 1 then setB n [] F else F) else insF ⟨n, []⟩ F
def openS (F : List Fi) (last : Int) (n : List UInt8) (mode : Int) (w : Bool) : Sm := ⟨last + 1, n, [], mode, w, if mode = 5 then sizeW w (bOf (openF F n mode) n) else 0, 0, 0⟩
def bufE (S : List Sm) (len : Nat) (mode : Int) : Int := if mode < 1 ∨ mode > 3 ∨ len > 4096 then 1 else if S.length = 64 then 4 else 0
def bufS (last : Int) (l : List Int) (mode : Int) (w : Bool) : Sm := ⟨last + 1, [], l.map (putC w), mode, w, 0, 0, 0⟩
/-- A stream that is written to; the bytes of its file behind that. -/
def wrB (b : List Int) (x : Sm) (ms : List Int) : List Int := setA b (unW x.wd * x.pl) (enc x.wd ms)
def wrE (most : Int) (F : List Fi) (x : Sm) (ms : List Int) : Int :=
  if x.mode = 2 then 1 else if x.nm ≠ [] ∧ (totF F : Int) - (bOf F x.nm).length + (wrB (bOf F x.nm) x ms).length > most then 7 else 0
def wrF (F : List Fi) (x : Sm) (ms : List Int) : List Fi := if x.nm = [] then F else setB x.nm (wrB (bOf F x.nm) x ms) F
def wrS (x : Sm) (ms : List Int) : Sm :=
  if x.nm = [] then { x with l := bufW x.l x.pl (ms.map (putC x.wd)), pl := min (x.pl + ms.length) x.l.length, wr := x.wr + ms.length } else { x with pl := x.pl + ms.length, wr := x.wr + ms.length }
def reads (x : Sm) : Bool := x.mode == 2 || x.mode == 3
def rdS (x : Sm) (k : Nat) : Sm := { x with pl := x.pl + k, rd := x.rd + k }
def seekE (q : Int) : Int := if q < 0 ∨ 2 < q then 1 else 0
def seekS (F : List Fi) (x : Sm) (p q : Int) : Sm :=
  { x with pl := (seekTo (if q = 0 then 0 else if q = 1 then x.pl else (charsOf F x).length) (charsOf F x).length p).toNat }

/-- A shelf that is well, behind so many acts. -/
structure Ok (most last : Int) (F : List Fi) (S : List Sm) (k : Nat) : Prop where
  most0 : 0 ≤ most
  most1 : most ≤ 1048576
  last0 : 0 ≤ last
  last1 : last ≤ k
  kle : k ≤ 1024
  srt : Srt F
  nm : ∀ f ∈ F, named f.nm
  byte : ∀ f ∈ F, ∀ c ∈ f.b, 0 ≤ c ∧ c < 256
  flen : F.length ≤ 64
  tot : (totF F : Int) ≤ most
  sn : S.Pairwise fun x y => x.n < y.n
  sle : ∀ x ∈ S, 1 ≤ x.n ∧ x.n ≤ last
  slen : S.length ≤ 64
  has : ∀ x ∈ S, x.nm ≠ [] → hasF F x.nm = true
  pl : ∀ x ∈ S, x.pl ≤ (charsOf F x).length
  ln : ∀ x ∈ S, x.l.length ≤ 4096
  lc : ∀ x ∈ S, ∀ c ∈ x.l, 0 ≤ c ∧ c ≤ 4294967295
  l0 : ∀ x ∈ S, x.nm ≠ [] → x.l = []
  md : ∀ x ∈ S, x.mode = 1 ∨ x.mode = 2 ∨ x.mode = 3 ∨ x.mode = 5
  rd : ∀ x ∈ S, x.rd ≤ 1048576 * k
  wr : ∀ x ∈ S, x.wr ≤ 1048576 * k
theorem totF_mem {F : List Fi} {f : Fi} (h : f ∈ F) : f.b.length ≤ totF F := by
  obtain ⟨A, B, rfl⟩ := List.append_of_mem h
  rw [totF_app, totF_cons]
  omega
theorem bOf_mem {F : List Fi} (hs : Srt F) {f : Fi} (h : f ∈ F) : bOf F f.nm = f.b := by
  unfold bOf
  cases hf : F.find? (·.nm == f.nm) with
  | none =>
    have := List.find?_eq_none.1 hf f h
    simp at this
  | some g =>
    have h1 := List.mem_of_find?_eq_some hf
    have h2 := List.find?_some hf
    have : g = f := srt_inj hs h1 h (by simpa using h2)
    rw [this]
theorem bOf_none {F : List Fi} {n : List UInt8} (h : hasF F n = false) : bOf F n = [] := by
  unfold bOf
  have : F.find? (·.nm == n) = none := List.find?_eq_none.2 fun f hf => by
    have := hasF_false.1 h f hf
    simpa using this
  rw [this]
theorem bOf_byte {F : List Fi} (hb : ∀ f ∈ F, ∀ c ∈ f.b, 0 ≤ c ∧ c < 256) (n : List UInt8) : ∀ c ∈ bOf F n, 0 ≤ c ∧ c < 256 := by
  unfold bOf
  cases hf : F.find? (·.nm == n) with
  | none => simp
  | some g => exact hb g (List.mem_of_find?_eq_some hf)
theorem bOf_len {F : List Fi} (n : List UInt8) : (bOf F n).length ≤ totF F := by
  unfold bOf
  cases hf : F.find? (·.nm == n) with
  | none => simp
  | some g => exact totF_mem (List.mem_of_find?_eq_some hf)
theorem bOf_setB {F : List Fi} {n m : List UInt8} {b : List Int} : bOf (setB n b F) m = if n = m ∧ hasF F m = true then b else bOf F m := by
  induction F with
  | nil => simp [bOf, setB, hasF]
  | cons g F ih =>
    unfold bOf setB at ih ⊢
    rw [List.map_cons, List.find?_cons, List.find?_cons]
    have e1 : (if g.nm = n then ({ g with b := b } : Fi) else g).nm = g.nm := by split <;> rfl
    rw [e1]
    by_cases hg : g.nm = m
    · have : (g.nm == m) = true := by simpa using hg
      rw [this]
      simp only
      have hh : hasF (g :: F) m = true := hasF_iff.2 ⟨g, by simp, hg⟩
      rw [hh]
      by_cases hn : n = m
      · have h1 : g.nm = n := hg.trans hn.symm
        have h2 : n = m ∧ true = true := ⟨hn, rfl⟩
        rw [if_pos h1, if_pos h2]
      · have h1 : ¬ g.nm = n := fun e => hn (e.symm.trans hg)
        have h2 : ¬ (n = m ∧ true = true) := fun h => hn h.1
        rw [if_neg h1, if_neg h2]
    · have : (g.nm == m) = false := by simpa using hg
      rw [this]
      simp only
      have hh : hasF (g :: F) m = hasF F m := by simp [hasF, hg]
      rw [hh]
      exact ih
theorem bOf_insF {F : List Fi} (hs : Srt F) {f : Fi} (hn : hasF F f.nm = false) (m : List UInt8) : bOf (insF f F) m = if f.nm = m then f.b else bOf F m := by
  have hno := hasF_false.1 hn
  have hs' : Srt (insF f F) := insF_srt hs hno
  have hp := insF_perm f F
  by_cases e : f.nm = m
  · rw [if_pos e, ← e]
    exact bOf_mem hs' (hp.mem_iff.2 (by simp))
  · rw [if_neg e]
    cases hm : hasF F m with
    | true =>
      obtain ⟨g, hg, rfl⟩ := hasF_iff.1 hm
      rw [bOf_mem hs hg]
      exact bOf_mem hs' (hp.mem_iff.2 (by simp [hg]))
    | false =>
      rw [bOf_none hm]
      apply bOf_none
      refine hasF_false.2 fun g hg => ?_
      rcases List.mem_cons.1 (hp.mem_iff.1 hg) with rfl | hg
      · exact e
      · exact hasF_false.1 hm g hg
theorem hasF_insF (f : Fi) (F : List Fi) (m : List UInt8) : hasF (insF f F) m = (f.nm == m || hasF F m) := by
  have hp := insF_perm f F
  unfold hasF
  rw [hp.any_eq, List.any_cons]
theorem bOf_delF {F : List Fi} {n m : List UInt8} (h : n ≠ m) : bOf (delF n F) m = bOf F m := by
  unfold bOf delF
  rw [List.find?_filter]
  congr 2
  funext f
  by_cases e : f.nm = m
  · have h1 : (f.nm == m) = true := by simpa using e
    have h2 : (f.nm == n) = false := by rw [e]; simpa using fun e => h e.symm
    rw [h1, h2]; rfl
  · have h1 : (f.nm == m) = false := by simpa using e
    rw [h1]; simp
theorem hasF_delF {F : List Fi} {n m : List UInt8} (h : n ≠ m) : hasF (delF n F) m = hasF F m := by
  unfold hasF delF
  rw [List.any_filter]
  congr 1
  funext f
  by_cases e : f.nm = m
  · have h1 : (f.nm == m) = true := by simpa using e
    have h2 : (f.nm == n) = false := by rw [e]; simpa using fun e => h e.symm
    rw [h1, h2]; rfl
  · have h1 : (f.nm == m) = false := by simpa using e
    rw [h1]; simp
theorem charsOf_len (F : List Fi) (x : Sm) : (charsOf F x).length = if x.nm = [] then x.l.length else sizeW x.wd (bOf F x.nm) := by
  unfold charsOf
  split
  · rfl
  · rw [view_len]
end Go.Shelf
end
section
set_option linter.unusedSimpArgs false
set_option linter.unusedVariables false
set_option maxRecDepth 10000
/- Objects that are known, counted; slices with the rows that they lie on; strings; no condition but those that each names. -/
namespace Go.AI
open Go.Proofs Go.Shelf
theorem noGoS : noGo Tryz.prog = true := by kernel_rfl
theorem tri_in {f : Nat} {args : List Value} {σ : AS} {K : Value → AS → Prop} (h : fw Tryz.prog hintsS (Tri Tryz.prog) f args σ K) : Tri Tryz.prog f args σ K := tri_fw Tryz.checked.mixed noGoS h
theorem add_none (b o n : Nat) : Addr.add ⟨b, o, none⟩ n = ⟨b, o + n, none⟩ := by
  unfold Addr.add
  by_cases h : n = 0
  · subst h; simp
  · simp [h]
abbrev ptr (i : Nat) : Value := .pointer (some ⟨i, 0, none⟩)
abbrev i64 (n : Int) : Value := .int .i64 n
abbrev u32 (n : Int) : Value := .int .u32 n
abbrev u8 (n : Int) : Value := .int .u8 n
abbrev unit0 : Value := .tuple ⟨[]⟩
theorem wrap64 {n : Int} (h0 : -9223372036854775808 ≤ n) (h1 : n ≤ 9223372036854775807) : IntKind.wrap .i64 n = n := by
  simp [IntKind.wrap, IntKind.signed, IntKind.bits]
  omega
theorem wrapU32 {n : Int} (h0 : 0 ≤ n) (h1 : n ≤ 4294967295) : IntKind.wrap .u32 n = n := Go.IntWalk.u32_in n (by omega)
theorem wrapU8 {n : Int} (h0 : 0 ≤ n) (h1 : n < 256) : IntKind.wrap .u8 n = n := Go.IntWalk.u8_in n (by omega)
theorem wrap1 {n : Nat} (h : n ≤ 4611686018427387904) : IntKind.wrap .i64 ((n : Int) + 1) = ((n + 1 : Nat) : Int) := by rw [wrap64 (by omega) (by omega)]; omega
theorem cap_ge (σ : AS) (a : Option Addr) (e n : Nat) : n ≤ capLo σ a e n := by
  unfold capLo
  split
  · exact Nat.le_refl _
  · split
    · exact Nat.le_max_left _ _
    · exact Nat.le_refl _
theorem cap_mk {σ : AS} {a : Option Addr} {e n : Nat} {p : Int} {K : Prop} (h : p ≤ n) (k : K) : req (p ≤ (capLo σ a e n : Nat)) K := req_mk (by have := cap_ge σ a e n; omega) k
theorem bmd_mk {p : Prop} [Decidable p] {A B : Prop} (h1 : p → A) (h2 : ¬ p → B) : bmatch (decide p) A B :=
  bm_mk (fun h => h1 (of_decide_eq_true h)) (fun h => h2 (of_decide_eq_false h))
theorem beq_mk {a b : Int} {A B : Prop} (h1 : a = b → A) (h2 : a ≠ b → B) : bmatch (a == b) A B :=
  bm_mk (fun h => h1 (by simpa using h)) (fun h => h2 (by simpa using h))
theorem bne_mk {a b : Int} {A B : Prop} (h1 : a ≠ b → A) (h2 : a = b → B) : bmatch (a != b) A B :=
  bm_mk (fun h => h1 (by simpa using h)) (fun h => h2 (by simpa using h))
theorem bnot_mk {b : Bool} {A B : Prop} (h1 : b = false → A) (h2 : b = true → B) : bmatch (!b) A B := by cases b with | true => exact h2 rfl | false => exact h1 rfl
theorem bm_t {b : Bool} {A B : Prop} (h : b = true) (k : A) : bmatch b A B := by subst h; exact k
theorem bm_f {b : Bool} {A B : Prop} (h : b = false) (k : B) : bmatch b A B := by subst h; exact k
theorem tL_ok {a : Option Addr} {n e f : Nat} {K : Sl → Prop} (h : nilOr a e f = true) (k : K ⟨a, n⟩) : tL f (.slice a n e) K := by
  unfold tL
  simp only
  exact chk_mk h k
theorem tL_ok_eq {a : Option Addr} {n e f : Nat} {K : Sl → Prop} (h : nilOr a e f = true) : tL f (.slice a n e) K = K ⟨a, n⟩ := by
  unfold tL
  simp only [h, chk]
theorem tAgg_agg (l : List Value) (K : List Value → Prop) : tAgg (.agg ⟨l⟩) K = K l := rfl
theorem tCons_cons (v : Value) (l : List Value) (K : Value → List Value → Prop) : tCons (v :: l) K = K v l := rfl
theorem tNil_nil (K : Prop) : tNil [] K = K := rfl
-- counted
noncomputable def one (a b : Nat × AObj) : Nat := open Classical in if a = b then 1 else 0
theorem one_self (a : Nat × AObj) : one a a = 1 := by unfold one; simp
theorem one_ne {a b : Nat × AObj} (h : a ≠ b) : one a b = 0 := by unfold one; simp [h]
noncomputable def cnt (a : Nat × AObj) : List (Nat × AObj) → Nat
  | [] => 0
  | b :: L => one a b + cnt a L
theorem cnt_nil (a : Nat × AObj) : cnt a [] = 0 := rfl
theorem cnt_cons (a b : Nat × AObj) (L : List (Nat × AObj)) : cnt a (b :: L) = one a b + cnt a L := rfl
theorem cnt_app (a : Nat × AObj) : ∀ L M : List (Nat × AObj), cnt a (L ++ M) = cnt a L + cnt a M
  | [], M => by rw [cnt_nil, List.nil_append, Nat.zero_add]
  | b :: L, M => by rw [List.cons_append, cnt_cons, cnt_cons, cnt_app a L M, Nat.add_assoc]
theorem cnt_pos {a : Nat × AObj} : ∀ {L : List (Nat × AObj)}, 1 ≤ cnt a L ↔ a ∈ L
  | [] => by simp [cnt]
  | b :: L => by
    rw [cnt_cons, List.mem_cons, ← cnt_pos (L := L)]
    by_cases e : a = b
    · subst e; rw [one_self]; constructor
      · intro _; exact .inl rfl
      · intro _; omega
    · rw [one_ne e]
      constructor
      · intro h; exact .inr (by omega)
      · rintro (h | h)
        · exact absurd h e
        · omega
theorem cnt_le_one {a : Nat × AObj} : ∀ {L : List (Nat × AObj)}, (L.map (·.1)).Nodup → cnt a L ≤ 1
  | [], _ => by simp [cnt]
  | b :: L, h => by
    obtain ⟨h1, h2⟩ := List.nodup_cons.1 h
    have := cnt_le_one (a := a) h2
    rw [cnt_cons]
    by_cases e : a = b
    · subst e
      have h3 : ¬ 1 ≤ cnt a L := fun g => h1 (List.mem_map_of_mem (cnt_pos.1 g))
      rw [one_self]
      omega
    · rw [one_ne e]; omega
theorem key_inj {L : List (Nat × AObj)} (h : (L.map (·.1)).Nodup) {x y : Nat × AObj} (hx : x ∈ L) (hy : y ∈ L) (e : x.1 = y.1) : x = y := by
  obtain ⟨m, hm⟩ := List.getElem?_of_mem hx
  obtain ⟨n, hn⟩ := List.getElem?_of_mem hy
  have h1 : (L.map (·.1))[m]? = some x.1 := by rw [List.getElem?_map, hm]; rfl
  have h2 : (L.map (·.1))[n]? = some x.1 := by rw [List.getElem?_map, hn, e]; rfl
  have := nodup_inj h h1 h2
  subst this
  rw [hm] at hn
  injection hn
theorem nodup_sep {L : List (Nat × AObj)} (h : (L.map (·.1)).Nodup) : ∀ {M : List (Nat × AObj)}, (∀ a, cnt a M ≤ cnt a L) → (M.map (·.1)).Nodup
  | [], _ => by simp
  | x :: M, hc => by
    have hM : ∀ a, cnt a M ≤ cnt a L := fun a => by have := hc a; rw [cnt_cons] at this; omega
    rw [List.map_cons, List.nodup_cons]
    refine ⟨fun hm => ?_, nodup_sep h hM⟩
    obtain ⟨y, hy, e⟩ := List.mem_map.1 hm
    have hxL : x ∈ L := cnt_pos.1 (by have := hc x; rw [cnt_cons, one_self] at this; omega)
    have hyL : y ∈ L := cnt_pos.1 (by have := hM y; have := cnt_pos.2 hy; omega)
    have : y = x := key_inj h hyL hxL e
    subst this
    have h1 := hc y
    have h2 := cnt_le_one (a := y) h
    have h3 := cnt_pos.2 hy
    rw [cnt_cons, one_self] at h1
    omega
section
variable {σ : AS} {L M : List (Nat × AObj)} {i o n : Nat} {k : RK} {cs : List Value}
theorem Has.sep (h : Has σ L) (hc : ∀ a, cnt a M ≤ cnt a L) : Has σ M :=
  ⟨nodup_sep h.1 hc, fun p hp => h.2 p (cnt_pos.1 (by have := hc p; have := cnt_pos.2 hp; omega))⟩
theorem Has.g (h : Has σ L) {x : AObj} (e : (i, x) ∈ L) : σ i = some x := h.2 _ e
theorem ldc_eq {G : Value → Prop} (h : σ i = some (.row k cs)) (o : Nat) : ldc σ ⟨i, o, none⟩ G = pSome cs[o]? G := by
  unfold ldc AS.cell; simp only; rw [h]
theorem lds_eq {G : List Value → Prop} (h : σ i = some (.row k cs)) (o n : Nat) (hb : o + n ≤ cs.length) : lds σ ⟨i, o, none⟩ n G = G ((cs.drop o).take n) := by
  unfold lds AS.cells
  cases n with
  | zero => simp [pSome]
  | succ n => simp only; rw [h]; simp only; rw [if_pos hb]; rfl
theorem mget_eq {G : Option Value → Prop} {es : List MapEntry} {c : Nat} (h : σ i = some (.map es c)) (d : TypeDesc) (kv : Value) : mget σ d (some i) kv G = pSome (Instr.findNow d kv es 0) fun x => G (x.map (·.2)) := by
  unfold mget AS.ents; simp only; rw [h]; rfl
theorem mlen_eq {G : Int → Prop} {es : List MapEntry} {c : Nat} (h : σ i = some (.map es c)) : mlen σ (some i) G = G es.length := by
  unfold mlen AS.ents; simp only; rw [h]; rfl
theorem ldm {G : Value → Prop} {v : Value} (H : Has σ L) (e : (i, AObj.row k cs) ∈ L) (hv : cs[o]? = some v) (hG : G v) : ldc σ ⟨i, o, none⟩ G := by
  rw [ldc_eq (H.g e), hv]; exact hG
theorem ldsm {G : List Value → Prop} (H : Has σ L) (e : (i, AObj.row k cs) ∈ L) (hb : o + n ≤ cs.length) (hG : G ((cs.drop o).take n)) : lds σ ⟨i, o, none⟩ n G := by
  rw [lds_eq (H.g e) _ _ hb]; exact hG
/-- The first of what is known is written to. -/
theorem put0 {G : AS → Prop} {v : Value} (H : Has σ ((i, .row k cs) :: M)) (hk : k.own = true) (ho : o < cs.length) (hG : ∀ σ', Has σ' ((i, .row k (cs.set o v)) :: M) → G σ') : put1 σ ⟨i, o, none⟩ v G := put1_mk H 0 rfl hk ho hG
theorem puts0 {G : AS → Prop} {vs : List Value} (H : Has σ ((i, .row k cs) :: M)) (hk : k.own = true) (ho : o + vs.length ≤ cs.length) (hG : ∀ σ', Has σ' ((i, .row k (cs.take o ++ vs ++ cs.drop (o + vs.length))) :: M) → G σ') : puts σ ⟨i, o, none⟩ vs G := puts_mk H 0 rfl hk ho hG
theorem mset0_new {G : AS → Prop} {d : TypeDesc} {kv v : Value} {es : List MapEntry} {c : Nat} (H : Has σ ((i, .map es c) :: M)) (hx : Instr.findNow d kv es 0 = some none) (hG : ∀ σ', Has σ' ((i, .map (es ++ [{ key := kv, val := v, born := c }]) (c + 1)) :: M) → G σ') : mset σ d i kv v G := mset_new_mk H 0 rfl hx hG
theorem mset0_old {G : AS → Prop} {d : TypeDesc} {kv v u : Value} {es : List MapEntry} {c j : Nat} (H : Has σ ((i, .map es c) :: M)) (hx : Instr.findNow d kv es 0 = some (some (j, u))) (hG : ∀ σ', Has σ' ((i, .map (es.modify j fun e => { e with key := kv, val := v }) c) :: M) → G σ') : mset σ d i kv v G := by
  unfold mset
  exact mapAt_mk H 0 rfl (pSome_mk hx (hG _ (H.upd 0 rfl _)))
theorem mdel0 {G : AS → Prop} {d : TypeDesc} {kv v : Value} {es : List MapEntry} {c j : Nat} (H : Has σ ((i, .map es c) :: M)) (hx : Instr.findNow d kv es 0 = some (some (j, v))) (hG : ∀ σ', Has σ' ((i, .map (es.eraseIdx j) c) :: M) → G σ') : mdel σ d i kv G := mdel_mk H 0 rfl hx hG
/-- A slice of so many cells, with the row that it lies on. -/
def SlC (sz : Nat) (a : Option Addr) (e : Nat) (cells : List Value) (rows : List (Nat × AObj)) : Prop :=
  (a = none ∧ cells = [] ∧ rows = []) ∨ ∃ j, a = some ⟨j, 0, none⟩ ∧ sz = e ∧ rows = [(j, .row .rw cells)]
variable {sz by_ : Nat} {a : Option Addr} {e : Nat} {cells new : List Value} {rows X : List (Nat × AObj)}
theorem SlC.no (h : SlC sz a e cells rows) : nilOr a e sz = true := by
  rcases h with ⟨rfl, _⟩ | ⟨j, rfl, rfl, _⟩
  · unfold nilOr; cases Nat.beq e sz <;> rfl
  · unfold nilOr; rw [Nat.beq_refl]
theorem SlC.e1 (h : SlC sz a e cells rows) : SlC sz a sz cells rows := by
  rcases h with h | ⟨j, h1, h2, h3⟩
  · exact .inl h
  · exact .inr ⟨j, h1, rfl, h3⟩
theorem SlC.nil (e : Nat) : SlC sz none e [] [] := .inl ⟨rfl, rfl, rfl⟩
theorem SlC.row {j : Nat} : SlC sz (some ⟨j, 0, none⟩) sz cells [(j, .row .rw cells)] := .inr ⟨j, rfl, rfl, rfl⟩
/-- Cells behind a slice. -/
theorem appC {G : Sl → AS → Prop} {m : Nat} (hs : SlC sz a e cells rows) (H : Has σ (rows ++ X)) (hn : n * sz = cells.length) (hm : new.length = m * sz) (hsz : 0 < sz) (hb : (n + m) * by_ ≤ 140737488355328)
    (hG : ∀ a' σ' rows', SlC sz a' sz (cells ++ new) rows' → Has σ' (rows' ++ X) → G ⟨a', n + m⟩ σ') : appendTo σ sz by_ ⟨a, n⟩ new m G := by
  rcases hs with ⟨rfl, rfl, rfl⟩ | ⟨j, rfl, rfl, rfl⟩
  · have h0 : n = 0 := by
      rcases Nat.eq_zero_or_pos n with h | h
      · exact h
      · have := Nat.mul_le_mul h hsz
        simp at hn
        omega
    subst h0
    unfold appendTo
    refine req_mk hb ?_
    simp only
    cases m with
    | zero =>
      have e0 : new = [] := List.length_eq_zero_iff.1 (by simpa using hm)
      subst e0
      exact hG none σ [] (SlC.nil _) H
    | succ m =>
      refine newAt_mk H fun j σ' H' => ?_
      have := hG (some ⟨j, 0, none⟩) σ' [(j, .row .rw new)] SlC.row (by simpa using H')
      rw [Nat.zero_add] at this
      exact this
  · refine append_mk H 0 rfl rfl hb (by omega) fun j' σ' H' => ?_
    have e0 : cells.take (n * sz) = cells := List.take_of_length_le (by omega)
    rw [e0] at H'
    exact hG _ σ' _ SlC.row (by simpa using H')
/-- One element more. -/
theorem pushC {G : Sl → AS → Prop} (hs : SlC sz a e cells rows) (H : Has σ (rows ++ X)) (hn : n * sz = cells.length) (hm : new.length = sz) (hsz : 0 < sz) (hb : (n + 1) * by_ ≤ 140737488355328)
    (hG : ∀ a' σ' rows', SlC sz a' sz (cells ++ new) rows' → Has σ' (rows' ++ X) → G ⟨a', n + 1⟩ σ') :
    newAt σ (.row .rw new) fun i0 σ1 => chk (nilOr a e sz) (lds σ1 ⟨i0, 0, none⟩ sz fun l => appendTo σ1 sz by_ ⟨a, n⟩ l 1 G) := by
  refine newAt_mk H fun i0 σ1 H1 => chk_mk hs.no (lds_mk H1 0 rfl (by omega) ?_)
  have e0 : (new.drop 0).take sz = new := by rw [List.drop_zero]; exact List.take_of_length_le (by omega)
  rw [e0]
  exact appC hs (H1.sep (M := rows ++ ((i0, .row .rw new) :: X)) (fun a => by simp only [cnt_app, cnt_cons]; omega)) hn (by omega) hsz hb fun a' σ' rows' hs' H' => hG a' σ' rows' hs' (H'.sep (fun a => by simp only [cnt_app, cnt_cons]; omega))
/-- A slice's cells as the source of an append. -/
theorem srcC {G : Nat → List Value → Prop} (hs : SlC sz a e cells rows) (H : Has σ L) (hr : ∀ p ∈ rows, p ∈ L) (hn : n * sz = cells.length) (hsz : 0 < sz) (hG : G n cells) : srcCells σ sz (some (.slice a n sz)) G := by
  rcases hs with ⟨rfl, rfl, rfl⟩ | ⟨j, rfl, rfl, rfl⟩
  · have h0 : n = 0 := by
      rcases Nat.eq_zero_or_pos n with h | h
      · exact h
      · have := Nat.mul_le_mul h hsz
        simp at hn
        omega
    subst h0
    exact hG
  · unfold srcCells
    refine req_mk rfl (ldsm (k := .rw) (cs := cells) H (hr _ (List.mem_singleton.2 rfl)) (by omega) ?_)
    have e0 : (cells.drop 0).take (n * sz) = cells := by rw [List.drop_zero]; exact List.take_of_length_le (by omega)
    rw [e0]
    exact hG
/-- An element of a slice: it is there. -/
theorem SlC.at (hs : SlC sz a e cells rows) {p : Nat} (hp : p < cells.length) : ∃ j, a = some ⟨j, 0, none⟩ ∧ sz = e ∧ rows = [(j, .row .rw cells)] := by
  rcases hs with ⟨rfl, rfl, rfl⟩ | h
  · simp at hp
  · exact h
end
-- strings
abbrev bsV (l : List UInt8) : ByteArray := ⟨l.toArray⟩
theorem strEq_bs (a b : List UInt8) : strEq (bsV a) (bsV b) = decide (a = b) := by
  unfold strEq
  rw [ByteArray.toList_mk, ByteArray.toList_mk]
  by_cases h : a = b <;> simp [h]
theorem bytesLess_lt : ∀ (x y : List UInt8), Op.bytesLess x y = decide (x < y)
  | [], [] => by simp [Op.bytesLess]
  | _ :: _, [] => by simp [Op.bytesLess]
  | [], _ :: _ => by simp [Op.bytesLess]
  | a :: x, b :: y => by
    rw [Op.bytesLess, bytesLess_lt x y]
    simp only [List.cons_lt_cons_iff]
    by_cases h1 : a < b <;> by_cases h2 : a = b <;> by_cases h3 : x < y <;> simp [h1, h2, h3]
theorem strLt_bs (a b : List UInt8) : strLt (bsV a) (bsV b) = decide (a < b) := by
  unfold strLt
  rw [ByteArray.toList_mk, ByteArray.toList_mk, bytesLess_lt]
theorem size_bs (a : List UInt8) : (bsV a).size = a.length := rfl
theorem bsV_ex (s : ByteArray) : ∃ l, s = bsV l := ⟨s.data.toList, by cases s; rfl⟩
abbrev cells8 (l : List Int) : List Value := l.map u8
abbrev cellsU (l : List Int) : List Value := l.map u32
end Go.AI
end
