/- Abstract states: what a world holds, told by abstract ids, without capacities, block numbers and draws; and the relation between the two. -/
import Derived.Calls
import Derived.Orders
import Derived.KernelRfl
import Derived.Laws.Sem
namespace Go.AI

structure Loc where
  block : Nat
  shift : Nat
  size : Nat
  low : Nat

inductive RK where
  | ro | rw | plain

def RK.own : RK → Bool
  | .ro => false
  | _ => true

inductive AObj where
  | row (k : RK) (cells : List Value)
  | map (es : List MapEntry) (clock : Nat)
  | iter (m : Option Nat) (since : Nat) (seen : List Nat) (last : Nat)
  | siter (s : ByteArray) (pos : Nat)
  | dead

def AObj.own : AObj → Bool
  | .row k _ => k.own
  | .dead => false
  | _ => true
def AObj.live : AObj → Bool
  | .dead => false
  | _ => true

/-- A tree of things that have numbers. -/
inductive Tr where
  | lf
  | nd (o : Option AObj) (l r : Tr)

def Tr.get : Tr → Nat → Option AObj
  | .lf, _ => none
  | .nd o l r, i => match i with
    | 0 => o
    | i + 1 => match Nat.beq (i % 2) 0 with | true => l.get (i / 2) | false => r.get (i / 2)
def Tr.setF : Nat → Tr → Nat → AObj → Tr
  | 0, t, _, _ => t
  | f + 1, t, i, x => match t with
    | .lf => (match i with
      | 0 => .nd (some x) .lf .lf
      | i + 1 => match Nat.beq (i % 2) 0 with | true => .nd none (Tr.setF f .lf (i / 2) x) .lf | false => .nd none .lf (Tr.setF f .lf (i / 2) x))
    | .nd o l r => (match i with
      | 0 => .nd (some x) l r
      | i + 1 => match Nat.beq (i % 2) 0 with | true => .nd o (Tr.setF f l (i / 2) x) r | false => .nd o l (Tr.setF f r (i / 2) x))

theorem Tr.get_setF : ∀ (f : Nat) (t : Tr) (i j : Nat) (x : AObj), i < f → (Tr.setF f t i x).get j = if j = i then some x else t.get j
  | 0, t, i, j, x, h => absurd h (Nat.not_lt_zero _)
  | f + 1, t, i, j, x, h => by
    have key : ∀ (a b : Nat) (l r : Tr) (o : Option AObj), a < f →
        (match Nat.beq (a % 2) 0 with | true => Tr.nd o (Tr.setF f l (a / 2) x) r | false => Tr.nd o l (Tr.setF f r (a / 2) x)).get (b + 1) = if b + 1 = a + 1 then some x else (Tr.nd o l r).get (b + 1) := by
      intro a b l r o ha
      have lt : a / 2 < f := Nat.lt_of_le_of_lt (Nat.div_le_self _ _) ha
      have ih := Tr.get_setF f
      cases ea : Nat.beq (a % 2) 0 <;> cases eb : Nat.beq (b % 2) 0 <;> simp only [Tr.get, eb]
      · have ha2 : a % 2 ≠ 0 := fun e => by rw [e] at ea; cases ea
        have hb2 : b % 2 ≠ 0 := fun e => by rw [e] at eb; cases eb
        rw [ih r (a / 2) (b / 2) x lt]
        by_cases e : b / 2 = a / 2
        · rw [if_pos e, if_pos (by omega)]
        · rw [if_neg e, if_neg (by omega)]
      · have ha2 : a % 2 ≠ 0 := fun e => by rw [e] at ea; cases ea
        have hb2 := Nat.eq_of_beq_eq_true eb
        rw [if_neg (by omega)]
      · have ha2 := Nat.eq_of_beq_eq_true ea
        have hb2 : b % 2 ≠ 0 := fun e => by rw [e] at eb; cases eb
        rw [if_neg (by omega)]
      · have ha2 := Nat.eq_of_beq_eq_true ea
        have hb2 := Nat.eq_of_beq_eq_true eb
        rw [ih l (a / 2) (b / 2) x lt]
        by_cases e : b / 2 = a / 2
        · rw [if_pos e, if_pos (by omega)]
        · rw [if_neg e, if_neg (by omega)]
    have lf0 : ∀ b, (Tr.nd none .lf .lf).get (b + 1) = none := by
      intro b
      simp only [Tr.get]
      cases Nat.beq (b % 2) 0 <;> rfl
    have zero : ∀ (a : Nat) (l r : Tr) (o : Option AObj), (match Nat.beq (a % 2) 0 with | true => Tr.nd o (Tr.setF f l (a / 2) x) r | false => Tr.nd o l (Tr.setF f r (a / 2) x)).get 0 = o := by
      intro a l r o
      cases Nat.beq (a % 2) 0 <;> rfl
    cases t with
    | lf =>
      cases i with
      | zero =>
        cases j with
        | zero => rfl
        | succ j =>
          rw [if_neg (Nat.succ_ne_zero j)]
          show (Tr.nd (some x) .lf .lf).get (j + 1) = none
          simp only [Tr.get]
          cases Nat.beq (j % 2) 0 <;> rfl
      | succ i =>
        cases j with
        | zero =>
          rw [if_neg (fun e => by cases e)]
          exact zero i .lf .lf none
        | succ j =>
          have := key i j .lf .lf none (by omega)
          rw [lf0] at this
          exact this
    | nd o l r =>
      cases i with
      | zero =>
        cases j with
        | zero => rfl
        | succ j => rw [if_neg (Nat.succ_ne_zero j)]; rfl
      | succ i =>
        cases j with
        | zero =>
          rw [if_neg (fun e => by cases e)]
          exact zero i l r o
        | succ j => exact key i j l r o (by omega)
theorem Tr.setF_setF : ∀ (f : Nat) (t : Tr) (i : Nat) (x y : AObj), i < f → Tr.setF f (Tr.setF f t i x) i y = Tr.setF f t i y
  | 0, t, i, x, y, h => absurd h (Nat.not_lt_zero _)
  | f + 1, t, i, x, y, h => by
    have ih := Tr.setF_setF f
    cases t <;> cases i with
    | zero => rfl
    | succ i =>
      have lt : i / 2 < f := Nat.lt_of_le_of_lt (Nat.div_le_self _ _) (by omega)
      simp only [Tr.setF]
      cases e : Nat.beq (i % 2) 0 <;> simp only [ih _ _ x y lt]
theorem Tr.setF_self : ∀ (f : Nat) (t : Tr) (i : Nat) (x : AObj), i < f → t.get i = some x → Tr.setF f t i x = t
  | 0, t, i, x, h, _ => absurd h (Nat.not_lt_zero _)
  | f + 1, t, i, x, h, hg => by
    have ih := Tr.setF_self f
    cases t with
    | lf => cases hg
    | nd o l r =>
      cases i with
      | zero =>
        have : o = some x := hg
        subst this
        rfl
      | succ i =>
        have lt : i / 2 < f := Nat.lt_of_le_of_lt (Nat.div_le_self _ _) (by omega)
        simp only [Tr.get] at hg
        simp only [Tr.setF]
        cases e : Nat.beq (i % 2) 0 <;> rw [e] at hg <;> simp only at hg ⊢
        · rw [ih r _ x lt hg]
        · rw [ih l _ x lt hg]

/-- What there is: each thing has a number below n. -/
structure AS where
  n : Nat
  t : Tr
  ok : ∀ i, n ≤ i → t.get i = none

def AS.get (σ : AS) (i : Nat) : Option AObj := σ.t.get i
instance : CoeFun AS (fun _ => Nat → Option AObj) := ⟨AS.get⟩

theorem AS.set_ok (σ : AS) (i : Nat) (o : AObj) : ∀ j, Nat.max σ.n (i + 1) ≤ j → (Tr.setF (i + 1) σ.t i o).get j = none := fun j hj => by
  have h1 : σ.n ≤ j := Nat.le_trans (Nat.le_max_left _ _) hj
  have h2 : i + 1 ≤ j := Nat.le_trans (Nat.le_max_right _ _) hj
  rw [Tr.get_setF _ _ _ _ _ (Nat.lt_succ_self i), if_neg (by omega)]
  exact σ.ok j h1
def AS.set (σ : AS) (i : Nat) (o : AObj) : AS := ⟨Nat.max σ.n (i + 1), Tr.setF (i + 1) σ.t i o, σ.set_ok i o⟩
def AS.del (σ : AS) (i : Nat) : AS := σ.set i .dead
def AS.nil : AS := ⟨0, .lf, fun _ _ => rfl⟩
abbrev RM := Nat → Option Loc

theorem AS.get_set (σ : AS) (i j : Nat) (o : AObj) : σ.set i o j = if j = i then some o else σ j := Tr.get_setF _ _ _ _ _ (Nat.lt_succ_self i)
theorem AS.set_same (σ : AS) (i : Nat) (o : AObj) : σ.set i o i = some o := by rw [AS.get_set, if_pos rfl]
theorem AS.set_ne (σ : AS) {i j : Nat} (o : AObj) (h : j ≠ i) : σ.set i o j = σ j := by rw [AS.get_set, if_neg h]
theorem AS.del_same (σ : AS) (i : Nat) : σ.del i i = some .dead := σ.set_same i _
theorem AS.del_ne (σ : AS) {i j : Nat} (h : j ≠ i) : σ.del i j = σ j := σ.set_ne _ h
theorem AS.free (σ : AS) : σ σ.n = none := σ.ok _ (Nat.le_refl _)
theorem AS.lt (σ : AS) {i : Nat} {o : AObj} (h : σ i = some o) : i < σ.n := by
  rcases Nat.lt_or_ge i σ.n with hl | hl
  · exact hl
  · have := σ.ok i hl
    rw [show σ i = σ.t.get i from rfl, this] at h
    cases h
theorem AS.eq {σ τ : AS} (hn : σ.n = τ.n) (ht : σ.t = τ.t) : σ = τ := by
  cases σ; cases τ
  simp only at hn ht
  subst hn; subst ht
  rfl
theorem AS.set_set (σ : AS) (i : Nat) (a b : AObj) : (σ.set i a).set i b = σ.set i b :=
  AS.eq (by
      show Nat.max (Nat.max σ.n (i + 1)) (i + 1) = Nat.max σ.n (i + 1)
      have : ∀ a b : Nat, Nat.max (Nat.max a b) b = Nat.max a b := fun a b => by show max (max a b) b = max a b; omega
      exact this _ _) (Tr.setF_setF _ _ _ _ _ (Nat.lt_succ_self i))
theorem AS.set_self (σ : AS) (i : Nat) (a : AObj) (h : σ i = some a) : σ.set i a = σ :=
  AS.eq (by have := σ.lt h; show max σ.n (i + 1) = σ.n; omega) (Tr.setF_self _ _ _ _ (Nat.lt_succ_self i) h)

mutual
inductive VRel (ρ : RM) : Value → Value → Prop
  | bool (b : Bool) : VRel ρ (.bool b) (.bool b)
  | int (k : IntKind) (n : Int) : VRel ρ (.int k n) (.int k n)
  | str (s : ByteArray) : VRel ρ (.string s) (.string s)
  | nilptr : VRel ρ (.pointer none) (.pointer none)
  | ptr {i o : Nat} {l : Loc} (h : ρ i = some l) : VRel ρ (.pointer (some ⟨i, o, none⟩)) (.pointer (some ⟨l.block, o + l.shift, none⟩))
  | nilslice (e : Nat) : VRel ρ (.slice none 0 e) (.slice none 0 0)
  | slice {i o n e cap o' : Nat} {l : Loc} (h : ρ i = some l) (hn : n ≤ cap) (ho : cap = 0 ∨ o' = o + l.shift) (hs : o' + cap * e ≤ l.size) (hw : l.low ≤ o + l.shift + cap * e) :
      VRel ρ (.slice (some ⟨i, o, none⟩) n e) (.slice (some ⟨l.block, o', none⟩) n cap)
  | emp {i o e cap : Nat} {a : Addr} {l : Loc} (h : ρ i = some l) (he : l.size < l.shift) : VRel ρ (.slice (some ⟨i, o, none⟩) 0 e) (.slice (some a) 0 cap)
  | nilmap : VRel ρ (.map none) (.map none)
  | map {i : Nat} {l : Loc} (h : ρ i = some l) : VRel ρ (.map (some i)) (.map (some l.block))
  | nilfunc : VRel ρ .nilFunc .nilFunc
  | func (f : FuncId) {a b c d : List Value} (h1 : VsRel ρ a b) (h2 : VsRel ρ c d) :
      VRel ρ (.func (.func f) ⟨a⟩ ⟨c⟩) (.func (.func f) ⟨b⟩ ⟨d⟩)
  | nilif : VRel ρ .nilIface .nilIface
  | iface (t : TypeId) {v cv : Value} (h : VRel ρ v cv) : VRel ρ (.iface t v) (.iface t cv)
  | agg {a b : List Value} (h : VsRel ρ a b) (h1 : ∀ v ∈ b, v.oneCell' = true) : VRel ρ (.agg ⟨a⟩) (.agg ⟨b⟩)
  | tuple {a b : List Value} (h : VsRel ρ a b) : VRel ρ (.tuple ⟨a⟩) (.tuple ⟨b⟩)
inductive VsRel (ρ : RM) : List Value → List Value → Prop
  | nil : VsRel ρ [] []
  | cons {v cv : Value} {vs cvs : List Value} (h : VRel ρ v cv) (hs : VsRel ρ vs cvs) : VsRel ρ (v :: vs) (cv :: cvs)
end

def RM.le (ρ ρ' : RM) : Prop := ∀ i l, ρ i = some l → ρ' i = some l
theorem RM.le_refl (ρ : RM) : ρ.le ρ := fun _ _ h => h
theorem RM.le_trans {a b c : RM} (h : a.le b) (h' : b.le c) : a.le c := fun i l e => h' i l (h i l e)

mutual
theorem VRel.mono {ρ ρ' : RM} (h : ρ.le ρ') : ∀ {v cv : Value}, VRel ρ v cv → VRel ρ' v cv
  | _, _, .bool b => .bool b
  | _, _, .int k n => .int k n
  | _, _, .str s => .str s
  | _, _, .nilptr => .nilptr
  | _, _, .ptr e => .ptr (h _ _ e)
  | _, _, .nilslice e => .nilslice e
  | _, _, .slice e hn ho hs hw => .slice (h _ _ e) hn ho hs hw
  | _, _, .emp e he => .emp (h _ _ e) he
  | _, _, .nilmap => .nilmap
  | _, _, .map e => .map (h _ _ e)
  | _, _, .nilfunc => .nilfunc
  | _, _, .func f h1 h2 => .func f (VsRel.mono h h1) (VsRel.mono h h2)
  | _, _, .nilif => .nilif
  | _, _, .iface t e => .iface t (VRel.mono h e)
  | _, _, .agg e h1 => .agg (VsRel.mono h e) h1
  | _, _, .tuple e => .tuple (VsRel.mono h e)
theorem VsRel.mono {ρ ρ' : RM} (h : ρ.le ρ') : ∀ {v cv : List Value}, VsRel ρ v cv → VsRel ρ' v cv
  | _, _, .nil => .nil
  | _, _, .cons e es => .cons (VRel.mono h e) (VsRel.mono h es)
end

section vs
variable {ρ : RM}
theorem VsRel.length : ∀ {a b : List Value}, VsRel ρ a b → a.length = b.length
  | _, _, .nil => rfl
  | _, _, .cons _ hs => by simp [VsRel.length hs]
theorem VsRel.get : ∀ {a b : List Value}, VsRel ρ a b → ∀ {j : Nat} {v : Value}, a[j]? = some v → ∃ cv, b[j]? = some cv ∧ VRel ρ v cv
  | _, _, .nil, j, v, h => by simp at h
  | _, _, .cons (cv := cv) e _, 0, v, h => by
    simp at h; subst h; exact ⟨cv, by simp, e⟩
  | _, _, .cons _ hs, j + 1, v, h => by
    simp at h
    obtain ⟨cv, h1, h2⟩ := hs.get h
    exact ⟨cv, by simpa using h1, h2⟩
theorem VsRel.append : ∀ {a b c d : List Value}, VsRel ρ a b → VsRel ρ c d → VsRel ρ (a ++ c) (b ++ d)
  | _, _, _, _, .nil, h => h
  | _, _, _, _, .cons e es, h => .cons e (es.append h)
theorem VsRel.take : ∀ {a b : List Value}, VsRel ρ a b → ∀ n, VsRel ρ (a.take n) (b.take n)
  | _, _, .nil, n => by simp; exact .nil
  | _, _, .cons e es, 0 => by simp; exact .nil
  | _, _, .cons e es, n + 1 => by simp; exact .cons e (es.take n)
theorem VsRel.drop : ∀ {a b : List Value}, VsRel ρ a b → ∀ n, VsRel ρ (a.drop n) (b.drop n)
  | _, _, .nil, n => by simp; exact .nil
  | _, _, .cons e es, 0 => by simp; exact .cons e es
  | _, _, .cons e es, n + 1 => by simp; exact es.drop n
theorem VsRel.set : ∀ {a b : List Value}, VsRel ρ a b → ∀ (n : Nat) {v cv : Value}, VRel ρ v cv → VsRel ρ (a.set n v) (b.set n cv)
  | _, _, .nil, n, _, _, h => by simp; exact .nil
  | _, _, .cons e es, 0, _, _, h => by simp; exact .cons h es
  | _, _, .cons e es, n + 1, _, _, h => by simp; exact .cons e (es.set n h)
theorem VsRel.replicate {v cv : Value} (h : VRel ρ v cv) : ∀ n, VsRel ρ (List.replicate n v) (List.replicate n cv)
  | 0 => .nil
  | n + 1 => .cons h (VsRel.replicate h n)
theorem VsRel.of_get {a b : List Value} (hl : a.length = b.length) (h : ∀ (j : Nat) v cv, a[j]? = some v → b[j]? = some cv → VRel ρ v cv) : VsRel ρ a b := by
  induction a generalizing b with
  | nil => cases b with
    | nil => exact .nil
    | cons => simp at hl
  | cons v vs ih => cases b with
    | nil => simp at hl
    | cons cv cvs =>
      refine .cons (h 0 v cv (by simp) (by simp)) (ih (by simpa using hl) fun (j : Nat) v' cv' h1 h2 => h (j + 1) v' cv' (by simpa using h1) (by simpa using h2))
end vs

/-- Two lists, related element by element. -/
inductive L2 {α β : Type} (R : α → β → Prop) : List α → List β → Prop
  | nil : L2 R [] []
  | cons {a : α} {b : β} {as : List α} {bs : List β} (h : R a b) (hs : L2 R as bs) : L2 R (a :: as) (b :: bs)
theorem L2.imp {α β : Type} {R S : α → β → Prop} (f : ∀ a b, R a b → S a b) : ∀ {a : List α} {b : List β}, L2 R a b → L2 S a b
  | _, _, .nil => .nil
  | _, _, .cons h hs => .cons (f _ _ h) (hs.imp f)
theorem L2.length {α β : Type} {R : α → β → Prop} : ∀ {a : List α} {b : List β}, L2 R a b → a.length = b.length
  | _, _, .nil => rfl
  | _, _, .cons _ hs => by simp [hs.length]
theorem L2.append {α β : Type} {R : α → β → Prop} : ∀ {a c : List α} {b d : List β}, L2 R a b → L2 R c d → L2 R (a ++ c) (b ++ d)
  | _, _, _, _, .nil, h => h
  | _, _, _, _, .cons e es, h => .cons e (es.append h)
theorem L2.get {α β : Type} {R : α → β → Prop} : ∀ {a : List α} {b : List β}, L2 R a b → ∀ {j : Nat} {x : α}, a[j]? = some x → ∃ y, b[j]? = some y ∧ R x y
  | _, _, .nil, j, v, h => by simp at h
  | _, _, .cons (b := y) e _, 0, v, h => by simp at h; subst h; exact ⟨y, by simp, e⟩
  | _, _, .cons _ hs, j + 1, v, h => by
    simp at h
    obtain ⟨cv, h1, h2⟩ := hs.get h
    exact ⟨cv, by simpa using h1, h2⟩
theorem L2.get' {α β : Type} {R : α → β → Prop} : ∀ {a : List α} {b : List β}, L2 R a b → ∀ {j : Nat} {y : β}, b[j]? = some y → ∃ x, a[j]? = some x ∧ R x y
  | _, _, .nil, j, v, h => by simp at h
  | _, _, .cons (a := x) e _, 0, v, h => by simp at h; subst h; exact ⟨x, by simp, e⟩
  | _, _, .cons _ hs, j + 1, v, h => by
    simp at h
    obtain ⟨cv, h1, h2⟩ := hs.get' h
    exact ⟨cv, by simpa using h1, h2⟩

structure EntRel (ρ : RM) (e ce : MapEntry) : Prop where
  key : VRel ρ e.key ce.key
  val : VRel ρ e.val ce.val
  born : e.born = ce.born

def FzOk (k : RK) (fz : Nat × Nat) (n : Nat) : Prop :=
  match k with
  | .ro => True
  | .rw => fz = (0, 0) ∨ n ≤ fz.1
  | .plain => fz = (0, 0)

def MRel (ρ : RM) : Option Nat → Option Nat → Prop
  | none, none => True
  | some i, some b => ∃ l, ρ i = some l ∧ l.block = b
  | _, _ => False

def ORel (ρ : RM) (h : Array Obj) (l : Loc) : AObj → Prop
  | .row k cells => ∃ c elem fz, h[l.block]? = some (.cells c elem fz) ∧ c.size = l.size ∧ l.shift + cells.length ≤ c.size ∧
      (∀ (j : Nat) v, cells[j]? = some v → ∃ cv, c[l.shift + j]? = some cv ∧ VRel ρ v cv ∧ cv.oneCell' = true) ∧ FzOk k fz c.size ∧ (k = .rw → l.shift + cells.length ≤ l.low)
  | .map es clock => ∃ ces, h[l.block]? = some (.map ces clock) ∧ L2 (EntRel ρ) es ces.toList
  | .iter m since seen last => l.shift = 0 ∧ ∃ cm, h[l.block]? = some (.mapIter cm since seen.toArray last) ∧ MRel ρ m cm
  | .siter s pos => l.shift = 0 ∧ h[l.block]? = some (.stringIter s pos)
  | .dead => True

theorem ORel.lt {ρ : RM} {h : Array Obj} {l : Loc} {o : AObj} (r : ORel ρ h l o) (hv : o.live = true) : l.block < h.size := by
  have key : ∀ x, h[l.block]? = some x → l.block < h.size := by
    intro x hx
    rcases Nat.lt_or_ge l.block h.size with hl | hl
    · exact hl
    · simp [Array.getElem?_eq_none hl] at hx
  cases o with
  | row k cells => obtain ⟨c, e, fz, h1, _⟩ := r; exact key _ h1
  | map es clock => obtain ⟨c, h1, _⟩ := r; exact key _ h1
  | iter m a b c => obtain ⟨_, c, h1, _⟩ := r; exact key _ h1
  | siter s pos => exact key _ r.2
  | dead => cases hv

theorem MRel.mono {ρ ρ' : RM} (h : ρ.le ρ') {m cm : Option Nat} (r : MRel ρ m cm) : MRel ρ' m cm := by
  cases m <;> cases cm <;> simp [MRel] at r ⊢
  obtain ⟨l, h1, h2⟩ := r
  exact ⟨l, h _ _ h1, h2⟩

theorem EntRel.mono {ρ ρ' : RM} (h : ρ.le ρ') {e ce : MapEntry} (r : EntRel ρ e ce) : EntRel ρ' e ce := ⟨r.key.mono h, r.val.mono h, r.born⟩

/-- Another heap in which this block is as it was, and a greater map of ids. -/
theorem ORel.keep {ρ ρ' : RM} {h h' : Array Obj} {l : Loc} {o : AObj} (hm : ρ.le ρ') (r : ORel ρ h l o) (e : h'[l.block]? = h[l.block]?) : ORel ρ' h' l o := by
  cases o with
  | row k cells =>
    obtain ⟨c, el, fz, h1, h2, h3, h4, h5⟩ := r
    exact ⟨c, el, fz, by rw [e]; exact h1, h2, h3, fun j v hv => let ⟨cv, a, b, d⟩ := h4 j v hv; ⟨cv, a, b.mono hm, d⟩, h5⟩
  | map es clock =>
    obtain ⟨c, h1, h2⟩ := r
    exact ⟨c, by rw [e]; exact h1, h2.imp fun _ _ x => x.mono hm⟩
  | iter m a b c =>
    obtain ⟨h0, c, h1, h2⟩ := r
    exact ⟨h0, c, by rw [e]; exact h1, h2.mono hm⟩
  | siter s pos => exact ⟨r.1, by rw [e]; exact r.2⟩
  | dead => trivial

structure Sim (ρ : RM) (h : Array Obj) (σ : AS) : Prop where
  obj : ∀ i o, σ i = some o → ∃ l, ρ i = some l ∧ ORel ρ h l o
  inj : ∀ i j oi oj li lj, i ≠ j → σ i = some oi → σ j = some oj → ρ i = some li → ρ j = some lj → oi.own = true → oj.live = true → li.block ≠ lj.block
  dom : ∀ i, σ i = none → ρ i = none

def Own (ρ : RM) (σ : AS) (b : Nat) : Prop := ∃ i o l, σ i = some o ∧ o.own = true ∧ ρ i = some l ∧ l.block = b

structure Step (ρ : RM) (w : World) (σ : AS) (ρ' : RM) (w' : World) (σ' : AS) : Prop where
  ext : ρ.le ρ'
  size : w.heap.size ≤ w'.heap.size
  frame : ∀ b, b < w.heap.size → ¬ Own ρ σ b → w'.heap[b]? = w.heap[b]?
  own : ∀ b, Own ρ' σ' b → Own ρ σ b ∨ w.heap.size ≤ b
  os : w'.os = w.os
  out : w'.output = w.output

theorem Step.refl (ρ : RM) (w : World) (σ : AS) : Step ρ w σ ρ w σ := ⟨RM.le_refl _, Nat.le_refl _, fun _ _ _ => rfl, fun _ h => .inl h, rfl, rfl⟩

theorem Step.trans {ρ ρ1 ρ2 : RM} {w w1 w2 : World} {σ σ1 σ2 : AS} (a : Step ρ w σ ρ1 w1 σ1) (b : Step ρ1 w1 σ1 ρ2 w2 σ2) : Step ρ w σ ρ2 w2 σ2 where
  ext := RM.le_trans a.ext b.ext
  size := Nat.le_trans a.size b.size
  frame x hx hn := by
    rw [b.frame x (Nat.lt_of_lt_of_le hx a.size) fun ho => (a.own x ho).elim hn fun hge => absurd hx (Nat.not_lt.2 hge), a.frame x hx hn]
  own x hx := (b.own x hx).elim (fun h => a.own x h) fun h => .inr (Nat.le_trans a.size h)
  os := by rw [b.os, a.os]
  out := by rw [b.out, a.out]

/-- The same heap, os and output: draws and the tape have no part. -/
theorem Step.same {ρ : RM} {w w' : World} {σ σ' : AS} (hh : w'.heap = w.heap) (ho : w'.os = w.os) (hp : w'.output = w.output) (hs : ∀ i o, σ' i = some o → o.own = true → σ i = some o) :
    Step ρ w σ ρ w' σ' where
  ext := RM.le_refl _
  size := by rw [hh]; exact Nat.le_refl _
  frame b _ _ := by rw [hh]
  own b h := by obtain ⟨i, o, l, h1, h2⟩ := h; exact .inl ⟨i, o, l, hs _ _ h1 h2.1, h2⟩
  os := ho
  out := hp

end Go.AI
