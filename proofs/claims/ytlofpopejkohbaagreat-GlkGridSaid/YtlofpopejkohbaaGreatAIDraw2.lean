/- Lemmas of the abstract condition ahead of code (a part of the library that the claim's proof stands on); they hold with no condition but those that each names. -/
import Derived.Test.YtlofpopejkohbaaGreatAIDraw
import Derived.Orders
set_option linter.unusedSimpArgs false
set_option linter.unusedVariables false
/- Regions that draw their order: what is looked at. -/
namespace Go.AI

def rdH : Op → Bool
  | .load .. | .lookup .. | .entry .. | .convert .. | .call _ | .slice .. => true
  | .binOp op .. => match op with | .eql | .neq => true | _ => false
  | _ => false

theorem aNot_only {op : BinOp} {r : Bool} {K : Value → Prop} (h : aNot op r K) : op = .eql ∨ op = .neq := by
  unfold aNot at h
  cases op <;> first | exact h.elim | exact .inl rfl | exact .inr rfl

theorem aQ_indep {P : Program} {o : Op} {ty : TypeId} {ev : Operand → Option Value} {σ σ' : AS} {K : Value → Prop} (hr : rdH o = false) (h : aQ P o ty ev σ K) : aQ P o ty ev σ' K := by
  cases o <;> first | (cases hr; done) | exact h | (rename_i fn _ _; cases fn <;> exact h) | skip
  rename_i op t x y z
  simp only [aQ] at h ⊢
  unfold aBin at h ⊢
  split at h <;> (try simp only at h ⊢) <;> first | exact h | skip
  split at h <;> (try simp only at h ⊢) <;> first | exact h | skip
  rename_i e hu
  cases hz : Nat.beq (szOf P e) 0 with
  | true => rw [hz] at h; exact h.elim
  | false =>
    rw [hz] at h
    simp only at h
    obtain ⟨r, hk, _⟩ := lin_ptrEq σ _ _ _ h
    rcases aNot_only hk with rfl | rfl <;> cases hr

-- the sets of operations, as numbers
def mbit (m i : Nat) : Bool := Nat.beq (Nat.land (Nat.shiftRight m i) 1) 1
def msub (m d : Nat) : Bool := Nat.beq (Nat.land m d) m
def mins (i d : Nat) : Nat := Nat.lor (Nat.shiftLeft 1 i) d
def nth : List Nat → Nat → Nat
  | [], _ => 0
  | a :: _, 0 => a
  | _ :: l, i + 1 => nth l i

theorem mbit_eq (m i : Nat) : mbit m i = m.testBit i := by
  unfold mbit Nat.testBit
  have e : Nat.land (Nat.shiftRight m i) 1 = 1 &&& (m >>> i) := Nat.and_comm _ _
  rw [e]
  have : 1 &&& (m >>> i) = (m >>> i) % 2 := by rw [Nat.and_comm, Nat.and_one_is_mod]
  rw [this]
  rcases Nat.mod_two_eq_zero_or_one (m >>> i) with h | h <;> rw [h] <;> rfl
theorem mbit_lor (a b i : Nat) : mbit (Nat.lor a b) i = (mbit a i || mbit b i) := by
  rw [mbit_eq, mbit_eq, mbit_eq]
  exact Nat.testBit_or a b i
theorem mbit_one (i j : Nat) : mbit (Nat.shiftLeft 1 i) j = decide (i = j) := by
  rw [mbit_eq]
  have : Nat.shiftLeft 1 i = 2 ^ i := Nat.one_shiftLeft i
  rw [this, Nat.testBit_two_pow]
theorem mbit_zero (i : Nat) : mbit 0 i = false := by rw [mbit_eq]; exact Nat.zero_testBit i
theorem mbit_ins (i d j : Nat) : mbit (mins i d) j = (decide (i = j) || mbit d j) := by
  unfold mins
  rw [mbit_lor, mbit_one]
theorem msub_iff {m d : Nat} : msub m d = true ↔ ∀ i, mbit m i = true → mbit d i = true := by
  unfold msub
  constructor
  · intro h i hi
    have h := Nat.eq_of_beq_eq_true h
    have : mbit (Nat.land m d) i = (mbit m i && mbit d i) := by
      rw [mbit_eq, mbit_eq, mbit_eq]; exact Nat.testBit_and m d i
    rw [h, hi] at this
    simpa using this.symm
  · intro h
    have : Nat.land m d = m := by
      apply Nat.eq_of_testBit_eq
      intro i
      have e : (Nat.land m d).testBit i = (m.testBit i && d.testBit i) := Nat.testBit_and m d i
      rw [e]
      have := h i
      rw [mbit_eq, mbit_eq] at this
      cases hm : m.testBit i with
      | false => rfl
      | true => rw [this hm]; rfl
    rw [this]
    exact Nat.beq_refl m

def eMask (ms : List Nat) : List Edge → Nat
  | [] => 0
  | e :: r => match Region.binds .any e with
    | true => Nat.lor (mins e.on (nth ms e.on)) (eMask ms r)
    | false => eMask ms r
def mkMasks : List Oper → List Nat → List Nat
  | [], acc => acc
  | o :: r, acc => mkMasks r (acc.append [eMask acc o.after.toList])
def eLt (ms : List Nat) (n i : Nat) : List Edge → Bool
  | [] => true
  | e :: r => match Region.binds .any e with
    | true => match Nat.blt (nth ms e.on) (nth ms i) with
      | true => match Nat.blt e.on n with | true => eLt ms n i r | false => false
      | false => false
    | false => eLt ms n i r
/-- The masks are those of the edges, which lead nowhere in a ring (masks fall along them). -/
def maskOk (ms : List Nat) : Nat → List Oper → Bool
  | _, [] => true
  | i, o :: r => match Nat.beq (nth ms i) (eMask ms o.after.toList) with
    | true => match eLt ms (i + (r.length + 1)) i o.after.toList with | true => maskOk ms (i + 1) r | false => false
    | false => false

theorem eLt_spec {ms : List Nat} {n i : Nat} : ∀ {es : List Edge}, eLt ms n i es = true → ∀ e ∈ es, Region.binds .any e = true → nth ms e.on < nth ms i ∧ e.on < n
  | [], _ => by rintro e ⟨⟩
  | e :: r, h => by
    intro f hf hb
    unfold eLt at h
    rcases List.mem_cons.1 hf with rfl | hf
    · rw [hb] at h
      simp only at h
      cases hl : Nat.blt (nth ms f.on) (nth ms i) with
      | true =>
        rw [hl] at h
        simp only at h
        cases hn : Nat.blt f.on n with
        | true => exact ⟨Nat.blt_eq.mp hl, Nat.blt_eq.mp hn⟩
        | false => rw [hn] at h; cases h
      | false => rw [hl] at h; cases h
    · refine eLt_spec ?_ f hf hb
      cases hb' : Region.binds .any e <;> rw [hb'] at h <;> simp only at h
      · exact h
      · cases hl : Nat.blt (nth ms e.on) (nth ms i) <;> rw [hl] at h
        · cases h
        · simp only at h
          cases hn : Nat.blt e.on n <;> rw [hn] at h
          · cases h
          · exact h
theorem eMask_spec {ms : List Nat} {j : Nat} : ∀ {es : List Edge}, mbit (eMask ms es) j = true ↔ ∃ e ∈ es, Region.binds .any e = true ∧ (e.on = j ∨ mbit (nth ms e.on) j = true)
  | [] => by
    unfold eMask
    rw [mbit_zero]
    constructor
    · intro h; cases h
    · rintro ⟨e, ⟨⟩, _⟩
  | e :: r => by
    unfold eMask
    have ih := @eMask_spec ms j r
    cases hb : Region.binds .any e with
    | false =>
      simp only
      rw [ih]
      constructor
      · rintro ⟨f, hf, h⟩; exact ⟨f, .tail _ hf, h⟩
      · rintro ⟨f, hf, h, h2⟩
        rcases List.mem_cons.1 hf with rfl | hf
        · rw [hb] at h; cases h
        · exact ⟨f, hf, h, h2⟩
    | true =>
      simp only
      rw [mbit_lor, mbit_ins, Bool.or_eq_true, Bool.or_eq_true, decide_eq_true_iff, ih]
      constructor
      · rintro (h | ⟨f, hf, h⟩)
        · exact ⟨e, .head _, hb, h⟩
        · exact ⟨f, .tail _ hf, h⟩
      · rintro ⟨f, hf, h, h2⟩
        rcases List.mem_cons.1 hf with rfl | hf
        · exact .inl h2
        · exact .inr ⟨f, hf, h, h2⟩
theorem maskOk_spec {ms : List Nat} : ∀ {l : List Oper} {i : Nat}, maskOk ms i l = true → ∀ k o, l[k]? = some o → nth ms (i + k) = eMask ms o.after.toList ∧ eLt ms (i + l.length) (i + k) o.after.toList = true
  | [], i, _ => by
    intro k o h
    simp at h
  | x :: r, i, h => by
    intro k o ho
    unfold maskOk at h
    cases h1 : Nat.beq (nth ms i) (eMask ms x.after.toList) <;> rw [h1] at h
    · cases h
    · simp only at h
      cases h2 : eLt ms (i + (r.length + 1)) i x.after.toList <;> rw [h2] at h
      · cases h
      · simp only at h
        cases k with
        | zero =>
          simp at ho
          subst ho
          exact ⟨Nat.eq_of_beq_eq_true h1, h2⟩
        | succ k =>
          have := maskOk_spec h k o (by simpa using ho)
          rw [show i + 1 + k = i + (k + 1) by omega, show i + 1 + r.length = i + (x :: r).length by simp; omega] at this
          exact this
end Go.AI
