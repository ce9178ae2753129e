/- Lemmas of the abstract condition ahead of code (a part of the library that the claim's proof stands on); they hold with no condition but those that each names. -/
import Derived.Test.YtlofpopejkohbaaGreatAICode
set_option linter.unusedSimpArgs false
set_option linter.unusedVariables false
/- Calls that are reckoned through: so many calls deep, so many rounds of a loop. -/
namespace Go.AI

def hget : List (Nat × Hint) → Nat → Hint
  | [], _ => .zH
  | (k, h) :: l, f => match Nat.beq k f with | true => h | false => hget l f

/-- What is known of some functions, ahead of all. -/
abbrev Ex := FuncId → Option (List Value → AS → (Value → AS → Prop) → Prop)
/-- A call, reckoned: what E knows is taken from there. -/
def callN (P : Program) (H : List (Nat × Hint)) (E : Ex) : Nat → Ct
  | 0 => fun _ _ _ _ => False
  | n + 1 => fun f args σ K => match E f with
    | some g => g args σ K
    | none => match P.funcs[f]? with
      | none => False
      | some fn => match fn.body with
        | none => False
        | some c => chk (Nat.ble args.length fn.ntmps) (aw P (callN P H E n) (some n) fn.ntmps (hget H f) c (retK P fn.results.toList K) (argRegs 0 args) σ)
def noE : Ex := fun _ => none

/-- No function with a body is the one that tells how many goroutines there are. -/
def noGo (P : Program) : Bool := P.funcs.toList.all fun fn => match fn.body with | none => true | some _ => !(fn.name == "runtime.NumGoroutine")

theorem callFunc_enter {P : Program} {f : FuncId} {fn : Func} {c : Code} (hg : noGo P = true) (hf : P.funcs[f]? = some fn) (hb : fn.body = some c) (args : Array Value) (w : World) : (callFunc f args).run P w = .ok (.enter f args) w := by
  have hm : fn ∈ P.funcs.toList := by
    rw [← Array.getElem?_toList] at hf
    exact List.mem_of_getElem? hf
  have := List.all_eq_true.1 hg fn hm
  rw [hb] at this
  simp only [Bool.not_eq_true'] at this
  unfold callFunc
  simp only [Sem.run_bind, run_program, Result.andThen_ok, hf, this, hb]
  simp

theorem callN_sound {P : Program} {H : List (Nat × Hint)} {E : Ex} (hE : ∀ f g, E f = some g → ∀ args σ K, g args σ K → Tri P f args σ K) (hmix : P.follows .mixedOrders = true) (hg : noGo P = true) :
    ∀ n f args σ K, callN P H E n f args σ K → Tri P f args σ K
  | 0, f, args, σ, K, h => h.elim
  | n + 1, f, args, σ, K, h => by
    simp only [callN] at h
    cases he : E f with
    | some g => rw [he] at h; exact hE f g he _ _ _ h
    | none =>
      rw [he] at h
      simp only at h
      cases hf : P.funcs[f]? with
      | none => rw [hf] at h; exact h.elim
      | some fn =>
        rw [hf] at h
        simp only at h
        cases hb : fn.body with
        | none => rw [hb] at h; exact h.elim
        | some c =>
          rw [hb] at h
          obtain ⟨h1, h2⟩ := chk_elim h
          exact tri_of_aw (callN_sound hE hmix hg n) hmix hf hb (callFunc_enter hg hf hb) rfl h1 h2

def scalarV : Value → Bool
  | .bool _ | .int _ _ | .string _ => true
  | _ => false
theorem VRel.scalar {ρ ρ' : RM} {v cv : Value} (h : VRel ρ v cv) (hs : scalarV v = true) : VRel ρ' v cv := by
  cases v <;> cases hs <;> cases h <;> first | exact .bool _ | exact .int _ _ | exact .str _
theorem VsRel.scalar {ρ ρ' : RM} : ∀ {vs cvs : List Value}, VsRel ρ vs cvs → vs.all scalarV = true → VsRel ρ' vs cvs
  | _, _, .nil, _ => .nil
  | _, _, .cons h hs, a => by
    simp only [List.all_cons, Bool.and_eq_true] at a
    exact .cons (h.scalar a.1) (hs.scalar a.2)

/-- What a call does of plain arguments, of no state, it does of each state, and leaves it. -/
theorem tri_pure {P : Program} {f : FuncId} {args : List Value} {R : Value → Prop} (ha : args.all scalarV = true) (h : Tri P f args AS.nil fun v _ => R v) (hR : ∀ v, R v → scalarV v = true) {σ : AS} {K : Value → AS → Prop} (hK : ∀ v, R v → K v σ) :
    Tri P f args σ K := by
  refine ⟨fun ρ w cargs hc hs => ?_⟩
  obtain ⟨nx, w1, h1, h2⟩ := h.run (fun _ => none) w cargs (hc.scalar ha) ⟨(fun i o e => by cases e), (fun i j oi oj li lj _ e => by cases e), (fun i _ => rfl)⟩
  refine ⟨nx, w1, h1, h2.mono ?_⟩
  rintro cv w' ⟨v, ρ', σ', hv, hr, s', st⟩
  have fr : ∀ b, b < w.heap.size → w'.heap[b]? = w.heap[b]? := fun b hb => st.frame b hb (by rintro ⟨i, o, l, e, _⟩; cases e)
  refine ⟨v, ρ, σ, hK v hv, hr.scalar (hR v hv), ⟨fun i o e => ?_, hs.inj, hs.dom⟩, ⟨RM.le_refl _, st.size, fun b hb _ => fr b hb, fun b hb => .inl hb, st.os, st.out⟩⟩
  obtain ⟨l, h3, h4⟩ := hs.obj i o e
  refine ⟨l, h3, ?_⟩
  cases hl : o.live with
  | false =>
    have hd : o = .dead := dead_of (by rw [hl]; decide)
    subst hd
    trivial
  | true => exact h4.keep (RM.le_refl _) (fr _ (h4.lt hl))
end Go.AI
