/- Lemmas of the abstract condition ahead of code (a part of the library that the claim's proof stands on); they hold with no condition but those that each names. -/
import Derived.Test.YtcjicaolgjialaaAICode
set_option linter.unusedSimpArgs false
set_option linter.unusedVariables false
/- Calls that are reckoned through: so many calls deep, so many rounds of a loop. -/
namespace Go.AI

def hget : List (Nat × Hint) → Nat → Hint
  | [], _ => .zH
  | (k, h) :: l, f => match Nat.beq k f with | true => h | false => hget l f

/-- A call, reckoned: of what has no body E knows. -/
def callN (P : Program) (H : List (Nat × Hint)) (E : Ct) : Nat → Ct
  | 0 => fun _ _ _ _ => False
  | n + 1 => fun f args σ K => match P.funcs[f]? with
    | none => False
    | some fn => match fn.body with
      | none => E f args σ K
      | some c => chk (Nat.ble args.length fn.ntmps) (aw P (callN P H E n) (some n) fn.ntmps (hget H f) c (retK P fn.results.toList K) (argRegs 0 args) σ)

/-- No function with a body is the one that tells how many goroutines there are. -/
def noGo (P : Program) : Bool := P.funcs.toList.all fun fn => match fn.body with | none => true | some _ => !(fn.name == "runtime.NumGoroutine")

theorem callFunc_enter {P : Program} {f : FuncId} {fn : Func} {c : Code} (hg : noGo P = true) (hf : P.funcs[f]? = some fn) (hb : fn.body = some c) (args : Array Value) (w : World) : (callFunc f args).run P w = .ok (.enter f args) w := by
  have hm : fn ∈ P.funcs.toList := by
    rw [← Array.getElem?_toList] at hf
    exact List.mem_of_getElem? hf
  have := List.all_eq_true.1 hg fn hm
  rw [hb] at this
  simp only [Bool.not_eq_true'] at this
  unfold callFunc
  simp only [Sem.run_bind, run_program, Result.andThen_ok, hf, this, hb]
  simp

theorem callN_sound {P : Program} {H : List (Nat × Hint)} {E : Ct} (hE : ∀ f args σ K, E f args σ K → Tri P f args σ K) (hmix : P.follows .mixedOrders = true) (hg : noGo P = true) :
    ∀ n f args σ K, callN P H E n f args σ K → Tri P f args σ K
  | 0, f, args, σ, K, h => h.elim
  | n + 1, f, args, σ, K, h => by
    simp only [callN] at h
    cases hf : P.funcs[f]? with
    | none => rw [hf] at h; exact h.elim
    | some fn =>
      rw [hf] at h
      simp only at h
      cases hb : fn.body with
      | none => rw [hb] at h; exact hE _ _ _ _ h
      | some c =>
        rw [hb] at h
        obtain ⟨h1, h2⟩ := chk_elim h
        exact tri_of_aw (callN_sound hE hmix hg n) hmix hf hb (callFunc_enter hg hf hb) rfl h1 h2
end Go.AI
