/- Lemmas of the abstract condition ahead of code (a part of the library that the claim's proof stands on); they hold with no condition but those that each names. -/
import Derived.Test.YtlofpopejkohbaaGreatAISep
set_option linter.unusedVariables false
/- The condition ahead of what stands behind a join, by its place. -/
namespace Go.AI
/-- At the place p there are two parts, one behind the other: the condition ahead of the second one. -/
def jn (P : Program) (H : List (Nat × Hint)) (T : Ct) (f : Nat) (p : List Bool) (Xs : List (Regs → AS → Prop)) (K : Value → AS → Prop) (r : Regs) (σ : AS) : Prop :=
  match P.funcs[f]? with
  | none => False
  | some fn => match fn.body with
    | none => False
    | some c => match subC p c with
      | .seq _ y => aw P T none fn.ntmps (subH p (hget H f)).snd y (qAt P T fn.ntmps p (hget H f) c Xs (retK P fn.results.toList K)) r σ
      | _ => False
end Go.AI
