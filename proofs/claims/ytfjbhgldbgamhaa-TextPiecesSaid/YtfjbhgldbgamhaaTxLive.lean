/- The page's example of the texts holds (reckoned by the kernel). -/
import Derived.Test.YtfjbhgldbgamhaaTxRoads
set_option maxRecDepth 1000000
set_option linter.unusedVariables false
set_option linter.unusedSimpArgs false
namespace Go.AI
open Go.Proofs
theorem noGoS : noGo Try.prog = true := by kernel_rfl
theorem tri_hard {f : Nat} {args : List Value} {σ : AS} {K : Value → AS → Prop} (h : callN Try.prog hints txE 60 f args σ K) : Tri Try.prog f args σ K :=
  callN_sound (E := txE) txE_sound Try.checked.mixed noGoS 60 f args σ K h
theorem live_run : callN Try.prog hints txE 60 9 [] AS.nil (fun v _ => v = .bool true) = (Value.bool true = .bool true) := by kernel_rfl
theorem live_tri : Tri Try.prog 9 [] AS.nil (fun v _ => v = .bool true) := tri_hard (by rw [live_run])
theorem c9live {σ : AS} {K : Value → AS → Prop} (hK : K (.bool true) σ) : Tri Try.prog 9 [] σ K :=
  tri_pure (R := fun v => v = .bool true) rfl live_tri (fun v h => by subst h; rfl) (fun v h => by subst h; exact hK)
end Go.AI
