/- The page's example of the worlds holds (reckoned by the kernel). -/
import Derived.Test.YtjphjpgbnndfgaaGreatGlRoads
set_option maxRecDepth 1000000
set_option linter.unusedVariables false
set_option linter.unusedSimpArgs false
namespace Go.AI
open Go.Proofs
theorem live_run : callN Tryz.prog hints glE 80 11 [] AS.nil (fun v _ => v = .bool true) = (Value.bool true = .bool true ∧ Value.bool true = .bool true) := by kernel_rfl
theorem live_tri : Tri Tryz.prog 11 [] AS.nil (fun v _ => v = .bool true) := tri_hard (by rw [live_run]; exact ⟨rfl, rfl⟩)
theorem c11 {σ : AS} {K : Value → AS → Prop} (hK : K (.bool true) σ) : Tri Tryz.prog 11 [] σ K :=
  tri_pure (R := fun v => v = .bool true) rfl live_tri (fun v h => by subst h; rfl) (fun v h => by subst h; exact hK)
end Go.AI
