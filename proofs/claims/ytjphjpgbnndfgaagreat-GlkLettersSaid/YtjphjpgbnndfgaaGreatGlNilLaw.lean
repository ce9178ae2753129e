/- A nil world, a nil Space: the law's function tells true. -/
import Derived.Test.YtjphjpgbnndfgaaGreatGlLive
import Derived.Test.YtjphjpgbnndfgaaGreatGlForm
set_option maxRecDepth 1000000
set_option linter.unusedVariables false
set_option linter.unusedSimpArgs false
namespace Go.AI
open Go.Proofs
def gLive (args : List Value) (σ : AS) (K : Value → AS → Prop) : Prop := match args with
  | [] => K (.bool true) σ
  | _ => False
def glE2 : Ex := fun f => match Nat.beq f 11 with
  | true => some gLive
  | false => glE f
theorem glE2_sound : ∀ f g, glE2 f = some g → ∀ args σ K, g args σ K → Tri Tryz.prog f args σ K := by
  intro f g h args σ K hg
  unfold glE2 at h
  split at h
  · rename_i e
    injection h with h
    subst h
    obtain rfl := Nat.eq_of_beq_eq_true e
    unfold gLive at hg
    split at hg
    · exact c11 hg
    · exact hg.elim
  · exact glE_sound f g h args σ K hg
abbrev TN : Ct := callN Tryz.prog hints glE2 79
theorem tri_fwN {f : Nat} {args : List Value} {σ : AS} {K : Value → AS → Prop} (h : fw Tryz.prog hintsS TN f args σ K) : Tri Tryz.prog f args σ K := by
  unfold fw at h
  cases hf : Tryz.prog.funcs[f]? with
  | none => rw [hf] at h; exact h.elim
  | some fn =>
    rw [hf] at h
    simp only at h
    cases hb : fn.body with
    | none => rw [hb] at h; exact h.elim
    | some c =>
      rw [hb] at h
      obtain ⟨h1, h2⟩ := chk_elim h
      exact tri_of_aw (callN_sound (E := glE2) glE2_sound Tryz.checked.mixed noGoS 79) Tryz.checked.mixed hf hb (callFunc_enter noGoS hf hb) rfl h1 h2
abbrev RB (v : Value) (_ : AS) : Prop := v = .bool true
theorem nil0 (sel : Int) (a b : Option Addr) (an bn : Nat) (name : ByteArray) : Tri Tryz.prog 4 [.int .u32 sel, .slice a an 1, .string name, .slice b bn 1] AS.nil RB := tri_fwN (by
  rw [s4]
  refine bm_mk (fun _ => Eq.mp (?_ : (Value.bool true = Value.bool true) = _) rfl) (fun _ => bm_mk (fun _ => Eq.mp (?_ : (Value.bool true = Value.bool true) = _) rfl) (fun _ => bm_mk (fun _ => Eq.mp (?_ : (Value.bool true = Value.bool true) = _) rfl) (fun _ => Eq.mp (?_ : (Value.bool true = Value.bool true) = _) rfl)))
  all_goals kernel_rfl)
theorem nil1 (sel : Int) (a b : Option Addr) (an bn : Nat) (name : ByteArray) (o : AObj) : Tri Tryz.prog 4 [.int .u32 sel, .slice a an 1, .string name, .slice b bn 1] (AS.nil.set AS.nil.n o) RB := tri_fwN (by
  rw [s4]
  refine bm_mk (fun _ => Eq.mp (?_ : (Value.bool true = Value.bool true) = _) rfl) (fun _ => bm_mk (fun _ => Eq.mp (?_ : (Value.bool true = Value.bool true) = _) rfl) (fun _ => bm_mk (fun _ => Eq.mp (?_ : (Value.bool true = Value.bool true) = _) rfl) (fun _ => Eq.mp (?_ : (Value.bool true = Value.bool true) = _) rfl)))
  all_goals kernel_rfl)
theorem nil2 (sel : Int) (a b : Option Addr) (an bn : Nat) (name : ByteArray) (o o' : AObj) : Tri Tryz.prog 4 [.int .u32 sel, .slice a an 1, .string name, .slice b bn 1] ((AS.nil.set AS.nil.n o).set (AS.nil.set AS.nil.n o).n o') RB := tri_fwN (by
  rw [s4]
  refine bm_mk (fun _ => Eq.mp (?_ : (Value.bool true = Value.bool true) = _) rfl) (fun _ => bm_mk (fun _ => Eq.mp (?_ : (Value.bool true = Value.bool true) = _) rfl) (fun _ => bm_mk (fun _ => Eq.mp (?_ : (Value.bool true = Value.bool true) = _) rfl) (fun _ => Eq.mp (?_ : (Value.bool true = Value.bool true) = _) rfl)))
  all_goals kernel_rfl)
end Go.AI
