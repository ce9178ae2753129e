/- What is known of sync/atomic.AddUint32, for the abstract reckoning; no condition. -/
import Derived.Test.YtlofpopejkohbaaGreatGkHints
import Derived.Test.YtlofpopejkohbaaGreatAISep
import Derived.Laws.LoneSync
set_option maxRecDepth 4000
set_option linter.unusedVariables false
set_option linter.unusedSimpArgs false
namespace Go.AI
open Go.Proofs
/-- What is asked ahead of sync/atomic.AddUint32. -/
def gAdd (args : List Value) (σ : AS) (K : Value → AS → Prop) : Prop :=
  match args with
  | [.pointer (some ⟨i, o, none⟩), .int .u32 d] => rowAt σ i fun k cs => chk k.own <| match cs[o]? with
    | some (.int .u32 n) => K (.int .u32 (IntKind.wrap .u32 (n + d))) (σ.set i (.row k (cs.set o (.int .u32 (IntKind.wrap .u32 (n + d))))))
    | _ => False
  | _ => False
theorem noGoS : noGo Tryz.prog = true := by kernel_rfl
theorem add_tri {args : List Value} {σ : AS} {K : Value → AS → Prop} (h : gAdd args σ K) : Tri Tryz.prog 198 args σ K := by
  unfold gAdd at h
  split at h
  case h_2 => exact h.elim
  case h_1 i o d =>
    unfold rowAt at h
    split at h
    case h_2 => exact h.elim
    case h_1 k cs hi =>
      obtain ⟨hk, h⟩ := chk_elim h
      split at h
      case h_2 => exact h.elim
      case h_1 n hn =>
        refine ⟨fun ρ w cargs hc s => ?_⟩
        rcases hc with _ | ⟨hv0, hc⟩
        rcases hc with _ | ⟨hv1, hc⟩
        cases hc
        cases hv1
        cases hv0 with
        | ptr hl =>
        rename_i l
        obtain ⟨cv, h1, h2, _⟩ := s.load hi hl hn
        cases h2
        have ho : o < cs.length := (List.getElem?_eq_some_iff.1 hn).1
        obtain ⟨_, g2, g3, g4⟩ := s.store hi hl hk ho (v := .int .u32 (IntKind.wrap .u32 (n + d))) (.int _ _) rfl
        refine ⟨_, _, run_call_add (f := 198) Tryz.func198 (by kernel_rfl) (by kernel_rfl) (by kernel_rfl) .u32 (by kernel_rfl) h1 g2 (s := IntKind.wrap .u32 (n + d)) rfl, ?_⟩
        exact ⟨_, ρ, _, h, .int _ _, g3, g4⟩
def glE : Ex := fun f => match Nat.beq f 198 with
  | true => some gAdd
  | false => none
theorem glE_sound : ∀ f g, glE f = some g → ∀ args σ K, g args σ K → Tri Tryz.prog f args σ K := by
  intro f g h args σ K hg
  unfold glE at h
  split at h
  · rename_i e
    injection h with h
    subst h
    obtain rfl := Nat.eq_of_beq_eq_true e
    exact add_tri hg
  · cases h
theorem tri_hard {f : Nat} {args : List Value} {σ : AS} {K : Value → AS → Prop} (h : callN Tryz.prog hints glE 80 f args σ K) : Tri Tryz.prog f args σ K :=
  callN_sound (E := glE) glE_sound Tryz.checked.mixed noGoS 80 f args σ K h
end Go.AI
