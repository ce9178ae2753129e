/- ShelfSeeks holds for every input: a wide file is as a row of characters; no condition. -/
import Derived.Test.YtpgedoljndppdaaShSeeks
import Derived.Test.YtpgedoljndppdaaAISepTop
import Derived.Test.YtpgedoljndppdaaRows
import Derived.JoinedCond
import Derived.WalkKit
import Derived.ProofKit
import Derived.OpenShut
set_option linter.unusedSimpArgs false
set_option linter.unusedVariables false
namespace Go.Proofs.Ytpgedoljndppdaa.seeksLaw
open Go.AI Go.ChangeShapes Go.WideShapes Go.ChangeAt Go.RowKit
set_option maxRecDepth 1000000
abbrev Rs {H : Type} : List (DataW H → AS → List Value → AS → Prop) := [RSlice 4 RStp]
theorem law {H : Type} {ds : List (DataW H)} {avs : List (List Value)} {σ : AS} (h : ThrH Rs ds AS.nil avs σ) : Tri Try.prog 6 (argVals Try.prog [47] avs) σ fun v _ => v = .bool true := by
  cases h with
  | cons h hs =>
    cases hs
    obtain ⟨a, l, fr, rfl, hw, H1, hin⟩ := slice_stps h (Has.nil _)
    have e : argVals Try.prog [47] [[Value.slice a l.length 4]] = [.slice a l.length 4] := by kernel_rfl
    rw [e]
    rw [List.append_nil] at H1
    refine seeks_law H1 ?_ hw
    rcases hin with h | ⟨r, h1, h2⟩
    · exact .inl h
    · exact .inr ⟨r, 0, h1, by rw [h2]; rfl⟩
theorem own : ownKnob Try.prog.godebug = none := by kernel_rfl
section
variable {H : Type} {enc : TypeId × Value → H} {W : World}
theorem tks : L2 (fun R t => TK enc Try.prog W t R) (Rs (H := H)) [47] :=
  .cons (tk_slice Try.underlying47 (by kernel_rfl) (tk_struct Try.underlying49 (by kernel_rfl) (.cons (tk_int Try.underlying3) (.cons (tk_int Try.underlying32) (.cons (tk_int Try.underlying3) (.cons (tk_int Try.underlying3) .nil)))))) .nil
theorem sps : ∀ t ∈ ([47] : List TypeId), SP enc Try.prog W t := by
  intro t ht
  simp only [List.mem_cons, List.not_mem_nil, or_false] at ht
  rcases ht with rfl
  · refine sp_slice Try.underlying47 (by kernel_rfl) (sp_struct Try.underlying49 ?_)
    intro g hg
    simp only [List.mem_cons, List.not_mem_nil, or_false] at hg
    rcases hg with rfl | rfl | rfl | rfl
    · exact sp_int Try.underlying3
    · exact sp_int Try.underlying32
    · exact sp_int Try.underlying3
    · exact sp_int Try.underlying3
end

theorem lifted (os : Os) (started : os.Started) (H : Type) (enc : TypeId × Value → H) :
    ReturnsInHanded {} Try.checked os 6 .any (Rows.shelfSeeksSpec.pre6 enc Try.prog Try.f6 Rows.shelfSeeksRow.domain false) (Rows.shelfSeeksSpec.post enc Try.prog Try.f6 false true false false) := by
  refine returnsInHanded_of_change own started (by kernel_rfl) Try.func6
    (ChangeSpec.witness6 false ⟨#[], #[.slice none 0 0], []⟩ 8 (by kernel_rfl) (by kernel_rfl) (by kernel_rfl) (by kernel_rfl)) ?_
  intro W base args ds gs before hval hW _ _
  have hW' := hW
  obtain ⟨p, q, hA, hV, rfl, hfz, hnd⟩ := hW
  rw [Try.params6] at hA
  have hA2 : DataW.TrodAll enc Try.prog W 0 (fun _ => true) true ([47] : List TypeId) args.toList ds p := hA
  obtain ⟨v0, vs0, d0, ds0, p0, q0, ha0, rfl, rfl, h0, r0⟩ := trodAll_cons hA2
  obtain ⟨_, rfl, _⟩ := trodAll_nil r0
  have hval' : ∀ (j : Nat) t v, ([47] : List TypeId)[j]? = some t → args.toList[j]? = some v → Value.okWide Try.prog W .any base t v := by
    intro j t v h1 h2
    refine hval j t v ?_ (by rw [← Array.getElem?_toList]; exact h2)
    rw [Try.params6, ← Array.getElem?_toList]; exact h1
  refine (calls_true (b := base) tks hA hval' Try.call6 fun avs σ h => law h).mono fun e W' ⟨he, hk⟩ => ?_
  subst he
  obtain ⟨rfl, rfl⟩ := trodVars_none hV
  exact ⟨_, rfl, post_of_kept (tb := 4) rfl rfl Try.underlying4 hW' rfl rfl rfl hk (by rw [Try.params6]; exact sps)⟩

theorem proved : Rows.ShelfSeeksSaid :=
  OpenClaim.holds_of_wide 6 Try.f6 rfl rfl rfl rfl rfl rfl rfl ⟨rfl, rfl, rfl, rfl, rfl⟩ rfl rfl rfl rfl rfl (by kernel_rfl) Try.func6 (by kernel_rfl)
    (of_decide_eq_true (by kernel_rfl)) (by unfold Func.isWrapper; first | (rw [if_pos (by decide +kernel)]; kernel_rfl) | (rw [if_neg (by decide +kernel)]; exact ⟨rfl, rfl⟩))
    (fun os started H enc _ => lifted os started H enc)
end Go.Proofs.Ytpgedoljndppdaa.seeksLaw
#print axioms Go.Proofs.Ytpgedoljndppdaa.seeksLaw.proved
