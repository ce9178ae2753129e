/- GlkFiles holds for every input: what is written through a reference is read through it; no condition. -/
import Derived.Test.YtlofpopejkohbaaGreatGyFl
import Derived.Test.YtlofpopejkohbaaGreatAISepTop
import Derived.Test.YtlofpopejkohbaaGreatRows
import Derived.JoinedCond
import Derived.WalkKit
import Derived.ProofKit
import Derived.OpenShut
set_option linter.unusedSimpArgs false
set_option linter.unusedVariables false
set_option maxRecDepth 1000000
namespace Go.Proofs.YtlofpopejkohbaaGreat.filesLaw
open Go.AI Go.ChangeShapes Go.WideShapes Go.ChangeAt Go.RowKit
abbrev Rs {H : Type} : List (DataW H → AS → List Value → AS → Prop) := [RStr, RSlice 1 (RInt .u32), RBool]
theorem law {H : Type} {ds : List (DataW H)} {avs : List (List Value)} {σ : AS} (h : ThrH Rs ds AS.nil avs σ) : Tri Tryz.prog 6 (argVals Tryz.prog [9, 22, 4] avs) σ fun v _ => v = .bool true := by
  rcases h with _ | ⟨h1, h⟩
  rcases h with _ | ⟨h2, h⟩
  rcases h with _ | ⟨h3, h⟩
  cases h
  obtain ⟨s, rfl, _, rfl, rfl⟩ := h1
  obtain ⟨a, l, fr, rfl, hw, H1, hin⟩ := slice_ints h2 (Has.nil _)
  obtain ⟨b, rfl, rfl, rfl⟩ := h3
  obtain ⟨nm, rfl⟩ := bsV_ex s
  have e : argVals Tryz.prog [9, 22, 4] [[.string (bsV nm)], [Value.slice a l.length 1], [.bool b]] = [.string (bsV nm), .slice a l.length 1, .bool b] := by kernel_rfl
  rw [e]
  refine fl_law H1 ?_ (fun x hx => wf_u32 (hw x hx))
  rcases hin with h | ⟨r, h1, h2⟩
  · exact .inl h
  · exact .inr ⟨r, .ro, h1, by rw [h2]; simp⟩
theorem own : ownKnob Tryz.prog.godebug = none := by kernel_rfl
section
variable {H : Type} {enc : TypeId × Value → H} {W : World}
theorem tks : L2 (fun R t => TK enc Tryz.prog W t R) (Rs (H := H)) [9, 22, 4] :=
  .cons (tk_str Tryz.underlying9) (.cons (tk_slice Tryz.underlying22 (by kernel_rfl) (tk_int Tryz.underlying32)) (.cons (tk_bool Tryz.underlying4) .nil))
theorem sps : ∀ t ∈ ([9, 22, 4] : List TypeId), SP enc Tryz.prog W t := by
  intro t ht
  simp only [List.mem_cons, List.not_mem_nil, or_false] at ht
  rcases ht with rfl | rfl | rfl
  · exact sp_str Tryz.underlying9
  · exact sp_slice Tryz.underlying22 (by kernel_rfl) (sp_int Tryz.underlying32)
  · exact sp_bool Tryz.underlying4
end

theorem lifted (os : Os) (started : os.Started) (H : Type) (enc : TypeId × Value → H) :
    ReturnsInHanded {} Tryz.checked os 6 .any (Rows.glkFilesSpec.pre6 enc Tryz.prog Tryz.f6 Rows.glkFilesRow.domain false) (Rows.glkFilesSpec.post enc Tryz.prog Tryz.f6 false true false false) := by
  refine returnsInHanded_of_change own started (by kernel_rfl) Tryz.func6
    (ChangeSpec.witness6 false ⟨#[], #[.string ⟨#[]⟩, .slice none 0 0, .bool false], []⟩ 8 (by kernel_rfl) (by kernel_rfl) (by kernel_rfl) (by kernel_rfl)) ?_
  intro W base args ds gs before hval hW _ _
  have hW' := hW
  obtain ⟨p, q, hA, hV, rfl, hfz, hnd⟩ := hW
  rw [Tryz.params6] at hA
  have hA2 : DataW.TrodAll enc Tryz.prog W 0 (fun _ => true) true ([9, 22, 4] : List TypeId) args.toList ds p := hA
  obtain ⟨v0, vs0, d0, ds0, p0, q0, ha0, rfl, rfl, h0, r0⟩ := trodAll_cons hA2
  obtain ⟨v1, vs1, d1, ds1, p1, q1, ha1, rfl, rfl, h1, r1⟩ := trodAll_cons r0
  obtain ⟨v2, vs2, d2, ds2, p2, q2, ha2, rfl, rfl, h2, r2⟩ := trodAll_cons r1
  obtain ⟨_, rfl, _⟩ := trodAll_nil r2
  have hval' : ∀ (j : Nat) t v, ([9, 22, 4] : List TypeId)[j]? = some t → args.toList[j]? = some v → Value.okWide Tryz.prog W .any base t v := by
    intro j t v h1 h2
    refine hval j t v ?_ (by rw [← Array.getElem?_toList]; exact h2)
    rw [Tryz.params6, ← Array.getElem?_toList]; exact h1
  refine (calls_true (b := base) tks hA hval' Tryz.call6 fun avs σ h => law h).mono fun e W' ⟨he, hk⟩ => ?_
  subst he
  obtain ⟨rfl, rfl⟩ := trodVars_none hV
  exact ⟨_, rfl, post_of_kept (tb := 4) rfl rfl Tryz.underlying4 hW' rfl rfl rfl hk (by rw [Tryz.params6]; exact sps)⟩

theorem proved : Rows.GlkFilesSaid :=
  OpenClaim.holds_of_wide 6 Tryz.f6 rfl rfl rfl rfl rfl rfl rfl ⟨rfl, rfl, rfl, rfl, rfl⟩ rfl rfl rfl rfl rfl (by kernel_rfl) Tryz.func6 (by kernel_rfl)
    (of_decide_eq_true (by kernel_rfl)) (by unfold Func.isWrapper; first | (rw [if_pos (by decide +kernel)]; kernel_rfl) | (rw [if_neg (by decide +kernel)]; exact ⟨rfl, rfl⟩))
    (fun os started H enc _ => lifted os started H enc)
end Go.Proofs.YtlofpopejkohbaaGreat.filesLaw
#print axioms Go.Proofs.YtlofpopejkohbaaGreat.filesLaw.proved
