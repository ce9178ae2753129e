/- ShelfBuffers holds for every input: a buffer keeps its size, and counts all; no condition. -/
import Derived.Test.YtpgedoljndppdaaShBuffers
import Derived.Test.YtpgedoljndppdaaAISepTop
import Derived.Test.YtpgedoljndppdaaRows
import Derived.JoinedCond
import Derived.WalkKit
import Derived.ProofKit
import Derived.OpenShut
set_option linter.unusedSimpArgs false
set_option linter.unusedVariables false
namespace Go.Proofs.Ytpgedoljndppdaa.buffersLaw
open Go.AI Go.ChangeShapes Go.WideShapes Go.ChangeAt Go.RowKit
set_option maxRecDepth 1000000
abbrev Rs {H : Type} : List (DataW H → AS → List Value → AS → Prop) := [RSlice 1 (RInt .u32), RSlice 1 (RInt .u32), RBool]
theorem law {H : Type} {ds : List (DataW H)} {avs : List (List Value)} {σ : AS} (h : ThrH Rs ds AS.nil avs σ) : Tri Try.prog 4 (argVals Try.prog [23, 23, 4] avs) σ fun v _ => v = .bool true := by
  cases h with
  | cons h hs =>
    cases hs with
    | cons h2 hs =>
      cases hs with
      | cons h3 hs =>
        cases hs
        obtain ⟨a, l, fr, rfl, hw, H1, hin⟩ := slice_ints h (Has.nil _)
        obtain ⟨b, ms, fr2, rfl, hw2, H2, hin2⟩ := slice_ints h2 H1
        obtain ⟨w, rfl, rfl, rfl⟩ := h3
        have e : argVals Try.prog [23, 23, 4] [[Value.slice a l.length 1], [.slice b ms.length 1], [.bool w]] = [.slice a l.length 1, .slice b ms.length 1, .bool w] := by kernel_rfl
        rw [e]
        refine buffers_law H2 ?_ ?_ (fun c hc => wf_u32 (hw c hc)) (fun c hc => wf_u32 (hw2 c hc))
        · rcases hin with h | ⟨r, h1, h2⟩
          · exact .inl h
          · refine .inr ⟨r, .ro, fr2.length, h1, ?_⟩
            rw [h2, List.getElem?_append_right (Nat.le_refl _)]
            simp
        · rcases hin2 with h | ⟨r, h1, h2⟩
          · exact .inl h
          · exact .inr ⟨r, .ro, 0, h1, by rw [h2]; rfl⟩
theorem own : ownKnob Try.prog.godebug = none := by kernel_rfl
section
variable {H : Type} {enc : TypeId × Value → H} {W : World}
theorem tks : L2 (fun R t => TK enc Try.prog W t R) (Rs (H := H)) [23, 23, 4] :=
  .cons (tk_slice Try.underlying23 (by kernel_rfl) (tk_int Try.underlying32)) (.cons (tk_slice Try.underlying23 (by kernel_rfl) (tk_int Try.underlying32)) (.cons (tk_bool Try.underlying4) .nil))
theorem sps : ∀ t ∈ ([23, 23, 4] : List TypeId), SP enc Try.prog W t := by
  intro t ht
  simp only [List.mem_cons, List.not_mem_nil, or_false] at ht
  rcases ht with rfl | rfl | rfl
  · exact sp_slice Try.underlying23 (by kernel_rfl) (sp_int Try.underlying32)
  · exact sp_slice Try.underlying23 (by kernel_rfl) (sp_int Try.underlying32)
  · exact sp_bool Try.underlying4
end

theorem lifted (os : Os) (started : os.Started) (H : Type) (enc : TypeId × Value → H) :
    ReturnsInHanded {} Try.checked os 4 .any (Rows.shelfBuffersSpec.pre6 enc Try.prog Try.f4 Rows.shelfBuffersRow.domain false) (Rows.shelfBuffersSpec.post enc Try.prog Try.f4 false true false false) := by
  refine returnsInHanded_of_change own started (by kernel_rfl) Try.func4
    (ChangeSpec.witness6 false ⟨#[], #[.slice none 0 0, .slice none 0 0, .bool false], []⟩ 8 (by kernel_rfl) (by kernel_rfl) (by kernel_rfl) (by kernel_rfl)) ?_
  intro W base args ds gs before hval hW _ _
  have hW' := hW
  obtain ⟨p, q, hA, hV, rfl, hfz, hnd⟩ := hW
  rw [Try.params4] at hA
  have hA2 : DataW.TrodAll enc Try.prog W 0 (fun _ => true) true ([23, 23, 4] : List TypeId) args.toList ds p := hA
  obtain ⟨v0, vs0, d0, ds0, p0, q0, ha0, rfl, rfl, h0, r0⟩ := trodAll_cons hA2
  obtain ⟨v1, vs1, d1, ds1, p1, q1, ha1, rfl, rfl, h1, r1⟩ := trodAll_cons r0
  obtain ⟨v2, vs2, d2, ds2, p2, q2, ha2, rfl, rfl, h2, r2⟩ := trodAll_cons r1
  obtain ⟨_, rfl, _⟩ := trodAll_nil r2
  have hval' : ∀ (j : Nat) t v, ([23, 23, 4] : List TypeId)[j]? = some t → args.toList[j]? = some v → Value.okWide Try.prog W .any base t v := by
    intro j t v h1 h2
    refine hval j t v ?_ (by rw [← Array.getElem?_toList]; exact h2)
    rw [Try.params4, ← Array.getElem?_toList]; exact h1
  refine (calls_true (b := base) tks hA hval' Try.call4 fun avs σ h => law h).mono fun e W' ⟨he, hk⟩ => ?_
  subst he
  obtain ⟨rfl, rfl⟩ := trodVars_none hV
  exact ⟨_, rfl, post_of_kept (tb := 4) rfl rfl Try.underlying4 hW' rfl rfl rfl hk (by rw [Try.params4]; exact sps)⟩

theorem proved : Rows.ShelfBuffersSaid :=
  OpenClaim.holds_of_wide 4 Try.f4 rfl rfl rfl rfl rfl rfl rfl ⟨rfl, rfl, rfl, rfl, rfl⟩ rfl rfl rfl rfl rfl (by kernel_rfl) Try.func4 (by kernel_rfl)
    (of_decide_eq_true (by kernel_rfl)) (by unfold Func.isWrapper; first | (rw [if_pos (by decide +kernel)]; kernel_rfl) | (rw [if_neg (by decide +kernel)]; exact ⟨rfl, rfl⟩))
    (fun os started H enc _ => lifted os started H enc)
end Go.Proofs.Ytpgedoljndppdaa.buffersLaw
#print axioms Go.Proofs.Ytpgedoljndppdaa.buffersLaw.proved
