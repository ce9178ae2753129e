/- ShelfWide holds for every input: a file is read by one byte and by four; no condition. -/
import Derived.Test.YtpgedoljndppdaaShWideLaw
import Derived.Test.YtpgedoljndppdaaAISepTop
import Derived.Test.YtpgedoljndppdaaRows
import Derived.JoinedCond
import Derived.WalkKit
import Derived.ProofKit
import Derived.OpenShut
set_option linter.unusedSimpArgs false
set_option linter.unusedVariables false
namespace Go.Proofs.Ytpgedoljndppdaa.wideLaw
open Go.AI Go.ChangeShapes Go.WideShapes Go.ChangeAt Go.RowKit
set_option maxRecDepth 1000000
abbrev Rs {H : Type} : List (DataW H → AS → List Value → AS → Prop) := [RSlice 1 (RInt .u8)]
theorem law {H : Type} {ds : List (DataW H)} {avs : List (List Value)} {σ : AS} (h : ThrH Rs ds AS.nil avs σ) : Tri Try.prog 7 (argVals Try.prog [52] avs) σ fun v _ => v = .bool true := by
  cases h with
  | cons h hs =>
    cases hs
    have h' := h
    rcases h' with ⟨_, rfl, rfl⟩ | ⟨_, _, rfl, rfl⟩ | ⟨elems, spare, avs, σ1, _, hne, _, ht, rfl, rfl⟩
    · have e : argVals Try.prog [52] [[Value.slice none 0 1]] = [.slice none 0 1] := by kernel_rfl
      rw [e]
      exact wide0
    · have e : argVals Try.prog [52] [[Value.slice (some ⟨AS.nil.n, 0, none⟩) 0 1]] = [.slice (some ⟨0, 0, none⟩) 0 1] := by kernel_rfl
      rw [e]
      exact wide1
    · obtain ⟨rfl, l, h1, rfl, h2⟩ := thr_ints ht
      rw [flat_ints]
      have e : ∀ (i n : Nat), argVals Try.prog [52] [[Value.slice (some ⟨i, 0, none⟩) n 1]] = [.slice (some ⟨i, 0, none⟩) n 1] := by intro i n; kernel_rfl
      rw [e, ← h1]
      have hl : l ≠ [] := by intro e; rw [e] at h1; exact hne (List.length_eq_zero_iff.1 h1.symm)
      refine wide_law (fr := [(AS.nil.n, .row .ro (cells8 l))]) ((Has.nil AS.nil).new _) hl (by simp) fun c hc => ?_
      have := wf_u8 (h2 c hc)
      omega
theorem own : ownKnob Try.prog.godebug = none := by kernel_rfl
section
variable {H : Type} {enc : TypeId × Value → H} {W : World}
theorem tks : L2 (fun R t => TK enc Try.prog W t R) (Rs (H := H)) [52] :=
  .cons (tk_slice Try.underlying52 (by kernel_rfl) (tk_int Try.underlying5)) .nil
theorem sps : ∀ t ∈ ([52] : List TypeId), SP enc Try.prog W t := by
  intro t ht
  simp only [List.mem_cons, List.not_mem_nil, or_false] at ht
  rcases ht with rfl
  · exact sp_slice Try.underlying52 (by kernel_rfl) (sp_int Try.underlying5)
end

theorem lifted (os : Os) (started : os.Started) (H : Type) (enc : TypeId × Value → H) :
    ReturnsInHanded {} Try.checked os 7 .any (Rows.shelfWideSpec.pre6 enc Try.prog Try.f7 Rows.shelfWideRow.domain false) (Rows.shelfWideSpec.post enc Try.prog Try.f7 false true false false) := by
  refine returnsInHanded_of_change own started (by kernel_rfl) Try.func7
    (ChangeSpec.witness6 false ⟨#[], #[.slice none 0 0], []⟩ 8 (by kernel_rfl) (by kernel_rfl) (by kernel_rfl) (by kernel_rfl)) ?_
  intro W base args ds gs before hval hW _ _
  have hW' := hW
  obtain ⟨p, q, hA, hV, rfl, hfz, hnd⟩ := hW
  rw [Try.params7] at hA
  have hA2 : DataW.TrodAll enc Try.prog W 0 (fun _ => true) true ([52] : List TypeId) args.toList ds p := hA
  obtain ⟨v0, vs0, d0, ds0, p0, q0, ha0, rfl, rfl, h0, r0⟩ := trodAll_cons hA2
  obtain ⟨_, rfl, _⟩ := trodAll_nil r0
  have hval' : ∀ (j : Nat) t v, ([52] : List TypeId)[j]? = some t → args.toList[j]? = some v → Value.okWide Try.prog W .any base t v := by
    intro j t v h1 h2
    refine hval j t v ?_ (by rw [← Array.getElem?_toList]; exact h2)
    rw [Try.params7, ← Array.getElem?_toList]; exact h1
  refine (calls_true (b := base) tks hA hval' Try.call7 fun avs σ h => law h).mono fun e W' ⟨he, hk⟩ => ?_
  subst he
  obtain ⟨rfl, rfl⟩ := trodVars_none hV
  exact ⟨_, rfl, post_of_kept (tb := 4) rfl rfl Try.underlying4 hW' rfl rfl rfl hk (by rw [Try.params7]; exact sps)⟩

theorem proved : Rows.ShelfWideSaid :=
  OpenClaim.holds_of_wide 7 Try.f7 rfl rfl rfl rfl rfl rfl rfl ⟨rfl, rfl, rfl, rfl, rfl⟩ rfl rfl rfl rfl rfl (by kernel_rfl) Try.func7 (by kernel_rfl)
    (of_decide_eq_true (by kernel_rfl)) (by unfold Func.isWrapper; first | (rw [if_pos (by decide +kernel)]; kernel_rfl) | (rw [if_neg (by decide +kernel)]; exact ⟨rfl, rfl⟩))
    (fun os started H enc _ => lifted os started H enc)
end Go.Proofs.Ytpgedoljndppdaa.wideLaw
#print axioms Go.Proofs.Ytpgedoljndppdaa.wideLaw.proved
