/- GlkMemory holds for every input: what is put to a stream on memory is in the memory once it is closed; no condition. -/
import Derived.Test.YtlofpopejkohbaaGreatGyLaw
import Derived.Test.YtlofpopejkohbaaGreatAISepTop
import Derived.Test.YtlofpopejkohbaaGreatRows
import Derived.JoinedCond
import Derived.WalkKit
import Derived.ProofKit
import Derived.OpenShut
set_option linter.unusedSimpArgs false
set_option linter.unusedVariables false
namespace Go.Proofs.YtlofpopejkohbaaGreat.memoryLaw
open Go.AI Go.ChangeShapes Go.WideShapes Go.ChangeAt Go.RowKit
set_option maxRecDepth 1000000
abbrev Rs {H : Type} : List (DataW H → AS → List Value → AS → Prop) := [RSlice 1 (RInt .u8), RInt .u8, RSlice 1 (RInt .u32), RBool]
theorem law {H : Type} {ds : List (DataW H)} {avs : List (List Value)} {σ : AS} (h : ThrH Rs ds AS.nil avs σ) : Tri Tryz.prog 4 (argVals Tryz.prog [42, 5, 22, 4] avs) σ fun v _ => v = .bool true := by
  cases h with
  | cons h hs =>
    cases hs with
    | cons h2 hs =>
      cases hs with
      | cons h3 hs =>
        cases hs with
        | cons h4 hs =>
          cases hs
          obtain ⟨a, b, fr, rfl, hw, H1, hin⟩ := slice_ints h (Has.nil _)
          obtain ⟨n, rfl, hn, rfl, rfl⟩ := h2
          obtain ⟨u, l, fr2, rfl, hw2, H2, hin2⟩ := slice_ints h3 H1
          obtain ⟨is, rfl, rfl, rfl⟩ := h4
          have e : argVals Tryz.prog [42, 5, 22, 4] [[Value.slice a b.length 1], [.int .u8 n], [.slice u l.length 1], [.bool is]] = [.slice a b.length 1, .int .u8 n, .slice u l.length 1, .bool is] := by kernel_rfl
          rw [e]
          have hn := wf_u8 hn
          refine mem_law H2 ?_ ?_ (fun c hc => by have := wf_u8 (hw c hc); omega) (fun c hc => wf_u32 (hw2 c hc)) hn
          · rcases hin with h | ⟨r, h1, h2⟩
            · exact .inl h
            · exact .inr ⟨r, .ro, h1, by rw [h2]; simp⟩
          · rcases hin2 with h | ⟨r, h1, h2⟩
            · exact .inl h
            · exact .inr ⟨r, .ro, h1, by rw [h2]; simp⟩
theorem own : ownKnob Tryz.prog.godebug = none := by kernel_rfl
section
variable {H : Type} {enc : TypeId × Value → H} {W : World}
theorem tks : L2 (fun R t => TK enc Tryz.prog W t R) (Rs (H := H)) [42, 5, 22, 4] :=
  .cons (tk_slice Tryz.underlying42 (by kernel_rfl) (tk_int Tryz.underlying5)) (.cons (tk_int Tryz.underlying5) (.cons (tk_slice Tryz.underlying22 (by kernel_rfl) (tk_int Tryz.underlying32)) (.cons (tk_bool Tryz.underlying4) .nil)))
theorem sps : ∀ t ∈ ([42, 5, 22, 4] : List TypeId), SP enc Tryz.prog W t := by
  intro t ht
  simp only [List.mem_cons, List.not_mem_nil, or_false] at ht
  rcases ht with rfl | rfl | rfl | rfl
  · exact sp_slice Tryz.underlying42 (by kernel_rfl) (sp_int Tryz.underlying5)
  · exact sp_int Tryz.underlying5
  · exact sp_slice Tryz.underlying22 (by kernel_rfl) (sp_int Tryz.underlying32)
  · exact sp_bool Tryz.underlying4
end

theorem lifted (os : Os) (started : os.Started) (H : Type) (enc : TypeId × Value → H) :
    ReturnsInHanded {} Tryz.checked os 4 .any (Rows.glkMemorySpec.pre6 enc Tryz.prog Tryz.f4 Rows.glkMemoryRow.domain false) (Rows.glkMemorySpec.post enc Tryz.prog Tryz.f4 false true false false) := by
  refine returnsInHanded_of_change own started (by kernel_rfl) Tryz.func4
    (ChangeSpec.witness6 false ⟨#[], #[.slice none 0 0, .int .u8 0, .slice none 0 0, .bool false], []⟩ 8 (by kernel_rfl) (by kernel_rfl) (by kernel_rfl) (by kernel_rfl)) ?_
  intro W base args ds gs before hval hW _ _
  have hW' := hW
  obtain ⟨p, q, hA, hV, rfl, hfz, hnd⟩ := hW
  rw [Tryz.params4] at hA
  have hA2 : DataW.TrodAll enc Tryz.prog W 0 (fun _ => true) true ([42, 5, 22, 4] : List TypeId) args.toList ds p := hA
  obtain ⟨v0, vs0, d0, ds0, p0, q0, ha0, rfl, rfl, h0, r0⟩ := trodAll_cons hA2
  obtain ⟨v1, vs1, d1, ds1, p1, q1, ha1, rfl, rfl, h1, r1⟩ := trodAll_cons r0
  obtain ⟨v2, vs2, d2, ds2, p2, q2, ha2, rfl, rfl, h2, r2⟩ := trodAll_cons r1
  obtain ⟨v3, vs3, d3, ds3, p3, q3, ha3, rfl, rfl, h3, r3⟩ := trodAll_cons r2
  obtain ⟨_, rfl, _⟩ := trodAll_nil r3
  have hval' : ∀ (j : Nat) t v, ([42, 5, 22, 4] : List TypeId)[j]? = some t → args.toList[j]? = some v → Value.okWide Tryz.prog W .any base t v := by
    intro j t v h1 h2
    refine hval j t v ?_ (by rw [← Array.getElem?_toList]; exact h2)
    rw [Tryz.params4, ← Array.getElem?_toList]; exact h1
  refine (calls_true (b := base) tks hA hval' Tryz.call4 fun avs σ h => law h).mono fun e W' ⟨he, hk⟩ => ?_
  subst he
  obtain ⟨rfl, rfl⟩ := trodVars_none hV
  exact ⟨_, rfl, post_of_kept (tb := 4) rfl rfl Tryz.underlying4 hW' rfl rfl rfl hk (by rw [Tryz.params4]; exact sps)⟩

theorem proved : Rows.GlkMemorySaid :=
  OpenClaim.holds_of_wide 4 Tryz.f4 rfl rfl rfl rfl rfl rfl rfl ⟨rfl, rfl, rfl, rfl, rfl⟩ rfl rfl rfl rfl rfl (by kernel_rfl) Tryz.func4 (by kernel_rfl)
    (of_decide_eq_true (by kernel_rfl)) (by unfold Func.isWrapper; first | (rw [if_pos (by decide +kernel)]; kernel_rfl) | (rw [if_neg (by decide +kernel)]; exact ⟨rfl, rfl⟩))
    (fun os started H enc _ => lifted os started H enc)
end Go.Proofs.YtlofpopejkohbaaGreat.memoryLaw
#print axioms Go.Proofs.YtlofpopejkohbaaGreat.memoryLaw.proved
