/- GlkGrid holds for every input: a grid is filled row by row; no condition. -/
import Derived.Test.YtlofpopejkohbaaGreatGyGr
import Derived.Test.YtlofpopejkohbaaGreatAISepTop
import Derived.Test.YtlofpopejkohbaaGreatRows
import Derived.JoinedCond
import Derived.WalkKit
import Derived.ProofKit
import Derived.OpenShut
set_option linter.unusedSimpArgs false
set_option linter.unusedVariables false
set_option maxRecDepth 1000000
namespace Go.Proofs.YtlofpopejkohbaaGreat.gridLaw
open Go.AI Go.ChangeShapes Go.WideShapes Go.ChangeAt Go.RowKit
abbrev Rs {H : Type} : List (DataW H → AS → List Value → AS → Prop) := [RInt .u8, RInt .u8, RInt .u8, RInt .u8, RSlice 1 (RInt .u32)]
theorem law {H : Type} {ds : List (DataW H)} {avs : List (List Value)} {σ : AS} (h : ThrH Rs ds AS.nil avs σ) : Tri Tryz.prog 8 (argVals Tryz.prog [5, 5, 5, 5, 22] avs) σ fun v _ => v = .bool true := by
  rcases h with _ | ⟨h1, h⟩
  rcases h with _ | ⟨h2, h⟩
  rcases h with _ | ⟨h3, h⟩
  rcases h with _ | ⟨h4, h⟩
  rcases h with _ | ⟨h5, h⟩
  cases h
  obtain ⟨p1, rfl, w1, rfl, rfl⟩ := h1
  obtain ⟨p2, rfl, w2, rfl, rfl⟩ := h2
  obtain ⟨p3, rfl, w3, rfl, rfl⟩ := h3
  obtain ⟨p4, rfl, w4, rfl, rfl⟩ := h4
  obtain ⟨a, l, fr, rfl, hw, H1, hin⟩ := slice_ints h5 (Has.nil _)
  have w1 := wf_u8 w1
  have w2 := wf_u8 w2
  have w3 := wf_u8 w3
  have w4 := wf_u8 w4
  obtain ⟨n1, rfl⟩ : ∃ n : Nat, p1 = n := ⟨p1.toNat, by omega⟩
  obtain ⟨n2, rfl⟩ : ∃ n : Nat, p2 = n := ⟨p2.toNat, by omega⟩
  obtain ⟨n3, rfl⟩ : ∃ n : Nat, p3 = n := ⟨p3.toNat, by omega⟩
  obtain ⟨n4, rfl⟩ : ∃ n : Nat, p4 = n := ⟨p4.toNat, by omega⟩
  have e : argVals Tryz.prog [5, 5, 5, 5, 22] [[.int .u8 (n1 : Int)], [.int .u8 (n2 : Int)], [.int .u8 (n3 : Int)], [.int .u8 (n4 : Int)], [Value.slice a l.length 1]] = [.int .u8 (n1 : Int), .int .u8 (n2 : Int), .int .u8 (n3 : Int), .int .u8 (n4 : Int), .slice a l.length 1] := by kernel_rfl
  rw [e]
  refine gr_law H1 (by omega) (by omega) (by omega) (by omega) ?_ (fun x hx => wf_u32 (hw x hx))
  rcases hin with h | ⟨r, h1, h2⟩
  · exact .inl h
  · exact .inr ⟨r, .ro, h1, by rw [h2]; simp⟩
theorem own : ownKnob Tryz.prog.godebug = none := by kernel_rfl
section
variable {H : Type} {enc : TypeId × Value → H} {W : World}
theorem tks : L2 (fun R t => TK enc Tryz.prog W t R) (Rs (H := H)) [5, 5, 5, 5, 22] :=
  .cons (tk_int Tryz.underlying5) (.cons (tk_int Tryz.underlying5) (.cons (tk_int Tryz.underlying5) (.cons (tk_int Tryz.underlying5) (.cons (tk_slice Tryz.underlying22 (by kernel_rfl) (tk_int Tryz.underlying32)) .nil))))
theorem sps : ∀ t ∈ ([5, 5, 5, 5, 22] : List TypeId), SP enc Tryz.prog W t := by
  intro t ht
  simp only [List.mem_cons, List.not_mem_nil, or_false] at ht
  rcases ht with rfl | rfl | rfl | rfl | rfl
  · exact sp_int Tryz.underlying5
  · exact sp_int Tryz.underlying5
  · exact sp_int Tryz.underlying5
  · exact sp_int Tryz.underlying5
  · exact sp_slice Tryz.underlying22 (by kernel_rfl) (sp_int Tryz.underlying32)
end

theorem lifted (os : Os) (started : os.Started) (H : Type) (enc : TypeId × Value → H) :
    ReturnsInHanded {} Tryz.checked os 8 .any (Rows.glkGridSpec.pre6 enc Tryz.prog Tryz.f8 Rows.glkGridRow.domain false) (Rows.glkGridSpec.post enc Tryz.prog Tryz.f8 false true false false) := by
  refine returnsInHanded_of_change own started (by kernel_rfl) Tryz.func8
    (ChangeSpec.witness6 false ⟨#[], #[.int .u8 0, .int .u8 0, .int .u8 0, .int .u8 0, .slice none 0 0], []⟩ 8 (by kernel_rfl) (by kernel_rfl) (by kernel_rfl) (by kernel_rfl)) ?_
  intro W base args ds gs before hval hW _ _
  have hW' := hW
  obtain ⟨p, q, hA, hV, rfl, hfz, hnd⟩ := hW
  rw [Tryz.params8] at hA
  have hA2 : DataW.TrodAll enc Tryz.prog W 0 (fun _ => true) true ([5, 5, 5, 5, 22] : List TypeId) args.toList ds p := hA
  obtain ⟨v0, vs0, d0, ds0, p0, q0, ha0, rfl, rfl, h0, r0⟩ := trodAll_cons hA2
  obtain ⟨v1, vs1, d1, ds1, p1, q1, ha1, rfl, rfl, h1, r1⟩ := trodAll_cons r0
  obtain ⟨v2, vs2, d2, ds2, p2, q2, ha2, rfl, rfl, h2, r2⟩ := trodAll_cons r1
  obtain ⟨v3, vs3, d3, ds3, p3, q3, ha3, rfl, rfl, h3, r3⟩ := trodAll_cons r2
  obtain ⟨v4, vs4, d4, ds4, p4, q4, ha4, rfl, rfl, h4, r4⟩ := trodAll_cons r3
  obtain ⟨_, rfl, _⟩ := trodAll_nil r4
  have hval' : ∀ (j : Nat) t v, ([5, 5, 5, 5, 22] : List TypeId)[j]? = some t → args.toList[j]? = some v → Value.okWide Tryz.prog W .any base t v := by
    intro j t v h1 h2
    refine hval j t v ?_ (by rw [← Array.getElem?_toList]; exact h2)
    rw [Tryz.params8, ← Array.getElem?_toList]; exact h1
  refine (calls_true (b := base) tks hA hval' Tryz.call8 fun avs σ h => law h).mono fun e W' ⟨he, hk⟩ => ?_
  subst he
  obtain ⟨rfl, rfl⟩ := trodVars_none hV
  exact ⟨_, rfl, post_of_kept (tb := 4) rfl rfl Tryz.underlying4 hW' rfl rfl rfl hk (by rw [Tryz.params8]; exact sps)⟩

theorem proved : Rows.GlkGridSaid :=
  OpenClaim.holds_of_wide 8 Tryz.f8 rfl rfl rfl rfl rfl rfl rfl ⟨rfl, rfl, rfl, rfl, rfl⟩ rfl rfl rfl rfl rfl (by kernel_rfl) Tryz.func8 (by kernel_rfl)
    (of_decide_eq_true (by kernel_rfl)) (by unfold Func.isWrapper; first | (rw [if_pos (by decide +kernel)]; kernel_rfl) | (rw [if_neg (by decide +kernel)]; exact ⟨rfl, rfl⟩))
    (fun os started H enc _ => lifted os started H enc)
end Go.Proofs.YtlofpopejkohbaaGreat.gridLaw
#print axioms Go.Proofs.YtlofpopejkohbaaGreat.gridLaw.proved
