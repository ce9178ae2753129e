/- GlkNil holds for every input: a nil world, a nil Space; no condition. -/
import Derived.Test.YtjphjpgbnndfgaaGreatGlNilLaw
import Derived.Test.YtjphjpgbnndfgaaGreatAISepTop
import Derived.Test.YtjphjpgbnndfgaaGreatRows
import Derived.JoinedCond
import Derived.WalkKit
import Derived.ProofKit
import Derived.OpenShut
set_option linter.unusedSimpArgs false
set_option linter.unusedVariables false
namespace Go.Proofs.YtjphjpgbnndfgaaGreat.nilLaw
open Go.AI Go.ChangeShapes Go.WideShapes Go.ChangeAt Go.RowKit
set_option maxRecDepth 1000000
theorem thr_int {H : Type} {k : IntKind} {l : List (DataW H)} {σ σ' : AS} {avs : List (List Value)} (h : Thr (RInt k) l σ avs σ') : σ' = σ := by
  induction h with
  | nil => rfl
  | cons h _ ih =>
    obtain ⟨_, _, _, _, rfl⟩ := h
    exact ih

/-- A slice of numbers: no new object, or one. -/
theorem slice_cases {H : Type} {k : IntKind} {d : DataW H} {σ σ' : AS} {av : List Value} (h : RSlice 1 (RInt k) d σ av σ') : ∃ a n, av = [.slice a n 1] ∧ (σ' = σ ∨ ∃ o, σ' = σ.set σ.n o) := by
  rcases h with ⟨_, rfl, rfl⟩ | ⟨_, _, rfl, rfl⟩ | ⟨_, _, avs, σ1, _, _, _, ht, rfl, rfl⟩
  · exact ⟨_, _, rfl, .inl rfl⟩
  · exact ⟨_, _, rfl, .inr ⟨_, rfl⟩⟩
  · rw [thr_int ht]
    exact ⟨_, _, rfl, .inr ⟨_, rfl⟩⟩

abbrev Rs {H : Type} : List (DataW H → AS → List Value → AS → Prop) := [RInt .u32, RSlice 1 (RInt .u32), RStr, RSlice 1 (RInt .u8)]
theorem law {H : Type} {ds : List (DataW H)} {avs : List (List Value)} {σ : AS} (h : ThrH Rs ds AS.nil avs σ) : Tri Tryz.prog 4 (argVals Tryz.prog [22, 37, 9, 40] avs) σ fun v _ => v = .bool true := by
  cases h with
  | cons h hs =>
    cases hs with
    | cons h2 hs =>
      cases hs with
      | cons h3 hs =>
        cases hs with
        | cons h4 hs =>
          cases hs
          obtain ⟨sel, rfl, _, rfl, rfl⟩ := h
          obtain ⟨a, an, rfl, ha⟩ := slice_cases h2
          obtain ⟨name, _, _, rfl, rfl⟩ := h3
          obtain ⟨b, bn, rfl, hb⟩ := slice_cases h4
          have e : argVals Tryz.prog [22, 37, 9, 40] [[Value.int .u32 sel], [.slice a an 1], [.string name], [.slice b bn 1]] = [.int .u32 sel, .slice a an 1, .string name, .slice b bn 1] := by kernel_rfl
          rw [e]
          rcases ha with rfl | ⟨o, rfl⟩
          · rcases hb with rfl | ⟨o, rfl⟩
            · exact nil0 sel a b an bn name
            · exact nil1 sel a b an bn name o
          · rcases hb with rfl | ⟨o', rfl⟩
            · exact nil1 sel a b an bn name o
            · exact nil2 sel a b an bn name o o'
theorem own : ownKnob Tryz.prog.godebug = none := by kernel_rfl
section
variable {H : Type} {enc : TypeId × Value → H} {W : World}
theorem tks : L2 (fun R t => TK enc Tryz.prog W t R) (Rs (H := H)) [22, 37, 9, 40] :=
  .cons (tk_int Tryz.underlying22) (.cons (tk_slice Tryz.underlying37 (by kernel_rfl) (tk_int Tryz.underlying22)) (.cons (tk_str Tryz.underlying9) (.cons (tk_slice Tryz.underlying40 (by kernel_rfl) (tk_int Tryz.underlying5)) .nil)))
theorem sps : ∀ t ∈ ([22, 37, 9, 40] : List TypeId), SP enc Tryz.prog W t := by
  intro t ht
  simp only [List.mem_cons, List.not_mem_nil, or_false] at ht
  rcases ht with rfl | rfl | rfl | rfl
  · exact sp_int Tryz.underlying22
  · exact sp_slice Tryz.underlying37 (by kernel_rfl) (sp_int Tryz.underlying22)
  · exact sp_str Tryz.underlying9
  · exact sp_slice Tryz.underlying40 (by kernel_rfl) (sp_int Tryz.underlying5)
end

theorem lifted (os : Os) (started : os.Started) (H : Type) (enc : TypeId × Value → H) :
    ReturnsInHanded {} Tryz.checked os 4 .any (Rows.glkNilSpec.pre6 enc Tryz.prog Tryz.f4 Rows.glkNilRow.domain false) (Rows.glkNilSpec.post enc Tryz.prog Tryz.f4 false true false false) := by
  refine returnsInHanded_of_change own started (by kernel_rfl) Tryz.func4
    (ChangeSpec.witness6 false ⟨#[], #[.int .u32 0, .slice none 0 0, .string ⟨#[]⟩, .slice none 0 0], []⟩ 8 (by kernel_rfl) (by kernel_rfl) (by kernel_rfl) (by kernel_rfl)) ?_
  intro W base args ds gs before hval hW _ _
  have hW' := hW
  obtain ⟨p, q, hA, hV, rfl, hfz, hnd⟩ := hW
  rw [Tryz.params4] at hA
  have hA2 : DataW.TrodAll enc Tryz.prog W 0 (fun _ => true) true ([22, 37, 9, 40] : List TypeId) args.toList ds p := hA
  obtain ⟨v0, vs0, d0, ds0, p0, q0, ha0, rfl, rfl, h0, r0⟩ := trodAll_cons hA2
  obtain ⟨v1, vs1, d1, ds1, p1, q1, ha1, rfl, rfl, h1, r1⟩ := trodAll_cons r0
  obtain ⟨v2, vs2, d2, ds2, p2, q2, ha2, rfl, rfl, h2, r2⟩ := trodAll_cons r1
  obtain ⟨v3, vs3, d3, ds3, p3, q3, ha3, rfl, rfl, h3, r3⟩ := trodAll_cons r2
  obtain ⟨_, rfl, _⟩ := trodAll_nil r3
  have hval' : ∀ (j : Nat) t v, ([22, 37, 9, 40] : List TypeId)[j]? = some t → args.toList[j]? = some v → Value.okWide Tryz.prog W .any base t v := by
    intro j t v h1 h2
    refine hval j t v ?_ (by rw [← Array.getElem?_toList]; exact h2)
    rw [Tryz.params4, ← Array.getElem?_toList]; exact h1
  refine (calls_true (b := base) tks hA hval' Tryz.call4 fun avs σ h => law h).mono fun e W' ⟨he, hk⟩ => ?_
  subst he
  obtain ⟨rfl, rfl⟩ := trodVars_none hV
  exact ⟨_, rfl, post_of_kept (tb := 4) rfl rfl Tryz.underlying4 hW' rfl rfl rfl hk (by rw [Tryz.params4]; exact sps)⟩

theorem proved : Rows.GlkNilSaid :=
  OpenClaim.holds_of_wide 4 Tryz.f4 rfl rfl rfl rfl rfl rfl rfl ⟨rfl, rfl, rfl, rfl, rfl⟩ rfl rfl rfl rfl rfl (by kernel_rfl) Tryz.func4 (by kernel_rfl)
    (of_decide_eq_true (by kernel_rfl)) (by unfold Func.isWrapper; first | (rw [if_pos (by decide +kernel)]; kernel_rfl) | (rw [if_neg (by decide +kernel)]; exact ⟨rfl, rfl⟩))
    (fun os started H enc _ => lifted os started H enc)
end Go.Proofs.YtjphjpgbnndfgaaGreat.nilLaw
#print axioms Go.Proofs.YtjphjpgbnndfgaaGreat.nilLaw.proved
