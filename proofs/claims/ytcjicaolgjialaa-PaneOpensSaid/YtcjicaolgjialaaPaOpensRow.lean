/- PaneOpens holds for every input: what is opened has its size, all else stays; no condition. -/
import Derived.Test.YtcjicaolgjialaaPaOpensL
import Derived.Test.YtcjicaolgjialaaPyLaw
set_option linter.unusedSimpArgs false
set_option linter.unusedVariables false
namespace Go.Proofs.Ytcjicaolgjialaa.opensLaw
open Go.AI Go.ChangeShapes Go.WideShapes Go.ChangeAt Go.RowKit
set_option maxRecDepth 1000000
abbrev Rs {H : Type} : List (DataW H → AS → List Value → AS → Prop) := [RInt .u8, RInt .u8, RSlice 6 RAct, RInt .i64, RInt .u8, RInt .u32]
theorem law {H : Type} {ds : List (DataW H)} {avs : List (List Value)} {σ : AS} (h : ThrH Rs ds AS.nil avs σ) : Tri Try.prog 4 (argVals Try.prog [5, 5, 22, 3, 5, 24] avs) σ fun v _ => v = .bool true := by
  rcases h with _ | ⟨h1, h⟩
  rcases h with _ | ⟨h2, h⟩
  rcases h with _ | ⟨h3, h⟩
  rcases h with _ | ⟨h4, h⟩
  rcases h with _ | ⟨h5, h⟩
  rcases h with _ | ⟨h6, h⟩
  cases h
  obtain ⟨p, rfl, hp, rfl, rfl⟩ := h1
  obtain ⟨q, rfl, hq, rfl, rfl⟩ := h2
  obtain ⟨a, l, fr, rfl, ho, H1, hin⟩ := slice_acts h3 (Has.nil _)
  rw [List.append_nil] at H1 hin
  obtain ⟨x1, rfl, w1, rfl, rfl⟩ := h4
  obtain ⟨x2, rfl, w2, rfl, rfl⟩ := h5
  obtain ⟨x3, rfl, w3, rfl, rfl⟩ := h6
  have e : argVals Try.prog [5, 5, 22, 3, 5, 24] [[.int .u8 p], [.int .u8 q], [Value.slice a l.length 6], [.int .i64 x1], [.int .u8 x2], [.int .u32 x3]] = [.int .u8 p, .int .u8 q, .slice a l.length 6, .int .i64 x1, .int .u8 x2, .int .u32 x3] := by kernel_rfl
  rw [e]
  exact opens_law (wf_u8 hp) (wf_u8 hq) (wf_u8 w2) (wf_u32 w3) H1 hin ho fun _ => rfl
theorem own : ownKnob Try.prog.godebug = none := by kernel_rfl
section
variable {H : Type} {enc : TypeId × Value → H} {W : World}
theorem tks : L2 (fun R t => TK enc Try.prog W t R) (Rs (H := H)) [5, 5, 22, 3, 5, 24] :=
  .cons (tk_int Try.underlying5) (.cons (tk_int Try.underlying5) (.cons tk_acts (.cons (tk_int Try.underlying3) (.cons (tk_int Try.underlying5) (.cons (tk_int Try.underlying24) .nil)))))
theorem sps : ∀ t ∈ ([5, 5, 22, 3, 5, 24] : List TypeId), SP enc Try.prog W t := by
  intro t ht
  simp only [List.mem_cons, List.not_mem_nil, or_false] at ht
  rcases ht with rfl | rfl | rfl | rfl | rfl | rfl
  · exact sp_int Try.underlying5
  · exact sp_int Try.underlying5
  · exact sp_acts
  · exact sp_int Try.underlying3
  · exact sp_int Try.underlying5
  · exact sp_int Try.underlying24
end

theorem lifted (os : Os) (started : os.Started) (H : Type) (enc : TypeId × Value → H) :
    ReturnsInHanded {} Try.checked os 4 .any (Rows.paneOpensSpec.pre6 enc Try.prog Try.f4 Rows.paneOpensRow.domain false) (Rows.paneOpensSpec.post enc Try.prog Try.f4 false true false false) := by
  refine returnsInHanded_of_change own started (by kernel_rfl) Try.func4
    (ChangeSpec.witness6 false ⟨#[], #[.int .u8 0, .int .u8 0, .slice none 0 0, .int .i64 0, .int .u8 0, .int .u32 0], []⟩ 8 (by kernel_rfl) (by kernel_rfl) (by kernel_rfl) (by kernel_rfl)) ?_
  intro W base args ds gs before hval hW _ _
  have hW' := hW
  obtain ⟨p, q, hA, hV, rfl, hfz, hnd⟩ := hW
  rw [Try.params4] at hA
  have hA2 : DataW.TrodAll enc Try.prog W 0 (fun _ => true) true ([5, 5, 22, 3, 5, 24] : List TypeId) args.toList ds p := hA
  obtain ⟨v0, vs0, d0, ds0, p0, q0, ha0, rfl, rfl, h0, r0⟩ := trodAll_cons hA2
  obtain ⟨v1, vs1, d1, ds1, p1, q1, ha1, rfl, rfl, h1, r1⟩ := trodAll_cons r0
  obtain ⟨v2, vs2, d2, ds2, p2, q2, ha2, rfl, rfl, h2, r2⟩ := trodAll_cons r1
  obtain ⟨v3, vs3, d3, ds3, p3, q3, ha3, rfl, rfl, h3, r3⟩ := trodAll_cons r2
  obtain ⟨v4, vs4, d4, ds4, p4, q4, ha4, rfl, rfl, h4, r4⟩ := trodAll_cons r3
  obtain ⟨v5, vs5, d5, ds5, p5, q5, ha5, rfl, rfl, h5, r5⟩ := trodAll_cons r4
  obtain ⟨_, rfl, _⟩ := trodAll_nil r5
  have hval' : ∀ (j : Nat) t v, ([5, 5, 22, 3, 5, 24] : List TypeId)[j]? = some t → args.toList[j]? = some v → Value.okWide Try.prog W .any base t v := by
    intro j t v h1 h2
    refine hval j t v ?_ (by rw [← Array.getElem?_toList]; exact h2)
    rw [Try.params4, ← Array.getElem?_toList]; exact h1
  refine (calls_true (b := base) tks hA hval' Try.call4 fun avs σ h => law h).mono fun e W' ⟨he, hk⟩ => ?_
  subst he
  obtain ⟨rfl, rfl⟩ := trodVars_none hV
  exact ⟨_, rfl, post_of_kept (tb := 4) rfl rfl Try.underlying4 hW' rfl rfl rfl hk (by rw [Try.params4]; exact sps)⟩

theorem proved : Rows.PaneOpensSaid :=
  OpenClaim.holds_of_wide 4 Try.f4 rfl rfl rfl rfl rfl rfl rfl ⟨rfl, rfl, rfl, rfl, rfl⟩ rfl rfl rfl rfl rfl (by kernel_rfl) Try.func4 (by kernel_rfl)
    (of_decide_eq_true (by kernel_rfl)) (by unfold Func.isWrapper; first | (rw [if_pos (by decide +kernel)]; kernel_rfl) | (rw [if_neg (by decide +kernel)]; exact ⟨rfl, rfl⟩))
    (fun os started H enc _ => lifted os started H enc)
end Go.Proofs.Ytcjicaolgjialaa.opensLaw
#print axioms Go.Proofs.Ytcjicaolgjialaa.opensLaw.proved
