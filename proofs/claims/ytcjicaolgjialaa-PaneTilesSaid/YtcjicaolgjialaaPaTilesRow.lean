/- PaneTiles holds for every input: each place of the screen lies in just one window; no condition. -/
import Derived.Test.YtcjicaolgjialaaPaTiles
import Derived.Test.YtcjicaolgjialaaPyLaw
set_option linter.unusedSimpArgs false
set_option linter.unusedVariables false
namespace Go.Proofs.Ytcjicaolgjialaa.tilesLaw
open Go.AI Go.ChangeShapes Go.WideShapes Go.ChangeAt Go.RowKit
set_option maxRecDepth 1000000
abbrev Rs {H : Type} : List (DataW H → AS → List Value → AS → Prop) := [RInt .u8, RInt .u8, RSlice 6 RAct]
theorem law {H : Type} {ds : List (DataW H)} {avs : List (List Value)} {σ : AS} (h : ThrH Rs ds AS.nil avs σ) : Tri Try.prog 3 (argVals Try.prog [5, 5, 22] avs) σ fun v _ => v = .bool true := by
  rcases h with _ | ⟨h1, h⟩
  rcases h with _ | ⟨h2, h⟩
  rcases h with _ | ⟨h3, h⟩
  cases h
  obtain ⟨p, rfl, hp, rfl, rfl⟩ := h1
  obtain ⟨q, rfl, hq, rfl, rfl⟩ := h2
  obtain ⟨a, l, fr, rfl, ho, H1, hin⟩ := slice_acts h3 (Has.nil _)
  rw [List.append_nil] at H1 hin
  have e : argVals Try.prog [5, 5, 22] [[.int .u8 p], [.int .u8 q], [Value.slice a l.length 6]] = [.int .u8 p, .int .u8 q, .slice a l.length 6] := by kernel_rfl
  rw [e]
  exact tiles_law (wf_u8 hp) (wf_u8 hq) H1 hin ho fun _ => rfl
theorem own : ownKnob Try.prog.godebug = none := by kernel_rfl
section
variable {H : Type} {enc : TypeId × Value → H} {W : World}
theorem tks : L2 (fun R t => TK enc Try.prog W t R) (Rs (H := H)) [5, 5, 22] :=
  .cons (tk_int Try.underlying5) (.cons (tk_int Try.underlying5) (.cons tk_acts (.nil)))
theorem sps : ∀ t ∈ ([5, 5, 22] : List TypeId), SP enc Try.prog W t := by
  intro t ht
  simp only [List.mem_cons, List.not_mem_nil, or_false] at ht
  rcases ht with rfl | rfl | rfl
  · exact sp_int Try.underlying5
  · exact sp_int Try.underlying5
  · exact sp_acts
end

theorem lifted (os : Os) (started : os.Started) (H : Type) (enc : TypeId × Value → H) :
    ReturnsInHanded {} Try.checked os 3 .any (Rows.paneTilesSpec.pre6 enc Try.prog Try.f3 Rows.paneTilesRow.domain false) (Rows.paneTilesSpec.post enc Try.prog Try.f3 false true false false) := by
  refine returnsInHanded_of_change own started (by kernel_rfl) Try.func3
    (ChangeSpec.witness6 false ⟨#[], #[.int .u8 0, .int .u8 0, .slice none 0 0], []⟩ 8 (by kernel_rfl) (by kernel_rfl) (by kernel_rfl) (by kernel_rfl)) ?_
  intro W base args ds gs before hval hW _ _
  have hW' := hW
  obtain ⟨p, q, hA, hV, rfl, hfz, hnd⟩ := hW
  rw [Try.params3] at hA
  have hA2 : DataW.TrodAll enc Try.prog W 0 (fun _ => true) true ([5, 5, 22] : List TypeId) args.toList ds p := hA
  obtain ⟨v0, vs0, d0, ds0, p0, q0, ha0, rfl, rfl, h0, r0⟩ := trodAll_cons hA2
  obtain ⟨v1, vs1, d1, ds1, p1, q1, ha1, rfl, rfl, h1, r1⟩ := trodAll_cons r0
  obtain ⟨v2, vs2, d2, ds2, p2, q2, ha2, rfl, rfl, h2, r2⟩ := trodAll_cons r1
  obtain ⟨_, rfl, _⟩ := trodAll_nil r2
  have hval' : ∀ (j : Nat) t v, ([5, 5, 22] : List TypeId)[j]? = some t → args.toList[j]? = some v → Value.okWide Try.prog W .any base t v := by
    intro j t v h1 h2
    refine hval j t v ?_ (by rw [← Array.getElem?_toList]; exact h2)
    rw [Try.params3, ← Array.getElem?_toList]; exact h1
  refine (calls_true (b := base) tks hA hval' Try.call3 fun avs σ h => law h).mono fun e W' ⟨he, hk⟩ => ?_
  subst he
  obtain ⟨rfl, rfl⟩ := trodVars_none hV
  exact ⟨_, rfl, post_of_kept (tb := 4) rfl rfl Try.underlying4 hW' rfl rfl rfl hk (by rw [Try.params3]; exact sps)⟩

theorem proved : Rows.PaneTilesSaid :=
  OpenClaim.holds_of_wide 3 Try.f3 rfl rfl rfl rfl rfl rfl rfl ⟨rfl, rfl, rfl, rfl, rfl⟩ rfl rfl rfl rfl rfl (by kernel_rfl) Try.func3 (by kernel_rfl)
    (of_decide_eq_true (by kernel_rfl)) (by unfold Func.isWrapper; first | (rw [if_pos (by decide +kernel)]; kernel_rfl) | (rw [if_neg (by decide +kernel)]; exact ⟨rfl, rfl⟩))
    (fun os started H enc _ => lifted os started H enc)
end Go.Proofs.Ytcjicaolgjialaa.tilesLaw
#print axioms Go.Proofs.Ytcjicaolgjialaa.tilesLaw.proved
