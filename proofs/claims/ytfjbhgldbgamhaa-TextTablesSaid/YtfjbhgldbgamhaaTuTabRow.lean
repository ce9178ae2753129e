/- TextTables holds for every input: the table of any alphabet, any text packed by it, are the page's; no condition. -/
import Derived.Test.YtfjbhgldbgamhaaTuTabLaw
import Derived.Test.YtfjbhgldbgamhaaAISepTop
import Derived.Test.YtfjbhgldbgamhaaRows
import Derived.JoinedCond
import Derived.WalkKit
import Derived.ProofKit
import Derived.OpenShut
set_option linter.unusedSimpArgs false
set_option linter.unusedVariables false
namespace Go.Proofs.Ytfjbhgldbgamhaa.tablesLaw
open Go.AI Go.ChangeShapes Go.WideShapes Go.ChangeAt Go.RowKit
set_option maxRecDepth 1000000
abbrev Rs {H : Type} : List (DataW H → AS → List Value → AS → Prop) := [RInt .u32, RSlice 1 (RInt .u32), RSlice 1 (RInt .u32)]
theorem law {H : Type} {ds : List (DataW H)} {avs : List (List Value)} {σ : AS} (h : ThrH Rs ds AS.nil avs σ) : Tri Try.prog 3 (argVals Try.prog [22, 23, 23] avs) σ fun v _ => v = .bool true := by
  cases h with
  | cons h hs =>
    cases hs with
    | cons h2 hs =>
      cases hs with
      | cons h3 hs =>
        cases hs
        obtain ⟨t, rfl, hwt, rfl, rfl⟩ := h
        obtain ⟨a, xs, fr, rfl, hw, H1, hin⟩ := slice_ints h2 (Has.nil _)
        obtain ⟨u, l, fr2, rfl, hw2, H2, hin2⟩ := slice_ints h3 H1
        have e : argVals Try.prog [22, 23, 23] [[Value.int .u32 t], [.slice a xs.length 1], [.slice u l.length 1]] = [.int .u32 t, .slice a xs.length 1, .slice u l.length 1] := by kernel_rfl
        rw [e]
        refine tab_law H2 ?_ ?_ (fun c hc => wf_u32 (hw c hc))
        · rcases hin with h | ⟨r, h1, h2⟩
          · exact .inl h
          · exact .inr ⟨r, .ro, h1, by rw [h2]; simp⟩
        · rcases hin2 with h | ⟨r, h1, h2⟩
          · exact .inl h
          · exact .inr ⟨r, .ro, h1, by rw [h2]; simp⟩
theorem own : ownKnob Try.prog.godebug = none := by kernel_rfl
section
variable {H : Type} {enc : TypeId × Value → H} {W : World}
theorem tks : L2 (fun R t => TK enc Try.prog W t R) (Rs (H := H)) [22, 23, 23] :=
  .cons (tk_int Try.underlying22) (.cons (tk_slice Try.underlying23 (by kernel_rfl) (tk_int Try.underlying22)) (.cons (tk_slice Try.underlying23 (by kernel_rfl) (tk_int Try.underlying22)) .nil))
theorem sps : ∀ t ∈ ([22, 23, 23] : List TypeId), SP enc Try.prog W t := by
  intro t ht
  simp only [List.mem_cons, List.not_mem_nil, or_false] at ht
  rcases ht with rfl | rfl | rfl
  · exact sp_int Try.underlying22
  · exact sp_slice Try.underlying23 (by kernel_rfl) (sp_int Try.underlying22)
  · exact sp_slice Try.underlying23 (by kernel_rfl) (sp_int Try.underlying22)
end

theorem lifted (os : Os) (started : os.Started) (H : Type) (enc : TypeId × Value → H) :
    ReturnsInHanded {} Try.checked os 3 .any (Rows.textTablesSpec.pre6 enc Try.prog Try.f3 Rows.textTablesRow.domain false) (Rows.textTablesSpec.post enc Try.prog Try.f3 false true false false) := by
  refine returnsInHanded_of_change own started (by kernel_rfl) Try.func3
    (ChangeSpec.witness6 false ⟨#[], #[.int .u32 0, .slice none 0 0, .slice none 0 0], []⟩ 8 (by kernel_rfl) (by kernel_rfl) (by kernel_rfl) (by kernel_rfl)) ?_
  intro W base args ds gs before hval hW _ _
  have hW' := hW
  obtain ⟨p, q, hA, hV, rfl, hfz, hnd⟩ := hW
  rw [Try.params3] at hA
  have hA2 : DataW.TrodAll enc Try.prog W 0 (fun _ => true) true ([22, 23, 23] : List TypeId) args.toList ds p := hA
  obtain ⟨v0, vs0, d0, ds0, p0, q0, ha0, rfl, rfl, h0, r0⟩ := trodAll_cons hA2
  obtain ⟨v1, vs1, d1, ds1, p1, q1, ha1, rfl, rfl, h1, r1⟩ := trodAll_cons r0
  obtain ⟨v2, vs2, d2, ds2, p2, q2, ha2, rfl, rfl, h2, r2⟩ := trodAll_cons r1
  obtain ⟨_, rfl, _⟩ := trodAll_nil r2
  have hval' : ∀ (j : Nat) t v, ([22, 23, 23] : List TypeId)[j]? = some t → args.toList[j]? = some v → Value.okWide Try.prog W .any base t v := by
    intro j t v h1 h2
    refine hval j t v ?_ (by rw [← Array.getElem?_toList]; exact h2)
    rw [Try.params3, ← Array.getElem?_toList]; exact h1
  refine (calls_true (b := base) tks hA hval' Try.call3 fun avs σ h => law h).mono fun e W' ⟨he, hk⟩ => ?_
  subst he
  obtain ⟨rfl, rfl⟩ := trodVars_none hV
  exact ⟨_, rfl, post_of_kept (tb := 4) rfl rfl Try.underlying4 hW' rfl rfl rfl hk (by rw [Try.params3]; exact sps)⟩

theorem proved : Rows.TextTablesSaid :=
  OpenClaim.holds_of_wide 3 Try.f3 rfl rfl rfl rfl rfl rfl rfl ⟨rfl, rfl, rfl, rfl, rfl⟩ rfl rfl rfl rfl rfl (by kernel_rfl) Try.func3 (by kernel_rfl)
    (of_decide_eq_true (by kernel_rfl)) (by unfold Func.isWrapper; first | (rw [if_pos (by decide +kernel)]; kernel_rfl) | (rw [if_neg (by decide +kernel)]; exact ⟨rfl, rfl⟩))
    (fun os started H enc _ => lifted os started H enc)
end Go.Proofs.Ytfjbhgldbgamhaa.tablesLaw
#print axioms Go.Proofs.Ytfjbhgldbgamhaa.tablesLaw.proved
