/- PaneNil holds for every input: all calls on a nil tree answer as the chapter says, and the page's example is as told; no condition. -/
import Derived.Test.YtcjicaolgjialaaPaHints
import Derived.Test.YtcjicaolgjialaaAITop2
import Derived.Test.YtcjicaolgjialaaRows
import Derived.JoinedCond
import Derived.WalkKit
import Derived.ProofKit
import Derived.OpenShut
set_option linter.unusedSimpArgs false
set_option linter.unusedVariables false
namespace Go.Proofs.Ytcjicaolgjialaa.nilLaw
open Go.AI Go.ChangeShapes Go.WideShapes Go.ChangeAt Go.RowKit
set_option maxRecDepth 1000000

def E0 : Ct := fun _ _ _ _ => False
theorem run0 (x1 x2 x3 x4 x5 : Int) (b1 : Bool) :
    callN Try.prog hints E0 50 12 [.agg ⟨[.int .i64 x1, .int .i64 x2, .int .i64 x3, .int .i64 x4, .int .u32 x5, .bool b1]⟩] AS.nil (fun v _ => v = .bool true) =
    (Value.int Go.IntKind.i64 (x2) = Value.int Go.IntKind.i64 (x2) ∧ (Value.int Go.IntKind.i64 (x2) = Value.int Go.IntKind.i64 (x2) ∧ (Value.int Go.IntKind.i64 (x2) = Value.int Go.IntKind.i64 (x2) ∧ (Value.int Go.IntKind.i64 (0) = Value.int Go.IntKind.i64 (0) ∧ (Value.int Go.IntKind.i64 (0) = Value.int Go.IntKind.i64 (0) ∧ (Value.int Go.IntKind.i64 (x2) = Value.int Go.IntKind.i64 (x2) ∧ (Value.int Go.IntKind.i64 (x2) = Value.int Go.IntKind.i64 (x2) ∧ (Value.int Go.IntKind.i64 (x2) = Value.int Go.IntKind.i64 (x2) ∧ (Value.int Go.IntKind.i64 (0) = Value.int Go.IntKind.i64 (0) ∧ (Value.int Go.IntKind.i64 (0) = Value.int Go.IntKind.i64 (0) ∧ (Value.int Go.IntKind.i64 (0) = Value.int Go.IntKind.i64 (0) ∧ (Value.int Go.IntKind.i64 (x2) = Value.int Go.IntKind.i64 (x2) ∧ (Value.int Go.IntKind.i64 (x2) = Value.int Go.IntKind.i64 (x2) ∧ (Value.int Go.IntKind.i64 (0) = Value.int Go.IntKind.i64 (0) ∧ (Value.int Go.IntKind.i64 (0) = Value.int Go.IntKind.i64 (0) ∧ (Value.int Go.IntKind.i64 (0) = Value.int Go.IntKind.i64 (0) ∧ (Value.int Go.IntKind.i64 (x2) = Value.int Go.IntKind.i64 (x2) ∧ (Value.int Go.IntKind.i64 (0) = Value.int Go.IntKind.i64 (0) ∧ (Value.int Go.IntKind.i64 (0) = Value.int Go.IntKind.i64 (0) ∧ ((((0 : Int) == x2) = Bool.true → (Value.int Go.IntKind.i64 (0) = Value.int Go.IntKind.i64 (0) ∧ (Value.int Go.IntKind.i64 (0) = Value.int Go.IntKind.i64 (0) ∧ (Value.int Go.IntKind.i64 (0) = Value.int Go.IntKind.i64 (0) ∧ (((Bool.true) = Bool.true → ((Value.bool Bool.true = Value.bool Bool.true ∧ Value.bool Bool.true = Value.bool Bool.true) ∧ ((Value.bool Bool.true = Value.bool Bool.true ∧ Value.bool Bool.true = Value.bool Bool.true) ∧ (Value.bool Bool.true = Value.bool Bool.true ∧ Value.bool Bool.true = Value.bool Bool.true)))) ∧ ((Bool.true) = Bool.false → ((False ∧ False) ∧ ((False ∧ False) ∧ (False ∧ False))))))))) ∧ (((0 : Int) == x2) = Bool.false → (Value.int Go.IntKind.i64 (0) = Value.int Go.IntKind.i64 (0) ∧ (Value.int Go.IntKind.i64 (0) = Value.int Go.IntKind.i64 (0) ∧ (Value.int Go.IntKind.i64 (0) = Value.int Go.IntKind.i64 (0) ∧ (((Bool.true) = Bool.true → ((Value.bool Bool.true = Value.bool Bool.true ∧ Value.bool Bool.true = Value.bool Bool.true) ∧ ((Value.bool Bool.true = Value.bool Bool.true ∧ Value.bool Bool.true = Value.bool Bool.true) ∧ (Value.bool Bool.true = Value.bool Bool.true ∧ Value.bool Bool.true = Value.bool Bool.true)))) ∧ ((Bool.true) = Bool.false → ((False ∧ False) ∧ ((False ∧ False) ∧ (False ∧ False))))))))))))))))))))))))))))) := by
  kernel_rfl
theorem run1 (x1 x2 x3 x4 x5 : Int) (b1 : Bool) :
    callN Try.prog hints E0 50 12 [.agg ⟨[.int .i64 x1, .int .i64 x2, .int .i64 x3, .int .i64 x4, .int .u32 x5, .bool b1]⟩] AS.nil (fun v _ => v = .bool true) := by
  rw [run0]
  simp
theorem mix : Try.prog.follows .mixedOrders = true := Try.checked.mixed
theorem noGo0 : noGo Try.prog = true := by kernel_rfl
theorem tri0 {args : List Value} {σ : AS} {K : Value → AS → Prop} (h : callN Try.prog hints E0 50 12 args σ K) : Tri Try.prog 12 args σ K :=
  callN_sound (fun _ _ _ _ h => h.elim) mix noGo0 50 12 args σ K h

abbrev Rs {H : Type} : List (DataW H → AS → List Value → AS → Prop) := [RStruct [RInt .i64, RInt .i64, RInt .i64, RInt .i64, RInt .u32, RBool]]

theorem law {H : Type} {ds : List (DataW H)} {avs : List (List Value)} {σ : AS} (h : ThrH Rs ds AS.nil avs σ) : Tri Try.prog 12 (argVals Try.prog [26] avs) σ fun v _ => v = .bool true := by
  cases h with
  | cons h hs =>
    cases hs
    obtain ⟨parts, avs, rfl, ht, rfl⟩ := h
    rcases ht with _ | ⟨h0, ht⟩
    rcases ht with _ | ⟨h1, ht⟩
    rcases ht with _ | ⟨h2, ht⟩
    rcases ht with _ | ⟨h3, ht⟩
    rcases ht with _ | ⟨h4, ht⟩
    rcases ht with _ | ⟨h5, ht⟩
    cases ht
    obtain ⟨x1, rfl, _, rfl, rfl⟩ := h0
    obtain ⟨x2, rfl, _, rfl, rfl⟩ := h1
    obtain ⟨x3, rfl, _, rfl, rfl⟩ := h2
    obtain ⟨x4, rfl, _, rfl, rfl⟩ := h3
    obtain ⟨x5, rfl, _, rfl, rfl⟩ := h4
    obtain ⟨b1, rfl, rfl, rfl⟩ := h5
    have e : argVals Try.prog [26] [([[Value.int .i64 x1], [.int .i64 x2], [.int .i64 x3], [.int .i64 x4], [.int .u32 x5], [.bool b1]] : List (List Value)).flatten] = [.agg ⟨[.int .i64 x1, .int .i64 x2, .int .i64 x3, .int .i64 x4, .int .u32 x5, .bool b1]⟩] := by kernel_rfl
    rw [e]
    exact tri0 (run1 ..)

theorem own : ownKnob Try.prog.godebug = none := by kernel_rfl
section
variable {H : Type} {enc : TypeId × Value → H} {W : World}
theorem tks : L2 (fun R t => TK enc Try.prog W t R) (Rs (H := H)) [26] :=
  .cons (tk_struct Try.underlying26 (by kernel_rfl) (.cons (tk_int Try.underlying3) (.cons (tk_int Try.underlying3) (.cons (tk_int Try.underlying3) (.cons (tk_int Try.underlying3) (.cons (tk_int Try.underlying24) (.cons (tk_bool Try.underlying4) .nil))))))) .nil
theorem sps : ∀ t ∈ ([26] : List TypeId), SP enc Try.prog W t := by
  intro t ht
  obtain rfl : t = 26 := by simpa using ht
  refine sp_struct Try.underlying26 fun f hf => ?_
  simp only [List.mem_cons, List.not_mem_nil, or_false] at hf
  rcases hf with rfl | rfl | rfl | rfl | rfl | rfl
  · exact sp_int Try.underlying3
  · exact sp_int Try.underlying3
  · exact sp_int Try.underlying3
  · exact sp_int Try.underlying3
  · exact sp_int Try.underlying24
  · exact sp_bool Try.underlying4
end

theorem lifted (os : Os) (started : os.Started) (H : Type) (enc : TypeId × Value → H) :
    ReturnsInHanded {} Try.checked os 12 .any (Rows.paneNilSpec.pre6 enc Try.prog Try.f12 Rows.paneNilRow.domain false) (Rows.paneNilSpec.post enc Try.prog Try.f12 false true false false) := by
  refine returnsInHanded_of_change own started (by kernel_rfl) Try.func12
    (ChangeSpec.witness6 false ⟨#[], #[.agg #[.int .i64 0, .int .i64 0, .int .i64 0, .int .i64 0, .int .u32 0, .bool false]], []⟩ 8 (by kernel_rfl) (by kernel_rfl) (by kernel_rfl) (by kernel_rfl)) ?_
  intro W base args ds gs before hval hW _ _
  have hW' := hW
  obtain ⟨p, q, hA, hV, rfl, hfz, hnd⟩ := hW
  rw [Try.params12] at hA
  have hA2 : DataW.TrodAll enc Try.prog W 0 (fun _ => true) true ([26] : List TypeId) args.toList ds p := hA
  obtain ⟨v0, vs0, d0, ds0, p0, q0, hargs, rfl, rfl, h0, r0⟩ := trodAll_cons hA2
  obtain ⟨_, rfl, _⟩ := trodAll_nil r0
  have hval' : ∀ (j : Nat) t v, ([26] : List TypeId)[j]? = some t → args.toList[j]? = some v → Value.okWide Try.prog W .any base t v := by
    intro j t v h1 h2
    refine hval j t v ?_ (by rw [← Array.getElem?_toList]; exact h2)
    rw [Try.params12, ← Array.getElem?_toList]; exact h1
  refine (calls_true (b := base) tks hA hval' Try.call12 fun avs σ h => law h).mono fun e W' ⟨he, hk⟩ => ?_
  subst he
  obtain ⟨rfl, rfl⟩ := trodVars_none hV
  exact ⟨_, rfl, post_of_kept (tb := 4) rfl rfl Try.underlying4 hW' rfl rfl rfl hk (by rw [Try.params12]; exact sps)⟩

theorem proved : Rows.PaneNilSaid :=
  OpenClaim.holds_of_wide 12 Try.f12 rfl rfl rfl rfl rfl rfl rfl ⟨rfl, rfl, rfl, rfl, rfl⟩ rfl rfl rfl rfl rfl (by kernel_rfl) Try.func12 (by kernel_rfl)
    (of_decide_eq_true (by kernel_rfl)) (by unfold Func.isWrapper; first | (rw [if_pos (by decide +kernel)]; kernel_rfl) | (rw [if_neg (by decide +kernel)]; exact ⟨rfl, rfl⟩))
    (fun os started H enc _ => lifted os started H enc)
end Go.Proofs.Ytcjicaolgjialaa.nilLaw
#print axioms Go.Proofs.Ytcjicaolgjialaa.nilLaw.proved
