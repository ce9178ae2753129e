/- Lemmas of the abstract condition ahead of code (a part of the library that the claim's proof stands on); they hold with no condition but those that each names. -/
import Derived.Test.YtpgedoljndppdaaAIHints
import Derived.Test.YtpgedoljndppdaaAITop2
import Derived.Test.YtpgedoljndppdaaRows
import Derived.JoinedCond
import Derived.WalkKit
import Derived.ProofKit
import Derived.OpenShut
set_option linter.unusedSimpArgs false
set_option linter.unusedVariables false
namespace Go.Proofs.Ytpgedoljndppdaa.nilLaw
open Go.AI Go.ChangeShapes Go.WideShapes Go.ChangeAt Go.RowKit
set_option maxRecDepth 1000000

def E0 : Ct := fun _ _ _ _ => False
def actV (kind n a mode : Int) (name : ByteArray) (b l : Option Addr) (bn ln : Nat) (w near : Bool) : Value :=
  .agg ⟨[.int .i64 kind, .string name, .slice b bn 1, .slice l ln 1, .int .i64 n, .int .i64 a, .int .i64 mode, .bool w, .bool near]⟩
theorem run0 (kind n a mode : Int) (name : ByteArray) (b l : Option Addr) (bn ln : Nat) (w near : Bool) :
    callN Try.prog hints E0 50 8 [actV kind n a mode name b l bn ln w near] AS.nil (fun v _ => v = .bool true) = (Value.bool true = .bool true) := by
  kernel_rfl
theorem run1 (kind n a mode : Int) (name : ByteArray) (b l : Option Addr) (bn ln : Nat) (w near : Bool) (o : AObj) :
    callN Try.prog hints E0 50 8 [actV kind n a mode name b l bn ln w near] (AS.nil.set AS.nil.n o) (fun v _ => v = .bool true) = (Value.bool true = .bool true) := by
  kernel_rfl
theorem run2 (kind n a mode : Int) (name : ByteArray) (b l : Option Addr) (bn ln : Nat) (w near : Bool) (o o' : AObj) :
    callN Try.prog hints E0 50 8 [actV kind n a mode name b l bn ln w near] ((AS.nil.set AS.nil.n o).set (AS.nil.set AS.nil.n o).n o') (fun v _ => v = .bool true) = (Value.bool true = .bool true) := by
  kernel_rfl

theorem mix : Try.prog.follows .mixedOrders = true := Try.checked.mixed
theorem noGo0 : noGo Try.prog = true := by kernel_rfl
theorem tri0 {args : List Value} {σ : AS} {K : Value → AS → Prop} (h : callN Try.prog hints E0 50 8 args σ K) : Tri Try.prog 8 args σ K :=
  callN_sound (fun _ _ _ _ h => h.elim) mix noGo0 50 8 args σ K h

abbrev Rs {H : Type} : List (DataW H → AS → List Value → AS → Prop) := [RStruct [RInt .i64, RStr, RSlice 1 (RInt .u8), RSlice 1 (RInt .u32), RInt .i64, RInt .i64, RInt .i64, RBool, RBool]]

theorem thr_int {H : Type} {k : IntKind} {l : List (DataW H)} {σ σ' : AS} {avs : List (List Value)} (h : Thr (RInt k) l σ avs σ') : σ' = σ := by
  induction h with
  | nil => rfl
  | cons h _ ih =>
    obtain ⟨_, _, _, _, rfl⟩ := h
    exact ih

/-- A slice of numbers: no new object, or one. -/
theorem slice_cases {H : Type} {k : IntKind} {d : DataW H} {σ σ' : AS} {av : List Value} (h : RSlice 1 (RInt k) d σ av σ') : ∃ a n, av = [.slice a n 1] ∧ (σ' = σ ∨ ∃ o, σ' = σ.set σ.n o) := by
  rcases h with ⟨_, rfl, rfl⟩ | ⟨_, _, rfl, rfl⟩ | ⟨_, _, avs, σ1, _, _, _, ht, rfl, rfl⟩
  · exact ⟨_, _, rfl, .inl rfl⟩
  · exact ⟨_, _, rfl, .inr ⟨_, rfl⟩⟩
  · rw [thr_int ht]
    exact ⟨_, _, rfl, .inr ⟨_, rfl⟩⟩

theorem law {H : Type} {ds : List (DataW H)} {avs : List (List Value)} {σ : AS} (h : ThrH Rs ds AS.nil avs σ) : Tri Try.prog 8 (argVals Try.prog [61] avs) σ fun v _ => v = .bool true := by
  cases h with
  | cons h hs =>
    cases hs
    obtain ⟨parts, avs, rfl, ht, rfl⟩ := h
    rcases ht with _ | ⟨h0, ht⟩
    rcases ht with _ | ⟨h1, ht⟩
    rcases ht with _ | ⟨h2, ht⟩
    rcases ht with _ | ⟨h3, ht⟩
    rcases ht with _ | ⟨h4, ht⟩
    rcases ht with _ | ⟨h5, ht⟩
    rcases ht with _ | ⟨h6, ht⟩
    rcases ht with _ | ⟨h7, ht⟩
    rcases ht with _ | ⟨h8, ht⟩
    cases ht
    obtain ⟨kind, rfl, _, rfl, rfl⟩ := h0
    obtain ⟨name, rfl, _, rfl, rfl⟩ := h1
    obtain ⟨b, bn, rfl, hb⟩ := slice_cases h2
    obtain ⟨l, ln, rfl, hl⟩ := slice_cases h3
    obtain ⟨n, rfl, _, rfl, rfl⟩ := h4
    obtain ⟨a, rfl, _, rfl, rfl⟩ := h5
    obtain ⟨mode, rfl, _, rfl, rfl⟩ := h6
    obtain ⟨w, rfl, rfl, rfl⟩ := h7
    obtain ⟨near, rfl, rfl, rfl⟩ := h8
    have e : argVals Try.prog [61] [([[Value.int .i64 kind], [.string name], [.slice b bn 1], [.slice l ln 1], [.int .i64 n], [.int .i64 a], [.int .i64 mode], [.bool w], [.bool near]] : List (List Value)).flatten] = [actV kind n a mode name b l bn ln w near] := by kernel_rfl
    rw [e]
    rcases hb with rfl | ⟨o, rfl⟩
    · rcases hl with rfl | ⟨o', rfl⟩
      · exact tri0 ((run0 ..).mpr rfl)
      · exact tri0 ((run1 ..).mpr rfl)
    · rcases hl with rfl | ⟨o', rfl⟩
      · exact tri0 ((run1 ..).mpr rfl)
      · exact tri0 ((run2 ..).mpr rfl)

theorem own : ownKnob Try.prog.godebug = none := by kernel_rfl
section
variable {H : Type} {enc : TypeId × Value → H} {W : World}
theorem tks : L2 (fun R t => TK enc Try.prog W t R) (Rs (H := H)) [61] :=
  .cons (tk_struct Try.underlying61 (by kernel_rfl) (.cons (tk_int Try.underlying3) (.cons (tk_str Try.underlying9) (.cons (tk_slice Try.underlying52 (by kernel_rfl) (tk_int Try.underlying5))
    (.cons (tk_slice Try.underlying23 (by kernel_rfl) (tk_int Try.underlying32)) (.cons (tk_int Try.underlying3) (.cons (tk_int Try.underlying3) (.cons (tk_int Try.underlying3) (.cons (tk_bool Try.underlying4) (.cons (tk_bool Try.underlying4) .nil)))))))))) .nil
theorem sps : ∀ t ∈ ([61] : List TypeId), SP enc Try.prog W t := by
  intro t ht
  obtain rfl : t = 61 := by simpa using ht
  refine sp_struct Try.underlying61 fun f hf => ?_
  simp only [List.mem_cons, List.not_mem_nil, or_false] at hf
  rcases hf with rfl | rfl | rfl | rfl | rfl | rfl | rfl | rfl | rfl
  · exact sp_int Try.underlying3
  · exact sp_str Try.underlying9
  · exact sp_slice Try.underlying52 (by kernel_rfl) (sp_int Try.underlying5)
  · exact sp_slice Try.underlying23 (by kernel_rfl) (sp_int Try.underlying32)
  · exact sp_int Try.underlying3
  · exact sp_int Try.underlying3
  · exact sp_int Try.underlying3
  · exact sp_bool Try.underlying4
  · exact sp_bool Try.underlying4
end

theorem lifted (os : Os) (started : os.Started) (H : Type) (enc : TypeId × Value → H) :
    ReturnsInHanded {} Try.checked os 8 .any (Rows.shelfNilSpec.pre6 enc Try.prog Try.f8 Rows.shelfNilRow.domain false) (Rows.shelfNilSpec.post enc Try.prog Try.f8 false true false false) := by
  refine returnsInHanded_of_change own started (by kernel_rfl) Try.func8
    (ChangeSpec.witness6 false ⟨#[], #[.agg #[.int .i64 0, .string ⟨#[]⟩, .slice none 0 0, .slice none 0 0, .int .i64 0, .int .i64 0, .int .i64 0, .bool false, .bool false]], []⟩ 8 (by kernel_rfl) (by kernel_rfl) (by kernel_rfl) (by kernel_rfl)) ?_
  intro W base args ds gs before hval hW _ _
  have hW' := hW
  obtain ⟨p, q, hA, hV, rfl, hfz, hnd⟩ := hW
  rw [Try.params8] at hA
  have hA2 : DataW.TrodAll enc Try.prog W 0 (fun _ => true) true ([61] : List TypeId) args.toList ds p := hA
  obtain ⟨v0, vs0, d0, ds0, p0, q0, hargs, rfl, rfl, h0, r0⟩ := trodAll_cons hA2
  obtain ⟨_, rfl, _⟩ := trodAll_nil r0
  have hval' : ∀ (j : Nat) t v, ([61] : List TypeId)[j]? = some t → args.toList[j]? = some v → Value.okWide Try.prog W .any base t v := by
    intro j t v h1 h2
    refine hval j t v ?_ (by rw [← Array.getElem?_toList]; exact h2)
    rw [Try.params8, ← Array.getElem?_toList]; exact h1
  refine (calls_true (b := base) tks hA hval' Try.call8 fun avs σ h => law h).mono fun e W' ⟨he, hk⟩ => ?_
  subst he
  obtain ⟨rfl, rfl⟩ := trodVars_none hV
  exact ⟨_, rfl, post_of_kept (tb := 4) rfl rfl Try.underlying4 hW' rfl rfl rfl hk (by rw [Try.params8]; exact sps)⟩

theorem proved : Rows.ShelfNilSaid :=
  OpenClaim.holds_of_wide 8 Try.f8 rfl rfl rfl rfl rfl rfl rfl ⟨rfl, rfl, rfl, rfl, rfl⟩ rfl rfl rfl rfl rfl (by kernel_rfl) Try.func8 (by kernel_rfl)
    (of_decide_eq_true (by kernel_rfl)) (by unfold Func.isWrapper; first | (rw [if_pos (by decide +kernel)]; kernel_rfl) | (rw [if_neg (by decide +kernel)]; exact ⟨rfl, rfl⟩))
    (fun os started H enc _ => lifted os started H enc)
end Go.Proofs.Ytpgedoljndppdaa.nilLaw
#print axioms Go.Proofs.Ytpgedoljndppdaa.nilLaw.proved
