/- GlkPrints holds for every input: what comes to a window is its text, and is told in turn; no condition. -/
import Derived.Test.YtlofpopejkohbaaGreatGyPr
import Derived.Test.YtlofpopejkohbaaGreatAISepTop
import Derived.Test.YtlofpopejkohbaaGreatRows
import Derived.JoinedCond
import Derived.WalkKit
import Derived.ProofKit
import Derived.OpenShut
set_option linter.unusedSimpArgs false
set_option linter.unusedVariables false
namespace Go.AI
theorem thr_bools {H : Type} {ds : List (DataW H)} {σ σ' : AS} {avs : List (List Value)} (h : Thr RBool ds σ avs σ') :
    σ' = σ ∧ ∃ l : List Bool, l.length = ds.length ∧ avs = l.map (fun c => [.bool c]) := by
  induction h with
  | nil => exact ⟨rfl, [], rfl, rfl⟩
  | cons h _ ih =>
    obtain ⟨n, rfl, rfl, rfl⟩ := h
    obtain ⟨rfl, l, h1, rfl⟩ := ih
    exact ⟨rfl, n :: l, by simp [h1], rfl⟩
theorem flat_bools : ∀ l : List Bool, (l.map fun c => [Value.bool c]).flatten = l.map .bool
  | [] => rfl
  | c :: l => by simp [flat_bools l]
theorem slice_bools {H : Type} {d : DataW H} {σ σ' : AS} {av : List Value} (h : RSlice 1 RBool d σ av σ') {L : List (Nat × AObj)} (HL : Has σ L) :
    ∃ (a : Option Addr) (l : List Bool) (fr : List (Nat × AObj)), av = [.slice a l.length 1] ∧ Has σ' (fr ++ L) ∧ (l = [] ∨ ∃ r, a = some ⟨r, 0, none⟩ ∧ fr = [(r, .row .ro (l.map .bool))]) := by
  rcases h with ⟨_, rfl, rfl⟩ | ⟨_, _, rfl, rfl⟩ | ⟨elems, spare, avs, σ1, _, hne, _, ht, rfl, rfl⟩
  · exact ⟨none, [], [], rfl, HL, .inl rfl⟩
  · exact ⟨_, [], [(σ.n, .dead)], rfl, HL.new _, .inl rfl⟩
  · obtain ⟨rfl, l, h1, rfl⟩ := thr_bools ht
    rw [flat_bools]
    exact ⟨_, l, [(σ1.n, .row .ro (l.map .bool))], by rw [h1], HL.new _, .inr ⟨_, rfl, rfl⟩⟩
end Go.AI
namespace Go.Proofs.YtlofpopejkohbaaGreat.printsLaw
open Go.AI Go.ChangeShapes Go.WideShapes Go.ChangeAt Go.RowKit
set_option maxRecDepth 1000000
abbrev Rs {H : Type} : List (DataW H → AS → List Value → AS → Prop) := [RSlice 1 (RInt .u32), RSlice 1 RBool]
theorem law {H : Type} {ds : List (DataW H)} {avs : List (List Value)} {σ : AS} (h : ThrH Rs ds AS.nil avs σ) : Tri Tryz.prog 3 (argVals Tryz.prog [22, 23] avs) σ fun v _ => v = .bool true := by
  cases h with
  | cons h hs =>
    cases hs with
    | cons h2 hs =>
      cases hs
      obtain ⟨a, l, fr, rfl, hw, H1, hin⟩ := slice_ints h (Has.nil _)
      obtain ⟨u, t, fr2, rfl, H2, hin2⟩ := slice_bools h2 H1
      have e : argVals Tryz.prog [22, 23] [[Value.slice a l.length 1], [.slice u t.length 1]] = [.slice a l.length 1, .slice u t.length 1] := by kernel_rfl
      rw [e]
      refine pr_law H2 ?_ ?_
      · rcases hin with h | ⟨r, h1, h2⟩
        · exact .inl h
        · exact .inr ⟨r, .ro, h1, by rw [h2]; simp⟩
      · rcases hin2 with h | ⟨r, h1, h2⟩
        · exact .inl h
        · exact .inr ⟨r, .ro, h1, by rw [h2]; simp⟩
theorem own : ownKnob Tryz.prog.godebug = none := by kernel_rfl
section
variable {H : Type} {enc : TypeId × Value → H} {W : World}
theorem tks : L2 (fun R t => TK enc Tryz.prog W t R) (Rs (H := H)) [22, 23] :=
  .cons (tk_slice Tryz.underlying22 (by kernel_rfl) (tk_int Tryz.underlying32)) (.cons (tk_slice Tryz.underlying23 (by kernel_rfl) (tk_bool Tryz.underlying4)) .nil)
theorem sps : ∀ t ∈ ([22, 23] : List TypeId), SP enc Tryz.prog W t := by
  intro t ht
  simp only [List.mem_cons, List.not_mem_nil, or_false] at ht
  rcases ht with rfl | rfl
  · exact sp_slice Tryz.underlying22 (by kernel_rfl) (sp_int Tryz.underlying32)
  · exact sp_slice Tryz.underlying23 (by kernel_rfl) (sp_bool Tryz.underlying4)
end

theorem lifted (os : Os) (started : os.Started) (H : Type) (enc : TypeId × Value → H) :
    ReturnsInHanded {} Tryz.checked os 3 .any (Rows.glkPrintsSpec.pre6 enc Tryz.prog Tryz.f3 Rows.glkPrintsRow.domain false) (Rows.glkPrintsSpec.post enc Tryz.prog Tryz.f3 false true false false) := by
  refine returnsInHanded_of_change own started (by kernel_rfl) Tryz.func3
    (ChangeSpec.witness6 false ⟨#[], #[.slice none 0 0, .slice none 0 0], []⟩ 8 (by kernel_rfl) (by kernel_rfl) (by kernel_rfl) (by kernel_rfl)) ?_
  intro W base args ds gs before hval hW _ _
  have hW' := hW
  obtain ⟨p, q, hA, hV, rfl, hfz, hnd⟩ := hW
  rw [Tryz.params3] at hA
  have hA2 : DataW.TrodAll enc Tryz.prog W 0 (fun _ => true) true ([22, 23] : List TypeId) args.toList ds p := hA
  obtain ⟨v0, vs0, d0, ds0, p0, q0, ha0, rfl, rfl, h0, r0⟩ := trodAll_cons hA2
  obtain ⟨v1, vs1, d1, ds1, p1, q1, ha1, rfl, rfl, h1, r1⟩ := trodAll_cons r0
  obtain ⟨_, rfl, _⟩ := trodAll_nil r1
  have hval' : ∀ (j : Nat) t v, ([22, 23] : List TypeId)[j]? = some t → args.toList[j]? = some v → Value.okWide Tryz.prog W .any base t v := by
    intro j t v h1 h2
    refine hval j t v ?_ (by rw [← Array.getElem?_toList]; exact h2)
    rw [Tryz.params3, ← Array.getElem?_toList]; exact h1
  refine (calls_true (b := base) tks hA hval' Tryz.call3 fun avs σ h => law h).mono fun e W' ⟨he, hk⟩ => ?_
  subst he
  obtain ⟨rfl, rfl⟩ := trodVars_none hV
  exact ⟨_, rfl, post_of_kept (tb := 4) rfl rfl Tryz.underlying4 hW' rfl rfl rfl hk (by rw [Tryz.params3]; exact sps)⟩

theorem proved : Rows.GlkPrintsSaid :=
  OpenClaim.holds_of_wide 3 Tryz.f3 rfl rfl rfl rfl rfl rfl rfl ⟨rfl, rfl, rfl, rfl, rfl⟩ rfl rfl rfl rfl rfl (by kernel_rfl) Tryz.func3 (by kernel_rfl)
    (of_decide_eq_true (by kernel_rfl)) (by unfold Func.isWrapper; first | (rw [if_pos (by decide +kernel)]; kernel_rfl) | (rw [if_neg (by decide +kernel)]; exact ⟨rfl, rfl⟩))
    (fun os started H enc _ => lifted os started H enc)
end Go.Proofs.YtlofpopejkohbaaGreat.printsLaw
#print axioms Go.Proofs.YtlofpopejkohbaaGreat.printsLaw.proved
