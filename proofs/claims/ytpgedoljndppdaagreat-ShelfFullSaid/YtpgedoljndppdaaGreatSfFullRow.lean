/- ShelfFull holds for every input: files have most bytes in all at the most; what is refused changes nothing; no condition. -/
import Derived.Test.YtpgedoljndppdaaGreatSfLaw1
import Derived.Test.YtpgedoljndppdaaGreatSzLaw
set_option linter.unusedSimpArgs false
set_option linter.unusedVariables false
namespace Go.Proofs.YtpgedoljndppdaaGreat.fullLaw
open Go.AI Go.ChangeShapes Go.WideShapes Go.ChangeAt Go.RowKit
set_option maxRecDepth 1000000
abbrev Rs {H : Type} : List (DataW H → AS → List Value → AS → Prop) := [RInt .i64, RSlice 9 RAct, RAct]
theorem law {H : Type} {ds : List (DataW H)} {avs : List (List Value)} {σ : AS} (h : ThrH Rs ds AS.nil avs σ) (hB : ∀ elems spare, ds[1]? = some (.slice elems spare) → ∀ e ∈ elems, DOk e) (hC : ∀ d, ds[2]? = some d → DOk d) : Tri Tryz.prog 3 (argVals Tryz.prog [3, 22, 26] avs) σ fun v _ => v = .bool true := by
  rcases h with _ | ⟨h1, h⟩
  rcases h with _ | ⟨h2, h⟩
  rcases h with _ | ⟨h3, h⟩
  cases h
  obtain ⟨p, rfl, hp, rfl, rfl⟩ := h1
  obtain ⟨a, l, fr, rfl, H1, hin, ho⟩ := slice_acts h2 (fun elems spare e => hB elems spare (by rw [e]; rfl)) (Has.nil _)
  obtain ⟨q, f2, rfl, H2, hq⟩ := one_act h3 (hC _ rfl) H1
  have e : argVals Tryz.prog [3, 22, 26] [[.int .i64 p], [Value.slice a l.length 9], q.cells] = [.int .i64 p, .slice a l.length 9, .agg ⟨q.cells⟩] := by kernel_rfl
  rw [e]
  exact full_law H2 (hin.mono fun p hp => List.mem_append_right _ hp) (fun r hr => (ho r hr).mono fun p hp => List.mem_append_right _ hp) hq
theorem own : ownKnob Tryz.prog.godebug = none := by kernel_rfl
section
variable {H : Type} {enc : TypeId × Value → H} {W : World}
theorem tks : L2 (fun R t => TK enc Tryz.prog W t R) (Rs (H := H)) [3, 22, 26] :=
  .cons (tk_int Tryz.underlying3) (.cons tk_acts (.cons tk_act .nil))
theorem sps : ∀ t ∈ ([3, 22, 26] : List TypeId), SP enc Tryz.prog W t := by
  intro t ht
  simp only [List.mem_cons, List.not_mem_nil, or_false] at ht
  rcases ht with rfl | rfl | rfl
  · exact sp_int Tryz.underlying3
  · exact sp_acts
  · exact sp_act
end

theorem lifted (os : Os) (started : os.Started) (H : Type) (enc : TypeId × Value → H) :
    ReturnsInHanded {} Tryz.checked os 3 .any (Rows.shelfFullSpec.pre6 enc Tryz.prog Tryz.f3 Rows.shelfFullRow.domain false) (Rows.shelfFullSpec.post enc Tryz.prog Tryz.f3 false true false false) := by
  refine returnsInHanded_of_change_sized own started (by kernel_rfl) Tryz.func3
    (ChangeSpec.witness6 false ⟨#[], #[.int .i64 0, .slice none 0 0, .agg #[.int .i64 0, .string ⟨#[]⟩, .slice none 0 0, .slice none 0 0, .int .i64 0, .int .i64 0, .int .i64 0, .bool false, .bool false]], []⟩ 8 (by kernel_rfl) (by kernel_rfl) (by kernel_rfl) (by kernel_rfl)) ?_
  intro W base args ds gs before hval hW _ hsz _
  have hW' := hW
  obtain ⟨p, q, hA, hV, rfl, hfz, hnd⟩ := hW
  rw [Tryz.params3] at hA
  have hA2 : DataW.TrodAll enc Tryz.prog W 0 (fun _ => true) true ([3, 22, 26] : List TypeId) args.toList ds p := hA
  obtain ⟨v0, vs0, d0, ds0, p0, q0, ha0, rfl, rfl, h0, r0⟩ := trodAll_cons hA2
  obtain ⟨v1, vs1, d1, ds1, p1, q1, ha1, rfl, rfl, h1, r1⟩ := trodAll_cons r0
  obtain ⟨v2, vs2, d2, ds2, p2, q2, ha2, rfl, rfl, h2, r2⟩ := trodAll_cons r1
  obtain ⟨_, rfl, _⟩ := trodAll_nil r2
  have hB : ∀ elems spare, [d0, d1, d2][1]? = some (.slice elems spare) → ∀ e ∈ elems, DOk e := fun elems spare hd =>
    doks_of hsz (j := 1) (by rw [Tryz.params3]; rfl) (by rw [List.getElem?_append_left (by simp)]; exact hd)
  have hC : ∀ d, [d0, d1, d2][2]? = some d → DOk d := fun d hd =>
    dok1_of hsz (j := 2) (by rw [Tryz.params3]; rfl) (by rw [List.getElem?_append_left (by simp)]; exact hd)
  have hval' : ∀ (j : Nat) t v, ([3, 22, 26] : List TypeId)[j]? = some t → args.toList[j]? = some v → Value.okWide Tryz.prog W .any base t v := by
    intro j t v h1 h2
    refine hval j t v ?_ (by rw [← Array.getElem?_toList]; exact h2)
    rw [Tryz.params3, ← Array.getElem?_toList]; exact h1
  refine (calls_true (b := base) tks hA hval' Tryz.call3 fun avs σ h => law h hB hC).mono fun e W' ⟨he, hk⟩ => ?_
  subst he
  obtain ⟨rfl, rfl⟩ := trodVars_none hV
  exact ⟨_, rfl, post_of_kept (tb := 4) rfl rfl Tryz.underlying4 hW' rfl rfl rfl hk (by rw [Tryz.params3]; exact sps)⟩

theorem proved : Rows.ShelfFullSaid :=
  OpenClaim.holds_of_wide 3 Tryz.f3 rfl rfl rfl rfl rfl rfl rfl ⟨rfl, rfl, rfl, rfl, rfl⟩ rfl rfl rfl rfl rfl (by kernel_rfl) Tryz.func3 (by kernel_rfl)
    (of_decide_eq_true (by kernel_rfl)) (by unfold Func.isWrapper; first | (rw [if_pos (by decide +kernel)]; kernel_rfl) | (rw [if_neg (by decide +kernel)]; exact ⟨rfl, rfl⟩))
    (fun os started H enc _ => lifted os started H enc)
end Go.Proofs.YtpgedoljndppdaaGreat.fullLaw
#print axioms Go.Proofs.YtpgedoljndppdaaGreat.fullLaw.proved
