/- ShelfApart holds for every input: what is done with one file has no part in another one; no condition. -/
import Derived.Test.YtpgedoljndppdaaGreatSfLaw2
import Derived.Test.YtpgedoljndppdaaGreatSzLaw
set_option linter.unusedSimpArgs false
set_option linter.unusedVariables false
namespace Go.Proofs.YtpgedoljndppdaaGreat.apartLaw
open Go.AI Go.ChangeShapes Go.WideShapes Go.ChangeAt Go.RowKit
set_option maxRecDepth 1000000
abbrev Rs {H : Type} : List (DataW H → AS → List Value → AS → Prop) := [RSlice 9 RAct, RStr, RSlice 1 (RInt .u8)]
theorem law {H : Type} {ds : List (DataW H)} {avs : List (List Value)} {σ : AS} (h : ThrH Rs ds AS.nil avs σ) (hB : ∀ elems spare, ds[0]? = some (.slice elems spare) → ∀ e ∈ elems, DOk e) (hS : ∀ bytes, ds[1]? = some (.lit (.string bytes)) → bytes.length ≤ 140737488355328)
    (hC : ∀ elems spare, ds[2]? = some (.slice elems spare) → elems.length ≤ 140737488355328) : Tri Tryz.prog 4 (argVals Tryz.prog [22, 9, 23] avs) σ fun v _ => v = .bool true := by
  rcases h with _ | ⟨h1, h⟩
  rcases h with _ | ⟨h2, h⟩
  rcases h with _ | ⟨h3, h⟩
  cases h
  obtain ⟨a, l, fr, rfl, H1, hin, ho⟩ := slice_acts h1 (fun elems spare e => hB elems spare (by rw [e]; rfl)) (Has.nil _)
  obtain ⟨x, rfl, _, rfl, rfl⟩ := h2
  obtain ⟨ba, b, f3, rfl, hw, H3, i3⟩ := slice_ints h3 H1
  obtain ⟨nm, rfl⟩ := bsV_ex x
  have e : argVals Tryz.prog [22, 9, 23] [[Value.slice a l.length 9], [.string (bsV nm)], [.slice ba b.length 1]] = [.slice a l.length 9, .string (bsV nm), .slice ba b.length 1] := by kernel_rfl
  rw [e]
  refine apart_law H3 (hin.mono fun p hp => List.mem_append_right _ hp) (fun r hr => (ho r hr).mono fun p hp => List.mem_append_right _ hp) ?_ (fun c hc => by have := wf_u8 (hw c hc); omega) (slice_len1 h3 fun elems spare e => hC elems spare (by rw [e]; rfl)) (hS _ rfl)
  rcases i3 with h | ⟨r, q1, q2⟩
  · exact .inl h
  · exact .inr ⟨r, .ro, q1, by rw [q2]; simp⟩
theorem own : ownKnob Tryz.prog.godebug = none := by kernel_rfl
section
variable {H : Type} {enc : TypeId × Value → H} {W : World}
theorem tks : L2 (fun R t => TK enc Tryz.prog W t R) (Rs (H := H)) [22, 9, 23] :=
  .cons tk_acts (.cons (tk_str Tryz.underlying9) (.cons (tk_slice Tryz.underlying23 (by kernel_rfl) (tk_int Tryz.underlying5)) .nil))
theorem sps : ∀ t ∈ ([22, 9, 23] : List TypeId), SP enc Tryz.prog W t := by
  intro t ht
  simp only [List.mem_cons, List.not_mem_nil, or_false] at ht
  rcases ht with rfl | rfl | rfl
  · exact sp_acts
  · exact sp_str Tryz.underlying9
  · exact sp_slice Tryz.underlying23 (by kernel_rfl) (sp_int Tryz.underlying5)
end

theorem lifted (os : Os) (started : os.Started) (H : Type) (enc : TypeId × Value → H) :
    ReturnsInHanded {} Tryz.checked os 4 .any (Rows.shelfApartSpec.pre6 enc Tryz.prog Tryz.f4 Rows.shelfApartRow.domain false) (Rows.shelfApartSpec.post enc Tryz.prog Tryz.f4 false true false false) := by
  refine returnsInHanded_of_change_sized own started (by kernel_rfl) Tryz.func4
    (ChangeSpec.witness6 false ⟨#[], #[.slice none 0 0, .string ⟨#[]⟩, .slice none 0 0], []⟩ 8 (by kernel_rfl) (by kernel_rfl) (by kernel_rfl) (by kernel_rfl)) ?_
  intro W base args ds gs before hval hW _ hsz _
  have hW' := hW
  obtain ⟨p, q, hA, hV, rfl, hfz, hnd⟩ := hW
  rw [Tryz.params4] at hA
  have hA2 : DataW.TrodAll enc Tryz.prog W 0 (fun _ => true) true ([22, 9, 23] : List TypeId) args.toList ds p := hA
  obtain ⟨v0, vs0, d0, ds0, p0, q0, ha0, rfl, rfl, h0, r0⟩ := trodAll_cons hA2
  obtain ⟨v1, vs1, d1, ds1, p1, q1, ha1, rfl, rfl, h1, r1⟩ := trodAll_cons r0
  obtain ⟨v2, vs2, d2, ds2, p2, q2, ha2, rfl, rfl, h2, r2⟩ := trodAll_cons r1
  obtain ⟨_, rfl, _⟩ := trodAll_nil r2
  have hr : reachBytes ≤ 140737488355328 := by decide
  have b5 : Tryz.checked.prog.bytesOf 5 = 1 := by kernel_rfl
  have hB : ∀ elems spare, [d0, d1, d2][0]? = some (.slice elems spare) → ∀ e ∈ elems, DOk e := fun elems spare hd =>
    doks_of hsz (j := 0) (by rw [Tryz.params4]; rfl) (by rw [List.getElem?_append_left (by simp)]; exact hd)
  have hS : ∀ bytes, [d0, d1, d2][1]? = some (.lit (.string bytes)) → bytes.length ≤ 140737488355328 := fun bytes hd => by
    have := sized_string hsz (j := 1) (t := 9) (by rw [Tryz.params4]; rfl) (by rw [List.getElem?_append_left (by simp)]; exact hd)
    omega
  have hC : ∀ elems spare, [d0, d1, d2][2]? = some (.slice elems spare) → elems.length ≤ 140737488355328 := fun elems spare hd => by
    have h := sized_slice hsz (j := 2) (t := 23) (e := 5) (by rw [Tryz.params4]; rfl) (by rw [List.getElem?_append_left (by simp)]; exact hd) Tryz.underlying23
    rw [b5] at h
    omega
  have hval' : ∀ (j : Nat) t v, ([22, 9, 23] : List TypeId)[j]? = some t → args.toList[j]? = some v → Value.okWide Tryz.prog W .any base t v := by
    intro j t v h1 h2
    refine hval j t v ?_ (by rw [← Array.getElem?_toList]; exact h2)
    rw [Tryz.params4, ← Array.getElem?_toList]; exact h1
  refine (calls_true (b := base) tks hA hval' Tryz.call4 fun avs σ h => law h hB hS hC).mono fun e W' ⟨he, hk⟩ => ?_
  subst he
  obtain ⟨rfl, rfl⟩ := trodVars_none hV
  exact ⟨_, rfl, post_of_kept (tb := 4) rfl rfl Tryz.underlying4 hW' rfl rfl rfl hk (by rw [Tryz.params4]; exact sps)⟩

theorem proved : Rows.ShelfApartSaid :=
  OpenClaim.holds_of_wide 4 Tryz.f4 rfl rfl rfl rfl rfl rfl rfl ⟨rfl, rfl, rfl, rfl, rfl⟩ rfl rfl rfl rfl rfl (by kernel_rfl) Tryz.func4 (by kernel_rfl)
    (of_decide_eq_true (by kernel_rfl)) (by unfold Func.isWrapper; first | (rw [if_pos (by decide +kernel)]; kernel_rfl) | (rw [if_neg (by decide +kernel)]; exact ⟨rfl, rfl⟩))
    (fun os started H enc _ => lifted os started H enc)
end Go.Proofs.YtpgedoljndppdaaGreat.apartLaw
#print axioms Go.Proofs.YtpgedoljndppdaaGreat.apartLaw.proved
