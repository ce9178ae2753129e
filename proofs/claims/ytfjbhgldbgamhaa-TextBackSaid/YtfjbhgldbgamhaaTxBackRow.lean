/- TextBack holds for every input: what is packed is read as it was; no condition. -/
import Derived.Test.YtfjbhgldbgamhaaTxBackLaw
import Derived.Test.YtfjbhgldbgamhaaAISepTop
import Derived.Test.YtfjbhgldbgamhaaRows
import Derived.JoinedCond
import Derived.WalkKit
import Derived.ProofKit
import Derived.OpenShut
import Derived.SizedLaws
set_option linter.unusedSimpArgs false
set_option linter.unusedVariables false
namespace Go.Proofs.Ytfjbhgldbgamhaa.backLaw
open Go.AI Go.ChangeShapes Go.WideShapes Go.ChangeAt Go.RowKit
set_option maxRecDepth 1000000
abbrev Rs {H : Type} : List (DataW H → AS → List Value → AS → Prop) := [RSlice 1 (RInt .u8), RSlice 1 (RInt .u32), RSlice 1 (RInt .u8), RSlice 1 (RInt .u32), RSlice 1 (RInt .u8)]
theorem slice_len {H : Type} {k : IntKind} {d : DataW H} {σ σ' : AS} {a : Option Addr} {n B : Nat} (h : RSlice 1 (RInt k) d σ [.slice a n 1] σ') (hB : ∀ elems spare, d = .slice elems spare → elems.length ≤ B) : n ≤ B := by
  rcases h with ⟨_, h, _⟩ | ⟨_, _, h, _⟩ | ⟨elems, spare, avs, σ1, hd, _, hl, _, h, _⟩
  · injection h with h; injection h with _ h; omega
  · injection h with h; injection h with _ h; omega
  · have := hB _ _ hd
    injection h with h; injection h with _ h; omega
theorem law {H : Type} {ds : List (DataW H)} {avs : List (List Value)} {σ : AS} (h : ThrH Rs ds AS.nil avs σ) (hB : ∀ (j : Nat) elems spare, ds[j]? = some (.slice elems spare) → j = 0 ∨ j = 2 ∨ j = 4 → elems.length ≤ 140737488355328) : Tri Try.prog 4 (argVals Try.prog [25, 23, 25, 23, 25] avs) σ fun v _ => v = .bool true := by
  cases h with
  | cons h hs =>
    cases hs with
    | cons h2 hs =>
      cases hs with
      | cons h3 hs =>
        cases hs with
        | cons h4 hs =>
        cases hs with
        | cons h5 hs =>
        cases hs
        obtain ⟨a, l, fr, rfl, hw, H1, hin⟩ := slice_ints h (Has.nil _)
        obtain ⟨b, ms, fr2, rfl, hw2, H2, hin2⟩ := slice_ints h2 H1
        obtain ⟨c, hs, fr3, rfl, hw3, H3, hin3⟩ := slice_ints h3 H2
        obtain ⟨d, ls, fr4, rfl, hw4, H4, hin4⟩ := slice_ints h4 H3
        obtain ⟨e0, es, fr5, rfl, hw5, H5, hin5⟩ := slice_ints h5 H4
        have e : argVals Try.prog [25, 23, 25, 23, 25] [[Value.slice a l.length 1], [.slice b ms.length 1], [.slice c hs.length 1], [.slice d ls.length 1], [.slice e0 es.length 1]] = [.slice a l.length 1, .slice b ms.length 1, .slice c hs.length 1, .slice d ls.length 1, .slice e0 es.length 1] := by kernel_rfl
        rw [e]
        have l1 := slice_len h (B := 140737488355328) fun elems spare e => hB 0 elems spare (by rw [e]; rfl) (.inl rfl)
        have l3 := slice_len h3 (B := 140737488355328) fun elems spare e => hB 2 elems spare (by rw [e]; rfl) (.inr (.inl rfl))
        have l5 := slice_len h5 (B := 140737488355328) fun elems spare e => hB 4 elems spare (by rw [e]; rfl) (.inr (.inr rfl))
        refine back_law H5 ?_ ?_ ?_ ?_ ?_ (fun c hc => wf_u32 (hw2 c hc)) (fun c hc => by have := wf_u8 (hw c hc); omega) (fun c hc => by have := wf_u8 (hw3 c hc); omega) (fun c hc => by have := wf_u8 (hw5 c hc); omega) l1 l3 l5
        · rcases hin with h | ⟨r, h1, h2⟩
          · exact .inl h
          · exact .inr ⟨r, .ro, h1, by rw [h2]; simp⟩
        · rcases hin2 with h | ⟨r, h1, h2⟩
          · exact .inl h
          · exact .inr ⟨r, .ro, h1, by rw [h2]; simp⟩
        · rcases hin3 with h | ⟨r, h1, h2⟩
          · exact .inl h
          · exact .inr ⟨r, .ro, h1, by rw [h2]; simp⟩
        · rcases hin4 with h | ⟨r, h1, h2⟩
          · exact .inl h
          · exact .inr ⟨r, .ro, h1, by rw [h2]; simp⟩
        · rcases hin5 with h | ⟨r, h1, h2⟩
          · exact .inl h
          · exact .inr ⟨r, .ro, h1, by rw [h2]; simp⟩
theorem own : ownKnob Try.prog.godebug = none := by kernel_rfl
section
variable {H : Type} {enc : TypeId × Value → H} {W : World}
theorem tks : L2 (fun R t => TK enc Try.prog W t R) (Rs (H := H)) [25, 23, 25, 23, 25] :=
  .cons (tk_slice Try.underlying25 (by kernel_rfl) (tk_int Try.underlying5)) (.cons (tk_slice Try.underlying23 (by kernel_rfl) (tk_int Try.underlying22)) (.cons (tk_slice Try.underlying25 (by kernel_rfl) (tk_int Try.underlying5)) (.cons (tk_slice Try.underlying23 (by kernel_rfl) (tk_int Try.underlying22)) (.cons (tk_slice Try.underlying25 (by kernel_rfl) (tk_int Try.underlying5)) .nil))))
theorem sps : ∀ t ∈ ([25, 23, 25, 23, 25] : List TypeId), SP enc Try.prog W t := by
  intro t ht
  simp only [List.mem_cons, List.not_mem_nil, or_false] at ht
  rcases ht with rfl | rfl | rfl | rfl | rfl
  · exact sp_slice Try.underlying25 (by kernel_rfl) (sp_int Try.underlying5)
  · exact sp_slice Try.underlying23 (by kernel_rfl) (sp_int Try.underlying22)
  · exact sp_slice Try.underlying25 (by kernel_rfl) (sp_int Try.underlying5)
  · exact sp_slice Try.underlying23 (by kernel_rfl) (sp_int Try.underlying22)
  · exact sp_slice Try.underlying25 (by kernel_rfl) (sp_int Try.underlying5)
end

theorem lifted (os : Os) (started : os.Started) (H : Type) (enc : TypeId × Value → H) :
    ReturnsInHanded {} Try.checked os 4 .any (Rows.textBackSpec.pre6 enc Try.prog Try.f4 Rows.textBackRow.domain false) (Rows.textBackSpec.post enc Try.prog Try.f4 false true false false) := by
  refine returnsInHanded_of_change_sized own started (by kernel_rfl) Try.func4
    (ChangeSpec.witness6 false ⟨#[], #[.slice none 0 0, .slice none 0 0, .slice none 0 0, .slice none 0 0, .slice none 0 0], []⟩ 8 (by kernel_rfl) (by kernel_rfl) (by kernel_rfl) (by kernel_rfl)) ?_
  intro W base args ds gs before hval hW _ hsz _
  have hW' := hW
  obtain ⟨p, q, hA, hV, rfl, hfz, hnd⟩ := hW
  rw [Try.params4] at hA
  have hA2 : DataW.TrodAll enc Try.prog W 0 (fun _ => true) true ([25, 23, 25, 23, 25] : List TypeId) args.toList ds p := hA
  obtain ⟨v0, vs0, d0, ds0, p0, q0, ha0, rfl, rfl, h0, r0⟩ := trodAll_cons hA2
  obtain ⟨v1, vs1, d1, ds1, p1, q1, ha1, rfl, rfl, h1, r1⟩ := trodAll_cons r0
  obtain ⟨v2, vs2, d2, ds2, p2, q2, ha2, rfl, rfl, h2, r2⟩ := trodAll_cons r1
  obtain ⟨v3, vs3, d3, ds3, p3, q3, ha3, rfl, rfl, h3, r3⟩ := trodAll_cons r2
  obtain ⟨v4, vs4, d4, ds4, p4, q4, ha4, rfl, rfl, h4, r4⟩ := trodAll_cons r3
  obtain ⟨_, rfl, _⟩ := trodAll_nil r4
  have hb5 : Try.checked.prog.bytesOf 5 = 1 := by kernel_rfl
  have hB : ∀ (j : Nat) elems spare, [d0, d1, d2, d3, d4][j]? = some (.slice elems spare) → j = 0 ∨ j = 2 ∨ j = 4 → elems.length ≤ 140737488355328 := by
    intro j elems spare hj h02
    have hlt : j < 5 := by omega
    have h := sized_slice hsz (j := j) (t := 25) (e := 5) (elems := elems) (spare := spare) (by rw [Try.params4]; rcases h02 with rfl | rfl | rfl <;> rfl) (by rw [List.getElem?_append_left (by simpa using hlt)]; exact hj) Try.underlying25
    rw [hb5] at h
    have hr : reachBytes ≤ 140737488355328 := by decide
    omega
  have hval' : ∀ (j : Nat) t v, ([25, 23, 25, 23, 25] : List TypeId)[j]? = some t → args.toList[j]? = some v → Value.okWide Try.prog W .any base t v := by
    intro j t v h1 h2
    refine hval j t v ?_ (by rw [← Array.getElem?_toList]; exact h2)
    rw [Try.params4, ← Array.getElem?_toList]; exact h1
  refine (calls_true (b := base) tks hA hval' Try.call4 fun avs σ h => law h hB).mono fun e W' ⟨he, hk⟩ => ?_
  subst he
  obtain ⟨rfl, rfl⟩ := trodVars_none hV
  exact ⟨_, rfl, post_of_kept (tb := 4) rfl rfl Try.underlying4 hW' rfl rfl rfl hk (by rw [Try.params4]; exact sps)⟩

theorem proved : Rows.TextBackSaid :=
  OpenClaim.holds_of_wide 4 Try.f4 rfl rfl rfl rfl rfl rfl rfl ⟨rfl, rfl, rfl, rfl, rfl⟩ rfl rfl rfl rfl rfl (by kernel_rfl) Try.func4 (by kernel_rfl)
    (of_decide_eq_true (by kernel_rfl)) (by unfold Func.isWrapper; first | (rw [if_pos (by decide +kernel)]; kernel_rfl) | (rw [if_neg (by decide +kernel)]; exact ⟨rfl, rfl⟩))
    (fun os started H enc _ => lifted os started H enc)
end Go.Proofs.Ytfjbhgldbgamhaa.backLaw
#print axioms Go.Proofs.Ytfjbhgldbgamhaa.backLaw.proved
