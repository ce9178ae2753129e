/- TextPieces holds for every input: a text's characters are those of its pieces; no condition. -/
import Derived.Test.YtfjbhgldbgamhaaTxPieces
import Derived.Test.YtfjbhgldbgamhaaAISepTop
import Derived.Test.YtfjbhgldbgamhaaRows
import Derived.JoinedCond
import Derived.WalkKit
import Derived.ProofKit
import Derived.OpenShut
import Derived.SizedLaws
set_option linter.unusedSimpArgs false
set_option linter.unusedVariables false
namespace Go.Proofs.Ytfjbhgldbgamhaa.piecesLaw
open Go.AI Go.ChangeShapes Go.WideShapes Go.ChangeAt Go.RowKit
set_option maxRecDepth 1000000
abbrev Rs {H : Type} : List (DataW H → AS → List Value → AS → Prop) := [RSlice 1 (RInt .u8), RInt .u32, RInt .u32, RInt .i64, RInt .i64]
theorem slice_len {H : Type} {k : IntKind} {d : DataW H} {σ σ' : AS} {a : Option Addr} {n B : Nat} (h : RSlice 1 (RInt k) d σ [.slice a n 1] σ') (hB : ∀ elems spare, d = .slice elems spare → elems.length ≤ B) : n ≤ B := by
  rcases h with ⟨_, h, _⟩ | ⟨_, _, h, _⟩ | ⟨elems, spare, avs, σ1, hd, _, hl, _, h, _⟩
  · injection h with h; injection h with _ h; omega
  · injection h with h; injection h with _ h; omega
  · have := hB _ _ hd
    injection h with h; injection h with _ h; omega
theorem law {H : Type} {ds : List (DataW H)} {avs : List (List Value)} {σ : AS} (h : ThrH Rs ds AS.nil avs σ) (hB : ∀ (j : Nat) elems spare, ds[j]? = some (.slice elems spare) → j = 0 → elems.length ≤ 140737488355328) : Tri Try.prog 6 (argVals Try.prog [25, 22, 22, 3, 3] avs) σ fun v _ => v = .bool true := by
  cases h with
  | cons h hs =>
    cases hs with
    | cons h2 hs =>
      cases hs with
      | cons h3 hs =>
        cases hs with
        | cons h4 hs =>
          cases hs with
          | cons h5 hs =>
            cases hs
            obtain ⟨a, l, fr, rfl, hw, H1, hin⟩ := slice_ints h (Has.nil _)
            obtain ⟨t, rfl, hwt, rfl, rfl⟩ := h2
            obtain ⟨x, rfl, hwx, rfl, rfl⟩ := h3
            obtain ⟨mo, rfl, hwm, rfl, rfl⟩ := h4
            obtain ⟨mr, rfl, hwr, rfl, rfl⟩ := h5
            have e : argVals Try.prog [25, 22, 22, 3, 3] [[Value.slice a l.length 1], [.int .u32 t], [.int .u32 x], [.int .i64 mo], [.int .i64 mr]] = [.slice a l.length 1, .int .u32 t, .int .u32 x, .int .i64 mo, .int .i64 mr] := by kernel_rfl
            rw [e]
            have l1 := slice_len h (B := 140737488355328) fun elems spare e => hB 0 elems spare (by rw [e]; rfl) rfl
            have ht := wf_u32 hwt
            have hx := wf_u32 hwx
            refine pieces_law H1 ?_ (fun c hc => by have := wf_u8 (hw c hc); omega) (by omega) ht.1 hx.1 hx.2
            rcases hin with h | ⟨r, h1, h2⟩
            · exact .inl h
            · exact .inr ⟨r, .ro, h1, by rw [h2]; simp⟩
theorem own : ownKnob Try.prog.godebug = none := by kernel_rfl
section
variable {H : Type} {enc : TypeId × Value → H} {W : World}
theorem tks : L2 (fun R t => TK enc Try.prog W t R) (Rs (H := H)) [25, 22, 22, 3, 3] :=
  .cons (tk_slice Try.underlying25 (by kernel_rfl) (tk_int Try.underlying5)) (.cons (tk_int Try.underlying22) (.cons (tk_int Try.underlying22) (.cons (tk_int Try.underlying3) (.cons (tk_int Try.underlying3) .nil))))
theorem sps : ∀ t ∈ ([25, 22, 22, 3, 3] : List TypeId), SP enc Try.prog W t := by
  intro t ht
  simp only [List.mem_cons, List.not_mem_nil, or_false] at ht
  rcases ht with rfl | rfl | rfl | rfl | rfl
  · exact sp_slice Try.underlying25 (by kernel_rfl) (sp_int Try.underlying5)
  · exact sp_int Try.underlying22
  · exact sp_int Try.underlying22
  · exact sp_int Try.underlying3
  · exact sp_int Try.underlying3
end

theorem lifted (os : Os) (started : os.Started) (H : Type) (enc : TypeId × Value → H) :
    ReturnsInHanded {} Try.checked os 6 .any (Rows.textPiecesSpec.pre6 enc Try.prog Try.f6 Rows.textPiecesRow.domain false) (Rows.textPiecesSpec.post enc Try.prog Try.f6 false true false false) := by
  refine returnsInHanded_of_change_sized own started (by kernel_rfl) Try.func6
    (ChangeSpec.witness6 false ⟨#[], #[.slice none 0 0, .int .u32 0, .int .u32 0, .int .i64 0, .int .i64 0], []⟩ 8 (by kernel_rfl) (by kernel_rfl) (by kernel_rfl) (by kernel_rfl)) ?_
  intro W base args ds gs before hval hW _ hsz _
  have hW' := hW
  obtain ⟨p, q, hA, hV, rfl, hfz, hnd⟩ := hW
  rw [Try.params6] at hA
  have hA2 : DataW.TrodAll enc Try.prog W 0 (fun _ => true) true ([25, 22, 22, 3, 3] : List TypeId) args.toList ds p := hA
  obtain ⟨v0, vs0, d0, ds0, p0, q0, ha0, rfl, rfl, h0, r0⟩ := trodAll_cons hA2
  obtain ⟨v1, vs1, d1, ds1, p1, q1, ha1, rfl, rfl, h1, r1⟩ := trodAll_cons r0
  obtain ⟨v2, vs2, d2, ds2, p2, q2, ha2, rfl, rfl, h2, r2⟩ := trodAll_cons r1
  obtain ⟨v3, vs3, d3, ds3, p3, q3, ha3, rfl, rfl, h3, r3⟩ := trodAll_cons r2
  obtain ⟨v4, vs4, d4, ds4, p4, q4, ha4, rfl, rfl, h4, r4⟩ := trodAll_cons r3
  obtain ⟨_, rfl, _⟩ := trodAll_nil r4
  have hb5 : Try.checked.prog.bytesOf 5 = 1 := by kernel_rfl
  have hB : ∀ (j : Nat) elems spare, [d0, d1, d2, d3, d4][j]? = some (.slice elems spare) → j = 0 → elems.length ≤ 140737488355328 := by
    intro j elems spare hj h02
    have hlt : j < 5 := by omega
    have h := sized_slice hsz (j := j) (t := 25) (e := 5) (elems := elems) (spare := spare) (by rw [Try.params6]; subst h02; rfl) (by rw [List.getElem?_append_left (by simpa using hlt)]; exact hj) Try.underlying25
    rw [hb5] at h
    have hr : reachBytes ≤ 140737488355328 := by decide
    omega
  have hval' : ∀ (j : Nat) t v, ([25, 22, 22, 3, 3] : List TypeId)[j]? = some t → args.toList[j]? = some v → Value.okWide Try.prog W .any base t v := by
    intro j t v h1 h2
    refine hval j t v ?_ (by rw [← Array.getElem?_toList]; exact h2)
    rw [Try.params6, ← Array.getElem?_toList]; exact h1
  refine (calls_true (b := base) tks hA hval' Try.call6 fun avs σ h => law h hB).mono fun e W' ⟨he, hk⟩ => ?_
  subst he
  obtain ⟨rfl, rfl⟩ := trodVars_none hV
  exact ⟨_, rfl, post_of_kept (tb := 4) rfl rfl Try.underlying4 hW' rfl rfl rfl hk (by rw [Try.params6]; exact sps)⟩

theorem proved : Rows.TextPiecesSaid :=
  OpenClaim.holds_of_wide 6 Try.f6 rfl rfl rfl rfl rfl rfl rfl ⟨rfl, rfl, rfl, rfl, rfl⟩ rfl rfl rfl rfl rfl (by kernel_rfl) Try.func6 (by kernel_rfl)
    (of_decide_eq_true (by kernel_rfl)) (by unfold Func.isWrapper; first | (rw [if_pos (by decide +kernel)]; kernel_rfl) | (rw [if_neg (by decide +kernel)]; exact ⟨rfl, rfl⟩))
    (fun os started H enc _ => lifted os started H enc)
end Go.Proofs.Ytfjbhgldbgamhaa.piecesLaw
#print axioms Go.Proofs.Ytfjbhgldbgamhaa.piecesLaw.proved
