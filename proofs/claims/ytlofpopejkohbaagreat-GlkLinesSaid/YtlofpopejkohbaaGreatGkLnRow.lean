/- GlkLines holds for every input: lines come where they were asked for, no longer than that; no condition. -/
import Derived.Test.YtlofpopejkohbaaGreatGyLo
import Derived.Test.YtlofpopejkohbaaGreatAISepTop
import Derived.Test.YtlofpopejkohbaaGreatRows
import Derived.JoinedCond
import Derived.WalkKit
import Derived.ProofKit
import Derived.OpenShut
import Derived.SizedLaws
set_option linter.unusedSimpArgs false
set_option linter.unusedVariables false
set_option maxRecDepth 1000000
namespace Go.AI
open Go.Proofs Go.ChangeShapes Go.WideShapes Go.ChangeAt Go.RowKit
abbrev RIn {H : Type} : DataW H → AS → List Value → AS → Prop := RStruct [RBool, RSlice 1 (RInt .u32)]
section
variable {H : Type} {enc : TypeId × Value → H} {W : World}
theorem tk_in : TK enc Tryz.prog W 70 (RIn (H := H)) := tk_struct Tryz.underlying70 (by kernel_rfl) (.cons (tk_bool Tryz.underlying4) (.cons (tk_slice Tryz.underlying22 (by kernel_rfl) (tk_int Tryz.underlying32)) .nil))
theorem tk_ins : TK enc Tryz.prog W 62 (RSlice 2 (RIn (H := H))) := tk_slice Tryz.underlying62 (by kernel_rfl) tk_in
theorem sp_ins : SP enc Tryz.prog W 62 := by
  refine sp_slice Tryz.underlying62 (by kernel_rfl) (sp_struct Tryz.underlying70 fun f hf => ?_)
  simp only [List.mem_cons, List.not_mem_nil, or_false] at hf
  rcases hf with rfl | rfl
  · exact sp_bool Tryz.underlying4
  · exact sp_slice Tryz.underlying22 (by kernel_rfl) (sp_int Tryz.underlying32)
end
section
variable {H : Type}
/-- A text is no longer than memory. -/
def DOk (d : DataW H) : Prop := ∀ parts, d = .agg parts → ∀ elems spare, parts[1]? = some (.slice elems spare) → elems.length ≤ 140737488355328
theorem slice_len1 {k : IntKind} {d : DataW H} {σ σ' : AS} {a : Option Addr} {n B : Nat} (h : RSlice 1 (RInt k) d σ [.slice a n 1] σ') (hB : ∀ elems spare, d = .slice elems spare → elems.length ≤ B) : n ≤ B := by
  rcases h with ⟨_, h, _⟩ | ⟨_, _, h, _⟩ | ⟨elems, spare, avs, σ1, hd, _, hl, _, h, _⟩
  · injection h with h; injection h with _ h; omega
  · injection h with h; injection h with _ h; omega
  · have := hB _ _ hd
    injection h with h; injection h with _ h; omega
def InOk (p : Bool × Option Addr × List Int) (L : List (Nat × AObj)) : Prop := Inp u32 p.2.1 p.2.2 L ∧ p.2.2.length ≤ 140737488355328 ∧ ∀ x ∈ p.2.2, 0 ≤ x ∧ x ≤ 4294967295
theorem InOk.mono {p : Bool × Option Addr × List Int} {L M : List (Nat × AObj)} (h : InOk p L) (hs : ∀ q ∈ L, q ∈ M) : InOk p M := ⟨h.1.mono hs, h.2⟩
theorem one_in {d : DataW H} {σ σ' : AS} {av : List Value} (h : RIn d σ av σ') (hd : DOk d) {L : List (Nat × AObj)} (HL : Has σ L) :
    ∃ (p : Bool × Option Addr × List Int) (fr : List (Nat × AObj)), av = [.bool p.1, .slice p.2.1 p.2.2.length 1] ∧ Has σ' (fr ++ L) ∧ InOk p (fr ++ L) := by
  obtain ⟨parts, avs, rfl, ht, rfl⟩ := h
  rcases ht with _ | ⟨h0, ht⟩
  rcases ht with _ | ⟨h1, ht⟩
  cases ht
  obtain ⟨b, rfl, rfl, rfl⟩ := h0
  obtain ⟨a, l, f, rfl, g, H2, i2⟩ := slice_ints h1 HL
  refine ⟨(b, a, l), f, rfl, H2, ?_, ?_, fun c hc => wf_u32 (g c hc)⟩
  · rcases i2 with h | ⟨r, q1, q2⟩
    · exact .inl h
    · exact .inr ⟨r, .ro, q1, by rw [q2]; simp⟩
  · exact slice_len1 h1 fun elems spare e => hd _ rfl elems spare (by rw [e]; rfl)
theorem thr_ins {ds : List (DataW H)} {σ σ' : AS} {avs : List (List Value)} (h : Thr RIn ds σ avs σ') : (∀ d ∈ ds, DOk d) → ∀ {L : List (Nat × AObj)}, Has σ L →
    ∃ (l : Ins) (fr : List (Nat × AObj)), l.length = ds.length ∧ avs.flatten = inCells l ∧ Has σ' (fr ++ L) ∧ ∀ q ∈ l, InOk q (fr ++ L) := by
  induction h with
  | nil => intro _ L HL; exact ⟨[], [], rfl, rfl, HL, by simp⟩
  | cons h _ ih =>
    intro hd L HL
    obtain ⟨q, f1, rfl, H1, q1⟩ := one_in h (hd _ (by simp)) HL
    obtain ⟨l, f2, e1, e2, H2, q2⟩ := ih (fun d hd' => hd d (by simp [hd'])) H1
    refine ⟨q :: l, f2 ++ f1, by simp [e1], ?_, by rw [List.append_assoc]; exact H2, fun r hr => ?_⟩
    · rw [List.flatten_cons, e2]; rfl
    rcases List.mem_cons.1 hr with rfl | hr
    · exact q1.mono fun p hp => by rw [List.append_assoc]; exact List.mem_append_right _ hp
    · rw [List.append_assoc]; exact q2 r hr
theorem slice_ins {d : DataW H} {σ σ' : AS} {av : List Value} (h : RSlice 2 RIn d σ av σ') (hd : ∀ elems spare, d = .slice elems spare → ∀ e ∈ elems, DOk e) {L : List (Nat × AObj)} (HL : Has σ L) :
    ∃ (a : Option Addr) (l : Ins) (fr : List (Nat × AObj)), av = [.slice a l.length 2] ∧ Has σ' (fr ++ L) ∧ (l = [] ∨ ∃ r k, a = some ⟨r, 0, none⟩ ∧ (r, AObj.row k (inCells l)) ∈ fr ++ L) ∧ ∀ q ∈ l, InOk q (fr ++ L) := by
  rcases h with ⟨_, rfl, rfl⟩ | ⟨_, _, rfl, rfl⟩ | ⟨elems, spare, avs, σ1, rfl, hne, _, ht, rfl, rfl⟩
  · exact ⟨none, [], [], rfl, HL, .inl rfl, by simp⟩
  · exact ⟨_, [], [(σ.n, .dead)], rfl, HL.new _, .inl rfl, by simp⟩
  · obtain ⟨l, fr, h1, h3, H1, h2⟩ := thr_ins ht (hd _ _ rfl) HL
    rw [h3]
    exact ⟨_, l, (σ1.n, .row .ro (inCells l)) :: fr, by rw [h1], H1.new _, .inr ⟨_, .ro, rfl, by simp⟩, fun q hq => (h2 q hq).mono fun p hp => by rw [List.cons_append]; exact List.mem_cons_of_mem _ hp⟩
theorem mem_weightsAll {P : Program} {e : TypeId} : ∀ {l : List (DataW H)} {d : DataW H}, d ∈ l → ∀ n ∈ d.weights P e, n ∈ DataW.weightsAll P e l
  | c :: l, d, h, n, hn => by
    simp only [DataW.weightsAll, List.mem_append]
    rcases List.mem_cons.1 h with rfl | h
    · exact .inl hn
    · exact .inr (mem_weightsAll h n hn)
theorem dok_of {d : DataW H} (h : ∀ n ∈ d.weights Tryz.prog 70, n ≤ reachBytes) : DOk d := by
  rintro parts rfl elems spare hp
  have hw : (DataW.agg parts : DataW H).weights Tryz.prog 70 = DataW.weightsEach Tryz.prog [4, 22] parts := by
    simp [DataW.weights, Tryz.underlying70]
  rw [hw] at h
  have hr : reachBytes ≤ 140737488355328 := by decide
  have b32 : Tryz.prog.bytesOf 32 = 4 := by kernel_rfl
  have := h _ (DataW.weights_mem_each (P := Tryz.prog) (ts := [4, 22]) (j := 1) (t := 22) rfl hp ((elems.length + spare.length) * Tryz.prog.bytesOf 32) (by simp [DataW.weights, Tryz.underlying22]))
  rw [b32] at this
  omega
theorem doks_of {ts : List TypeId} {ds : List (DataW H)} (h : (DataW.weightsEach Tryz.prog ts ds).all (· ≤ reachBytes) = true) {j : Nat} {elems spare : List (DataW H)} (ht : ts[j]? = some 62) (hd : ds[j]? = some (.slice elems spare)) : ∀ e ∈ elems, DOk e := by
  intro e he
  refine dok_of fun n hn => ?_
  have h1 : n ∈ (DataW.slice elems spare : DataW H).weights Tryz.prog 62 := by
    simp only [DataW.weights, Tryz.underlying62, List.mem_cons, List.mem_append]
    exact .inr (.inl (mem_weightsAll he n hn))
  have := List.all_eq_true.1 h _ (DataW.weights_mem_each ht hd n h1)
  simpa using this
end
end Go.AI
namespace Go.Proofs.YtlofpopejkohbaaGreat.linesLaw
open Go.AI Go.ChangeShapes Go.WideShapes Go.ChangeAt Go.RowKit
abbrev Rs {H : Type} : List (DataW H → AS → List Value → AS → Prop) := [RSlice 2 RIn, RInt .u8]
theorem law {H : Type} {ds : List (DataW H)} {avs : List (List Value)} {σ : AS} (h : ThrH Rs ds AS.nil avs σ) (hB : ∀ elems spare, ds[0]? = some (.slice elems spare) → ∀ e ∈ elems, DOk e) : Tri Tryz.prog 7 (argVals Tryz.prog [62, 5] avs) σ fun v _ => v = .bool true := by
  rcases h with _ | ⟨h1, h⟩
  rcases h with _ | ⟨h2, h⟩
  cases h
  obtain ⟨a, l, fr, rfl, H1, hin, ho⟩ := slice_ins h1 (fun elems spare e => hB elems spare (by rw [e]; rfl)) (Has.nil _)
  obtain ⟨p, rfl, hp, rfl, rfl⟩ := h2
  have hp := wf_u8 hp
  obtain ⟨most, rfl⟩ : ∃ n : Nat, p = n := ⟨p.toNat, by omega⟩
  have e : argVals Tryz.prog [62, 5] [[Value.slice a l.length 2], [.int .u8 (most : Int)]] = [.slice a l.length 2, .int .u8 most] := by kernel_rfl
  rw [e]
  exact ln_law H1 hin (fun q hq => (ho q hq).1) (fun q hq => (ho q hq).2.1) (fun q hq => (ho q hq).2.2) (by omega)
theorem own : ownKnob Tryz.prog.godebug = none := by kernel_rfl
section
variable {H : Type} {enc : TypeId × Value → H} {W : World}
theorem tks : L2 (fun R t => TK enc Tryz.prog W t R) (Rs (H := H)) [62, 5] :=
  .cons tk_ins (.cons (tk_int Tryz.underlying5) .nil)
theorem sps : ∀ t ∈ ([62, 5] : List TypeId), SP enc Tryz.prog W t := by
  intro t ht
  simp only [List.mem_cons, List.not_mem_nil, or_false] at ht
  rcases ht with rfl | rfl
  · exact sp_ins
  · exact sp_int Tryz.underlying5
end

theorem lifted (os : Os) (started : os.Started) (H : Type) (enc : TypeId × Value → H) :
    ReturnsInHanded {} Tryz.checked os 7 .any (Rows.glkLinesSpec.pre6 enc Tryz.prog Tryz.f7 Rows.glkLinesRow.domain false) (Rows.glkLinesSpec.post enc Tryz.prog Tryz.f7 false true false false) := by
  refine returnsInHanded_of_change_sized own started (by kernel_rfl) Tryz.func7
    (ChangeSpec.witness6 false ⟨#[], #[.slice none 0 0, .int .u8 0], []⟩ 8 (by kernel_rfl) (by kernel_rfl) (by kernel_rfl) (by kernel_rfl)) ?_
  intro W base args ds gs before hval hW _ hsz _
  have hW' := hW
  obtain ⟨p, q, hA, hV, rfl, hfz, hnd⟩ := hW
  rw [Tryz.params7] at hA
  have hA2 : DataW.TrodAll enc Tryz.prog W 0 (fun _ => true) true ([62, 5] : List TypeId) args.toList ds p := hA
  obtain ⟨v0, vs0, d0, ds0, p0, q0, ha0, rfl, rfl, h0, r0⟩ := trodAll_cons hA2
  obtain ⟨v1, vs1, d1, ds1, p1, q1, ha1, rfl, rfl, h1, r1⟩ := trodAll_cons r0
  obtain ⟨_, rfl, _⟩ := trodAll_nil r1
  have hB : ∀ elems spare, [d0, d1][0]? = some (.slice elems spare) → ∀ e ∈ elems, DOk e := fun elems spare hd =>
    doks_of hsz (j := 0) (by rw [Tryz.params7]; rfl) (by rw [List.getElem?_append_left (by simp)]; exact hd)
  have hval' : ∀ (j : Nat) t v, ([62, 5] : List TypeId)[j]? = some t → args.toList[j]? = some v → Value.okWide Tryz.prog W .any base t v := by
    intro j t v h1 h2
    refine hval j t v ?_ (by rw [← Array.getElem?_toList]; exact h2)
    rw [Tryz.params7, ← Array.getElem?_toList]; exact h1
  refine (calls_true (b := base) tks hA hval' Tryz.call7 fun avs σ h => law h hB).mono fun e W' ⟨he, hk⟩ => ?_
  subst he
  obtain ⟨rfl, rfl⟩ := trodVars_none hV
  exact ⟨_, rfl, post_of_kept (tb := 4) rfl rfl Tryz.underlying4 hW' rfl rfl rfl hk (by rw [Tryz.params7]; exact sps)⟩

theorem proved : Rows.GlkLinesSaid :=
  OpenClaim.holds_of_wide 7 Tryz.f7 rfl rfl rfl rfl rfl rfl rfl ⟨rfl, rfl, rfl, rfl, rfl⟩ rfl rfl rfl rfl rfl (by kernel_rfl) Tryz.func7 (by kernel_rfl)
    (of_decide_eq_true (by kernel_rfl)) (by unfold Func.isWrapper; first | (rw [if_pos (by decide +kernel)]; kernel_rfl) | (rw [if_neg (by decide +kernel)]; exact ⟨rfl, rfl⟩))
    (fun os started H enc _ => lifted os started H enc)
end Go.Proofs.YtlofpopejkohbaaGreat.linesLaw
#print axioms Go.Proofs.YtlofpopejkohbaaGreat.linesLaw.proved
