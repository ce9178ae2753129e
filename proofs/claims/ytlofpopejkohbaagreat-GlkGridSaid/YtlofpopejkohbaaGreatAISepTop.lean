/- Lemmas of the abstract condition ahead of code (a part of the library that the claim's proof stands on); they hold with no condition but those that each names. -/
import Derived.Test.YtlofpopejkohbaaGreatAISep
import Derived.Test.YtlofpopejkohbaaGreatAITop2
set_option linter.unusedVariables false
set_option linter.unusedSimpArgs false
/- Arguments that are slices of numbers, as objects that are known. -/
namespace Go.AI
theorem thr_ints {H : Type} {k : IntKind} {ds : List (DataW H)} {σ σ' : AS} {avs : List (List Value)} (h : Thr (RInt k) ds σ avs σ') :
    σ' = σ ∧ ∃ l : List Int, l.length = ds.length ∧ avs = l.map (fun c => [.int k c]) ∧ ∀ c ∈ l, (Lit.int k c).wf = true := by
  induction h with
  | nil => exact ⟨rfl, [], rfl, rfl, by simp⟩
  | cons h _ ih =>
    obtain ⟨n, rfl, hw, rfl, rfl⟩ := h
    obtain ⟨rfl, l, h1, rfl, h2⟩ := ih
    refine ⟨rfl, n :: l, by simp [h1], rfl, fun c hc => ?_⟩
    rcases List.mem_cons.1 hc with rfl | hc
    · exact hw
    · exact h2 c hc
theorem flat_ints (k : IntKind) : ∀ l : List Int, (l.map fun c => [Value.int k c]).flatten = l.map (.int k)
  | [] => rfl
  | c :: l => by simp [flat_ints k l]
theorem slice_ints {H : Type} {k : IntKind} {d : DataW H} {σ σ' : AS} {av : List Value} (h : RSlice 1 (RInt k) d σ av σ') {L : List (Nat × AObj)} (HL : Has σ L) :
    ∃ (a : Option Addr) (l : List Int) (fr : List (Nat × AObj)), av = [.slice a l.length 1] ∧ (∀ c ∈ l, (Lit.int k c).wf = true) ∧ Has σ' (fr ++ L) ∧ (l = [] ∨ ∃ r, a = some ⟨r, 0, none⟩ ∧ fr = [(r, .row .ro (l.map (.int k)))]) := by
  rcases h with ⟨_, rfl, rfl⟩ | ⟨_, _, rfl, rfl⟩ | ⟨elems, spare, avs, σ1, _, hne, _, ht, rfl, rfl⟩
  · exact ⟨none, [], [], rfl, by simp, HL, .inl rfl⟩
  · exact ⟨_, [], [(σ.n, .dead)], rfl, by simp, HL.new _, .inl rfl⟩
  · obtain ⟨rfl, l, h1, rfl, h2⟩ := thr_ints ht
    rw [flat_ints]
    exact ⟨_, l, [(σ1.n, .row .ro (l.map (.int k)))], by rw [h1], h2, HL.new _, .inr ⟨_, rfl, rfl⟩⟩
theorem wf_u32 {c : Int} (h : (Lit.int .u32 c).wf = true) : 0 ≤ c ∧ c ≤ 4294967295 := by simpa [Lit.wf, IntKind.min, IntKind.max, IntKind.signed, IntKind.bits] using h
theorem wf_u8 {c : Int} (h : (Lit.int .u8 c).wf = true) : 0 ≤ c ∧ c ≤ 255 := by simpa [Lit.wf, IntKind.min, IntKind.max, IntKind.signed, IntKind.bits] using h
end Go.AI
