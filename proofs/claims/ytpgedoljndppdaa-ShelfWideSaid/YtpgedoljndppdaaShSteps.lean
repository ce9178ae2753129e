/- The argument of ShelfSeeks: a slice of steps. -/
import Derived.Test.YtpgedoljndppdaaAISepTop
import Derived.Test.YtpgedoljndppdaaShWriteW
import Derived.Test.YtpgedoljndppdaaShForm5
set_option maxRecDepth 4000
set_option linter.unusedVariables false
set_option linter.unusedSimpArgs false
namespace Go.AI
open Go.Proofs
structure Stp where
  k : Int
  c : Int
  a : Int
  f : Int
def Stp.cells (t : Stp) : List Value := [i64 t.k, u32 t.c, i64 t.a, i64 t.f]
def Stp.ok (t : Stp) : Prop := (Lit.int .i64 t.k).wf = true ∧ (Lit.int .u32 t.c).wf = true ∧ (Lit.int .i64 t.a).wf = true ∧ (Lit.int .i64 t.f).wf = true
abbrev RStp {H : Type} : DataW H → AS → List Value → AS → Prop := RStruct [RInt .i64, RInt .u32, RInt .i64, RInt .i64]
theorem rstp {H : Type} {d : DataW H} {σ σ' : AS} {av : List Value} (h : RStp d σ av σ') : σ' = σ ∧ ∃ t : Stp, av = t.cells ∧ t.ok := by
  obtain ⟨parts, avs, rfl, ht, rfl⟩ := h
  rcases ht with _ | ⟨h0, ht⟩
  rcases ht with _ | ⟨h1, ht⟩
  rcases ht with _ | ⟨h2, ht⟩
  rcases ht with _ | ⟨h3, ht⟩
  cases ht
  obtain ⟨k, rfl, w0, rfl, rfl⟩ := h0
  obtain ⟨c, rfl, w1, rfl, rfl⟩ := h1
  obtain ⟨a, rfl, w2, rfl, rfl⟩ := h2
  obtain ⟨f, rfl, w3, rfl, rfl⟩ := h3
  exact ⟨rfl, ⟨k, c, a, f⟩, rfl, w0, w1, w2, w3⟩
theorem thr_stps {H : Type} {ds : List (DataW H)} {σ σ' : AS} {avs : List (List Value)} (h : Thr RStp ds σ avs σ') : σ' = σ ∧ ∃ l : List Stp, l.length = ds.length ∧ avs = l.map Stp.cells ∧ ∀ t ∈ l, t.ok := by
  induction h with
  | nil => exact ⟨rfl, [], rfl, rfl, by simp⟩
  | cons h _ ih =>
    obtain ⟨rfl, t, rfl, hw⟩ := rstp h
    obtain ⟨rfl, l, h1, rfl, h2⟩ := ih
    refine ⟨rfl, t :: l, by simp [h1], rfl, fun c hc => ?_⟩
    rcases List.mem_cons.1 hc with rfl | hc
    · exact hw
    · exact h2 c hc
theorem slice_stps {H : Type} {d : DataW H} {σ σ' : AS} {av : List Value} (h : RSlice 4 RStp d σ av σ') {L : List (Nat × AObj)} (HL : Has σ L) :
    ∃ (a : Option Addr) (l : List Stp) (fr : List (Nat × AObj)), av = [.slice a l.length 4] ∧ (∀ t ∈ l, t.ok) ∧ Has σ' (fr ++ L) ∧ (l = [] ∨ ∃ r, a = some ⟨r, 0, none⟩ ∧ fr = [(r, .row .ro (l.map Stp.cells).flatten)]) := by
  rcases h with ⟨_, rfl, rfl⟩ | ⟨_, _, rfl, rfl⟩ | ⟨elems, spare, avs, σ1, _, hne, _, ht, rfl, rfl⟩
  · exact ⟨none, [], [], rfl, by simp, HL, .inl rfl⟩
  · exact ⟨_, [], [(σ.n, .dead)], rfl, by simp, HL.new _, .inl rfl⟩
  · obtain ⟨rfl, l, h1, rfl, h2⟩ := thr_stps ht
    exact ⟨_, l, [(σ1.n, .row .ro (l.map Stp.cells).flatten)], by rw [h1], h2, HL.new _, .inr ⟨_, rfl, rfl⟩⟩
/-- The cells of a step. -/
theorem stp_cells : ∀ {l : List Stp} {i : Nat} {t : Stp}, l[i]? = some t → (((l.map Stp.cells).flatten).drop (i * 4)).take 4 = t.cells ∧ i * 4 + 4 ≤ ((l.map Stp.cells).flatten).length
  | [], i, t, h => by simp at h
  | u :: r, 0, t, h => by
    simp at h
    subst h
    simp [Stp.cells]
  | u :: r, i + 1, t, h => by
    obtain ⟨h1, h2⟩ := stp_cells (l := r) (i := i) (by simpa using h)
    have e : (i + 1) * 4 = u.cells.length + i * 4 := by simp [Stp.cells]; omega
    constructor
    · rw [List.map_cons, List.flatten_cons, e, List.drop_append, List.drop_eq_nil_of_le (by omega), Nat.add_sub_cancel_left, List.nil_append]
      exact h1
    · rw [List.map_cons, List.flatten_cons, List.length_append]
      simp only [Stp.cells, List.length_cons, List.length_nil] at *
      omega
end Go.AI
