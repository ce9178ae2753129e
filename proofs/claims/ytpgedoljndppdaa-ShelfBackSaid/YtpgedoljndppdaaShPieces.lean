/- The argument of ShelfBack: a slice of slices of characters. -/
import Derived.Test.YtpgedoljndppdaaShGen2
set_option maxRecDepth 4000
set_option linter.unusedVariables false
set_option linter.unusedSimpArgs false
namespace Go.AI
open Go.Proofs
/-- A piece: its slice's place, its characters. -/
structure Pc where
  a : Option Addr
  l : List Int
def Pc.cell (p : Pc) : Value := .slice p.a p.l.length 1
def Pc.ok (p : Pc) : Prop := ∀ c ∈ p.l, 0 ≤ c ∧ c ≤ 4294967295
def Pc.inp (p : Pc) (fr : List (Nat × AObj)) : Prop := p.l = [] ∨ ∃ r, p.a = some ⟨r, 0, none⟩ ∧ (r, AObj.row .ro (cellsU p.l)) ∈ fr
theorem Pc.inp_mono {p : Pc} {fr fr' : List (Nat × AObj)} (h : p.inp fr) (hs : ∀ q ∈ fr, q ∈ fr') : p.inp fr' := by
  rcases h with h | ⟨r, h1, h2⟩
  · exact .inl h
  · exact .inr ⟨r, h1, hs _ h2⟩
theorem thr_pcs {H : Type} {ds : List (DataW H)} {σ σ' : AS} {avs : List (List Value)} (h : Thr (RSlice 1 (RInt .u32)) ds σ avs σ') : ∀ {L : List (Nat × AObj)}, Has σ L →
    ∃ (ps : List Pc) (fr : List (Nat × AObj)), ps.length = ds.length ∧ avs = ps.map (fun p => [p.cell]) ∧ (∀ p ∈ ps, p.ok) ∧ Has σ' (fr ++ L) ∧ ∀ p ∈ ps, p.inp fr := by
  induction h with
  | nil => exact fun HL => ⟨[], [], rfl, rfl, by simp, HL, by simp⟩
  | cons h _ ih =>
    intro L HL
    obtain ⟨a, l, fr1, rfl, hw, H1, hin⟩ := slice_ints h HL
    obtain ⟨ps, fr2, h1, rfl, h2, H2, h3⟩ := ih H1
    refine ⟨⟨a, l⟩ :: ps, fr2 ++ fr1, by simp [h1], rfl, ?_, by rw [List.append_assoc]; exact H2, ?_⟩
    · intro p hp
      rcases List.mem_cons.1 hp with rfl | hp
      · exact fun c hc => wf_u32 (hw c hc)
      · exact h2 p hp
    · intro p hp
      rcases List.mem_cons.1 hp with rfl | hp
      · rcases hin with h | ⟨r, e1, e2⟩
        · exact .inl h
        · exact .inr ⟨r, e1, by rw [e2]; simp⟩
      · exact Pc.inp_mono (h3 p hp) fun q hq => List.mem_append_left _ hq
theorem flat_pcs : ∀ ps : List Pc, (ps.map fun p => [p.cell]).flatten = ps.map Pc.cell
  | [] => rfl
  | p :: ps => by simp [flat_pcs ps]
theorem slice_pcs {H : Type} {d : DataW H} {σ σ' : AS} {av : List Value} (h : RSlice 1 (RSlice 1 (RInt .u32)) d σ av σ') {L : List (Nat × AObj)} (HL : Has σ L) :
    ∃ (a : Option Addr) (ps : List Pc) (fr : List (Nat × AObj)), av = [.slice a ps.length 1] ∧ (∀ p ∈ ps, p.ok) ∧ Has σ' (fr ++ L) ∧ (∀ p ∈ ps, p.inp fr) ∧ (ps = [] ∨ ∃ r, a = some ⟨r, 0, none⟩ ∧ (r, AObj.row .ro (ps.map Pc.cell)) ∈ fr) := by
  rcases h with ⟨_, rfl, rfl⟩ | ⟨_, _, rfl, rfl⟩ | ⟨elems, spare, avs, σ1, _, hne, _, ht, rfl, rfl⟩
  · exact ⟨none, [], [], rfl, by simp, HL, by simp, .inl rfl⟩
  · exact ⟨_, [], [(σ.n, .dead)], rfl, by simp, HL.new _, by simp, .inl rfl⟩
  · obtain ⟨ps, fr, h1, rfl, h2, H2, h3⟩ := thr_pcs ht HL
    refine ⟨_, ps, (σ1.n, .row .ro (ps.map Pc.cell)) :: fr, by rw [h1], h2, ?_, fun p hp => Pc.inp_mono (h3 p hp) fun q hq => List.mem_cons_of_mem _ hq, .inr ⟨_, rfl, by simp⟩⟩
    rw [flat_pcs]
    exact H2.new _
end Go.AI
