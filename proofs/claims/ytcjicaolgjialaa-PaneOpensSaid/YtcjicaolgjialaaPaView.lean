/- Lemmas of the abstract condition ahead of code (a part of the library that the claim's proof stands on); they hold with no condition but those that each names. -/
import Derived.Test.YtcjicaolgjialaaPaPlays
set_option linter.unusedSimpArgs false
set_option linter.unusedVariables false
set_option maxRecDepth 10000
/- What is asked of both trees when nothing is changed; no condition but those that each names. -/
namespace Go.AI
open Go.Proofs Go.Pane
/-- Both trees' objects lie there. -/
structure Vw (t m x : Nat) (W H last : Int) (L : List Win) (tr : Option T) (X : List (Nat × AObj)) : Prop where
  ex : ∃ ws c, wl ws = L ∧ BornOk ws c ∧ PIn t m W H (rootL L) last ws c X
  rin : RIn x W H last L X
  ok : Ok L last tr
  w0 : 0 ≤ W
  w1 : W ≤ 1000
  h0 : 0 ≤ H
  h1 : H ≤ 1000
  l0 : 0 ≤ last
def HX (σ : AS) (X : List (Nat × AObj)) : Prop := ∃ new, Has σ (new ++ X)
section
variable {σ : AS} {K : Value → AS → Prop} {X fr : List (Nat × AObj)} {t m x c : Nat} {n W H root last b : Int} {L : List Win} {tr : Option T} {ws : List PW} {l : List ActM} {a : Option Addr}
theorem HX.more {A : List (Nat × AObj)} (h : Has σ (A ++ X)) : HX σ X := ⟨A, h⟩
theorem HX.trans {new : List (Nat × AObj)} {σ' : AS} (h : HX σ' (new ++ X)) : HX σ' X := by
  obtain ⟨A, h⟩ := h
  exact ⟨A ++ new, by rw [List.append_assoc]; exact h⟩
theorem Jt.view (J : Jt t m x b W H last L tr fr σ) : ∃ X, Vw t m x W H last L tr X ∧ HX σ X ∧ ∀ p ∈ fr, p ∈ X := by
  obtain ⟨ws, c, a, e, rw', hw, hb, h, Hh⟩ := J.st
  refine ⟨_, ⟨⟨ws, c, hw, hb, pin_of⟩, ?_, J.ok, J.w0, J.w1, J.h0, J.h1, J.l0⟩, ⟨[], Hh⟩, fun p hp => ?_⟩
  · refine RIn.mono (rin_of h (fr := fr)) fun p hp => ?_
    exact List.mem_cons_of_mem _ (List.mem_cons_of_mem _ (List.mem_append_right _ hp))
  · exact List.mem_cons_of_mem _ (List.mem_cons_of_mem _ (List.mem_append_right _ (List.mem_cons_of_mem _ (List.mem_append_right _ hp))))
variable (V : Vw t m x W H last L tr X) (h : HX σ X)
include V h
theorem v18 (hK : ∀ σ', HX σ' X → K (i64 (ofL L n).k) σ') : Tri Try.prog 18 [ptr t, i64 n] σ K := by
  obtain ⟨new, Hh⟩ := h
  obtain ⟨ws, c, rfl, hb, P⟩ := V.ex
  exact c18 Hh P.new V.ok.srt fun σ' new' H' => hK σ' (HX.trans ⟨new', H'⟩)
theorem v20 (hK : ∀ σ', HX σ' X → K (.tuple ⟨[i64 (ofL L n).a, i64 (ofL L n).b]⟩) σ') : Tri Try.prog 20 [ptr t, i64 n] σ K := by
  obtain ⟨new, Hh⟩ := h
  obtain ⟨ws, c, rfl, hb, P⟩ := V.ex
  exact c20 Hh P.new V.ok.srt fun σ' new' H' => hK σ' (HX.trans ⟨new', H'⟩)
theorem v24 (hK : ∀ σ', HX σ' X → K (i64 (ofL L n).p) σ') : Tri Try.prog 24 [ptr t, i64 n] σ K := by
  obtain ⟨new, Hh⟩ := h
  obtain ⟨ws, c, rfl, hb, P⟩ := V.ex
  exact c24 Hh P.new V.ok.srt fun σ' new' H' => hK σ' (HX.trans ⟨new', H'⟩)
theorem v26 (hK : ∀ σ', HX σ' X → K (i64 (sibL L n)) σ') : Tri Try.prog 26 [ptr t, i64 n] σ K := by
  obtain ⟨new, Hh⟩ := h
  obtain ⟨ws, c, rfl, hb, P⟩ := V.ex
  exact c26 Hh P.new V.ok.srt fun σ' new' H' => hK σ' (HX.trans ⟨new', H'⟩)
theorem v27 (hK : K (i64 (rootL L)) σ) : Tri Try.prog 27 [ptr t] σ K := by
  obtain ⟨new, Hh⟩ := h
  obtain ⟨ws, c, rfl, hb, P⟩ := V.ex
  exact c27 Hh P.new hK
theorem v17 (hK : ∀ σ', HX σ' X → K (.tuple ⟨[rV (rho L W H n), .bool (hasL L n)]⟩) σ') : Tri Try.prog 17 [ptr t, i64 n] σ K := by
  obtain ⟨new, Hh⟩ := h
  obtain ⟨ws, c, rfl, hb, P⟩ := V.ex
  exact c17' V.ok V.w0 V.w1 V.h0 V.h1 Hh P.new fun σ' new' H' => hK σ' (HX.trans ⟨new', H'⟩)
theorem v30 (hK : K (.tuple ⟨[i64 (ofL L n).m, u32 (ofL L n).s, i64 (ofL L n).key, i64 (pairE L n)]⟩) σ) : Tri Try.prog 30 [ptr t, i64 n] σ K := by
  obtain ⟨new, Hh⟩ := h
  obtain ⟨ws, c, rfl, hb, P⟩ := V.ex
  exact c30' V.ok Hh P.new hK
theorem v25 {top : Int} (hK : ∀ σ', HX σ' X → K (.bool (belF L 100 n top)) σ') : Tri Try.prog 25 [ptr x, i64 n, i64 top] σ K := by
  obtain ⟨new, Hh⟩ := h
  have hl : L.length ≤ 1000 := by have := V.ok.len; omega
  exact c25 Hh V.rin.new V.ok.srt hl fun σ' new' H' => hK σ' (HX.trans ⟨new', H'⟩)
theorem v29 (hK : ∀ σ', HX σ' X → K (.agg ⟨winR (ofL L n)⟩) σ') : Tri Try.prog 29 [ptr x, i64 n] σ K := by
  obtain ⟨new, Hh⟩ := h
  have hl : L.length ≤ 1000 := by have := V.ok.len; omega
  exact c29 Hh V.rin.new V.ok.srt hl fun σ' new' H' => hK σ' (HX.trans ⟨new', H'⟩)
theorem v21 (hN : L = [] → K (i64 0) σ) (hK : ∀ w ∈ L, K (i64 w.n) σ) : Tri Try.prog 21 [ptr x, i64 n] σ K := by
  obtain ⟨new, Hh⟩ := h
  have hl : L.length ≤ 1000 := by have := V.ok.len; omega
  exact c21 Hh V.rin.new hl hN hK
theorem v34 (hK : ∀ σ', HX σ' X → K (.bool true) σ') : Tri Try.prog 34 [ptr t, ptr x] σ K := by
  obtain ⟨new, Hh⟩ := h
  obtain ⟨ws, c, rfl, hb, P⟩ := V.ex
  exact c34 (Int.le_refl _) V.ok hb rfl V.w0 V.w1 V.h0 V.h1 Hh P.new V.rin.new fun σ' new' H' => hK σ' (HX.trans ⟨new', H'⟩)
omit V in
/-- A known slice's number. -/
theorem vrd {G : Value → Prop} {e i : Nat} {xs : List Int} {v : Int} {N : Nat} (hr : RdI a e xs X) (hi : xs[i]? = some v) (hN : N = xs.length) (hG : G (i64 v)) :
    req (0 ≤ (i : Int)) (req ((i : Int) < (N : Int)) (pSome a fun a0 => req (e = szOf Try.prog 3) (ldc σ (Addr.add a0 (Int.toNat (i : Int) * szOf Try.prog 3)) G))) := by
  obtain ⟨new, Hh⟩ := h
  exact rdI (hr.mono fun p hp => List.mem_append_right _ hp) Hh hi hN hG
end
theorem actOk_of {b c z : Int} (hb : (Lit.int .i64 b).wf = true) (hz : (Lit.int .u32 z).wf = true) : ActOk b c z := by
  refine ⟨?_, ?_⟩
  · have : (-9223372036854775808 ≤ b ∧ b ≤ 9223372036854775807) := by simpa [Lit.wf, IntKind.min, IntKind.max, IntKind.signed, IntKind.bits] using hb
    exact this
  · have := wf_u32 hz
    omega
end Go.AI
