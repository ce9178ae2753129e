/- Lemmas of the abstract condition ahead of code (a part of the library that the claim's proof stands on); they hold with no condition but those that each names. -/
import Derived.Test.YtcjicaolgjialaaPaArranges
set_option linter.unusedSimpArgs false
set_option linter.unusedVariables false
set_option maxRecDepth 10000
/- PaneGone: what is told to be gone is gone, all else is there; no condition but those that each names. -/
namespace Go.Pane
open Go.AI
variable {L M : List Win} {last : Int} {tr : Option T}
theorem outW_n {n : Int} {v w : Win} (h : w.n = v.n) : outW L n w = outW L n v := by unfold outW; rw [h]
theorem has_close {n : Int} {v : Win} (hv : v ∈ L) : hasL (Go.Pane.closeL L n) v.n = !outW L n v := by
  unfold Go.Pane.closeL
  rw [hasL_map (clrW_n _)]
  unfold closeK
  have key : ∀ M : List Win, (∀ w ∈ M, ∃ u ∈ L, w.n = u.n) → (∃ w ∈ M, w.n = v.n) → hasL (M.filter fun w => !outW L n w) v.n = !outW L n v := fun M h1 h2 => by
    cases ho : outW L n v with
    | true =>
      refine hasL_false.2 fun w hw e => ?_
      have h3 := (List.mem_filter.1 hw).2
      rw [outW_n e, ho] at h3
      cases h3
    | false =>
      obtain ⟨w, hw, e⟩ := h2
      exact hasL_iff.2 ⟨w, List.mem_filter.2 ⟨hw, by rw [outW_n e, ho]; rfl⟩, e⟩
  split
  · exact key L (fun w hw => ⟨w, hw, rfl⟩) ⟨v, hv, rfl⟩
  · refine key _ (fun w hw => ?_) ⟨_, List.mem_map_of_mem hv, turnW_n _ _ _ _⟩
    obtain ⟨u, hu, rfl⟩ := List.mem_map.1 hw
    exact ⟨u, hu, turnW_n _ _ _ _⟩
theorem filter_len {q : Win → Bool} : ∀ L : List Win, (L.filter fun w => !q w).length + (L.filter q).length = L.length
  | [] => rfl
  | w :: L => by
    have := filter_len (q := q) L
    rw [List.filter_cons, List.filter_cons]
    cases q w <;> simp <;> omega
theorem filter_map_len {q : Win → Bool} {f : Win → Win} (h : ∀ w, q (f w) = q w) : ∀ L : List Win, ((L.map f).filter q).length = (L.filter q).length
  | [] => rfl
  | w :: L => by
    have := filter_map_len h L
    rw [List.map_cons, List.filter_cons, List.filter_cons, h]
    cases q w <;> simp [this]
theorem close_len (n : Int) : (Go.Pane.closeL L n).length + (goneL L n).length = L.length := by
  have e : (Go.Pane.closeL L n).length = (L.filter fun w => !outW L n w).length := by
    unfold Go.Pane.closeL closeK
    rw [List.length_map]
    split
    · rfl
    · exact filter_map_len (q := fun w => !outW L n w) (fun w => by simp only [turn_out]) L
  rw [e]
  exact filter_len L
theorem gone_at (hs : L.Pairwise fun x y => x.n < y.n) {q : Win → Bool} {i : Nat} {v : Win} (hv : L[i]? = some v) :
    (q v = true → (L.filter q)[((L.take i).filter q).length]? = some v) ∧ (q v = false → ∀ u, (L.filter q)[((L.take i).filter q).length]? = some u → u.n ≠ v.n) := by
  have hlt := (List.getElem?_eq_some_iff.1 hv).1
  have e : L = L.take i ++ v :: L.drop (i + 1) := by
    have h1 := (List.take_append_drop i L).symm
    rw [List.drop_eq_getElem_cons hlt] at h1
    have h2 := (List.getElem?_eq_some_iff.1 hv).2
    rw [h2] at h1
    exact h1
  have ef : L.filter q = (L.take i).filter q ++ (v :: L.drop (i + 1)).filter q := by
    conv => lhs; rw [e]
    exact List.filter_append ..
  rw [ef, List.getElem?_append_right (Nat.le_refl _), Nat.sub_self, List.filter_cons]
  refine ⟨fun h => by rw [h]; rfl, fun h u hu => ?_⟩
  rw [h, if_neg (by simp)] at hu
  have hm := (List.mem_filter.1 (List.mem_of_getElem? hu)).1
  rw [e] at hs
  have h3 := (List.pairwise_append.1 hs).2.1
  have := (List.pairwise_cons.1 h3).1 u hm
  omega
theorem Ok.kind (ok : Ok L last tr) (n : Int) : (hasL L n = true → (ofL L n).k ≠ 0) ∧ (hasL L n = false → (ofL L n).k = 0) := by
  refine ⟨fun h => ?_, fun h => by rw [ofL_none h]; rfl⟩
  obtain ⟨w, hw, rfl⟩ := hasL_iff.1 h
  rw [ofL_mem ok.srt hw]
  rcases ok.wok w hw with g | g <;> omega
theorem Ok.key_has (ok : Ok L last tr) {n : Int} (h : pairE L n = 0) (hk : (ofL L n).key ≠ 0) : hasL L (ofL L n).key = true := by
  have hh : hasL L n = true := by
    unfold pairE at h
    split at h
    · cases h
    · rename_i g; simpa using g
  obtain ⟨w, hw, rfl⟩ := hasL_iff.1 hh
  rw [ofL_mem ok.srt hw] at hk ⊢
  rcases ok.keys w hw with g | g
  · exact absurd g hk
  · exact g
end Go.Pane
namespace Go.AI
open Go.Proofs Go.Pane
section
variable {σ : AS} {K : Value → AS → Prop} {X F0 fr : List (Nat × AObj)} {t m x y c : Nat} {n W H W1 H1 root last b : Int} {L : List Win} {tr : Option T} {ws : List PW} {l : List ActM} {a : Option Addr}
theorem p25 {win top : Int} (S : PS t m W H last ws c F0 σ) (hR : RIn x W H last L F0) (hs : Srt L) (hl : L.length ≤ 1000) (hK : ∀ σ', PS t m W H last ws c F0 σ' → K (.bool (belF L 100 win top)) σ') : Tri Try.prog 25 [ptr x, i64 win, i64 top] σ K := by
  obtain ⟨F, hF, Hh⟩ := S
  have R : RIn x W H last L (progL t m W H (rootL (wl ws)) last ws c F) := hR.mono fun p hp => List.mem_cons_of_mem _ (List.mem_cons_of_mem _ (List.mem_append_right _ (hF p hp)))
  exact c25 Hh R hs hl fun σ' new H' => hK σ' (.of hF H')
theorem p29 (S : PS t m W H last ws c F0 σ) (hR : RIn x W H last L F0) (hs : Srt L) (hl : L.length ≤ 1000) (hK : ∀ σ', PS t m W H last ws c F0 σ' → K (.agg ⟨winR (ofL L n)⟩) σ') : Tri Try.prog 29 [ptr x, i64 n] σ K := by
  obtain ⟨F, hF, Hh⟩ := S
  have R : RIn x W H last L (progL t m W H (rootL (wl ws)) last ws c F) := hR.mono fun p hp => List.mem_cons_of_mem _ (List.mem_cons_of_mem _ (List.mem_append_right _ (hF p hp)))
  exact c29 Hh R hs hl fun σ' new H' => hK σ' (.of hF H')
theorem p18 (S : PS t m W H last ws c F0 σ) (ok : Ok (wl ws) last tr) (hK : ∀ σ', PS t m W H last ws c F0 σ' → K (i64 (ofL (wl ws) n).k) σ') : Tri Try.prog 18 [ptr t, i64 n] σ K := by
  obtain ⟨F, hF, Hh⟩ := S
  exact c18 Hh pin_of ok.srt fun σ' new H' => hK σ' (.of hF H')
theorem prd {G : Value → Prop} {e i : Nat} {xs : List Int} {v : Int} {N : Nat} (S : PS t m W H last ws c F0 σ) (hr : RdI a e xs F0) (hi : xs[i]? = some v) (hN : N = xs.length) (hG : G (i64 v)) :
    req (0 ≤ (i : Int)) (req ((i : Int) < (N : Int)) (pSome a fun a0 => req (e = szOf Try.prog 3) (ldc σ (Addr.add a0 (Int.toNat (i : Int) * szOf Try.prog 3)) G))) := by
  obtain ⟨Z, HZ, hZ, _⟩ := S.view
  exact rdI (hr.mono hZ) HZ hi hN hG
/-- A number read again: the address is a known one. -/
theorem prd' {G : Value → Prop} {e i : Nat} {xs : List Int} {v : Int} {a0 : Addr} (S : PS t m W H last ws c F0 σ) (hr : RdI (some a0) e xs F0) (hi : xs[i]? = some v) (hG : G (i64 v)) : ldc σ (Addr.add a0 (Int.toNat (i : Int) * szOf Try.prog 3)) G := by
  obtain ⟨Z, HZ, hZ, _⟩ := S.view
  rcases hr with h | ⟨j, k, h1, rfl, hm⟩
  · subst h; simp at hi
  · cases h1
    rw [sz3, add_none, Int.toNat_natCast, Nat.mul_one, Nat.zero_add]
    exact ldm HZ (hZ _ hm) (by simp [hi]) hG
abbrev j6 : List Bool := [true, true, true, true, true, true, true, true, true, true, false, true, false, false, true, false, false, true]
abbrev l6 : List Bool := [true, true, true, true, true, true, true, true, true, true, false, true, false]
def goneRg (t x : Nat) (win : Int) (pa : Option Addr) (m : Nat) (qa : Option Addr) (r n i : Nat) : Regs := [(11, some (ptr t)), (12, some (ptr x)), (13, some (i64 win)), (14, some (.slice pa m 1)), (15, some (.slice qa r 1)), (16, some (i64 0)), (17, some (i64 n)), (18, some (i64 i))]
/-- One window of those that were there. -/
theorem gone_one {ws' : List PW} {tr' : Option T} {win : Int} {pa qa : Option Addr} {r N i : Nat} {v : Win} {out : Bool} {Y : Regs → AS → Prop} (ok : Ok L last tr) (ok' : Ok (wl ws') last tr') (hcl : wl ws' = Go.Pane.closeL L win) (hR : RIn x W H last L F0) (hp : RdI pa 1 (L.map (·.n)) F0)
    (S : PS t m W H last ws' c F0 σ) (hv : L[i]? = some v) (ho : out = outW L win v) (hY : ∀ σ', PS t m W H last ws' c F0 σ' → Y (goneRg t x win pa (L.map (·.n)).length qa r N (i + 1)) σ') :
    jn Try.prog hintsS (Tri Try.prog) 6 j6 [Y] K [(11, some (ptr t)), (12, some (ptr x)), (13, some (i64 win)), (14, some (.slice pa (L.map (·.n)).length 1)), (15, some (.slice qa r 1)), (16, some (i64 0)), (17, some (i64 N)), (18, some (i64 i)), (19, some (.bool out))] σ := by
  have hl : L.length ≤ 1000 := by have := ok.len; omega
  have hvm := List.mem_of_getElem? hv
  have hlt := (List.getElem?_eq_some_iff.1 hv).1
  have hxi : (L.map (·.n))[i]? = some v.n := by rw [List.getElem?_map, hv]; rfl
  have e1 : IntKind.wrap .i64 ((i : Int) + 1) = ((i + 1 : Nat) : Int) := by rw [wrap64 (by omega) (by omega)]; omega
  have kd := ok'.kind v.n
  have hc : hasL (wl ws') v.n = !out := by rw [hcl, ho]; exact has_close hvm
  have hkb : ((ofL (wl ws') v.n).k == 0) = out := by
    cases out with
    | true => simpa using kd.2 hc
    | false => simpa using kd.1 hc
  have hbb : ∀ b : Bool, (!(b == b)) = false := by intro b; cases b <;> rfl
  have fin : ∀ σ', PS t m W H last ws' c F0 σ' → Y (goneRg t x win pa (L.map (·.n)).length qa r N (i + 1)) σ' := hY
  unfold goneRg at fin
  rw [← e1] at fin
  rw [s6j]
  -- the rest, behind the comparison with what lies below
  have rest : ∀ σ', PS t m W H last ws' c F0 σ' → req (0 ≤ (i : Int)) (req ((i : Int) < ((L.map (·.n)).length : Int)) (pSome pa fun a6 => req (1 = szOf Try.prog 3) (ldc σ' (Addr.add a6 (Int.toNat (i : Int) * szOf Try.prog 3)) fun v7 => tI .i64 v7 fun n8 => Tri Try.prog 18 [ptr t, i64 n8] σ' fun v9 σ10 => tI .i64 v9 fun n11 =>
      bmatch (!(out == (n11 == 0))) (K (.bool false) σ10) (req (0 ≤ (i : Int)) (req ((i : Int) < ((L.map (·.n)).length : Int)) (pSome pa fun a12 => req (1 = szOf Try.prog 3) (ldc σ10 (Addr.add a12 (Int.toNat (i : Int) * szOf Try.prog 3)) fun v13 => tI .i64 v13 fun n14 => Tri Try.prog 30 [ptr t, i64 n14] σ10 fun v15 σ16 =>
      tTup v15 fun l17 => pSome l17[0]? fun u18 => tI .i64 u18 fun n19 => tTup v15 fun l20 => pSome l20[1]? fun u21 => tI .u32 u21 fun n22 => tTup v15 fun l23 => pSome l23[2]? fun u24 => tI .i64 u24 fun n25 => tTup v15 fun l26 => pSome l26[3]? fun u27 => tI .i64 u27 fun n28 => Tri Try.prog 23 [i64 n28] σ16 fun v29 σ30 => tI .i64 v29 fun n31 =>
      bmatch (n31 == 0) (bmatch (n25 != 0) (Tri Try.prog 18 [ptr t, i64 n25] σ30 fun v32 σ33 => tI .i64 v32 fun n34 => bmatch (n34 == 0) (K (.bool false) σ33) (Y [(11, some (ptr t)), (12, some (ptr x)), (13, some (i64 win)), (14, some (.slice pa (L.map (·.n)).length 1)), (15, some (.slice qa r 1)), (16, some (i64 0)), (17, some (i64 N)), (18, some (i64 (IntKind.wrap .i64 ((i : Int) + 1))))] σ33))
        (Y [(11, some (ptr t)), (12, some (ptr x)), (13, some (i64 win)), (14, some (.slice pa (L.map (·.n)).length 1)), (15, some (.slice qa r 1)), (16, some (i64 0)), (17, some (i64 N)), (18, some (i64 (IntKind.wrap .i64 ((i : Int) + 1))))] σ30))
        (Y [(11, some (ptr t)), (12, some (ptr x)), (13, some (i64 win)), (14, some (.slice pa (L.map (·.n)).length 1)), (15, some (.slice qa r 1)), (16, some (i64 0)), (17, some (i64 N)), (18, some (i64 (IntKind.wrap .i64 ((i : Int) + 1))))] σ30)))))))) := by
    intro σ' S1
    refine prd S1 hp hxi rfl ?_
    rw [tI_int]
    refine p18 S1 ok' fun σ2 S2 => ?_
    rw [tI_int, hkb, hbb, bm_false]
    refine prd S2 hp hxi rfl ?_
    rw [tI_int]
    refine p30 S2 ok' ?_
    simp only [tTup_tup, pSome_some, List.getElem?_cons_zero, List.getElem?_cons_succ, tI_int]
    refine c23 ?_
    rw [tI_int]
    refine beq_mk (fun g => ?_) (fun _ => fin σ2 S2)
    refine bne_mk (fun g2 => ?_) (fun _ => fin σ2 S2)
    refine p18 S2 ok' fun σ3 S3 => ?_
    rw [tI_int]
    refine beq_mk (fun g3 => absurd g3 ((ok'.kind _).1 (ok'.key_has g g2))) (fun _ => fin σ3 S3)
  refine prd S hp hxi rfl ?_
  rw [tI_int]
  refine p25 S hR ok.srt hl fun σ1 S1 => ?_
  rw [tB_bool]
  cases hbel : belF L 100 v.n win with
  | true =>
    have : out = true := by rw [ho]; unfold outW; rw [hbel]; rfl
    subst this
    rw [bm_true, show (!(true == true)) = false from rfl, bm_false]
    exact rest σ1 S1
  | false =>
    have hp2 : out = (v.n == (ofL L win).p) := by rw [ho]; unfold outW; rw [hbel]; rfl
    rw [bm_false]
    rcases hp with h0 | ⟨j, k, rfl, h1, hm⟩
    · rw [h0] at hxi; simp at hxi
    have hp : RdI (some ⟨j, 0, none⟩) 1 (L.map (·.n)) F0 := .inr ⟨j, k, rfl, h1, hm⟩
    refine req_mk (by omega) (req_mk (by rw [List.length_map]; omega) ?_)
    rw [pSome_some]
    refine req_mk (by kernel_rfl) ?_
    refine prd' S1 hp hxi ?_
    rw [tI_int]
    refine p29 S1 hR ok.srt hl fun σ2 S2 => ?_
    simp only [tAgg, tCons, tI_int, tNil]
    refine prd' S2 hp hxi ?_
    rw [tI_int]
    refine ⟨rfl, ?_⟩
    rw [← hp2, hbb, bm_false]
    exact rest σ2 S2
end
end Go.AI
