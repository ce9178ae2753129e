/- Lemmas of the abstract condition ahead of code (a part of the library that the claim's proof stands on); they hold with no condition but those that each names. -/
import Derived.Test.YtlofpopejkohbaaGreatGyS3
import Derived.Test.YtlofpopejkohbaaGreatGyS1
import Derived.Test.YtlofpopejkohbaaGreatGyS2
section
set_option linter.unusedSimpArgs false
set_option linter.unusedVariables false
set_option maxRecDepth 10000
/- The program: a stream out of a file's list; no condition but those that each names. -/
namespace Go.AI
open Go.Proofs Go.Shelf
section
variable {σ : AS} {K : Value → AS → Prop} {fr X : List (Nat × AObj)} {s k B : Nat} {g : PG} {most last n mode : Int} {nm : List UInt8} {F : List Fi} {S : List Sm} {l : List Int} {a : Option Addr} {wd : Bool}
/-- Whether it is this stream. -/
theorem p189 {c x y : Nat} {cs : List Value} (hc : σ c = some (.row .plain [ptr x])) (hx : ∃ cs, σ x = some (.row .plain cs)) (hy : ∃ cs, σ y = some (.row .plain cs)) (hK : K (.bool (decide (x = y))) σ) : Tri Tryz.prog 189 [ptr y, ptr c] σ K := tri_iz (by
  rw [z189]
  simp only [ldc_eq hc, true_and, tI_int, tB_bool, tP_ptr, tM_map, tS_str, tTup_tup, tL_sl, tIf_if, pSome_some, chk_true, bm_true, bm_false, List.getElem?_cons_zero, List.getElem?_cons_succ, Nat.zero_add, Nat.add_zero, bne_self_eq_false, beq_self_eq_true, ptrEq_some, ptrEq_none, Bool.not_true, Bool.not_false, tAgg_agg, tCons_cons, tNil_nil, add_none, aadd_none, Option.getD_some, Option.getD_none, Option.map_some, Option.map_none]
  unfold ptrEq
  simp only
  refine req_mk trivial (req_mk trivial ?_)
  by_cases h : x = y
  · rw [if_pos h]
    rw [decide_eq_true h] at hK
    exact hK
  · rw [if_neg h]
    rw [decide_eq_false h] at hK
    obtain ⟨cx, hx⟩ := hx
    obtain ⟨cy, hy⟩ := hy
    refine req_mk ?_ (req_mk ?_ hK)
    · unfold AS.plain AS.plainB; rw [hx]
    · unfold AS.plain AS.plainB; rw [hy])
abbrev fn54 (c : Nat) : Value := .func (.func 189) ⟨[]⟩ ⟨[ptr c]⟩
/-- Where a stream is in a list. -/
theorem p200 {c x jj : Nat} {A Bs : List Nat} {z : List Value} {m : Nat} (hm : m = (A ++ x :: Bs).length) (hA : ∀ y ∈ A, y ≠ x) (hp : ∀ y ∈ A ++ x :: Bs, ∃ cs, σ y = some (.row .plain cs)) (hc : σ c = some (.row .plain [ptr x])) (hr : σ jj = some (.row .rw ((A ++ x :: Bs).map ptr ++ z))) (hl : m ≤ 1000000) (hK : K (i64 A.length) σ) :
    Tri Tryz.prog 200 [.slice (some ⟨jj, 0, none⟩) m 1, fn54 c] σ K := tri_iz (by
  rw [z200]
  have hm2 : m = A.length + (Bs.length + 1) := by rw [hm]; simp
  refine aloop (fun (j : Nat) rg σ' => j ≤ A.length ∧ σ' = σ ∧ rg = [(0, some (.slice (some ⟨jj, 0, none⟩) m 1)), (1, some (fn54 c)), (7, some (i64 m)), (8, some (i64 j))]) (fun j => A.length - j) ?_ (a := 0) ⟨Nat.zero_le _, rfl, rfl⟩
  rintro j rg σ1 Y hY ⟨hj, rfl, rfl⟩
  rw [z200l, sz95]
  refine bmd_mk (fun h => ?_) (fun h => by omega)
  refine req_mk (by omega) (req_mk (by omega) ?_)
  obtain ⟨y, hy⟩ : ∃ y, (A ++ x :: Bs)[j]? = some y := ⟨(A ++ x :: Bs)[j]'(by rw [← hm]; omega), by simp⟩
  have hv : ((A ++ x :: Bs).map ptr ++ z)[j]? = some (ptr y) := by
    rw [List.getElem?_append_left (by rw [List.length_map, ← hm]; omega), List.getElem?_map, hy]; rfl
  simp only [Int.toNat_natCast, Nat.mul_one, true_and, tI_int, tB_bool, tP_ptr, tM_map, tS_str, tTup_tup, tL_sl, tIf_if, pSome_some, chk_true, bm_true, bm_false, List.getElem?_cons_zero, List.getElem?_cons_succ, Nat.zero_add, Nat.add_zero, bne_self_eq_false, beq_self_eq_true, ptrEq_some, ptrEq_none, Bool.not_true, Bool.not_false, tAgg_agg, tCons_cons, tNil_nil, add_none, aadd_none, Option.getD_some, Option.getD_none, Option.map_some, Option.map_none]
  refine req_mk trivial ?_
  rw [ldc_eq hr, hv]
  simp only [true_and, tI_int, tB_bool, tP_ptr, tM_map, tS_str, tTup_tup, tL_sl, tIf_if, pSome_some, chk_true, bm_true, bm_false, List.getElem?_cons_zero, List.getElem?_cons_succ, Nat.zero_add, Nat.add_zero, bne_self_eq_false, beq_self_eq_true, ptrEq_some, ptrEq_none, Bool.not_true, Bool.not_false, tAgg_agg, tCons_cons, tNil_nil, add_none, aadd_none, Option.getD_some, Option.getD_none, Option.map_some, Option.map_none]
  show Tri Tryz.prog 189 [ptr y, ptr c] σ1 _
  refine p189 (cs := []) hc (hp x (by simp)) (hp y (List.mem_of_getElem? hy)) ?_
  rw [tB_bool]
  refine bmd_mk (fun h => ?_) (fun hxy => ?_)
  · subst h
    have : j = A.length := by
      refine Decidable.byContradiction fun c => ?_
      rw [List.getElem?_append_left (by omega)] at hy
      exact hA _ (List.mem_of_getElem? hy) rfl
    rw [this]
    exact hK
  · rw [wrap1 (by omega)]
    have : j ≠ A.length := by
      rintro rfl
      rw [List.getElem?_append_right (Nat.le_refl _), Nat.sub_self] at hy
      simp at hy
      exact hxy hy
    exact hY (j + 1) _ _ (by omega) ⟨by omega, rfl, rfl⟩)
/-- A stream out of a list. -/
theorem p188 {c x jj : Nat} {A Bs : List Nat} {z : List Value} {m : Nat} (hm : m = (A ++ x :: Bs).length) (hA : ∀ y ∈ A, y ≠ x) (hB : ∀ y ∈ Bs, y ≠ x) (hp : ∀ y ∈ A ++ x :: Bs, ∃ cs, (y, AObj.row .plain cs) ∈ X) (hc : (c, AObj.row .plain [ptr x]) ∈ X) (H : Has σ ((jj, .row .rw ((A ++ x :: Bs).map ptr ++ z)) :: X)) (hl : m ≤ 1000000)
    (hK : ∀ σ' z', Has σ' ((jj, .row .rw ((A ++ Bs).map ptr ++ z')) :: X) → K (.slice (some ⟨jj, 0, none⟩) (A ++ Bs).length 1) σ') :
    Tri Tryz.prog 188 [.slice (some ⟨jj, 0, none⟩) m 1, fn54 c] σ K := tri_iz (by
  rw [z188]
  have hm2 : m = A.length + (Bs.length + 1) := by rw [hm]; simp
  have look : ∀ {σ' : AS} {cs : List Value}, Has σ' ((jj, .row .rw cs) :: X) → (∀ y ∈ A ++ x :: Bs, ∃ cs, σ' y = some (.row .plain cs)) ∧ σ' c = some (.row .plain [ptr x]) := fun H' =>
    ⟨fun y hy => by obtain ⟨cs, h⟩ := hp y hy; exact ⟨cs, H'.g (List.mem_cons_of_mem _ h)⟩, H'.g (List.mem_cons_of_mem _ hc)⟩
  obtain ⟨p1, p2⟩ := look H
  refine p200 hm hA p1 p2 (H.at 0 rfl) hl ?_
  rw [tI_int]
  refine beq_mk (fun h => by omega) (fun _ => ?_)
  rw [wrap1 (by omega)]
  refine aloop (fun (q : Nat) rg σ' => q ≤ Bs.length ∧ (∃ v, Has σ' ((jj, .row .rw ((A ++ Bs.take q).map ptr ++ v :: ((Bs.drop q).map ptr ++ z))) :: X)) ∧ rg = [(0, some (.slice (some ⟨jj, 0, none⟩) m 1)), (1, some (fn54 c)), (5, some (i64 (A.length + q : Nat))), (6, some (i64 (A.length + 1 + q : Nat)))]) (fun q => Bs.length - q) ?_ (a := 0) ⟨Nat.zero_le _, ⟨ptr x, ?_⟩, rfl⟩
  · rintro q rg σ1 Y hY ⟨hq, ⟨v, H1⟩, rfl⟩
    rw [z188l, sz95]
    obtain ⟨p3, p4⟩ := look H1
    refine bmd_mk (fun h => ?_) (fun h => ?_)
    · refine req_mk (by omega) (req_mk (by omega) ?_)
      obtain ⟨y, hy⟩ : ∃ y, Bs[q]? = some y := ⟨Bs[q]'(by omega), by simp⟩
      have hlen : ((A ++ Bs.take q).map ptr).length = A.length + q := by rw [List.length_map, List.length_append, List.length_take]; omega
      have hd : Bs.drop q = y :: Bs.drop (q + 1) := by
        rw [List.drop_eq_getElem_cons (List.getElem?_eq_some_iff.1 hy).1, (List.getElem?_eq_some_iff.1 hy).2]
      have hv : ((A ++ Bs.take q).map ptr ++ v :: ((Bs.drop q).map ptr ++ z))[A.length + 1 + q]? = some (ptr y) := by
        rw [List.getElem?_append_right (by rw [hlen]; omega), hlen, show A.length + 1 + q - (A.length + q) = 1 by omega, hd]
        rfl
      simp only [Int.toNat_natCast, Nat.mul_one, true_and, tI_int, tB_bool, tP_ptr, tM_map, tS_str, tTup_tup, tL_sl, tIf_if, pSome_some, chk_true, bm_true, bm_false, List.getElem?_cons_zero, List.getElem?_cons_succ, Nat.zero_add, Nat.add_zero, bne_self_eq_false, beq_self_eq_true, ptrEq_some, ptrEq_none, Bool.not_true, Bool.not_false, tAgg_agg, tCons_cons, tNil_nil, add_none, aadd_none, Option.getD_some, Option.getD_none, Option.map_some, Option.map_none]
      refine req_mk trivial ?_
      rw [ldc_eq (H1.at 0 rfl), hv]
      simp only [true_and, tI_int, tB_bool, tP_ptr, tM_map, tS_str, tTup_tup, tL_sl, tIf_if, pSome_some, chk_true, bm_true, bm_false, List.getElem?_cons_zero, List.getElem?_cons_succ, Nat.zero_add, Nat.add_zero, bne_self_eq_false, beq_self_eq_true, ptrEq_some, ptrEq_none, Bool.not_true, Bool.not_false, tAgg_agg, tCons_cons, tNil_nil, add_none, aadd_none, Option.getD_some, Option.getD_none, Option.map_some, Option.map_none]
      show Tri Tryz.prog 189 [ptr y, ptr c] σ1 _
      have hyx : y ≠ x := hB y (List.mem_of_getElem? hy)
      refine p189 (cs := []) p4 (p3 x (by simp)) (p3 y (by simp [List.mem_of_getElem? hy])) ?_
      rw [tB_bool, decide_eq_false (fun e => hyx e.symm), Bool.not_false, bm_true]
      refine req_mk (by omega) (req_mk (by omega) (req_mk trivial ?_))
      refine put0 H1 rfl (by simp only [List.length_append, List.length_map, List.length_take, List.length_cons]; omega) fun σ2 H2 => ?_
      have es : ((A ++ Bs.take q).map ptr ++ v :: ((Bs.drop q).map ptr ++ z)).set (A.length + q) (ptr y) = (A ++ Bs.take (q + 1)).map ptr ++ ptr y :: ((Bs.drop (q + 1)).map ptr ++ z) := by
        rw [List.set_append_right _ _ (by rw [hlen]; exact Nat.le_refl _), hlen, Nat.sub_self, List.set_cons_zero, hd, List.take_add_one, hy]
        simp
      rw [es] at H2
      rw [wrap1 (by omega), wrap1 (by omega)]
      exact hY (q + 1) _ _ (by omega) ⟨by omega, ⟨_, H2⟩, by rw [Nat.add_assoc, Nat.add_assoc]⟩
    · have hqe : q = Bs.length := by omega
      subst hqe
      rw [List.take_length, List.drop_length] at H1
      refine req_mk (by omega) (req_mk (by omega) (cap_mk (Int.le_refl _) (chk_mk ?_ ?_)))
      · unfold nilOr; rfl
      have e1 : Int.toNat ((m : Int) - ((A.length + Bs.length : Nat) : Int)) = 1 := by omega
      rw [e1]
      unfold clearTo
      simp only [Int.toNat_natCast, Nat.mul_one, true_and, tI_int, tB_bool, tP_ptr, tM_map, tS_str, tTup_tup, tL_sl, tIf_if, pSome_some, chk_true, bm_true, bm_false, List.getElem?_cons_zero, List.getElem?_cons_succ, Nat.zero_add, Nat.add_zero, bne_self_eq_false, beq_self_eq_true, ptrEq_some, ptrEq_none, Bool.not_true, Bool.not_false, tAgg_agg, tCons_cons, tNil_nil, add_none, aadd_none, Option.getD_some, Option.getD_none, Option.map_some, Option.map_none]
      have hlen : ((A ++ Bs).map ptr).length = A.length + Bs.length := by simp
      refine puts0 H1 rfl (by simp; omega) fun σ2 H2 => ?_
      have es : ((A ++ Bs).map ptr ++ v :: (([] : List Nat).map ptr ++ z)).take (A.length + Bs.length) ++ (List.replicate (0 + 1) [Value.pointer none]).flatten ++ ((A ++ Bs).map ptr ++ v :: (([] : List Nat).map ptr ++ z)).drop (A.length + Bs.length + ((List.replicate (0 + 1) [Value.pointer none]).flatten).length) = (A ++ Bs).map ptr ++ (.pointer none :: z) := by
        have eL : (List.replicate (0 + 1) [Value.pointer none]).flatten = [Value.pointer none] := rfl
        rw [eL, List.take_left' hlen, show A.length + Bs.length + [Value.pointer none].length = A.length + Bs.length + 1 from rfl, ← List.drop_drop, List.drop_left' hlen]
        simp
      rw [es] at H2
      refine req_mk (by omega) (cap_mk (by omega) (chk_mk ?_ ?_))
      · unfold nilOr; rfl
      have e2 : Int.toNat (((A.length + Bs.length : Nat) : Int) - 0) = (A ++ Bs).length := by rw [List.length_append]; omega
      rw [e2]
      simp only [Int.toNat_zero, Nat.zero_mul, add_none, aadd_none, Nat.add_zero, Option.map_some]
      exact hK σ2 _ H2
  · refine H.sep fun a => ?_
    simp only [List.take_zero, List.append_nil, List.drop_zero, List.map_append, List.map_cons, cnt_app, cnt_cons, cnt_nil, List.flatMap_append, List.flatMap_cons, List.flatMap_nil, List.append_assoc, List.cons_append, List.nil_append, i64, u32, u8, ptr, List.set_cons_zero, List.set_cons_succ]
    omega)
end
end Go.AI
end
section
set_option linter.unusedSimpArgs false
set_option linter.unusedVariables false
set_option maxRecDepth 10000
/- The program: Close; no condition but those that each names. -/
namespace Go.AI
open Go.Proofs Go.Shelf
section
variable {σ : AS} {K : Value → AS → Prop} {fr X : List (Nat × AObj)} {s k B : Nat} {g : PG} {most last n mode : Int} {nm : List UInt8} {F : List Fi} {S : List Sm} {l : List Int} {a : Option Addr} {wd : Bool}
theorem tyAs_b {v : Value} {G : Option Value → Prop} : tyAs (.iface tyB v) 270 G = G (some v) := rfl
theorem tyAs_f {w : Bool} {v : Value} {G : Option Value → Prop} : tyAs (.iface (tyW w) v) 270 G = G none := by cases w <;> rfl
theorem isSome_some {v : Value} : Option.isSome (some v) = true := rfl
theorem isSome_none : Option.isSome (none : Option Value) = false := rfl
theorem onF_mid {Q1 Q2 : List PQ} {q : PQ} : onF nm (Q1 ++ q :: Q2) = onF nm Q1 ++ ((if q.q.nm = nm then [q.x] else []) ++ onF nm Q2) := by
  unfold onF
  rw [List.filter_append, List.map_append, List.filter_cons]
  by_cases h : q.q.nm = nm
  · simp [h]
  · simp [h]
theorem PG.dist {Q1 Q2 : List PQ} {q : PQ} (H : Has σ ((s, g.O most last) :: (g.R ++ fr))) (hQ : g.Q = Q1 ++ q :: Q2) : (∀ t ∈ Q1, t.x ≠ q.x) ∧ ∀ t ∈ Q2, t.x ≠ q.x := by
  have two : ∀ t : PQ, (∀ a, cnt a [(q.x, q.O), (t.x, t.O)] ≤ cnt a ((s, g.O most last) :: (g.R ++ fr))) → t.x ≠ q.x := by
    intro t h e
    have := (H.sep h).1
    simp [e] at this
  constructor
  · intro t ht
    obtain ⟨U, V, rfl⟩ := List.append_of_mem ht
    refine two t fun a => ?_
    simp only [PG.R, hQ, PQ.L, cnt_app, cnt_cons, cnt_nil, List.flatMap_append, List.flatMap_cons, List.flatMap_nil, List.append_assoc, List.cons_append, List.nil_append, i64, u32, u8, ptr, List.set_cons_zero, List.set_cons_succ]
    omega
  · intro t ht
    obtain ⟨U, V, rfl⟩ := List.append_of_mem ht
    refine two t fun a => ?_
    simp only [PG.R, hQ, PQ.L, cnt_app, cnt_cons, cnt_nil, List.flatMap_append, List.flatMap_cons, List.flatMap_nil, List.append_assoc, List.cons_append, List.nil_append, i64, u32, u8, ptr, List.set_cons_zero, List.set_cons_succ]
    omega
theorem delS_mid {Q1 Q2 : List PQ} {q : PQ} (hg : g.ok F S) (hQ : g.Q = Q1 ++ q :: Q2) (sn : S.Pairwise fun x y => x.n < y.n) : (Q1 ++ Q2).map PQ.q = delS q.q.n S := by
  have hS : S[Q1.length]? = some q.q := by rw [← hg.qS, hQ]; simp
  rw [← delS_at sn hS, ← hg.qS, hQ]
  rw [List.map_append, List.map_append, List.map_cons]
  have : (Q1.map PQ.q).length = Q1.length := by simp
  rw [List.take_left' this, ← List.drop_drop, List.drop_left' this]
  rfl
theorem born_del {α : Type} {ent : α → MapEntry} {A C : List α} {q : α} {c : Nat} (h : BornOk ent (A ++ q :: C) c) : BornOk ent (A ++ C) c := by
  refine ⟨h.1.sublist (List.Sublist.map _ (List.Sublist.append_left (List.sublist_cons_self _ _) _)), fun r hr => h.2 r ?_⟩
  rcases List.mem_append.1 hr with h | h <;> simp [h]
theorem mem_del {α : Type} {A C : List α} {q r : α} (hr : r ∈ A ++ C) : r ∈ A ++ q :: C := by
  rcases List.mem_append.1 hr with h | h <;> simp [h]
/-- A buffer's stream gone. -/
theorem PG.ok.delB {Q1 Q2 : List PQ} {q : PQ} (hg : g.ok F S) (hQ : g.Q = Q1 ++ q :: Q2) (sn : S.Pairwise fun x y => x.n < y.n) (hF : ∀ f ∈ F, f.nm ≠ []) (h0 : q.q.nm = []) : ({ g with Q := Q1 ++ Q2 } : PG).ok F (delS q.q.n S) := by
  refine ⟨hg.gF, delS_mid hg hQ sn, hg.go, fun t ht => hg.qo t (by rw [hQ]; exact mem_del ht), ?_, fun t ht => hg.lnk t (by rw [hQ]; exact mem_del ht), hg.bF, born_del (by rw [← hQ]; exact hg.bQ)⟩
  intro t ht
  rw [hg.opn t ht, hQ, onF_mid, if_neg, List.nil_append]
  · show _ = onF t.f.nm (Q1 ++ Q2)
    unfold onF
    rw [List.filter_append, List.map_append]
  · intro e
    exact hF t.f (hg.gF.mem_iff.1 (List.mem_map_of_mem ht)) (by rw [← e, h0])
/-- A file's stream gone. -/
theorem PG.ok.delQ {Q1 Q2 : List PQ} {q : PQ} {G1 G2 : List PF} {r r' : PF} (hg : g.ok F S) (hQ : g.Q = Q1 ++ q :: Q2) (hG : g.G = G1 ++ r :: G2) (sn : S.Pairwise fun x y => x.n < y.n) (srt : Srt F) (hx : r'.fi = r.fi) (hb : r'.bn = r.bn) (hf : r'.f = r.f) (ho : r'.ok) (hq : q.q.nm = r.f.nm) (hp : r'.op = onF r.f.nm Q1 ++ onF r.f.nm Q2) :
    ({ g with G := G1 ++ r' :: G2, Q := Q1 ++ Q2 } : PG).ok F (delS q.q.n S) ∧ (G1 ++ r' :: G2).map entF = g.G.map entF := by
  have hr : r ∈ g.G := by rw [hG]; simp
  have hnd : (g.G.map fun q => q.f.nm).Nodup := by
    have h1 : (F.map (·.nm)).Nodup := by
      rw [List.Nodup, List.pairwise_map]
      exact srt.imp fun h e => by rw [e] at h; exact lt_irrefl _ h
    have h2 := (hg.gF.map (·.nm)).nodup_iff.2 h1
    rw [List.map_map] at h2
    exact h2
  rw [hG, List.map_append, List.map_cons, List.nodup_append] at hnd
  obtain ⟨_, n2, n3⟩ := hnd
  have g1 : ∀ q ∈ G1, q.f.nm ≠ r.f.nm := fun q hq e => n3 _ (List.mem_map_of_mem (f := fun q : PF => q.f.nm) hq) _ (List.mem_cons_self ..) e
  have g2 : ∀ q ∈ G2, q.f.nm ≠ r.f.nm := fun q hq e => (List.nodup_cons.1 n2).1 (by rw [← e]; exact List.mem_map_of_mem (f := fun q : PF => q.f.nm) hq)
  have mem : ∀ t, t ∈ G1 ++ r' :: G2 → t = r' ∨ (t ∈ g.G ∧ t.f.nm ≠ r.f.nm) := by
    intro t ht
    rcases List.mem_append.1 ht with h | h
    · exact .inr ⟨by rw [hG]; simp [h], g1 t h⟩
    · rcases List.mem_cons.1 h with rfl | h
      · exact .inl rfl
      · exact .inr ⟨by rw [hG]; simp [h], g2 t h⟩
  have eE : (G1 ++ r' :: G2).map entF = g.G.map entF := by
    rw [hG, List.map_append, List.map_append, List.map_cons, List.map_cons]
    unfold entF
    rw [hf, hx, hb]
  refine ⟨⟨?_, delS_mid hg hQ sn, ?_, fun t ht => hg.qo t (by rw [hQ]; exact mem_del ht), ?_, ?_, ?_, born_del (by rw [← hQ]; exact hg.bQ)⟩, eE⟩
  · have : (G1 ++ r' :: G2).map PF.f = g.G.map PF.f := by rw [hG, List.map_append, List.map_append, List.map_cons, List.map_cons, hf]
    show ((G1 ++ r' :: G2).map PF.f).Perm F
    rw [this]
    exact hg.gF
  · intro t ht
    rcases mem t ht with rfl | ⟨h, _⟩
    · exact ho
    · exact hg.go t h
  · intro t ht
    show t.op = onF t.f.nm (Q1 ++ Q2)
    have e0 : ∀ m, onF m (Q1 ++ Q2) = onF m Q1 ++ onF m Q2 := fun m => by
      unfold onF
      rw [List.filter_append, List.map_append]
    rw [e0]
    rcases mem t ht with rfl | ⟨h, hn⟩
    · rw [hp, hf]
    · rw [hg.opn t h, hQ, onF_mid, if_neg (fun e => hn (by rw [← e, hq])), List.nil_append]
  · intro t ht h0
    obtain ⟨u, hu, e1, e2⟩ := hg.lnk t (by rw [hQ]; exact mem_del ht) h0
    rw [hG] at hu
    rcases List.mem_append.1 hu with h | h
    · exact ⟨u, by simp [h], e1, e2⟩
    · rcases List.mem_cons.1 h with rfl | h
      · exact ⟨r', by simp, by rw [hf]; exact e1, by rw [hx]; exact e2⟩
      · exact ⟨u, by simp [h], e1, e2⟩
  · have h1 : ((G1 ++ r' :: G2).map fun x => (entF x).born) = g.G.map fun x => (entF x).born := by
      rw [hG, List.map_append, List.map_append, List.map_cons, List.map_cons]
      unfold entF
      rw [hb]
    refine ⟨by show ((G1 ++ r' :: G2).map fun x => (entF x).born).Nodup; rw [h1]; exact hg.bF.1, ?_⟩
    intro t ht
    rcases mem t ht with rfl | ⟨h, _⟩
    · show t.bn < g.cf
      rw [hb]
      exact hg.bF.2 r hr
    · exact hg.bF.2 t h
theorem p160 (hS : PSt s most last F S fr σ) (ok : Ok most last F S k)
    (hN : atS S n = none → ∀ σ', PSt s most last F S fr σ' → K (.tuple ⟨[u32 0, u32 0, .slice none 0 0, i64 5]⟩) σ')
    (hK : ∀ x, atS S n = some x → ∀ σ' a' e' rows, SlC 1 a' e' (cellsU x.l) rows → PSt s most last F (delS n S) (rows ++ fr) σ' → K (.tuple ⟨[u32 x.rd, u32 x.wr, .slice a' x.l.length e', i64 0]⟩) σ') : Tri Tryz.prog 160 [ptr s, i64 n] σ K := tri_iz (by
  rw [z160]
  have hS0 := hS
  obtain ⟨g, hg, H⟩ := hS
  refine p135 hg H ok.sn (fun h => ?_) (fun Q1 q Q2 h1 h2 hat => ?_)
  · simp only [true_and, tI_int, tB_bool, tP_ptr, tM_map, tS_str, tTup_tup, tL_sl, tIf_if, pSome_some, chk_true, bm_true, bm_false, List.getElem?_cons_zero, List.getElem?_cons_succ, Nat.zero_add, Nat.add_zero, bne_self_eq_false, beq_self_eq_true, ptrEq_some, ptrEq_none, Bool.not_true, Bool.not_false, tAgg_agg, tCons_cons, tNil_nil, add_none, aadd_none, Option.getD_some, Option.getD_none, Option.map_some, Option.map_none]
    refine newAt_mk H fun i8 σ1 H1 => put0 H1 rfl (by simp) fun σ2 H2 => ?_
    exact bne_mk (fun _ => hN h σ2 ⟨g, hg, H2.sep (fun a => by simp only [cnt_app, cnt_cons, cnt_nil, List.flatMap_append, List.flatMap_cons, List.flatMap_nil, List.append_assoc, List.cons_append, List.nil_append, i64, u32, u8, ptr, List.set_cons_zero, List.set_cons_succ]; omega)⟩) (fun h => absurd h (by decide))
  simp only [true_and, tI_int, tB_bool, tP_ptr, tM_map, tS_str, tTup_tup, tL_sl, tIf_if, pSome_some, chk_true, bm_true, bm_false, List.getElem?_cons_zero, List.getElem?_cons_succ, Nat.zero_add, Nat.add_zero, bne_self_eq_false, beq_self_eq_true, ptrEq_some, ptrEq_none, Bool.not_true, Bool.not_false, tAgg_agg, tCons_cons, tNil_nil, add_none, aadd_none, Option.getD_some, Option.getD_none, Option.map_some, Option.map_none]
  refine newAt_mk H fun i8 σ1 H1 => put0 H1 rfl (by simp) fun σ2 H2 => ?_
  simp only [List.set_cons_zero] at H2
  have hq : q ∈ g.Q := by rw [h1]; simp
  have hmem : q.q ∈ S := (atS_mem hat).1
  simp only [ldc_eq (H2.at 1 rfl), true_and, tI_int, tB_bool, tP_ptr, tM_map, tS_str, tTup_tup, tL_sl, tIf_if, pSome_some, chk_true, bm_true, bm_false, List.getElem?_cons_zero, List.getElem?_cons_succ, Nat.zero_add, Nat.add_zero, bne_self_eq_false, beq_self_eq_true, ptrEq_some, ptrEq_none, Bool.not_true, Bool.not_false, tAgg_agg, tCons_cons, tNil_nil, add_none, aadd_none, Option.getD_some, Option.getD_none, Option.map_some, Option.map_none]
  obtain ⟨d1, d2⟩ := PG.dist H h1
  -- out of the map
  have hfind : Instr.findNow (.int .i64) (i64 n) (g.Q.map entQ) 0 = some (some (Q1.length, ptr q.x)) := by
    rcases lookQ (Q := g.Q) (by rw [hg.qS]; exact ok.sn) n with ⟨R1, q', R2, e1, e2, e3, e4, e5, e6⟩ | ⟨_, _, h⟩
    · have hl : R1.length = Q1.length ∧ q' = q := by
        have hnd : (g.Q.map fun t => t.q.n).Nodup := by
          have := ok.sn
          rw [← hg.qS, List.pairwise_map] at this
          rw [List.Nodup, List.pairwise_map]
          exact this.imp fun h => by omega
        have i1 : (g.Q.map fun t => t.q.n)[R1.length]? = some n := by rw [e1]; simp [e2]
        have i2 : (g.Q.map fun t => t.q.n)[Q1.length]? = some n := by rw [h1]; simp [h2]
        have e : R1.length = Q1.length := (List.getElem_inj hnd).1 ((List.getElem?_eq_some_iff.1 i1).2.trans (List.getElem?_eq_some_iff.1 i2).2.symm)
        refine ⟨e, ?_⟩
        have j1 : g.Q[R1.length]? = some q' := by rw [e1]; simp
        have j2 : g.Q[Q1.length]? = some q := by rw [h1]; simp
        rw [e, j2] at j1
        injection j1 with j1
        exact j1.symm
      rw [e4, hl.1, hl.2]
    · exact absurd h2 (h q hq)
  have H3 : Has σ2 ((g.m, .map (g.Q.map entQ) g.cm) :: ((i8, .row .plain [ptr q.x]) :: ((s, g.O most last) :: ((g.f, .map (g.G.map entF) g.cf) :: (g.G.flatMap PF.L ++ (g.Q.flatMap PQ.L ++ fr)))))) := by
    refine H2.sep fun a => ?_
    simp only [PG.R, cnt_app, cnt_cons, cnt_nil, List.flatMap_append, List.flatMap_cons, List.flatMap_nil, List.append_assoc, List.cons_append, List.nil_append, i64, u32, u8, ptr, List.set_cons_zero, List.set_cons_succ]
    omega
  refine mdel0 H3 hfind fun σ3 H4 => ?_
  have e1 : (g.Q.map entQ).eraseIdx Q1.length = (Q1 ++ Q2).map entQ := by
    rw [h1, List.map_append, List.map_cons, List.map_append]
    have := eraseIdx_mid (Q1.map entQ) (entQ q) (Q2.map entQ)
    rw [List.length_map] at this
    exact this
  rw [e1] at H4
  have hx : ∀ {σ' : AS} {L : List (Nat × AObj)}, Has σ' L → (∀ a, cnt a (q.L) ≤ cnt a L) → σ' q.x = some q.O := fun h hc => (h.sep hc).g (by unfold PQ.L; simp)
  have hx3 : σ3 q.x = some q.O := hx H4 fun a => by
    simp only [h1, cnt_app, cnt_cons, cnt_nil, List.flatMap_append, List.flatMap_cons, List.flatMap_nil, List.append_assoc, List.cons_append, List.nil_append, i64, u32, u8, ptr, List.set_cons_zero, List.set_cons_succ]
    omega
  simp only [ldc_eq (H4.at 1 rfl), ldc_eq hx3, true_and, tI_int, tB_bool, tP_ptr, tM_map, tS_str, tTup_tup, tL_sl, tIf_if, pSome_some, chk_true, bm_true, bm_false, List.getElem?_cons_zero, List.getElem?_cons_succ, Nat.zero_add, Nat.add_zero, bne_self_eq_false, beq_self_eq_true, ptrEq_some, ptrEq_none, Bool.not_true, Bool.not_false, tAgg_agg, tCons_cons, tNil_nil, add_none, aadd_none, Option.getD_some, Option.getD_none, Option.map_some, Option.map_none]
  by_cases h : q.q.nm = []
  · rw [PQ.on_b h]
    have hs := hg.qo q hq h
    have H5 : Has σ3 ((q.fi, buO q.a q.q.l.length q.q.wd) :: (q.rows ++ ((g.m, .map ((Q1 ++ Q2).map entQ) g.cm) :: ((s, g.O most last) :: ((g.f, .map (g.G.map entF) g.cf) :: (g.G.flatMap PF.L ++ (Q1.flatMap PQ.L ++ (Q2.flatMap PQ.L ++ fr)))))))) := by
      refine H4.sep fun a => ?_
      simp only [h1, PQ.L, PQ.M_b h, cnt_app, cnt_cons, cnt_nil, List.flatMap_append, List.flatMap_cons, List.flatMap_nil, List.append_assoc, List.cons_append, List.nil_append, i64, u32, u8, ptr, List.set_cons_zero, List.set_cons_succ]
      omega
    simp only [tyAs_b, isSome_some, ldc_eq (H5.at 0 rfl), ldc_eq (H4.at 1 rfl), ldc_eq hx3, tL_ok_eq hs.no, true_and, tI_int, tB_bool, tP_ptr, tM_map, tS_str, tTup_tup, tL_sl, tIf_if, pSome_some, chk_true, bm_true, bm_false, List.getElem?_cons_zero, List.getElem?_cons_succ, Nat.zero_add, Nat.add_zero, bne_self_eq_false, beq_self_eq_true, ptrEq_some, ptrEq_none, Bool.not_true, Bool.not_false, tAgg_agg, tCons_cons, tNil_nil, add_none, aadd_none, Option.getD_some, Option.getD_none, Option.map_some, Option.map_none]
    have hk := hg.delB h1 ok.sn (fun f hf => by have := (ok.nm f hf).1; intro c; rw [c] at this; simp at this) h
    rw [h2] at hk
    refine hK _ hat σ3 q.a 1 q.rows hs ⟨_, hk, H5.sep fun a => ?_⟩
    simp only [PG.R, PG.O, shelfO, cnt_app, cnt_cons, cnt_nil, List.flatMap_append, List.flatMap_cons, List.flatMap_nil, List.append_assoc, List.cons_append, List.nil_append, i64, u32, u8, ptr, List.set_cons_zero, List.set_cons_succ]
    omega
  · obtain ⟨G1, r, G2, hG, r1, r2, r3, r4, r5⟩ := hg.file ok.srt hq h
    have hr : r ∈ g.G := by rw [hG]; simp
    have eop : r.op = onF r.f.nm Q1 ++ q.x :: onF r.f.nm Q2 := by
      rw [hg.opn r hr, h1, onF_mid, if_pos r1.symm]
      rfl
    obtain ⟨jj, o1, o2, o3⟩ := r3.o.at (p := 0) (by rw [List.length_append, List.length_map, eop, List.length_append]; simp; omega)
    have hx0 := hx3
    rw [PQ.on_f h]
    -- without the list's row
    have H5 : Has σ3 ((jj, .row .rw (r.op.map ptr ++ r.oz)) :: ((r.fi, r.O) :: ((i8, .row .plain [ptr q.x]) :: (r.rows ++ ((g.m, .map ((Q1 ++ Q2).map entQ) g.cm) :: ((s, g.O most last) :: ((g.f, .map (g.G.map entF) g.cf) :: (G1.flatMap PF.L ++ (G2.flatMap PF.L ++ (g.Q.flatMap PQ.L ++ fr)))))))))) := by
      refine H4.sep fun a => ?_
      simp only [hG, PF.L, o3, cnt_app, cnt_cons, cnt_nil, List.flatMap_append, List.flatMap_cons, List.flatMap_nil, List.append_assoc, List.cons_append, List.nil_append, i64, u32, u8, ptr, List.set_cons_zero, List.set_cons_succ]
      omega
    have hno : nilOr r.oa r.oe 1 = true := r3.o.no
    simp only [tyAs_f, isSome_none, ldc_eq (H5.at 1 rfl), ldc_eq (H5.at 2 rfl), ldc_eq hx3, PQ.fp_f h, tL_ok_eq hno, ← r2, true_and, tI_int, tB_bool, tP_ptr, tM_map, tS_str, tTup_tup, tL_sl, tIf_if, pSome_some, chk_true, bm_true, bm_false, List.getElem?_cons_zero, List.getElem?_cons_succ, Nat.zero_add, Nat.add_zero, bne_self_eq_false, beq_self_eq_true, ptrEq_some, ptrEq_none, Bool.not_true, Bool.not_false, tAgg_agg, tCons_cons, tNil_nil, add_none, aadd_none, Option.getD_some, Option.getD_none, Option.map_some, Option.map_none]
    have hol : r.op.length ≤ 64 := by
      rw [hg.opn r hr]
      unfold onF
      rw [List.length_map]
      have := List.length_filter_le (fun q : PQ => decide (q.q.nm = r.f.nm)) g.Q
      have := PG.lenQ hg
      have := ok.slen
      omega
    rw [o1]
    have hA : ∀ y ∈ onF r.f.nm Q1, y ≠ q.x := fun y hy => by
      obtain ⟨t, ht, rfl⟩ := List.mem_map.1 hy
      exact d1 t (List.mem_filter.1 ht).1
    have hB : ∀ y ∈ onF r.f.nm Q2, y ≠ q.x := fun y hy => by
      obtain ⟨t, ht, rfl⟩ := List.mem_map.1 hy
      exact d2 t (List.mem_filter.1 ht).1
    have H6 : Has σ3 ((jj, .row .rw ((onF r.f.nm Q1 ++ q.x :: onF r.f.nm Q2).map ptr ++ r.oz)) :: ((r.fi, r.O) :: ((i8, .row .plain [ptr q.x]) :: (r.rows ++ ((g.m, .map ((Q1 ++ Q2).map entQ) g.cm) :: ((s, g.O most last) :: ((g.f, .map (g.G.map entF) g.cf) :: (G1.flatMap PF.L ++ (G2.flatMap PF.L ++ (g.Q.flatMap PQ.L ++ fr)))))))))) := by
      rw [← eop]; exact H5
    refine p188 (m := r.op.length) (x := q.x) (c := i8) (by rw [eop]) hA hB ?_ (by simp) H6 (by omega) fun σ4 z' H7 => ?_
    · intro y hy
      rw [← eop, hg.opn r hr] at hy
      obtain ⟨t, ht, rfl⟩ := List.mem_map.1 hy
      refine ⟨[t.on, t.fp, i64 t.q.mode, i64 t.q.pl, u32 t.q.rd, u32 t.q.wr], ?_⟩
      have : (t.x, t.O) ∈ g.Q.flatMap PQ.L := List.mem_flatMap.2 ⟨t, (List.mem_filter.1 ht).1, by unfold PQ.L; simp⟩
      simp only [List.mem_cons, List.mem_append]
      exact .inr (.inr (.inr (.inr (.inr (.inr (.inr (.inr (.inl this))))))))
    have H8 : Has σ4 ((r.fi, r.O) :: ((jj, .row .rw ((onF r.f.nm Q1 ++ onF r.f.nm Q2).map ptr ++ z')) :: ((i8, .row .plain [ptr q.x]) :: (r.rows ++ ((g.m, .map ((Q1 ++ Q2).map entQ) g.cm) :: ((s, g.O most last) :: ((g.f, .map (g.G.map entF) g.cf) :: (G1.flatMap PF.L ++ (G2.flatMap PF.L ++ (q.L ++ (Q1.flatMap PQ.L ++ (Q2.flatMap PQ.L ++ fr)))))))))))) := by
      refine H7.sep fun a => ?_
      simp only [h1, cnt_app, cnt_cons, cnt_nil, List.flatMap_append, List.flatMap_cons, List.flatMap_nil, List.append_assoc, List.cons_append, List.nil_append, i64, u32, u8, ptr, List.set_cons_zero, List.set_cons_succ]
      omega
    have hx4 : σ4 q.x = some q.O := hx H8 fun a => by
      simp only [cnt_app, cnt_cons, cnt_nil, List.flatMap_append, List.flatMap_cons, List.flatMap_nil, List.append_assoc, List.cons_append, List.nil_append, i64, u32, u8, ptr, List.set_cons_zero, List.set_cons_succ]
      omega
    have hno1 : nilOr (some ⟨jj, 0, none⟩) 1 1 = true := rfl
    simp only [ldc_eq hx4, ldc_eq (H8.at 2 rfl), PQ.fp_f h, ← r2, tL_ok_eq hno1, true_and, tI_int, tB_bool, tP_ptr, tM_map, tS_str, tTup_tup, tL_sl, tIf_if, pSome_some, chk_true, bm_true, bm_false, List.getElem?_cons_zero, List.getElem?_cons_succ, Nat.zero_add, Nat.add_zero, bne_self_eq_false, beq_self_eq_true, ptrEq_some, ptrEq_none, Bool.not_true, Bool.not_false, tAgg_agg, tCons_cons, tNil_nil, add_none, aadd_none, Option.getD_some, Option.getD_none, Option.map_some, Option.map_none]
    refine put0 H8 rfl (by simp) fun σ5 H9 => ?_
    simp only [List.set_cons_zero, List.set_cons_succ] at H9
    have hx5 : σ5 q.x = some q.O := hx H9 fun a => by
      simp only [cnt_app, cnt_cons, cnt_nil, List.flatMap_append, List.flatMap_cons, List.flatMap_nil, List.append_assoc, List.cons_append, List.nil_append, i64, u32, u8, ptr, List.set_cons_zero, List.set_cons_succ]
      omega
    simp only [ldc_eq hx5, ldc_eq (H9.at 2 rfl), true_and, tI_int, tB_bool, tP_ptr, tM_map, tS_str, tTup_tup, tL_sl, tIf_if, pSome_some, chk_true, bm_true, bm_false, List.getElem?_cons_zero, List.getElem?_cons_succ, Nat.zero_add, Nat.add_zero, bne_self_eq_false, beq_self_eq_true, ptrEq_some, ptrEq_none, Bool.not_true, Bool.not_false, tAgg_agg, tCons_cons, tNil_nil, add_none, aadd_none, Option.getD_some, Option.getD_none, Option.map_some, Option.map_none]
    let r' : PF := { r with op := onF r.f.nm Q1 ++ onF r.f.nm Q2, oa := some ⟨jj, 0, none⟩, oe := 1, orows := [(jj, .row .rw ((onF r.f.nm Q1 ++ onF r.f.nm Q2).map ptr ++ z'))], oz := z' }
    obtain ⟨u1, u2⟩ := hg.delQ (r' := r') h1 hG ok.sn ok.srt rfl rfl rfl ⟨r3.b, SlC.row⟩ r1.symm rfl
    rw [h2] at u1
    have hl0 : q.q.l = [] := ok.l0 _ hmem h
    have := hK _ hat σ5 none 0 []
    rw [hl0] at this
    refine this (SlC.nil 0) ⟨_, u1, H9.sep fun a => ?_⟩
    simp only [PG.R, PG.O, shelfO, u2, PF.L, PF.O, fiO, r', cnt_app, cnt_cons, cnt_nil, List.flatMap_append, List.flatMap_cons, List.flatMap_nil, List.append_assoc, List.cons_append, List.nil_append, i64, u32, u8, ptr, List.set_cons_zero, List.set_cons_succ]
    omega)
end
end Go.AI
end
section
set_option linter.unusedSimpArgs false
set_option linter.unusedVariables false
/- A shelf stays well, whatever is done: plain lists; no condition but those that each names. -/
namespace Go.Shelf
open Go.AI
structure FiOk (most : Int) (F : List Fi) : Prop where
  srt : Srt F
  nm : ∀ f ∈ F, named f.nm
  byte : ∀ f ∈ F, ∀ c ∈ f.b, 0 ≤ c ∧ c < 256
  flen : F.length ≤ 64
  tot : (totF F : Int) ≤ most
structure StOk (last : Int) (F : List Fi) (k : Nat) (x : Sm) : Prop where
  sle : 1 ≤ x.n ∧ x.n ≤ last
  has : x.nm ≠ [] → hasF F x.nm = true
  pl : x.pl ≤ (charsOf F x).length
  ln : x.l.length ≤ 4096
  lc : ∀ c ∈ x.l, 0 ≤ c ∧ c ≤ 4294967295
  l0 : x.nm ≠ [] → x.l = []
  md : x.mode = 1 ∨ x.mode = 2 ∨ x.mode = 3 ∨ x.mode = 5
  rd : x.rd ≤ 1048576 * k
  wr : x.wr ≤ 1048576 * k
section
variable {most last : Int} {F F' : List Fi} {S : List Sm} {k : Nat} {x y : Sm} {n : List UInt8} {mode : Int} {b l ms : List Int} {w : Bool}
theorem Ok.fi (ok : Ok most last F S k) : FiOk most F := ⟨ok.srt, ok.nm, ok.byte, ok.flen, ok.tot⟩
theorem Ok.st (ok : Ok most last F S k) (h : x ∈ S) : StOk last F k x := ⟨ok.sle x h, ok.has x h, ok.pl x h, ok.ln x h, ok.lc x h, ok.l0 x h, ok.md x h, ok.rd x h, ok.wr x h⟩
theorem Ok.of (h0 : 0 ≤ most) (h1 : most ≤ 1048576) (h2 : 0 ≤ last) (h3 : last ≤ k) (h4 : k ≤ 1024) (hf : FiOk most F) (sn : S.Pairwise fun x y => x.n < y.n) (sl : S.length ≤ 64) (hs : ∀ x ∈ S, StOk last F k x) : Ok most last F S k :=
  ⟨h0, h1, h2, h3, h4, hf.srt, hf.nm, hf.byte, hf.flen, hf.tot, sn, fun x h => (hs x h).sle, sl, fun x h => (hs x h).has, fun x h => (hs x h).pl, fun x h => (hs x h).ln, fun x h => (hs x h).lc, fun x h => (hs x h).l0, fun x h => (hs x h).md, fun x h => (hs x h).rd, fun x h => (hs x h).wr⟩
theorem StOk.mono (h : StOk last F k x) {last' : Int} {k' : Nat} (hl : last ≤ last') (hk : k ≤ k') : StOk last' F k' x :=
  ⟨⟨h.sle.1, by have := h.sle.2; omega⟩, h.has, h.pl, h.ln, h.lc, h.l0, h.md, by have := h.rd; omega, by have := h.wr; omega⟩
/-- Other files, of which this stream's is as long and more. -/
theorem StOk.file (h : StOk last F k x) (hh : x.nm ≠ [] → hasF F' x.nm = true) (hb : x.nm ≠ [] → (bOf F x.nm).length ≤ (bOf F' x.nm).length) : StOk last F' k x := by
  refine ⟨h.sle, hh, ?_, h.ln, h.lc, h.l0, h.md, h.rd, h.wr⟩
  have := h.pl
  rw [charsOf_len] at this ⊢
  split
  · rename_i e; rw [if_pos e] at this; exact this
  · rename_i e
    rw [if_neg e] at this
    have hb := hb e
    refine Nat.le_trans this ?_
    unfold sizeW
    split <;> omega
theorem Ok.next (ok : Ok most last F S k) (hk : k + 1 ≤ 1024) : Ok most last F S (k + 1) :=
  .of ok.most0 ok.most1 ok.last0 (by have := ok.last1; omega) hk ok.fi ok.sn ok.slen fun x h => (ok.st h).mono (Int.le_refl _) (Nat.le_succ _)
theorem held_false : held S n = false ↔ ∀ x ∈ S, x.nm ≠ n := by unfold held; simp
theorem named_ne (h : named n) : n ≠ [] := by have := h.1; intro c; rw [c] at this; simp at this
theorem setB_fi (hf : FiOk most F) (hb : ∀ c ∈ b, 0 ≤ c ∧ c < 256) (ht : hasF F n = true → (totF F : Int) - (bOf F n).length + b.length ≤ most) : FiOk most (setB n b F) := by
  refine ⟨setB_srt hf.srt, ?_, ?_, by unfold setB; rw [List.length_map]; exact hf.flen, ?_⟩
  · intro f h
    obtain ⟨g, hg, rfl⟩ := List.mem_map.1 h
    have := hf.nm g hg
    split <;> exact this
  · intro f h
    obtain ⟨g, hg, rfl⟩ := List.mem_map.1 h
    split
    · exact hb
    · exact hf.byte g hg
  · cases h : hasF F n with
    | true =>
      obtain ⟨f, h1, rfl⟩ := hasF_iff.1 h
      have := totF_setB hf.srt h1 b
      have h2 := ht h
      rw [bOf_mem hf.srt h1] at h2
      omega
    | false =>
      rw [setB_none (hasF_false.1 h)]
      exact hf.tot
theorem insF_fi (hf : FiOk most F) (hn : named n) (hh : hasF F n = false) (h64 : F.length ≠ 64) (hb : ∀ c ∈ b, 0 ≤ c ∧ c < 256) (ht : (totF F : Int) + b.length ≤ most) : FiOk most (insF ⟨n, b⟩ F) := by
  have hp := insF_perm ⟨n, b⟩ F
  refine ⟨insF_srt hf.srt (hasF_false.1 hh), ?_, ?_, ?_, ?_⟩
  · intro f h
    rcases List.mem_cons.1 (hp.mem_iff.1 h) with rfl | h
    · exact hn
    · exact hf.nm f h
  · intro f h
    rcases List.mem_cons.1 (hp.mem_iff.1 h) with rfl | h
    · exact hb
    · exact hf.byte f h
  · have := hp.length_eq
    rw [List.length_cons] at this
    have := hf.flen
    omega
  · rw [totF_insF]
    show ((b.length + totF F : Nat) : Int) ≤ most
    omega
theorem putE_zero (h : putE most F S n b = 0) : named n ∧ held S n = false ∧ (hasF F n = false → F.length ≠ 64) ∧ (totF F : Int) + b.length - (bOf F n).length ≤ most := by
  unfold putE at h
  split at h
  · cases h
  · rename_i h1
    split at h
    · cases h
    · rename_i h2
      split at h
      · cases h
      · rename_i h3
        split at h
        · cases h
        · rename_i h4
          exact ⟨Decidable.not_not.1 h1, by simpa using h2, fun h e => h3 ⟨h, e⟩, by omega⟩
theorem Ok.put (ok : Ok most last F S k) (hk : k + 1 ≤ 1024) (hb : ∀ c ∈ b, 0 ≤ c ∧ c < 256) (h : putE most F S n b = 0) : Ok most last (putF F n b) S (k + 1) := by
  obtain ⟨h1, h2, h3, h4⟩ := putE_zero h
  have hno := held_false.1 h2
  have other : ∀ x ∈ S, hasF (putF F n b) x.nm = hasF F x.nm ∧ bOf (putF F n b) x.nm = bOf F x.nm := by
    intro x hx
    have hne := hno x hx
    unfold putF
    cases hh : hasF F n with
    | true =>
      rw [if_pos rfl]
      exact ⟨hasF_setB _ _ _ _, by rw [bOf_setB, if_neg (fun c => hne c.1.symm)]⟩
    | false =>
      rw [if_neg (by decide)]
      refine ⟨?_, by rw [bOf_insF ok.srt hh, if_neg (fun c => hne c.symm)]⟩
      rw [hasF_insF]
      have : (n == x.nm) = false := by simpa using fun c => hne (Eq.symm c)
      show (n == x.nm || _) = _
      rw [this, Bool.false_or]
  refine .of ok.most0 ok.most1 ok.last0 (by have := ok.last1; omega) hk ?_ ok.sn ok.slen fun x hx => ?_
  · unfold putF
    cases hh : hasF F n with
    | true => rw [if_pos rfl]; exact setB_fi ok.fi hb (fun _ => by omega)
    | false =>
      rw [if_neg (by decide)]
      have e := bOf_none hh
      rw [e] at h4
      exact insF_fi ok.fi h1 hh (h3 hh) hb (by simpa using h4)
  · obtain ⟨e1, e2⟩ := other x hx
    exact ((ok.st hx).mono (Int.le_refl _) (Nat.le_succ _)).file (fun h => by rw [e1]; exact ok.has x hx h) (fun _ => by rw [e2]; exact Nat.le_refl _)
theorem Ok.del (ok : Ok most last F S k) (hk : k + 1 ≤ 1024) (h : delB F S n = true) : Ok most last (delF n F) S (k + 1) := by
  unfold delB at h
  rw [Bool.and_eq_true, Bool.not_eq_true'] at h
  have hno := held_false.1 h.2
  obtain ⟨f, hf, rfl⟩ := hasF_iff.1 h.1
  have sub : ∀ g, g ∈ delF f.nm F → g ∈ F := fun g hg => (List.mem_filter.1 hg).1
  refine .of ok.most0 ok.most1 ok.last0 (by have := ok.last1; omega) hk ⟨delF_srt ok.srt, fun g hg => ok.nm g (sub g hg), fun g hg => ok.byte g (sub g hg), ?_, ?_⟩ ok.sn ok.slen fun x hx => ?_
  · have := List.length_filter_le (fun g : Fi => !(g.nm == f.nm)) F
    have := ok.flen
    show (List.filter _ F).length ≤ 64
    omega
  · have := totF_delF ok.srt hf
    have := ok.tot
    omega
  · have hne := hno x hx
    exact ((ok.st hx).mono (Int.le_refl _) (Nat.le_succ _)).file (fun h => by rw [hasF_delF (fun c => hne c.symm)]; exact ok.has x hx h) (fun _ => by rw [bOf_delF (fun c => hne c.symm)]; exact Nat.le_refl _)
theorem openE_zero (h : openE F S n mode = 0) : named n ∧ (mode = 1 ∨ mode = 2 ∨ mode = 3 ∨ mode = 5) ∧ S.length ≠ 64 ∧ (hasF F n = false → F.length ≠ 64) ∧ (held S n = true → mode = 2) := by
  unfold openE at h
  split at h
  · cases h
  · rename_i h1
    split at h
    · cases h
    · rename_i h2
      split at h
      · cases h
      · rename_i h3
        split at h
        · cases h
        · rename_i h4
          split at h
          · cases h
          · rename_i h5
            refine ⟨Decidable.byContradiction fun c => h1 (.inl c), Decidable.byContradiction fun c => h1 (.inr c), h2, fun h e => h4 ⟨h, e⟩, fun hh => Decidable.byContradiction fun c => h5 ⟨hh, .inr c⟩⟩
theorem snoc_sn (sn : S.Pairwise fun x y => x.n < y.n) (h : ∀ x ∈ S, x.n < y.n) : (S ++ [y]).Pairwise fun x y => x.n < y.n := by
  rw [List.pairwise_append]
  exact ⟨sn, by simp, fun a ha b hb => by rw [List.mem_singleton.1 hb]; exact h a ha⟩
theorem Ok.open (ok : Ok most last F S k) (hk : k + 1 ≤ 1024) (h : openE F S n mode = 0) : Ok most (last + 1) (openF F n mode) (S ++ [openS F last n mode w]) (k + 1) := by
  obtain ⟨h1, h2, h3, h4, h5⟩ := openE_zero h
  have hne := named_ne h1
  have fi : FiOk most (openF F n mode) := by
    unfold openF
    cases hh : hasF F n with
    | true =>
      rw [if_pos rfl]
      split
      · refine setB_fi ok.fi (by simp) fun _ => ?_
        have := ok.tot
        simp only [List.length_nil]
        omega
      · exact ok.fi
    | false =>
      rw [if_neg (by decide)]
      refine insF_fi ok.fi h1 hh (h4 hh) (by simp) ?_
      have := ok.tot
      simpa using this
  have hhas : hasF (openF F n mode) n = true := by
    unfold openF
    cases hh : hasF F n with
    | true =>
      rw [if_pos rfl]
      split
      · rw [hasF_setB]; exact hh
      · exact hh
    | false => rw [if_neg (by decide), hasF_insF]; simp
  have last1 := ok.last1
  refine .of ok.most0 ok.most1 (by have := ok.last0; omega) (by omega) hk fi (snoc_sn ok.sn fun x hx => ?_) (by rw [List.length_append]; have := ok.slen; simp; omega) fun x hx => ?_
  · have := (ok.sle x hx).2
    show x.n < last + 1
    omega
  · rcases List.mem_append.1 hx with hx | hx
    · refine ((ok.st hx).mono (by omega) (Nat.le_succ _)).file (fun h => ?_) (fun h => ?_)
      · have := ok.has x hx h
        unfold openF
        split
        · split
          · rw [hasF_setB]; exact this
          · exact this
        · rw [hasF_insF, this]; simp
      · unfold openF
        cases hh : hasF F n with
        | true =>
          rw [if_pos rfl]
          split
          · rename_i hm
            rw [bOf_setB, if_neg]
            · exact Nat.le_refl _
            · rintro ⟨c, _⟩
              have hd : held S n = true := by
                unfold held
                rw [List.any_eq_true]
                exact ⟨x, hx, by rw [c]; simp⟩
              have := h5 hd
              omega
          · exact Nat.le_refl _
        | false =>
          rw [if_neg (by decide), bOf_insF ok.srt hh, if_neg]
          · exact Nat.le_refl _
          · intro c
            have c : n = x.nm := c
            rw [c] at hh
            rw [ok.has x hx h] at hh
            cases hh
    · rw [List.mem_singleton.1 hx]
      refine ⟨⟨by have := ok.last0; show 1 ≤ last + 1; omega, Int.le_refl _⟩, fun _ => hhas, ?_, by simp [openS], by simp [openS], fun _ => rfl, h2, by simp [openS], by simp [openS]⟩
      rw [charsOf_len, if_neg (show ¬ (openS F last n mode w).nm = [] from hne)]
      show (if mode = 5 then sizeW w (bOf (openF F n mode) n) else 0) ≤ sizeW w (bOf (openF F n mode) n)
      split
      · exact Nat.le_refl _
      · exact Nat.zero_le _
theorem putC_le {c : Int} (h : 0 ≤ c ∧ c ≤ 4294967295) : 0 ≤ putC w c ∧ putC w c ≤ 4294967295 := by
  unfold putC
  split
  · exact h
  · split <;> omega
theorem Ok.buf (ok : Ok most last F S k) (hk : k + 1 ≤ 1024) (hc : ∀ c ∈ l, 0 ≤ c ∧ c ≤ 4294967295) (h : bufE S l.length mode = 0) : Ok most (last + 1) F (S ++ [bufS last l mode w]) (k + 1) := by
  unfold bufE at h
  split at h
  · cases h
  rename_i h1
  split at h
  · cases h
  rename_i h2
  have last1 := ok.last1
  refine .of ok.most0 ok.most1 (by have := ok.last0; omega) (by omega) hk ok.fi (snoc_sn ok.sn fun x hx => ?_) (by rw [List.length_append]; have := ok.slen; simp; omega) fun x hx => ?_
  · have := (ok.sle x hx).2
    show x.n < last + 1
    omega
  · rcases List.mem_append.1 hx with hx | hx
    · exact (ok.st hx).mono (by omega) (Nat.le_succ _)
    · rw [List.mem_singleton.1 hx]
      refine ⟨⟨by have := ok.last0; show 1 ≤ last + 1; omega, Int.le_refl _⟩, fun h => absurd rfl h, by simp [bufS], by simp only [bufS, List.length_map]; omega, ?_, fun h => absurd rfl h, ?_, by simp [bufS], by simp [bufS]⟩
      · intro c hc'
        obtain ⟨d, hd, rfl⟩ := List.mem_map.1 hc'
        exact putC_le (hc d hd)
      · show mode = 1 ∨ mode = 2 ∨ mode = 3 ∨ mode = 5
        omega
theorem setS_len (S : List Sm) (y : Sm) : (setS y S).length = S.length := by unfold setS; rw [List.length_map]
theorem Ok.upd (ok : Ok most last F S k) (hk : k + 1 ≤ 1024) (hy : StOk last F (k + 1) y) : Ok most last F (setS y S) (k + 1) := by
  refine .of ok.most0 ok.most1 ok.last0 (by have := ok.last1; omega) hk ok.fi (setS_sn ok.sn) (by rw [setS_len]; exact ok.slen) fun z hz => ?_
  rcases setS_mem hz with rfl | hz
  · exact hy
  · exact (ok.st hz).mono (Int.le_refl _) (Nat.le_succ _)
theorem Ok.rdS (ok : Ok most last F S k) (hk : k + 1 ≤ 1024) (hx : x ∈ S) {j : Nat} (hp : x.pl + j ≤ (charsOf F x).length) : Ok most last F (setS (rdS x j) S) (k + 1) := by
  have h := ok.st hx
  have hc := chars_le ok.d hx
  exact ok.upd hk ⟨h.sle, h.has, hp, h.ln, h.lc, h.l0, h.md, by have := h.rd; show x.rd + j ≤ _; omega, by have := h.wr; show x.wr ≤ _; omega⟩
theorem Ok.seek (ok : Ok most last F S k) (hk : k + 1 ≤ 1024) (hx : x ∈ S) {p q : Int} : Ok most last F (setS (seekS F x p q) S) (k + 1) := by
  have h := ok.st hx
  refine ok.upd hk ⟨h.sle, h.has, ?_, h.ln, h.lc, h.l0, h.md, by have := h.rd; show x.rd ≤ _; omega, by have := h.wr; show x.wr ≤ _; omega⟩
  have hp := h.pl
  show (seekTo (if q = 0 then 0 else if q = 1 then (x.pl : Int) else (charsOf F x).length) (charsOf F x).length p).toNat ≤ (charsOf F x).length
  have := seekTo_in (base := if q = 0 then 0 else if q = 1 then (x.pl : Int) else (charsOf F x).length) (sz := (charsOf F x).length) (p := p) (by split; omega; split <;> omega) (by split; omega; split <;> omega)
  omega
theorem Ok.close (ok : Ok most last F S k) (hk : k + 1 ≤ 1024) {m : Int} : Ok most last F (delS m S) (k + 1) := by
  refine .of ok.most0 ok.most1 ok.last0 (by have := ok.last1; omega) hk ok.fi (ok.sn.filter _) ?_ fun z hz => (ok.st (List.mem_filter.1 hz).1).mono (Int.le_refl _) (Nat.le_succ _)
  have := List.length_filter_le (fun y : Sm => !(y.n == m)) S
  have := ok.slen
  show (List.filter _ S).length ≤ 64
  omega
theorem wrE_zero (h : wrE most F x ms = 0) : x.mode ≠ 2 ∧ (x.nm ≠ [] → (totF F : Int) - (bOf F x.nm).length + (wrB (bOf F x.nm) x ms).length ≤ most) := by
  unfold wrE at h
  split at h
  · cases h
  · rename_i h1
    split at h
    · cases h
    · rename_i h2
      exact ⟨h1, fun hne => by
        have : ¬ ((totF F : Int) - (bOf F x.nm).length + (wrB (bOf F x.nm) x ms).length > most) := fun c => h2 ⟨hne, c⟩
        omega⟩
theorem Ok.write (ok : Ok most last F S k) (hk : k + 1 ≤ 1024) (hx : x ∈ S) (hc : ∀ c ∈ ms, 0 ≤ c ∧ c ≤ 4294967295) (hm : ms.length ≤ 1000000) (h : wrE most F x ms = 0) : Ok most last (wrF F x ms) (setS (wrS x ms) S) (k + 1) := by
  obtain ⟨h1, h2⟩ := wrE_zero h
  have hs := ok.st hx
  by_cases e : x.nm = []
  · have eF : wrF F x ms = F := by unfold wrF; rw [if_pos e]
    have eS : wrS x ms = { x with l := bufW x.l x.pl (ms.map (putC x.wd)), pl := min (x.pl + ms.length) x.l.length, wr := x.wr + ms.length } := by unfold wrS; rw [if_pos e]
    have hp := hs.pl
    rw [charsOf_len, if_pos e] at hp
    rw [eF]
    refine ok.upd hk ?_
    rw [eS]
    refine ⟨hs.sle, hs.has, ?_, ?_, ?_, fun h => absurd e h, hs.md, by have := hs.rd; show x.rd ≤ _; omega, by have := hs.wr; show x.wr + ms.length ≤ _; omega⟩
    · rw [charsOf_len, if_pos (show ({ x with l := bufW x.l x.pl (ms.map (putC x.wd)), pl := min (x.pl + ms.length) x.l.length, wr := x.wr + ms.length } : Sm).nm = [] from e)]
      show min (x.pl + ms.length) x.l.length ≤ (bufW x.l x.pl (ms.map (putC x.wd))).length
      rw [bufW_len hp]
      omega
    · show (bufW x.l x.pl (ms.map (putC x.wd))).length ≤ 4096
      rw [bufW_len hp]
      exact hs.ln
    · intro c hcm
      have hcm : c ∈ bufW x.l x.pl (ms.map (putC x.wd)) := hcm
      unfold bufW at hcm
      rcases List.mem_append.1 hcm with hcm | hcm
      · rcases List.mem_append.1 hcm with hcm | hcm
        · exact hs.lc c (List.mem_of_mem_take hcm)
        · obtain ⟨d, hd, rfl⟩ := List.mem_map.1 (List.mem_of_mem_take hcm)
          exact putC_le (hc d hd)
      · exact hs.lc c (List.mem_of_mem_drop hcm)
  · have hp := hs.pl
    rw [charsOf_len, if_neg e] at hp
    have hu := un_le hp
    have hh := hs.has e
    have eF : wrF F x ms = setB x.nm (wrB (bOf F x.nm) x ms) F := by unfold wrF; rw [if_neg e]
    have eS : wrS x ms = { x with pl := x.pl + ms.length, wr := x.wr + ms.length } := by unfold wrS; rw [if_neg e]
    have hlen : (bOf F x.nm).length ≤ (wrB (bOf F x.nm) x ms).length := by rw [wrB_len hu]; omega
    have eb : bOf (setB x.nm (wrB (bOf F x.nm) x ms) F) x.nm = wrB (bOf F x.nm) x ms := by rw [bOf_setB, if_pos ⟨rfl, hh⟩]
    have fi : FiOk most (wrF F x ms) := by
      rw [eF]
      refine setB_fi ok.fi (fun c hcm => ?_) (fun _ => h2 e)
      unfold wrB at hcm
      rcases setA_mem hcm with hcm | hcm
      · exact bOf_byte ok.byte _ c hcm
      · exact enc_byte (fun d hd => (hc d hd).1) c hcm
    refine .of ok.most0 ok.most1 ok.last0 (by have := ok.last1; omega) hk fi (setS_sn ok.sn) (by rw [setS_len]; exact ok.slen) fun z hz => ?_
    rw [eF]
    rcases setS_mem hz with rfl | hz
    · rw [eS]
      refine ⟨hs.sle, fun h => ?_, ?_, hs.ln, hs.lc, hs.l0, hs.md, by have := hs.rd; show x.rd ≤ _; omega, by have := hs.wr; show x.wr + ms.length ≤ _; omega⟩
      · show hasF _ x.nm = true
        rw [hasF_setB]; exact hh
      · rw [charsOf_len, if_neg (show ¬ ({ x with pl := x.pl + ms.length, wr := x.wr + ms.length } : Sm).nm = [] from e)]
        show x.pl + ms.length ≤ sizeW x.wd (bOf (setB x.nm (wrB (bOf F x.nm) x ms) F) x.nm)
        rw [eb]
        apply un_size
        rw [wrB_len hu]
        omega
    · refine ((ok.st hz).mono (Int.le_refl _) (Nat.le_succ _)).file (fun h => by rw [hasF_setB]; exact ok.has z hz h) (fun h => ?_)
      rw [bOf_setB]
      split
      · rename_i c
        rw [← c.1]
        exact hlen
      · exact Nat.le_refl _
theorem Ok.new {m : Int} (h0 : 0 ≤ m) (h1 : m ≤ 1048576) : Ok m 0 [] [] 0 :=
  .of h0 h1 (Int.le_refl _) (Int.le_refl _) (by decide) ⟨List.Pairwise.nil, by simp, by simp, by simp, by simpa [totF] using h0⟩ List.Pairwise.nil (by simp) (by simp)
end
end Go.Shelf
end
