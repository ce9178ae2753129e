/- Lemmas of the abstract condition ahead of code (a part of the library that the claim's proof stands on); they hold with no condition but those that each names. -/
import Derived.Test.YtlofpopejkohbaaGreatGkBase
import Derived.Test.YtlofpopejkohbaaGreatGyS1
section
set_option linter.unusedSimpArgs false
set_option linter.unusedVariables false
set_option maxRecDepth 100000
/- A map's entries, one by one, in any order; no condition but those that each names. -/
namespace Go.AI
open Go.Proofs
-- a map's entries, one by one
section
variable {α : Type} {ent : α → MapEntry}
def BornOk (ent : α → MapEntry) (ws : List α) (c : Nat) : Prop := (ws.map fun x => (ent x).born).Nodup ∧ ∀ x ∈ ws, (ent x).born < c
theorem find_born {ws : List α} (h : (ws.map fun x => (ent x).born).Nodup) {q : α} (hq : q ∈ ws) : (ws.map ent).find? (fun e => e.born == (ent q).born) = some (ent q) := by
  induction ws with
  | nil => cases hq
  | cons r ws ih =>
    rw [List.map_cons, List.nodup_cons] at h
    rw [List.map_cons, List.find?_cons]
    by_cases e : (ent r).born = (ent q).born
    · rcases List.mem_cons.1 hq with rfl | hq
      · simp
      · exact absurd (by rw [e]; exact List.mem_map_of_mem (f := fun q => (ent q).born) hq) h.1
    · have e' : ((ent r).born == (ent q).born) = false := by simpa using e
      rw [e']
      rcases List.mem_cons.1 hq with rfl | hq
      · exact absurd rfl e
      · exact ih h.2 hq
theorem nodup_b {ws : List α} {c : Nat} (hb : BornOk ent ws c) : ws.Nodup := by
  have := hb.1
  rw [List.Nodup, List.pairwise_map] at this
  exact this.imp fun h e => h (by rw [e])
theorem mnext_m {σ : AS} {ws : List α} {m c j : Nat} {S R : List α} {Y : List (Nat × AObj)} {G : Option (Value × Value) → AS → Prop} (Hh : Has σ ((j, .iter (some m) c (S.map fun x => (ent x).born) c) :: Y)) (hm : (m, AObj.map (ws.map ent) c) ∈ Y) (hb : BornOk ent ws c) (hp : (S ++ R).Perm ws)
    (hQ : ∀ q R', R.Perm (q :: R') → ∀ σ', Has σ' ((j, .iter (some m) c ((S ++ [q]).map fun x => (ent x).born) c) :: Y) → G (some ((ent q).key, (ent q).val)) σ') (hZ : R = [] → G none σ) : mnext σ j G := by
  unfold mnext
  rw [Hh.2 _ (List.mem_cons_self ..)]
  simp only
  unfold mapAt
  rw [Hh.2 _ (List.mem_cons_of_mem _ hm)]
  simp only
  have hnb : ((S ++ R).map fun x => (ent x).born).Nodup := ((hp.map fun x => (ent x).born).nodup_iff).2 hb.1
  have hun : ∀ q ∈ ws, unseen (S.map fun x => (ent x).born) (ent q) = true ↔ q ∈ R := by
    intro q hq
    unfold unseen
    rw [Bool.not_eq_true', List.contains_eq_mem, decide_eq_false_iff_not]
    constructor
    · intro h
      rcases List.mem_append.1 (hp.mem_iff.2 hq) with h' | h'
      · exact absurd (List.mem_map_of_mem (f := fun x => (ent x).born) h') h
      · exact h'
    · intro h h'
      rw [List.map_append, List.nodup_append] at hnb
      obtain ⟨r, hr, e⟩ := List.mem_map.1 h'
      exact hnb.2.2 _ (List.mem_map_of_mem (f := fun x => (ent x).born) hr) _ (List.mem_map_of_mem (f := fun x => (ent x).born) h) e
  refine chk_mk ?_ ?_
  · unfold iterOk
    cases hS : S with
    | nil => rfl
    | cons s S' =>
      have hsw : s ∈ ws := hp.mem_iff.1 (by rw [hS]; simp)
      have : (ws.map ent).any (fun e => Nat.blt e.born c) = true := List.any_eq_true.2 ⟨ent s, List.mem_map_of_mem hsw, by simpa [Nat.blt_eq] using hb.2 s hsw⟩
      rw [this]
      simp
  · rw [mcase_iff]
    refine ⟨fun e he => ?_, fun h => ?_⟩
    · obtain ⟨he1, he2⟩ := List.mem_filter.1 he
      obtain ⟨q, hq, rfl⟩ := List.mem_map.1 he1
      have hqR := (hun q hq).1 he2
      obtain ⟨r1, r2, hr⟩ := List.append_of_mem hqR
      refine hQ q (r1 ++ r2) (by rw [hr]; exact List.perm_middle) _ ?_
      have := Hh.upd 0 rfl (.iter (some m) c ((S ++ [q]).map fun x => (ent x).born) c)
      have e : (S.map fun x => (ent x).born) ++ [(ent q).born] = (S ++ [q]).map fun x => (ent x).born := by rw [List.map_append]; rfl
      rw [e]
      exact this
    · refine hZ ?_
      cases hR : R with
      | nil => rfl
      | cons r R' =>
        have hrw : r ∈ ws := hp.mem_iff.1 (by rw [hR]; simp)
        have h1 := (hun r hrw).2 (by rw [hR]; simp)
        have : ((ws.map ent).any fun e => unseen (S.map fun x => (ent x).born) e && Nat.blt e.born c) = true := List.any_eq_true.2 ⟨ent r, List.mem_map_of_mem hrw, by
          rw [h1, Bool.true_and]
          simpa [Nat.blt_eq] using hb.2 r hrw⟩
        rw [this] at h
        cases h
theorem mentry_m {σ : AS} {ws : List α} {m c j : Nat} {S : List α} {q : α} {Y : List (Nat × AObj)} {G : Value → Value → Prop} (Hh : Has σ ((j, .iter (some m) c ((S ++ [q]).map fun x => (ent x).born) c) :: Y)) (hm : (m, AObj.map (ws.map ent) c) ∈ Y) (hb : BornOk ent ws c) (hq : q ∈ ws) (hG : G (ent q).key (ent q).val) : mentry σ j G := by
  unfold mentry
  rw [Hh.2 _ (List.mem_cons_self ..)]
  simp only
  have e : ((S ++ [q]).map fun x => (ent x).born).getLast? = some (ent q).born := by rw [List.map_append]; simp
  rw [e]
  simp only
  rw [Hh.2 _ (List.mem_cons_of_mem _ hm)]
  simp only
  refine req_mk (by first | trivial | rfl) ?_
  rw [find_born hb.1 hq]
  exact hG
theorem rngM_m {σ : AS} {ws : List α} {m c : Nat} {Y : List (Nat × AObj)} {G : Nat → AS → Prop} (Hh : Has σ Y) (hm : (m, AObj.map (ws.map ent) c) ∈ Y) (hG : ∀ j σ', Has σ' ((j, .iter (some m) c [] c) :: Y) → G j σ') : rngM σ (some m) G := by
  unfold rngM
  simp only
  unfold mapAt
  rw [Hh.2 _ hm]
  exact newAt_mk Hh hG
end
end Go.AI
end
section
set_option linter.unusedSimpArgs false
set_option linter.unusedVariables false
set_option maxRecDepth 10000
/- The program's shelf in memory; a map's entries one by one; the small functions; no condition but those that each names. -/
namespace Go.AI
open Go.Proofs Go.Shelf
abbrev shelfO (most last : Int) (f st : Nat) : AObj := .row .plain [i64 most, i64 last, .map (some f), .map (some st)]
structure PF where
  f : Fi
  fi : Nat
  a : Option Addr
  e : Nat
  rows : List (Nat × AObj)
  op : List Nat
  oa : Option Addr
  oe : Nat
  orows : List (Nat × AObj)
  oz : List Value
  bn : Nat
structure PQ where
  q : Sm
  x : Nat
  fi : Nat
  a : Option Addr
  rows : List (Nat × AObj)
  bn : Nat
abbrev PF.O (g : PF) : AObj := fiO g.a g.f.b.length g.e g.oa g.op.length g.oe
def PF.L (g : PF) : List (Nat × AObj) := (g.fi, g.O) :: (g.rows ++ g.orows)
structure PF.ok (g : PF) : Prop where
  b : SlC 1 g.a g.e (cells8 g.f.b) g.rows
  o : SlC 1 g.oa g.oe (g.op.map ptr ++ g.oz) g.orows
def PQ.on (q : PQ) : Value := if q.q.nm = [] then .iface tyB (ptr q.fi) else .iface (tyW q.q.wd) (hold q.fi)
def PQ.fp (q : PQ) : Value := if q.q.nm = [] then .pointer none else ptr q.fi
abbrev PQ.O (q : PQ) : AObj := .row .plain [q.on, q.fp, i64 q.q.mode, i64 q.q.pl, u32 q.q.rd, u32 q.q.wr]
def PQ.M (q : PQ) : List (Nat × AObj) := if q.q.nm = [] then (q.fi, buO q.a q.q.l.length q.q.wd) :: q.rows else []
def PQ.L (q : PQ) : List (Nat × AObj) := (q.x, q.O) :: q.M
def PQ.ok (q : PQ) : Prop := q.q.nm = [] → SlC 1 q.a 1 (cellsU q.q.l) q.rows
def entF (g : PF) : MapEntry := { key := .string (bsV g.f.nm), val := ptr g.fi, born := g.bn }
def entQ (q : PQ) : MapEntry := { key := i64 q.q.n, val := ptr q.x, born := q.bn }
structure PG where
  G : List PF
  cf : Nat
  f : Nat
  Q : List PQ
  cm : Nat
  m : Nat
abbrev PG.O (g : PG) (most last : Int) : AObj := shelfO most last g.f g.m
def PG.R (g : PG) : List (Nat × AObj) := (g.f, .map (g.G.map entF) g.cf) :: (g.m, .map (g.Q.map entQ) g.cm) :: (g.G.flatMap PF.L ++ g.Q.flatMap PQ.L)
/-- The streams that lie on a file. -/
def onF (n : List UInt8) (Q : List PQ) : List Nat := (Q.filter fun q => decide (q.q.nm = n)).map PQ.x
structure PG.ok (g : PG) (F : List Fi) (S : List Sm) : Prop where
  gF : (g.G.map PF.f).Perm F
  qS : g.Q.map PQ.q = S
  go : ∀ r ∈ g.G, r.ok
  qo : ∀ q ∈ g.Q, q.ok
  opn : ∀ r ∈ g.G, r.op = onF r.f.nm g.Q
  lnk : ∀ q ∈ g.Q, q.q.nm ≠ [] → ∃ r ∈ g.G, r.f.nm = q.q.nm ∧ r.fi = q.fi
  bF : BornOk entF g.G g.cf
  bQ : BornOk entQ g.Q g.cm
/-- The program's shelf in a state, with what lies beside it. -/
def PSt (s : Nat) (most last : Int) (F : List Fi) (S : List Sm) (fr : List (Nat × AObj)) (σ : AS) : Prop :=
  ∃ g : PG, g.ok F S ∧ Has σ ((s, g.O most last) :: (g.R ++ fr))
theorem find_at {α : Type} {ent : α → MapEntry} {d : TypeDesc} {k : Value} : ∀ (l1 : List α) (q : α) (l2 : List α) (i : Nat), Instr.sameNow d k (ent q).key = some true → (∀ r ∈ l1, Instr.sameNow d k (ent r).key = some false) → Instr.findNow d k ((l1 ++ q :: l2).map ent) i = some (some (i + l1.length, (ent q).val))
  | [], q, l2, i, e, _ => by simp [Instr.findNow, e]
  | r :: l1, q, l2, i, e, h => by
    have h1 := h r (by simp)
    have := find_at l1 q l2 (i + 1) e fun x hx => h x (by simp [hx])
    rw [List.cons_append, List.map_cons]
    simp only [Instr.findNow, h1]
    rw [show i + (r :: l1).length = i + 1 + l1.length by simp; omega]
    simpa using this
theorem find_no {α : Type} {ent : α → MapEntry} {d : TypeDesc} {k : Value} : ∀ (l : List α) (i : Nat), (∀ r ∈ l, Instr.sameNow d k (ent r).key = some false) → Instr.findNow d k (l.map ent) i = some none
  | [], i, _ => rfl
  | r :: l, i, h => by
    have h1 := h r (by simp)
    have := find_no (ent := ent) (d := d) (k := k) l (i + 1) fun x hx => h x (by simp [hx])
    rw [List.map_cons]
    simp only [Instr.findNow, h1]
    simpa using this
theorem same_i {a b : Int} : Instr.sameNow (.int .i64) (i64 a) (i64 b) = some (decide (a = b)) := by
  simp only [Instr.sameNow]
  by_cases h : a = b <;> simp [h]
theorem beq_bs (a b : List UInt8) : (bsV a == bsV b) = decide (a = b) := by
  show ByteArray.beq _ _ = _
  unfold ByteArray.beq
  by_cases h : a = b
  · simp [h]
  · simp [h]
theorem same_s {a b : List UInt8} : Instr.sameNow .string (.string (bsV a)) (.string (bsV b)) = some (decide (a = b)) := by
  simp only [Instr.sameNow, beq_bs]
-- look-ups
section
variable {g : PG} {F : List Fi} {S : List Sm}
theorem lookQ {Q : List PQ} (hs : (Q.map PQ.q).Pairwise fun x y => x.n < y.n) (n : Int) :
    (∃ Q1 q Q2, Q = Q1 ++ q :: Q2 ∧ q.q.n = n ∧ atS (Q.map PQ.q) n = some q.q ∧ Instr.findNow (.int .i64) (i64 n) (Q.map entQ) 0 = some (some (Q1.length, ptr q.x)) ∧ (∀ r ∈ Q1, r.q.n ≠ n) ∧ (∀ r ∈ Q2, r.q.n ≠ n)) ∨
    (atS (Q.map PQ.q) n = none ∧ Instr.findNow (.int .i64) (i64 n) (Q.map entQ) 0 = some none ∧ ∀ r ∈ Q, r.q.n ≠ n) := by
  cases h : atS (Q.map PQ.q) n with
  | none =>
    right
    have hno : ∀ r ∈ Q, r.q.n ≠ n := fun r hr e => by
      have := List.find?_eq_none.1 h r.q (List.mem_map_of_mem hr)
      simp [e] at this
    exact ⟨rfl, find_no Q 0 fun r hr => by show Instr.sameNow _ _ (i64 r.q.n) = _; rw [same_i, decide_eq_false (Ne.symm (hno r hr))], hno⟩
  | some x =>
    left
    obtain ⟨hx, hn⟩ := atS_mem h
    obtain ⟨q, hq, rfl⟩ := List.mem_map.1 hx
    obtain ⟨Q1, Q2, rfl⟩ := List.append_of_mem hq
    rw [List.map_append, List.map_cons, List.pairwise_append] at hs
    obtain ⟨_, h2, h3⟩ := hs
    have g1 : ∀ r ∈ Q1, r.q.n ≠ n := fun r hr => by
      have := h3 r.q (List.mem_map_of_mem hr) q.q (by simp)
      omega
    have g2 : ∀ r ∈ Q2, r.q.n ≠ n := fun r hr => by
      have := (List.pairwise_cons.1 h2).1 r.q (List.mem_map_of_mem hr)
      omega
    refine ⟨Q1, q, Q2, rfl, hn, rfl, ?_, g1, g2⟩
    have := find_at (ent := entQ) (d := .int .i64) (k := i64 n) Q1 q Q2 0 (by show Instr.sameNow _ _ (i64 q.q.n) = _; rw [same_i, decide_eq_true hn.symm]) (fun r hr => by show Instr.sameNow _ _ (i64 r.q.n) = _; rw [same_i, decide_eq_false (Ne.symm (g1 r hr))])
    rw [Nat.zero_add] at this
    exact this
theorem lookF {G : List PF} {F : List Fi} (hp : (G.map PF.f).Perm F) (hs : Srt F) (nm : List UInt8) :
    (∃ G1 r G2, G = G1 ++ r :: G2 ∧ r.f.nm = nm ∧ hasF F nm = true ∧ bOf F nm = r.f.b ∧ r.f ∈ F ∧ Instr.findNow .string (.string (bsV nm)) (G.map entF) 0 = some (some (G1.length, ptr r.fi)) ∧ (∀ q ∈ G1, q.f.nm ≠ nm) ∧ (∀ q ∈ G2, q.f.nm ≠ nm)) ∨
    (hasF F nm = false ∧ Instr.findNow .string (.string (bsV nm)) (G.map entF) 0 = some none ∧ ∀ r ∈ G, r.f.nm ≠ nm) := by
  cases h : hasF F nm with
  | false =>
    right
    have hno : ∀ r ∈ G, r.f.nm ≠ nm := fun r hr => hasF_false.1 h r.f (hp.mem_iff.1 (List.mem_map_of_mem hr))
    exact ⟨rfl, find_no G 0 fun r hr => by show Instr.sameNow _ _ (.string (bsV r.f.nm)) = _; rw [same_s, decide_eq_false (Ne.symm (hno r hr))], hno⟩
  | true =>
    left
    obtain ⟨f, hf, hn⟩ := hasF_iff.1 h
    obtain ⟨r, hr, rfl⟩ := List.mem_map.1 (hp.mem_iff.2 hf)
    obtain ⟨G1, G2, rfl⟩ := List.append_of_mem hr
    have hnd : ((G1 ++ r :: G2).map fun q => q.f.nm).Nodup := by
      have h1 : (F.map (·.nm)).Nodup := by
        rw [List.Nodup, List.pairwise_map]
        exact hs.imp fun h e => by rw [e] at h; exact lt_irrefl _ h
      have h2 := (hp.map (·.nm)).nodup_iff.2 h1
      rw [List.map_map] at h2
      exact h2
    rw [List.map_append, List.map_cons, List.nodup_append] at hnd
    obtain ⟨_, n2, n3⟩ := hnd
    have g1 : ∀ q ∈ G1, q.f.nm ≠ nm := fun q hq e => n3 _ (List.mem_map_of_mem (f := fun q : PF => q.f.nm) hq) _ (List.mem_cons_self ..) (by rw [e, hn])
    have g2 : ∀ q ∈ G2, q.f.nm ≠ nm := fun q hq e => (List.nodup_cons.1 n2).1 (by rw [hn, ← e]; exact List.mem_map_of_mem (f := fun q : PF => q.f.nm) hq)
    refine ⟨G1, r, G2, rfl, hn, rfl, by rw [← hn]; exact bOf_mem hs hf, hf, ?_, g1, g2⟩
    have := find_at (ent := entF) (d := .string) (k := .string (bsV nm)) G1 r G2 0 (by show Instr.sameNow _ _ (.string (bsV r.f.nm)) = _; rw [same_s, decide_eq_true hn.symm]) (fun q hq => by show Instr.sameNow _ _ (.string (bsV q.f.nm)) = _; rw [same_s, decide_eq_false (Ne.symm (g1 q hq))])
    rw [Nat.zero_add] at this
    exact this
end
end Go.AI
end
section
set_option linter.unusedSimpArgs false
set_option linter.unusedVariables false
set_option maxRecDepth 10000
/- The program: streams looked up, told, read, sought in; no condition but those that each names. -/
namespace Go.AI
open Go.Proofs Go.Shelf
theorem PQ.M_b {q : PQ} (h : q.q.nm = []) : q.M = (q.fi, buO q.a q.q.l.length q.q.wd) :: q.rows := by unfold PQ.M; rw [if_pos h]
theorem PQ.M_f {q : PQ} (h : q.q.nm ≠ []) : q.M = [] := by unfold PQ.M; rw [if_neg h]
theorem PQ.on_b {q : PQ} (h : q.q.nm = []) : q.on = .iface tyB (ptr q.fi) := by unfold PQ.on; rw [if_pos h]
theorem PQ.on_f {q : PQ} (h : q.q.nm ≠ []) : q.on = .iface (tyW q.q.wd) (hold q.fi) := by unfold PQ.on; rw [if_neg h]
theorem PQ.fp_b {q : PQ} (h : q.q.nm = []) : q.fp = .pointer none := by unfold PQ.fp; rw [if_pos h]
theorem PQ.fp_f {q : PQ} (h : q.q.nm ≠ []) : q.fp = ptr q.fi := by unfold PQ.fp; rw [if_neg h]
theorem onF_cong {n : List UInt8} : ∀ {Q Q' : List PQ}, (Q'.map fun q => (q.q.nm, q.x)) = Q.map (fun q => (q.q.nm, q.x)) → onF n Q' = onF n Q
  | [], [], _ => rfl
  | [], _ :: _, h => by cases h
  | _ :: _, [], h => by cases h
  | q :: Q, q' :: Q', h => by
    rw [List.map_cons, List.map_cons] at h
    injection h with h1 h2
    have ih := onF_cong (n := n) h2
    injection h1 with h3 h4
    unfold onF at ih ⊢
    rw [List.filter_cons, List.filter_cons, h3]
    split
    · rw [List.map_cons, List.map_cons, ih, h4]
    · exact ih
section
variable {σ : AS} {K : Value → AS → Prop} {fr : List (Nat × AObj)} {s k B : Nat} {g : PG} {most last n mode : Int} {nm : List UInt8} {F : List Fi} {S : List Sm} {l : List Int} {a : Option Addr} {wd : Bool}
theorem PG.ok.updQ {Q1 Q2 : List PQ} {q q' : PQ} (hg : g.ok F S) (hQ : g.Q = Q1 ++ q :: Q2) (sn : S.Pairwise fun x y => x.n < y.n) (hx : q'.x = q.x) (hf : q'.fi = q.fi) (hb : q'.bn = q.bn) (hn : q'.q.n = q.q.n) (hm : q'.q.nm = q.q.nm) (ho : q'.ok) :
    ({ g with Q := Q1 ++ q' :: Q2 } : PG).ok F (setS q'.q S) ∧ (Q1 ++ q' :: Q2).map entQ = g.Q.map entQ := by
  have he : (Q1 ++ q' :: Q2).map entQ = g.Q.map entQ := by
    rw [hQ, List.map_append, List.map_append, List.map_cons, List.map_cons]
    unfold entQ
    rw [hn, hx, hb]
  refine ⟨⟨hg.gF, ?_, hg.go, ?_, ?_, ?_, hg.bF, ?_⟩, he⟩
  · have hS : S[Q1.length]? = some q.q := by
      rw [← hg.qS, hQ]
      simp
    have := setS_at (y := q'.q) sn hS hn
    rw [← this, ← hg.qS, hQ]
    simp
  · intro r hr
    rcases List.mem_append.1 hr with h | h
    · exact hg.qo r (by rw [hQ]; simp [h])
    · rcases List.mem_cons.1 h with rfl | h
      · exact ho
      · exact hg.qo r (by rw [hQ]; simp [h])
  · intro r hr
    rw [hg.opn r hr]
    refine (onF_cong ?_).symm
    rw [hQ, List.map_append, List.map_append, List.map_cons, List.map_cons, hm, hx]
  · intro r hr
    rcases List.mem_append.1 hr with h | h
    · exact hg.lnk r (by rw [hQ]; simp [h])
    · rcases List.mem_cons.1 h with rfl | h
      · rw [hm, hf]
        exact hg.lnk q (by rw [hQ]; simp)
      · exact hg.lnk r (by rw [hQ]; simp [h])
  · unfold BornOk
    have h1 : ((Q1 ++ q' :: Q2).map fun x => (entQ x).born) = g.Q.map fun x => (entQ x).born := by
      have := congrArg (List.map MapEntry.born) he
      rw [List.map_map, List.map_map] at this
      exact this
    refine ⟨by rw [h1]; exact hg.bQ.1, fun r hr => ?_⟩
    have : (entQ r).born ∈ (Q1 ++ q' :: Q2).map fun x => (entQ x).born := List.mem_map_of_mem (f := fun x => (entQ x).born) hr
    rw [h1] at this
    obtain ⟨r', hr', e⟩ := List.mem_map.1 this
    rw [← e]
    exact hg.bQ.2 r' hr'
theorem PG.ok.updG0 {G1 G2 : List PF} {r r' : PF} (hg : g.ok F S) (hG : g.G = G1 ++ r :: G2) (hs : Srt F) (hx : r'.fi = r.fi ∨ ∀ q ∈ g.Q, q.q.nm ≠ r.f.nm) (hp : r'.op = r.op) (hb : r'.bn = r.bn) (hm : r'.f.nm = r.f.nm) (ho : r'.ok) :
    ({ g with G := G1 ++ r' :: G2 } : PG).ok (setB r.f.nm r'.f.b F) S := by
  have hnd : (g.G.map fun q => q.f.nm).Nodup := by
    have h1 : (F.map (·.nm)).Nodup := by
      rw [List.Nodup, List.pairwise_map]
      exact hs.imp fun h e => by rw [e] at h; exact lt_irrefl _ h
    have h2 := (hg.gF.map (·.nm)).nodup_iff.2 h1
    rw [List.map_map] at h2
    exact h2
  rw [hG, List.map_append, List.map_cons, List.nodup_append] at hnd
  obtain ⟨_, n2, n3⟩ := hnd
  have g1 : ∀ q ∈ G1, q.f.nm ≠ r.f.nm := fun q hq e => n3 _ (List.mem_map_of_mem (f := fun q : PF => q.f.nm) hq) _ (List.mem_cons_self ..) e
  have g2 : ∀ q ∈ G2, q.f.nm ≠ r.f.nm := fun q hq e => (List.nodup_cons.1 n2).1 (by rw [← e]; exact List.mem_map_of_mem (f := fun q : PF => q.f.nm) hq)
  have mem : ∀ q, q ∈ G1 ++ r' :: G2 → q = r' ∨ q ∈ g.G := by
    intro q hq
    rw [hG]
    rcases List.mem_append.1 hq with h | h
    · exact .inr (by simp [h])
    · rcases List.mem_cons.1 h with rfl | h
      · exact .inl rfl
      · exact .inr (by simp [h])
  refine ⟨?_, hg.qS, ?_, hg.qo, ?_, ?_, ?_, hg.bQ⟩
  · have e1 : (G1 ++ r' :: G2).map PF.f = setB r.f.nm r'.f.b (g.G.map PF.f) := by
      rw [hG, List.map_append, List.map_cons, List.map_append, List.map_cons]
      have q1 : ∀ f ∈ G1.map PF.f, f.nm ≠ r.f.nm := fun f hf => by obtain ⟨q, hq, rfl⟩ := List.mem_map.1 hf; exact g1 q hq
      have q2 : ∀ f ∈ G2.map PF.f, f.nm ≠ r.f.nm := fun f hf => by obtain ⟨q, hq, rfl⟩ := List.mem_map.1 hf; exact g2 q hq
      rw [setB_split q1 q2]
      have : r'.f = { r.f with b := r'.f.b } := by
        cases h : r'.f with
        | mk nm b =>
          rw [h] at hm
          simp only at hm
          rw [hm]
      rw [← this]
    rw [e1]
    exact hg.gF.map _
  · intro q hq
    rcases mem q hq with rfl | h
    · exact ho
    · exact hg.go q h
  · intro q hq
    rcases mem q hq with rfl | h
    · rw [hp, hm]; exact hg.opn r (by rw [hG]; simp)
    · exact hg.opn q h
  · intro q hq hne
    obtain ⟨t, ht, e1, e2⟩ := hg.lnk q hq hne
    rw [hG] at ht
    rcases List.mem_append.1 ht with h | h
    · exact ⟨t, by simp [h], e1, e2⟩
    · rcases List.mem_cons.1 h with rfl | h
      · rcases hx with hx | hx
        · exact ⟨r', by simp, by rw [hm]; exact e1, by rw [hx]; exact e2⟩
        · exact absurd e1.symm (hx q hq)
      · exact ⟨t, by simp [h], e1, e2⟩
  · unfold BornOk
    have h1 : ((G1 ++ r' :: G2).map fun x => (entF x).born) = g.G.map fun x => (entF x).born := by
      rw [hG, List.map_append, List.map_append, List.map_cons, List.map_cons]
      unfold entF
      rw [hb]
    refine ⟨by rw [h1]; exact hg.bF.1, fun q hq => ?_⟩
    have : (entF q).born ∈ (G1 ++ r' :: G2).map fun x => (entF x).born := List.mem_map_of_mem (f := fun x => (entF x).born) hq
    rw [h1] at this
    obtain ⟨q', hq', e⟩ := List.mem_map.1 this
    rw [← e]
    exact hg.bF.2 q' hq'
theorem PG.ok.updG {G1 G2 : List PF} {r r' : PF} (hg : g.ok F S) (hG : g.G = G1 ++ r :: G2) (hs : Srt F) (hx : r'.fi = r.fi) (hp : r'.op = r.op) (hb : r'.bn = r.bn) (hm : r'.f.nm = r.f.nm) (ho : r'.ok) :
    ({ g with G := G1 ++ r' :: G2 } : PG).ok (setB r.f.nm r'.f.b F) S ∧ (G1 ++ r' :: G2).map entF = g.G.map entF := by
  refine ⟨hg.updG0 hG hs (.inl hx) hp hb hm ho, ?_⟩
  rw [hG, List.map_append, List.map_append, List.map_cons, List.map_cons]
  unfold entF
  rw [hm, hx, hb]
/-- The file that a stream lies on. -/
theorem PG.ok.file (hg : g.ok F S) (hs : Srt F) {q : PQ} (hq : q ∈ g.Q) (hne : q.q.nm ≠ []) : ∃ G1 r G2, g.G = G1 ++ r :: G2 ∧ r.f.nm = q.q.nm ∧ r.fi = q.fi ∧ r.ok ∧ r.f ∈ F ∧ bOf F q.q.nm = r.f.b := by
  obtain ⟨r, hr, h1, h2⟩ := hg.lnk q hq hne
  obtain ⟨G1, G2, hG⟩ := List.append_of_mem hr
  have hm : r.f ∈ F := hg.gF.mem_iff.1 (List.mem_map_of_mem hr)
  exact ⟨G1, r, G2, hG, h1, h2, hg.go r hr, hm, by rw [← h1]; exact bOf_mem hs hm⟩
/-- How many characters there are. -/
theorem hsize0 (hg : g.ok F S) (H : Has σ ((s, g.O most last) :: (g.R ++ fr))) (srt : Srt F) (f1 : ∀ f ∈ F, f.b.length ≤ 1048576) {q : PQ} (hq : q ∈ g.Q) (hK : ∀ σ', Has σ' ((s, g.O most last) :: (g.R ++ fr)) → K (i64 (charsOf F q.q).length) σ') :
    ∃ t u f, q.on = .iface t u ∧ methodOf Tryz.prog t "grotto/shelf.size" = some f ∧ Tri Tryz.prog f [u] σ K := by
  obtain ⟨Q1, Q2, hQ⟩ := List.append_of_mem hq
  by_cases h : q.q.nm = []
  · refine ⟨tyB, ptr q.fi, 265, PQ.on_b h, meth_size_b, ?_⟩
    refine p265 (n := q.q.l.length) (wd := q.q.wd) (a := q.a) (X := []) (H.sep ?_) ?_
    · intro a
      simp only [PG.R, hQ, PQ.L, PQ.M_b h, cnt_app, cnt_cons, cnt_nil, List.flatMap_append, List.flatMap_cons, List.flatMap_nil, List.append_assoc, List.cons_append, List.nil_append, i64, u32, u8, ptr, List.set_cons_zero, List.set_cons_succ]
      omega
    · have := hK σ H
      rw [charsOf_len, if_pos h] at this
      exact this
  · obtain ⟨G1, r, G2, hG, h1, h2, h3, h4, h5⟩ := hg.file srt hq h
    refine ⟨_, _, _, PQ.on_f h, meth_size_g _, ?_⟩
    rw [← h2]
    have hb := f1 _ h4
    refine csz (bs := r.f.b) (a := r.a) (e := r.e) (oa := r.oa) (on := r.op.length) (oe := r.oe) (rows := r.rows) (X := (s, g.O most last) :: ((g.f, .map (g.G.map entF) g.cf) :: ((g.m, .map (g.Q.map entQ) g.cm) :: (r.orows ++ (G1.flatMap PF.L ++ (G2.flatMap PF.L ++ (g.Q.flatMap PQ.L ++ fr))))))) (H.sep ?_) h3.b (by omega) fun σ' H' => ?_
    · intro a
      simp only [PG.R, hG, PF.L, PF.O, fiO, cnt_app, cnt_cons, cnt_nil, List.flatMap_append, List.flatMap_cons, List.flatMap_nil, List.append_assoc, List.cons_append, List.nil_append, i64, u32, u8, ptr, List.set_cons_zero, List.set_cons_succ]
      omega
    · have := hK σ' (H'.sep ?_)
      · rw [charsOf_len, if_neg h, h5] at this
        exact this
      · intro a
        simp only [PG.R, hG, PF.L, PF.O, fiO, cnt_app, cnt_cons, cnt_nil, List.flatMap_append, List.flatMap_cons, List.flatMap_nil, List.append_assoc, List.cons_append, List.nil_append, i64, u32, u8, ptr, List.set_cons_zero, List.set_cons_succ]
        omega
theorem hsize (hg : g.ok F S) (H : Has σ ((s, g.O most last) :: (g.R ++ fr))) (ok : OkD F S B) {q : PQ} (hq : q ∈ g.Q) (hK : ∀ σ', Has σ' ((s, g.O most last) :: (g.R ++ fr)) → K (i64 (charsOf F q.q).length) σ') :
    ∃ t u f, q.on = .iface t u ∧ methodOf Tryz.prog t "grotto/shelf.size" = some f ∧ Tri Tryz.prog f [u] σ K := hsize0 hg H ok.srt ok.f1 hq hK
/-- A character. -/
theorem hat {c : Int} {p : Nat} (hg : g.ok F S) (H : Has σ ((s, g.O most last) :: (g.R ++ fr))) (ok : OkD F S B) {q : PQ} (hq : q ∈ g.Q) (hc : (charsOf F q.q)[p]? = some c) (hK : ∀ σ', Has σ' ((s, g.O most last) :: (g.R ++ fr)) → K (u32 c) σ') :
    ∃ t u f, q.on = .iface t u ∧ methodOf Tryz.prog t "grotto/shelf.at" = some f ∧ Tri Tryz.prog f [u, i64 p] σ K := by
  obtain ⟨Q1, Q2, hQ⟩ := List.append_of_mem hq
  by_cases h : q.q.nm = []
  · refine ⟨tyB, ptr q.fi, 263, PQ.on_b h, meth_at_b, ?_⟩
    have hc : q.q.l[p]? = some c := by unfold charsOf at hc; rw [if_pos h] at hc; exact hc
    refine p263 (l := q.q.l) (wd := q.q.wd) (a := q.a) (rows := q.rows) (X := []) (H.sep ?_) (hg.qo q hq h) hc (hK σ H)
    intro a
    simp only [PG.R, hQ, PQ.L, PQ.M_b h, cnt_app, cnt_cons, cnt_nil, List.flatMap_append, List.flatMap_cons, List.flatMap_nil, List.append_assoc, List.cons_append, List.nil_append, i64, u32, u8, ptr, List.set_cons_zero, List.set_cons_succ]
    omega
  · obtain ⟨G1, r, G2, hG, h1, h2, h3, h4, h5⟩ := hg.file ok.srt hq h
    refine ⟨_, _, _, PQ.on_f h, meth_at_g _, ?_⟩
    rw [← h2]
    have hb := ok.f1 _ h4
    have hc : (view q.q.wd r.f.b)[p]? = some c := by unfold charsOf at hc; rw [if_neg h, h5] at hc; exact hc
    have hlt := (List.getElem?_eq_some_iff.1 hc).1
    rw [view_len] at hlt
    rw [view_get hlt] at hc
    cases hc
    refine cat (bs := r.f.b) (a := r.a) (e := r.e) (oa := r.oa) (on := r.op.length) (oe := r.oe) (rows := r.rows) (X := (s, g.O most last) :: ((g.f, .map (g.G.map entF) g.cf) :: ((g.m, .map (g.Q.map entQ) g.cm) :: (r.orows ++ (G1.flatMap PF.L ++ (G2.flatMap PF.L ++ (g.Q.flatMap PQ.L ++ fr))))))) (H.sep ?_) h3.b (by omega) (ok.byte _ h4) hlt fun σ' H' => hK σ' (H'.sep ?_)
    · intro a
      simp only [PG.R, hG, PF.L, PF.O, fiO, cnt_app, cnt_cons, cnt_nil, List.flatMap_append, List.flatMap_cons, List.flatMap_nil, List.append_assoc, List.cons_append, List.nil_append, i64, u32, u8, ptr, List.set_cons_zero, List.set_cons_succ]
      omega
    · intro a
      simp only [PG.R, hG, PF.L, PF.O, fiO, cnt_app, cnt_cons, cnt_nil, List.flatMap_append, List.flatMap_cons, List.flatMap_nil, List.append_assoc, List.cons_append, List.nil_append, i64, u32, u8, ptr, List.set_cons_zero, List.set_cons_succ]
      omega
/-- A stream's object is there. -/
theorem PG.hasQ (H : Has σ ((s, g.O most last) :: (g.R ++ fr))) {q : PQ} (hq : q ∈ g.Q) : σ q.x = some q.O := by
  refine H.g (List.mem_cons_of_mem _ (List.mem_append_left _ ?_))
  unfold PG.R
  refine List.mem_cons_of_mem _ (List.mem_cons_of_mem _ (List.mem_append_right _ (List.mem_flatMap.2 ⟨q, hq, ?_⟩)))
  unfold PQ.L
  simp
theorem PG.hasF (H : Has σ ((s, g.O most last) :: (g.R ++ fr))) {r : PF} (hr : r ∈ g.G) : σ r.fi = some r.O := by
  refine H.g (List.mem_cons_of_mem _ (List.mem_append_left _ ?_))
  unfold PG.R
  refine List.mem_cons_of_mem _ (List.mem_cons_of_mem _ (List.mem_append_left _ (List.mem_flatMap.2 ⟨r, hr, ?_⟩)))
  unfold PF.L
  simp
theorem PG.hasm (H : Has σ ((s, g.O most last) :: (g.R ++ fr))) : σ g.m = some (.map (g.Q.map entQ) g.cm) := H.g (by unfold PG.R; simp)
theorem PG.hasf (H : Has σ ((s, g.O most last) :: (g.R ++ fr))) : σ g.f = some (.map (g.G.map entF) g.cf) := H.g (by unfold PG.R; simp)
/-- A stream, looked up. -/
theorem p135 (hg : g.ok F S) (H : Has σ ((s, g.O most last) :: (g.R ++ fr))) (sn : S.Pairwise fun x y => x.n < y.n) (hN : atS S n = none → K (.tuple ⟨[.pointer none, i64 5]⟩) σ)
    (hK : ∀ Q1 q Q2, g.Q = Q1 ++ q :: Q2 → q.q.n = n → atS S n = some q.q → K (.tuple ⟨[ptr q.x, i64 0]⟩) σ) : Tri Tryz.prog 135 [ptr s, i64 n] σ K := tri_iz (by
  rw [z135]
  simp only [ldc_eq (H.at 0 rfl), mget_eq (PG.hasm H), true_and, tI_int, tB_bool, tP_ptr, tM_map, tS_str, tTup_tup, tL_sl, tIf_if, pSome_some, chk_true, bm_true, bm_false, List.getElem?_cons_zero, List.getElem?_cons_succ, Nat.zero_add, Nat.add_zero, bne_self_eq_false, beq_self_eq_true, ptrEq_some, ptrEq_none, Bool.not_true, Bool.not_false, tAgg_agg, tCons_cons, tNil_nil, add_none, aadd_none, Option.getD_some, Option.getD_none, Option.map_some, Option.map_none]
  rcases lookQ (by rw [hg.qS]; exact sn) n with ⟨Q1, q, Q2, h1, h2, h3, h4, _⟩ | ⟨h1, h2, _⟩
  · rw [hg.qS] at h3
    rw [h4]
    simp only [true_and, tI_int, tB_bool, tP_ptr, tM_map, tS_str, tTup_tup, tL_sl, tIf_if, pSome_some, chk_true, bm_true, bm_false, List.getElem?_cons_zero, List.getElem?_cons_succ, Nat.zero_add, Nat.add_zero, bne_self_eq_false, beq_self_eq_true, ptrEq_some, ptrEq_none, Bool.not_true, Bool.not_false, tAgg_agg, tCons_cons, tNil_nil, add_none, aadd_none, Option.getD_some, Option.getD_none, Option.map_some, Option.map_none]
    exact hK Q1 q Q2 h1 h2 h3
  · rw [hg.qS] at h1
    rw [h2]
    simp only [true_and, tI_int, tB_bool, tP_ptr, tM_map, tS_str, tTup_tup, tL_sl, tIf_if, pSome_some, chk_true, bm_true, bm_false, List.getElem?_cons_zero, List.getElem?_cons_succ, Nat.zero_add, Nat.add_zero, bne_self_eq_false, beq_self_eq_true, ptrEq_some, ptrEq_none, Bool.not_true, Bool.not_false, tAgg_agg, tCons_cons, tNil_nil, add_none, aadd_none, Option.getD_some, Option.getD_none, Option.map_some, Option.map_none]
    exact hN h1)
theorem p179 {q : PQ} (hx : σ q.x = some q.O) (hK : K (.bool (reads q.q)) σ) : Tri Tryz.prog 179 [ptr q.x] σ K := tri_iz (by
  rw [z179]
  simp only [ldc_eq hx, true_and, tI_int, tB_bool, tP_ptr, tM_map, tS_str, tTup_tup, tL_sl, tIf_if, pSome_some, chk_true, bm_true, bm_false, List.getElem?_cons_zero, List.getElem?_cons_succ, Nat.zero_add, Nat.add_zero, bne_self_eq_false, beq_self_eq_true, ptrEq_some, ptrEq_none, Bool.not_true, Bool.not_false, tAgg_agg, tCons_cons, tNil_nil, add_none, aadd_none, Option.getD_some, Option.getD_none, Option.map_some, Option.map_none]
  unfold reads at hK
  refine beq_mk (fun h => ?_) (fun h => ?_)
  · rw [h] at hK; exact hK
  · have : (q.q.mode == 2) = false := by simpa using h
    rw [this, Bool.false_or] at hK
    exact hK)
theorem p136 {q : PQ} (hx : σ q.x = some q.O) (hK : K (.bool (q.q.mode != 2)) σ) : Tri Tryz.prog 136 [ptr q.x] σ K := tri_iz (by
  rw [z136]
  simp only [ldc_eq hx, true_and, tI_int, tB_bool, tP_ptr, tM_map, tS_str, tTup_tup, tL_sl, tIf_if, pSome_some, chk_true, bm_true, bm_false, List.getElem?_cons_zero, List.getElem?_cons_succ, Nat.zero_add, Nat.add_zero, bne_self_eq_false, beq_self_eq_true, ptrEq_some, ptrEq_none, Bool.not_true, Bool.not_false, tAgg_agg, tCons_cons, tNil_nil, add_none, aadd_none, Option.getD_some, Option.getD_none, Option.map_some, Option.map_none]
  exact hK)
theorem p142 (hg : g.ok F S) (H : Has σ ((s, g.O most last) :: (g.R ++ fr))) (sn : S.Pairwise fun x y => x.n < y.n) (hN : atS S n = none → K (.tuple ⟨[.pointer none, i64 5]⟩) σ)
    (hE : ∀ x, atS S n = some x → reads x = false → K (.tuple ⟨[.pointer none, i64 1]⟩) σ)
    (hK : ∀ Q1 q Q2, g.Q = Q1 ++ q :: Q2 → q.q.n = n → atS S n = some q.q → reads q.q = true → K (.tuple ⟨[ptr q.x, i64 0]⟩) σ) : Tri Tryz.prog 142 [ptr s, i64 n] σ K := tri_iz (by
  rw [z142]
  refine p135 hg H sn (fun h => ?_) (fun Q1 q Q2 h1 h2 h3 => ?_)
  · simp only [true_and, tI_int, tB_bool, tP_ptr, tM_map, tS_str, tTup_tup, tL_sl, tIf_if, pSome_some, chk_true, bm_true, bm_false, List.getElem?_cons_zero, List.getElem?_cons_succ, Nat.zero_add, Nat.add_zero, bne_self_eq_false, beq_self_eq_true, ptrEq_some, ptrEq_none, Bool.not_true, Bool.not_false, tAgg_agg, tCons_cons, tNil_nil, add_none, aadd_none, Option.getD_some, Option.getD_none, Option.map_some, Option.map_none]
    refine beq_mk (fun h => absurd h (by decide)) (fun _ => ⟨?_⟩)
    rw [z142j, bm_false]
    exact hN h
  · simp only [true_and, tI_int, tB_bool, tP_ptr, tM_map, tS_str, tTup_tup, tL_sl, tIf_if, pSome_some, chk_true, bm_true, bm_false, List.getElem?_cons_zero, List.getElem?_cons_succ, Nat.zero_add, Nat.add_zero, bne_self_eq_false, beq_self_eq_true, ptrEq_some, ptrEq_none, Bool.not_true, Bool.not_false, tAgg_agg, tCons_cons, tNil_nil, add_none, aadd_none, Option.getD_some, Option.getD_none, Option.map_some, Option.map_none]
    refine p179 (PG.hasQ H (by rw [h1]; simp)) ?_
    rw [tB_bool]
    refine ⟨?_⟩
    rw [z142j]
    exact bnot_mk (fun h => hE _ h3 h) (fun h => hK Q1 q Q2 h1 h2 h3 h))
theorem p98 (hS : PSt s most last F S fr σ) (ok : OkD F S B)
    (hN : atS S n = none → ∀ σ', PSt s most last F S fr σ' → K (.tuple ⟨[i64 0, i64 0, i64 5]⟩) σ')
    (hK : ∀ x, atS S n = some x → ∀ σ', PSt s most last F S fr σ' → K (.tuple ⟨[i64 x.pl, i64 (charsOf F x).length, i64 0]⟩) σ') : Tri Tryz.prog 98 [ptr s, i64 n] σ K := tri_iz (by
  rw [z98]
  have hS0 := hS
  obtain ⟨g, hg, H⟩ := hS
  refine p135 hg H ok.sn (fun h => ?_) (fun Q1 q Q2 h1 h2 h3 => ?_)
  · simp only [true_and, tI_int, tB_bool, tP_ptr, tM_map, tS_str, tTup_tup, tL_sl, tIf_if, pSome_some, chk_true, bm_true, bm_false, List.getElem?_cons_zero, List.getElem?_cons_succ, Nat.zero_add, Nat.add_zero, bne_self_eq_false, beq_self_eq_true, ptrEq_some, ptrEq_none, Bool.not_true, Bool.not_false, tAgg_agg, tCons_cons, tNil_nil, add_none, aadd_none, Option.getD_some, Option.getD_none, Option.map_some, Option.map_none]
    exact bne_mk (fun _ => hN h σ hS0) (fun h => absurd h (by decide))
  · have hq : q ∈ g.Q := by rw [h1]; simp
    have hx := PG.hasQ H hq
    simp only [ldc_eq hx, true_and, tI_int, tB_bool, tP_ptr, tM_map, tS_str, tTup_tup, tL_sl, tIf_if, pSome_some, chk_true, bm_true, bm_false, List.getElem?_cons_zero, List.getElem?_cons_succ, Nat.zero_add, Nat.add_zero, bne_self_eq_false, beq_self_eq_true, ptrEq_some, ptrEq_none, Bool.not_true, Bool.not_false, tAgg_agg, tCons_cons, tNil_nil, add_none, aadd_none, Option.getD_some, Option.getD_none, Option.map_some, Option.map_none]
    obtain ⟨t, u, f, e1, e2, e3⟩ := hsize (K := fun v16 σ17 => tI .i64 v16 fun n18 => ldc σ17 ⟨q.x, 3, none⟩ fun v19 => tI .i64 v19 fun n20 => (i64 q.q.pl = i64 n20 ∧ K (.tuple ⟨[i64 q.q.pl, i64 n18, i64 0]⟩) σ17)) hg H ok hq (fun σ1 H1 => by
      have hx1 := PG.hasQ H1 hq
      simp only [ldc_eq hx1, true_and, tI_int, tB_bool, tP_ptr, tM_map, tS_str, tTup_tup, tL_sl, tIf_if, pSome_some, chk_true, bm_true, bm_false, List.getElem?_cons_zero, List.getElem?_cons_succ, Nat.zero_add, Nat.add_zero, bne_self_eq_false, beq_self_eq_true, ptrEq_some, ptrEq_none, Bool.not_true, Bool.not_false, tAgg_agg, tCons_cons, tNil_nil, add_none, aadd_none, Option.getD_some, Option.getD_none, Option.map_some, Option.map_none]
      exact hK _ h3 σ1 ⟨g, hg, H1⟩)
    simp only [e1, e2, true_and, tI_int, tB_bool, tP_ptr, tM_map, tS_str, tTup_tup, tL_sl, tIf_if, pSome_some, chk_true, bm_true, bm_false, List.getElem?_cons_zero, List.getElem?_cons_succ, Nat.zero_add, Nat.add_zero, bne_self_eq_false, beq_self_eq_true, ptrEq_some, ptrEq_none, Bool.not_true, Bool.not_false, tAgg_agg, tCons_cons, tNil_nil, add_none, aadd_none, Option.getD_some, Option.getD_none, Option.map_some, Option.map_none]
    exact e3)
/-- A stream's own object is written to. -/
theorem putQ {Q1 Q2 : List PQ} {q q' : PQ} {o : Nat} {v : Value} {G : AS → Prop} (hg : g.ok F S) (H : Has σ ((s, g.O most last) :: (g.R ++ fr))) (hQ : g.Q = Q1 ++ q :: Q2) (sn : S.Pairwise fun x y => x.n < y.n) (hx : q'.x = q.x) (hf : q'.fi = q.fi) (hb : q'.bn = q.bn) (hn : q'.q.n = q.q.n) (hm : q'.q.nm = q.q.nm) (ho : q'.ok) (hM : q'.M = q.M)
    (h6 : o < 6) (hv : [q.on, q.fp, i64 q.q.mode, i64 q.q.pl, u32 q.q.rd, u32 q.q.wr].set o v = [q'.on, q'.fp, i64 q'.q.mode, i64 q'.q.pl, u32 q'.q.rd, u32 q'.q.wr])
    (hG : ∀ σ' (g' : PG), g'.ok F (setS q'.q S) → g'.Q = Q1 ++ q' :: Q2 → Has σ' ((s, g'.O most last) :: (g'.R ++ fr)) → G σ') : put1 σ ⟨q.x, o, none⟩ v G := by
  obtain ⟨u1, u2⟩ := hg.updQ hQ sn hx hf hb hn hm ho
  have H2 : Has σ ((q.x, q.O) :: ((s, g.O most last) :: ((g.f, .map (g.G.map entF) g.cf) :: ((g.m, .map (g.Q.map entQ) g.cm) :: (g.G.flatMap PF.L ++ (Q1.flatMap PQ.L ++ (q.M ++ (Q2.flatMap PQ.L ++ fr)))))))) := by
    refine H.sep fun a => ?_
    simp only [PG.R, hQ, PQ.L, cnt_app, cnt_cons, cnt_nil, List.flatMap_append, List.flatMap_cons, List.flatMap_nil, List.append_assoc, List.cons_append, List.nil_append, i64, u32, u8, ptr, List.set_cons_zero, List.set_cons_succ]
    omega
  refine put0 H2 rfl (by simpa using h6) fun σ' H' => ?_
  rw [hv] at H'
  refine hG σ' _ u1 rfl (H'.sep fun a => ?_)
  simp only [PG.R, u2, PQ.L, PQ.O, PG.O, shelfO, hM, hx, cnt_app, cnt_cons, cnt_nil, List.flatMap_append, List.flatMap_cons, List.flatMap_nil, List.append_assoc, List.cons_append, List.nil_append, i64, u32, u8, ptr, List.set_cons_zero, List.set_cons_succ]
  omega
theorem p81 (hS : PSt s most last F S fr σ) (ok : OkD F S B) (hB : B ≤ 4294967294)
    (hN : atS S n = none → ∀ σ', PSt s most last F S fr σ' → K (.tuple ⟨[u32 0, .bool false, i64 5]⟩) σ')
    (hE : ∀ x, atS S n = some x → reads x = false → ∀ σ', PSt s most last F S fr σ' → K (.tuple ⟨[u32 0, .bool false, i64 1]⟩) σ')
    (hZ : ∀ x, atS S n = some x → reads x = true → (charsOf F x).length ≤ x.pl → ∀ σ', PSt s most last F S fr σ' → K (.tuple ⟨[u32 0, .bool false, i64 0]⟩) σ')
    (hK : ∀ x c, atS S n = some x → reads x = true → (charsOf F x)[x.pl]? = some c → ∀ σ', PSt s most last F (setS (rdS x 1) S) fr σ' → K (.tuple ⟨[u32 c, .bool true, i64 0]⟩) σ') : Tri Tryz.prog 81 [ptr s, i64 n] σ K := tri_iz (by
  rw [z81]
  have hS0 := hS
  obtain ⟨g, hg, H⟩ := hS
  refine p142 hg H ok.sn (fun h => ?_) (fun x hx h => ?_) (fun Q1 q Q2 h1 h2 h3 hrd => ?_)
  · simp only [true_and, tI_int, tB_bool, tP_ptr, tM_map, tS_str, tTup_tup, tL_sl, tIf_if, pSome_some, chk_true, bm_true, bm_false, List.getElem?_cons_zero, List.getElem?_cons_succ, Nat.zero_add, Nat.add_zero, bne_self_eq_false, beq_self_eq_true, ptrEq_some, ptrEq_none, Bool.not_true, Bool.not_false, tAgg_agg, tCons_cons, tNil_nil, add_none, aadd_none, Option.getD_some, Option.getD_none, Option.map_some, Option.map_none]
    refine bne_mk (fun _ => ⟨?_⟩) (fun h => absurd h (by decide))
    rw [z81j, bm_true]
    exact hN h σ hS0
  · simp only [true_and, tI_int, tB_bool, tP_ptr, tM_map, tS_str, tTup_tup, tL_sl, tIf_if, pSome_some, chk_true, bm_true, bm_false, List.getElem?_cons_zero, List.getElem?_cons_succ, Nat.zero_add, Nat.add_zero, bne_self_eq_false, beq_self_eq_true, ptrEq_some, ptrEq_none, Bool.not_true, Bool.not_false, tAgg_agg, tCons_cons, tNil_nil, add_none, aadd_none, Option.getD_some, Option.getD_none, Option.map_some, Option.map_none]
    refine bne_mk (fun _ => ⟨?_⟩) (fun h => absurd h (by decide))
    rw [z81j, bm_true]
    exact hE x hx h σ hS0
  have hq : q ∈ g.Q := by rw [h1]; simp
  have hqS : q.q ∈ S := (atS_mem h3).1
  have hx := PG.hasQ H hq
  have hcl := chars_le ok hqS
  simp only [ldc_eq hx, true_and, tI_int, tB_bool, tP_ptr, tM_map, tS_str, tTup_tup, tL_sl, tIf_if, pSome_some, chk_true, bm_true, bm_false, List.getElem?_cons_zero, List.getElem?_cons_succ, Nat.zero_add, Nat.add_zero, bne_self_eq_false, beq_self_eq_true, ptrEq_some, ptrEq_none, Bool.not_true, Bool.not_false, tAgg_agg, tCons_cons, tNil_nil, add_none, aadd_none, Option.getD_some, Option.getD_none, Option.map_some, Option.map_none]
  obtain ⟨t, u, f, e1, e2, e3⟩ := hsize (K := fun v16 σ17 => tI .i64 v16 fun n18 => ldc σ17 ⟨q.x, 3, none⟩ fun v19 => tI .i64 v19 fun n20 => (i64 q.q.pl = i64 n20 ∧ JoinS (jn Tryz.prog hintsZ (Tri Tryz.prog) 81 [true, true, false] [] K) [(7, some (ptr q.x)), (8, some (i64 0)), (28, some (.bool (decide ((q.q.pl : Int) ≥ n18))))] σ17)) hg H ok hq (fun σ1 H1 => by
    have hx1 := PG.hasQ H1 hq
    simp only [ldc_eq hx1, true_and, tI_int, tB_bool, tP_ptr, tM_map, tS_str, tTup_tup, tL_sl, tIf_if, pSome_some, chk_true, bm_true, bm_false, List.getElem?_cons_zero, List.getElem?_cons_succ, Nat.zero_add, Nat.add_zero, bne_self_eq_false, beq_self_eq_true, ptrEq_some, ptrEq_none, Bool.not_true, Bool.not_false, tAgg_agg, tCons_cons, tNil_nil, add_none, aadd_none, Option.getD_some, Option.getD_none, Option.map_some, Option.map_none]
    refine ⟨?_⟩
    rw [z81j]
    refine bmd_mk (fun h => hZ _ h3 hrd (by omega) σ1 ⟨g, hg, H1⟩) (fun h => ?_)
    obtain ⟨c, hc⟩ : ∃ c, (charsOf F q.q)[q.q.pl]? = some c := ⟨(charsOf F q.q)[q.q.pl]'(by omega), by simp⟩
    have hrb := ok.rd _ hqS
    simp only [ldc_eq hx1, true_and, tI_int, tB_bool, tP_ptr, tM_map, tS_str, tTup_tup, tL_sl, tIf_if, pSome_some, chk_true, bm_true, bm_false, List.getElem?_cons_zero, List.getElem?_cons_succ, Nat.zero_add, Nat.add_zero, bne_self_eq_false, beq_self_eq_true, ptrEq_some, ptrEq_none, Bool.not_true, Bool.not_false, tAgg_agg, tCons_cons, tNil_nil, add_none, aadd_none, Option.getD_some, Option.getD_none, Option.map_some, Option.map_none]
    rw [wrap1 (by omega)]
    let q1 : PQ := { q with q := { q.q with pl := q.q.pl + 1 } }
    let q2 : PQ := { q with q := { q.q with pl := q.q.pl + 1, rd := q.q.rd + 1 } }
    refine putQ (q' := q1) hg H1 h1 ok.sn rfl rfl rfl rfl rfl (hg.qo q hq) rfl (by omega) rfl fun σ2 g2 hg2 hQ2 H2 => ?_
    have hq1 : q1 ∈ g2.Q := by rw [hQ2]; simp
    have hx2 : σ2 q.x = some q1.O := PG.hasQ H2 hq1
    simp only [ldc_eq hx2, q1, true_and, tI_int, tB_bool, tP_ptr, tM_map, tS_str, tTup_tup, tL_sl, tIf_if, pSome_some, chk_true, bm_true, bm_false, List.getElem?_cons_zero, List.getElem?_cons_succ, Nat.zero_add, Nat.add_zero, bne_self_eq_false, beq_self_eq_true, ptrEq_some, ptrEq_none, Bool.not_true, Bool.not_false, tAgg_agg, tCons_cons, tNil_nil, add_none, aadd_none, Option.getD_some, Option.getD_none, Option.map_some, Option.map_none]
    have ew : IntKind.wrap .u32 ((q.q.rd : Int) + 1) = ((q.q.rd + 1 : Nat) : Int) := by rw [wrapU32 (by omega) (by omega)]; omega
    rw [ew]
    refine putQ (q := q1) (q' := q2) hg2 H2 hQ2 (setS_sn ok.sn) rfl rfl rfl rfl rfl (hg.qo q hq) rfl (by omega) rfl fun σ3 g3 hg3 hQ3 H3 => ?_
    have hq3 : q2 ∈ g3.Q := by rw [hQ3]; simp
    have hx3 : σ3 q.x = some q2.O := PG.hasQ H3 hq3
    have e9 : setS q2.q (setS q1.q S) = setS (rdS q.q 1) S := setS_setS S (x := q1.q) (y := q2.q) rfl
    rw [e9] at hg3
    have ok3 : OkD F (setS (rdS q.q 1) S) (B + 1) := ok.rdS hqS (by have := (List.getElem?_eq_some_iff.1 hc).1; omega)
    simp only [ldc_eq hx3, q2, true_and, tI_int, tB_bool, tP_ptr, tM_map, tS_str, tTup_tup, tL_sl, tIf_if, pSome_some, chk_true, bm_true, bm_false, List.getElem?_cons_zero, List.getElem?_cons_succ, Nat.zero_add, Nat.add_zero, bne_self_eq_false, beq_self_eq_true, ptrEq_some, ptrEq_none, Bool.not_true, Bool.not_false, tAgg_agg, tCons_cons, tNil_nil, add_none, aadd_none, Option.getD_some, Option.getD_none, Option.map_some, Option.map_none]
    have em : IntKind.wrap .i64 (((q.q.pl + 1 : Nat) : Int) - 1) = (q.q.pl : Int) := by rw [wrap64 (by omega) (by omega)]; omega
    obtain ⟨t', u', f', d1, d2, d3⟩ := hat (K := fun v12 σ13 => tI .u32 v12 fun n14 => K (.tuple ⟨[u32 n14, .bool true, i64 0]⟩) σ13) (c := c) (p := q.q.pl) (q := q2) hg3 H3 ok3 hq3 hc (fun σ4 H4 => by
      rw [tI_int]
      exact hK _ c h3 hrd hc σ4 ⟨g3, hg3, H4⟩)
    have d1' : PQ.on { q with q := { q.q with pl := q.q.pl + 1, rd := q.q.rd + 1 } } = .iface t' u' := d1
    simp only [d1', d2, em, true_and, tI_int, tB_bool, tP_ptr, tM_map, tS_str, tTup_tup, tL_sl, tIf_if, pSome_some, chk_true, bm_true, bm_false, List.getElem?_cons_zero, List.getElem?_cons_succ, Nat.zero_add, Nat.add_zero, bne_self_eq_false, beq_self_eq_true, ptrEq_some, ptrEq_none, Bool.not_true, Bool.not_false, tAgg_agg, tCons_cons, tNil_nil, add_none, aadd_none, Option.getD_some, Option.getD_none, Option.map_some, Option.map_none]
    exact d3)
  simp only [e1, e2, true_and, tI_int, tB_bool, tP_ptr, tM_map, tS_str, tTup_tup, tL_sl, tIf_if, pSome_some, chk_true, bm_true, bm_false, List.getElem?_cons_zero, List.getElem?_cons_succ, Nat.zero_add, Nat.add_zero, bne_self_eq_false, beq_self_eq_true, ptrEq_some, ptrEq_none, Bool.not_true, Bool.not_false, tAgg_agg, tCons_cons, tNil_nil, add_none, aadd_none, Option.getD_some, Option.getD_none, Option.map_some, Option.map_none]
  exact e3)
end
end Go.AI
end
section
set_option linter.unusedSimpArgs false
set_option linter.unusedVariables false
set_option maxRecDepth 10000
/- The program: Line, Seek, how many bytes there are; no condition but those that each names. -/
namespace Go.AI
open Go.Proofs Go.Shelf
section
variable {σ : AS} {K : Value → AS → Prop} {fr : List (Nat × AObj)} {s k B : Nat} {g : PG} {most last n mode : Int} {nm : List UInt8} {F : List Fi} {S : List Sm} {l : List Int} {a : Option Addr} {wd : Bool}
theorem p162 {mx : Int} (hS : PSt s most last F S fr σ) (ok : OkD F S B) (hB : B ≤ 1073741824)
    (hN : atS S n = none → ∀ σ', PSt s most last F S fr σ' → K (.tuple ⟨[.slice none 0 0, i64 5]⟩) σ')
    (hE : ∀ x, atS S n = some x → reads x = false → ∀ σ', PSt s most last F S fr σ' → K (.tuple ⟨[.slice none 0 0, i64 1]⟩) σ')
    (hK : ∀ x, atS S n = some x → reads x = true → ∀ σ' a' e' rows, SlC 1 a' e' (cellsU (lineOf mx.toNat ((charsOf F x).drop x.pl))) rows → PSt s most last F (setS (rdS x (lineOf mx.toNat ((charsOf F x).drop x.pl)).length) S) (rows ++ fr) σ' →
      K (.tuple ⟨[.slice a' (lineOf mx.toNat ((charsOf F x).drop x.pl)).length e', i64 0]⟩) σ') : Tri Tryz.prog 162 [ptr s, i64 n, i64 mx] σ K := tri_iz (by
  rw [z162]
  have hS0 := hS
  obtain ⟨g, hg, H⟩ := hS
  refine p142 hg H ok.sn (fun h => ?_) (fun x hx h => ?_) (fun Q1 q Q2 h1 h2 hat hrd => ?_)
  · simp only [true_and, tI_int, tB_bool, tP_ptr, tM_map, tS_str, tTup_tup, tL_sl, tIf_if, pSome_some, chk_true, bm_true, bm_false, List.getElem?_cons_zero, List.getElem?_cons_succ, Nat.zero_add, Nat.add_zero, bne_self_eq_false, beq_self_eq_true, ptrEq_some, ptrEq_none, Bool.not_true, Bool.not_false, tAgg_agg, tCons_cons, tNil_nil, add_none, aadd_none, Option.getD_some, Option.getD_none, Option.map_some, Option.map_none]
    exact bne_mk (fun _ => hN h σ hS0) (fun h => absurd h (by decide))
  · simp only [true_and, tI_int, tB_bool, tP_ptr, tM_map, tS_str, tTup_tup, tL_sl, tIf_if, pSome_some, chk_true, bm_true, bm_false, List.getElem?_cons_zero, List.getElem?_cons_succ, Nat.zero_add, Nat.add_zero, bne_self_eq_false, beq_self_eq_true, ptrEq_some, ptrEq_none, Bool.not_true, Bool.not_false, tAgg_agg, tCons_cons, tNil_nil, add_none, aadd_none, Option.getD_some, Option.getD_none, Option.map_some, Option.map_none]
    exact bne_mk (fun _ => hE x hx h σ hS0) (fun h => absurd h (by decide))
  have hq : q ∈ g.Q := by rw [h1]; simp
  have hmem : q.q ∈ S := (atS_mem hat).1
  have hcl := chars_le ok hmem
  have hplx := ok.pl _ hmem
  generalize hcs : charsOf F q.q = cs at hcl hplx
  simp only [true_and, tI_int, tB_bool, tP_ptr, tM_map, tS_str, tTup_tup, tL_sl, tIf_if, pSome_some, chk_true, bm_true, bm_false, List.getElem?_cons_zero, List.getElem?_cons_succ, Nat.zero_add, Nat.add_zero, bne_self_eq_false, beq_self_eq_true, ptrEq_some, ptrEq_none, Bool.not_true, Bool.not_false, tAgg_agg, tCons_cons, tNil_nil, add_none, aadd_none, Option.getD_some, Option.getD_none, Option.map_some, Option.map_none]
  refine aloop (fun (ys : List Int) rg σ' => lineOf mx.toNat (cs.drop q.q.pl) = ys ++ lineOf (mx.toNat - ys.length) (cs.drop (q.q.pl + ys.length)) ∧ ys.length ≤ mx.toNat ∧ q.q.pl + ys.length ≤ cs.length ∧ (∃ a' e' rows, SlC 1 a' e' (cellsU ys) rows ∧ PSt s most last F (setS (rdS q.q ys.length) S) (rows ++ fr) σ' ∧
      rg = [(0, some (ptr s)), (1, some (i64 n)), (2, some (i64 mx)), (10, some (.slice a' ys.length e'))])) (fun ys => mx.toNat - ys.length) ?_ (a := [])
      ⟨by simp, Nat.zero_le _, by simpa using hplx, none, 0, [], SlC.nil 0, by rw [List.length_nil, rdS_zero, setS_self (n := n) ok.sn hmem]; exact hS0, rfl⟩
  rintro ys rg σ1 Y hY ⟨hl, hle, hpl, a', e', rows, hs, S1, rfl⟩
  have done : ∀ {σ2 : AS} {a2 : Option Addr} {e2 : Nat} {rows2 : List (Nat × AObj)} {zs : List Int}, lineOf mx.toNat (cs.drop q.q.pl) = zs → SlC 1 a2 e2 (cellsU zs) rows2 → PSt s most last F (setS (rdS q.q zs.length) S) (rows2 ++ fr) σ2 → JoinS (jn Tryz.prog hintsZ (Tri Tryz.prog) 162 [true, true, true] [] K) [(10, some (.slice a2 zs.length e2))] σ2 := by
    rintro σ2 a2 e2 rows2 zs rfl hs2 S2
    refine ⟨?_⟩
    rw [z162j]
    have := hK _ hat hrd σ2 a2 e2 rows2
    rw [hcs] at this
    exact this hs2 S2
  rw [z162l]
  refine bmd_mk (fun h => ?_) (fun h => ?_)
  · have okd := ok.rdS (k := ys.length) hmem (by rw [hcs]; exact hpl)
    have hat2 : atS (setS (rdS q.q ys.length) S) n = some (rdS q.q ys.length) := atS_setS hat rfl
    refine p81 S1 okd (by omega) (fun h => by rw [hat2] at h; cases h) (fun x hx hr => ?_) (fun x hx hr hz σ2 S2 => ?_) (fun x c hx hr hc σ2 S2 => ?_)
    · rw [hat2] at hx; cases hx
      rw [reads_rdS, hrd] at hr; cases hr
    · rw [hat2] at hx; cases hx
      rw [charsOf_rdS, hcs] at hz
      simp only [true_and, tI_int, tB_bool, tP_ptr, tM_map, tS_str, tTup_tup, tL_sl, tIf_if, pSome_some, chk_true, bm_true, bm_false, List.getElem?_cons_zero, List.getElem?_cons_succ, Nat.zero_add, Nat.add_zero, bne_self_eq_false, beq_self_eq_true, ptrEq_some, ptrEq_none, Bool.not_true, Bool.not_false, tAgg_agg, tCons_cons, tNil_nil, add_none, aadd_none, Option.getD_some, Option.getD_none, Option.map_some, Option.map_none]
      refine done ?_ hs S2
      have hz : cs.length ≤ q.q.pl + ys.length := hz
      rw [hl, List.drop_eq_nil_of_le hz]
      cases (mx.toNat - ys.length) <;> simp [lineOf]
    · rw [hat2] at hx; cases hx
      rw [charsOf_rdS, hcs] at hc
      have hc : cs[q.q.pl + ys.length]? = some c := hc
      have hlt2 := (List.getElem?_eq_some_iff.1 hc).1
      have hdrop : cs.drop (q.q.pl + ys.length) = c :: cs.drop (q.q.pl + ys.length + 1) := by
        rw [List.drop_eq_getElem_cons hlt2]
        rw [(List.getElem?_eq_some_iff.1 hc).2]
      obtain ⟨z, hz⟩ : ∃ z, mx.toNat - ys.length = z + 1 := ⟨mx.toNat - ys.length - 1, by omega⟩
      rw [hz, hdrop] at hl
      simp only [true_and, tI_int, tB_bool, tP_ptr, tM_map, tS_str, tTup_tup, tL_sl, tIf_if, pSome_some, chk_true, bm_true, bm_false, List.getElem?_cons_zero, List.getElem?_cons_succ, Nat.zero_add, Nat.add_zero, bne_self_eq_false, beq_self_eq_true, ptrEq_some, ptrEq_none, Bool.not_true, Bool.not_false, tAgg_agg, tCons_cons, tNil_nil, add_none, aadd_none, Option.getD_some, Option.getD_none, Option.map_some, Option.map_none]
      rw [setS_setS S (x := rdS q.q ys.length) (y := rdS (rdS q.q ys.length) 1) rfl, rdS_rdS] at S2
      obtain ⟨g2, hg2, H2⟩ := S2
      rw [sz54]
      refine pushC (X := (s, g2.O most last) :: (g2.R ++ fr)) hs (H2.sep (fun a => by simp only [cnt_app, cnt_cons, cnt_nil, List.flatMap_append, List.flatMap_cons, List.flatMap_nil, List.append_assoc, List.cons_append, List.nil_append, i64, u32, u8, ptr, List.set_cons_zero, List.set_cons_succ]; omega)) (by simp) rfl (by omega) (by omega) fun a3 σ3 rows3 hs3 H3 => ?_
      have e8 : cellsU ys ++ [u32 c] = cellsU (ys ++ [c]) := by simp
      rw [e8] at hs3
      have el : (ys ++ [c]).length = ys.length + 1 := by simp
      have S3 : PSt s most last F (setS (rdS q.q (ys ++ [c]).length) S) (rows3 ++ fr) σ3 := ⟨g2, by rw [el]; exact hg2, H3.sep (fun a => by simp only [cnt_app, cnt_cons, cnt_nil, List.flatMap_append, List.flatMap_cons, List.flatMap_nil, List.append_assoc, List.cons_append, List.nil_append, i64, u32, u8, ptr, List.set_cons_zero, List.set_cons_succ]; omega)⟩
      refine beq_mk (fun h10 => ?_) (fun h10 => ?_)
      · have := done (zs := ys ++ [c]) (by rw [hl]; simp [lineOf, h10]) hs3 S3
        rw [el] at this
        exact this
      · refine hY (ys ++ [c]) _ _ (by rw [el]; omega) ⟨?_, by rw [el]; omega, by rw [el]; omega, a3, 1, rows3, hs3, S3, by rw [el]⟩
        rw [hl, el, show mx.toNat - (ys.length + 1) = z by omega]
        simp [lineOf, h10, Nat.add_assoc]
  · refine done ?_ hs S1
    rw [hl, show mx.toNat - ys.length = 0 by omega]
    simp [lineOf])
theorem p99 {p q : Int} (hS : PSt s most last F S fr σ) (ok : OkD F S B) (hp : -9223372036854775808 ≤ p ∧ p ≤ 9223372036854775807)
    (hN : atS S n = none → ∀ σ', PSt s most last F S fr σ' → K (i64 5) σ')
    (hE : ∀ x, atS S n = some x → seekE q ≠ 0 → ∀ σ', PSt s most last F S fr σ' → K (i64 1) σ')
    (hK : ∀ x, atS S n = some x → seekE q = 0 → ∀ σ', PSt s most last F (setS (seekS F x p q) S) fr σ' → K (i64 0) σ') : Tri Tryz.prog 99 [ptr s, i64 n, i64 p, i64 q] σ K := tri_iz (by
  rw [z99]
  have hS0 := hS
  obtain ⟨g, hg, H⟩ := hS
  refine p135 hg H ok.sn (fun h => ?_) (fun Q1 x Q2 h1 h2 hat => ?_)
  · simp only [true_and, tI_int, tB_bool, tP_ptr, tM_map, tS_str, tTup_tup, tL_sl, tIf_if, pSome_some, chk_true, bm_true, bm_false, List.getElem?_cons_zero, List.getElem?_cons_succ, Nat.zero_add, Nat.add_zero, bne_self_eq_false, beq_self_eq_true, ptrEq_some, ptrEq_none, Bool.not_true, Bool.not_false, tAgg_agg, tCons_cons, tNil_nil, add_none, aadd_none, Option.getD_some, Option.getD_none, Option.map_some, Option.map_none]
    exact bne_mk (fun _ => hN h σ hS0) (fun h => absurd h (by decide))
  simp only [true_and, tI_int, tB_bool, tP_ptr, tM_map, tS_str, tTup_tup, tL_sl, tIf_if, pSome_some, chk_true, bm_true, bm_false, List.getElem?_cons_zero, List.getElem?_cons_succ, Nat.zero_add, Nat.add_zero, bne_self_eq_false, beq_self_eq_true, ptrEq_some, ptrEq_none, Bool.not_true, Bool.not_false, tAgg_agg, tCons_cons, tNil_nil, add_none, aadd_none, Option.getD_some, Option.getD_none, Option.map_some, Option.map_none]
  have hx : x ∈ g.Q := by rw [h1]; simp
  have hmem : x.q ∈ S := (atS_mem hat).1
  have hcl := chars_le ok hmem
  have hplx := ok.pl _ hmem
  have last_ : ∀ base : Int, ∀ σ1, Has σ1 ((s, g.O most last) :: (g.R ++ fr)) → (0 ≤ base ∧ base ≤ (charsOf F x.q).length) → seekE q = 0 → base = (if q = 0 then 0 else if q = 1 then (x.q.pl : Int) else (charsOf F x.q).length) →
      JoinS (jn Tryz.prog hintsZ (Tri Tryz.prog) 99 [true, true, true, true] [] K) [(2, some (i64 p)), (9, some (ptr x.x)), (11, some (i64 base))] σ1 := by
    rintro base σ1 H1 hb hq0 hbe
    refine ⟨?_⟩
    rw [z99j]
    have hx1 := PG.hasQ H1 hx
    obtain ⟨t, u, f, e1, e2, e3⟩ := hsize (K := fun v4 σ5 => tI .i64 v4 fun n6 => put1 σ5 ⟨x.x, 0 + 3, none⟩ (i64 (IntKind.wrap .i64 (base + imax (IntKind.wrap .i64 (0 - base)) (imin p (IntKind.wrap .i64 (n6 - base)))))) fun σ7 => K (i64 0) σ7) hg H1 ok hx (fun σ2 H2 => by
      rw [tI_int]
      have in_ := seekTo_in (base := base) (sz := (charsOf F x.q).length) (p := p) hb.1 hb.2
      have ev : IntKind.wrap .i64 (base + imax (IntKind.wrap .i64 (0 - base)) (imin p (IntKind.wrap .i64 (((charsOf F x.q).length : Int) - base)))) = ((seekTo base (charsOf F x.q).length p).toNat : Int) := by
        rw [wrap64 (n := 0 - base) (by omega) (by omega), wrap64 (n := ((charsOf F x.q).length : Int) - base) (by omega) (by omega)]
        have e : base + imax (0 - base) (imin p (((charsOf F x.q).length : Int) - base)) = seekTo base (charsOf F x.q).length p := by
          unfold seekTo imax imin
          split <;> split <;> omega
        rw [e, wrap64 (by omega) (by omega)]
        omega
      rw [ev]
      refine putQ (q' := { x with q := { x.q with pl := (seekTo base (charsOf F x.q).length p).toNat } }) hg H2 h1 ok.sn rfl rfl rfl rfl rfl (hg.qo x hx) rfl (by omega) rfl fun σ3 g3 hg3 _ H3 => ?_
      refine hK _ hat hq0 σ3 ⟨g3, ?_, H3⟩
      have : seekS F x.q p q = { x.q with pl := (seekTo base (charsOf F x.q).length p).toNat } := by
        unfold seekS
        rw [hbe]
      rw [this]
      exact hg3)
    simp only [ldc_eq hx1, e1, e2, true_and, tI_int, tB_bool, tP_ptr, tM_map, tS_str, tTup_tup, tL_sl, tIf_if, pSome_some, chk_true, bm_true, bm_false, List.getElem?_cons_zero, List.getElem?_cons_succ, Nat.zero_add, Nat.add_zero, bne_self_eq_false, beq_self_eq_true, ptrEq_some, ptrEq_none, Bool.not_true, Bool.not_false, tAgg_agg, tCons_cons, tNil_nil, add_none, aadd_none, Option.getD_some, Option.getD_none, Option.map_some, Option.map_none]
    exact e3
  refine beq_mk (fun h => ?_) (fun h0 => ?_)
  · subst h
    exact last_ 0 σ H ⟨by omega, by omega⟩ rfl rfl
  refine beq_mk (fun h => ?_) (fun h1' => ?_)
  · subst h
    simp only [ldc_eq (PG.hasQ H hx), true_and, tI_int, tB_bool, tP_ptr, tM_map, tS_str, tTup_tup, tL_sl, tIf_if, pSome_some, chk_true, bm_true, bm_false, List.getElem?_cons_zero, List.getElem?_cons_succ, Nat.zero_add, Nat.add_zero, bne_self_eq_false, beq_self_eq_true, ptrEq_some, ptrEq_none, Bool.not_true, Bool.not_false, tAgg_agg, tCons_cons, tNil_nil, add_none, aadd_none, Option.getD_some, Option.getD_none, Option.map_some, Option.map_none]
    exact last_ _ σ H ⟨by omega, by omega⟩ rfl rfl
  refine beq_mk (fun h => ?_) (fun h2' => ?_)
  · subst h
    obtain ⟨t, u, f, e1, e2, e3⟩ := hsize (K := fun v16 σ17 => tI .i64 v16 fun n18 => JoinS (jn Tryz.prog hintsZ (Tri Tryz.prog) 99 [true, true, true, true] [] K) [(2, some (i64 p)), (9, some (ptr x.x)), (11, some (i64 n18))] σ17) hg H ok hx (fun σ1 H1 => by
      rw [tI_int]
      exact last_ _ σ1 H1 ⟨by omega, by omega⟩ rfl rfl)
    simp only [ldc_eq (PG.hasQ H hx), e1, e2, true_and, tI_int, tB_bool, tP_ptr, tM_map, tS_str, tTup_tup, tL_sl, tIf_if, pSome_some, chk_true, bm_true, bm_false, List.getElem?_cons_zero, List.getElem?_cons_succ, Nat.zero_add, Nat.add_zero, bne_self_eq_false, beq_self_eq_true, ptrEq_some, ptrEq_none, Bool.not_true, Bool.not_false, tAgg_agg, tCons_cons, tNil_nil, add_none, aadd_none, Option.getD_some, Option.getD_none, Option.map_some, Option.map_none]
    exact e3
  · exact hE _ hat (by unfold seekE; rw [if_pos (by omega)]; decide) σ hS0)
/-- How many bytes there are. -/
theorem totF_perm {F G : List Fi} (h : F.Perm G) : totF F = totF G := (h.map fun f : Fi => f.b.length).sum_nat
theorem sumF {G G' : List PF} (h : G.Perm G') : totF (G.map PF.f) = totF (G'.map PF.f) := (totF_perm (h.map PF.f))
theorem p137 (hg : g.ok F S) (H : Has σ ((s, g.O most last) :: (g.R ++ fr))) (ht : totF F ≤ 1099511627776) (hK : ∀ σ', Has σ' ((s, g.O most last) :: (g.R ++ fr)) → K (i64 (totF F)) σ') : Tri Tryz.prog 137 [ptr s] σ K := tri_iz (by
  rw [z137]
  simp only [ldc_eq (H.at 0 rfl), true_and, tI_int, tB_bool, tP_ptr, tM_map, tS_str, tTup_tup, tL_sl, tIf_if, pSome_some, chk_true, bm_true, bm_false, List.getElem?_cons_zero, List.getElem?_cons_succ, Nat.zero_add, Nat.add_zero, bne_self_eq_false, beq_self_eq_true, ptrEq_some, ptrEq_none, Bool.not_true, Bool.not_false, tAgg_agg, tCons_cons, tNil_nil, add_none, aadd_none, Option.getD_some, Option.getD_none, Option.map_some, Option.map_none]
  have hm : (g.f, AObj.map (g.G.map entF) g.cf) ∈ (s, g.O most last) :: (g.R ++ fr) := by unfold PG.R; simp
  refine rngM_m H hm fun j σ1 H1 => ?_
  have et : totF F = totF (g.G.map PF.f) := (totF_perm hg.gF).symm
  refine aloop (fun (y : List PF × List PF) rg σ' => (y.1 ++ y.2).Perm g.G ∧ Has σ' ((j, .iter (some g.f) g.cf (y.1.map fun x => (entF x).born) g.cf) :: ((s, g.O most last) :: (g.R ++ fr))) ∧
    rg = [(3, some (i64 (totF (y.1.map PF.f)))), (12, some (ptr j))]) (fun y => y.2.length) ?_ (a := ([], g.G)) ⟨by simp, H1, rfl⟩
  rintro ⟨A, R⟩ rg σ2 Y hY ⟨hp, H2, rfl⟩
  rw [z137l]
  refine mnext_m H2 hm hg.bF hp (fun q R' hR σ3 H3 => ?_) (fun hR => ?_)
  · have hqG : q ∈ g.G := hp.mem_iff.1 (List.mem_append_right _ (hR.mem_iff.2 (by simp)))
    have hp' : ((A ++ [q]) ++ R').Perm g.G := by
      rw [List.append_assoc]
      exact (hR.symm.append_left A).trans hp
    have hb : totF ((A ++ [q]).map PF.f) ≤ totF F := by
      rw [et, ← sumF hp', List.map_append (l₂ := R'), totF_app]
      omega
    have es : totF ((A ++ [q]).map PF.f) = totF (A.map PF.f) + q.f.b.length := by
      rw [List.map_append, totF_app]
      simp [totF]
    simp only [onNx]
    refine mentry_m H3 hm hg.bF hqG ?_
    have hx : σ3 q.fi = some q.O := PG.hasF (fr := fr) (most := most) (last := last) (s := s) (H3.sep (fun a => by simp only [cnt_app, cnt_cons, cnt_nil, List.flatMap_append, List.flatMap_cons, List.flatMap_nil, List.append_assoc, List.cons_append, List.nil_append, i64, u32, u8, ptr, List.set_cons_zero, List.set_cons_succ]; omega)) hqG
    simp only [entF, ldc_eq hx, tL_ok_eq (hg.go q hqG).b.no, true_and, tI_int, tB_bool, tP_ptr, tM_map, tS_str, tTup_tup, tL_sl, tIf_if, pSome_some, chk_true, bm_true, bm_false, List.getElem?_cons_zero, List.getElem?_cons_succ, Nat.zero_add, Nat.add_zero, bne_self_eq_false, beq_self_eq_true, ptrEq_some, ptrEq_none, Bool.not_true, Bool.not_false, tAgg_agg, tCons_cons, tNil_nil, add_none, aadd_none, Option.getD_some, Option.getD_none, Option.map_some, Option.map_none]
    refine hY (A ++ [q], R') _ _ ?_ ⟨hp', H3, ?_⟩
    · show R'.length < R.length
      rw [hR.length_eq]; simp
    · rw [wrap64 (by omega) (by omega), es]
      rfl
  · simp only [onNx]
    have : totF (A.map PF.f) = totF F := by
      rw [et, ← sumF hp]
      have hR : R = [] := hR
      simp only [hR, List.append_nil]
    rw [this]
    exact hK σ2 (H2.sep (fun a => by simp only [cnt_app, cnt_cons, cnt_nil, List.flatMap_append, List.flatMap_cons, List.flatMap_nil, List.append_assoc, List.cons_append, List.nil_append, i64, u32, u8, ptr, List.set_cons_zero, List.set_cons_succ]; omega)))
end
end Go.AI
end
section
set_option linter.unusedSimpArgs false
set_option linter.unusedVariables false
set_option maxRecDepth 10000
/- The program: a character put, Write; no condition but those that each names. -/
namespace Go.Shelf
/-- One character put where a stream stands. -/
def put1F (F : List Fi) (x : Sm) (c : Int) : List Fi := if x.nm = [] then F else setB x.nm (setA (bOf F x.nm) (unW x.wd * x.pl) (enc1 x.wd c)) F
def put1S (x : Sm) (c : Int) : Sm := if x.nm = [] then { x with l := if x.pl < x.l.length then x.l.set x.pl (putC x.wd c) else x.l } else x
theorem setB_setB (F : List Fi) (n : List UInt8) (b c : List Int) : setB n c (setB n b F) = setB n c F := by
  unfold setB
  rw [List.map_map]
  refine List.map_congr_left fun z _ => ?_
  simp only [Function.comp]
  by_cases e : z.nm = n
  · rw [if_pos e]; simp only [e, if_true]
  · rw [if_neg e, if_neg e]
theorem setB_self {F : List Fi} (hs : Srt F) (n : List UInt8) : setB n (bOf F n) F = F := by
  unfold setB
  conv => rhs; rw [← List.map_id F]
  refine List.map_congr_left fun z hz => ?_
  by_cases e : z.nm = n
  · rw [if_pos e, ← e, bOf_mem hs hz]; rfl
  · rw [if_neg e]; rfl
theorem un_size {w : Bool} {p : Nat} {bs : List Int} (h : unW w * p ≤ bs.length) : p ≤ sizeW w bs := by
  cases w <;> simp only [unW, sizeW] at * <;> omega
theorem un_le {w : Bool} {p : Nat} {bs : List Int} (h : p ≤ sizeW w bs) : unW w * p ≤ bs.length := by
  cases w <;> simp only [unW, sizeW] at * <;> omega
theorem wrB_len {b : List Int} {x : Sm} {ms : List Int} (h : unW x.wd * x.pl ≤ b.length) : (wrB b x ms).length = max b.length (unW x.wd * (x.pl + ms.length)) := by
  unfold wrB
  rw [setA_len h, enc_len, Nat.mul_add]
theorem wrB_nil {b : List Int} {x : Sm} : wrB b x [] = b := by unfold wrB; rw [enc_nil, setA_nil]
theorem wrB_snoc {b : List Int} {x : Sm} {ms : List Int} {c : Int} (h : unW x.wd * x.pl ≤ b.length) : wrB b x (ms ++ [c]) = setA (wrB b x ms) (unW x.wd * (x.pl + ms.length)) (enc1 x.wd c) := by
  unfold wrB
  rw [enc_app, ← setA_setA h, enc_len, Nat.mul_add, show enc x.wd [c] = enc1 x.wd c from by simp [enc]]
theorem setB_len1 {F : List Fi} {n : List UInt8} {b : List Int} {m : Nat} (h : ∀ f ∈ F, f.b.length ≤ m) (hb : hasF F n = true → b.length ≤ m) : ∀ f ∈ setB n b F, f.b.length ≤ m := by
  intro f hf
  obtain ⟨g, hg, rfl⟩ := List.mem_map.1 hf
  split
  · rename_i e; exact hb (hasF_iff.2 ⟨g, hg, e⟩)
  · exact h g hg
end Go.Shelf
namespace Go.AI
open Go.Proofs Go.Shelf
section
variable {σ : AS} {K : Value → AS → Prop} {fr : List (Nat × AObj)} {s k B : Nat} {g : PG} {most last n mode : Int} {nm : List UInt8} {F : List Fi} {S : List Sm} {l : List Int} {a : Option Addr} {wd : Bool}
theorem chr_in {X : List (Nat × AObj)} {j : Nat} {c : Int} {G : Value → Prop} (hs : Inp u32 a l X) (H : Has σ X) (hc : l[j]? = some c) (hG : G (u32 c)) :
    req (0 ≤ (j : Int)) (req ((j : Int) < (l.length : Int)) (pSome a fun a0 => req (1 = szOf Tryz.prog 32) (ldc σ (aadd a0 (Int.toNat (j : Int) * szOf Tryz.prog 32)) G))) := by
  have hlt := (List.getElem?_eq_some_iff.1 hc).1
  refine req_mk (by omega) (req_mk (by omega) ?_)
  rcases hs with rfl | ⟨r, q, rfl, hr⟩
  · simp at hlt
  have hv : (l.map u32)[j]? = some (u32 c) := by rw [List.getElem?_map, hc]; rfl
  simp only [sz54, Int.toNat_natCast, Nat.mul_one, true_and, tI_int, tB_bool, tP_ptr, tM_map, tS_str, tTup_tup, tL_sl, tIf_if, pSome_some, chk_true, bm_true, bm_false, List.getElem?_cons_zero, List.getElem?_cons_succ, Nat.zero_add, Nat.add_zero, bne_self_eq_false, beq_self_eq_true, ptrEq_some, ptrEq_none, Bool.not_true, Bool.not_false, tAgg_agg, tCons_cons, tNil_nil, add_none, aadd_none, Option.getD_some, Option.getD_none, Option.map_some, Option.map_none]
  refine req_mk trivial ?_
  rw [ldc_eq (H.g hr), hv]
  exact hG
theorem PQ.on_eq {q q' : PQ} (h1 : q'.q.nm = q.q.nm) (h2 : q'.q.wd = q.q.wd) (h3 : q'.fi = q.fi) : q'.on = q.on := by unfold PQ.on; rw [h1, h2, h3]
theorem PQ.fp_eq {q q' : PQ} (h1 : q'.q.nm = q.q.nm) (h3 : q'.fi = q.fi) : q'.fp = q.fp := by unfold PQ.fp; rw [h1, h3]
/-- A character is put. -/
theorem hput {c : Int} {Q1 Q2 : List PQ} {q : PQ} (hg : g.ok F S) (H : Has σ ((s, g.O most last) :: (g.R ++ fr))) (srt : Srt F) (f1 : ∀ f ∈ F, f.b.length ≤ 1048576) (sn : S.Pairwise fun x y => x.n < y.n) (hQ : g.Q = Q1 ++ q :: Q2) (hc : 0 ≤ c ∧ c ≤ 4294967295) (hp : q.q.pl ≤ (charsOf F q.q).length)
    (hK : ∀ σ' (g' : PG) (q' : PQ), g'.ok (put1F F q.q c) (setS (put1S q.q c) S) → g'.Q = Q1 ++ q' :: Q2 → q'.q = put1S q.q c → q'.x = q.x → q'.fi = q.fi → q'.bn = q.bn → Has σ' ((s, g'.O most last) :: (g'.R ++ fr)) → K unit0 σ') :
    ∃ t u f, q.on = .iface t u ∧ methodOf Tryz.prog t "grotto/shelf.put" = some f ∧ Tri Tryz.prog f [u, i64 q.q.pl, u32 c] σ K := by
  have hq : q ∈ g.Q := by rw [hQ]; simp
  have hmem : q.q ∈ S := by rw [← hg.qS]; exact List.mem_map_of_mem hq
  by_cases h : q.q.nm = []
  · refine ⟨tyB, ptr q.fi, 187, PQ.on_b h, meth_put_b, ?_⟩
    refine p187 (l := q.q.l) (wd := q.q.wd) (a := q.a) (rows := q.rows) (X := (q.x, q.O) :: ((s, g.O most last) :: ((g.f, .map (g.G.map entF) g.cf) :: ((g.m, .map (g.Q.map entQ) g.cm) :: (g.G.flatMap PF.L ++ (Q1.flatMap PQ.L ++ (Q2.flatMap PQ.L ++ fr))))))) (H.sep ?_) (hg.qo q hq h) hc fun σ' rows' hs' H' => ?_
    · intro a
      simp only [PG.R, hQ, PQ.L, PQ.M_b h, cnt_app, cnt_cons, cnt_nil, List.flatMap_append, List.flatMap_cons, List.flatMap_nil, List.append_assoc, List.cons_append, List.nil_append, i64, u32, u8, ptr, List.set_cons_zero, List.set_cons_succ]
      omega
    · have e1 : put1F F q.q c = F := by unfold put1F; rw [if_pos h]
      have e2 : put1S q.q c = { q.q with l := if q.q.pl < q.q.l.length then q.q.l.set q.q.pl (putC q.q.wd c) else q.q.l } := by unfold put1S; rw [if_pos h]
      let q' : PQ := { q with q := put1S q.q c, rows := rows' }
      have eq : q'.q = put1S q.q c := rfl
      have en : q'.q.nm = q.q.nm := by rw [eq, e2]
      have ew : q'.q.wd = q.q.wd := by rw [eq, e2]
      have el : q'.q.l.length = q.q.l.length := by
        rw [eq, e2]
        simp only
        split
        · rw [List.length_set]
        · rfl
      have eO : q'.O = q.O := by
        show AObj.row .plain [q'.on, q'.fp, i64 q'.q.mode, i64 q'.q.pl, u32 q'.q.rd, u32 q'.q.wr] = _
        rw [PQ.on_eq en ew rfl, PQ.fp_eq en rfl, eq, e2]
      have ho : q'.ok := by
        intro _
        rw [eq, e2]
        exact hs'
      obtain ⟨u1, u2⟩ := hg.updQ (q' := q') hQ sn rfl rfl rfl (by rw [eq, e2]) en ho
      rw [eq] at u1
      refine hK σ' { g with Q := Q1 ++ q' :: Q2 } q' (by rw [e1]; exact u1) rfl rfl rfl rfl rfl (H'.sep ?_)
      intro a
      have h' : q'.q.nm = [] := by rw [en]; exact h
      have eM : q'.M = (q.fi, buO q.a q.q.l.length q.q.wd) :: rows' := by rw [PQ.M_b h', el, ew]
      simp only [PG.R, PG.O, shelfO, u2, PQ.L, eM, eO, show q'.x = q.x from rfl, cnt_app, cnt_cons, cnt_nil, List.flatMap_append, List.flatMap_cons, List.flatMap_nil, List.append_assoc, List.cons_append, List.nil_append, i64, u32, u8, ptr, List.set_cons_zero, List.set_cons_succ]
      omega
  · obtain ⟨G1, r, G2, hG, h1, h2, h3, h4, h5⟩ := hg.file srt hq h
    refine ⟨_, _, _, PQ.on_f h, meth_put_g _, ?_⟩
    rw [← h2]
    have hb := f1 _ h4
    have hpl : unW q.q.wd * q.q.pl ≤ r.f.b.length := by
      rw [charsOf_len, if_neg h, h5] at hp
      exact un_le hp
    refine cpu (bs := r.f.b) (a := r.a) (e := r.e) (oa := r.oa) (on := r.op.length) (oe := r.oe) (rows := r.rows) (X := (s, g.O most last) :: ((g.f, .map (g.G.map entF) g.cf) :: ((g.m, .map (g.Q.map entQ) g.cm) :: (r.orows ++ (G1.flatMap PF.L ++ (G2.flatMap PF.L ++ (g.Q.flatMap PQ.L ++ fr))))))) (H.sep ?_) h3.b (by omega) hc hpl fun σ' a' rows' hs' H' => ?_
    · intro a
      simp only [PG.R, hG, PF.L, PF.O, fiO, cnt_app, cnt_cons, cnt_nil, List.flatMap_append, List.flatMap_cons, List.flatMap_nil, List.append_assoc, List.cons_append, List.nil_append, i64, u32, u8, ptr, List.set_cons_zero, List.set_cons_succ]
      omega
    · have e1 : put1F F q.q c = setB r.f.nm (setA r.f.b (unW q.q.wd * q.q.pl) (enc1 q.q.wd c)) F := by unfold put1F; rw [if_neg h, h5, h1]
      have e2 : put1S q.q c = q.q := by unfold put1S; rw [if_neg h]
      let r' : PF := { r with f := { r.f with b := setA r.f.b (unW q.q.wd * q.q.pl) (enc1 q.q.wd c) }, a := a', e := 1, rows := rows' }
      obtain ⟨u1, u2⟩ := hg.updG (r' := r') hG srt rfl rfl rfl rfl ⟨hs', h3.o⟩
      refine hK σ' { g with G := G1 ++ r' :: G2 } q ?_ hQ e2.symm rfl rfl rfl (H'.sep ?_)
      · rw [e1, e2, setS_self (n := 0) sn hmem]
        exact u1
      · intro a
        simp only [PG.R, PG.O, shelfO, u2, PF.L, PF.O, fiO, r', cnt_app, cnt_cons, cnt_nil, List.flatMap_append, List.flatMap_cons, List.flatMap_nil, List.append_assoc, List.cons_append, List.nil_append, i64, u32, u8, ptr, List.set_cons_zero, List.set_cons_succ]
        omega
/-- A stream that is written to, so far. -/
def wrX (x : Sm) (ms : List Int) : Sm := { wrS x ms with wr := x.wr }
theorem wrX_nil {x : Sm} {cl : Nat} (h : x.nm = [] → x.pl ≤ x.l.length) : wrX x [] = x := by
  unfold wrX wrS
  split
  · rename_i h0
    have := h h0
    rw [List.map_nil, bufW_nil, List.length_nil, Nat.add_zero, Nat.min_eq_left this]
  · rfl
theorem wrX_b {x : Sm} {ms : List Int} (h : x.nm = []) : wrX x ms = { x with l := bufW x.l x.pl (ms.map (putC x.wd)), pl := min (x.pl + ms.length) x.l.length } := by
  unfold wrX wrS; rw [if_pos h]
theorem wrX_f {x : Sm} {ms : List Int} (h : x.nm ≠ []) : wrX x ms = { x with pl := x.pl + ms.length } := by
  unfold wrX wrS; rw [if_neg h]
theorem wrX_eq {x : Sm} {ms : List Int} : (wrX x ms).n = x.n ∧ (wrX x ms).nm = x.nm ∧ (wrX x ms).mode = x.mode ∧ (wrX x ms).wd = x.wd ∧ (wrX x ms).rd = x.rd ∧ (wrX x ms).wr = x.wr := by
  unfold wrX wrS
  split <;> exact ⟨rfl, rfl, rfl, rfl, rfl, rfl⟩
theorem put1_eq {x : Sm} {c : Int} : (put1S x c).n = x.n ∧ (put1S x c).nm = x.nm ∧ (put1S x c).mode = x.mode ∧ (put1S x c).wd = x.wd ∧ (put1S x c).rd = x.rd ∧ (put1S x c).wr = x.wr ∧ (put1S x c).pl = x.pl := by
  unfold put1S
  split <;> exact ⟨rfl, rfl, rfl, rfl, rfl, rfl, rfl⟩
/-- One character more. -/
theorem wr_step {x : Sm} {ms : List Int} {c : Int} (hp : x.pl ≤ (charsOf F x).length) (hh : x.nm ≠ [] → hasF F x.nm = true) :
    put1F (wrF F x ms) (wrX x ms) c = wrF F x (ms ++ [c]) ∧
    ({ put1S (wrX x ms) c with pl := min ((wrX x ms).pl + 1) (charsOf (put1F (wrF F x ms) (wrX x ms) c) (put1S (wrX x ms) c)).length } : Sm) = wrX x (ms ++ [c]) ∧
    (wrX x ms).pl ≤ (charsOf (wrF F x ms) (wrX x ms)).length := by
  obtain ⟨w1, w2, w3, w4, w5, w6⟩ := wrX_eq (x := x) (ms := ms)
  obtain ⟨p1, p2, p3, p4, p5, p6, p7⟩ := put1_eq (x := wrX x ms) (c := c)
  by_cases h : x.nm = []
  · rw [charsOf_len, if_pos h] at hp
    have e0 : (put1S (wrX x ms) c).l.length = x.l.length := by
      unfold put1S
      rw [if_pos (by rw [w2]; exact h), wrX_b h]
      simp only
      split
      · rw [List.length_set, bufW_len hp]
      · rw [bufW_len hp]
    refine ⟨?_, ?_, ?_⟩
    · unfold put1F wrF
      rw [if_pos (by rw [w2]; exact h), if_pos h, if_pos h]
    · rw [charsOf_len, if_pos (by rw [p2, w2]; exact h), e0]
      unfold put1S
      rw [if_pos (by rw [w2]; exact h), wrX_b h, wrX_b h]
      simp only [List.map_append, List.map_cons, List.map_nil, List.length_append, List.length_cons, List.length_nil, bufW_len hp]
      rw [bufW_snoc hp, List.length_map]
      have em : min (min (x.pl + ms.length) x.l.length + 1) x.l.length = min (x.pl + (ms.length + (0 + 1))) x.l.length := by omega
      rw [em]
      by_cases g : x.pl + ms.length < x.l.length
      · rw [if_pos g, if_pos (by omega), Nat.min_eq_left (by omega)]
      · rw [if_neg g, if_neg (by omega)]
    · rw [charsOf_len, if_pos (by rw [w2]; exact h), wrX_b h]
      simp only [bufW_len hp]
      omega
  · have hh := hh h
    have hu : unW x.wd * x.pl ≤ (bOf F x.nm).length := by rw [charsOf_len, if_neg h] at hp; exact un_le hp
    have eb : ∀ b, bOf (setB x.nm b F) x.nm = b := fun b => by rw [bOf_setB, if_pos ⟨rfl, hh⟩]
    have e1 : put1F (wrF F x ms) (wrX x ms) c = wrF F x (ms ++ [c]) := by
      unfold put1F wrF
      rw [if_neg (by rw [w2]; exact h), if_neg h, if_neg h, w2, w4, eb, setB_setB, wrB_snoc hu, wrX_f h]
    have e2 : put1S (wrX x ms) c = wrX x ms := by unfold put1S; rw [if_neg (by rw [w2]; exact h)]
    have e3 : ∀ zs, bOf (wrF F x zs) x.nm = wrB (bOf F x.nm) x zs := fun zs => by unfold wrF; rw [if_neg h, eb]
    refine ⟨e1, ?_, ?_⟩
    · rw [e1, e2, charsOf_len, if_neg (by rw [w2]; exact h), w2, w4, e3]
      have : x.pl + ms.length + 1 ≤ sizeW x.wd (wrB (bOf F x.nm) x (ms ++ [c])) := by
        apply un_size
        rw [wrB_len hu, List.length_append]
        simp only [List.length_cons, List.length_nil, Nat.zero_add, Nat.add_assoc]
        omega
      rw [wrX_f h, wrX_f h]
      simp only [List.length_append, List.length_cons, List.length_nil, Nat.zero_add]
      rw [Nat.min_eq_left this, Nat.add_assoc]
    · rw [charsOf_len, if_neg (by rw [w2]; exact h), w2, w4, e3, wrX_f h]
      apply un_size
      rw [wrB_len hu]
      simp only
      omega
end
end Go.AI
end
