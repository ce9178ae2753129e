/- Lemmas of the abstract condition ahead of code (a part of the library that the claim's proof stands on); they hold with no condition but those that each names. -/
import Derived.Test.YtlofpopejkohbaaGreatAIQ4
set_option linter.unusedSimpArgs false
set_option linter.unusedVariables false
namespace Go.AI
section
variable {P : Program} {w : World} {ρ : RM} {σ : AS} {K : Value → Prop}

theorem fieldOf_elim {t : TypeId} {i : Nat} {f : Field} (h : fieldOf P t i = some f) : ∃ fs, P.underlying t = some (.struct fs) ∧ fs[i]? = some f := by
  unfold fieldOf at h
  split at h
  · exact ⟨_, ‹_›, h⟩
  · cases h

theorem ptr_add {a : Addr} {cv : Value} (r : VRel ρ (.pointer (some a)) cv) (n : Nat) : ∃ ca, cv = .pointer (some ca) ∧ VRel ρ (.pointer (some (a.add n))) (.pointer (some (ca.add n))) := by
  cases r with
  | ptr h =>
    refine ⟨_, rfl, ?_⟩
    rw [addr_add_none, addr_add_none]
    rw [show ∀ o s : Nat, o + s + n = o + n + s from fun o s => by omega]
    exact .ptr h

theorem q_fieldAddr {s : TypeId} {i : Nat} {f : Field} {o : Option Addr} {cx : Value} (hf : fieldOf P s i = some f) (hz : Nat.beq (szOf P f.type) 0 = false)
    (r : VRel ρ (.pointer o) cx) (h : pSome o fun a => K (.pointer (some (a.add f.offset)))) : QOk P w ρ (Instr.fieldAt s cx i) K := by
  obtain ⟨fs, hu, hi⟩ := fieldOf_elim hf
  obtain ⟨a, rfl, h⟩ := pSome_elim h
  obtain ⟨ca, rfl, rr⟩ := ptr_add r f.offset
  have hne : szOf P f.type ≠ 0 := by intro h; rw [h] at hz; cases hz
  have hk : (P.info? f.type).isSome = true := by
    cases hi : P.info? f.type with
    | none => exact absurd (by simp [szOf, hi]) hne
    | some i => rfl
  exact q_mk (by simp [Instr.fieldAt, run_underlying hu, hi, Instr.sureAddr, fieldPlace, run_size hk, hne]) rr h

theorem VsRel.get1 {a b : List Value} (h : VsRel ρ a b) {j : Nat} {v : Value} (e : a[j]? = some v) : ∃ cv, b[j]? = some cv ∧ VRel ρ v cv := h.get e

theorem q_part {t : TypeId} {cs ccs : List Value} {off : Nat} (hu : ∃ d, P.underlying t = some d) (rs : VsRel ρ cs ccs) (hone : ∀ v ∈ ccs, v.oneCell' = true) (h : aPart P t cs off K) : QOk P w ρ (part t ⟨ccs⟩ off) K := by
  obtain ⟨d, hu⟩ := hu
  unfold aPart at h
  have hagg := run_isAgg hu w
  cases hg : isAggT P t with
  | true =>
    rw [hg] at h hagg
    simp only at h
    cases hb : Nat.ble (off + szOf P t) cs.length with
    | false => rw [hb] at h; exact h.elim
    | true =>
      rw [hb] at h
      refine ⟨_, .agg ⟨(ccs.drop off).take (szOf P t)⟩, ?_, .agg ((rs.drop off).take (szOf P t)) (fun v hv => hone v (List.mem_of_mem_drop (List.mem_of_mem_take hv))), h⟩
      simp only [part, Sem.run_bind, hagg, Result.andThen_ok, if_true, run_sizeOf hu, Sem.run_pure]
      congr 2
      apply Array.ext'
      simp
  | false =>
    rw [hg] at h hagg
    obtain ⟨v, h1, h2⟩ := pSome_elim h
    obtain ⟨cv, h3, h4⟩ := rs.get h1
    refine q_mk ?_ h4 h2
    simp [part, hagg, h3]

theorem q_field {t : TypeId} {i : Nat} {f : Field} {a : Array Value} {cx : Value} (hf : fieldOf P t i = some f) (hk : ∃ d, P.underlying f.type = some d)
    (r : VRel ρ (.agg a) cx) (h : aPart P f.type a.toList f.offset K) : QOk P w ρ (Instr.field t cx i) K := by
  obtain ⟨fs, hu, hi⟩ := fieldOf_elim hf
  cases r with
  | agg rs hone =>
    obtain ⟨v, cv, h1, h2, h3⟩ := q_part (P := P) (w := w) hk rs hone h
    exact ⟨v, cv, by simp [Instr.field, run_underlying hu, hi, asAgg, h1], h2, h3⟩

theorem q_indexAddr_s {t e : TypeId} {a : Option Addr} {n c : Nat} {k : IntKind} {j : Int} {cx cy : Value} (hu : P.underlying t = some (.slice e)) (hk : (P.info? e).isSome = true)
    (rx : VRel ρ (.slice a n c) cx) (hy : cy = .int k j) (h0 : 0 ≤ j) (h1 : j < n) (h : pSome a fun a => req (c = szOf P e) <| K (.pointer (some (a.add (j.toNat * szOf P e))))) :
    QOk P w ρ (Instr.indexAt t cx cy) K := by
  have h' := pSome_elim h
  clear h
  obtain ⟨a, rfl, h'⟩ := h'
  replace h' := req_elim h'
  obtain ⟨hc, h⟩ := h'
  subst hy
  cases rx with
  | emp => omega
  | slice hr hn ho hs hw =>
    rename_i i o cap o' l
    have ho := ho.resolve_left (by omega)
    subst ho
    refine ⟨_, .pointer (some ⟨l.block, o + l.shift + j.toNat * szOf P e, none⟩), ?_, ?_, h⟩
    · simp only [Instr.indexAt, asIntOf, Sem.run_bind, Sem.run_pure, Result.andThen_ok, run_underlying hu, run_size hk]
      rw [if_pos ⟨h0, h1⟩]
      simp only [Sem.run_bind, Result.andThen_ok, run_size hk, Sem.run_pure, addr_add_none]
    · rw [addr_add_none, show ∀ x : Nat, o + l.shift + x = o + x + l.shift from fun x => by omega]
      exact .ptr hr

theorem q_indexAddr_a {t e : TypeId} {o : Option Addr} {n : Nat} {k : IntKind} {j : Int} {cx cy : Value} (hu : P.underlying t = some (.array n e)) (hk : (P.info? e).isSome = true)
    (rx : VRel ρ (.pointer o) cx) (hy : cy = .int k j) (h0 : 0 ≤ j) (h1 : j < n) (h : pSome o fun a => K (.pointer (some (a.add (j.toNat * szOf P e))))) :
    QOk P w ρ (Instr.indexAt t cx cy) K := by
  obtain ⟨a, rfl, h⟩ := pSome_elim h
  subst hy
  obtain ⟨ca, rfl, rr⟩ := ptr_add rx (j.toNat * szOf P e)
  refine ⟨_, _, ?_, rr, h⟩
  simp only [Instr.indexAt, asIntOf, Sem.run_bind, Sem.run_pure, Result.andThen_ok, run_underlying hu, Instr.sureAddr]
  rw [if_pos ⟨h0, h1⟩]
  simp only [Sem.run_bind, Result.andThen_ok, run_size hk, Sem.run_pure]

theorem q_index_a {t e : TypeId} {a : Array Value} {n : Nat} {k : IntKind} {j : Int} {cx cy : Value} (hu : P.underlying t = some (.array n e)) (hk : ∃ d, P.underlying e = some d)
    (rx : VRel ρ (.agg a) cx) (hy : cy = .int k j) (h0 : 0 ≤ j) (h1 : j < n) (h : aPart P e a.toList (j.toNat * szOf P e) fun v => tV (kdOf P e) v K) :
    QOk P w ρ (Instr.index t cx cy) K := by
  subst hy
  cases rx with
  | agg rs hone =>
    obtain ⟨v, cv, h2, h3, h4⟩ := q_part (P := P) (w := w) hk rs hone h
    obtain ⟨u, h5, h6⟩ := tV_elim h4 h3
    refine ⟨u, cv, ?_, h5, h6⟩
    obtain ⟨d, hd⟩ := hk
    simp only [Instr.index, asIntOf, Sem.run_bind, Sem.run_pure, Result.andThen_ok, run_underlying hu]
    rw [if_pos ⟨h0, h1⟩]
    simp only [Sem.run_bind, Result.andThen_ok, run_sizeOf hd, h2]

theorem q_index_s {t : TypeId} {s : ByteArray} {k : IntKind} {j : Int} {cx cy : Value} (hu : P.underlying t = some .string)
    (rx : VRel ρ (.string s) cx) (hy : cy = .int k j) (h0 : 0 ≤ j) (h1 : j < s.size) (h : K (.int .u8 (s.data.toList.getD j.toNat 0).toNat)) :
    QOk P w ρ (Instr.index t cx cy) K := by
  subst hy
  cases rx
  refine q_mk ?_ (.int _ _) h
  have hlt : j.toNat < s.size := by omega
  have hlt' : j.toNat < s.data.toList.length := by simpa using hlt
  have e : s[j.toNat]? = some (s.data.toList.getD j.toNat 0) := by
    rw [getElem?_pos s j.toNat hlt]
    congr 1
    simp only [List.getD, List.getElem?_eq_getElem hlt', Option.getD_some]
    rfl
  simp only [Instr.index, asIntOf, Sem.run_bind, Sem.run_pure, Result.andThen_ok, run_underlying hu]
  rw [if_pos h0, e]
  rfl

theorem sameNow_rel {d : TypeDesc} {k ck x cx : Value} {b : Bool} (rk : VRel ρ k ck) (rx : VRel ρ x cx) (h : Instr.sameNow d k x = some b) : Instr.sameNow d ck cx = some b := by
  cases rk with
  | int => cases rx <;> first | exact h | (exfalso; cases d <;> cases h)
  | str => cases rx <;> first | exact h | (exfalso; cases d <;> cases h)
  | bool => cases rx <;> first | exact h | (exfalso; cases d <;> cases h)
  | _ => exfalso; cases d <;> cases h

theorem now_rel {d : TypeDesc} {k ck : Value} (rk : VRel ρ k ck) : ∀ {es ces : List MapEntry} {i : Nat} {x : Option (Nat × Value)}, L2 (EntRel ρ) es ces → Instr.findNow d k es i = some x →
    ∃ cx, Instr.findNow d ck ces i = some cx ∧ ((x = none ∧ cx = none) ∨ ∃ j v cv, x = some (j, v) ∧ cx = some (j, cv) ∧ VRel ρ v cv ∧ i ≤ j ∧ j < i + es.length ∧ ∃ e ce, es[j - i]? = some e ∧ ces[j - i]? = some ce ∧ e.val = v ∧ ce.val = cv ∧ Instr.sameNow d k e.key = some true)
  | _, _, i, x, .nil, h => by
    simp [Instr.findNow] at h
    subst h
    exact ⟨none, rfl, .inl ⟨rfl, rfl⟩⟩
  | e :: es, ce :: ces, i, x, .cons r rs, h => by
    have key : ∀ b, Instr.sameNow d k e.key = some b → Instr.sameNow d ck ce.key = some b := fun b => sameNow_rel rk r.key
    simp only [Instr.findNow] at h ⊢
    cases hs : Instr.sameNow d k e.key with
    | none => rw [hs] at h; cases h
    | some b =>
      rw [hs] at h
      rw [key b hs]
      cases b with
      | true =>
        injection h with h
        subst h
        exact ⟨_, rfl, .inr ⟨i, _, _, rfl, rfl, r.val, Nat.le_refl _, by simp, e, ce, by simp, by simp, rfl, rfl, hs⟩⟩
      | false =>
        obtain ⟨cx, h1, h2⟩ := now_rel rk rs h
        refine ⟨cx, h1, h2.imp id ?_⟩
        rintro ⟨j, v, cv, rfl, rfl, h3, h4, h5, e', ce', h6, h7, h8⟩
        refine ⟨j, v, cv, rfl, rfl, h3, by omega, by simp; omega, e', ce', ?_, ?_, h8⟩
        · rw [show j - i = (j - (i + 1)) + 1 by omega]; simpa using h6
        · rw [show j - i = (j - (i + 1)) + 1 by omega]; simpa using h7

theorem run_checkKey {b : Bool} {n : Nat} {t : TypeId} {d : TypeDesc} {v : Value} (hu : P.underlying t = some d) (hd : scalarKey d = true) : (Instr.checkKey b (n + 1) t v).run P w = .ok () w := by
  simp only [Instr.checkKey, Sem.run_bind, run_underlying hu, Result.andThen_ok]
  cases d <;> first | (cases hd; done) | rfl

theorem run_findKey {t : TypeId} {d : TypeDesc} {k : Value} {es : List MapEntry} {x : Option (Nat × Value)} (hu : P.underlying t = some d) (h : Instr.findNow d k es 0 = some x) :
    (Instr.findKey t k es).run P w = .ok x w := by
  simp [Instr.findKey, run_underlying hu, h]

-- keys that are two numbers
theorem key2_elim {kt : TypeId} {k : IntKind} (h : key2 P kt = some k) : ∃ et, P.underlying kt = some (.array 2 et) ∧ P.underlying et = some (.int k) ∧ szOf P et = 1 := by
  unfold key2 at h
  split at h
  · rename_i n et hu
    split at h
    · rename_i k' he
      cases h1 : Nat.beq n 2 with
      | false => rw [h1] at h; cases h
      | true =>
        rw [h1] at h
        simp only at h
        cases h2 : Nat.beq (szOf P et) 1 with
        | false => rw [h2] at h; cases h
        | true =>
          rw [h2] at h
          simp only [Option.some.injEq] at h
          subst h
          have := Nat.eq_of_beq_eq_true h1
          subst this
          exact ⟨et, hu, he, Nat.eq_of_beq_eq_true h2⟩
    · cases h
  · cases h
theorem int2_elim {k : IntKind} {v : Value} {p : Int × Int} (h : int2 k v = some p) : v = .agg ⟨[.int k p.1, .int k p.2]⟩ := by
  unfold int2 at h
  split at h
  · rename_i j a j' b
    cases h1 : ikEq j k with
    | false => rw [h1] at h; cases h
    | true =>
      rw [h1] at h
      simp only at h
      cases h2 : ikEq j' k with
      | false => rw [h2] at h; cases h
      | true =>
        rw [h2] at h
        simp only [Option.some.injEq] at h
        subst h
        have e1 := ikEq_eq h1
        have e2 := ikEq_eq h2
        subst e1
        subst e2
        rfl
  · cases h
theorem int2_rel {k : IntKind} {v cv : Value} {p : Int × Int} (r : VRel ρ v cv) (h : int2 k v = some p) : cv = .agg ⟨[.int k p.1, .int k p.2]⟩ := by
  have e := int2_elim h
  subst e
  cases r with
  | agg h1 _ =>
    cases h1 with
    | cons a h1 =>
      cases h1 with
      | cons b h1 =>
        cases h1
        cases a
        cases b
        rfl
theorem int2_mk (k : IntKind) (p : Int × Int) : int2 k (.agg ⟨[.int k p.1, .int k p.2]⟩) = some p := by
  unfold int2
  simp only [ikEq_refl]
theorem find2_rel {k : IntKind} {p : Int × Int} : ∀ {es ces : List MapEntry} {i : Nat} {x : Option (Nat × Value)}, L2 (EntRel ρ) es ces → find2 k p es i = some x →
    ∃ cx, find2 k p ces i = some cx ∧ ((x = none ∧ cx = none) ∨ ∃ j v cv, x = some (j, v) ∧ cx = some (j, cv) ∧ VRel ρ v cv ∧ i ≤ j ∧ j < i + es.length ∧ ∃ e ce, es[j - i]? = some e ∧ ces[j - i]? = some ce ∧ e.val = v ∧ ce.val = cv ∧ int2 k e.key = some p)
  | _, _, i, x, .nil, h => by
    simp [find2] at h
    subst h
    exact ⟨none, rfl, .inl ⟨rfl, rfl⟩⟩
  | e :: es, ce :: ces, i, x, .cons r rs, h => by
    simp only [find2] at h ⊢
    cases hs : int2 k e.key with
    | none => rw [hs] at h; cases h
    | some q =>
      have hc : int2 k ce.key = some q := by rw [int2_rel r.key hs]; exact int2_mk k q
      rw [hs] at h
      rw [hc]
      simp only at h ⊢
      by_cases e1 : p = q
      · subst e1
        simp only [if_true] at h ⊢
        injection h with h
        subst h
        exact ⟨_, rfl, .inr ⟨i, _, _, rfl, rfl, r.val, Nat.le_refl _, by simp, e, ce, by simp, by simp, rfl, rfl, hs⟩⟩
      · rw [if_neg e1] at h ⊢
        obtain ⟨cx, h1, h2⟩ := find2_rel rs h
        refine ⟨cx, h1, h2.imp id ?_⟩
        rintro ⟨j, v, cv, rfl, rfl, h3, h4, h5, e', ce', h6, h7, h8⟩
        refine ⟨j, v, cv, rfl, rfl, h3, by omega, by simp; omega, e', ce', ?_, ?_, h8⟩
        · rw [show j - i = (j - (i + 1)) + 1 by omega]; simpa using h6
        · rw [show j - i = (j - (i + 1)) + 1 by omega]; simpa using h7
theorem run_checkKey2 {b : Bool} {n : Nat} {t et : TypeId} {k : IntKind} {a c : Int} (hu : P.underlying t = some (.array 2 et)) (he : P.underlying et = some (.int k)) (hs : szOf P et = 1) : (Instr.checkKey b (n + 2) t (.agg ⟨[.int k a, .int k c]⟩)).run P w = .ok () w := by
  have hagg : ∀ w, Sem.run P (isAgg et) w = .ok false w := fun w => by
    have := run_isAgg he w
    rwa [show isAggT P et = false by simp [isAggT, he]] at this
  have hsz := fun w => run_sizeOf he w
  rw [hs] at hsz
  simp [Instr.checkKey, run_underlying hu, run_underlying he, part, hagg, hsz, List.range'_succ]
theorem eqn_int {n : Nat} {et : TypeId} {k : IntKind} (he : P.underlying et = some (.int k)) (a b : Int) : (Op.equalIn (n + 1) et (.int k a) (.int k b)).run P w = .ok (a == b) w := by
  unfold Op.equalIn
  simp [run_underlying he]
theorem run_equal2 {n : Nat} {t et : TypeId} {k : IntKind} {a c a' c' : Int} (hu : P.underlying t = some (.array 2 et)) (he : P.underlying et = some (.int k)) (hs : szOf P et = 1) : (Op.equalIn (n + 2) t (.agg ⟨[.int k a, .int k c]⟩) (.agg ⟨[.int k a', .int k c']⟩)).run P w = .ok (a == a' && c == c') w := by
  have hagg : ∀ w, Sem.run P (isAgg et) w = .ok false w := fun w => by
    have := run_isAgg he w
    rwa [show isAggT P et = false by simp [isAggT, he]] at this
  have hsz := fun w => run_sizeOf he w
  rw [hs] at hsz
  have hi := fun w x y => eqn_int (P := P) (w := w) (n := n) he x y
  unfold Op.equalIn
  simp only [Sem.run_bind, run_underlying hu, Result.andThen_ok, hsz, Std.Legacy.Range.forIn_eq_forIn_range', Std.Legacy.Range.size]
  simp [part, hagg, hsz, List.range'_succ, hi]
  by_cases h1 : a = a' <;> by_cases h2 : c = c' <;> simp [h1, h2]
theorem sameBits2 {n : Nat} {k : IntKind} {a c : Int} : Instr.sameBits (n + 2) (.agg ⟨[.int k a, .int k c]⟩) (.agg ⟨[.int k a, .int k c]⟩) = true := by
  simp [Instr.sameBits]
theorem run_ask2 {kt et : TypeId} {k : IntKind} {p : Int × Int} (hu : P.underlying kt = some (.array 2 et)) (he : P.underlying et = some (.int k)) (hs : szOf P et = 1) : ∀ {ces : List MapEntry} {i : Nat} {x : Option (Nat × Value)}, find2 k p ces i = some x →
    (Instr.findAsking kt (.agg ⟨[.int k p.1, .int k p.2]⟩) ces i).run P w = .ok x w
  | [], i, x, h => by
    simp [find2] at h
    subst h
    simp [Instr.findAsking]
  | e :: es, i, x, h => by
    simp only [find2] at h
    cases hs2 : int2 k e.key with
    | none => rw [hs2] at h; cases h
    | some q =>
      rw [hs2] at h
      simp only at h
      have hq := run_equal2 (P := P) (w := w) (n := 9998) (a := p.1) (c := p.2) (a' := q.1) (c' := q.2) hu he hs
      have hq2 : (Op.equal kt (.agg ⟨[.int k p.1, .int k p.2]⟩) e.key).run P w = .ok (p.1 == q.1 && p.2 == q.2) w := by rw [int2_elim hs2]; exact hq
      simp only [Instr.findAsking, Sem.run_bind, hq2, Result.andThen_ok]
      by_cases e1 : p = q
      · rw [if_pos e1] at h
        subst e1
        injection h with h
        subst h
        simp
      · rw [if_neg e1] at h
        have : (p.1 == q.1 && p.2 == q.2) = false := by
          cases hb : (p.1 == q.1 && p.2 == q.2) with
          | false => rfl
          | true =>
            simp only [Bool.and_eq_true, beq_iff_eq] at hb
            exact absurd (Prod.ext hb.1 hb.2) e1
        rw [this]
        simpa using run_ask2 hu he hs h
theorem run_find2 {kt et : TypeId} {k : IntKind} {p : Int × Int} (hu : P.underlying kt = some (.array 2 et)) (he : P.underlying et = some (.int k)) (hs : szOf P et = 1) {ces : List MapEntry} {x : Option (Nat × Value)} (h : find2 k p ces 0 = some x) :
    (Instr.findKey kt (.agg ⟨[.int k p.1, .int k p.2]⟩) ces).run P w = .ok x w := by
  have ha := run_ask2 (P := P) (w := w) hu he hs h
  cases ces with
  | nil =>
    simp [find2] at h
    subst h
    simp [Instr.findKey, run_underlying hu, Instr.findNow]
  | cons e es =>
    have hn : Instr.findNow (.array 2 et) (.agg ⟨[.int k p.1, .int k p.2]⟩) (e :: es) 0 = none := rfl
    simp only [Instr.findKey, Sem.run_bind, run_underlying hu, Result.andThen_ok, hn]
    exact ha

theorem ents_elim (s : Sim ρ w.heap σ) {r : Option Nat} {cr : Value} {es : List MapEntry} (hr : VRel ρ (.map r) cr) (h : σ.ents r = some es) :
    (r = none ∧ cr = .map none ∧ es = []) ∨ ∃ i l ces c, r = some i ∧ cr = .map (some l.block) ∧ ρ i = some l ∧ σ i = some (.map es c) ∧ w.heap[l.block]? = some (.map ces c) ∧ L2 (EntRel ρ) es ces.toList := by
  cases hr with
  | nilmap => simp [AS.ents] at h; exact .inl ⟨rfl, rfl, h⟩
  | map hl =>
    rename_i i l
    right
    simp only [AS.ents] at h
    split at h
    · rename_i es' c hs
      injection h with h
      subst h
      obtain ⟨l', h1, ces, h2, h3⟩ := s.obj _ _ hs
      rw [hl] at h1
      injection h1 with h1
      subst h1
      exact ⟨i, l, ces, c, rfl, rfl, hl, hs, h2, h3⟩
    · cases h

theorem run_zero {t : TypeId} {z : Value} (h : zeroOf P t = some z) (w : World) : (zeroValue t).run P w = .ok z w := by
  unfold zeroOf at h
  cases hi : P.info? t with
  | none => rw [hi] at h; cases h
  | some i =>
    rw [hi] at h
    simp only [Option.bind_some] at h
    cases hz : i.zero with
    | none => rw [hz] at h; cases h
    | some z' =>
      rw [hz] at h
      simp only at h
      cases hk : zOk z' with
      | false => rw [hk] at h; cases h
      | true =>
        rw [hk] at h
        injection h with h
        subst h
        simp [zeroValue, typeInfo, hi, hz]

theorem const_rel {v : Value} (h : constOk v = true) : VRel ρ v v := by
  unfold constOk at h
  split at h <;> first | exact .bool _ | exact .int _ _ | exact .str _ | exact .nilptr | exact .nilmap | exact .nilfunc | exact .nilif | skip
  · rename_i n c
    cases h1 : Nat.beq n 0 with
    | false => rw [h1] at h; cases h
    | true =>
      rw [h1] at h
      have e1 := Nat.eq_of_beq_eq_true h1
      have e2 := Nat.eq_of_beq_eq_true h
      subst e1; subst e2
      exact .nilslice 0
  · cases h

theorem consts_rel : ∀ {l : List Value}, allOk l = true → VsRel ρ l l
  | [], _ => .nil
  | v :: vs, h => by
    unfold allOk at h
    cases hc : constOk v with
    | false => rw [hc] at h; cases h
    | true => rw [hc] at h; exact .cons (const_rel hc) (consts_rel h)

theorem const_one {v : Value} (h : constOk v = true) : v.oneCell' = true := by
  cases v <;> first | rfl | cases h
theorem consts_one : ∀ {l : List Value}, allOk l = true → ∀ v ∈ l, v.oneCell' = true
  | [], _, v, hv => by cases hv
  | u :: us, h, v, hv => by
    unfold allOk at h
    cases hc : constOk u with
    | false => rw [hc] at h; cases h
    | true =>
      rw [hc] at h
      cases hv with
      | head => exact const_one hc
      | tail _ hv => exact consts_one h v hv

theorem zero_rel {t : TypeId} {z : Value} (h : zeroOf P t = some z) : VRel ρ z z := by
  have : zOk z = true := by
    unfold zeroOf at h
    split at h
    · rename_i z' hz
      cases hk : zOk z' with
      | false => rw [hk] at h; cases h
      | true => rw [hk] at h; injection h with h; subst h; exact hk
    · cases h
  cases z with
  | agg a => exact .agg (consts_rel this) (consts_one this)
  | _ => exact const_rel this

theorem q_lookup (s : Sim ρ w.heap σ) {t : TypeId} {x k : Option Value} {cx ck : Value} {ok : Bool} (rx : ∀ v, x = some v → VRel ρ v cx) (rk : ∀ v, k = some v → VRel ρ v ck)
    (h : aLookup P t x k ok σ K) : QOk P w ρ (Instr.lookup t cx ck ok) K := by
  unfold aLookup at h
  split at h
  · rename_i kt et r kv hu
    split at h
    · rename_i z hz
      split at h
      · rename_i d hd
        cases hsc : scalarKey d with
        | true =>
          rw [hsc] at h
          simp only at h
          obtain ⟨es, h1, h⟩ := pSome_elim h
          obtain ⟨y, h2, h⟩ := pSome_elim h
          have hr := rx _ rfl
          have hk := rk _ rfl
          have fin : ∀ (ces : List MapEntry), L2 (EntRel ρ) es ces → ∃ cy, Instr.findNow d ck ces 0 = some cy ∧ VRel ρ ((y.map (·.2)).getD z) ((cy.map (·.2)).getD z) ∧ cy.isSome = y.isSome := by
            intro ces hl
            obtain ⟨cy, h3, h4⟩ := now_rel hk hl h2
            refine ⟨cy, h3, ?_⟩
            rcases h4 with ⟨rfl, rfl⟩ | ⟨j, v, cv, rfl, rfl, h5, _⟩
            · exact ⟨zero_rel hz, rfl⟩
            · exact ⟨h5, rfl⟩
          have go : ∀ (ces : Array MapEntry) (sm : Sem Value), L2 (EntRel ρ) es ces.toList →
              (∀ cy, (Instr.findKey kt ck ces.toList).run P w = .ok cy w → (Instr.checkKey ces.isEmpty 10000 kt ck).run P w = .ok () w →
                sm.run P w = .ok (if ok then .tuple #[(cy.map (·.2)).getD z, .bool cy.isSome] else (cy.map (·.2)).getD z) w) → QOk P w ρ sm K := by
            intro ces sm hl hsm
            obtain ⟨cy, h3, h4, h5⟩ := fin _ hl
            obtain ⟨u, h6, h7⟩ := tV_elim h h4
            have hr := hsm cy (run_findKey (P := P) (w := w) hd h3) (run_checkKey (n := 9999) hd hsc)
            have hsome : (y.map (·.2)).isSome = cy.isSome := by rw [h5]; cases y <;> rfl
            cases ok with
            | true =>
              simp only [hsome] at h7
              exact ⟨_, _, hr, .tuple (.cons h6 (.cons (.bool _) .nil)), h7⟩
            | false => exact ⟨u, _, hr, h6, h7⟩
          rcases ents_elim s hr h1 with ⟨rfl, rfl, rfl⟩ | ⟨i, l, ces, c, rfl, rfl, h3, h4, h5, h6⟩
          · refine go #[] _ .nil fun cy hf hc => ?_
            cases cy with
            | none => simp [Instr.lookup, run_underlying hu, hf, run_zero hz]; simp at hf hc; simp [hf, hc, run_zero hz]
            | some p => simp [Instr.lookup, run_underlying hu, hf, run_zero hz]; simp at hf hc; simp [hf, hc, run_zero hz]
          · refine go ces _ h6 fun cy hf hc => ?_
            have hg : (getObj l.block).run P w = .ok (.map ces c) w := by simp [getObj, Sem.run, h5]
            cases cy with
            | none => simp [Instr.lookup, run_underlying hu, hg] at hc ⊢; simp [hf, hc, run_zero hz]
            | some p => simp [Instr.lookup, run_underlying hu, hg] at hc ⊢; simp [hf, hc, run_zero hz]
        | false =>
          rw [hsc] at h
          simp only at h
          obtain ⟨kk, hkk, h⟩ := pSome_elim h
          obtain ⟨p, hp, h⟩ := pSome_elim h
          obtain ⟨at2, hu2, he2, hs2⟩ := key2_elim hkk
          obtain ⟨es, h1, h⟩ := pSome_elim h
          obtain ⟨y, h2, h⟩ := pSome_elim h
          have hr := rx _ rfl
          have hk := rk _ rfl
          have fin : ∀ (ces : List MapEntry), L2 (EntRel ρ) es ces → ∃ cy, find2 kk p ces 0 = some cy ∧ VRel ρ ((y.map (·.2)).getD z) ((cy.map (·.2)).getD z) ∧ cy.isSome = y.isSome := by
            intro ces hl
            obtain ⟨cy, h3, h4⟩ := find2_rel hl h2
            refine ⟨cy, h3, ?_⟩
            rcases h4 with ⟨rfl, rfl⟩ | ⟨j, v, cv, rfl, rfl, h5, _⟩
            · exact ⟨zero_rel hz, rfl⟩
            · exact ⟨h5, rfl⟩
          have go : ∀ (ces : Array MapEntry) (sm : Sem Value), L2 (EntRel ρ) es ces.toList →
              (∀ cy, (Instr.findKey kt ck ces.toList).run P w = .ok cy w → (Instr.checkKey ces.isEmpty 10000 kt ck).run P w = .ok () w →
                sm.run P w = .ok (if ok then .tuple #[(cy.map (·.2)).getD z, .bool cy.isSome] else (cy.map (·.2)).getD z) w) → QOk P w ρ sm K := by
            intro ces sm hl hsm
            obtain ⟨cy, h3, h4, h5⟩ := fin _ hl
            obtain ⟨u, h6, h7⟩ := tV_elim h h4
            have hr := hsm cy (by rw [int2_rel hk hp]; exact run_find2 hu2 he2 hs2 h3) (by rw [int2_rel hk hp]; exact run_checkKey2 (n := 9998) hu2 he2 hs2)
            have hsome : (y.map (·.2)).isSome = cy.isSome := by rw [h5]; cases y <;> rfl
            cases ok with
            | true =>
              simp only [hsome] at h7
              exact ⟨_, _, hr, .tuple (.cons h6 (.cons (.bool _) .nil)), h7⟩
            | false => exact ⟨u, _, hr, h6, h7⟩
          rcases ents_elim s hr h1 with ⟨rfl, rfl, rfl⟩ | ⟨i, l, ces, c, rfl, rfl, h3, h4, h5, h6⟩
          · refine go #[] _ .nil fun cy hf hc => ?_
            cases cy with
            | none => simp [Instr.lookup, run_underlying hu, hf, run_zero hz]; simp at hf hc; simp [hf, hc, run_zero hz]
            | some p => simp [Instr.lookup, run_underlying hu, hf, run_zero hz]; simp at hf hc; simp [hf, hc, run_zero hz]
          · refine go ces _ h6 fun cy hf hc => ?_
            have hg : (getObj l.block).run P w = .ok (.map ces c) w := by simp [getObj, Sem.run, h5]
            cases cy with
            | none => simp [Instr.lookup, run_underlying hu, hg] at hc ⊢; simp [hf, hc, run_zero hz]
            | some p => simp [Instr.lookup, run_underlying hu, hg] at hc ⊢; simp [hf, hc, run_zero hz]
      · exact h.elim
    · exact h.elim
  · exact h.elim

theorem q_assert {t u : TypeId} {x : Option Value} {cx : Value} {ok : Bool} (rx : ∀ v, x = some v → VRel ρ v cx) (h : aAssert P x t ok K) : QOk P w ρ (Instr.typeAssert cx u t ok) K := by
  unfold aAssert at h
  split at h
  · exact h.elim
  · rename_i d v hu hd
    split at h
    · rename_i z hz
      have r := rx _ rfl
      have rzz := zero_rel (ρ := ρ) hz
      have rz := run_zero hz w
      unfold tyAs at h
      cases r with
      | nilif =>
        obtain ⟨y, h1, h2⟩ := tV_elim h rzz
        refine ⟨_, _, ?_, .tuple (.cons h1 (.cons (.bool false) .nil)), h2⟩
        cases d <;> first | exact (hu _ rfl).elim | simp [Instr.typeAssert, run_underlying hd, rz]
      | iface t' r =>
        simp only at h
        cases hb : Nat.beq t' t with
        | true =>
          rw [hb] at h
          have e := Nat.eq_of_beq_eq_true hb
          subst e
          obtain ⟨y, h1, h2⟩ := tV_elim h r
          refine ⟨_, _, ?_, .tuple (.cons h1 (.cons (.bool true) .nil)), h2⟩
          cases d <;> first | exact (hu _ rfl).elim | simp [Instr.typeAssert, run_underlying hd, rz]
        | false =>
          rw [hb] at h
          have e : t' ≠ t := fun e => by subst e; rw [Nat.beq_refl] at hb; cases hb
          obtain ⟨y, h1, h2⟩ := tV_elim h rzz
          refine ⟨_, _, ?_, .tuple (.cons h1 (.cons (.bool false) .nil)), h2⟩
          cases d <;> first | exact (hu _ rfl).elim | simp [Instr.typeAssert, run_underlying hd, rz, e]
      | _ => exact h.elim
    · exact h.elim
  · exact h.elim

theorem q_fold (f : Int → Int → Int) (f2 : Value → Value → Sem Value) (hf : ∀ k x k' y, f2 (.int k x) (.int k' y) = pure (.int k (f x y))) :
    ∀ (r cr : List Value) (v cv : Value), VRel ρ v cv → VsRel ρ r cr → aFold f v r K → QOk P w ρ (cr.foldlM f2 cv) K := by
  intro r
  induction r with
  | nil =>
    intro cr v cv rv rs h
    cases rs
    exact q_mk (by simp) rv h
  | cons u us ih =>
    intro cr v cv rv rs h
    cases rs with
    | cons ru rus =>
      cases v <;> cases u <;> first | exact h.elim | skip
      cases rv; cases ru
      obtain ⟨z, cz, h1, h2, h3⟩ := ih _ _ _ (.int _ _) rus h
      refine ⟨z, cz, ?_, h2, h3⟩
      simp only [List.foldlM_cons, hf, Sem.run_bind, Sem.run_pure, Result.andThen_ok]
      exact h1

theorem q_len (s : Sim ρ w.heap σ) {ts : Array TypeId} {t ty : TypeId} {x : Value} {cx : Value} {xs : Array Value} (ht : ts[0]? = some t) (hx : xs[0]? = some cx) (rv : VRel ρ x cx)
    (h : aLen P t (some x) σ K) : QOk P w ρ (Builtin.len_ ts ty xs) K := by
  unfold aLen at h
  split at h
  · rename_i s hu e
    injection e with e
    subst e
    cases rv
    exact q_mk (by simp [Builtin.len_, ht, hx, run_underlying hu, goInt]) (.int _ _) h
  · rename_i n e _ hu _
    exact q_mk (by simp [Builtin.len_, ht, hx, run_underlying hu, goInt]) (.int _ _) h
  · rename_i a n c hu e
    injection e with e
    subst e
    cases rv <;> exact q_mk (by simp [Builtin.len_, ht, hx, run_underlying hu, goInt]) (.int _ _) h
  · rename_i r hu e
    injection e with e
    subst e
    obtain ⟨es, h1, h2⟩ := pSome_elim h
    rcases ents_elim s rv h1 with ⟨rfl, rfl, rfl⟩ | ⟨i, l, ces, c, rfl, rfl, h3, h4, h5, h6⟩
    · exact q_mk (by simp [Builtin.len_, ht, hx, run_underlying hu, goInt]) (.int _ _) h2
    · have hg : (getObj l.block).run P w = .ok (.map ces c) w := by simp [getObj, Sem.run, h5]
      have hl : es.length = ces.size := by rw [h6.length]; simp
      exact q_mk (by simp [Builtin.len_, ht, hx, run_underlying hu, goInt, hg, hl]) (.int _ _) h2
  · rename_i u hu _
    split at h
    · rename_i n e hu2
      exact q_mk (by simp [Builtin.len_, ht, hx, run_underlying hu, run_underlying hu2, goInt]) (.int _ _) h
    · exact h.elim
  · exact h.elim

end
end Go.AI
