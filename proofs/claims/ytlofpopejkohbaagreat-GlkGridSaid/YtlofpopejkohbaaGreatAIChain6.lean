/- Lemmas of the abstract condition ahead of code (a part of the library that the claim's proof stands on); they hold with no condition but those that each names. -/
import Derived.Test.YtlofpopejkohbaaGreatAIChain5
set_option linter.unusedSimpArgs false
set_option linter.unusedVariables false
namespace Go.AI
section
variable {P : Program} {w : World} {ρ : RM} {σ : AS}

theorem c_makeMap (s : Sim ρ w.heap σ) {t k e : TypeId} {r : Option Value} {K : Option Value → AS → Prop} (hu : P.underlying t = some (.map k e)) (hr : ∀ v, r = some v → ∃ k n, v = .int k n)
    (h : newAt σ (.map [] 0) fun i σ => K (some (.map (some i))) σ) :
    ∃ cv w1, (Instr.makeMap t r).run P w = .ok cv w1 ∧ COk P ρ w σ (.value cv) w1 K := by
  obtain ⟨i, ρ', k1, k2, k3, k4⟩ := sim_newObj (o := .map [] 0) (ob := .map #[] 0) (w' := { w with heap := w.heap.push (.map #[] 0) }) (n := 0) s (fun j _ => ⟨#[], by simp, .nil⟩) rfl rfl rfl h
  refine ⟨.map (some w.heap.size), { w with heap := w.heap.push (.map #[] 0) }, ?_, _, ρ', _, k1, ?_, k3, k4⟩
  · cases r with
    | none => rfl
    | some v =>
      obtain ⟨k', n, rfl⟩ := hr v rfl
      simp [Instr.makeMap, run_underlying hu, asInt, asIntOf]
  · rintro u ⟨⟩
    exact .map (l := ⟨w.heap.size, 0, 0, 0⟩) k2

theorem c_range_str (s : Sim ρ w.heap σ) {t : TypeId} {b : ByteArray} {cx : Value} {K : Option Value → AS → Prop} (hu : P.underlying t = some .string) (r : VRel ρ (.string b) cx)
    (h : newAt σ (.siter b 0) fun j σ => K (some (.pointer (some ⟨j, 0, none⟩))) σ) :
    ∃ cv w1, (Instr.range t cx).run P w = .ok cv w1 ∧ COk P ρ w σ (.value cv) w1 K := by
  cases r
  obtain ⟨i, ρ', k1, k2, k3, k4⟩ := sim_newObj (o := .siter b 0) (ob := .stringIter b 0) (w' := { w with heap := w.heap.push (.stringIter b 0) }) (n := 0) s (fun j _ => ⟨rfl, by simp⟩) rfl rfl rfl h
  refine ⟨.pointer (some ⟨w.heap.size, 0, none⟩), { w with heap := w.heap.push (.stringIter b 0) }, ?_, _, ρ', _, k1, ?_, k3, k4⟩
  · simp [Instr.range, run_underlying hu]
  · rintro u ⟨⟩
    exact .ptr (l := ⟨w.heap.size, 0, 0, 0⟩) k2

theorem c_range_nil (s : Sim ρ w.heap σ) {t kt et : TypeId} {cx : Value} {K : Option Value → AS → Prop} (hu : P.underlying t = some (.map kt et)) (r : VRel ρ (.map none) cx)
    (h : newAt σ (.iter none 0 [] 0) fun j σ => K (some (.pointer (some ⟨j, 0, none⟩))) σ) :
    ∃ cv w1, (Instr.range t cx).run P w = .ok cv w1 ∧ COk P ρ w σ (.value cv) w1 K := by
  cases r
  obtain ⟨i, ρ', k1, k2, k3, k4⟩ := sim_newObj (o := .iter none 0 [] 0) (ob := .mapIter none 0 #[] 0) (w' := { w with heap := w.heap.push (.mapIter none 0 #[] 0) }) (n := 0) s (fun j _ => ⟨rfl, none, by simp, trivial⟩) rfl rfl rfl h
  refine ⟨.pointer (some ⟨w.heap.size, 0, none⟩), { w with heap := w.heap.push (.mapIter none 0 #[] 0) }, ?_, _, ρ', _, k1, ?_, k3, k4⟩
  · simp [Instr.range, run_underlying hu]
  · rintro u ⟨⟩
    exact .ptr (l := ⟨w.heap.size, 0, 0, 0⟩) k2

theorem c_range_map (s : Sim ρ w.heap σ) {t kt et : TypeId} {m : Nat} {cx : Value} {K : Option Value → AS → Prop} (hu : P.underlying t = some (.map kt et)) (r : VRel ρ (.map (some m)) cx)
    (h : mapAt σ m fun _ c => newAt σ (.iter (some m) c [] c) fun j σ => K (some (.pointer (some ⟨j, 0, none⟩))) σ) :
    ∃ cv w1, (Instr.range t cx).run P w = .ok cv w1 ∧ COk P ρ w σ (.value cv) w1 K := by
  obtain ⟨l, es, ces, c, hl, rfl, hi, hw, hrel, h⟩ := mapAt_elim s r h
  obtain ⟨i, ρ', k1, k2, k3, k4⟩ := sim_newObj (o := .iter (some m) c [] c) (ob := .mapIter (some l.block) c #[] c) (w' := { w with heap := w.heap.push (.mapIter (some l.block) c #[] c) }) (n := 0) s (fun j hj => ⟨rfl, some l.block, by simp, l, RM.le_set _ hj _ _ hl, rfl⟩) rfl rfl rfl h
  refine ⟨.pointer (some ⟨w.heap.size, 0, none⟩), { w with heap := w.heap.push (.mapIter (some l.block) c #[] c) }, ?_, _, ρ', _, k1, ?_, k3, k4⟩
  · simp [Instr.range, run_underlying hu, run_getMap hw]
  · rintro u ⟨⟩
    exact .ptr (l := ⟨w.heap.size, 0, 0, 0⟩) k2

theorem c_next_str (s : Sim ρ w.heap σ) {a : Addr} {cx : Value} {ty : TypeId} {K : Option Value → AS → Prop} (h0 : Nat.beq a.off 0 = true) (r : VRel ρ (.pointer (some a)) cx)
    (h : match σ a.block with
      | some (.siter s pos) => if pos < s.size then K (some (.tuple ⟨[.bool true, .int .i64 pos, .int .i32 (Utf8.decode s pos).1]⟩)) (σ.set a.block (.siter s (pos + (Utf8.decode s pos).2))) else K (some (.tuple ⟨[.bool false]⟩)) σ
      | _ => False) :
    ∃ cv w1, (Instr.next cx true ty).run P w = .ok cv w1 ∧ COk P ρ w σ (.value cv) w1 K := by
  obtain ⟨hsp, l, hl, rfl⟩ := ptr_elim r
  have h0 := Nat.eq_of_beq_eq_true h0
  split at h
  · rename_i b pos hi
    obtain ⟨l', e1, g0, g1⟩ := s.obj _ _ hi
    rw [hl] at e1
    injection e1 with e1
    subst e1
    have hoff : a.off + l.shift = 0 := by omega
    split at h
    · rename_i hlt
      obtain ⟨k1, k2⟩ := sim_setObj (ob := .stringIter b (pos + (Utf8.decode b pos).2)) (o' := .siter b (pos + (Utf8.decode b pos).2)) s hi hl rfl (lt_of_some g1) ⟨g0, by simp [lt_of_some g1]⟩
      refine ⟨.tuple ⟨[.bool true, .int .i64 pos, .int .i32 (Utf8.decode b pos).1]⟩, _, ?_, _, ρ, _, h, ?_, k1, k2⟩
      · simp only [Instr.next, hoff, Sem.run_bind, run_getStr g1, Result.andThen_ok]
        rw [if_pos hlt]
        simp only [Sem.run_bind, run_setStr g1, Result.andThen_ok]
        rfl
      · rintro u ⟨⟩
        exact .tuple (.cons (.bool _) (.cons (.int _ _) (.cons (.int _ _) .nil)))
    · rename_i hlt
      refine ⟨.tuple ⟨[.bool false]⟩, w, ?_, _, ρ, _, h, ?_, s, .refl _ _ _⟩
      · simp only [Instr.next, hoff, Sem.run_bind, run_getStr g1, Result.andThen_ok]
        rw [if_neg hlt]
        rfl
      · rintro u ⟨⟩
        exact .tuple (.cons (.bool _) .nil)
  · exact h.elim

theorem L2.mem {α β : Type} {R : α → β → Prop} : ∀ {a : List α} {b : List β}, L2 R a b → ∀ {y : β}, y ∈ b → ∃ x ∈ a, R x y
  | _, _, .nil, y, h => by cases h
  | _, _, .cons r rs, y, h => by
    cases h with
    | head => exact ⟨_, by simp, r⟩
    | tail _ h =>
      obtain ⟨x, h1, h2⟩ := rs.mem h
      exact ⟨x, by simp [h1], h2⟩
theorem L2.mem' {α β : Type} {R : α → β → Prop} : ∀ {a : List α} {b : List β}, L2 R a b → ∀ {x : α}, x ∈ a → ∃ y ∈ b, R x y
  | _, _, .nil, y, h => by cases h
  | _, _, .cons r rs, y, h => by
    cases h with
    | head => exact ⟨_, by simp, r⟩
    | tail _ h =>
      obtain ⟨x, h1, h2⟩ := rs.mem' h
      exact ⟨x, by simp [h1], h2⟩

/-- What comes next in a map that is gone through. -/
theorem run_next {b m : Nat} {since last clock : Nat} {seen : Array Nat} {ces : Array MapEntry} {ty : TypeId} (hb : w.heap[b]? = some (.mapIter (some m) since seen last)) (hm : w.heap[m]? = some (.map ces clock))
    (hbad : (!seen.isEmpty && !ces.isEmpty && ces.all (·.born ≥ last)) = false) :
    (∃ w1 : World, w1.heap = w.heap ∧ w1.os = w.os ∧ w1.output = w.output ∧ (Instr.next (.pointer (some ⟨b, 0, none⟩)) false ty).run P w = .ok (.tuple #[.bool false]) w1 ∧ ∀ e ∈ ces.toList, e.born < since → e.born ∈ seen.toList) ∨
    (∃ e ∈ ces.toList, e.born ∉ seen.toList ∧ ∃ w0 : World, w0.heap = w.heap ∧ w0.os = w.os ∧ w0.output = w.output ∧ (Instr.next (.pointer (some ⟨b, 0, none⟩)) false ty).run P w =
      .ok (.tuple #[.bool true, e.key, e.val]) { w0 with heap := w.heap.setIfInBounds b (.mapIter (some m) since (seen.push e.born) clock) }) := by
  let left := ces.filter fun e => !seen.contains e.born
  let old := left.filter (·.born < since)
  let new := left.filter (·.born ≥ since)
  let cands : Array (Option MapEntry) := (if old.isEmpty then #[none] else #[]) ++ (old ++ new).map some
  have hpos : 0 < cands.size := by
    show 0 < ((if old.isEmpty then #[none] else #[]) ++ (old ++ new).map some).size
    by_cases h : old.isEmpty = true
    · simp [h]; omega
    · rw [if_neg h]
      have : old.size ≠ 0 := by intro h'; exact h (by simpa [Array.isEmpty_iff, Array.size_eq_zero_iff] using h')
      simp
      omega
  obtain ⟨c, w0, hc, h1, h2, h3, hlt⟩ : ∃ c w0, (choose (.mapNext cands.size)).run P w = .ok c w0 ∧ w0.heap = w.heap ∧ w0.os = w.os ∧ w0.output = w.output ∧ c < cands.size := by
    simp only [choose, Sem.run]
    by_cases hf : (Question.mapNext cands.size).forced = true
    · rw [if_pos hf]
      exact ⟨0, w, rfl, rfl, rfl, rfl, hpos⟩
    · rw [if_neg hf]
      exact ⟨_, _, rfl, rfl, rfl, rfl, Nat.mod_lt _ hpos⟩
  have hrun : (Instr.next (.pointer (some ⟨b, 0, none⟩)) false ty).run P w = (match cands[c]? with
      | some (some e) => do
        setObj b (.mapIter (some m) since (seen.push e.born) clock)
        pure (.tuple #[.bool true, e.key, e.val])
      | some none => pure (.tuple #[.bool false])
      | none => stuck "Next: no such candidate" : Sem Value).run P w0 := by
    simp only [Instr.next, Sem.run_bind, run_getIter hb, Result.andThen_ok, run_getMap hm, hbad, Bool.false_eq_true, if_false]
    have hc' : (choose (.mapNext ((if ((ces.filter fun e => !seen.contains e.born).filter (·.born < since)).isEmpty then #[none] else #[]) ++
        ((ces.filter fun e => !seen.contains e.born).filter (·.born < since) ++ (ces.filter fun e => !seen.contains e.born).filter (·.born ≥ since)).map some : Array (Option MapEntry)).size)).run P w = .ok c w0 := hc
    simp only [Sem.run_bind, hc', Result.andThen_ok]
    rfl
  have hget : cands[c]? = some cands[c] := by simp [hlt]
  cases hcc : cands[c] with
  | none =>
    left
    refine ⟨w0, h1, h2, h3, ?_, ?_⟩
    · rw [hrun, hget, hcc]; rfl
    · have hmem : (none : Option MapEntry) ∈ cands := by rw [← hcc]; exact Array.getElem_mem _
      have hold : old.isEmpty = true := by
        by_cases h : old.isEmpty = true
        · exact h
        · have : (none : Option MapEntry) ∈ ((if old.isEmpty then #[none] else #[]) ++ (old ++ new).map some : Array (Option MapEntry)) := hmem
          rw [if_neg h] at this
          simp at this
      intro e he hes
      rcases Classical.em (e.born ∈ seen.toList) with h | h
      · exact h
      · exfalso
        have : e ∈ old := by
          refine Array.mem_filter.mpr ⟨Array.mem_filter.mpr ⟨by simpa using he, ?_⟩, by simpa using hes⟩
          simpa using h
        rw [Array.isEmpty_iff] at hold
        rw [hold] at this
        simp at this
  | some e =>
    right
    have hmem : some e ∈ cands := by rw [← hcc]; exact Array.getElem_mem _
    have hleft : e ∈ left := by
      have : some e ∈ ((if old.isEmpty then #[none] else #[]) ++ (old ++ new).map some : Array (Option MapEntry)) := hmem
      rcases Array.mem_append.mp this with h | h
      · split at h <;> simp at h
      · obtain ⟨x, hx, hxe⟩ := Array.mem_map.mp h
        injection hxe with hxe
        subst hxe
        rcases Array.mem_append.mp hx with h | h
        · exact (Array.mem_filter.mp h).1
        · exact (Array.mem_filter.mp h).1
    obtain ⟨he, hns⟩ := Array.mem_filter.mp hleft
    refine ⟨e, by simpa using he, by simpa using hns, w0, h1, h2, h3, ?_⟩
    rw [hrun, hget, hcc]
    have hb0 : w0.heap[b]? = some (.mapIter (some m) since seen last) := by rw [h1]; exact hb
    simp only [Sem.run_bind, run_setIter hb0, Result.andThen_ok, Sem.run_pure, h1]

theorem iterOk_elim {es : List MapEntry} {seen : List Nat} {last : Nat} (h : iterOk es seen last = true) : seen = [] ∨ es = [] ∨ ∃ e ∈ es, e.born < last := by
  unfold iterOk at h
  rw [Bool.or_eq_true, Bool.or_eq_true, List.isEmpty_iff, List.isEmpty_iff, List.any_eq_true] at h
  rcases h with (h | h) | ⟨e, he, h⟩
  · exact .inl h
  · exact .inr (.inl h)
  · exact .inr (.inr ⟨e, he, Nat.blt_eq.mp h⟩)
theorem unseen_some {es : List MapEntry} {seen : List Nat} {F : MapEntry → Prop} (h : ∀ e ∈ es.filter (unseen seen), F e) : ∀ e ∈ es, e.born ∉ seen → F e := by
  intro e he hn
  refine h e (List.mem_filter.2 ⟨he, ?_⟩)
  simp [unseen, hn]
theorem unseen_none {es : List MapEntry} {seen : List Nat} {since : Nat} {Z : Prop} (h : (es.any fun e => unseen seen e && Nat.blt e.born since) = false → Z) : (∀ e ∈ es, e.born < since → e.born ∈ seen) → Z := by
  intro hall
  refine h ?_
  rw [List.any_eq_false]
  intro e he
  rw [Bool.and_eq_true]
  rintro ⟨h1, h2⟩
  have := hall e he (Nat.blt_eq.mp h2)
  simp [unseen, this] at h1

theorem c_next_map (s : Sim ρ w.heap σ) {a : Addr} {cx : Value} {ty : TypeId} {K : Option Value → AS → Prop} (h0 : Nat.beq a.off 0 = true) (r : VRel ρ (.pointer (some a)) cx)
    (h : mnext σ a.block fun r σ => (match r with
      | some (k, v) => K (some (.tuple ⟨[.bool true, k, v]⟩)) σ
      | none => K (some (.tuple ⟨[.bool false]⟩)) σ)) :
    ∃ cv w1, (Instr.next cx false ty).run P w = .ok cv w1 ∧ COk P ρ w σ (.value cv) w1 K := by
  obtain ⟨hsp, l, hl, rfl⟩ := ptr_elim r
  have h0 := Nat.eq_of_beq_eq_true h0
  unfold mnext at h
  split at h
  · rename_i since seen last hi
    obtain ⟨l', e1, g0, cm, g1, g2⟩ := s.obj _ _ hi
    rw [hl] at e1
    injection e1 with e1
    subst e1
    have hoff : a.off + l.shift = 0 := by omega
    cases cm with
    | some _ => exact g2.elim
    | none =>
      refine ⟨.tuple ⟨[.bool false]⟩, w, ?_, _, ρ, _, h, ?_, s, .refl _ _ _⟩
      · simp only [Instr.next, hoff, Sem.run_bind, run_getIter g1, Result.andThen_ok]
        rfl
      · rintro u ⟨⟩
        exact .tuple (.cons (.bool _) .nil)
  · rename_i m since seen last hi
    obtain ⟨l', e1, g0, cm, g1, g2⟩ := s.obj _ _ hi
    rw [hl] at e1
    injection e1 with e1
    subst e1
    have hoff : a.off + l.shift = 0 := by omega
    cases cm with
    | none => exact g2.elim
    | some b =>
      obtain ⟨lm, hlm, rfl⟩ := g2
      obtain ⟨lm', es, ces, c, hlm', hcm, hm, hw, hrel, h⟩ := mapAt_elim s (.map hlm) h
      obtain ⟨hbad, h⟩ := chk_elim h
      obtain ⟨hsome, hnone⟩ := mcase_iff.1 h
      have hbad := iterOk_elim hbad
      have hsome := unseen_some hsome
      have hnone := unseen_none hnone
      rw [hlm] at hlm'
      injection hlm' with hlm'
      subst hlm'
      have hbad' : (!seen.toArray.isEmpty && !ces.isEmpty && ces.all (·.born ≥ last)) = false := by
        rcases hbad with h | h | ⟨e, he, hlt⟩
        · subst h; simp
        · subst h
          have : ces.toList.length = 0 := by rw [← hrel.length]; rfl
          have : ces.isEmpty = true := by simp [Array.isEmpty_iff, Array.size_eq_zero_iff] at *; exact Array.size_eq_zero_iff.mp (by simpa using this)
          simp [this]
        · obtain ⟨ce, hce, hr⟩ := hrel.mem' he
          rw [Bool.and_eq_false_iff]
          right
          rw [Bool.eq_false_iff]
          intro hall
          rw [Array.all_eq_true'] at hall
          have := hall ce (by simpa using hce)
          rw [← hr.born] at this
          simp at this
          omega
      rw [hoff]
      rcases run_next (P := P) (ty := ty) g1 hw hbad' with ⟨w1, q1, q2, q3, q4, q5⟩ | ⟨ce, hce, hns, w0, q1, q2, q3, q4⟩
      · have hdone : ∀ e ∈ es, e.born < since → e.born ∈ seen := by
          intro e he hlt
          obtain ⟨ce, hce, hr⟩ := hrel.mem' he
          have := q5 ce hce (by rw [← hr.born]; exact hlt)
          rw [← hr.born] at this
          simpa using this
        refine ⟨_, w1, q4, _, ρ, σ, hnone hdone, ?_, by rw [q1]; exact s, .same q1 q2 q3 (fun _ _ h _ => h)⟩
        rintro u ⟨⟩
        exact .tuple (.cons (.bool _) .nil)
      · obtain ⟨e, he, hr⟩ := hrel.mem hce
        obtain ⟨k1, k2⟩ := sim_setObj (ob := .mapIter (some lm.block) since (seen.toArray.push ce.born) c) (o' := .iter (some m) since (seen ++ [e.born]) c) s hi hl rfl (lt_of_some g1)
          ⟨g0, some lm.block, by simp [lt_of_some g1, hr.born], lm, hlm, rfl⟩
        refine ⟨_, _, q4, _, ρ, _, hsome e he (by rw [hr.born]; simpa using hns), ?_, k1, ?_⟩
        · rintro u ⟨⟩
          exact .tuple (.cons (.bool _) (.cons hr.key (.cons hr.val .nil)))
        · exact ⟨k2.ext, k2.size, k2.frame, k2.own, q2, q3⟩
  · exact h.elim
end
end Go.AI
