/- Lemmas of the abstract condition ahead of code (a part of the library that the claim's proof stands on); they hold with no condition but those that each names. -/
import Derived.Test.YtlofpopejkohbaaGreatAIChain3
set_option linter.unusedSimpArgs false
set_option linter.unusedVariables false
namespace Go.AI
section
variable {P : Program} {w : World} {ρ : RM} {σ : AS}

theorem setCells_get : ∀ (vs cs : List Value) (o j : Nat), o + vs.length ≤ cs.length → (setCells cs o vs)[j]? = if o ≤ j ∧ j < o + vs.length then vs[j - o]? else cs[j]?
  | [], cs, o, j, _ => by simp [setCells]; omega
  | v :: vs, cs, o, j, h => by
    simp only [List.length_cons] at h
    simp only [setCells]
    rw [setCells_get vs (cs.set o v) (o + 1) j (by simp; omega)]
    by_cases h1 : o + 1 ≤ j ∧ j < o + 1 + vs.length
    · rw [if_pos h1, if_pos (by simp; omega), show j - o = (j - (o + 1)) + 1 by omega]
      simp
    · rw [if_neg h1]
      by_cases h2 : j = o
      · subst h2
        rw [if_pos (by simp)]
        simp [List.getElem?_set]
        omega
      · rw [if_neg (by simp; omega), List.getElem?_set, if_neg (by omega)]

theorem setCells_toList_one (c : Array Value) (o : Nat) (v : Value) : (c.setIfInBounds o v).toList = c.toList.set o v := Array.toList_setIfInBounds

/-- Cells that are stored, one behind the other, into a block. -/
theorem run_storeRaw {b o : Nat} {e : TypeId} {fz : Nat × Nat} : ∀ (vs : List Value), (∀ v ∈ vs, v.oneCell' = true) → ∀ (i : Nat) (w : World) (c : Array Value), w.heap[b]? = some (.cells c e fz) →
    o + i + vs.length ≤ c.size → (∀ j, o + i ≤ j → j < o + i + vs.length → (decide (fz.1 ≤ j) && decide (j < fz.2)) = false) →
    ∃ w', (storeCells ⟨b, o, none⟩ vs i).run P w = .ok () w' ∧ w'.heap[b]? = some (.cells ⟨setCells c.toList (o + i) vs⟩ e fz) ∧ w'.heap.size = w.heap.size ∧ (∀ b', b' ≠ b → w'.heap[b']? = w.heap[b']?) ∧ w'.os = w.os ∧ w'.output = w.output
  | [], _, i, w, c, hb, _, _ => ⟨w, rfl, by simpa [setCells] using hb, rfl, fun _ _ => rfl, rfl, rfl⟩
  | v :: vs, hone, i, w, c, hb, hle, hfz => by
    simp only [List.length_cons] at hle hfz
    have hlt : o + i < c.size := by omega
    have h1 : w.cell? ⟨b, o + i, none⟩ = some c[o + i] := by simp [World.cell?, hb, hlt]
    have h2 : w.frozen? ⟨b, o + i, none⟩ = false := by
      simp only [World.frozen?, hb]
      exact hfz (o + i) (by omega) (by omega)
    have h3 := setCell_heap w b (o + i) v c e fz hb
    obtain ⟨w', g1, g2, g3, g4, g5, g6⟩ := run_storeRaw (o := o) vs (fun v hv => hone v (by simp [hv])) (i + 1) (w.setCell ⟨b, o + i, none⟩ v) (c.setIfInBounds (o + i) v) (by rw [h3, if_pos rfl]) (by simp; omega)
      (fun j a b => hfz j (by omega) (by omega))
    refine ⟨w', ?_, ?_, by rw [g3, setCell_size], fun b' hb' => by rw [g4 b' hb', h3, if_neg hb'], g5, g6⟩
    · simp only [storeCells, Sem.run_bind, addr_add_none]
      rw [run_store P w _ v .plain (hone v (by simp)), h1]
      simp only [h2, Bool.false_eq_true, if_false, Result.andThen_ok]
      exact g1
    · rw [g2]
      simp only [setCells, setCells_toList_one, Nat.add_assoc]

theorem growBy_le (m : Nat) : ∀ (r c : Nat), 256 ≤ c → c < m → Builtin.growBy m r c ≤ 2 * m
  | 0, c, _, h => by unfold Builtin.growBy; omega
  | r + 1, c, h0, h => by
    unfold Builtin.growBy
    rw [if_neg (by omega)]
    by_cases h1 : c + (c + 768) / 4 < m
    · exact growBy_le m r _ (by omega) h1
    · cases r with
      | zero => unfold Builtin.growBy; omega
      | succ r => unfold Builtin.growBy; rw [if_pos (by omega)]; omega

theorem nextcap_le (n c : Nat) (h : c < n) : Builtin.nextslicecap n c ≤ 2 * n := by
  unfold Builtin.nextslicecap
  split
  · omega
  · split
    · omega
    · exact growBy_le n 4 c (by omega) h

theorem zeroCells_one {z : Array Value} (h : ∀ v ∈ z.toList, v.oneCell' = true) (hz : 0 < z.size) (n : Nat) : ∀ v ∈ (Builtin.zeroCells z n).toList, v.oneCell' = true := by
  intro v hv
  simp only [Builtin.zeroCells, Array.toList_map, List.mem_map] at hv
  obtain ⟨i, _, rfl⟩ := hv
  have : i % z.size < z.size := Nat.mod_lt _ hz
  rw [getElem!_pos z _ this]
  exact h _ (by simp)

theorem fzOk_in {k : RK} {fz : Nat × Nat} {n : Nat} (h : FzOk k fz n) (hk : k.own = true) {j : Nat} (hj : j < n) : (decide (fz.1 ≤ j) && decide (j < fz.2)) = false := not_frozen h hk hj

theorem fzOk_rw {k : RK} {fz : Nat × Nat} {n : Nat} (h : FzOk k fz n) (hk : k.own = true) : FzOk .rw fz n := by
  cases k with
  | ro => cases hk
  | rw => exact h
  | plain => exact .inl h

/-- append, all its ways. -/
theorem c_append (s : Sim ρ w.heap σ) {t tx e : TypeId} {d : TypeDesc} {a : Option Addr} {n c : Nat} {x cs cx : Value} {ty : TypeId} {K : Value → AS → Prop}
    (hu : P.underlying t = some (.slice e)) (hx : P.underlying tx = some d) (hd : ∀ k, d ≠ .int k) {z : Value} (hz : zeroOf P e = some z) (hzl : Nat.beq (valCells z).length (szOf P e) = true) (hb : Nat.blt 0 (bytesOf P e) = true) (hs0 : Nat.blt 0 (szOf P e) = true)
    (hc : a = none ∨ c = szOf P e) (rs : VRel ρ (.slice a n c) cs) (rx : VRel ρ x cx)
    (h : srcCells σ (szOf P e) (some x) fun m new => appendTo σ (szOf P e) (bytesOf P e) ⟨a, n⟩ new m fun s σ => K (.slice s.a s.n (szOf P e)) σ) :
    ∃ cv w1, (Builtin.append_ #[t, tx] ty #[cs, cx]).run P w = .ok cv w1 ∧ COk P ρ w σ (.value cv) w1 (fun v σ => ∃ u, v = some u ∧ K u σ) := by
  obtain ⟨zl, hz1, hz2, hz3⟩ := valCells_rel (zero_rel (ρ := ρ) hz) (zero_ok hz)
  have hb : 0 < bytesOf P e := Nat.blt_eq.mp hb
  have hs0 : 0 < szOf P e := Nat.blt_eq.mp hs0
  obtain ⟨ti, hi⟩ : ∃ i, P.info? e = some i := by
    unfold zeroOf at hz
    cases hi : P.info? e with
    | none => rw [hi] at hz; cases hz
    | some i => exact ⟨i, rfl⟩
  have hby : ti.bytes = bytesOf P e := by simp [bytesOf, hi]
  have hsz := fun w => run_size (P := P) (t := e) (by rw [hi]; rfl) w
  have hti := fun (w : World) => show (typeInfo e).run P w = .ok ti w by simp [typeInfo, hi]
  have hsrc := src_elim (P := P) s rx h
  clear h
  obtain ⟨m, new, cnew, h, n1, n2, n3, n4, n5⟩ := hsrc
  have hcl : cnew.length = m * szOf P e := by rw [← n1.length, n4]
  have htake : cnew.take (m * szOf P e) = cnew := List.take_of_length_le (by omega)
  have hnew := n5 m (Nat.le_refl _)
  rw [htake] at hnew
  have hints : ∀ w : World, (underlying tx).run P w = .ok d w := fun w => run_underlying hx w
  have hdm' : (d matches .int _) = false := by cases d <;> first | rfl | exact absurd rfl (hd _)
  have hbound : (n + m) * bytesOf P e ≤ 140737488355328 := (req_elim h).1
  replace h := (req_elim h).2
  -- what the machine does, in place
  have inplace : ∀ (base : Option Addr) (sCap : Nat), cs = .slice base n sCap → n + m ≤ sCap → ∀ w', (match base with | some a => (storeCells (a.add (n * szOf P e)) cnew).run P w = .ok () w' | none => w' = w) →
      (Builtin.append_ #[t, tx] ty #[cs, cx]).run P w = .ok (.slice base (n + m) sCap) w' := by
    intro base sCap he hle w' hst
    subst he
    simp only [Builtin.append_, List.getElem?_toArray, List.getElem?_cons_zero, List.getElem?_cons_succ, Sem.run_bind, run_underlying hu, Result.andThen_ok, hsz, hints, Sem.run_pure, hdm', n3, Bool.false_eq_true, if_false]
    rw [if_pos hle]
    simp only [Bool.not_false, if_true, Sem.run_bind, hnew w rfl, Result.andThen_ok]
    cases base with
    | none => subst hst; rfl
    | some a => simp only [Sem.run_bind, hst, Result.andThen_ok]; rfl
  -- what the machine does, in a new row
  have grows : ∀ (base : Option Addr) (sCap : Nat) (old : List Value), cs = .slice base n sCap → sCap < n + m → (∀ w', w'.heap = w.heap → (Builtin.firstCells (szOf P e) n cs).run P w' = .ok ⟨old⟩ w') →
      ∃ (newCap : Nat) (w' : World), n + m ≤ newCap ∧ w'.heap = w.heap.push (.cells (⟨old⟩ ++ ⟨cnew⟩ ++ Builtin.zeroCells z.cells (newCap - (n + m))) e) ∧ w'.os = w.os ∧ w'.output = w.output ∧
        (Builtin.append_ #[t, tx] ty #[cs, cx]).run P w = .ok (.slice (some ⟨w.heap.size, 0, none⟩) (n + m) newCap) w' := by
    intro base sCap old he hlt hold
    subst he
    have hq : (Question.appendCap (n + m) sCap e).forced = false := rfl
    refine ⟨(Question.appendCap (n + m) sCap e).cut (w.tape w.drawn (.appendCap (n + m) sCap e)), { w with drawn := w.drawn + 1, heap := w.heap.push (.cells (⟨old⟩ ++ ⟨cnew⟩ ++ Builtin.zeroCells z.cells ((Question.appendCap (n + m) sCap e).cut (w.tape w.drawn (.appendCap (n + m) sCap e)) - (n + m))) e) }, ?_, rfl, rfl, rfl, ?_⟩
    · simp [Question.cut]
    · simp only [Builtin.append_, List.getElem?_toArray, List.getElem?_cons_zero, List.getElem?_cons_succ, Sem.run_bind, run_underlying hu, Result.andThen_ok, hsz, hints, Sem.run_pure, hdm', n3, Bool.false_eq_true, if_false]
      rw [if_neg (by omega)]
      simp only [Sem.run_bind, hti, Result.andThen_ok, Bool.not_false, if_true]
      rw [if_neg (by rintro ⟨_, h | h⟩ <;> omega)]
      simp only [Sem.run_bind, hti, Result.andThen_ok]
      have hcap := nextcap_le (n + m) sCap hlt
      have hmul : Builtin.nextslicecap (n + m) sCap * ti.bytes ≤ 2 ^ 48 := by
        have : Builtin.nextslicecap (n + m) sCap * ti.bytes ≤ 2 * (n + m) * ti.bytes := Nat.mul_le_mul_right _ hcap
        rw [hby] at this ⊢
        rw [Nat.mul_assoc] at this
        omega
      rw [if_neg (by omega)]
      have hch : (choose (Question.appendCap (n + m) sCap e)).run P w = .ok ((Question.appendCap (n + m) sCap e).cut (w.tape w.drawn (.appendCap (n + m) sCap e))) { w with drawn := w.drawn + 1 } := by
        simp only [choose, Sem.run, hq]; rfl
      have h1 := hold { w with drawn := w.drawn + 1 } rfl
      have h2 := hnew { w with drawn := w.drawn + 1 } rfl
      simp only [Sem.run_bind, hch, Result.andThen_ok, hti, run_askRoom, h1, h2, run_zero hz, Sem.run_pure, newRow]
      rfl
  have hzlen : z.cells.size = szOf P e := by
    rw [hz1, ← Nat.eq_of_beq_eq_true hzl, hz2.length]
    rfl
  -- the new row's cells
  have hget : ∀ (old : List Value) (nc : Nat) (cells : List Value), VsRel ρ cells old → (∀ v ∈ old, v.oneCell' = true) →
      ∀ (j : Nat) v, (cells ++ new)[j]? = some v → ∃ cv, ((⟨old⟩ : Array Value) ++ (⟨cnew⟩ : Array Value) ++ Builtin.zeroCells z.cells nc)[j]? = some cv ∧ VRel ρ v cv ∧ cv.oneCell' = true := by
    intro old nc cells r hone j v hv
    obtain ⟨cv, e1, e2⟩ := (r.append n1).get hv
    have hj : j < (old ++ cnew).length := by
      rcases Nat.lt_or_ge j (old ++ cnew).length with h | h
      · exact h
      · rw [List.getElem?_eq_none h] at e1; cases e1
    refine ⟨cv, ?_, e2, ?_⟩
    · rw [Array.getElem?_append_left (by simpa using hj)]
      simpa using e1
    · have := List.mem_of_getElem? e1
      rcases List.mem_append.mp this with h | h
      · exact hone _ h
      · exact n2 _ h
  cases rs with
  | nilslice =>
    simp only at h
    cases m with
    | zero =>
      have hc0 : cnew = [] := List.eq_nil_of_length_eq_zero (by simpa using hcl)
      refine ⟨_, w, inplace none 0 rfl (by omega) w rfl, _, ρ, σ, ⟨_, rfl, h⟩, ?_, s, .refl _ _ _⟩
      rintro u ⟨⟩
      exact .nilslice _
    | succ m =>
      obtain ⟨newCap, w', g1, g2, g3, g4, g5⟩ := grows none 0 [] rfl (by omega) (fun w' _ => by simp [Builtin.firstCells])
      obtain ⟨i, ρ', k1, k2, k3, k4⟩ := sim_new (w' := w') s (by simpa using hget [] (newCap - (0 + (m + 1))) [] .nil (by simp)) (by simp [n1.length]) g2 g3 g4 h
      refine ⟨_, w', g5, _, ρ', _, ⟨_, rfl, k1⟩, ?_, k3, k4⟩
      rintro u ⟨⟩
      have hsize : (Builtin.zeroCells z.cells (newCap - (0 + (m + 1)))).size = (newCap - (0 + (m + 1))) * z.cells.size := by simp [Builtin.zeroCells]
      rw [Nat.zero_add] at g1 ⊢
      have hzz : z.cells.size = szOf P e := hzlen
      have htot : ((⟨[]⟩ : Array Value) ++ ⟨cnew⟩ ++ Builtin.zeroCells z.cells (newCap - (0 + (m + 1)))).size = newCap * szOf P e := by
        simp only [Array.size_append, List.size_toArray, List.length_nil, Nat.zero_add, hcl, hzz] at hsize ⊢
        rw [hsize, ← Nat.add_mul]
        congr 1
        omega
      refine .slice k2 g1 (.inr rfl) ?_ ?_
      · exact Nat.le_trans (by simp) (Nat.le_of_eq htot.symm)
      · exact Nat.le_trans (Nat.le_of_eq htot) (by simp)
  | emp hr he =>
    simp only [rowAt] at h
    split at h
    · rename_i k cells hb'
      exact (no_row s hb' hr he).elim
    · exact h.elim
  | slice hr hn ho hs hw =>
    rename_i i o cap o' l
    have hc : c = szOf P e := hc.resolve_left (by simp)
    subst hc
    simp only [rowAt] at h
    split at h
    · rename_i k cells hb'
      obtain ⟨p1, h⟩ := chk_elim h
      obtain ⟨p2, p3, h⟩ := req2_elim h
      have hold : σ.cells ⟨i, o, none⟩ (n * szOf P e) = some ((cells.drop o).take (n * szOf P e)) := by
        have p3 : o + n * szOf P e ≤ cells.length := p3
        revert p3
        generalize n * szOf P e = q
        intro p3
        cases q with
        | zero => simp [AS.cells]
        | succ q =>
          simp only [AS.cells, hb']
          rw [if_pos p3]
      obtain ⟨j, hjn⟩ : ∃ j, j = σ.n := ⟨_, rfl⟩
      have hj1 : ρ j = none := by rw [hjn]; exact s.fresh
      rw [← hjn] at h
      have hK := h
      obtain ⟨l', e1, ca, ce, fz, q1, q2, q3, q4, q5⟩ := s.obj _ _ hb'
      rw [hr] at e1
      injection e1 with e1
      subst e1
      obtain ⟨cold, c1, c2, c3, c4⟩ := run_ldsm (P := P) s hold hr
      by_cases hle : n + m ≤ cap
      · -- in place
        have hadd : o' + cap * szOf P e ≤ ca.size := by rw [q2]; exact hs
        have hmul : (n + m) * szOf P e ≤ cap * szOf P e := Nat.mul_le_mul_right _ hle
        rw [Nat.add_mul] at hmul
        obtain ⟨w', r1, r2, r3, r4, r5, r6⟩ := run_storeRaw (P := P) (o := o' + n * szOf P e) cnew n2 0 w ca q1 (by rw [hcl]; omega) (fun j a b => fzOk_in q5.1 p1 (by rw [hcl] at b; omega))
        have hrun := inplace (some ⟨l.block, o', none⟩) cap rfl hle w' (by simp only [addr_add_none]; exact r1)
        refine ⟨_, w', hrun, _, ρ.set j ⟨l.block, o', l.size, o' + cap * szOf P e⟩, _, ⟨_, rfl, hK⟩, ?_, ?_, ?_⟩
        · rintro u ⟨⟩
          exact .slice (l := ⟨l.block, o', l.size, o' + cap * szOf P e⟩) (RM.set_same _ _ _) hle (.inr (by simp)) hs (by simp)
        · refine s.moved hb' hr p1 hj1 rfl (fun b hb _ => r4 b hb) ?_
          have hca : ca.toList.length = ca.size := rfl
          refine ⟨_, ce, fz, r2, ?_, ?_, ?_, ?_, ?_⟩
          · show (setCells ca.toList _ cnew).length = _
            rw [setCells_length]; exact q2
          · show o' + _ ≤ (setCells ca.toList _ cnew).length
            rw [setCells_length, hca]
            simp only [List.length_append, List.length_take, List.length_drop, n4]
            omega
          · intro y v hv
            have hlen : ((cells.drop o).take (n * szOf P e)).length = n * szOf P e := by simp; omega
            simp only [List.getElem?_toArray]
            rw [setCells_get _ _ _ _ (by rw [hcl, hca]; omega), Nat.add_zero]
            by_cases hy : y < n * szOf P e
            · rw [List.getElem?_append_left (by omega), List.getElem?_take_of_lt hy, List.getElem?_drop] at hv
              obtain ⟨cv, t1, t2, t3⟩ := q4 _ _ hv
              rw [if_neg (by omega)]
              have hn0 : n ≠ 0 := by intro h; subst h; simp at hy
              have ho := ho.resolve_left (by omega)
              refine ⟨cv, ?_, t2.mono (RM.le_set _ hj1), t3⟩
              rw [← t1, ← Array.getElem?_toList]
              congr 1
              omega
            · rw [List.getElem?_append_right (by omega), hlen] at hv
              obtain ⟨cv, t1, t2⟩ := n1.get hv
              have hlt : y - n * szOf P e < cnew.length := by
                rcases Nat.lt_or_ge (y - n * szOf P e) cnew.length with h | h
                · exact h
                · rw [List.getElem?_eq_none h] at t1; cases t1
              rw [if_pos (by omega)]
              refine ⟨cv, ?_, t2.mono (RM.le_set _ hj1), n2 _ (List.mem_of_getElem? t1)⟩
              rw [← t1]
              congr 1
              omega
          · have hsize : (⟨setCells ca.toList (o' + n * szOf P e + 0) cnew⟩ : Array Value).size = ca.size := by
              show (setCells ca.toList _ cnew).length = _
              rw [setCells_length]; rfl
            rw [hsize]
            exact fzOk_rw q5.1 p1
          · intro _
            show o' + _ ≤ o' + cap * szOf P e
            simp only [List.length_append, List.length_take, List.length_drop, n4]
            omega
        · exact Step.moved hb' hr p1 hj1 rfl r3 (fun b hb => r4 b hb) r5 r6
      · -- a new row
        obtain ⟨newCap, w', g1, g2, g3, g4, g5⟩ := grows (some ⟨l.block, o', none⟩) cap (cold.take (n * szOf P e)) rfl (by omega) (fun w' hw => by
          by_cases h0 : n = 0
          · subst h0; simp [Builtin.firstCells, loadCells, loadCellsFrom]
          · have := ho.resolve_left (by omega)
            subst this
            exact c4 _ (Nat.le_refl _) w' hw)
        have hfull : cold.take (n * szOf P e) = cold := List.take_of_length_le (by rw [← c1.length, c3]; exact Nat.le_refl _)
        rw [hfull] at g2
        have hold2 : (cells.drop o).take (n * szOf P e) = (cells.drop o).take (n * szOf P e) := rfl
        have sdel : Sim ρ w.heap (σ.del i) := s.kill hb'
        have hn' : ∀ y, ρ y = none → ORel (ρ.set y ⟨w.heap.size, 0, (⟨cold⟩ ++ ⟨cnew⟩ ++ Builtin.zeroCells z.cells (newCap - (n + m)) : Array Value).size, (⟨cold⟩ ++ ⟨cnew⟩ ++ Builtin.zeroCells z.cells (newCap - (n + m)) : Array Value).size⟩) (w.heap.push (.cells (⟨cold⟩ ++ ⟨cnew⟩ ++ Builtin.zeroCells z.cells (newCap - (n + m))) e)) ⟨w.heap.size, 0, (⟨cold⟩ ++ ⟨cnew⟩ ++ Builtin.zeroCells z.cells (newCap - (n + m)) : Array Value).size, (⟨cold⟩ ++ ⟨cnew⟩ ++ Builtin.zeroCells z.cells (newCap - (n + m)) : Array Value).size⟩ (.row .rw ((cells.drop o).take (n * szOf P e) ++ new)) := by
          intro y hy
          refine ⟨_, e, (0, 0), by simp, rfl, ?_, ?_, .inl rfl, ?_⟩
          · simp only [List.length_append, c3, n4, Array.size_append, List.size_toArray, hcl]
            rw [← c1.length, c3]
            omega
          · intro q v hv
            obtain ⟨cv, t1, t2, t3⟩ := hget cold (newCap - (n + m)) _ c1 c2 q v hv
            exact ⟨cv, by simpa using t1, t2.mono (RM.le_set _ hy), t3⟩
          · intro _
            simp only [List.length_append, c3, n4, Array.size_append, List.size_toArray, hcl]
            rw [← c1.length, c3]
            omega
        refine ⟨_, w', g5, _, ρ.set j ⟨w.heap.size, 0, (⟨cold⟩ ++ ⟨cnew⟩ ++ Builtin.zeroCells z.cells (newCap - (n + m)) : Array Value).size, (⟨cold⟩ ++ ⟨cnew⟩ ++ Builtin.zeroCells z.cells (newCap - (n + m)) : Array Value).size⟩, _, ⟨_, rfl, hK⟩, ?_, ?_, ?_⟩
        · rintro u ⟨⟩
          have hsize : (Builtin.zeroCells z.cells (newCap - (n + m))).size = (newCap - (n + m)) * szOf P e := by simp [Builtin.zeroCells, hzlen]
          have htot : (⟨cold⟩ ++ ⟨cnew⟩ ++ Builtin.zeroCells z.cells (newCap - (n + m)) : Array Value).size = newCap * szOf P e := by
            simp only [Array.size_append, List.size_toArray, hcl, hsize]
            rw [← c1.length, c3, ← Nat.add_mul, ← Nat.add_mul]
            congr 1
            omega
          refine .slice (RM.set_same _ _ _) g1 (.inr rfl) ?_ ?_
          · exact Nat.le_trans (by simp) (Nat.le_of_eq htot.symm)
          · exact Nat.le_trans (Nat.le_of_eq htot) (by simp)
        · rw [g2]
          exact sdel.alloc hj1 (hn' j hj1)
        · have st1 : Step ρ w σ ρ w (σ.del i) := Step.same rfl rfl rfl fun a oa e ho => by
            by_cases ha : a = i
            · subst ha; rw [AS.del_same] at e; injection e with e; subst e; cases ho
            · rw [AS.del_ne _ ha] at e; exact e
          exact st1.trans (Step.alloc hj1 g2 g3 g4)
    · exact h.elim
end
end Go.AI
