/- Lemmas of the abstract condition ahead of code (a part of the library that the claim's proof stands on); they hold with no condition but those that each names. -/
import Derived.Test.YtlofpopejkohbaaGreatAIChain4
set_option linter.unusedSimpArgs false
set_option linter.unusedVariables false
namespace Go.AI
section
variable {P : Program} {w : World} {ρ : RM} {σ : AS}

theorem c_copy (s : Sim ρ w.heap σ) {t tx e : TypeId} {a : Option Addr} {n c : Nat} {x cs cx : Value} {ty : TypeId} {K : Option Value → AS → Prop}
    (hu : P.underlying t = some (.slice e)) (hk : (P.info? e).isSome = true)
    (hc : a = none ∨ c = szOf P e) (rs : VRel ρ (.slice a n c) cs) (rx : VRel ρ x cx)
    (h : srcCells σ (szOf P e) (some x) fun m l => copyTo σ (szOf P e) a n m l fun r σ => K (some (.int .i64 r)) σ) :
    ∃ cv w1, (Builtin.copy_ #[t, tx] ty #[cs, cx]).run P w = .ok cv w1 ∧ COk P ρ w σ (.value cv) w1 K := by
  have hsz := fun w => run_size (P := P) hk w
  have hsrc := src_elim (P := P) s rx h
  clear h
  obtain ⟨m, new, cnew, h, n1, n2, n3, n4, n5⟩ := hsrc
  have hfc := n5 (min m n) (Nat.min_le_left _ _)
  cases rs with
  | nilslice =>
    refine ⟨.int .i64 0, w, ?_, _, ρ, σ, h, ?_, s, .refl _ _ _⟩
    · have := hfc w rfl
      simp only [Builtin.copy_, List.getElem?_toArray, List.getElem?_cons_zero, List.getElem?_cons_succ, Sem.run_bind, run_underlying hu, Result.andThen_ok, n3, Sem.run_pure, hsz]
      rw [show Nat.min m 0 = min m 0 from rfl, this]
      simp [goInt]
    · rintro u ⟨⟩; exact .int _ _
  | emp hr he =>
    unfold copyTo puts rowAt at h
    simp only at h
    split at h
    · rename_i k cells hb'
      exact (no_row s hb' hr he).elim
    · exact h.elim
  | slice hr hn ho hs hw =>
    rename_i i o cap o' l
    have hc : c = szOf P e := hc.resolve_left (by simp)
    subst hc
    have ntake : VsRel ρ (new.take (min m n * szOf P e)) (cnew.take (min m n * szOf P e)) := n1.take _
    have nonet : ∀ v ∈ cnew.take (min m n * szOf P e), v.oneCell' = true := fun v hv => n2 v (List.mem_of_mem_take hv)
    by_cases h0 : n = 0
    · -- nothing to copy to
      subst h0
      have : min m 0 = 0 := by omega
      simp only [copyTo, this, Nat.zero_mul, List.take_zero] at h hfc
      unfold puts rowAt at h
      split at h
      · rename_i k cells hb
        obtain ⟨h1, h⟩ := chk_elim h
        obtain ⟨h2, h3, h4⟩ := req2_elim h
        simp only [setCells] at h4
        rw [AS.set_self σ _ _ hb] at h4
        refine ⟨.int .i64 0, w, ?_, _, ρ, σ, h4, ?_, s, .refl _ _ _⟩
        · have := hfc w rfl
          simp only [Builtin.copy_, List.getElem?_toArray, List.getElem?_cons_zero, List.getElem?_cons_succ, Sem.run_bind, run_underlying hu, Result.andThen_ok, n3, Sem.run_pure, hsz]
          rw [show Nat.min m 0 = 0 by simp [Nat.min_def], this]
          simp [storeCells, goInt]
        · rintro u ⟨⟩; exact .int _ _
      · exact h.elim
    · have ho := ho.resolve_left (by omega)
      subst ho
      obtain ⟨l', w', σ', hl, hcv, g1, g2, g3, g4⟩ := puts_elim (P := P) s (.ptr hr) ntake nonet h
      rw [hr] at hl
      injection hl with hl
      subst hl
      refine ⟨.int .i64 (min m n : Nat), w', ?_, _, ρ, σ', g2, ?_, g3, g4⟩
      · have := hfc w rfl
        simp only [Builtin.copy_, List.getElem?_toArray, List.getElem?_cons_zero, List.getElem?_cons_succ, Sem.run_bind, run_underlying hu, Result.andThen_ok, n3, Sem.run_pure, hsz]
        rw [show Nat.min m n = min m n from rfl, this]
        simp only [Result.andThen_ok, Sem.run_bind, g1]
        rfl
      · rintro u ⟨⟩; exact .int _ _

theorem zc_eq {z : Value} {zl : List Value} {sz : Nat} (h1 : z.cells = ⟨zl⟩) (hl : zl.length = sz) (hp : 0 < sz) (n : Nat) : (Builtin.zeroCells z.cells n).toList = (List.replicate n zl).flatten := by
  have := zeroCells_eq ⟨zl⟩ (by show 0 < zl.length; omega) n
  unfold Builtin.zeroCells
  rw [h1, this]

theorem c_clear (s : Sim ρ w.heap σ) {t e : TypeId} {a : Option Addr} {n c : Nat} {z cs : Value} {ty : TypeId} {K : Option Value → AS → Prop}
    (hu : P.underlying t = some (.slice e)) (hz : zeroOf P e = some z) (hzl : Nat.beq (valCells z).length (szOf P e) = true)  (hp : Nat.blt 0 (szOf P e) = true)
    (hc : a = none ∨ c = szOf P e) (rs : VRel ρ (.slice a n c) cs)
    (h : clearTo σ a n (valCells z) fun σ => K none σ) :
    ∃ cv w1, (Builtin.clear_ #[t] ty #[cs]).run P w = .ok cv w1 ∧ COk P ρ w σ (.value cv) w1 K := by
  obtain ⟨zl, z1, z2, z3⟩ := valCells_rel (zero_rel (ρ := ρ) hz) (zero_ok hz)
  have hp : 0 < szOf P e := Nat.blt_eq.mp hp
  have hzl := Nat.eq_of_beq_eq_true hzl
  cases n with
  | zero =>
    refine ⟨.tuple #[], w, ?_, _, ρ, σ, h, ?_, s, .refl _ _ _⟩
    · cases rs <;> simp [Builtin.clear_, run_underlying hu]
    · rintro u ⟨⟩
  | succ n =>
    obtain ⟨a, rfl, h⟩ := pSome_elim h
    cases rs with
    | slice hr hn ho hs hw =>
      rename_i i o cap o' l
      have ho := ho.resolve_left (by omega)
      subst ho
      obtain ⟨l', w', σ', hl, hcv, g1, g2, g3, g4⟩ := puts_elim (P := P) s (.ptr hr) (rep_rel z2 (n + 1)) (rep_one z3 (n + 1)) h
      rw [hr] at hl
      injection hl with hl
      subst hl
      refine ⟨.tuple #[], w', ?_, _, ρ, σ', g2, ?_, g3, g4⟩
      · have e1 := zc_eq z1 (by rw [← z2.length]; exact hzl) hp (n + 1)
        simp only [Builtin.clear_, List.getElem?_toArray, List.getElem?_cons_zero, Sem.run_bind, run_underlying hu, Result.andThen_ok, run_zero hz, Sem.run_pure, e1]
        simp only at g1
        rw [g1]
        rfl
      · rintro u ⟨⟩

theorem run_getMap {b : Nat} {ces : Array MapEntry} {c : Nat} (h : w.heap[b]? = some (.map ces c)) : (getObj b).run P w = .ok (.map ces c) w := by simp [getObj, Sem.run, h]
theorem run_setMap {b : Nat} {ces ces' : Array MapEntry} {c c' : Nat} (h : w.heap[b]? = some (.map ces c)) : (setObj b (.map ces' c')).run P w = .ok () { w with heap := w.heap.setIfInBounds b (.map ces' c') } := by simp [setObj, Sem.run, h]
theorem run_getIter {b : Nat} {m : Option Nat} {s l : Nat} {seen : Array Nat} (h : w.heap[b]? = some (.mapIter m s seen l)) : (getObj b).run P w = .ok (.mapIter m s seen l) w := by simp [getObj, Sem.run, h]
theorem run_setIter {b : Nat} {m : Option Nat} {s l : Nat} {seen : Array Nat} {o : Obj} (h : w.heap[b]? = some (.mapIter m s seen l)) : (setObj b o).run P w = .ok () { w with heap := w.heap.setIfInBounds b o } := by simp [setObj, Sem.run, h]
theorem run_getStr {b : Nat} {s : ByteArray} {p : Nat} (h : w.heap[b]? = some (.stringIter s p)) : (getObj b).run P w = .ok (.stringIter s p) w := by simp [getObj, Sem.run, h]
theorem run_setStr {b : Nat} {s : ByteArray} {p : Nat} {o : Obj} (h : w.heap[b]? = some (.stringIter s p)) : (setObj b o).run P w = .ok () { w with heap := w.heap.setIfInBounds b o } := by simp [setObj, Sem.run, h]

/-- An object that is no row becomes another thing. -/
theorem sim_setObj (s : Sim ρ w.heap σ) {i : Nat} {l : Loc} {o o' : AObj} {ob : Obj} (hi : σ i = some o) (hl : ρ i = some l) (ho : o.own = true) (hlt : l.block < w.heap.size)
    (hn : ORel ρ (w.heap.setIfInBounds l.block ob) l o') :
    Sim ρ ({ w with heap := w.heap.setIfInBounds l.block ob } : World).heap (σ.set i o') ∧ Step ρ w σ ρ { w with heap := w.heap.setIfInBounds l.block ob } (σ.set i o') := by
  have hoth : ∀ b, b ≠ l.block → (w.heap.setIfInBounds l.block ob)[b]? = w.heap[b]? := fun b hb => by rw [Array.getElem?_setIfInBounds, if_neg (fun h => hb h.symm)]
  exact ⟨s.upd hi hl ho hoth hn, .upd hi hl ho (by simp) hoth rfl rfl⟩

theorem lt_of_some {h : Array Obj} {b : Nat} {o : Obj} (e : h[b]? = some o) : b < h.size := by
  rcases Nat.lt_or_ge b h.size with hl | hl
  · exact hl
  · simp [Array.getElem?_eq_none hl] at e

theorem L2.modify {α β : Type} {R : α → β → Prop} {f : α → α} {g : β → β} (hf : ∀ a b, R a b → R (f a) (g b)) : ∀ {a : List α} {b : List β}, L2 R a b → ∀ i, L2 R (a.modify i f) (b.modify i g)
  | _, _, .nil, i => by cases i <;> exact .nil
  | _, _, .cons h hs, 0 => .cons (hf _ _ h) hs
  | _, _, .cons h hs, i + 1 => .cons h (hs.modify hf i)
theorem L2.eraseIdx {α β : Type} {R : α → β → Prop} : ∀ {a : List α} {b : List β}, L2 R a b → ∀ i, L2 R (a.eraseIdx i) (b.eraseIdx i)
  | _, _, .nil, i => by cases i <;> exact .nil
  | _, _, .cons h hs, 0 => hs
  | _, _, .cons h hs, i + 1 => .cons h (hs.eraseIdx i)

theorem mapAt_elim (s : Sim ρ w.heap σ) {i : Nat} {cv : Value} {K : List MapEntry → Nat → Prop} (r : VRel ρ (.map (some i)) cv) (h : mapAt σ i K) :
    ∃ l es ces c, ρ i = some l ∧ cv = .map (some l.block) ∧ σ i = some (.map es c) ∧ w.heap[l.block]? = some (.map ces c) ∧ L2 (EntRel ρ) es ces.toList ∧ K es c := by
  cases r with
  | map hl =>
    rename_i l
    unfold mapAt at h
    split at h
    · rename_i es c hi
      obtain ⟨l', h1, ces, h2, h3⟩ := s.obj _ _ hi
      rw [hl] at h1
      injection h1 with h1
      subst h1
      exact ⟨l, es, ces, c, hl, rfl, hi, h2, h3, h⟩
    · exact h.elim

/-- The key that is found is the key that is looked for. -/
theorem sameBits_of_now {d : TypeDesc} {x y : Value} {n : Nat} (h : Instr.sameNow d x y = some true) : Instr.sameBits n y x = true := by
  unfold Instr.sameNow at h
  split at h
  · split at h
    · rename_i e
      subst e
      simp at h
      subst h
      cases n <;> simp [Instr.sameBits]
    · cases h
  · rename_i a b
    have h : (a == b) = true := by simpa using h
    have e : a.data = b.data := eq_of_beq (show (a.data == b.data) = true from h)
    have h' : (b == a) = true := show (b.data == a.data) = true by simp [e]
    cases n <;> simpa [Instr.sameBits] using h'
  · simp at h; subst h; cases n <;> simp [Instr.sameBits]
  · cases h

theorem c_mapUpdate (s : Sim ρ w.heap σ) {t kt et : TypeId} {d : TypeDesc} {i : Nat} {k v cm ck cv : Value} {K : Option Value → AS → Prop}
    (hu : P.underlying t = some (.map kt et)) (hd : P.underlying kt = some d) (hsc : scalarKey d = true)
    (rm : VRel ρ (.map (some i)) cm) (rk : VRel ρ k ck) (rv : VRel ρ v cv) (h : mset σ d i k v fun σ => K none σ) :
    ∃ w1, (Instr.mapUpdate t cm ck cv).run P w = .ok () w1 ∧ COk P ρ w σ .skip w1 K := by
  obtain ⟨l, es, ces, c, hl, rfl, hi, hw, hrel, h⟩ := mapAt_elim s rm h
  obtain ⟨x, hx, h⟩ := pSome_elim h
  obtain ⟨cx, hcx, hrx⟩ := now_rel rk hrel hx
  have hck : ∀ b w, (Instr.checkKey b 10000 kt ck).run P w = .ok () w := fun b w => run_checkKey (n := 9999) hd hsc
  have hfk := run_findKey (P := P) (w := w) hd hcx
  rcases hrx with ⟨rfl, rfl⟩ | ⟨j, u, cu, rfl, rfl, hru, hj0, hj, e, ce, he, hce, rfl, rfl, hsame⟩
  · -- a new entry
    have hn : EntRel ρ ({ key := k, val := v, born := c } : MapEntry) { key := ck, val := cv, born := c } := ⟨rk, rv, rfl⟩
    obtain ⟨g1, g2⟩ := sim_setObj (ob := .map (ces.push { key := ck, val := cv, born := c }) (c + 1)) (o' := .map (es ++ [{ key := k, val := v, born := c }]) (c + 1)) s hi hl rfl (lt_of_some hw)
      ⟨_, by simp [lt_of_some hw]; rfl, by simpa using hrel.append (.cons hn .nil)⟩
    refine ⟨_, ?_, none, ρ, _, h, by simp, g1, g2⟩
    simp only [Instr.mapUpdate, Sem.run_bind, run_underlying hu, Result.andThen_ok, run_getMap hw, hck, hfk, run_setMap hw]
  · -- an entry of that key
    have hbits : ∀ n, Instr.sameBits n ce.key ck = true := fun n => sameBits_of_now (sameNow_rel rk (by
      obtain ⟨ce', h1, h2⟩ := hrel.get he
      rw [hce] at h1
      injection h1 with h1
      subst h1
      exact h2.key) hsame)
    have hce' : ces[j]? = some ce := by rw [← Array.getElem?_toList]; simpa using hce
    obtain ⟨g1, g2⟩ := sim_setObj (ob := .map (ces.modify j fun e => { e with key := ck, val := cv }) c) (o' := .map (es.modify j fun e => { e with key := k, val := v }) c) s hi hl rfl (lt_of_some hw)
      ⟨_, by simp [lt_of_some hw]; rfl, by simpa using hrel.modify (f := fun e => { e with key := k, val := v }) (g := fun e => { e with key := ck, val := cv }) (fun a b hab => ⟨rk, rv, hab.born⟩) j⟩
    refine ⟨_, ?_, none, ρ, _, h, by simp, g1, g2⟩
    have hstay : (Instr.keyThatStays (((ces[j]?).map (·.key)).getD ck) ck).run P w = .ok ck w := by
      simp [hce', Instr.keyThatStays, hbits]
    simp only [Instr.mapUpdate, Sem.run_bind, run_underlying hu, Result.andThen_ok, run_getMap hw, hck, hfk, hstay, run_setMap hw]

theorem c_mapUpdate2 (s : Sim ρ w.heap σ) {t kt et : TypeId} {kk : IntKind} {i : Nat} {k v cm ck cv : Value} {K : Option Value → AS → Prop}
    (hu : P.underlying t = some (.map kt et)) (hkk : key2 P kt = some kk)
    (rm : VRel ρ (.map (some i)) cm) (rk : VRel ρ k ck) (rv : VRel ρ v cv) (h : mset2 σ kk i k v fun σ => K none σ) :
    ∃ w1, (Instr.mapUpdate t cm ck cv).run P w = .ok () w1 ∧ COk P ρ w σ .skip w1 K := by
  obtain ⟨p, hp, h⟩ := pSome_elim h
  obtain ⟨l, es, ces, c, hl, rfl, hi, hw, hrel, h⟩ := mapAt_elim s rm h
  obtain ⟨at2, hu2, he2, hs2⟩ := key2_elim hkk
  have hck2 := int2_rel rk hp
  obtain ⟨x, hx, h⟩ := pSome_elim h
  obtain ⟨cx, hcx, hrx⟩ := find2_rel hrel hx
  have hck : ∀ b w, (Instr.checkKey b 10000 kt ck).run P w = .ok () w := fun b w => by rw [hck2]; exact run_checkKey2 (n := 9998) hu2 he2 hs2
  have hfk : (Instr.findKey kt ck ces.toList).run P w = .ok cx w := by rw [hck2]; exact run_find2 hu2 he2 hs2 hcx
  rcases hrx with ⟨rfl, rfl⟩ | ⟨j, u, cu, rfl, rfl, hru, hj0, hj, e, ce, he, hce, rfl, rfl, hsame⟩
  · -- a new entry
    have hn : EntRel ρ ({ key := k, val := v, born := c } : MapEntry) { key := ck, val := cv, born := c } := ⟨rk, rv, rfl⟩
    obtain ⟨g1, g2⟩ := sim_setObj (ob := .map (ces.push { key := ck, val := cv, born := c }) (c + 1)) (o' := .map (es ++ [{ key := k, val := v, born := c }]) (c + 1)) s hi hl rfl (lt_of_some hw)
      ⟨_, by simp [lt_of_some hw]; rfl, by simpa using hrel.append (.cons hn .nil)⟩
    refine ⟨_, ?_, none, ρ, _, h, by simp, g1, g2⟩
    simp only [Instr.mapUpdate, Sem.run_bind, run_underlying hu, Result.andThen_ok, run_getMap hw, hck, hfk, run_setMap hw]
  · -- an entry of that key
    have hbits : Instr.sameBits 10000 ce.key ck = true := by
      obtain ⟨ce', h1, h2⟩ := hrel.get he
      rw [hce] at h1
      injection h1 with h1
      subst h1
      rw [hck2, int2_rel h2.key hsame]
      exact sameBits2 (n := 9998)
    have hce' : ces[j]? = some ce := by rw [← Array.getElem?_toList]; simpa using hce
    obtain ⟨g1, g2⟩ := sim_setObj (ob := .map (ces.modify j fun e => { e with key := ck, val := cv }) c) (o' := .map (es.modify j fun e => { e with key := k, val := v }) c) s hi hl rfl (lt_of_some hw)
      ⟨_, by simp [lt_of_some hw]; rfl, by simpa using hrel.modify (f := fun e => { e with key := k, val := v }) (g := fun e => { e with key := ck, val := cv }) (fun a b hab => ⟨rk, rv, hab.born⟩) j⟩
    refine ⟨_, ?_, none, ρ, _, h, by simp, g1, g2⟩
    have hstay : (Instr.keyThatStays (((ces[j]?).map (·.key)).getD ck) ck).run P w = .ok ck w := by
      simp [hce', Instr.keyThatStays, hbits]
    simp only [Instr.mapUpdate, Sem.run_bind, run_underlying hu, Result.andThen_ok, run_getMap hw, hck, hfk, hstay, run_setMap hw]

theorem c_delete (s : Sim ρ w.heap σ) {t kt et : TypeId} {ts : Array TypeId} {d : TypeDesc} {i : Nat} {k cm ck : Value} {ty : TypeId} {K : Option Value → AS → Prop}
    (ht : ts[0]? = some t) (hu : P.underlying t = some (.map kt et)) (hd : P.underlying kt = some d) (hsc : scalarKey d = true)
    (rm : VRel ρ (.map (some i)) cm) (rk : VRel ρ k ck) (h : mdel σ d i k fun σ => K none σ) :
    ∃ cv w1, (Builtin.delete_ ts ty #[cm, ck]).run P w = .ok cv w1 ∧ COk P ρ w σ (.value cv) w1 K := by
  obtain ⟨l, es, ces, c, hl, rfl, hi, hw, hrel, h⟩ := mapAt_elim s rm h
  obtain ⟨x, hx, h⟩ := pSome_elim h
  obtain ⟨cx, hcx, hrx⟩ := now_rel rk hrel hx
  have hck : ∀ b w, (Instr.checkKey b 10000 kt ck).run P w = .ok () w := fun b w => run_checkKey (n := 9999) hd hsc
  have hfk := run_findKey (P := P) (w := w) hd hcx
  rcases hrx with ⟨rfl, rfl⟩ | ⟨j, u, cu, rfl, rfl, hru, hj0, hj, e, ce, he, hce, rfl, rfl, hsame⟩
  · obtain ⟨g1, g2⟩ := sim_setObj (ob := .map ces c) (o' := .map es c) s hi hl rfl (lt_of_some hw) ⟨ces, by simp [lt_of_some hw], hrel⟩
    rw [AS.set_self σ i _ hi] at g1 g2
    refine ⟨.tuple #[], _, ?_, none, ρ, _, h, by simp, g1, g2⟩
    simp only [Builtin.delete_, ht, List.getElem?_toArray, List.getElem?_cons_zero, List.getElem?_cons_succ, Sem.run_bind, run_underlying hu, Result.andThen_ok, run_getMap hw, hck, hfk, run_setMap hw]
    rfl
  · obtain ⟨g1, g2⟩ := sim_setObj (ob := .map (ces.eraseIdxIfInBounds j) c) (o' := .map (es.eraseIdx j) c) s hi hl rfl (lt_of_some hw) ⟨_, by simp [lt_of_some hw]; rfl, by
      have := hrel.eraseIdx j
      have e : (ces.eraseIdxIfInBounds j).toList = ces.toList.eraseIdx j := by
        unfold Array.eraseIdxIfInBounds
        split
        · simp
        · rename_i hno
          rw [List.eraseIdx_of_length_le]
          have : ces.toList.length = ces.size := rfl
          omega
      rw [e]; exact this⟩
    refine ⟨.tuple #[], _, ?_, none, ρ, _, h, by simp, g1, g2⟩
    simp only [Builtin.delete_, ht, List.getElem?_toArray, List.getElem?_cons_zero, List.getElem?_cons_succ, Sem.run_bind, run_underlying hu, Result.andThen_ok, run_getMap hw, hck, hfk, run_setMap hw]
    rfl
end
end Go.AI
