/- Lemmas of the abstract condition ahead of code (a part of the library that the claim's proof stands on); they hold with no condition but those that each names. -/
import Derived.Test.YtlofpopejkohbaaGreatAIEval
set_option linter.unusedSimpArgs false
set_option linter.unusedVariables false
/- Objects that are known in a state, as a list; and what the words of the abstract condition ask, where they are known. -/
namespace Go.AI

/-- The condition ahead of a call of a function with a body; calls by T. -/
def fw (P : Program) (H : List (Nat × Hint)) (T : Ct) (f : Nat) (args : List Value) (σ : AS) (K : Value → AS → Prop) : Prop :=
  match P.funcs[f]? with
  | none => False
  | some fn => match fn.body with
    | none => False
    | some c => chk (Nat.ble args.length fn.ntmps) (aw P T none fn.ntmps (hget H f) c (retK P fn.results.toList K) (argRegs 0 args) σ)
theorem tri_fw {P : Program} {H : List (Nat × Hint)} (hmix : P.follows .mixedOrders = true) (hg : noGo P = true) {f : Nat} {args : List Value} {σ : AS} {K : Value → AS → Prop} (h : fw P H (Tri P) f args σ K) : Tri P f args σ K := by
  unfold fw at h
  cases hf : P.funcs[f]? with
  | none => rw [hf] at h; exact h.elim
  | some fn =>
    rw [hf] at h
    simp only at h
    cases hb : fn.body with
    | none => rw [hb] at h; exact h.elim
    | some c =>
      rw [hb] at h
      obtain ⟨h1, h2⟩ := chk_elim h
      exact tri_of_aw (fun _ _ _ _ h => h) hmix hf hb (callFunc_enter hg hf hb) rfl h1 h2
/-- A piece of code, by its place: false the first part, true the second. -/
def subC : List Bool → Code → Code
  | [], c => c
  | b :: l, .seq x y => subC l (match b with | false => x | true => y)
  | b :: l, .cond _ x y => subC l (match b with | false => x | true => y)
  | _ :: l, .block _ x => subC l x
  | _ :: l, .loop x => subC l x
  | _, c => c
def subH : List Bool → Hint → Hint
  | [], h => h
  | b :: l, h => subH l (match b with | false => h.fst | true => h.snd)
/-- The least condition of a loop, by what is kept and what falls. -/
theorem aloop {α : Type} {F : (Regs → AS → Prop) → Regs → AS → Prop} (I : α → Regs → AS → Prop) (m : α → Nat)
    (h : ∀ a r σ (X : Regs → AS → Prop), (∀ b r' σ', m b < m a → I b r' σ' → X r' σ') → I a r σ → F X r σ) {a : α} {r : Regs} {σ : AS} (h0 : I a r σ) : ALoop F r σ := by
  intro X hX
  have key : ∀ n a r σ, m a < n → I a r σ → X r σ := by
    intro n
    induction n with
    | zero => intro a r σ hn; exact absurd hn (Nat.not_lt_zero _)
    | succ n ih =>
      intro a r σ hn hI
      exact hX r σ (h a r σ X (fun b r' σ' hb hI' => ih b r' σ' (Nat.lt_of_lt_of_le hb (Nat.le_of_lt_succ hn)) hI') hI)
  exact key _ a r σ (Nat.lt_succ_self _) h0
/-- The condition ahead of a piece of a function's code. -/
def pw (P : Program) (H : List (Nat × Hint)) (T : Ct) (f : Nat) (p : List Bool) (Q : AK) (r : Regs) (σ : AS) : Prop :=
  match P.funcs[f]? with
  | none => False
  | some fn => match fn.body with
    | none => False
    | some c => aw P T none fn.ntmps (subH p (hget H f)) (subC p c) Q r σ

/-- What is to hold behind a piece of code, by its place; Xs: of the loops that it lies in, the inmost last. -/
def qAt (P : Program) (T : Ct) (N : Nat) : List Bool → Hint → Code → List (Regs → AS → Prop) → AK → AK
  | [], _, _, _, Q => Q
  | b :: l, h, .seq x y, Xs, Q => match b with
    | false => qAt P T N l h.fst x Xs (thenK (joinR h (aw P T none N h.snd y Q)) Q)
    | true => qAt P T N l h.snd y Xs Q
  | b :: l, h, .cond _ x y, Xs, Q => match b with
    | false => qAt P T N l h.fst x Xs Q
    | true => qAt P T N l h.snd y Xs Q
  | _ :: l, h, .block id x, Xs, Q => qAt P T N l h.fst x Xs (blockK id Q)
  | _ :: l, h, .loop x, X :: Xs, Q => qAt P T N l h.fst x Xs (thenK (fun r σ => X (pickR (loopKeys h) r) σ) Q)
  | _, _, _, _, Q => Q
/-- A loop's round, by the loop's place: what is to hold ahead of it, if X is to hold at the next one. -/
def fl (P : Program) (H : List (Nat × Hint)) (T : Ct) (f : Nat) (p : List Bool) (Xs : List (Regs → AS → Prop)) (K : Value → AS → Prop) (X : Regs → AS → Prop) (r : Regs) (σ : AS) : Prop :=
  match P.funcs[f]? with
  | none => False
  | some fn => match fn.body with
    | none => False
    | some c => match subC p c with
      | .loop b => aw P T none fn.ntmps (subH p (hget H f)).fst b (thenK (fun r σ => X (pickR (loopKeys (subH p (hget H f))) r) σ) (qAt P T fn.ntmps p (hget H f) c Xs (retK P fn.results.toList K))) r σ
      | _ => False

/-- These objects are there, at different places. -/
def Has (σ : AS) (L : List (Nat × AObj)) : Prop := (L.map (·.1)).Nodup ∧ ∀ p ∈ L, σ p.1 = some p.2

theorem Has.at {σ : AS} {L : List (Nat × AObj)} (h : Has σ L) (n : Nat) {i : Nat} {o : AObj} (e : L[n]? = some (i, o)) : σ i = some o := h.2 _ (List.mem_of_getElem? e)
theorem Has.lt {σ : AS} {L : List (Nat × AObj)} (h : Has σ L) (n : Nat) {i : Nat} {o : AObj} (e : L[n]? = some (i, o)) : i < σ.n := σ.lt (h.at n e)
theorem map_fst_set {L : List (Nat × AObj)} {n i : Nat} {o o' : AObj} (e : L[n]? = some (i, o)) : (L.set n (i, o')).map (·.1) = L.map (·.1) := by
  induction L generalizing n with
  | nil => rfl
  | cons a L ih =>
    cases n with
    | zero =>
      simp at e
      subst e
      rfl
    | succ n => simp only [List.set_cons_succ, List.map_cons]; rw [ih (by simpa using e)]
theorem nodup_inj {l : List Nat} (h : l.Nodup) {m n : Nat} {x : Nat} (a : l[m]? = some x) (b : l[n]? = some x) : m = n := by
  induction l generalizing m n with
  | nil => simp at a
  | cons y l ih =>
    have ⟨h1, h2⟩ := List.nodup_cons.1 h
    cases m with
    | zero =>
      cases n with
      | zero => rfl
      | succ n =>
        simp at a
        subst a
        exact absurd (List.mem_of_getElem? (by simpa using b)) h1
    | succ m =>
      cases n with
      | zero =>
        simp at b
        subst b
        exact absurd (List.mem_of_getElem? (by simpa using a)) h1
      | succ n =>
        have a' : l[m]? = some x := by simpa using a
        have b' : l[n]? = some x := by simpa using b
        rw [ih h2 a' b']
theorem Has.upd {σ : AS} {L : List (Nat × AObj)} (h : Has σ L) (n : Nat) {i : Nat} {o : AObj} (e : L[n]? = some (i, o)) (o' : AObj) : Has (σ.set i o') (L.set n (i, o')) := by
  refine ⟨by rw [map_fst_set e]; exact h.1, fun p hp => ?_⟩
  obtain ⟨m, hm⟩ := List.getElem?_of_mem hp
  rw [AS.get_set]
  rw [List.getElem?_set] at hm
  split at hm
  · split at hm
    · injection hm with hm
      subst hm
      simp
    · cases hm
  · rename_i hne
    have hp' : p ∈ L := List.mem_of_getElem? hm
    rw [if_neg, h.2 p hp']
    intro hpi
    apply hne
    have h1 : (L.map (·.1))[m]? = some i := by rw [List.getElem?_map, hm, ← hpi]; rfl
    have h2 : (L.map (·.1))[n]? = some i := by rw [List.getElem?_map, e]; rfl
    exact nodup_inj h.1 h2 h1
theorem Has.new {σ : AS} {L : List (Nat × AObj)} (h : Has σ L) (o : AObj) : Has (σ.set σ.n o) ((σ.n, o) :: L) := by
  have hne : ∀ p ∈ L, p.1 ≠ σ.n := fun p hp e => absurd (σ.lt (h.2 p hp)) (by rw [e]; exact Nat.lt_irrefl _)
  refine ⟨?_, fun p hp => ?_⟩
  · simp only [List.map_cons, List.nodup_cons]
    refine ⟨fun hm => ?_, h.1⟩
    obtain ⟨p, hp, e⟩ := List.mem_map.1 hm
    exact hne p hp e
  · rcases List.mem_cons.1 hp with rfl | hp
    · simp [AS.get_set]
    · rw [AS.get_set, if_neg (hne p hp), h.2 p hp]
theorem Has.sub {σ : AS} {L L' : List (Nat × AObj)} (h : Has σ L) (s : L'.Sublist L) : Has σ L' :=
  ⟨(s.map _).nodup h.1, fun p hp => h.2 p (s.subset hp)⟩
theorem Has.perm {σ : AS} {L L' : List (Nat × AObj)} (h : Has σ L) (s : L'.Perm L) : Has σ L' :=
  ⟨(s.map _).nodup_iff.2 h.1, fun p hp => h.2 p (s.mem_iff.1 hp)⟩
theorem Has.nil (σ : AS) : Has σ [] := ⟨by simp, fun _ h => by cases h⟩

section
variable {σ : AS} {L : List (Nat × AObj)} {i o n : Nat} {k : RK} {cs : List Value}
theorem chk_iff {b : Bool} {K : Prop} : chk b K ↔ b = true ∧ K := by cases b <;> simp [chk]
theorem bm_mk {b : Bool} {A B : Prop} (h1 : b = true → A) (h2 : b = false → B) : bmatch b A B := by cases b with | true => exact h1 rfl | false => exact h2 rfl
theorem tI_mk {m : Int} {k : IntKind} {K : Int → Prop} (h : K m) : tI k (.int k m) K := by simpa [tI, chk, ikEq_refl] using h
theorem tL_mk {a : Option Addr} {n e : Nat} {K : Sl → Prop} (h : K ⟨a, n⟩) : tL e (.slice a n e) K := by simpa [tL, chk, nilOr] using h
theorem rowAt_mk {K : RK → List Value → Prop} (h : Has σ L) (m : Nat) (e : L[m]? = some (i, .row k cs)) (hK : K k cs) : rowAt σ i K := by
  unfold rowAt; rw [h.at m e]; exact hK
theorem mapAt_mk {K : List MapEntry → Nat → Prop} {es : List MapEntry} {c : Nat} (h : Has σ L) (m : Nat) (e : L[m]? = some (i, .map es c)) (hK : K es c) : mapAt σ i K := by
  unfold mapAt; rw [h.at m e]; exact hK
theorem ldc_mk {K : Value → Prop} {v : Value} (h : Has σ L) (m : Nat) (e : L[m]? = some (i, .row k cs)) (hv : cs[o]? = some v) (hK : K v) : ldc σ ⟨i, o, none⟩ K := by
  unfold ldc AS.cell; simp only; rw [h.at m e]; simp only; rw [hv]; exact hK
theorem lds_mk {K : List Value → Prop} (h : Has σ L) (m : Nat) (e : L[m]? = some (i, .row k cs)) (hb : o + n ≤ cs.length) (hK : K ((cs.drop o).take n)) : lds σ ⟨i, o, none⟩ n K := by
  unfold lds AS.cells
  cases n with
  | zero => simpa [pSome] using hK
  | succ n => simp only; rw [h.at m e]; simp only; rw [if_pos hb]; exact hK
theorem put1_mk {K : AS → Prop} {v : Value} (h : Has σ L) (m : Nat) (e : L[m]? = some (i, .row k cs)) (hk : k.own = true) (ho : o < cs.length) (hK : ∀ σ', Has σ' (L.set m (i, .row k (cs.set o v))) → K σ') : put1 σ ⟨i, o, none⟩ v K := by
  unfold put1
  exact rowAt_mk h m e (chk_mk hk (req_mk rfl (req_mk ho (hK _ (h.upd m e _)))))
theorem newAt_mk {K : Nat → AS → Prop} {x : AObj} (h : Has σ L) (hK : ∀ j σ', Has σ' ((j, x) :: L) → K j σ') : newAt σ x K := hK _ _ (h.new x)
theorem mget_mk {K : Option Value → Prop} {d : TypeDesc} {kv : Value} {es : List MapEntry} {c : Nat} {x : Option (Nat × Value)} (h : Has σ L) (m : Nat) (e : L[m]? = some (i, .map es c)) (hx : Instr.findNow d kv es 0 = some x) (hK : K (x.map (·.2))) : mget σ d (some i) kv K := by
  unfold mget AS.ents
  simp only
  rw [h.at m e]
  simp only [pSome]
  rw [hx]
  exact hK
theorem Has.del (h : Has σ L) (m : Nat) {x : AObj} (e : L[m]? = some (i, x)) : Has (σ.del i) (L.eraseIdx m) := by
  have hs : (L.eraseIdx m).Sublist L := List.eraseIdx_sublist ..
  refine ⟨(hs.map _).nodup h.1, fun p hp => ?_⟩
  have hp' := hs.subset hp
  rw [AS.del_ne, h.2 p hp']
  intro hpi
  obtain ⟨q, hq⟩ := List.getElem?_of_mem hp
  rw [List.getElem?_eraseIdx] at hq
  split at hq
  · rename_i hlt
    have h1 : (L.map (·.1))[q]? = some i := by rw [List.getElem?_map, hq, ← hpi]; rfl
    have h2 : (L.map (·.1))[m]? = some i := by rw [List.getElem?_map, e]; rfl
    exact absurd (nodup_inj h.1 h1 h2) (by omega)
  · rename_i hlt
    have h1 : (L.map (·.1))[q + 1]? = some i := by rw [List.getElem?_map, hq, ← hpi]; rfl
    have h2 : (L.map (·.1))[m]? = some i := by rw [List.getElem?_map, e]; rfl
    exact absurd (nodup_inj h.1 h1 h2) (by omega)
theorem append_nil_mk {size bytes m : Nat} {new : List Value} {K : Sl → AS → Prop} (h : Has σ L) (hb : (m + 1) * bytes ≤ 140737488355328) (hK : ∀ j σ', Has σ' ((j, .row .rw new) :: L) → K ⟨some ⟨j, 0, none⟩, m + 1⟩ σ') :
    appendTo σ size bytes ⟨none, 0⟩ new (m + 1) K := by
  unfold appendTo
  exact req_mk (by simpa using hb) (newAt_mk h hK)
theorem append_mk {size bytes m : Nat} {new : List Value} {K : Sl → AS → Prop} (h : Has σ L) (q : Nat) (e : L[q]? = some (i, .row k cs)) (hk : k.own = true) (hb : (n + m) * bytes ≤ 140737488355328) (hl : n * size ≤ cs.length)
    (hK : ∀ j σ', Has σ' ((j, .row .rw (cs.take (n * size) ++ new)) :: L.eraseIdx q) → K ⟨some ⟨j, 0, none⟩, n + m⟩ σ') : appendTo σ size bytes ⟨some ⟨i, 0, none⟩, n⟩ new m K := by
  unfold appendTo
  refine req_mk hb ?_
  simp only
  refine rowAt_mk h q e (chk_mk hk (req_mk (by simp) (req_mk (by simpa using hl) ?_)))
  have hn : (σ.del i).n = σ.n := by
    have := h.lt q e
    show Nat.max σ.n (i + 1) = σ.n
    exact Nat.max_eq_left this
  have := (h.del q e).new (.row .rw (cs.take (n * size) ++ new))
  rw [hn] at this
  simpa using hK _ _ this
theorem mset_new_mk {K : AS → Prop} {d : TypeDesc} {kv v : Value} {es : List MapEntry} {c : Nat} (h : Has σ L) (m : Nat) (e : L[m]? = some (i, .map es c)) (hx : Instr.findNow d kv es 0 = some none)
    (hK : ∀ σ', Has σ' (L.set m (i, .map (es ++ [{ key := kv, val := v, born := c }]) (c + 1))) → K σ') : mset σ d i kv v K := by
  unfold mset
  refine mapAt_mk h m e (pSome_mk hx ?_)
  exact hK _ (h.upd m e _)
theorem mdel_mk {K : AS → Prop} {d : TypeDesc} {kv v : Value} {es : List MapEntry} {c j : Nat} (h : Has σ L) (m : Nat) (e : L[m]? = some (i, .map es c)) (hx : Instr.findNow d kv es 0 = some (some (j, v)))
    (hK : ∀ σ', Has σ' (L.set m (i, .map (es.eraseIdx j) c)) → K σ') : mdel σ d i kv K := by
  unfold mdel
  refine mapAt_mk h m e (pSome_mk hx ?_)
  exact hK _ (h.upd m e _)
-- the words at what is known (for 'simp only': nothing else is opened)
theorem tI_int (k : IntKind) (n : Int) (K : Int → Prop) : tI k (.int k n) K = K n := by simp [tI, ikEq_refl, chk]
theorem tB_bool (b : Bool) (K : Bool → Prop) : tB (.bool b) K = K b := rfl
theorem tP_ptr (b : Option Addr) (K : Option Addr → Prop) : tP (.pointer b) K = K b := rfl
theorem tM_map (b : Option Nat) (K : Option Nat → Prop) : tM (.map b) K = K b := rfl
theorem tS_str (b : ByteArray) (K : ByteArray → Prop) : tS (.string b) K = K b := rfl
theorem tTup_tup (l : List Value) (K : List Value → Prop) : tTup (.tuple ⟨l⟩) K = K l := rfl
theorem tL_sl (a : Option Addr) (n e : Nat) (K : Sl → Prop) : tL e (.slice a n e) K = K ⟨a, n⟩ := by simp [tL, chk, nilOr]
theorem tL_nil (e f : Nat) (n : Nat) (K : Sl → Prop) : tL e (.slice none n f) K = K ⟨none, n⟩ := by
  cases h : Nat.beq f e <;> simp [tL, nilOr, h, chk]
theorem tIf_if (t : TypeId) (u : Value) (A : TypeId → Value → Prop) (B : Prop) : tIf (.iface t u) A B = A t u := rfl
theorem pSome_some {α : Type} (a : α) (K : α → Prop) : pSome (some a) K = K a := rfl
theorem chk_true (K : Prop) : chk true K = K := rfl
theorem bm_true (A B : Prop) : bmatch true A B = A := rfl
theorem bm_false (A B : Prop) : bmatch false A B = B := rfl
theorem ptrEq_some (σ : AS) (a : Addr) (K : Bool → Prop) : ptrEq σ (some a) none K = K false := rfl
theorem ptrEq_none (σ : AS) (K : Bool → Prop) : ptrEq σ none none K = K true := rfl
theorem setCells_eq : ∀ (vs cs : List Value) (o : Nat), o + vs.length ≤ cs.length → setCells cs o vs = cs.take o ++ vs ++ cs.drop (o + vs.length)
  | [], cs, o, h => by simp [setCells]
  | v :: vs, cs, o, h => by
    simp only [List.length_cons] at h
    have ho : o < cs.length := by omega
    unfold setCells
    rw [setCells_eq vs (cs.set o v) (o + 1) (by simp; omega)]
    have e1 : (cs.set o v).take (o + 1) = cs.take o ++ [v] := by
      rw [List.take_add_one]
      simp [List.take_set_of_le, ho]
    have e2 : (cs.set o v).drop (o + 1 + vs.length) = cs.drop (o + (vs.length + 1)) := by
      rw [List.drop_set_of_lt (by omega)]
      congr 1
      omega
    rw [e1, e2]
    simp
theorem puts_mk {K : AS → Prop} {vs : List Value} (h : Has σ L) (m : Nat) (e : L[m]? = some (i, .row k cs)) (hk : k.own = true) (ho : o + vs.length ≤ cs.length) (hK : ∀ σ', Has σ' (L.set m (i, .row k (cs.take o ++ vs ++ cs.drop (o + vs.length)))) → K σ') : puts σ ⟨i, o, none⟩ vs K := by
  unfold puts
  refine rowAt_mk h m e (chk_mk hk (req_mk rfl (req_mk ho ?_)))
  rw [setCells_eq vs cs o ho]
  exact hK _ (h.upd m e _)
/-- A slice of numbers reads so. -/
def Rd (σ : AS) (k : IntKind) (a : Option Addr) (o e : Nat) (xs : List Int) : Prop :=
  xs = [] ∨ ∃ r q cs, a = some ⟨r, o, none⟩ ∧ e = 1 ∧ σ r = some (.row q cs) ∧ ∀ (i : Nat) v, xs[i]? = some v → cs[o + i]? = some (.int k v)
end
end Go.AI
