/- Lemmas of the abstract condition ahead of code (a part of the library that the claim's proof stands on); they hold with no condition but those that each names. -/
import Derived.Test.YtlofpopejkohbaaGreatAIQ
set_option linter.unusedSimpArgs false
set_option linter.unusedVariables false
namespace Go.AI
section
variable {P : Program} {w : World} {ρ : RM} {σ : AS} {K : Value → Prop}

theorem q_mk {s : Sem Value} {v cv : Value} (h : s.run P w = .ok cv w) (r : VRel ρ v cv) (k : K v) : QOk P w ρ s K := ⟨v, cv, h, r, k⟩

theorem q_int {op : BinOp} {k k' : IntKind} {a b : Int} {t : TypeId} (h : aInt op k a k' b K) : QOk P w ρ (binOp op t (.int k a) (.int k' b)) K := by
  unfold aInt at h
  cases op with
  | shl =>
    obtain ⟨h0, h⟩ := req_elim h
    exact q_mk (by simp [binOp, Op.shift, show ¬ b < 0 by omega, ishl]) (.int _ _) h
  | shr =>
    obtain ⟨h0, h⟩ := req_elim h
    exact q_mk (by simp [binOp, Op.shift, show ¬ b < 0 by omega, ishr]) (.int _ _) h
  | add | sub | mul | quo | rem | and | or | xor | andNot | eql | neq | lss | leq | gtr | geq =>
    cases e : ikEq k k' with
    | false => simp only [e] at h
    | true =>
      simp only [e] at h
      have := ikEq_eq e
      subst this
      first
        | exact q_mk (by simp [binOp, Op.intArith, Op.intBits, Op.intCmp, iand, ior, ixor, iandn]) (.int _ _) h
        | exact q_mk (by simp [binOp, Op.intArith, Op.intBits, Op.intCmp]) (.bool _) h
        | (obtain ⟨h0, h⟩ := req_elim h; exact q_mk (by simp [binOp, Op.intDiv, h0]) (.int _ _) h)

theorem q_str {op : BinOp} {a b : ByteArray} {t : TypeId} (h : aStr op a b K) : QOk P w ρ (binOp op t (.string a) (.string b)) K := by
  unfold aStr at h
  cases op with
  | add =>
    obtain ⟨h0, h⟩ := req_elim h
    refine q_mk ?_ (.str _) h
    have : ¬ (((a.size + b.size : Nat) : Int) > IntKind.i64.max) := by
      have : IntKind.i64.max = 9223372036854775807 := rfl
      omega
    simp only [binOp, Op.stringOp]
    rw [if_neg this]
    rfl
  | eql | neq | lss | leq | gtr | geq => exact q_mk (by simp [binOp, Op.stringOp, strEq, strLt]) (.bool _) h
  | _ => exact h.elim

theorem q_not {op : BinOp} {b : Bool} (h : aNot op b K) : (op = .eql ∧ K (.bool b)) ∨ (op = .neq ∧ K (.bool (!b))) := by
  unfold aNot at h
  cases op <;> first | exact .inl ⟨rfl, h⟩ | exact .inr ⟨rfl, h⟩ | exact h.elim

/-- '==' and '!=' by what 'equal' answers. -/
theorem q_eq {op : BinOp} {t : TypeId} {x y : Value} {b : Bool} (hbin : op = .eql ∨ op = .neq → binOp op t x y = (match op with | .eql => (do pure (.bool (← Op.equal t x y))) | _ => (do pure (.bool (!(← Op.equal t x y))))))
    (he : (Op.equal t x y).run P w = .ok b w) (h : aNot op b K) : QOk P w ρ (binOp op t x y) K := by
  rcases q_not h with ⟨rfl, h⟩ | ⟨rfl, h⟩
  · exact q_mk (by rw [hbin (.inl rfl)]; simp [he]) (.bool _) h
  · exact q_mk (by rw [hbin (.inr rfl)]; simp [he]) (.bool _) h

section
variable {t : TypeId} (d : Nat)
theorem eqn_bool (hu : P.underlying t = some .bool) (a b : Bool) : (Op.equalIn (d + 1) t (.bool a) (.bool b)).run P w = .ok (a == b) w := by simp [Op.equalIn, run_underlying hu]
theorem eqn_pnn {e : TypeId} (hu : P.underlying t = some (.pointer e)) : (Op.equalIn (d + 1) t (.pointer none) (.pointer none)).run P w = .ok true w := by simp [Op.equalIn, run_underlying hu]
theorem eqn_pns {e : TypeId} (hu : P.underlying t = some (.pointer e)) (a : Addr) : (Op.equalIn (d + 1) t (.pointer none) (.pointer (some a))).run P w = .ok false w := by simp [Op.equalIn, run_underlying hu]
theorem eqn_psn {e : TypeId} (hu : P.underlying t = some (.pointer e)) (a : Addr) : (Op.equalIn (d + 1) t (.pointer (some a)) (.pointer none)).run P w = .ok false w := by simp [Op.equalIn, run_underlying hu]
theorem eqn_pss {e : TypeId} (hu : P.underlying t = some (.pointer e)) (a b : Addr) {n : Nat} (hs : (sizeOf e).run P w = .ok n w) (hn : n ≠ 0) {r : Bool} (hr : (sameAddr a b).run P w = .ok r w) :
    (Op.equalIn (d + 1) t (.pointer (some a)) (.pointer (some b))).run P w = .ok r w := by simp [Op.equalIn, run_underlying hu, hs, hn, hr]
theorem eqn_snn {e : TypeId} (hu : P.underlying t = some (.slice e)) (a b c f : Nat) : (Op.equalIn (d + 1) t (.slice none a b) (.slice none c f)).run P w = .ok true w := by simp [Op.equalIn, run_underlying hu]
theorem eqn_ssn {e : TypeId} (hu : P.underlying t = some (.slice e)) (x : Addr) (a b c f : Nat) : (Op.equalIn (d + 1) t (.slice (some x) a b) (.slice none c f)).run P w = .ok false w := by simp [Op.equalIn, run_underlying hu]
theorem eqn_mnn {e f : TypeId} (hu : P.underlying t = some (.map e f)) : (Op.equalIn (d + 1) t (.map none) (.map none)).run P w = .ok true w := by simp [Op.equalIn, run_underlying hu]
theorem eqn_msn {e f : TypeId} (hu : P.underlying t = some (.map e f)) (x : Nat) : (Op.equalIn (d + 1) t (.map (some x)) (.map none)).run P w = .ok false w := by simp [Op.equalIn, run_underlying hu]
theorem eqn_inn {ms : Array (String × TypeId)} (hu : P.underlying t = some (.interface ms)) : (Op.equalIn (d + 1) t .nilIface .nilIface).run P w = .ok true w := by simp [Op.equalIn, run_underlying hu]
theorem eqn_isn {ms : Array (String × TypeId)} (hu : P.underlying t = some (.interface ms)) (u : TypeId) (v : Value) : (Op.equalIn (d + 1) t (.iface u v) .nilIface).run P w = .ok false w := by simp [Op.equalIn, run_underlying hu]
theorem eqn_fnn {a b : Array TypeId} {c : Bool} (hu : P.underlying t = some (.func a b c)) : (Op.equalIn (d + 1) t .nilFunc .nilFunc).run P w = .ok true w := by simp [Op.equalIn, run_underlying hu]
theorem eqn_fsn {a b : Array TypeId} {c : Bool} (hu : P.underlying t = some (.func a b c)) (f : Fn) (x y : Array Value) : (Op.equalIn (d + 1) t (.func f x y) .nilFunc).run P w = .ok false w := by simp [Op.equalIn, run_underlying hu]
end

theorem row_of_plain {i : Nat} (h : σ.plain i) : ∃ cs, σ i = some (.row .plain cs) := by
  unfold AS.plain AS.plainB at h
  split at h
  · exact ⟨_, ‹_›⟩
  · cases h

theorem sameAddr_plain {w : World} {b b' o o' : Nat} {c c' : Array Value} {e e' : TypeId} (h : w.heap[b]? = some (.cells c e (0, 0))) (h' : w.heap[b']? = some (.cells c' e' (0, 0))) (hne : b ≠ b') :
    (sameAddr ⟨b, o, none⟩ ⟨b', o', none⟩).run P w = .ok false w := by
  have hf : ∀ o, w.frozen? ⟨b, o, none⟩ = false := fun o => by simp [World.frozen?, h]
  have hf' : ∀ o, w.frozen? ⟨b', o, none⟩ = false := fun o => by simp [World.frozen?, h']
  have hs : w.shape? b = some (e, c.size) := by simp [World.shape?, h]
  have hs' : w.shape? b' = some (e', c'.size) := by simp [World.shape?, h']
  simp [sameAddr, hne, hf, hf', noView, viewAt, hs, hs', mayBeOne, stringish]

theorem q_ptr (s : Sim ρ w.heap σ) {op : BinOp} {a b : Option Addr} {ca cb : Value} {t e : TypeId} (hu : P.underlying t = some (.pointer e)) (hz : Nat.beq (szOf P e) 0 = false)
    (ra : VRel ρ (.pointer a) ca) (rb : VRel ρ (.pointer b) cb) (h : ptrEq σ a b fun r => aNot op r K) : QOk P w ρ (binOp op t ca cb) K := by
  have hsz : ∀ d, P.underlying e = some d → (sizeOf e).run P w = .ok (szOf P e) w := fun d hd => run_sizeOf hd w
  have hne : szOf P e ≠ 0 := by intro h; rw [h] at hz; cases hz
  have hi : ∃ i, P.info? e = some i := by
    cases hi : P.info? e with
    | none => exact absurd (by simp [szOf, hi]) hne
    | some i => exact ⟨i, rfl⟩
  have hsz : (sizeOf e).run P w = .ok (szOf P e) w := by
    obtain ⟨i, hi⟩ := hi
    simp [sizeOf, typeInfo, hi, szOf]
  unfold ptrEq at h
  cases rb with
  | nilptr =>
    cases ra with
    | nilptr => exact q_eq (b := true) (fun h => by rcases h with rfl | rfl <;> rfl) (eqn_pnn 9999 hu) h
    | ptr h1 => exact q_eq (b := false) (fun h => by rcases h with rfl | rfl <;> rfl) (eqn_psn 9999 hu _) h
  | ptr hb =>
    rename_i ib ob lb
    cases ra with
    | nilptr => exact q_eq (b := false) (fun h => by rcases h with rfl | rfl <;> rfl) (eqn_pns 9999 hu _) h
    | ptr ha =>
      rename_i ia oa la
      obtain ⟨_, _, h⟩ := req2_elim h
      simp only at h
      split at h
      · rename_i heq
        subst heq
        rw [ha] at hb
        injection hb with hb
        subst hb
        refine q_eq (b := decide (oa = ob)) (fun h => by rcases h with rfl | rfl <;> rfl) ?_ h
        have : (({ block := la.block, off := oa + la.shift } : Addr) == { block := la.block, off := ob + la.shift }) = decide (oa = ob) := by
          rw [Bool.eq_iff_iff]; simp
        exact eqn_pss 9999 hu _ _ hsz hne (by simp [sameAddr, this])
      · rename_i hneq
        obtain ⟨p1, p2, h⟩ := req2_elim h
        obtain ⟨cs1, hc1⟩ := row_of_plain p1
        obtain ⟨cs2, hc2⟩ := row_of_plain p2
        obtain ⟨l1, e1, c1, el1, fz1, f1, _, _, _, g1⟩ := s.obj _ _ hc1
        obtain ⟨l2, e2, c2, el2, fz2, f2, _, _, _, g2⟩ := s.obj _ _ hc2
        rw [ha] at e1; injection e1 with e1; subst e1
        rw [hb] at e2; injection e2 with e2; subst e2
        have g1 : fz1 = (0, 0) := g1.1
        have g2 : fz2 = (0, 0) := g2.1
        subst g1; subst g2
        have hbl := s.inj _ _ _ _ _ _ hneq hc1 hc2 ha hb rfl rfl
        refine q_eq (b := false) (fun h => by rcases h with rfl | rfl <;> rfl) ?_ h
        exact eqn_pss 9999 hu _ _ hsz hne (sameAddr_plain f1 f2 hbl)

theorem run_eqC {d : Nat} {t : TypeId} {cxs cys : List Value} {xs ys : List Value} {o : Nat} {b : Bool} (rx : VsRel ρ xs cxs) (ry : VsRel ρ ys cys) (h : eqC P t xs[o]? ys[o]? = some b) :
    (do Op.equalIn (d + 1) t (← part t ⟨cxs⟩ o) (← part t ⟨cys⟩ o) : Sem Bool).run P w = .ok b w := by
  unfold eqC at h
  split at h
  · rename_i k0 k a k' b' hu hx hy
    split at h
    · rename_i hk
      obtain ⟨c1, e1, r1⟩ := rx.get hx
      obtain ⟨c2, e2, r2⟩ := ry.get hy
      cases r1; cases r2
      have hagg := run_isAgg hu w
      have : isAggT P t = false := by simp [isAggT, hu]
      rw [this] at hagg
      injection h with h
      subst h
      have := ikEq_eq hk
      subst this
      simp [part, hagg, e1, e2, Op.equalIn, run_underlying hu]
    · cases h
  · rename_i a b' hu hx hy
    obtain ⟨c1, e1, r1⟩ := rx.get hx
    obtain ⟨c2, e2, r2⟩ := ry.get hy
    cases r1; cases r2
    have hagg := run_isAgg hu w
    have : isAggT P t = false := by simp [isAggT, hu]
    rw [this] at hagg
    injection h with h
    subst h
    simp [part, hagg, e1, e2, Op.equalIn, run_underlying hu]
  · cases h

theorem run_eqL {d : Nat} {cxs cys : List Value} {xs ys : List Value} (rx : VsRel ρ xs cxs) (ry : VsRel ρ ys cys) : ∀ (fs : List Field) {b : Bool}, eqF P fs xs ys = some b →
    ((Sem.run P (forIn fs ((none, ()) : Option Bool × Unit) fun f __s =>
      if f.name ≠ "_" then do
        if (!(← Op.equalIn (d + 1) f.type (← part f.type ⟨cxs⟩ f.offset) (← part f.type ⟨cys⟩ f.offset))) = true then pure (ForInStep.done (some false, ()))
          else pure (ForInStep.yield (none, ()))
      else pure (ForInStep.yield (none, ()))) w).andThen fun a w' => Sem.run P (match a.fst with | some r => pure r | none => pure true) w') = .ok b w
  | [], b, h => by
    injection h with h
    subst h
    simp
  | f :: fs, b, h => by
    unfold eqF at h
    split at h
    · rename_i a b' hn hc hr
      injection h with h
      subst h
      have hcell := run_eqC (P := P) (w := w) (d := d) rx ry hc
      have ih := run_eqL (d := d) rx ry fs hr
      have hn' : f.name ≠ "_" := by simpa using hn
      simp only [Sem.run_bind] at hcell
      rw [List.forIn_cons]
      rw [if_pos hn']
      simp only [Sem.run_bind]
      cases hx : Sem.run P (part f.type { toList := cxs } f.offset) w with
      | ok v1 w1 =>
        rw [hx] at hcell
        simp only [Result.andThen_ok] at hcell ⊢
        cases hy : Sem.run P (part f.type { toList := cys } f.offset) w1 with
        | ok v2 w2 =>
          rw [hy] at hcell
          simp only [Result.andThen_ok] at hcell ⊢
          rw [hcell]
          simp only [Result.andThen_ok]
          cases a with
          | false => simp
          | true =>
            simp only [Bool.not_true, Bool.false_eq_true, if_false, Sem.run_pure, Result.andThen_ok, Bool.true_and]
            exact ih
        | _ => rw [hy] at hcell; cases hcell
      | _ => rw [hx] at hcell; cases hcell
    · cases h

theorem run_eqS {d : Nat} {t : TypeId} {fs : Array Field} {cxs cys : List Value} {xs ys : List Value} {b : Bool} (hu : P.underlying t = some (.struct fs)) (hs : P.stoodInHeld t = false)
    (rx : VsRel ρ xs cxs) (ry : VsRel ρ ys cys) (h : eqF P fs.toList xs ys = some b) :
    (Op.equalIn (d + 2) t (.agg ⟨cxs⟩) (.agg ⟨cys⟩)).run P w = .ok b w := by
  obtain ⟨fs⟩ := fs
  unfold Op.equalIn
  simp only [Sem.run_bind, run_underlying hu, Result.andThen_ok, run_program, hs, Bool.false_eq_true, if_false, List.forIn_toArray]
  refine Eq.trans ?_ (run_eqL (P := P) (w := w) (d := d) rx ry fs h)
  congr 1
  funext a w2
  cases a.fst <;> rfl
theorem eqGuard_agg {op : BinOp} {t : TypeId} {x y : Operand} {a b : Array Value} (hg : P.eqGuardType P.depth t = false) : (eqGuard op t x y (.agg a) (.agg b)).run P w = .ok () w := by
  unfold eqGuard
  cases op <;> simp [hg]

theorem q_bin (s : Sim ρ w.heap σ) {op : BinOp} {t : TypeId} {ev : Operand → Option Value} {ce : Operand → Value} (he : ∀ x v, ev x = some v → VRel ρ v (ce x)) {x y : Operand}
    {yc : Bool} (hc : yc = true → ∃ c, y = .const c) (h : aBin P op t (ev x) (ev y) yc σ K) :
    QOk P w ρ (do eqGuard op t x y (ce x) (ce y); binOp op t (ce x) (ce y)) K := by
  -- the guard at '==' has no part but where two nil interface values meet
  have guard : ∀ (Q : Value → Prop), (ce x = .nilIface → ce y = .nilIface → ∃ c, y = .const c) → ((∃ l, ce x = .agg l) → False) → QOk P w ρ (binOp op t (ce x) (ce y)) Q → QOk P w ρ (do eqGuard op t x y (ce x) (ce y); binOp op t (ce x) (ce y)) Q := by
    intro Q hnil hagg ⟨v, cv, h1, h2, h3⟩
    refine ⟨v, cv, ?_, h2, h3⟩
    have hg : (eqGuard op t x y (ce x) (ce y)).run P w = .ok () w := by
      unfold eqGuard
      cases hx : ce x with
      | nilIface =>
        cases hy : ce y with
        | nilIface =>
          obtain ⟨c, rfl⟩ := hnil hx hy
          cases op <;> simp
        | _ => cases op <;> simp
      | agg l => exact (hagg ⟨l, hx⟩).elim
      | _ => cases op <;> simp
    simp only [Sem.run_bind, hg, Result.andThen_ok]
    exact h1
  have guard' : ∀ (Q : Value → Prop) {cx cy : Value}, ce x = cx → ce y = cy → (cx = .nilIface → ∃ c, y = .const c) → (∀ l, cx ≠ .agg l) → QOk P w ρ (binOp op t cx cy) Q → QOk P w ρ (do eqGuard op t x y cx cy; binOp op t cx cy) Q := by
    intro Q cx cy hx hy h1 h2 h3
    subst hx; subst hy
    exact guard Q (fun h _ => h1 h) (fun ⟨l, h⟩ => h2 l h) h3
  unfold aBin at h
  cases ex : ev x with
  | none => simp [ex] at h
  | some v =>
    cases ey : ev y with
    | none => cases v <;> simp [ex, ey] at h
    | some u =>
      have rx := he x v ex
      have ry := he y u ey
      rw [ex, ey] at h
      cases v with
      | int k a =>
        cases u <;> simp only at h <;> first | exact h.elim | skip
        · generalize ce x = cx at *; generalize ce y = cy at *
          cases rx; cases ry
          exact guard _ (fun h => by cases h) (fun ⟨_, h⟩ => by cases h) (q_int h)
        · split at h <;> first | exact h.elim | (have := (chk_elim h).1; simp [isFn] at this)
        · split at h <;> first | exact h.elim | (cases yc <;> first | exact h.elim | (have := (chk_elim h).1; simp [isIf] at this))
      | string a =>
        cases u <;> simp only at h <;> first | exact h.elim | skip
        · generalize ce x = cx at *; generalize ce y = cy at *
          cases rx; cases ry
          exact guard _ (fun h => by cases h) (fun ⟨_, h⟩ => by cases h) (q_str h)
        · split at h <;> first | exact h.elim | (have := (chk_elim h).1; simp [isFn] at this)
        · split at h <;> first | exact h.elim | (cases yc <;> first | exact h.elim | (have := (chk_elim h).1; simp [isIf] at this))
      | bool a =>
        cases u <;> simp only at h <;> first | exact h.elim | skip
        · split at h <;> first | exact h.elim | skip
          rename_i hu
          generalize ce x = cx at *; generalize ce y = cy at *
          cases rx; cases ry
          exact guard _ (fun h => by cases h) (fun ⟨_, h⟩ => by cases h) (q_eq (fun h => by rcases h with rfl | rfl <;> rfl) (eqn_bool 9999 hu _ _) h)
        · split at h <;> first | exact h.elim | (have := (chk_elim h).1; simp [isFn] at this)
        · split at h <;> first | exact h.elim | (cases yc <;> first | exact h.elim | (have := (chk_elim h).1; simp [isIf] at this))
      | pointer a =>
        cases u <;> simp only at h <;> first | exact h.elim | skip
        · split at h <;> first | exact h.elim | skip
          rename_i e hu
          cases hz : Nat.beq (szOf P e) 0 with
          | true => rw [hz] at h; exact h.elim
          | false =>
            rw [hz] at h
            refine guard _ (fun h => ?_) (fun ⟨_, h⟩ => ?_) (q_ptr s hu hz rx ry h)
            · generalize ce x = cx at *; cases rx <;> cases h
            · generalize ce x = cx at *; cases rx <;> cases h
        · split at h <;> first | exact h.elim | (have := (chk_elim h).1; simp [isFn] at this)
        · split at h <;> first | exact h.elim | (cases yc <;> first | exact h.elim | (have := (chk_elim h).1; simp [isIf] at this))
      | slice a n c =>
        cases u <;> simp only at h <;> first | exact h.elim | skip
        · rename_i a' n' c'
          cases a' with
          | some _ => exact h.elim
          | none =>
            simp only at h
            split at h <;> first | exact h.elim | skip
            rename_i e hu
            generalize ce x = cx at *; generalize ce y = cy at *
            cases ry
            cases rx with
            | nilslice => exact guard _ (fun h => by cases h) (fun ⟨_, h⟩ => by cases h) (q_eq (fun h => by rcases h with rfl | rfl <;> rfl) (eqn_snn 9999 hu _ _ _ _) h)
            | slice => exact guard _ (fun h => by cases h) (fun ⟨_, h⟩ => by cases h) (q_eq (fun h => by rcases h with rfl | rfl <;> rfl) (eqn_ssn 9999 hu _ _ _ _ _) h)
            | emp => exact guard _ (fun h => by cases h) (fun ⟨_, h⟩ => by cases h) (q_eq (fun h => by rcases h with rfl | rfl <;> rfl) (eqn_ssn 9999 hu _ _ _ _ _) h)
        · split at h <;> first | exact h.elim | (have := (chk_elim h).1; simp [isFn] at this)
        · split at h <;> first | exact h.elim | (cases yc <;> first | exact h.elim | (have := (chk_elim h).1; simp [isIf] at this))
      | map a =>
        cases u <;> simp only at h <;> first | exact h.elim | skip
        · rename_i a'
          cases a' with
          | some _ => exact h.elim
          | none =>
            simp only at h
            split at h <;> first | exact h.elim | skip
            rename_i e1 e2 hu
            generalize ce x = cx at *; generalize ce y = cy at *
            cases ry
            cases rx with
            | nilmap => exact guard _ (fun h => by cases h) (fun ⟨_, h⟩ => by cases h) (q_eq (fun h => by rcases h with rfl | rfl <;> rfl) (eqn_mnn 9999 hu) h)
            | map => exact guard _ (fun h => by cases h) (fun ⟨_, h⟩ => by cases h) (q_eq (fun h => by rcases h with rfl | rfl <;> rfl) (eqn_msn 9999 hu _) h)
        · split at h <;> first | exact h.elim | (have := (chk_elim h).1; simp [isFn] at this)
        · split at h <;> first | exact h.elim | (cases yc <;> first | exact h.elim | (have := (chk_elim h).1; simp [isIf] at this))
      | agg xs =>
        cases u <;> simp only at h <;> first | exact h.elim | skip
        · split at h <;> first | exact h.elim | (have := (chk_elim h).1; simp [isFn] at this)
        · split at h <;> first | exact h.elim | (cases yc <;> first | exact h.elim | (have := (chk_elim h).1; simp [isIf] at this))
        · rename_i ys
          split at h <;> first | exact h.elim | skip
          rename_i fs hu
          obtain ⟨h1, hk1⟩ := chk_elim h
          obtain ⟨h2, hk2⟩ := chk_elim hk1
          obtain ⟨r, h3, hk3⟩ := pSome_elim hk2
          clear h hk1 hk2
          generalize ce x = cx at *; generalize ce y = cy at *
          cases rx with
          | agg rx1 o1 =>
            cases ry with
            | agg ry1 o2 =>
              have hs : P.stoodInHeld t = false := by simpa using h1
              have hg : P.eqGuardType P.depth t = false := by simpa using h2
              have he := run_eqS (P := P) (w := w) (d := 9998) hu hs rx1 ry1 h3
              have hq : QOk P w ρ (binOp op t _ _) K := q_eq (fun h => by rcases h with rfl | rfl <;> rfl) he hk3
              obtain ⟨v, cv, g1, g2, g3⟩ := hq
              refine ⟨v, cv, ?_, g2, g3⟩
              simp only [Sem.run_bind, eqGuard_agg hg, Result.andThen_ok]
              exact g1
      | _ =>
        cases u <;> simp only at h <;> first | exact h.elim | skip
        all_goals (split at h <;> first | exact h.elim | skip)
        all_goals
          rename_i hu
          first
            | (cases yc with
               | false => exact h.elim
               | true =>
                 have h1 := (chk_elim h).1
                 replace h := (chk_elim h).2
                 first
                   | (exfalso; simp [isIf] at h1; done)
                   | (generalize hcx : ce x = cx at rx ⊢; generalize hcy : ce y = cy at ry ⊢
                      cases ry
                      cases rx
                      exact guard' _ hcx hcy (fun _ => hc rfl) (fun _ h => by cases h) (q_eq (fun h => by rcases h with rfl | rfl <;> rfl) (by first | exact eqn_isn 9999 hu _ _ | exact eqn_fsn 9999 hu _ _ _ | exact eqn_fnn 9999 hu | exact eqn_inn 9999 hu) h)))
            | (have h1 := (chk_elim h).1
               replace h := (chk_elim h).2
               first
                   | (exfalso; simp [isFn] at h1; done)
                   | (generalize hcx : ce x = cx at rx ⊢; generalize hcy : ce y = cy at ry ⊢
                      cases ry
                      cases rx
                      exact guard' _ hcx hcy (fun h => by cases h) (fun _ h => by cases h) (q_eq (fun h => by rcases h with rfl | rfl <;> rfl) (by first | exact eqn_isn 9999 hu _ _ | exact eqn_fsn 9999 hu _ _ _ | exact eqn_fnn 9999 hu | exact eqn_inn 9999 hu) h)))
end
end Go.AI
