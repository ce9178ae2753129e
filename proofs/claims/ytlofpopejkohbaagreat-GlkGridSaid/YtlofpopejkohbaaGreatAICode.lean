/- Lemmas of the abstract condition ahead of code (a part of the library that the claim's proof stands on); they hold with no condition but those that each names. -/
import Derived.Test.YtlofpopejkohbaaGreatAIDraw6
import Derived.Calls
set_option linter.unusedSimpArgs false
set_option linter.unusedVariables false
/- Code: what is asked of the place ahead of it. -/
namespace Go.AI

inductive AX where
  | normal
  | exit (id : Nat)
  | ret

def AX.toExit : AX → Exit
  | .normal => .normal
  | .exit id => .exit id
  | .ret => .ret

/-- Hints, in the shape of the code: which temporaries a join keeps; the orders of a region that draws. -/
inductive Hint where
  | zH
  | sH (a b : Hint)
  | jH (keys : List Nat) (a b : Hint)
  | kH (keys : List Nat) (a b : Hint)
  | bH (a : Hint)
  | cS (a b : Hint)
  | lH (keys : List Nat) (a : Hint)
  | dH (ms L : List Nat)
  | dS (ms L : List Nat)
  | dG (ms L : List Nat)
  | dT (t : DT)
  | rS

def Hint.fst : Hint → Hint
  | .sH a _ => a
  | .jH _ a _ => a
  | .kH _ a _ => a
  | .bH a => a
  | .cS a _ => a
  | .lH _ a => a
  | _ => .zH
def Hint.snd : Hint → Hint
  | .sH _ b => b
  | .cS _ b => b
  | .jH _ _ b => b
  | .kH _ _ b => b
  | _ => .zH

/-- A parting of ways; soft: both ways are left to be shown. -/
def softC (h : Hint) (t : Bool) (A B : Prop) : Prop :=
  match h with
  | .cS _ _ => (t = true → A) ∧ (t = false → B)
  | _ => bmatch t A B
theorem softC_true {h : Hint} {A B : Prop} (x : softC h true A B) : A := by
  unfold softC at x
  split at x
  · exact x.1 rfl
  · exact x
theorem softC_false {h : Hint} {A B : Prop} (x : softC h false A B) : B := by
  unfold softC at x
  split at x
  · exact x.2 rfl
  · exact x
def Hint.soft : Hint → Bool
  | .rS => true
  | _ => false
def pickR : List Nat → Regs → Regs
  | [], _ => []
  | k :: ks, r => (k, rget r k) :: pickR ks r
/-- A join that stays shut: what stands behind it is looked at by its place. -/
structure JoinS (K : Regs → AS → Prop) (r : Regs) (σ : AS) : Prop where
  h : K r σ
def joinR (h : Hint) (K : Regs → AS → Prop) (r : Regs) (σ : AS) : Prop :=
  match h with
  | .jH ks _ _ => K (pickR ks r) σ
  | .kH ks _ _ => JoinS K (pickR ks r) σ
  | _ => K r σ

abbrev AK := AX → Regs → AS → Prop
def thenK (next : Regs → AS → Prop) (Q : AK) : AK
  | .normal, r, σ => next r σ
  | .exit id, r, σ => Q (.exit id) r σ
  | .ret, r, σ => Q .ret r σ
def blockK (id : Nat) (Q : AK) : AK
  | .normal, r, σ => Q .normal r σ
  | .exit j, r, σ => match Nat.beq j id with | true => Q .normal r σ | false => Q (.exit j) r σ
  | .ret, r, σ => Q .ret r σ

/-- The least condition that holds where its round leads to it. -/
def ALoop (F : (Regs → AS → Prop) → Regs → AS → Prop) (r : Regs) (σ : AS) : Prop :=
  ∀ X : Regs → AS → Prop, (∀ r σ, F X r σ → X r σ) → X r σ

/-- So many rounds of a loop at most. -/
def LoopN (F : (Regs → AS → Prop) → Regs → AS → Prop) : Nat → Regs → AS → Prop
  | 0, _, _ => False
  | n + 1, r, σ => F (LoopN F n) r σ
def aLoop (lf : Option Nat) (F : (Regs → AS → Prop) → Regs → AS → Prop) (r : Regs) (σ : AS) : Prop :=
  match lf with
  | none => ALoop F r σ
  | some n => LoopN F n r σ

def loopKeys : Hint → List Nat
  | .lH ks _ => ks
  | _ => []

def aw (P : Program) (T : Ct) (lf : Option Nat) (N : Nat) : Hint → Code → AK → Regs → AS → Prop
  | _, .skip, Q, r, σ => Q .normal r σ
  | h, .region _ ops draw, Q, r, σ => match draw with
    | false => vcOps P h.soft T N ops.toList ops.toList (Q .normal) r σ
    | true => match h with
      | .dH ms L => vcDraw P (false, false) T N ops.toList ms L (Q .normal) r σ
      | .dS ms L => vcDraw P (true, false) T N ops.toList ms L (Q .normal) r σ
      | .dG ms L => vcDraw P (true, true) T N ops.toList ms L (Q .normal) r σ
      | .dT t => vcDT P (true, false) T N (Q .normal) r σ t ops
      | _ => False
  | h, .seq a b, Q, r, σ => aw P T lf N h.fst a (thenK (joinR h (aw P T lf N h.snd b Q)) Q) r σ
  | h, .cond c a b, Q, r, σ => match aev r c with
    | some (.bool t) => softC h t (aw P T lf N h.fst a Q r σ) (aw P T lf N h.snd b Q r σ)
    | _ => False
  | h, .block id b, Q, r, σ => aw P T lf N h.fst b (blockK id Q) r σ
  | h, .loop b, Q, r, σ => aLoop lf (fun X r σ => aw P T lf N h.fst b (thenK (fun r σ => X (pickR (loopKeys h) r) σ) Q) r σ) (pickR (loopKeys h) r) σ
  | _, .exit id, Q, r, σ => Q (.exit id) r σ
  | _, .ret, Q, r, σ => Q .ret r σ
  | _, _, _, _, _ => False

def argRegs : Nat → List Value → Regs
  | _, [] => []
  | i, v :: l => (i, some v) :: argRegs (i + 1) l

def aRes (P : Program) (r : Regs) (σ : AS) : List ResultVar → (List Value → Prop) → Prop
  | [], K => K []
  | .tmp t :: l, K => pSome (rget r t) fun v => aRes P r σ l fun vs => K (v :: vs)
  | .cell a t :: l, K => match rget r a with
    | some (.pointer o) => pSome o fun p => aLoad P t p σ fun v => aRes P r σ l fun vs => K (v :: vs)
    | _ => False
def oneK (vs : List Value) (K : Value → Prop) : Prop :=
  match vs with
  | [v] => K v
  | vs => K (.tuple ⟨vs⟩)
def retK (P : Program) (rs : List ResultVar) (K : Value → AS → Prop) : AK
  | .normal, r, σ => aRes P r σ rs fun vs => oneK vs fun v => K v σ
  | .ret, r, σ => aRes P r σ rs fun vs => oneK vs fun v => K v σ
  | .exit _, _, _ => False

section
variable {T : Ct} {lf : Option Nat} {P : Program} {N : Nat}

theorem rget_pickR {r : Regs} {t : Nat} {v : Value} : ∀ {ks : List Nat}, rget (pickR ks r) t = some v → rget r t = some v
  | [], h => by cases h
  | k :: ks, h => by
    unfold pickR at h
    rw [rget_cons] at h
    split at h
    · rename_i e; subst e; exact h
    · exact rget_pickR h
theorem RRel.pick {ρ : RM} {r : Regs} {tmps : Array Value} (rr : RRel ρ r tmps) (ks : List Nat) : RRel ρ (pickR ks r) tmps :=
  fun t v h => rr t v (rget_pickR h)

/-- A loop, at its head. -/
def LoopWp (P : Program) (c : Code) (Q : Exit → Act → World → Prop) (a : Act) (w : World) : Prop :=
  ∀ (b : Frame) (k : List Item) (cs : List Frame), ∃ e a' w', Q e a' w' ∧ Arrives P (lone (b.at a (.code c :: .inLoop c :: k)) cs w) b k cs e a' w'

theorem LoopWp.wp {c : Code} {Q : Exit → Act → World → Prop} {a : Act} {w : World} (h : LoopWp P c Q a w) : (Code.loop c).wp P Q a w := by
  intro b k cs
  obtain ⟨e, a', w', hq, harr⟩ := h b k cs
  exact ⟨e, a', w', hq, .of_steps (.one step_loop) harr⟩

theorem LoopWp.round {c : Code} {Q : Exit → Act → World → Prop} {a : Act} {w : World} (h : c.wp P (Exit.then (LoopWp P c Q) Q) a w) : LoopWp P c Q a w := by
  intro b k cs
  obtain ⟨e, a₁, w₁, hq, harr⟩ := h b (.inLoop c :: k) cs
  cases e with
  | normal =>
    obtain ⟨e₂, a₂, w₂, hq₂, harr₂⟩ := hq b k cs
    exact ⟨e₂, a₂, w₂, hq₂, .of_steps (Steps.trans harr (.one step_inLoop)) harr₂⟩
  | exit id => exact ⟨_, a₁, w₁, hq, .pass (x := .inLoop c) rfl (fun _ _ => .inl (by simp)) harr⟩
  | goto l => exact ⟨_, a₁, w₁, hq, .pass (x := .inLoop c) rfl (fun _ _ => .inl (by simp)) harr⟩
  | ret => exact ⟨_, a₁, w₁, hq, .pass (x := .inLoop c) rfl (fun _ _ => .inl (by simp)) harr⟩
  | panic ch => exact ⟨_, a₁, w₁, hq, .pass (x := .inLoop c) rfl (fun _ _ => .inl (by simp)) harr⟩
  | outgrown => exact ⟨_, a₁, w₁, hq, .pass (x := .inLoop c) rfl (fun _ _ => .inl (by simp)) harr⟩

theorem Beh.after {ρ ρ1 : RM} {w w1 : World} {σ σ1 : AS} {K : Regs → AS → Prop} {a' : Act} {w' : World} (st : Step ρ w σ ρ1 w1 σ1) (h : Beh N ρ1 w1 σ1 K a' w') : Beh N ρ w σ K a' w' := by
  obtain ⟨ρ2, r2, σ2, h1, h2, h3, h4, h5, h6⟩ := h
  exact ⟨ρ2, r2, σ2, h1, h2, h3, st.trans h4, h5, h6⟩

/-- A machine that stands to the abstract place. -/
structure At (N : Nat) (ρ : RM) (r : Regs) (σ : AS) (a : Act) (w : World) : Prop where
  sim : Sim ρ w.heap σ
  regs : RRel ρ r a.tmps
  tmps : a.tmps.size = N
  defers : a.defers = []

theorem aw_sound (hT : ∀ f args σ K, T f args σ K → Tri P f args σ K) (hmix : P.follows .mixedOrders = true) : ∀ (c : Code) (h : Hint) (Q : AK) (r : Regs) (σ : AS) (ρ : RM) (a : Act) (w : World) (QQ : Exit → Act → World → Prop), aw P T lf N h c Q r σ → At N ρ r σ a w →
    (∀ x a' w', Beh N ρ w σ (Q x) a' w' → QQ x.toExit a' w') → c.wp P QQ a w := by
  intro c
  induction c with
  | skip =>
    intro h Q r σ ρ a w QQ hv at' hQ
    unfold aw at hv
    exact wp_skip (hQ .normal a w ⟨ρ, r, σ, hv, at'.regs, at'.sim, .refl _ _ _, at'.tmps, at'.defers⟩)
  | region id ops draw =>
    intro h Q r σ ρ a w QQ hv at' hQ
    unfold aw at hv
    cases draw with
    | false =>
      simp only at hv
      exact wp_region_list (vcOps_sound hT ops.toList ρ r σ a w hv at'.sim at'.regs at'.tmps at'.defers fun a' w' hb => hQ .normal a' w' hb)
    | true =>
      simp only at hv
      split at hv
      · exact vcDraw_sound hT hmix hv at'.sim at'.regs at'.tmps at'.defers fun a' w' hb => hQ .normal a' w' hb
      · exact vcDraw_sound hT hmix hv at'.sim at'.regs at'.tmps at'.defers fun a' w' hb => hQ .normal a' w' hb
      · exact vcDraw_sound hT hmix hv at'.sim at'.regs at'.tmps at'.defers fun a' w' hb => hQ .normal a' w' hb
      · exact vcDT_sound hT hmix hv at'.sim at'.regs at'.tmps at'.defers fun a' w' hb => hQ .normal a' w' hb
      · exact hv.elim
  | seq x y ihx ihy =>
    intro h Q r σ ρ a w QQ hv at' hQ
    unfold aw at hv
    refine wp_seq (ihx h.fst _ r σ ρ a w _ hv at' ?_)
    intro x' a' w' hb
    cases x' with
    | normal =>
      show y.wp P QQ a' w'
      obtain ⟨ρ1, r1, σ1, h1, h2, h3, h4, h5, h6⟩ := hb
      have go : ∀ r1, aw P T lf N h.snd y Q r1 σ1 → RRel ρ1 r1 a'.tmps → y.wp P QQ a' w' := fun r1 h1 h2 =>
        ihy h.snd Q r1 σ1 ρ1 a' w' QQ h1 ⟨h3, h2, h5, h6⟩ fun x a'' w'' hb => hQ x a'' w'' (hb.after h4)
      unfold thenK joinR at h1
      simp only at h1
      split at h1
      · exact go _ h1 (h2.pick _)
      · exact go _ h1.h (h2.pick _)
      · exact go _ h1 h2
    | exit id => exact hQ (.exit id) a' w' hb
    | ret => exact hQ .ret a' w' hb
  | cond c x y ihx ihy =>
    intro h Q r σ ρ a w QQ hv at' hQ
    unfold aw at hv
    split at hv
    · rename_i t ht
      have hc := aev_rel at'.regs c _ ht
      cases hcv : a.eval c <;> rw [hcv] at hc <;> cases hc
      cases t with
      | true => exact wp_cond_true hcv (ihx h.fst Q r σ ρ a w QQ (softC_true hv) at' hQ)
      | false => exact wp_cond_false hcv (ihy h.snd Q r σ ρ a w QQ (softC_false hv) at' hQ)
    · exact hv.elim
  | block id b ih =>
    intro h Q r σ ρ a w QQ hv at' hQ
    unfold aw at hv
    refine wp_block (ih h.fst _ r σ ρ a w _ hv at' ?_)
    intro x a' w' hb
    cases x with
    | normal => exact hQ .normal a' w' hb
    | exit j =>
      show (if j = id then QQ .normal a' w' else QQ (.exit j) a' w')
      obtain ⟨ρ1, r1, σ1, h1, h2⟩ := hb
      unfold blockK at h1
      simp only at h1
      split at h1
      · rename_i e
        rw [if_pos (Nat.eq_of_beq_eq_true e)]
        exact hQ .normal a' w' ⟨ρ1, r1, σ1, h1, h2⟩
      · rename_i e
        rw [if_neg (fun e' => by subst e'; rw [Nat.beq_refl] at e; cases e)]
        exact hQ (.exit j) a' w' ⟨ρ1, r1, σ1, h1, h2⟩
    | ret => exact hQ .ret a' w' hb
  | loop b ih =>
    intro h Q r σ ρ a w QQ hv at' hQ
    unfold aw at hv
    -- one round
    have round : ∀ (X : Regs → AS → Prop) (r : Regs) (σ : AS) (ρ : RM) (a : Act) (w : World), (∀ r σ, X r σ → ∀ ρ a w, At N ρ r σ a w → (∀ x a' w', Beh N ρ w σ (Q x) a' w' → QQ x.toExit a' w') → LoopWp P b QQ a w) →
        aw P T lf N h.fst b (thenK (fun r σ => X (pickR (loopKeys h) r) σ) Q) r σ → At N ρ r σ a w → (∀ x a' w', Beh N ρ w σ (Q x) a' w' → QQ x.toExit a' w') → LoopWp P b QQ a w := by
      intro X r σ ρ a w hX hF at' hQ
      refine LoopWp.round (ih h.fst _ r σ ρ a w _ hF at' ?_)
      intro x a' w' hb
      cases x with
      | normal =>
        obtain ⟨ρ1, r1, σ1, h1, h2, h3, h4, h5, h6⟩ := hb
        exact hX _ _ h1 ρ1 a' w' ⟨h3, h2.pick _, h5, h6⟩ fun x a'' w'' hb => hQ x a'' w'' (hb.after h4)
      | exit id => exact hQ (.exit id) a' w' hb
      | ret => exact hQ .ret a' w' hb
    unfold aLoop at hv
    refine LoopWp.wp ?_
    split at hv
    · have key := hv (fun r σ => ∀ ρ a w, At N ρ r σ a w → (∀ x a' w', Beh N ρ w σ (Q x) a' w' → QQ x.toExit a' w') → LoopWp P b QQ a w) ?_
      · exact key ρ a w ⟨at'.sim, at'.regs.pick _, at'.tmps, at'.defers⟩ hQ
      · intro r σ hF ρ a w at' hQ
        exact round _ r σ ρ a w (fun r σ h => h) hF at' hQ
    · rename_i n0
      have key : ∀ (n : Nat) (r : Regs) (σ : AS), LoopN (fun X r σ => aw P T (some n0) N h.fst b (thenK (fun r σ => X (pickR (loopKeys h) r) σ) Q) r σ) n r σ → ∀ ρ a w, At N ρ r σ a w → (∀ x a' w', Beh N ρ w σ (Q x) a' w' → QQ x.toExit a' w') → LoopWp P b QQ a w := by
        intro m
        induction m with
        | zero => intro r σ h; exact h.elim
        | succ m ih => intro r σ h ρ a w at' hQ; exact round _ r σ ρ a w ih h at' hQ
      exact key n0 _ _ hv ρ a w ⟨at'.sim, at'.regs.pick _, at'.tmps, at'.defers⟩ hQ
  | exit id =>
    intro h Q r σ ρ a w QQ hv at' hQ
    unfold aw at hv
    exact wp_exit (hQ (.exit id) a w ⟨ρ, r, σ, hv, at'.regs, at'.sim, .refl _ _ _, at'.tmps, at'.defers⟩)
  | ret =>
    intro h Q r σ ρ a w QQ hv at' hQ
    unfold aw at hv
    exact wp_ret (hQ .ret a w ⟨ρ, r, σ, hv, at'.regs, at'.sim, .refl _ _ _, at'.tmps, at'.defers⟩)
  | rangeFunc => intro h Q r σ ρ a w QQ hv; exact hv.elim
  | scope => intro h Q r σ ρ a w QQ hv; exact hv.elim
  | label => intro h Q r σ ρ a w QQ hv; exact hv.elim
  | goto => intro h Q r σ ρ a w QQ hv; exact hv.elim
  | refuse => intro h Q r σ ρ a w QQ hv; exact hv.elim

theorem aRes_sound {ρ : RM} {σ : AS} {r : Regs} {a : Act} {w : World} (s : Sim ρ w.heap σ) (rr : RRel ρ r a.tmps) : ∀ (rs : List ResultVar) (K : List Value → Prop), aRes P r σ rs K →
    ∃ vs cvs, ((rs.mapM fun (x : ResultVar) => (match x with | .tmp t => pure (a.tmps.getD t undef) | .cell y t => do loadVar t (← asAddr (a.tmps.getD y undef)) : Sem Value)) : Sem (List Value)).run P w = .ok cvs w ∧ VsRel ρ vs cvs ∧ K vs
  | [], K, h => ⟨[], [], by simp [List.mapM_nil], .nil, h⟩
  | .tmp t :: l, K, h => by
    unfold aRes at h
    obtain ⟨v, h1, h⟩ := pSome_elim h
    obtain ⟨vs, cvs, h2, h3, h4⟩ := aRes_sound s rr l _ h
    obtain ⟨cv, h5, h6⟩ := rr t v h1
    have : a.tmps.getD t undef = cv := by rw [Array.getD_eq_getD_getElem?, h5]; rfl
    refine ⟨v :: vs, cv :: cvs, ?_, .cons h6 h3, h4⟩
    simp only [List.mapM_cons, Sem.run_bind, Sem.run_pure, Result.andThen_ok, this, h2]
  | .cell y t :: l, K, h => by
    unfold aRes at h
    split at h
    · rename_i o ho
      obtain ⟨p, rfl, h⟩ := pSome_elim h
      obtain ⟨cv, h5, h6⟩ := rr y _ ho
      obtain ⟨v, cu, h7, h8, h9⟩ := q_load (P := P) s h6 h
      obtain ⟨vs, cvs, h2, h3, h4⟩ := aRes_sound s rr l _ h9
      have e : a.tmps.getD y undef = cv := by rw [Array.getD_eq_getD_getElem?, h5]; rfl
      obtain ⟨hsp, x, hx, rfl⟩ := ptr_elim h6
      have hA : ∀ q, asAddr (.pointer (some q)) = pure q := fun _ => rfl
      refine ⟨v :: vs, cu :: cvs, ?_, .cons h8 h3, h4⟩
      simp only [Instr.loadAt, Instr.sureAddr, Sem.run_bind, Sem.run_pure, Result.andThen_ok] at h7
      simp only [List.mapM_cons, Sem.run_bind, Sem.run_pure, Result.andThen_ok, e, hA, h7, h2]
    · exact h.elim

theorem regs_args {ρ : RM} {n : Nat} : ∀ {args cargs : List Value}, VsRel ρ args cargs → ∀ (pre : List Value), RRel ρ (argRegs pre.length args) ⟨pre ++ cargs ++ List.replicate n undef⟩ := by
  intro args
  induction args with
  | nil => intro cargs hv pre t v h; cases h
  | cons x l ih =>
    intro cargs hv pre t v h
    cases hv with
    | cons hx hl =>
      rename_i cx cl
      unfold argRegs at h
      rw [rget_cons] at h
      split at h
      · rename_i e
        subst e
        injection h with h
        subst h
        exact ⟨cx, by simp, hx⟩
      · have := ih hl (pre ++ [cx]) t v (by simpa using h)
        simpa using this

/-- A call, from the condition ahead of the body. -/
theorem tri_of_aw (hT : ∀ f args σ K, T f args σ K → Tri P f args σ K) {f : FuncId} {fn : Func} {c : Code} {args : List Value} {σ : AS} {K : Value → AS → Prop} {h : Hint} (hmix : P.follows .mixedOrders = true) (hf : P.funcs[f]? = some fn) (hb : fn.body = some c)
    (hcall : ∀ args w, (callFunc f args).run P w = .ok (.enter f args) w) (hn : fn.ntmps = N) (hl : Nat.ble args.length N = true) (hv : aw P T lf N h c (retK P fn.results.toList K) (argRegs 0 args) σ) : Tri P f args σ K := by
  refine ⟨fun ρ w cargs ha hs => ⟨_, w, hcall _ _, ?_⟩⟩
  have hlen : cargs.length = args.length := by
    exact (VsRel.length ha).symm
  have hle : cargs.length ≤ N := by rw [hlen]; exact Nat.le_of_ble_eq_true hl
  refine calls_of_wp hf hb (aw_sound hT hmix c h _ _ σ ρ _ w _ hv ⟨hs, ?_, ?_, rfl⟩ ?_)
  · have := regs_args (n := fn.ntmps - cargs.length) ha []
    have e : (⟨cargs⟩ : Array Value) ++ Array.replicate (fn.ntmps - cargs.length) undef = ⟨[] ++ cargs ++ List.replicate (fn.ntmps - cargs.length) undef⟩ := Array.ext' (by simp)
    show RRel ρ (argRegs 0 args) ((⟨cargs⟩ : Array Value) ++ Array.replicate (fn.ntmps - cargs.length) undef)
    rw [e]
    exact this
  · simp [hn]; omega
  · have fin : ∀ a' w', Beh N ρ w σ (fun r σ => aRes P r σ fn.results.toList fun vs => oneK vs fun v => K v σ) a' w' → a'.defers = [] ∧ ∃ v, (results fn a'.tmps).run P w' = .ok v w' ∧ ∃ cv, Ending.returned v = .returned cv ∧ ∃ v ρ' σ', K v σ' ∧ VRel ρ' v cv ∧ Sim ρ' w'.heap σ' ∧ Step ρ w σ ρ' w' σ' := by
      rintro a' w' ⟨ρ1, r1, σ1, h1, h2, h3, h4, h5, h6⟩
      obtain ⟨vs, cvs, h7, h8, h9⟩ := aRes_sound (a := a') h3 h2 _ _ h1
      refine ⟨h6, ?_⟩
      have hr : (results fn a'.tmps).run P w' = .ok (if h : (⟨cvs⟩ : Array Value).size = 1 then (⟨cvs⟩ : Array Value)[0] else .tuple ⟨cvs⟩) w' := by
        unfold results
        simp only [Sem.run_bind, Sem.run_pure, Array.mapM_eq_mapM_toList, map_eq_pure_bind, Result.andThen_ok]
        have h7' := h7
        first | rw [h7'] | (erw [h7'])
        rfl
      refine ⟨_, hr, _, rfl, ?_⟩
      cases h8 with
      | nil => exact ⟨_, ρ1, σ1, h9, .tuple .nil, h3, h4⟩
      | cons hx hl =>
        cases hl with
        | nil => exact ⟨_, ρ1, σ1, h9, hx, h3, h4⟩
        | cons hy hl => exact ⟨_, ρ1, σ1, h9, .tuple (.cons hx (.cons hy hl)), h3, h4⟩
    intro x a' w' hb
    cases x with
    | normal => exact fin a' w' hb
    | ret => exact fin a' w' hb
    | exit id =>
      obtain ⟨_, _, _, h1, _⟩ := hb
      exact h1.elim
end
end Go.AI
