/- Lemmas of the abstract condition ahead of code (a part of the library that the claim's proof stands on); they hold with no condition but those that each names. -/
import Derived.Test.YtlofpopejkohbaaGreatAIDraw2
set_option linter.unusedSimpArgs false
set_option linter.unusedVariables false
/- Regions that draw their order: the asked-for condition. -/
namespace Go.AI

/-- Which operation writes a temporary. -/
def wrt (t : Nat) : Nat → List Oper → Option Nat
  | _, [] => none
  | i, o :: r => match o.dst with
    | some d => match Nat.beq d t with | true => some i | false => wrt t (i + 1) r
    | none => wrt t (i + 1) r

/-- An operand of operation i, by the values that the operations yielded (V) and the registers ahead of the region (r0). -/
def evD (ops : List Oper) (ms : List Nat) (i : Nat) (V r0 : Regs) : Operand → Option Value
  | .tmp t => match wrt t 0 ops with
    | none => rget r0 t
    | some j => match mbit (nth ms i) j with
      | true => rget V j
      | false => match mbit (mins j (nth ms j)) i with
        | true => rget r0 t
        | false => none
  | .const c => aev r0 (.const c)
  | .func f => aev r0 (.func f)
  | .global g => aev r0 (.global g)

def gsplit (sf : Bool) (ops : List Oper) (m : Nat) (V : Regs) (g : Option (Nat × Bool)) (run skip : Regs → Prop) : Prop :=
  match g with
  | none => run V
  | some (j, want) => match mbit m j with
    | false => False
    | true => match dstAt ops j with
      | none => False
      | some _ => match rget V j with
        | some (.bool b) => gm sf b
            (match want with | true => run ((j, some (.bool true)) :: V) | false => skip ((j, some (.bool true)) :: V))
            (match want with | false => run ((j, some (.bool false)) :: V) | true => skip ((j, some (.bool false)) :: V))
        | some (.tuple l) => (match l.toList with | [] => skip V | _ => False)
        | _ => False

def onat (a b : Option Nat) (K : Prop) : Prop := match a, b with
  | none, none => K
  | some a, some b => req (a = b) K
  | _, _ => False
def oaddr (a b : Option Addr) (K : Prop) : Prop := match a, b with
  | none, none => K
  | some a, some b => req (a.block = b.block) <| req (a.off = b.off) <| req (a.spot = none) <| req (b.spot = none) K
  | _, _ => False
def lchk (f : Value → Value → Prop → Prop) : List Value → List Value → Prop → Prop
  | [], [], K => K
  | a :: l, b :: m, K => f a b (lchk f l m K)
  | _, _, _ => False
/-- The same value. -/
def vchk : Nat → Value → Value → Prop → Prop
  | 0, v, u, K => v = u ∧ K
  | m + 1, v, u, K => match v, u with
    | .int k a, .int k' b => chk (ikEq k k') <| req (a = b) K
    | .bool a, .bool b => req (a = b) K
    | .string a, .string b => req (a.data.toList = b.data.toList) K
    | .pointer a, .pointer b => oaddr a b K
    | .map a, .map b => onat a b K
    | .slice a n c, .slice b m d => req (n = m) <| req (c = d) <| oaddr a b K
    | .iface t a, .iface s b => req (t = s) <| vchk m a b K
    | .agg a, .agg b => lchk (vchk m) a.toList b.toList K
    | .tuple a, .tuple b => lchk (vchk m) a.toList b.toList K
    | .nilFunc, .nilFunc => K
    | .nilIface, .nilIface => K
    | v, u => v = u ∧ K
theorem onat_elim {a b : Option Nat} {K : Prop} (h : onat a b K) : a = b ∧ K := by
  unfold onat at h
  split at h
  · exact ⟨rfl, h⟩
  · obtain ⟨h1, h2⟩ := req_elim h
    exact ⟨by rw [h1], h2⟩
  · exact h.elim
theorem oaddr_elim {a b : Option Addr} {K : Prop} (h : oaddr a b K) : a = b ∧ K := by
  unfold oaddr at h
  split at h
  · exact ⟨rfl, h⟩
  · obtain ⟨h1, h2, h3, h4, h5⟩ := req4_elim h
    rename_i x y
    cases x; cases y
    simp only at h1 h2 h3 h4
    subst h1; subst h2; subst h3; subst h4
    exact ⟨rfl, h5⟩
  · exact h.elim
theorem lchk_elim {f : Value → Value → Prop → Prop} (hf : ∀ a b K, f a b K → a = b ∧ K) : ∀ {l m : List Value} {K : Prop}, lchk f l m K → l = m ∧ K
  | [], [], K, h => ⟨rfl, h⟩
  | a :: l, b :: m, K, h => by
    obtain ⟨h1, h⟩ := hf _ _ _ h
    obtain ⟨h2, h⟩ := lchk_elim hf h
    exact ⟨by rw [h1, h2], h⟩
  | [], _ :: _, K, h => h.elim
  | _ :: _, [], K, h => h.elim
theorem vchk_elim : ∀ {m : Nat} {v u : Value} {K : Prop}, vchk m v u K → v = u ∧ K
  | 0, v, u, K, h => h
  | m + 1, v, u, K, h => by
    unfold vchk at h
    split at h
    · obtain ⟨h1, h⟩ := chk_elim h
      obtain ⟨h2, h⟩ := req_elim h
      exact ⟨by rw [ikEq_eq h1, h2], h⟩
    · obtain ⟨h2, h⟩ := req_elim h
      exact ⟨by rw [h2], h⟩
    · rename_i a b
      obtain ⟨h2, h⟩ := req_elim h
      refine ⟨?_, h⟩
      have : a = b := by
        cases a; cases b
        exact congrArg ByteArray.mk (Array.ext' h2)
      rw [this]
    · obtain ⟨h1, h⟩ := oaddr_elim h
      exact ⟨by rw [h1], h⟩
    · obtain ⟨h1, h⟩ := onat_elim h
      exact ⟨by rw [h1], h⟩
    · obtain ⟨h1, h2, h⟩ := req2_elim h
      obtain ⟨h3, h⟩ := oaddr_elim h
      exact ⟨by rw [h1, h2, h3], h⟩
    · obtain ⟨h1, h⟩ := req_elim h
      obtain ⟨h2, h⟩ := vchk_elim h
      exact ⟨by rw [h1, h2], h⟩
    · obtain ⟨h1, h⟩ := lchk_elim (fun a b K h => vchk_elim h) h
      exact ⟨by rw [Array.ext' h1], h⟩
    · obtain ⟨h1, h⟩ := lchk_elim (fun a b K h => vchk_elim h) h
      exact ⟨by rw [Array.ext' h1], h⟩
    · exact ⟨rfl, h⟩
    · exact ⟨rfl, h⟩
    · exact h
/-- The same as before; sf: as an equation that is left to be shown. -/
def vsame (sf : Bool) (x : Option Value) (u : Value) (K : Prop) : Prop := match x with | some v => (match sf with | false => vchk 4 v u K | true => v = u ∧ K) | none => False
theorem vsame_elim {sf : Bool} {v u : Value} {K : Prop} (h : vsame sf (some v) u K) : v = u ∧ K := by
  unfold vsame at h
  cases sf with
  | false => exact vchk_elim h
  | true => exact h

/-- Looked at once more. -/
def rchk (P : Program) (sf : Bool × Bool) (ops : List Oper) (ms : List Nat) (r0 : Regs) (σ : AS) : List Nat → Regs → (Regs → Prop) → Prop
  | [], V, K => K V
  | j :: l, V, K => match ops[j]? with
    | none => False
    | some o => gsplit sf.2 ops (nth ms j) V o.guard (fun V => aQ P o.op o.type (evD ops ms j V r0) σ fun u => vsame sf.1 (rget V j) u (rchk P sf ops ms r0 σ l V K)) (fun V => rchk P sf ops ms r0 σ l V K)

def keepL (m : Nat) : List Nat → List Nat
  | [] => []
  | j :: l => match mbit m j with | true => keepL m l | false => j :: keepL m l
def addL (i : Nat) (b : Bool) (l : List Nat) : List Nat := match b with | true => i :: l | false => l

def finR (V r0 : Regs) : Nat → List Oper → Regs
  | _, [] => r0
  | i, o :: r => rput (finR V r0 (i + 1) r) o.dst (rget V i)

def vcL (P : Program) (sf : Bool × Bool) (T : Ct) (ops : List Oper) (ms : List Nat) (r0 : Regs) (K : Regs → AS → Prop) : List Nat → List Nat → Regs → AS → Prop
  | [], live, V, σ => K (finR V r0 0 ops) σ
  | i :: rest, live, V, σ => match ops[i]? with
    | none => False
    | some o => match isC o.op with
      | false => gsplit sf.2 ops (nth ms i) V o.guard
          (fun V => aQ P o.op o.type (evD ops ms i V r0) σ fun v => vcL P sf T ops ms r0 K rest (addL i (rdH o.op) live) ((i, some v) :: V) σ)
          (fun V => vcL P sf T ops ms r0 K rest (addL i (rdH o.op) live) ((i, some uV) :: V) σ)
      | true => gsplit sf.2 ops (nth ms i) V o.guard
          (fun V => aC P T o.op o.type (evD ops ms i V r0) σ fun v σ => rchk P sf ops ms r0 σ (keepL (nth ms i) live) ((i, v) :: V) fun V => vcL P sf T ops ms r0 K rest (keepL (nth ms i) live) V σ)
          (fun V => vcL P sf T ops ms r0 K rest (keepL (nth ms i) live) ((i, some uV) :: V) σ)

def othersWait (ms : List Nat) (D c : Nat) : Nat → List Oper → Bool
  | _, [] => true
  | k, _ :: r => match Nat.beq k c with
    | true => othersWait ms D c (k + 1) r
    | false => match mbit D k with
      | true => othersWait ms D c (k + 1) r
      | false => match msub (nth ms k) D with
        | true => false
        | false => othersWait ms D c (k + 1) r
def allDone (D : Nat) : Nat → List Oper → Bool
  | _, [] => true
  | k, _ :: r => match mbit D k with | true => allDone D (k + 1) r | false => false
def canOk (ops : List Oper) (ms : List Nat) : List Nat → Nat → Bool
  | [], D => allDone D 0 ops
  | i :: rest, D => match ops[i]? with
    | none => false
    | some o => match msub (nth ms i) D with
      | false => false
      | true => match mbit D i with
        | true => false
        | false => match isC o.op with
          | false => canOk ops ms rest (mins i D)
          | true => match othersWait ms D i 0 ops with
            | true => canOk ops ms rest (mins i D)
            | false => false
def uniqOk (N : Nat) (all : List Oper) : Nat → List Oper → Bool
  | _, [] => true
  | i, o :: r => match o.dst with
    | none => uniqOk N all (i + 1) r
    | some d => match Nat.blt d N with
      | false => false
      | true => match wrt d 0 all with
        | none => false
        | some j => match Nat.beq i j with | true => uniqOk N all (i + 1) r | false => false
def dAll (N : Nat) (ops : List Oper) (ms L : List Nat) : Bool :=
  match maskOk ms 0 ops with
  | true => match uniqOk N ops 0 ops with
    | true => canOk ops ms L 0
    | false => false
  | false => false

/-- A region that draws its order; ms and L are hints. -/
def vcDraw (P : Program) (sf : Bool × Bool) (T : Ct) (N : Nat) (ops : List Oper) (ms L : List Nat) (K : Regs → AS → Prop) (r : Regs) (σ : AS) : Prop :=
  chk (dAll N ops ms L) (vcL P sf T ops ms r K L [] [] σ)

-- the static facts
theorem wrt_spec {t : Nat} : ∀ {l : List Oper} {i j : Nat}, wrt t i l = some j → ∃ k o, j = i + k ∧ l[k]? = some o ∧ o.dst = some t
  | [], i, j, h => by cases h
  | o :: r, i, j, h => by
    unfold wrt at h
    have more : wrt t (i + 1) r = some j → ∃ k o', j = i + k ∧ (o :: r)[k]? = some o' ∧ o'.dst = some t := fun h => by
      obtain ⟨k, o', h1, h2, h3⟩ := wrt_spec h
      exact ⟨k + 1, o', by omega, by simpa using h2, h3⟩
    split at h
    · rename_i d hd
      split at h
      · rename_i hb
        injection h with h
        exact ⟨0, o, by omega, rfl, by rw [hd, Nat.eq_of_beq_eq_true hb]⟩
      · exact more h
    · exact more h
theorem uniq_spec {N : Nat} {all : List Oper} : ∀ {l : List Oper} {i : Nat}, uniqOk N all i l = true → ∀ k o d, l[k]? = some o → o.dst = some d → d < N ∧ wrt d 0 all = some (i + k)
  | [], i, _ => by intro k o d h; simp at h
  | x :: r, i, h => by
    intro k o d ho hd
    have main : uniqOk N all (i + 1) r = true ∧ ∀ d, x.dst = some d → d < N ∧ wrt d 0 all = some i := by
      unfold uniqOk at h
      split at h
      · rename_i hn
        exact ⟨h, fun d hd => by rw [hn] at hd; cases hd⟩
      · rename_i d' hd'
        split at h
        · cases h
        · rename_i hlt
          split at h
          · cases h
          · rename_i j hj
            split at h
            · rename_i hb
              exact ⟨h, fun d hd => by
                rw [hd'] at hd
                injection hd with hd
                subst hd
                exact ⟨Nat.blt_eq.mp hlt, by rw [hj, Nat.eq_of_beq_eq_true hb]⟩⟩
            · cases h
    cases k with
    | zero =>
      simp at ho
      subst ho
      exact main.2 d hd
    | succ k =>
      have := uniq_spec main.1 k o d (by simpa using ho) hd
      rw [show i + 1 + k = i + (k + 1) by omega] at this
      exact this
theorem others_spec {ms : List Nat} {D c : Nat} : ∀ {l : List Oper} {i : Nat}, othersWait ms D c i l = true → ∀ k, k < l.length → i + k ≠ c → mbit D (i + k) = false → msub (nth ms (i + k)) D = false
  | [], i, _ => by intro k h; exact absurd h (Nat.not_lt_zero _)
  | x :: r, i, h => by
    intro k hk hne hD
    have main : othersWait ms D c (i + 1) r = true ∧ (i ≠ c → mbit D i = false → msub (nth ms i) D = false) := by
      unfold othersWait at h
      split at h
      · rename_i hb
        exact ⟨h, fun hne => absurd (Nat.eq_of_beq_eq_true hb) hne⟩
      · split at h
        · rename_i hd
          exact ⟨h, fun _ hd' => by rw [hd] at hd'; cases hd'⟩
        · split at h
          · cases h
          · rename_i hs
            exact ⟨h, fun _ _ => hs⟩
    cases k with
    | zero => exact main.2 hne hD
    | succ k =>
      rw [show i + (k + 1) = i + 1 + k by omega] at hne hD ⊢
      exact others_spec main.1 k (by simpa using hk) hne hD
theorem allDone_spec {D : Nat} : ∀ {l : List Oper} {i : Nat}, allDone D i l = true → ∀ k, k < l.length → mbit D (i + k) = true
  | [], i, _ => by intro k h; exact absurd h (Nat.not_lt_zero _)
  | x :: r, i, h => by
    intro k hk
    unfold allDone at h
    split at h
    · rename_i hd
      cases k with
      | zero => exact hd
      | succ k =>
        rw [show i + (k + 1) = i + 1 + k by omega]
        exact allDone_spec h k (by simpa using hk)
    · cases h
theorem rget_finR {V r0 : Regs} {t : Nat} : ∀ {l : List Oper} {i : Nat}, rget (finR V r0 i l) t = match wrt t i l with | some j => rget V j | none => rget r0 t
  | [], i => rfl
  | o :: r, i => by
    unfold finR wrt
    have ih := @rget_finR V r0 t r (i + 1)
    cases hd : o.dst with
    | none =>
      simp only [rput]
      exact ih
    | some d =>
      simp only [rput, rget]
      cases hb : Nat.beq d t with
      | true => rfl
      | false => exact ih
theorem mem_keepL {m j : Nat} : ∀ {l : List Nat}, j ∈ l → mbit m j = false → j ∈ keepL m l
  | k :: l, h, hb => by
    unfold keepL
    rcases List.mem_cons.1 h with rfl | h
    · rw [hb]; exact .head _
    · split
      · exact mem_keepL h hb
      · exact .tail _ (mem_keepL h hb)
end Go.AI
