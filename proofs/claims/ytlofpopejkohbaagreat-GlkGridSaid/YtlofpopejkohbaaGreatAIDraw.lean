/- Lemmas of the abstract condition ahead of code (a part of the library that the claim's proof stands on); they hold with no condition but those that each names. -/
import Derived.Test.YtlofpopejkohbaaGreatAIRegion
set_option linter.unusedSimpArgs false
set_option linter.unusedVariables false
/- A region that draws its order: looking operations as early as can be, each looked at again behind what may come ahead of it. -/
namespace Go.AI

-- looking is of one answer
def Lin {α : Type} (F : (α → Prop) → Prop) : Prop := ∀ K, F K → ∃ v, K v ∧ ∀ K', K' v → F K'

theorem Lin.pure {α : Type} (a : α) : Lin (fun K : α → Prop => K a) := fun K h => ⟨a, h, fun _ h => h⟩
theorem Lin.fls {α : Type} : Lin (fun _ : α → Prop => False) := fun _ h => h.elim
theorem Lin.bind {α β : Type} {F : (α → Prop) → Prop} {G : α → (β → Prop) → Prop} (hF : Lin F) (hG : ∀ a, Lin (G a)) : Lin (fun K : β → Prop => F fun a => G a K) := by
  intro K h
  obtain ⟨a, h1, h2⟩ := hF _ h
  obtain ⟨b, h3, h4⟩ := hG a _ h1
  exact ⟨b, h3, fun K' hk => h2 _ (h4 _ hk)⟩
theorem Lin.and {α : Type} {p : Prop} {F : (α → Prop) → Prop} (hF : Lin F) : Lin (fun K : α → Prop => p ∧ F K) := by
  intro K ⟨hp, h⟩
  obtain ⟨a, h1, h2⟩ := hF _ h
  exact ⟨a, h1, fun K' hk => ⟨hp, h2 _ hk⟩⟩
theorem Lin.pSome {α β : Type} {o : Option α} {G : α → (β → Prop) → Prop} (hG : ∀ a, Lin (G a)) : Lin (fun K : β → Prop => AI.pSome o fun a => G a K) := by
  cases o with
  | none => exact Lin.fls
  | some a => exact hG a
theorem Lin.chk {α : Type} {b : Bool} {F : (α → Prop) → Prop} (hF : Lin F) : Lin (fun K : α → Prop => AI.chk b (F K)) := by
  cases b with
  | true => exact hF
  | false => exact Lin.fls

theorem Lin.req {α : Type} {p : Prop} [Decidable p] {F : (α → Prop) → Prop} (hF : Lin F) : Lin (fun K : α → Prop => AI.req p (F K)) := by
  intro K h
  obtain ⟨hp, h⟩ := req_elim h
  obtain ⟨a, h1, h2⟩ := hF _ h
  exact ⟨a, h1, fun K' hk => req_mk hp (h2 _ hk)⟩

theorem lin_tV1 (k : Kd) (v : Value) : Lin (tV1 k v) := by
  cases k <;> cases v <;> first
    | exact Lin.fls
    | exact Lin.pure _
    | exact Lin.chk (Lin.pure _)
theorem lin_tC : ∀ (ks : List Kd) (l : List Value), Lin (tC ks l)
  | [], l => by
    cases l with
    | nil => exact Lin.pure []
    | cons => exact Lin.fls
  | k :: ks, l => by
    cases l with
    | nil => exact Lin.fls
    | cons v l => exact Lin.bind (F := tV1 k v) (G := fun u K => tC ks l fun vs => K (u :: vs)) (lin_tV1 k v) fun u => Lin.bind (F := tC ks l) (G := fun vs (K : List Value → Prop) => K (u :: vs)) (lin_tC ks l) fun vs => Lin.pure (u :: vs)
theorem lin_tV (k : KT) (v : Value) : Lin (tV k v) := by
  cases k with
  | one k => exact lin_tV1 k v
  | agg ks =>
    cases v <;> first | exact Lin.fls | skip
    exact Lin.bind (F := tC ks _) (G := fun vs (K : Value → Prop) => K (Value.agg ⟨vs⟩)) (lin_tC ks _) fun vs => Lin.pure (Value.agg ⟨vs⟩)

variable {P : Program}

theorem lin_aInt (op : BinOp) (k : IntKind) (a : Int) (k' : IntKind) (b : Int) : Lin (aInt op k a k' b) := by
  intro K h
  unfold aInt at h ⊢
  cases op <;> (try simp only at h ⊢) <;> first
    | exact Lin.req (Lin.pure _) K h
    | (cases e : ikEq k k' <;> rw [e] at h <;> first | exact h.elim | exact ⟨_, h, fun K' hk => hk⟩ | exact Lin.req (Lin.pure _) K h)
theorem lin_aStr (op : BinOp) (a b : ByteArray) : Lin (aStr op a b) := by
  intro K h
  unfold aStr at h ⊢
  cases op <;> (try simp only at h ⊢) <;> first
    | exact ⟨_, h, fun K' hk => hk⟩
    | exact Lin.req (Lin.pure _) K h
theorem lin_aNot (op : BinOp) (b : Bool) : Lin (aNot op b) := by
  intro K h
  unfold aNot at h ⊢
  cases op <;> (try simp only at h ⊢) <;> exact ⟨_, h, fun K' hk => hk⟩
theorem lin_ptrEq (σ : AS) (x y : Option Addr) : Lin (ptrEq σ x y) := by
  intro K h
  unfold ptrEq at h ⊢
  cases y with
  | none => exact ⟨_, h, fun K' hk => hk⟩
  | some b => cases x with
    | none => exact ⟨_, h, fun K' hk => hk⟩
    | some a =>
      obtain ⟨h1, h2, h3⟩ := req2_elim h
      split at h3
      · rename_i e
        exact ⟨_, h3, fun K' hk => req_mk h1 (req_mk h2 (by rw [if_pos e]; exact hk))⟩
      · rename_i e
        obtain ⟨h4, h5, h6⟩ := req2_elim h3
        exact ⟨_, h6, fun K' hk => req_mk h1 (req_mk h2 (by rw [if_neg e]; exact req_mk h4 (req_mk h5 hk)))⟩
theorem lin_aBin (op : BinOp) (t : TypeId) (x y : Option Value) (yc : Bool) (σ : AS) : Lin (aBin P op t x y yc σ) := by
  intro K h
  unfold aBin at h ⊢
  split at h <;> (try simp only at h ⊢)
  · exact lin_aInt _ _ _ _ _ K h
  · exact lin_aStr _ _ _ K h
  · split at h
    · exact lin_aNot _ _ K h
    · exact h.elim
  · split at h
    · rename_i e hu
      cases hz : Nat.beq (szOf P e) 0 with
      | true => rw [hz] at h; exact h.elim
      | false =>
        rw [hz] at h
        simp only
        exact Lin.bind (F := ptrEq σ _ _) (G := fun r => aNot op r) (lin_ptrEq σ _ _) (fun r => lin_aNot op r) K h
    · exact h.elim
  · split at h
    · exact lin_aNot _ _ K h
    · exact h.elim
  · split at h
    · exact lin_aNot _ _ K h
    · exact h.elim
  · split at h
    · exact Lin.chk (Lin.chk (Lin.pSome fun r => lin_aNot _ r)) K h
    · exact h.elim
  · split at h
    · cases yc with
      | true => exact Lin.chk (lin_aNot _ _) K h
      | false => exact h.elim
    · exact h.elim
  · split at h
    · exact Lin.chk (lin_aNot _ _) K h
    · exact h.elim
theorem lin_aUn (op : UnOp) (x : Option Value) : Lin (aUn op x) := by
  intro K h
  unfold aUn at h ⊢
  split at h <;> first | exact h.elim | exact ⟨_, h, fun K' hk => hk⟩
theorem lin_bts (σ : AS) (s : Sl) : Lin (bts σ s) := by
  unfold bts
  cases s.a with
  | none => exact Lin.pure []
  | some a => exact Lin.pSome (G := fun l (K : List UInt8 → Prop) => pSome (bytesOf? l) K) fun l => Lin.pSome (G := fun b (K : List UInt8 → Prop) => K b) fun b => Lin.pure b
theorem lin_aConv (s d : TypeId) (x : Option Value) (σ : AS) : Lin (aConv P s d x σ) := by
  intro K h
  unfold aConv at h ⊢
  split at h <;> (try simp only at h ⊢)
  · exact ⟨_, h, fun K' hk => hk⟩
  · exact ⟨_, h, fun K' hk => hk⟩
  · split at h
    · exact Lin.bind (F := bts σ _) (G := fun l (K : Value → Prop) => K (Value.string ⟨l.toArray⟩)) (lin_bts σ _) (fun l => Lin.pure _) K h
    · exact h.elim
theorem lin_oInt (ev : Operand → Option Value) (x : Option Operand) (d : Int) : Lin (oInt ev x d) := by
  intro K h
  unfold oInt at h ⊢
  cases x with
  | none => exact ⟨_, h, fun K' hk => hk⟩
  | some o =>
    simp only at h ⊢
    split at h
    · exact ⟨_, h, fun K' hk => hk⟩
    · exact h.elim
theorem lin_aSlice (σ : AS) (ev : Operand → Option Value) (t : TypeId) (x : Operand) (lo hi mx : Option Operand) : Lin (aSlice P σ ev t x lo hi mx) := by
  intro K h
  unfold aSlice at h ⊢
  split at h
  · obtain ⟨l, h, hl⟩ := lin_oInt ev lo 0 _ h
    obtain ⟨r, h, hr⟩ := lin_oInt ev hi _ _ h
    obtain ⟨h1, h2, h3, h⟩ := req3_elim h
    exact ⟨_, h, fun K' hk => hl _ (hr _ (req_mk h1 (req_mk h2 (req_mk h3 hk))))⟩
  · obtain ⟨l, h, hl⟩ := lin_oInt ev lo 0 _ h
    obtain ⟨r, h, hr⟩ := lin_oInt ev hi _ _ h
    obtain ⟨h1, h2, h3, h⟩ := req3_elim h
    obtain ⟨h4, h⟩ := chk_elim h
    obtain ⟨h5, h⟩ := chk_elim h
    exact ⟨_, h, fun K' hk => hl _ (hr _ (req_mk h1 (req_mk h2 (req_mk h3 (chk_mk h4 (chk_mk h5 hk))))))⟩
  · exact h.elim
theorem lin_aPart (t : TypeId) (cs : List Value) (off : Nat) : Lin (aPart P t cs off) := by
  intro K h
  unfold aPart at h ⊢
  cases hg : isAggT P t <;> rw [hg] at h <;> (try simp only at h ⊢)
  · exact Lin.pSome (G := fun b (K : Value → Prop) => K b) (fun b => Lin.pure b) K h
  · cases hb : Nat.ble (off + szOf P t) cs.length <;> rw [hb] at h <;> (try simp only at h ⊢)
    exact ⟨_, h, fun K' hk => hk⟩
theorem lin_mget (σ : AS) (d : TypeDesc) (r : Option Nat) (k : Value) : Lin (mget σ d r k) := by
  intro K h
  unfold mget at h ⊢
  obtain ⟨es, h1, h⟩ := pSome_elim h
  obtain ⟨x, h2, h⟩ := pSome_elim h
  exact ⟨_, h, fun K' hk => pSome_mk h1 (pSome_mk h2 hk)⟩
theorem lin_aLoad (t : TypeId) (a : Addr) (σ : AS) : Lin (aLoad P t a σ) := by
  intro K h
  unfold aLoad at h ⊢
  split at h <;> (try simp only at h ⊢)
  cases hg : isAggT P t <;> rw [hg] at h <;> (try simp only at h ⊢)
  · exact Lin.pSome (G := fun v => tV (kdOf P t) v) (fun v => lin_tV _ v) K h
  · exact Lin.pSome (G := fun l (K : Value → Prop) => tC (kdCells P 12 t) l fun vs => K (.agg ⟨vs⟩)) (fun l => Lin.bind (F := tC _ l) (G := fun vs (K : Value → Prop) => K (.agg ⟨vs⟩)) (lin_tC _ l) fun vs => Lin.pure _) K h
theorem lin_mget2 (σ : AS) (d : IntKind) (r : Option Nat) (k : Value) : Lin (mget2 σ d r k) := by
  intro K h
  unfold mget2 at h ⊢
  obtain ⟨p, h0, h⟩ := pSome_elim h
  obtain ⟨es, h1, h⟩ := pSome_elim h
  obtain ⟨x, h2, h⟩ := pSome_elim h
  exact ⟨_, h, fun K' hk => pSome_mk h0 (pSome_mk h1 (pSome_mk h2 hk))⟩
theorem lin_aLookup (t : TypeId) (x k : Option Value) (ok : Bool) (σ : AS) : Lin (aLookup P t x k ok σ) := by
  intro K h
  unfold aLookup at h ⊢
  split at h
  · split at h
    · split at h
      · split at h
        · obtain ⟨o, h, ho⟩ := lin_mget _ _ _ _ _ h
          obtain ⟨v, h, hv⟩ := lin_tV _ _ _ h
          cases ok with
          | true => exact ⟨_, h, fun K' hk => ho _ (hv _ hk)⟩
          | false => exact ⟨_, h, fun K' hk => ho _ (hv _ hk)⟩
        · obtain ⟨kk, h1, h⟩ := pSome_elim h
          obtain ⟨o, h, ho⟩ := lin_mget2 _ _ _ _ _ h
          obtain ⟨v, h, hv⟩ := lin_tV _ _ _ h
          cases ok with
          | true => exact ⟨_, h, fun K' hk => pSome_mk h1 (ho _ (hv _ hk))⟩
          | false => exact ⟨_, h, fun K' hk => pSome_mk h1 (ho _ (hv _ hk))⟩
      · exact h.elim
    · exact h.elim
  · exact h.elim
theorem lin_tyAs (v : Value) (t : TypeId) : Lin (tyAs v t) := by
  intro K h
  unfold tyAs at h ⊢
  split at h <;> (try simp only at h ⊢)
  · split at h <;> (try simp only at h ⊢) <;> exact ⟨_, h, fun K' hk => hk⟩
  · exact ⟨_, h, fun K' hk => hk⟩
theorem lin_aAssert (x : Option Value) (t : TypeId) (ok : Bool) : Lin (aAssert P x t ok) := by
  intro K h
  unfold aAssert at h ⊢
  split at h
  · exact h.elim
  · split at h
    · obtain ⟨o, h, ho⟩ := lin_tyAs _ _ _ h
      obtain ⟨v, h, hv⟩ := lin_tV _ _ _ h
      exact ⟨_, h, fun K' hk => ho _ (hv _ hk)⟩
    · exact h.elim
  · exact h.elim
theorem lin_aLen (t : TypeId) (x : Option Value) (σ : AS) : Lin (aLen P t x σ) := by
  intro K h
  unfold aLen at h ⊢
  split at h
  · exact ⟨_, h, fun K' hk => hk⟩
  · exact ⟨_, h, fun K' hk => hk⟩
  · exact ⟨_, h, fun K' hk => hk⟩
  · obtain ⟨es, h1, h⟩ := pSome_elim h
    exact ⟨_, h, fun K' hk => pSome_mk h1 hk⟩
  · split at h
    · exact ⟨_, h, fun K' hk => hk⟩
    · exact h.elim
  · exact h.elim
theorem lin_aFold (f : Int → Int → Int) : ∀ (r : List Value) (v : Value), Lin (aFold f v r)
  | [], v => by
    intro K h
    unfold aFold at h ⊢
    exact ⟨_, h, fun K' hk => hk⟩
  | u :: r, v => by
    intro K h
    cases v <;> cases u <;> first | exact h.elim | exact lin_aFold f r _ K h
theorem lin_aBuiltin (b : Builtin) (ts : Array TypeId) (xs : Option (List Value)) (σ : AS) : Lin (aBuiltin P b ts xs σ) := by
  intro K h
  unfold aBuiltin at h ⊢
  split at h
  · exact lin_aLen _ _ _ K h
  · exact lin_aFold _ _ _ K h
  · exact lin_aFold _ _ _ K h
  · exact h.elim
theorem lin_cellsAs (t : TypeId) (v : Value) : Lin (cellsAs P t v) := by
  intro K h
  unfold cellsAs at h ⊢
  split at h
  · split at h
    · obtain ⟨h1, h⟩ := chk_elim h
      exact ⟨_, h, fun K' hk => chk_mk h1 hk⟩
    · exact h.elim
  · obtain ⟨h1, h⟩ := chk_elim h
    obtain ⟨h2, h⟩ := chk_elim h
    exact ⟨_, h, fun K' hk => chk_mk h1 (chk_mk h2 hk)⟩
theorem lin_aFill (place : Nat → Option (TypeId × Nat)) (ev : Operand → Option Value) : ∀ (parts : List (Nat × Operand)) (cs : List Value), Lin (aFill P place ev parts cs)
  | [], cs => fun K h => ⟨_, h, fun K' hk => hk⟩
  | (i, x) :: r, cs => by
    intro K h
    unfold aFill at h ⊢
    split at h
    · exact h.elim
    · obtain ⟨v, h1, h⟩ := pSome_elim h
      obtain ⟨vs, h, hvs⟩ := lin_cellsAs _ _ _ h
      obtain ⟨h2, h⟩ := chk_elim h
      obtain ⟨us, h, hus⟩ := lin_aFill place ev r _ _ h
      exact ⟨us, h, fun K' hk => pSome_mk h1 (hvs _ (chk_mk h2 (hus _ hk)))⟩
theorem lin_aBuild (t : TypeId) (parts : List (Nat × Operand)) (ev : Operand → Option Value) : Lin (aBuild P t parts ev) := by
  intro K h
  unfold aBuild at h ⊢
  split at h
  · exact h.elim
  · split at h
    · obtain ⟨h1, h⟩ := chk_elim h
      obtain ⟨us, h, hus⟩ := lin_aFill _ _ _ _ _ h
      exact ⟨_, h, fun K' hk => chk_mk h1 (hus _ hk)⟩
    · obtain ⟨h1, h⟩ := chk_elim h
      obtain ⟨us, h, hus⟩ := lin_aFill _ _ _ _ _ h
      exact ⟨_, h, fun K' hk => chk_mk h1 (hus _ hk)⟩
    · exact h.elim
theorem lin_mentry (σ : AS) (j : Nat) : Lin (fun K : Value → Prop => mentry σ j fun k v => K (.tuple ⟨[k, v]⟩)) := by
  intro K h
  unfold mentry at h ⊢
  split at h
  · split at h
    · split at h
      · obtain ⟨h1, h⟩ := req_elim h
        obtain ⟨e, h2, h⟩ := pSome_elim h
        exact ⟨_, h, fun K' hk => req_mk h1 (pSome_mk h2 hk)⟩
      · exact h.elim
    · exact h.elim
  · exact h.elim

theorem lin_aQ (o : Op) (ty : TypeId) (ev : Operand → Option Value) (σ : AS) : Lin (aQ P o ty ev σ) := by
  intro K h
  have some1 : ∀ {o : Option Value} {K : Value → Prop}, pSome o K → ∃ v, K v ∧ ∀ K' : Value → Prop, K' v → pSome o K' := fun h => by
    obtain ⟨v, h1, h⟩ := pSome_elim h
    exact ⟨v, h, fun K' hk => pSome_mk h1 hk⟩
  unfold aQ at h ⊢
  split at h
  · exact some1 h
  · exact some1 h
  · split at h
    · split at h
      · exact some1 h
      · exact some1 h
    · exact h.elim
  · split at h
    · obtain ⟨a, h1, h⟩ := pSome_elim h
      exact ⟨_, h, fun K' hk => pSome_mk h1 hk⟩
    · exact ⟨_, h, fun K' hk => hk⟩
    · exact ⟨_, h, fun K' hk => hk⟩
    · exact h.elim
  · exact lin_aBin _ _ _ _ _ _ K h
  · exact lin_aUn _ _ K h
  · exact lin_aConv _ _ _ _ K h
  · split at h
    · exact h.elim
    · obtain ⟨a, h1, h⟩ := pSome_elim h
      exact ⟨_, h, fun K' hk => pSome_mk h1 hk⟩
    · exact h.elim
  · obtain ⟨a, h1, h⟩ := pSome_elim h
    obtain ⟨b, h2, h⟩ := pSome_elim h
    exact ⟨_, h, fun K' hk => pSome_mk h1 (pSome_mk h2 hk)⟩
  · exact lin_aSlice _ _ _ _ _ _ _ K h
  · split at h
    · split at h
      · exact h.elim
      · obtain ⟨a, h1, h⟩ := pSome_elim h
        exact ⟨_, h, fun K' hk => pSome_mk h1 hk⟩
    · exact h.elim
  · split at h
    · obtain ⟨h1, h⟩ := chk_elim h
      obtain ⟨v, h, hv⟩ := lin_aPart _ _ _ K h
      exact ⟨v, h, fun K' hk => chk_mk h1 (hv _ hk)⟩
    · exact h.elim
  · split at h
    · obtain ⟨h1, h⟩ := chk_elim h
      obtain ⟨h2, h3, h⟩ := req2_elim h
      obtain ⟨a, h4, h⟩ := pSome_elim h
      obtain ⟨h5, h⟩ := req_elim h
      exact ⟨_, h, fun K' hk => chk_mk h1 (req_mk h2 (req_mk h3 (pSome_mk h4 (req_mk h5 hk))))⟩
    · obtain ⟨h1, h⟩ := chk_elim h
      obtain ⟨h2, h3, h⟩ := req2_elim h
      obtain ⟨a, h4, h⟩ := pSome_elim h
      exact ⟨_, h, fun K' hk => chk_mk h1 (req_mk h2 (req_mk h3 (pSome_mk h4 hk)))⟩
    · exact h.elim
  · split at h
    · obtain ⟨h1, h⟩ := chk_elim h
      obtain ⟨h2, h3, h⟩ := req2_elim h
      obtain ⟨v, h, hv⟩ := lin_aPart _ _ _ _ h
      obtain ⟨u, h, hu⟩ := lin_tV _ _ _ h
      exact ⟨u, h, fun K' hk => chk_mk h1 (req_mk h2 (req_mk h3 (hv _ (hu _ hk))))⟩
    · obtain ⟨h1, h2, h⟩ := req2_elim h
      exact ⟨_, h, fun K' hk => req_mk h1 (req_mk h2 hk)⟩
    · exact h.elim
  · exact lin_aLookup _ _ _ _ _ K h
  · exact lin_aAssert _ _ _ K h
  · obtain ⟨a, h1, h⟩ := pSome_elim h
    cases a <;> first | exact h.elim | skip
    obtain ⟨b, h2, h⟩ := pSome_elim h
    obtain ⟨u, h, hu⟩ := lin_tV _ _ _ h
    exact ⟨u, h, fun K' hk => pSome_mk h1 (pSome_mk (o := _) h2 (hu _ hk))⟩
  · split at h
    · obtain ⟨a, h1, h⟩ := pSome_elim h
      obtain ⟨v, h, hv⟩ := lin_aLoad _ _ _ _ h
      exact ⟨v, h, fun K' hk => pSome_mk h1 (hv _ hk)⟩
    · exact h.elim
  · exact lin_aBuild _ _ _ K h
  · split at h
    · obtain ⟨h1, h⟩ := chk_elim h
      obtain ⟨v, h, hv⟩ := lin_mentry _ _ K h
      exact ⟨v, h, fun K' hk => chk_mk h1 (hv _ hk)⟩
    · exact h.elim
  · split at h
    · exact lin_aBuiltin _ _ _ _ K h
    · exact h.elim
  · exact h.elim
end Go.AI
