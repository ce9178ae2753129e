/- Lemmas of the abstract condition ahead of code (a part of the library that the claim's proof stands on); they hold with no condition but those that each names. -/
import Derived.Test.YtlofpopejkohbaaGreatAIQ2
set_option linter.unusedSimpArgs false
set_option linter.unusedVariables false
namespace Go.AI
section
variable {P : Program} {w : World} {ρ : RM} {σ : AS} {K : Value → Prop}

theorem q_un {op : UnOp} {x : Option Value} {cx : Value} (rx : ∀ v, x = some v → VRel ρ v cx) (h : aUn op x K) : QOk P w ρ (Op.unary op cx) K := by
  unfold aUn at h
  cases x with
  | none => cases op <;> exact h.elim
  | some v =>
    have r := rx v rfl
    cases op <;> cases v <;> simp only at h <;> first | exact h.elim | skip
    all_goals cases r
    all_goals first
      | exact q_mk (by simp [Op.unary, Op.intArith, Op.intBits, ixor]) (.int _ _) h
      | exact q_mk (by simp [Op.unary]) (.bool _) h

theorem bytes_rel : ∀ (l cl : List Value) (bs : List UInt8), bytesOf? l = some bs → VsRel ρ l cl → cl = l ∧ l.length = bs.length ∧
    (∀ v ∈ l, ∃ n, v = .int .u8 n) ∧ bs = l.map (fun v => match v with | .int .u8 n => UInt8.ofNat n.toNat | _ => 0) := by
  intro l
  induction l with
  | nil =>
    intro cl bs h r
    cases r
    simp [bytesOf?] at h
    subst h
    exact ⟨rfl, rfl, by simp, rfl⟩
  | cons v vs ih =>
    intro cl bs h r
    cases r with
    | cons r rs =>
    simp only [bytesOf?] at h
    cases hb : byteOf? v with
    | none => simp [hb] at h
    | some b =>
      cases hbs : bytesOf? vs with
      | none => simp [hb, hbs] at h
      | some bs' =>
        simp [hb, hbs] at h
        subst h
        obtain ⟨h1, h2, h3, h4⟩ := ih _ _ hbs rs
        unfold byteOf? at hb
        split at hb
        · rename_i n
          cases r
          injection hb with hb
          subst h1
          refine ⟨rfl, by simp [h2], ?_, by simp [hb, ← h4]⟩
          intro u hu
          cases hu with
          | head => exact ⟨_, rfl⟩
          | tail _ hu => exact h3 u hu
        · cases hb

theorem forIn_bytes : ∀ (l : List Value) (s : ByteArray), (∀ v ∈ l, ∃ n, v = .int .u8 n) →
    (forIn (m := Sem) l s (fun c s => (match c with
      | .int .u8 n => (pure (ForInStep.yield (s.push (UInt8.ofNat n.toNat))) : Sem (ForInStep ByteArray))
      | _ => (do let _ ← (stuck "bytesToString: byte expected" : Sem Unit); pure (ForInStep.yield s))))).run P w = .ok ⟨s.data ++ (l.map (fun v => match v with | .int .u8 n => UInt8.ofNat n.toNat | _ => 0)).toArray⟩ w
  | [], s, _ => by simp
  | v :: l, s, h => by
    obtain ⟨n, rfl⟩ := h v (by simp)
    have ih := forIn_bytes l (s.push (UInt8.ofNat n.toNat)) (fun u hu => h u (by simp [hu]))
    simp only [List.forIn_cons, Sem.run_bind, Sem.run_pure, Result.andThen_ok, ih]
    congr 2
    cases s
    simp [ByteArray.push]

theorem q_b2s (s : Sim ρ w.heap σ) {a : Option Addr} {n c : Nat} {cx : Value} (r : VRel ρ (.slice a n c) cx) (h : bts σ ⟨a, n⟩ fun l => K (.string ⟨l.toArray⟩)) : QOk P w ρ (Conv.bytesToString cx) K := by
  unfold bts at h
  cases r with
  | nilslice => exact q_mk (by simp [Conv.bytesToString]; rfl) (.str _) h
  | emp hl he =>
    obtain ⟨vs, h1, h2⟩ := pSome_elim h
    obtain ⟨bs, h3, h4⟩ := pSome_elim h2
    have hvs : vs = [] := by
      simp [AS.cells] at h1
      exact h1
    subst hvs
    simp [bytesOf?] at h3
    subst h3
    exact q_mk (by simp [Conv.bytesToString, loadCells, loadCellsFrom]; rfl) (.str _) h4
  | slice hl hn ho hs hw =>
    rename_i i o cap o' l
    obtain ⟨vs, h1, h2⟩ := pSome_elim h
    obtain ⟨bs, h3, h4⟩ := pSome_elim h2
    by_cases h0 : n = 0
    · subst h0
      have hvs : vs = [] := by
        simp [AS.cells] at h1
        exact h1
      subst hvs
      simp [bytesOf?] at h3
      subst h3
      exact q_mk (by simp [Conv.bytesToString, loadCells, loadCellsFrom]; rfl) (.str _) h4
    · have ho := ho.resolve_left (by omega)
      subst ho
      obtain ⟨cvs, h5, h6, _⟩ := run_lds (P := P) s h1 hl
      obtain ⟨rfl, h7, h8, h9⟩ := bytes_rel _ _ _ h3 h6
      refine q_mk ?_ (.str _) h4
      have := forIn_bytes (P := P) (w := w) cvs ByteArray.empty h8
      simp only [Conv.bytesToString, Sem.run_bind, h5, Result.andThen_ok]
      simp only [List.forIn_toArray] at this ⊢
      rw [h9]
      refine Eq.trans (congrArg (fun x : Result ByteArray => x.andThen (fun a w' => Sem.run P (pure (Value.string a)) w')) this) ?_
      simp [show ByteArray.empty.data = #[] from rfl]

theorem q_conv (s : Sim ρ w.heap σ) {a b : TypeId} {x : Option Value} {cx : Value} (rx : ∀ v, x = some v → VRel ρ v cx) (h : aConv P a b x σ K) : QOk P w ρ (convert a b cx) K := by
  unfold aConv at h
  cases ha : P.underlying a with
  | none => simp [ha] at h
  | some da =>
    cases hb : P.underlying b with
    | none => cases da <;> simp [ha, hb] at h
    | some db =>
      rw [ha, hb] at h
      cases x with
      | none => cases da <;> cases db <;> exact h.elim
      | some v =>
        have r := rx v rfl
        split at h
        · rename_i k n e1 e2 e3
          injection e2 with e2
          injection e3 with e3
          subst e2; subst e3
          cases r
          exact q_mk (by simp [convert, run_underlying ha, run_underlying hb, Conv.intToInt]) (.int _ _) h
        · rename_i b e1 e2 e3
          injection e1 with e1
          injection e2 with e2
          injection e3 with e3
          subst e1; subst e2; subst e3
          cases r
          exact q_mk (by simp [convert, run_underlying ha, run_underlying hb]) (.str _) h
        · rename_i e o n c e1 e2 e3
          injection e1 with e1
          injection e2 with e2
          injection e3 with e3
          subst e1; subst e2; subst e3
          cases he : P.underlying e with
          | none => simp [he] at h
          | some de =>
            rw [he] at h
            split at h
            · rename_i e4
              injection e4 with e4
              subst e4
              obtain ⟨v, cv, h1, h2, h3⟩ := q_b2s (P := P) s r h
              refine ⟨v, cv, ?_, h2, h3⟩
              cases r <;> simp [convert, run_underlying ha, run_underlying hb, run_underlying he, h1]
            · exact h.elim
        · exact h.elim
end
end Go.AI
