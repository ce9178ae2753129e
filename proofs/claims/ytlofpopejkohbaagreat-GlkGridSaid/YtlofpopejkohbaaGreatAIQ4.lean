/- Lemmas of the abstract condition ahead of code (a part of the library that the claim's proof stands on); they hold with no condition but those that each names. -/
import Derived.Test.YtlofpopejkohbaaGreatAIQ3
set_option linter.unusedSimpArgs false
set_option linter.unusedVariables false
namespace Go.AI
section
variable {P : Program} {w : World} {ρ : RM} {σ : AS} {K : Value → Prop}

theorem run_size {t : TypeId} (h : (P.info? t).isSome = true) (w : World) : (sizeOf t).run P w = .ok (szOf P t) w := by
  cases hi : P.info? t with
  | none => rw [hi] at h; cases h
  | some i => simp [sizeOf, typeInfo, hi, szOf]

theorem int_elim {v : Value} {k : IntKind} {n : Int} (r : VRel ρ (.int k n) v) : v = .int k n := by cases r; rfl

/-- An operand that is a number, or is left out. -/
theorem oInt_elim {ev : Operand → Option Value} {ce : Operand → Value} (he : ∀ x v, ev x = some v → VRel ρ v (ce x)) {x : Option Operand} {d : Int} {K : Int → Prop} (h : oInt ev x d K) :
    ∃ n, K n ∧ ((x = none ∧ n = d) ∨ ∃ o k, x = some o ∧ ce o = .int k n) := by
  cases x with
  | none => exact ⟨d, h, .inl ⟨rfl, rfl⟩⟩
  | some o =>
    unfold oInt at h
    simp only at h
    cases e : ev o with
    | none => simp [e] at h
    | some v =>
      rw [e] at h
      cases v <;> simp only at h <;> first | exact h.elim | skip
      exact ⟨_, h, .inr ⟨o, _, rfl, int_elim (he _ _ e)⟩⟩

theorem run_bound {x : Value} {k : IntKind} {n : Int} {y : Nat} {code : BoundsCode} (hx : x = .int k n) (h0 : 0 ≤ n) (h1 : n ≤ y) : (Instr.sliceBound x y code).run P w = .ok n.toNat w := by
  subst hx
  simp [Instr.sliceBound, asIntOf, h0, h1]

theorem run_bounds {ce : Operand → Value} {isS : Bool} {len cap : Nat} {lo hi mx : Option Operand} {l h : Int} {m : Nat}
    (hlo : (lo = none ∧ l = 0) ∨ ∃ o k, lo = some o ∧ ce o = .int k l) (hhi : (hi = none ∧ h = (len : Int)) ∨ ∃ o k, hi = some o ∧ ce o = .int k h)
    (hmx : (mx = none ∧ m = cap) ∨ ∃ o k, mx = some o ∧ ce o = .int k (m : Int) ∧ m ≤ cap ∧ hi.isSome = true) (h0 : 0 ≤ l) (h1 : l ≤ h) (h2 : h ≤ (m : Int)) :
    (Instr.sliceBounds isS len cap (lo.map ce) (hi.map ce) (mx.map ce)).run P w = .ok (l.toNat, h.toNat, m) w := by
  have hb := fun (x : Value) (k : IntKind) (n : Int) (y : Nat) (code : BoundsCode) (a : x = .int k n) (b : 0 ≤ n) (c : n ≤ y) => run_bound (P := P) (w := w) (code := code) a b c
  rcases hmx with ⟨rfl, rfl⟩ | ⟨o, k, rfl, e, hm, hs⟩
  · rcases hhi with ⟨rfl, rfl⟩ | ⟨o, k, rfl, e⟩
    · rcases hlo with ⟨rfl, rfl⟩ | ⟨o2, k2, rfl, e2⟩
      · simp [Instr.sliceBounds]
      · simp [Instr.sliceBounds, hb _ _ _ _ _ e2 h0 h1]
    · have h3 := fun code => hb _ _ _ _ code e (by omega) h2
      rcases hlo with ⟨rfl, rfl⟩ | ⟨o2, k2, rfl, e2⟩
      · simp [Instr.sliceBounds, h3]
      · simp [Instr.sliceBounds, h3, hb _ _ _ _ _ e2 h0 (show l ≤ ((h.toNat : Nat) : Int) by omega)]
  · have h4 := fun code => hb _ _ _ _ code e (by omega) (by omega : (m : Int) ≤ (cap : Int))
    rcases hhi with ⟨rfl, rfl⟩ | ⟨o', k', rfl, e'⟩
    · cases hs
    · have h3 := fun code => hb _ _ _ _ code e' (by omega) h2
      rcases hlo with ⟨rfl, rfl⟩ | ⟨o2, k2, rfl, e2⟩
      · simp [Instr.sliceBounds, h3, h4]
      · simp [Instr.sliceBounds, h3, h4, hb _ _ _ _ _ e2 h0 (show l ≤ ((h.toNat : Nat) : Int) by omega)]

theorem slice_rel (s : Sim ρ w.heap σ) {a : Option Addr} {n c : Nat} {cx : Value} (r : VRel ρ (.slice a n c) cx) {l h e m : Nat} (hl : l ≤ h) (hh : h ≤ capLo σ a c n) (hc : a = none ∨ c = e)
    (hm : ∀ b k cap, cx = .slice b k cap → m = cap) :
    ∃ b k cap, cx = .slice b k cap ∧ k = n ∧ h ≤ cap ∧ VRel ρ (.slice (a.map (·.add (l * e))) (h - l) e) (.slice (if m = l then b else b.map (·.add (l * e))) (h - l) (m - l)) := by
  cases r with
  | nilslice =>
    have hh : h ≤ 0 := hh
    refine ⟨none, 0, 0, rfl, rfl, hh, ?_⟩
    have h1 := hm _ _ _ rfl
    have : h = 0 := by omega
    subst this
    have : l = 0 := by omega
    subst this
    have : m = 0 := by omega
    subst this
    exact .nilslice e
  | emp hr he =>
    rename_i i o cap ad lo
    have h0 : h = 0 := by
      unfold capLo at hh
      simp only at hh
      split at hh
      · rename_i cs hi
        obtain ⟨l', e1, c', el, fz, q1, q2, q3, _⟩ := s.obj _ _ hi
        rw [hr] at e1
        injection e1 with e1
        subst e1
        omega
      · omega
    subst h0
    refine ⟨_, 0, cap, rfl, rfl, Nat.zero_le _, ?_⟩
    have l0 : l = 0 := by omega
    subst l0
    simp only [Option.map_some, Nat.sub_self, addr_add_none]
    by_cases hml : m = 0
    · rw [if_pos hml]; exact .emp hr he
    · rw [if_neg hml]; exact .emp hr he
  | slice hr hn ho hs hw =>
    rename_i i o cap o' lo
    have h1 := hm _ _ _ rfl
    subst h1
    have hcap : h ≤ m := by
      rcases Nat.lt_or_ge n h with hlt | hge
      · unfold capLo at hh
        simp only at hh
        split at hh
        · rename_i cs hi
          obtain ⟨l', e1, c', el, fz, q1, q2, q3, _, _, q6⟩ := s.obj _ _ hi
          rw [hr] at e1
          injection e1 with e1
          subst e1
          have q6 := q6 rfl
          have hd : h ≤ (cs.length - o) / c := by
            have : Nat.max n ((cs.length - o) / c) = max n ((cs.length - o) / c) := rfl
            omega
          have hc0 : 0 < c := by
            rcases Nat.eq_zero_or_pos c with h | h
            · subst h
              rw [Nat.div_zero] at hd
              omega
            · exact h
          have hmul : h * c ≤ cs.length - o := (Nat.le_div_iff_mul_le hc0).1 hd
          have h1c : 1 ≤ h * c := Nat.mul_pos (by omega) hc0
          exact Nat.le_of_mul_le_mul_right (show h * c ≤ m * c by omega) hc0
        · omega
      · omega
    refine ⟨_, n, m, rfl, rfl, hcap, ?_⟩
    have hc : c = e := hc.resolve_left (by simp)
    subst hc
    simp only [Option.map_some, addr_add_none]
    have hmul : l * c + (m - l) * c = m * c := by
      rw [← Nat.add_mul]
      congr 1
      omega
    by_cases hml : m = l
    · rw [if_pos hml]
      exact .slice hr (by omega) (.inl (by omega)) (by rw [show m - l = 0 by omega]; omega) (by omega)
    · rw [if_neg hml]
      refine .slice hr (by omega) (.inr ?_) (by omega) (by omega)
      have := ho.resolve_left (by omega)
      omega

theorem q_slice (s : Sim ρ w.heap σ) {ev : Operand → Option Value} {ce : Operand → Value} (he : ∀ x v, ev x = some v → VRel ρ v (ce x)) {t : TypeId} {x : Operand} {lo hi mx : Option Operand}
    (h : aSlice P σ ev t x lo hi mx K) : QOk P w ρ (Instr.sliceAt t (ce x) (lo.map ce) (hi.map ce) (mx.map ce)) K := by
  unfold aSlice at h
  cases hu : P.underlying t with
  | none => simp [hu] at h
  | some d =>
    cases ex : ev x with
    | none => cases d <;> simp [hu, ex] at h
    | some v =>
      have rx := he x v ex
      rw [hu, ex] at h
      generalize ce x = cx at rx ⊢
      split at h
      · rename_i s e1 e2
        injection e1 with e1; injection e2 with e2
        subst e1; subst e2
        cases rx
        obtain ⟨l, h, hlo⟩ := oInt_elim he h
        obtain ⟨r, h, hhi⟩ := oInt_elim he h
        obtain ⟨h0, h1, h2, h⟩ := req3_elim h
        refine q_mk ?_ (.str _) h
        have := run_bounds (P := P) (w := w) (ce := ce) (isS := false) (len := s.size) (cap := s.size) (mx := none) (m := s.size) hlo hhi (.inl ⟨rfl, rfl⟩) h0 h1 h2
        simp only [Option.map_none] at this
        simp [Instr.sliceAt, Instr.slice, run_underlying hu, this]
      · rename_i e a n c e1 e2
        injection e1 with e1; injection e2 with e2
        subst e1; subst e2
        obtain ⟨l, h, hlo⟩ := oInt_elim he h
        obtain ⟨r, h, hhi⟩ := oInt_elim he h
        obtain ⟨h0, h1, h2, hh⟩ := req3_elim h
        obtain ⟨hc, hh⟩ := chk_elim hh
        have hc := nilOr_elim hc
        obtain ⟨hk, hK⟩ := chk_elim hh
        rw [show (r - l).toNat = r.toNat - l.toNat by omega] at hK
        obtain ⟨b, k, cap, hx, hk', hn, rr⟩ := slice_rel s (l := l.toNat) (h := r.toNat) (e := szOf P e) (m := match cx with | .slice _ _ cap => cap | _ => 0) rx (by omega) (by omega) hc
          (fun b k cap hx => by subst hx; rfl)
        subst hx; subst hk'
        refine ⟨_, _, ?_, rr, (by simpa only [aadd_eq] using hK)⟩
        · have := run_bounds (P := P) (w := w) (ce := ce) (isS := true) (len := k) (cap := cap) (mx := none) (m := cap) hlo hhi (.inl ⟨rfl, rfl⟩) h0 h1 (by omega)
          simp only [Option.map_none] at this
          have hsz : (sizeOf e).run P w = .ok (szOf P e) w := run_size hk w
          simp [Instr.sliceAt, Instr.slice, run_underlying hu, this, hsz]
      · exact h.elim
end
end Go.AI
