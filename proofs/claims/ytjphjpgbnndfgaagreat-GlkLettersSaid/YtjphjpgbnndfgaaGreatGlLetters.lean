/- Large and small letters: the law's function tells true. -/
import Derived.Test.YtjphjpgbnndfgaaGreatGlNilLaw
import Derived.Test.YtjphjpgbnndfgaaGreatGlForm2
import Derived.IntWalk
set_option maxRecDepth 1000000
set_option linter.unusedVariables false
set_option linter.unusedSimpArgs false
namespace Go.AI
open Go.Proofs
theorem tri_in {f : Nat} {args : List Value} {σ : AS} {K : Value → AS → Prop} (h : fw Tryz.prog hintsS (Tri Tryz.prog) f args σ K) : Tri Tryz.prog f args σ K := tri_fw Tryz.checked.mixed noGoS h
abbrev w32 (n : Int) : Int := IntKind.wrap .u32 n
def plS (c : Int) : Bool := (decide (c ≥ 32) && decide (c ≤ 126)) || (decide (c ≥ 160) && decide (c ≤ 255))
def greS (c : Int) : Bool := (decide (c ≥ 65) && decide (c ≤ 90)) || (decide (c ≥ 192) && decide (c ≤ 214)) || (decide (c ≥ 216) && decide (c ≤ 222))
def askS (a b : Int) : Int := if (a == 0) = true then 1797 else if ((a == 1 && decide (b ≥ 32) && decide (b ≤ 126)) || (a == 2 && plS b)) = true then 1 else if (a == 3 && (plS b || b == 10)) = true then 2 else 0
def bigG (d : Int) : Bool := (decide (d ≥ 65) && decide (d ≤ 90)) || (decide (d ≥ 192) && decide (d ≤ 222) && d != 215)
def letG (c : Int) (u : Bool) : Int := if bigG (bif u then w32 (c - 32) else c) = true then ixor .u32 c 32 else c
def letR (c : Int) (u : Bool) : Int := if (!u && greS c) = true then w32 (c + 32) else if (u && decide (c ≥ 32) && greS (w32 (c - 32))) = true then w32 (c - 32) else c
section
variable {σ : AS} {K : Value → AS → Prop}
theorem c63 {c : Int} (hK : K (.bool (plS c)) σ) : Tri Tryz.prog 63 [.int .u32 c] σ K := tri_in (by
  rw [s63]
  repeat' (refine bm_mk (fun _ => ?_) (fun _ => ?_))
  all_goals exact Eq.mp (congrArg (fun x => K (.bool x) σ) (by simp_all [plS] <;> omega)) hK)
theorem c82 {c : Int} (hK : K (.bool (plS c)) σ) : Tri Tryz.prog 82 [.int .u32 c] σ K := tri_in (by
  rw [s82]
  repeat' (refine bm_mk (fun _ => ?_) (fun _ => ?_))
  all_goals exact Eq.mp (congrArg (fun x => K (.bool x) σ) (by simp_all [plS] <;> omega)) hK)
theorem c83 {c : Int} (hK : K (.bool (greS c)) σ) : Tri Tryz.prog 83 [.int .u32 c] σ K := tri_in (by
  rw [s83]
  repeat' (refine bm_mk (fun _ => ?_) (fun _ => ?_))
  all_goals exact Eq.mp (congrArg (fun x => K (.bool x) σ) (by simp_all [greS] <;> omega)) hK)
theorem c29 {a b : Int} (hK : K (.int .u32 (askS a b)) σ) : Tri Tryz.prog 29 [.int .u32 a, .int .u32 b] σ K := tri_in (by
  rw [s29]
  repeat' (first | (refine bm_mk (fun _ => ?_) (fun _ => ?_)) | (refine c63 ?_; simp only [tB_bool]))
  all_goals exact Eq.mp (congrArg (fun x => K (.int .u32 x) σ) (by simp_all [askS] <;> omega)) hK)
theorem c37 {a b : Int} (hK : K (.int .u32 (askS a b)) σ) : Tri Tryz.prog 37 [.int .u32 a, .int .u32 b] σ K := tri_in (by
  rw [s37]
  repeat' (first | (refine bm_mk (fun _ => ?_) (fun _ => ?_)) | (refine c82 ?_; simp only [tB_bool]))
  all_goals exact Eq.mp (congrArg (fun x => K (.int .u32 x) σ) (by simp_all [askS] <;> omega)) hK)
theorem c30 {c : Int} {u : Bool} (hK : K (.int .u32 (letG c u)) σ) : Tri Tryz.prog 30 [.int .u32 c, .bool u] σ K := tri_in (by
  rw [s30]
  repeat' (refine bm_mk (fun _ => ?_) (fun _ => ?_))
  all_goals exact Eq.mp (congrArg (fun x => K (.int .u32 x) σ) (by simp_all [letG, bigG, w32] <;> omega)) hK)
theorem c38 {c : Int} {u : Bool} (hK : K (.int .u32 (letR c u)) σ) : Tri Tryz.prog 38 [.int .u32 c, .bool u] σ K := tri_in (by
  rw [s38]
  repeat' (first | (refine bm_mk (fun _ => ?_) (fun _ => ?_)) | (refine c83 ?_; simp only [tB_bool]))
  all_goals exact Eq.mp (congrArg (fun x => K (.int .u32 x) σ) (by simp_all [letR, w32] <;> omega)) hK)
end
def g2 (s : Int → Int → Int) (args : List Value) (σ : AS) (K : Value → AS → Prop) : Prop := match args with
  | [.int .u32 a, .int .u32 b] => K (.int .u32 (s a b)) σ
  | _ => False
def g2b (s : Int → Bool → Int) (args : List Value) (σ : AS) (K : Value → AS → Prop) : Prop := match args with
  | [.int .u32 a, .bool b] => K (.int .u32 (s a b)) σ
  | _ => False
def glE3 : Ex := fun f => match Nat.beq f 29 with
  | true => some (g2 askS)
  | false => match Nat.beq f 37 with
    | true => some (g2 askS)
    | false => match Nat.beq f 30 with
      | true => some (g2b letG)
      | false => match Nat.beq f 38 with
        | true => some (g2b letR)
        | false => glE2 f
theorem glE3_sound : ∀ f g, glE3 f = some g → ∀ args σ K, g args σ K → Tri Tryz.prog f args σ K := by
  intro f g h args σ K hg
  unfold glE3 at h
  split at h
  · rename_i e
    injection h with h
    subst h
    obtain rfl := Nat.eq_of_beq_eq_true e
    unfold g2 at hg
    split at hg
    · exact c29 hg
    · exact hg.elim
  · split at h
    · rename_i e
      injection h with h
      subst h
      obtain rfl := Nat.eq_of_beq_eq_true e
      unfold g2 at hg
      split at hg
      · exact c37 hg
      · exact hg.elim
    · split at h
      · rename_i e
        injection h with h
        subst h
        obtain rfl := Nat.eq_of_beq_eq_true e
        unfold g2b at hg
        split at hg
        · exact c30 hg
        · exact hg.elim
      · split at h
        · rename_i e
          injection h with h
          subst h
          obtain rfl := Nat.eq_of_beq_eq_true e
          unfold g2b at hg
          split at hg
          · exact c38 hg
          · exact hg.elim
        · exact glE2_sound f g h args σ K hg
abbrev TM : Ct := callN Tryz.prog hints glE3 79
theorem tri_fwM {f : Nat} {args : List Value} {σ : AS} {K : Value → AS → Prop} (h : fw Tryz.prog hintsS TM f args σ K) : Tri Tryz.prog f args σ K := by
  unfold fw at h
  cases hf : Tryz.prog.funcs[f]? with
  | none => rw [hf] at h; exact h.elim
  | some fn =>
    rw [hf] at h
    simp only at h
    cases hb : fn.body with
    | none => rw [hb] at h; exact h.elim
    | some c =>
      rw [hb] at h
      obtain ⟨h1, h2⟩ := chk_elim h
      exact tri_of_aw (callN_sound (E := glE3) glE3_sound Tryz.checked.mixed noGoS 79) Tryz.checked.mixed hf hb (callFunc_enter noGoS hf hb) rfl h1 h2
theorem xor_small : ∀ n : Nat, n < 256 → ixor .u32 (n : Int) 32 = if n / 32 % 2 = 0 then (n : Int) + 32 else (n : Int) - 32 := by decide +kernel
theorem w32_eq {n : Int} (h0 : 0 ≤ n) (h1 : n ≤ 4294967295) : w32 n = n := Go.IntWalk.u32_in n (by omega)
theorem w32_low {n : Int} (h0 : n < 0) (h1 : -4294967296 ≤ n) : w32 n = n + 4294967296 := by
  simp [w32, IntKind.wrap, IntKind.signed, IntKind.bits]
  omega
theorem letG_low {c : Int} (h0 : 0 ≤ c) (h1 : c ≤ 4294967295) : letG c false = if (65 ≤ c ∧ c ≤ 90) ∨ (192 ≤ c ∧ c ≤ 222 ∧ c ≠ 215) then c + 32 else c := by
  unfold letG
  simp only [cond_false]
  by_cases h : (65 ≤ c ∧ c ≤ 90) ∨ (192 ≤ c ∧ c ≤ 222 ∧ c ≠ 215)
  · have hb : bigG c = true := by
      unfold bigG
      simp
      omega
    rw [if_pos h, if_pos hb]
    obtain ⟨n, rfl⟩ := Int.eq_ofNat_of_zero_le h0
    rw [xor_small n (by omega), if_pos (by omega)]
  · have hb : ¬ bigG c = true := by
      unfold bigG
      simp
      omega
    rw [if_neg h, if_neg hb]
theorem letG_up {c : Int} (h0 : 0 ≤ c) (h1 : c ≤ 4294967295) : letG c true = if (97 ≤ c ∧ c ≤ 122) ∨ (224 ≤ c ∧ c ≤ 254 ∧ c ≠ 247) then c - 32 else c := by
  unfold letG
  simp only [cond_true]
  by_cases hc : c < 32
  · have e := w32_low (n := c - 32) (by omega) (by omega)
    have hb : ¬ bigG (w32 (c - 32)) = true := by
      rw [e]
      unfold bigG
      simp
      omega
    rw [if_neg hb, if_neg (by omega)]
  · have e := w32_eq (n := c - 32) (by omega) (by omega)
    rw [e]
    by_cases h : (97 ≤ c ∧ c ≤ 122) ∨ (224 ≤ c ∧ c ≤ 254 ∧ c ≠ 247)
    · have hb : bigG (c - 32) = true := by
        unfold bigG
        simp
        omega
      rw [if_pos h, if_pos hb]
      obtain ⟨n, rfl⟩ := Int.eq_ofNat_of_zero_le h0
      rw [xor_small n (by omega), if_neg (by omega)]
    · have hb : ¬ bigG (c - 32) = true := by
        unfold bigG
        simp
        omega
      rw [if_neg h, if_neg hb]
theorem letR_low {c : Int} (h0 : 0 ≤ c) (h1 : c ≤ 4294967295) : letR c false = if (65 ≤ c ∧ c ≤ 90) ∨ (192 ≤ c ∧ c ≤ 222 ∧ c ≠ 215) then c + 32 else c := by
  unfold letR
  by_cases h : (65 ≤ c ∧ c ≤ 90) ∨ (192 ≤ c ∧ c ≤ 222 ∧ c ≠ 215)
  · have hb : greS c = true := by
      unfold greS
      simp
      omega
    rw [if_pos h, if_pos (by simp [hb]), w32_eq (by omega) (by omega)]
  · have hb : greS c = false := by
      unfold greS
      simp
      omega
    rw [if_neg h, if_neg (by simp [hb]), if_neg (by simp)]
theorem letR_up {c : Int} (h0 : 0 ≤ c) (h1 : c ≤ 4294967295) : letR c true = if (97 ≤ c ∧ c ≤ 122) ∨ (224 ≤ c ∧ c ≤ 254 ∧ c ≠ 247) then c - 32 else c := by
  unfold letR
  rw [if_neg (by simp)]
  by_cases hc : c < 32
  · rw [if_neg (by simp; omega), if_neg (by omega)]
  · have e := w32_eq (n := c - 32) (by omega) (by omega)
    rw [e]
    by_cases h : (97 ≤ c ∧ c ≤ 122) ∨ (224 ≤ c ∧ c ≤ 254 ∧ c ≠ 247)
    · have hb : greS (c - 32) = true := by
        unfold greS
        simp
        omega
      rw [if_pos h, if_pos (by simp [hb]; omega)]
    · have hb : greS (c - 32) = false := by
        unfold greS
        simp
        omega
      rw [if_neg h, if_neg (by simp [hb])]
abbrev Yes : Prop := Value.bool true = Value.bool true
abbrev No : Prop := Value.bool false = Value.bool true
def endT (lc uc : Bool) : Prop := bmatch lc Yes (bmatch uc Yes No)
theorem letters_run (a c : Int) : fw Tryz.prog hintsS TM 3 [.int .u32 a, .int .u32 c] AS.nil RB = (bmatch (askS a c == askS a c) (bmatch (letG c false == letR c false) (bmatch (letG c true == letR c true)
    (bmatch (letG c false == c)
      (bmatch (letG c true == c) (bmatch (letG c false == c) Yes (bmatch (letG c true == c) Yes No)) (bmatch (letG (letG c true) false == c) (bmatch (letG c false == c) Yes (bmatch (letG c true == c) Yes No)) No))
      (bmatch (letG (letG c false) true == c) (bmatch (letG c true == c) (bmatch (letG c false == c) Yes (bmatch (letG c true == c) Yes No)) (bmatch (letG (letG c true) false == c) (bmatch (letG c false == c) Yes (bmatch (letG c true == c) Yes No)) No)) No)) No) No) No) := by kernel_rfl
theorem letters_law {a c : Int} (h0 : 0 ≤ c) (h1 : c ≤ 4294967295) : Tri Tryz.prog 3 [.int .u32 a, .int .u32 c] AS.nil RB := tri_fwM (by
  rw [letters_run]
  · have l1 := letG_low h0 h1
    have l2 := letG_up h0 h1
    have l3 := letR_low h0 h1
    have l4 := letR_up h0 h1
    have fin : letG c false = c ∨ letG c true = c := by
      rw [l1, l2]
      split
      · right; rw [if_neg (by omega)]
      · left; rfl
    have fin' : bmatch (letG c false == c) Yes (bmatch (letG c true == c) Yes No) := by
      rcases fin with e | e
      · rw [e]; simp only [beq_self_eq_true, bm_true]
      · refine bm_mk (fun _ => rfl) (fun _ => ?_)
        rw [e]; simp only [beq_self_eq_true, bm_true]
    have b1 : letG c false = c ∨ letG (letG c false) true = c := by
      rw [l1]
      split
      · right; rw [letG_up (by omega) (by omega), if_pos (by omega)]; omega
      · left; rfl
    have b2 : letG c true = c ∨ letG (letG c true) false = c := by
      rw [l2]
      split
      · right; rw [letG_low (by omega) (by omega), if_pos (by omega)]; omega
      · left; rfl
    have up : bmatch (letG c true == c) (bmatch (letG c false == c) Yes (bmatch (letG c true == c) Yes No)) (bmatch (letG (letG c true) false == c) (bmatch (letG c false == c) Yes (bmatch (letG c true == c) Yes No)) No) := by
      refine bm_mk (fun _ => fin') (fun h => ?_)
      have e := b2.resolve_left (by intro e; rw [e] at h; simp at h)
      rw [e, beq_self_eq_true, bm_true]
      exact fin'
    have e3 : (letG c false == letR c false) = true := by rw [l1, l3]; simp
    have e4 : (letG c true == letR c true) = true := by rw [l2, l4]; simp
    rw [e3, e4, beq_self_eq_true]
    refine bm_mk (fun _ => bm_mk (fun _ => bm_mk (fun _ => ?_) (fun h => by simp at h)) (fun h => by simp at h)) (fun h => by simp at h)
    refine bm_mk (fun _ => up) (fun h => ?_)
    have e := b1.resolve_left (by intro e; rw [e] at h; simp at h)
    rw [e, beq_self_eq_true]
    exact bm_mk (fun _ => up) (fun h => by simp at h))
end Go.AI
