/- The page's example holds (reckoned by the kernel); lines. -/
import Derived.Test.YtpgedoljndppdaaShHints
import Derived.Test.YtpgedoljndppdaaShCon
set_option maxRecDepth 1000000
set_option linter.unusedVariables false
set_option linter.unusedSimpArgs false
namespace Go.AI
open Go.Proofs
theorem live_run : callN Try.prog hints noE 50 11 [] AS.nil (fun v _ => v = .bool true) = (Value.bool true = .bool true) := by kernel_rfl
theorem tri_hard {f : Nat} {args : List Value} {σ : AS} {K : Value → AS → Prop} (h : callN Try.prog hints noE 50 f args σ K) : Tri Try.prog f args σ K :=
  callN_sound (E := noE) (fun f g e => by cases e) Try.checked.mixed noGoS 50 f args σ K h
theorem live_tri : Tri Try.prog 11 [] AS.nil (fun v _ => v = .bool true) := tri_hard (by rw [live_run])
theorem c11 {σ : AS} {K : Value → AS → Prop} (hK : K (.bool true) σ) : Tri Try.prog 11 [] σ K :=
  tri_pure (R := fun v => v = .bool true) rfl live_tri (fun v h => by subst h; rfl) (fun v h => by subst h; exact hK)

theorem lineOf_le : ∀ (n : Nat) (xs : List Int), (lineOf n xs).length ≤ n
  | 0, _ => by simp [lineOf]
  | _ + 1, [] => by simp [lineOf]
  | n + 1, c :: r => by
    unfold lineOf
    split
    · simp
    · have := lineOf_le n r; simp; omega
theorem lineOf_len : ∀ (n : Nat) (xs : List Int), (lineOf n xs).length ≤ xs.length
  | 0, _ => by simp [lineOf]
  | _ + 1, [] => by simp [lineOf]
  | n + 1, c :: r => by
    unfold lineOf
    split
    · simp
    · have := lineOf_len n r; simp; omega
theorem lineOf_get : ∀ (n : Nat) (xs : List Int) (i : Nat) (v : Int), (lineOf n xs)[i]? = some v → xs[i]? = some v
  | 0, _, i, v, h => by simp [lineOf] at h
  | _ + 1, [], i, v, h => by simp [lineOf] at h
  | n + 1, c :: r, i, v, h => by
    unfold lineOf at h
    split at h
    · cases i with
      | zero => simpa using h
      | succ i => simp at h
    · cases i with
      | zero => simpa using h
      | succ i => simpa using lineOf_get n r i v (by simpa using h)
theorem lineOf_ten : ∀ (n : Nat) (xs : List Int) (i : Nat), (lineOf n xs)[i]? = some 10 → i + 1 = (lineOf n xs).length
  | 0, _, i, h => by simp [lineOf] at h
  | _ + 1, [], i, h => by simp [lineOf] at h
  | n + 1, c :: r, i, h => by
    unfold lineOf at h ⊢
    split at h
    · rename_i e
      rw [if_pos e]
      cases i with
      | zero => rfl
      | succ i => simp at h
    · rename_i e
      rw [if_neg e]
      cases i with
      | zero => simp at h; exact absurd h e
      | succ i => have := lineOf_ten n r i (by simpa using h); simp; omega
theorem lineOf_end : ∀ (n : Nat) (xs : List Int), (lineOf n xs).length < n → (lineOf n xs).length < xs.length → ∃ i, i + 1 = (lineOf n xs).length ∧ (lineOf n xs)[i]? = some 10
  | 0, _, h, _ => by simp at h
  | _ + 1, [], _, h => by simp at h
  | n + 1, c :: r, h, h' => by
    unfold lineOf at h h' ⊢
    split at h
    · rename_i e
      rw [if_pos e]
      exact ⟨0, rfl, by simp [e]⟩
    · rename_i e
      rw [if_neg e] at h' ⊢
      obtain ⟨i, h1, h2⟩ := lineOf_end n r (by simpa using h) (by simpa using h')
      exact ⟨i + 1, by simp; omega, by simpa using h2⟩
theorem lineOf_pos {n : Nat} {xs : List Int} (hn : 0 < n) (hx : 0 < xs.length) : 0 < (lineOf n xs).length := by
  cases n with
  | zero => omega
  | succ n =>
    cases xs with
    | nil => simp at hx
    | cons c r =>
      unfold lineOf
      split <;> simp
end Go.AI
