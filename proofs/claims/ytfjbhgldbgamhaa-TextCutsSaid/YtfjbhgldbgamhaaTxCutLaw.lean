/- A packed text whose bits end too early is not read whole: the law. -/
import Derived.Test.YtfjbhgldbgamhaaTxBackLaw
set_option maxRecDepth 10000
set_option linter.unusedVariables false
set_option linter.unusedSimpArgs false
namespace Go.AI
open Go.Proofs
section
variable {σ : AS}
theorem cut_law {L : List (Nat × AObj)} {u v : Option Addr} {xs l : List Int} {k : Int} (H : Has σ L) (hu : InU u xs L) (hv : InU v l L) (hcs : ∀ c ∈ xs, 0 ≤ c ∧ c ≤ 4294967295) :
    Tri Try.prog 8 [.slice u xs.length 1, .slice v l.length 1, i64 k] σ RBk := tri_in (by
  have live : ∀ {σ : AS}, Tri Try.prog 9 [] σ fun v0 σ1 => tB v0 fun b2 => RBk (.bool b2) σ1 := c9live (by simp only [tB_bool]; rfl)
  rw [s8]
  refine bmd_mk (fun _ => live) (fun h2 => bmd_mk (fun _ => live) (fun h3 => ?_))
  have hx : xs.length ≤ 300 := by omega
  have hl : l.length ≤ 300 := by omega
  refine c17z H hu hv hx hl hcs fun σ1 j X Y e1 e2 new hT hP H1 => ?_
  simp only [tTup_tup, pSome_some, List.getElem?_cons_zero, List.getElem?_cons_succ, tI_int, tB_bool]
  refine tL_mk ?_
  simp only
  refine bm_mk (fun _ => live) (fun hok => ?_)
  have r1 : 0 ≤ e1 ∧ e1 ≤ 6 := by rcases hT with ⟨g1, g2, _⟩ | ⟨g1, _⟩ <;> omega
  have r2 : 0 ≤ e2 ∧ e2 ≤ 6 := by rcases hP with ⟨g1, g2, _⟩ | ⟨g1, _⟩ <;> omega
  have he : e1 + e2 = 0 := by
    rw [wrap64 (n := e1 + e2) (by omega) (by omega)] at hok
    simpa using hok
  obtain ⟨is, ys, hTA, hat, hBits, hisl, his, hPk, rfl, lX, lw⟩ := laid_at (xa := []) (xb := []) (xc := []) (X := X) hT hP he hx hl (by simp)
  have h8X := hT.bytes hcs
  have h8Y := hP.bytes
  have lys : (225 :: ys).length ≤ 12000 := hP.len hx hl
  have lys2 : ys.length ≤ 12000 := by simp only [List.length_cons] at lys; omega
  have eM : (7 :: []) ++ X ++ [] ++ (225 :: ys) ++ [] = [7] ++ X ++ (225 :: ys) := by simp
  have eA : ((7 :: []) ++ X ++ ([] : List Int)).length = ([7] ++ X).length := by simp
  rw [eM] at hTA hat hBits
  rw [eA] at hat hBits
  have hat0 : ([7] ++ X).length ≤ 4401 := by simp; omega
  have hMl0 : ([7] ++ X ++ (225 :: ys)).length = ([7] ++ X).length + 1 + ys.length := by rw [List.length_append, List.length_cons]; omega
  generalize hA : ([7] ++ X).length = at0 at *
  have hM8 : ∀ c ∈ [7] ++ X ++ (225 :: ys), 0 ≤ c ∧ c < 256 := by
    intro c hc
    rcases List.mem_append.1 hc with h | h
    · rcases List.mem_append.1 h with h | h
      · simp at h; omega
      · exact h8X c h
    · exact h8Y c h
  generalize hM : [7] ++ X ++ (225 :: ys) = M at *
  have ew : IntKind.wrap .i64 ((at0 : Nat) : Int) = at0 := wrap64 (by omega) (by omega)
  rw [ew]
  refine bmd_mk (fun _ => live) (fun hk1 => bmd_mk (fun _ => live) (fun hk2 => ?_))
  obtain ⟨k, rfl⟩ := Int.eq_ofNat_of_zero_le (show 0 ≤ k by omega)
  have hk1 : at0 ≤ k := by omega
  have hk2 : k < M.length := by omega
  refine req_mk (by omega) (req_mk (by omega) ?_)
  have hz : szOf Try.prog 5 = 1 := by kernel_rfl
  have ead : ((some (⟨j, 0, none⟩ : Addr)).map fun x => Addr.add x (Int.toNat 0 * szOf Try.prog 5)) = some ⟨j, 0, none⟩ := by rw [hz, Option.map_some, add_none]; rfl
  have ekl : ((k : Int) - 0).toNat = (M.take k).length := by rw [List.length_take]; omega
  rw [ead, ekl]
  have hsplit : M = M.take k ++ M.drop k := (List.take_append_drop k M).symm
  have hmem : Mem (some ⟨j, 0, none⟩) (M.take k) ((j, .row .rw (cells8 M)) :: (new ++ L)) := by
    refine ⟨fun c hc => hM8 c (List.mem_of_mem_take hc), by rw [List.length_take]; omega, .inr ⟨j, .rw, cells8 (M.drop k), rfl, ?_⟩⟩
    rw [← List.map_append, ← hsplit]
    exact List.mem_cons_self
  have sol : PlainS (M.take k) (1 : Nat) at0 301 [] false 90 := by
    by_cases hka : k = at0
    · have hr : rd (M.take k) at0 1 = none := by
        unfold rd
        rw [if_neg (by rw [List.length_take]; omega)]
      have hb : bgS (M.take k) at0 = (⟨0, 0, 0⟩, 90) := by unfold bgS; rw [hr]
      exact .inl ⟨by rw [hb]; decide, rfl, rfl, by rw [hb]⟩
    · have hr : rd (M.take k) at0 1 = some 225 := by
        unfold rd at hat ⊢
        split at hat
        · rw [if_pos (by rw [List.length_take]; omega)]
          rw [← hat, List.drop_take, List.take_take, Nat.min_eq_left (by omega)]
        · cases hat
      have bg := bgS_at hr (by omega)
      refine .inr ⟨by rw [bg], ?_⟩
      rw [bg]
      simp only
      rw [hsplit] at hTA hBits
      have hyl : ys.length = (bitsL xs.length is ++ [0]).length / 8 ∧ (bitsL xs.length is ++ [0]).length % 8 = 0 ∨ ys.length = (bitsL xs.length is ++ [0]).length / 8 + 1 ∧ (bitsL xs.length is ++ [0]).length % 8 ≠ 0 := by
        rcases hPk.1 with ⟨g1, g2⟩ | ⟨g1, g2⟩
        · exact .inl ⟨g2, g1⟩
        · exact .inr ⟨g2, g1⟩
      have hpos : 0 < (bitsL xs.length is ++ [0]).length := by simp
      exact read_cut (m := 301) hTA (by omega) (by simp) hBits (by omega) hx hcs (by rw [List.length_take]; omega) is l [] 0 hisl his (fun q b hb => by rw [Nat.zero_add]; exact hb) (by omega) (by simp; omega)
  have e301 : (301 : Int).toNat = 301 := rfl
  refine c18A H1 hmem (by omega) (by omega) (by omega) (by omega) fun σ2 r w e ra re new2 hp H2 hno hin => ?_
  simp only [tTup_tup, pSome_some, tI_int, tB_bool, List.getElem?_cons_zero, List.getElem?_cons_succ]
  refine tL_ok hno ?_
  obtain ⟨rfl, rfl, rfl⟩ := hp.one sol
  refine c15 (tI_mk ?_)
  have e0 : ((90 : Int) == 90) = true := by decide
  have e1' : ((([] : List Int).length : Int) == 0) = true := rfl
  simp only
  rw [e0, e1', bm_true, bm_true, Bool.not_false, bm_true]
  exact live)
end
end Go.AI
