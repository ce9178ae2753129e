/- What is packed is read as it was, wherever it lies: the law. -/
import Derived.Test.YtfjbhgldbgamhaaTyRead
set_option maxRecDepth 10000
set_option linter.unusedVariables false
set_option linter.unusedSimpArgs false
namespace Go.AI
open Go.Proofs
theorem TabOk.bytes {t e : Int} {xs X : List Int} (h : TabOk t xs X e) (hc : ∀ c ∈ xs, 0 ≤ c ∧ c ≤ 4294967295) : ∀ c ∈ X, 0 ≤ c ∧ c < 256 := by
  rcases h with ⟨_, _, rfl⟩ | ⟨_, pre, h1, h2, rfl⟩
  · simp
  · intro c hm
    rcases List.mem_append.1 hm with h | h
    · rcases List.mem_append.1 h with h | h
      · exact h2 c h
      · exact by4_byte c h
    · exact rootB_byte hc c h
theorem PackOk.bytes {e : Int} {xs l Y : List Int} (h : PackOk xs l Y e) : ∀ c ∈ Y, 0 ≤ c ∧ c < 256 := by
  rcases h with ⟨_, _, rfl⟩ | ⟨_, ys, is, h1, _, hP, rfl⟩
  · simp
  · intro c hm
    rcases List.mem_cons.1 hm with rfl | h
    · omega
    · exact hP.2.1 c h
/-- What lies in the memory: the table, the text. -/
theorem laid_at {xa X xb Y xc xs l : List Int} {e1 e2 : Int} (hT : TabOk (1 + xa.length : Nat) xs X e1) (hP : PackOk xs l Y e2) (he : e1 + e2 = 0) (hx : xs.length ≤ 300) (hl : l.length ≤ 300) (hb : xa.length + xb.length ≤ 100000) :
    ∃ (is : List Nat) (ys : List Int), TableAt ((7 :: xa) ++ X ++ xb ++ Y ++ xc) (1 + xa.length) xs ∧ rd ((7 :: xa) ++ X ++ xb ++ Y ++ xc) ((7 :: xa) ++ X ++ xb).length 1 = some 225 ∧
      BitsAt ((7 :: xa) ++ X ++ xb ++ Y ++ xc) (((7 :: xa) ++ X ++ xb).length + 1) (bitsL xs.length is ++ [0]) ∧ is.length = l.length ∧ (∀ (q i : Nat), is[q]? = some i → xs[i]? = l[q]?) ∧ Packed ys (bitsL xs.length is ++ [0]) ∧ Y = 225 :: ys ∧ X.length ≤ 4400 ∧ (bitsL xs.length is ++ [0]).length ≤ 300 * 301 + 1 := by
  have lX := hT.len hx
  rcases hT with ⟨g1, g2, rfl⟩ | ⟨rfl, pre, h1, h2, rfl⟩
  · rcases hP with ⟨g3, g4, rfl⟩ | ⟨rfl, _⟩ <;> omega
  rcases hP with ⟨g3, g4, rfl⟩ | ⟨rfl, ys, is, g1, g2, g3, rfl⟩
  · omega
  have hw := bitsL_len xs.length is
  have hw2 : is.length * (xs.length + 1) ≤ 300 * 301 := Nat.mul_le_mul (by omega) (by omega)
  refine ⟨is, ys, ?_, ?_, ?_, g1, g2, g3, rfl, lX, by simp only [List.length_append, List.length_singleton]; omega⟩
  · refine ⟨(7 :: xa) ++ pre, xb ++ (225 :: ys) ++ xc, ?_, by simp [h1]; omega⟩
    have e : (((1 + xa.length : Nat) : Int) + 12) = ((1 + xa.length : Nat) : Int) + 12 := rfl
    simp [List.append_assoc]
  · exact rd_one (l := ys ++ xc) ⟨(7 :: xa) ++ (pre ++ by4 (((1 + xa.length : Nat) : Int) + 12) ++ rootB ((1 + xa.length : Nat) : Int) xs) ++ xb, [], by simp [List.append_assoc], rfl⟩
  · exact bits_of_packed g3 ⟨(7 :: xa) ++ (pre ++ by4 (((1 + xa.length : Nat) : Int) + 12) ++ rootB ((1 + xa.length : Nat) : Int) xs) ++ xb ++ [225], xc, by simp [List.append_assoc], by simp; omega⟩
theorem bgS_at {bs : List Int} {x : Nat} (h : rd bs x 1 = some 225) (hx : x ≤ 1000000000) : bgS bs x = (⟨225, ((x + 1 + 0 / 8 : Nat) : Int), ((0 % 8 : Nat) : Int)⟩, 0) := by
  unfold bgS
  rw [h]
  show (if ((225 : Int) = 224 ∨ (225 : Int) = 225) then ((⟨225, w32 ((x : Int) + 1), 0⟩ : AtS), (0 : Int)) else _) = _
  rw [if_pos (.inr rfl), w32_eq (by omega) (by omega)]
  rfl
def RBk : Value → AS → Prop := fun v _ => v = .bool true
section
variable {σ : AS}
theorem back_law {L : List (Nat × AObj)} {a u b v c : Option Addr} {xa xs xb l xc : List Int} (H : Has σ L) (ha : In8 a xa L) (hu : InU u xs L) (hb : In8 b xb L) (hv : InU v l L) (hc : In8 c xc L) (hcs : ∀ c ∈ xs, 0 ≤ c ∧ c ≤ 4294967295)
    (h8a : ∀ c ∈ xa, 0 ≤ c ∧ c < 256) (h8b : ∀ c ∈ xb, 0 ≤ c ∧ c < 256) (h8c : ∀ c ∈ xc, 0 ≤ c ∧ c < 256) (la : xa.length ≤ 140737488355328) (lb : xb.length ≤ 140737488355328) (lc : xc.length ≤ 140737488355328) :
    Tri Try.prog 4 [.slice a xa.length 1, .slice u xs.length 1, .slice b xb.length 1, .slice v l.length 1, .slice c xc.length 1] σ RBk := tri_in (by
  have live : ∀ {σ : AS}, Tri Try.prog 9 [] σ fun v0 σ1 => tB v0 fun b2 => RBk (.bool b2) σ1 := c9live (by simp only [tB_bool]; rfl)
  rw [s4, wrap64 (n := (xa.length : Int) + xb.length) (by omega) (by omega), wrap64 (n := (xa.length : Int) + xb.length + xc.length) (by omega) (by omega)]
  refine bmd_mk (fun _ => live) (fun h1 => bmd_mk (fun _ => live) (fun h2 => bmd_mk (fun _ => live) (fun h3 => ?_)))
  have hx : xs.length ≤ 300 := by omega
  have hl : l.length ≤ 300 := by omega
  refine c17 H ha hu hb hv hc hx hl hcs (by omega) fun σ1 j X Y e1 e2 new hT hP H1 => ?_
  simp only [tTup_tup, pSome_some, List.getElem?_cons_zero, List.getElem?_cons_succ, tI_int, tB_bool]
  refine tL_mk ?_
  simp only
  refine bm_mk (fun _ => live) (fun hok => ?_)
  have r1 : 0 ≤ e1 ∧ e1 ≤ 6 := by rcases hT with ⟨g1, g2, _⟩ | ⟨g1, _⟩ <;> omega
  have r2 : 0 ≤ e2 ∧ e2 ≤ 6 := by rcases hP with ⟨g1, g2, _⟩ | ⟨g1, _⟩ <;> omega
  have he : e1 + e2 = 0 := by
    rw [wrap64 (n := e1 + e2) (by omega) (by omega)] at hok
    simpa using hok
  obtain ⟨is, ys, hTA, hat, hBits, hisl, his, hPk, rfl, lX, lw⟩ := laid_at (xb := xb) (xc := xc) hT hP he hx hl (by omega)
  have h8X := hT.bytes hcs
  have h8Y := hP.bytes
  have lys : (225 :: ys).length ≤ 12000 := hP.len hx hl
  generalize hM : (7 :: xa) ++ X ++ xb ++ (225 :: ys) ++ xc = M at H1 hTA hat hBits ⊢
  have hMl : M.length ≤ 1048576 := by rw [← hM]; simp only [List.length_append, List.length_cons] at lys ⊢; omega
  have hM8 : ∀ c ∈ M, 0 ≤ c ∧ c < 256 := by
    intro c hc
    rw [← hM] at hc
    simp only [List.mem_append] at hc
    rcases hc with (((h | h) | h) | h) | h
    · rcases List.mem_cons.1 h with rfl | h
      · omega
      · exact h8a c h
    · exact h8X c h
    · exact h8b c h
    · exact h8Y c h
    · exact h8c c h
  generalize hat0 : ((7 :: xa) ++ X ++ xb).length = at0 at hat hBits ⊢
  have hat1 : at0 ≤ 200000 := by rw [← hat0]; simp only [List.length_append, List.length_cons]; omega
  have hmem : Mem (some ⟨j, 0, none⟩) M ((j, .row .rw (cells8 M)) :: (new ++ L)) := ⟨hM8, hMl, .inr ⟨j, .rw, [], rfl, by simp⟩⟩
  have bg := bgS_at hat (by omega)
  have sols : ∀ m : Nat, PlainS M (1 + xa.length : Nat) at0 m (l.take m) (decide (l.length ≤ m)) 0 := by
    intro m
    refine .inr ⟨by rw [bg], ?_⟩
    rw [bg]
    simp only
    by_cases hm : l.length ≤ m
    · have := read_whole (m := m) hTA (by omega) (by omega) hBits (by omega) hx hcs is l [] 0 hisl his (fun k b hb => by rw [Nat.zero_add]; exact hb) (by simp; omega)
      rw [List.take_of_length_le hm, decide_eq_true hm]
      exact this
    · have := read_part (m := m) hTA (by omega) (by omega) hBits (by omega) hx hcs is l [] 0 hisl his (fun k b hb => by rw [Nat.zero_add]; exact hb) (by simp) (by simp; omega)
      rw [decide_eq_false hm]
      exact this
  refine c18A H1 hmem (by omega) (by omega) (by omega) (by omega) fun σ2 r w e ra re new2 hp H2 hno hin => ?_
  simp only [tTup_tup, pSome_some, tI_int, tB_bool, List.getElem?_cons_zero, List.getElem?_cons_succ]
  refine tL_ok hno ?_
  obtain ⟨rfl, rfl, rfl⟩ := hp.one (sols _)
  rw [Int.toNat_natCast, List.take_length] at hin ⊢
  have e2' : IntKind.wrap .i64 (Int.tdiv (l.length : Int) 2) = ((l.length / 2 : Nat) : Int) := by
    have : Int.tdiv (l.length : Int) 2 = ((l.length / 2 : Nat) : Int) := by rw [Int.tdiv_eq_ediv_of_nonneg (by omega)]; omega
    rw [this, wrap64 (by omega) (by omega)]
  rw [e2']
  refine c18A H2 (hmem.mono fun p h => by simp only [List.mem_append]; exact .inr h) (by omega) (by omega) (by omega) (by omega) fun σ3 r2 w2 e' ra2 re2 new3 hp2 H3 hno2 hin2 => ?_
  simp only [tTup_tup, pSome_some, tI_int, tB_bool, List.getElem?_cons_zero, List.getElem?_cons_succ]
  refine tL_ok hno2 ?_
  obtain ⟨rfl, rfl, rfl⟩ := hp2.one (sols _)
  rw [Int.toNat_natCast] at hin2 ⊢
  refine c15 (tI_mk (c15 (tI_mk ?_)))
  have e0 : (IntKind.wrap .i64 (0 + 0) == 0) = true := by decide
  have e1' : decide (l.length ≤ l.length) = true := by simp
  rw [e0, e1', bm_true, bm_true]
  have hv3 : InU v l (new3 ++ (new2 ++ ((j, .row .rw (cells8 M)) :: (new ++ L)))) := hv.mono fun p h => by simp [h]
  simp only
  refine c16 H3 (hin.mono fun p h => by simp [h]) hv3 (by omega) ?_
  simp only [tB_bool, bm_true]
  have e3 : (decide (l.length ≤ l.length / 2) == ((l.length : Int) == 0)) = true := by
    by_cases h : l.length = 0
    · rw [h]; decide
    · have a1 : decide (l.length ≤ l.length / 2) = false := by simp; omega
      have a2 : ((l.length : Int) == 0) = false := by simpa using h
      rw [a1, a2]; rfl
  rw [e3, bm_true]
  refine req_mk (by omega) (req_mk (by omega) ?_)
  have e4 : (((l.length / 2 : Nat) : Int) - 0).toNat = l.length / 2 := by omega
  have e5 : (l.take (l.length / 2)).length = l.length / 2 := by rw [List.length_take]; omega
  have hz : szOf Try.prog 22 = 1 := by kernel_rfl
  rw [e4, e5]
  have hi2 : InO (v.map fun x => Addr.add x (Int.toNat 0 * szOf Try.prog 22)) (l.take (l.length / 2)) (new3 ++ (new2 ++ ((j, .row .rw (cells8 M)) :: (new ++ L)))) := by
    have := hv3.cut (x := fun x => Addr.add x (Int.toNat 0 * szOf Try.prog 22)) (o := 0) (n := l.length / 2) (fun r => by rw [hz, add_none]; rfl)
    rw [List.drop_zero] at this
    exact this
  refine c16o H3 (.of (hin2.mono fun p h => by simp [h])) hi2 e5 (by omega) ?_
  simp only [tB_bool, bm_true]
  exact live)
end
end Go.AI
