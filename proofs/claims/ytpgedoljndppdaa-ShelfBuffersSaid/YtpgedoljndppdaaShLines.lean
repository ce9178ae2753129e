/- ShelfLines: the law's function tells true, from what its callees do. -/
import Derived.Test.YtpgedoljndppdaaShLive
set_option maxRecDepth 1000000
set_option linter.unusedVariables false
set_option linter.unusedSimpArgs false
namespace Go.AI
open Go.Proofs
section
variable {σ : AS}
theorem Inp.cons {a : Option Addr} {l : List Int} {fr : List (Nat × AObj)} (h : Inp a l fr) (p : Nat × AObj) : Inp a l (p :: fr) := by
  rcases h with h | ⟨r, k, q, h1, h2⟩
  · exact .inl h
  · exact .inr ⟨r, k, q + 1, h1, by simpa using h2⟩
theorem Inp.rowL {a : Option Addr} {l : List Int} {fr : List (Nat × AObj)} (h : Inp a l fr) (j : Nat) (ys : List Int) : Inp a l (rowL j ys fr) := by
  cases ys with
  | nil => exact h
  | cons c t => exact h.cons _
abbrev es1 (x : Nat) : List MapEntry := [{ key := i64 1, val := ptr x, born := 0 }]
theorem find1 (x : Nat) : Instr.findNow (.int .i64) (i64 1) (es1 x) 0 = some (some (0, ptr x)) := by rfl
abbrev RK1 (v : Value) (_ : AS) : Prop := v = .bool true

abbrev regs5 (a : Option Addr) (m s : Nat) (most : Int) (p i : Nat) : Regs := [(0, some (.slice a m 1)), (1, some (.int .u8 most)), (5, some (ptr s)), (7, some (i64 1)), (9, some (i64 p)), (10, some (i64 i))]
def linesI (x s st b b1 f : Nat) (a : Option Addr) (l : List Int) (most : Int) (i : Nat) (r : Regs) (σ : AS) : Prop :=
  ∃ (p : Nat) (fr : List (Nat × AObj)) (rd : Int), i ≤ l.length + 1 ∧ p ≤ l.length ∧ (p = l.length ∨ most = 0 ∨ i ≤ p) ∧ IntKind.wrap .u32 rd = rd ∧ Inp a l fr ∧ r = regs5 a l.length s most p i ∧
    Has σ (bufL x s st b b1 0 1 f (es1 x) 1 (.pointer none) 2 p rd 0 l.length true (cellsU l) fr)
def linesK (a : Option Addr) (m s : Nat) (most : Int) (p i : Nat) (a0 : Option Addr) (n : Nat) (σ0 : AS) (k : Nat) (r : Regs) (σ : AS) : Prop :=
  (k ≤ n) ∧ σ = σ0 ∧ r = regs5 a m s most p i ++ [(11, some (.slice a0 n 1)), (13, some (i64 k))]

theorem rd_row {a0 : Option Addr} {z : List Int} {j : Nat} {x s st b b1 f : Nat} {mo last rd : Int} {es : List MapEntry} {cn : Nat} {h : Value} {mode place wr : Int} {m : Nat} {w : Bool} {cs : List Value} {fr : List (Nat × AObj)}
    (H : Has σ (bufL x s st b b1 mo last f es cn h mode place rd wr m w cs (rowL j z fr))) (e : ∃ e0, slL j z = .slice a0 z.length e0) : Rd σ .u32 a0 0 1 z := by
  cases z with
  | nil => exact .inl rfl
  | cons c t =>
    obtain ⟨e0, e⟩ := e
    injection e with e1 e2 e3
    exact .inr ⟨j, .rw, cellsU (c :: t), e1.symm, rfl, H.at 5 rfl, fun i v hv => by rw [Nat.zero_add]; exact cellsU_get hv⟩

theorem lines_law {a : Option Addr} {l : List Int} {fr : List (Nat × AObj)} {most : Int} (H : Has σ fr) (hin : Inp a l fr) (hc : ∀ c ∈ l, 0 ≤ c ∧ c ≤ 4294967295) (hm0 : 0 ≤ most) (hm1 : most ≤ 255) :
    Tri Try.prog 5 [.slice a l.length 1, .int .u8 most] σ RK1 := tri_in (by
  rw [s5]
  refine bm_mk (fun h => ?_) (fun h => ?_)
  · refine c11 ?_
    simp [tB]
  have hl : l.length ≤ 4096 := by have := of_decide_eq_false h; omega
  refine c9 H (by omega) (by omega) fun σ1 s f st H1 => ?_
  simp only [tTup, pSome, tP, tI, chk, ikEq, List.getElem?_cons_zero, List.getElem?_cons_succ]
  refine c10 ?_
  simp only [tI, chk, ikEq, bne_self_eq_false, bmatch, ptrEq, Option.isNone]
  refine c17 (mode := 2) (H1) (hin.cons (f, .map [] 0)) hc hl (by omega) (by omega) (by simp) (by omega) (by omega) rfl fun σ2 x b b1 H2 => ?_
  simp only [tTup, pSome, tI, chk, ikEq, List.getElem?_cons_zero, List.getElem?_cons_succ]
  refine c10 ?_
  simp only [tI, chk, ikEq, bne_self_eq_false, bmatch]
  have hmap : l.map (putC true) = l := by
    have : putC true = id := by funext c; rfl
    rw [this, List.map_id]
  rw [hmap] at H2
  refine aloop (linesI x s st b b1 f a l most) (fun i => l.length + 1 - i) ?_ (a := 0) ⟨0, _, 0, by omega, by omega, by omega, rfl, hin.cons _, rfl, H2⟩
  rintro i r σ3 X hX ⟨p, fr3, rd, hi, hp, hpr, hrd, hin3, rfl, H3⟩
  rw [s5l]
  have hmost : IntKind.wrap .i64 most = most := wrap64 (by omega) (by omega)
  refine bm_mk (fun h => ?_) (fun h => ?_)
  · have h : i ≤ l.length := by have := of_decide_eq_true h; omega
    rw [hmost]
    refine c19 hrd H3 (find1 x) (.inl rfl) (by omega) hp fun σ4 j H4 => ?_
    generalize hz : lineOf most.toNat (l.drop p) = z at H4
    have z1 : z.length ≤ most.toNat := by rw [← hz]; exact lineOf_le _ _
    have z2 : z.length ≤ l.length - p := by rw [← hz]; simpa using lineOf_len most.toNat (l.drop p)
    obtain ⟨a0, e0, hsl, hno⟩ : ∃ a0 e0, slL j z = .slice a0 z.length e0 ∧ nilOr a0 1 e0 = true ∧ nilOr a0 e0 1 = true := by
      cases z with
      | nil => exact ⟨none, 0, rfl, rfl, rfl⟩
      | cons c t => exact ⟨_, 1, rfl, rfl, rfl⟩
    rw [hsl]
    simp only [tTup, pSome, tI, tL, chk, ikEq, List.getElem?_cons_zero, List.getElem?_cons_succ, hno.2]
    refine c10 ?_
    simp only [tI, chk, ikEq, bne_self_eq_false, bmatch]
    have q1 : ¬ (z.length : Int) > most := by omega
    have q2 : IntKind.wrap .i64 ((l.length : Int) - p) = (l.length : Int) - p := wrap64 (by omega) (by omega)
    have q3 : ¬ (z.length : Int) > (l.length : Int) - p := by omega
    have q4 : IntKind.wrap .i64 ((p : Int) + z.length) = (p : Int) + z.length := wrap64 (by omega) (by omega)
    rw [q2, q4]
    simp only [q1, q3, decide_false]
    refine req_mk (by omega) (req_mk (by omega) (req_mk (by omega) ?_))
    have q5 : ((p : Int) + z.length - p).toNat = z.length := by omega
    have hzz : szOf Try.prog 32 = 1 := by kernel_rfl
    rw [q5, hzz, Int.toNat_natCast, Nat.mul_one]
    have rd1 : Rd σ4 .u32 a0 0 1 z := rd_row H4 ⟨e0, hsl⟩
    have rd2 : Rd σ4 .u32 (Option.map (fun x : Addr => x.add p) a) p 1 z := by
      by_cases hz0 : z = []
      · exact .inl hz0
      · have hl0 : l ≠ [] := fun e => by rw [e] at z2; simp at z2; exact hz0 z2
        obtain ⟨ri, k, q, rfl, hq⟩ := (hin3.rowL j z).resolve_left hl0
        refine .inr ⟨ri, k, cellsU l, by simp [add_none], rfl, H4.at (q + 5) (by simpa using hq), fun i v hv => ?_⟩
        rw [← hz] at hv
        have := lineOf_get _ _ _ _ hv
        rw [List.getElem?_drop] at this
        exact cellsU_get this
    refine c18 rd1 rd2 (by omega) ?_
    simp only [tB, Bool.not_true, bmatch]
    refine aloop (linesK a l.length s most p i a0 z.length σ4) (fun k => z.length - k) ?_ (a := 0) ⟨by omega, rfl, rfl⟩
    rintro k r5 σ5 Y hY ⟨hk, rfl, rfl⟩
    have nxt : ∀ (p' : Nat), p' = p + z.length → X (regs5 a l.length s most p' (i + 1)) σ5 := by
      rintro p' rfl
      refine hX (i + 1) _ _ (by omega) ⟨p + z.length, _, _, by omega, by omega, ?_, ?_, hin3.rowL j z, rfl, H4⟩
      · rcases hpr with e | e | e
        · exact .inl (by omega)
        · exact .inr (.inl e)
        · by_cases hpl : p = l.length
          · exact .inl (by omega)
          · by_cases hm : most = 0
            · exact .inr (.inl hm)
            · have : 0 < z.length := by rw [← hz]; exact lineOf_pos (by omega) (by simp; omega)
              exact .inr (.inr (by omega))
      · have := wrap32_add (rd + z.length) 0
        simpa using this
    have nxt' : X [(0, some (.slice a l.length 1)), (1, some (.int .u8 most)), (5, some (ptr s)), (7, some (i64 1)), (9, some (i64 (IntKind.wrap .i64 ((p : Int) + z.length)))), (10, some (i64 (IntKind.wrap .i64 ((i : Int) + 1))))] σ5 := by
      rw [q4, wrap64 (n := (i : Int) + 1) (by omega) (by omega)]
      have := nxt _ rfl
      simpa [regs5] using this
    show fl Try.prog hintsS (Tri Try.prog) 5 _ [X] RK1 Y [(0, some (.slice a l.length 1)), (1, some (.int .u8 most)), (5, some (ptr s)), (7, some (i64 1)), (9, some (i64 p)), (10, some (i64 i)), (11, some (.slice a0 z.length 1)), (13, some (i64 k))] σ5
    rw [s5k]
    have q6 : IntKind.wrap .i64 ((k : Int) + 1) = (k : Int) + 1 := wrap64 (by omega) (by omega)
    rw [q6]
    refine bm_mk (fun hk1 => ?_) (fun hk1 => ?_)
    · have hk1 : k + 1 < z.length := by have := of_decide_eq_true hk1; omega
      obtain ⟨v, hv⟩ : ∃ v, z[k]? = some v := ⟨z[k]'(by omega), by simp⟩
      obtain ⟨r1, q, cs1, rfl, _, g1, g2⟩ := rd1.resolve_left (fun e => by rw [e] at hk1; simp at hk1)
      have hv10 : v ≠ 10 := fun e => by
        subst e
        rw [← hz] at hv hk1
        have := lineOf_ten _ _ _ hv
        omega
      refine req_mk (by omega) (req_mk (by omega) ?_)
      simp only [pSome, hzz, add_none, Int.toNat_natCast, Nat.mul_one]
      refine req_mk (by first | rfl | trivial) ?_
      simp only [ldc, AS.cell, g1, g2 k v hv, pSome]
      refine tI_mk ?_
      have : (v == 10) = false := by simpa using hv10
      rw [this]
      exact hY (k + 1) _ _ (by omega) ⟨by omega, rfl, by simp [regs5]⟩
    · refine bm_mk (fun h1 => ?_) (fun _ => nxt')
      rw [hmost]
      refine bm_mk (fun h2 => ?_) (fun _ => nxt')
      have h1 : p + z.length < l.length := by have := of_decide_eq_true h1; rw [q4] at this; omega
      have h2 : z.length < most.toNat := by have := of_decide_eq_true h2; omega
      obtain ⟨e, he1, he2⟩ : ∃ e, e + 1 = z.length ∧ z[e]? = some 10 := by
        rw [← hz] at h1 h2 ⊢
        exact lineOf_end _ _ h2 (by simp; omega)
      obtain ⟨r1, q, cs1, rfl, _, g1, g2⟩ := rd1.resolve_left (fun e => by rw [e] at he1; simp at he1)
      have hn0 : ((z.length : Int) == 0) = false := by
        have : (z.length : Int) ≠ 0 := by omega
        simpa using this
      have q7 : IntKind.wrap .i64 ((z.length : Int) - 1) = (z.length : Int) - 1 := wrap64 (by omega) (by omega)
      have q8 : ((z.length : Int) - 1).toNat = e := by omega
      rw [hn0, q7]
      refine req_mk (by omega) (req_mk (by omega) ?_)
      simp only [pSome, hzz, add_none, q8, Nat.mul_one]
      refine req_mk (by first | rfl | trivial) ?_
      simp only [ldc, AS.cell, g1, g2 e 10 he2, pSome]
      refine tI_mk ?_
      simp only [bne_self_eq_false]
      exact nxt'
  · have h : i = l.length + 1 := by have := of_decide_eq_false h; omega
    refine c19 hrd H3 (find1 x) (.inl rfl) (by omega) hp fun σ4 j H4 => ?_
    have hz : lineOf (-1 : Int).toNat (l.drop p) = [] := by simp [lineOf]
    rw [hz]
    simp only [tTup, pSome, tI, tL, chk, ikEq, List.getElem?_cons_zero, List.getElem?_cons_succ, nilOr, Nat.beq]
    have fin : Tri Try.prog 10 [i64 0] σ4 fun v σ => tI .i64 v fun n => bmatch (n == 0) (bmatch (((0 : Nat) : Int) == 0) (Tri Try.prog 11 [] σ fun v σ => tB v fun b => RK1 (.bool b) σ) (RK1 (.bool false) σ)) (RK1 (.bool false) σ) := by
      refine c10 (tI_mk ?_)
      simp only [beq_self_eq_true, bmatch]
      exact (show Tri Try.prog 11 [] σ4 (fun v σ => tB v fun b => RK1 (.bool b) σ) from c11 (by simp [tB]))
    refine bm_mk (fun _ => fin) (fun hne => bm_mk (fun _ => fin) (fun hm => ?_))
    have hne : p ≠ l.length := by
      intro e
      subst e
      simp at hne
    have hm : most ≠ 0 := by simpa using hm
    omega)
end
end Go.AI
