/- Lemmas of the abstract condition ahead of code (a part of the library that the claim's proof stands on); they hold with no condition but those that each names. -/
import Derived.Test.YtlofpopejkohbaaGreatGkBase
import Derived.Test.YtlofpopejkohbaaGreatGyForm
section
set_option linter.unusedSimpArgs false
set_option linter.unusedVariables false
set_option maxRecDepth 10000
/- The space that a law's calls look at: its memory read and written, its stack; no condition but those that each names. -/
namespace Go.AI
open Go.Proofs
/-- The number of some bytes. -/
def beV (l : List Int) : Int := l.foldl (fun x b => x * 256 + b) 0
theorem beV_snoc (l : List Int) (b : Int) : beV (l ++ [b]) = beV l * 256 + b := by unfold beV; rw [List.foldl_append]; rfl
theorem beV_take {l : List Int} (hb : ∀ c ∈ l, 0 ≤ c ∧ c < 256) : ∀ i, 0 ≤ beV (l.take i) ∧ beV (l.take i) < 256 ^ i
  | 0 => by simp [beV]
  | i + 1 => by
    have ih := beV_take hb i
    have hp : (256 : Int) ^ (i + 1) = 256 ^ i * 256 := Int.pow_succ ..
    have h0 : (0 : Int) < 256 ^ i := Int.pow_pos (by omega)
    cases hv : l[i]? with
    | none =>
      rw [List.take_add_one, hv]
      simp only [Option.toList, List.append_nil]
      omega
    | some v =>
      obtain ⟨g0, g1⟩ := hb v (List.mem_of_getElem? hv)
      rw [List.take_add_one, hv]
      simp only [Option.toList]
      rw [beV_snoc]
      omega
/-- The memory and the stack of a law. -/
def spO (bj : Nat) (la : Option Addr) (ln le : Nat) : AObj := .row .plain [.slice (some ⟨bj, 0, none⟩) 1024 1, .slice la ln le, i64 200, .pointer none, .pointer none]
section
variable {σ : AS} {K : Value → AS → Prop} {L M : List (Nat × AObj)}
theorem c8get {B : List Int} {i : Nat} {v : Int} (h : B[i]? = some v) : (cells8 B)[i]? = some (u8 v) := by simp [cells8, h]
theorem szP5 : szOf Tryz.prog 5 = 1 := by kernel_rfl
theorem szP32 : szOf Tryz.prog 32 = 1 := by kernel_rfl
theorem c20 {bj a n : Nat} {k : RK} {B : List Int} (H : Has σ L) (hm : (bj, AObj.row k (cells8 B)) ∈ L) (hB : ∀ c ∈ B, 0 ≤ c ∧ c < 256) (hl : B.length = 1024) (hn : n = 1 ∨ n = 4) (ha : a + n ≤ 1024)
    (hK : K (.tuple ⟨[u32 (beV ((B.drop a).take n)), i64 0]⟩) σ) : Tri Tryz.prog 20 [.slice (some ⟨bj, 0, none⟩) 1024 1, i64 a, i64 n] σ K := tri_in (by
  rw [s20]
  have loop : ALoop (fl Tryz.prog hintsS (Tri Tryz.prog) 20 [true, true, true, false, true, false] [] K) [(0, some (.slice (some ⟨bj, 0, none⟩) 1024 1)), (1, some (i64 a)), (2, some (i64 n)), (8, some (i64 0)), (9, some (i64 0))] σ := by
    refine aloop (fun (i : Nat) rg σ' => i ≤ n ∧ σ' = σ ∧ rg = [(0, some (.slice (some ⟨bj, 0, none⟩) 1024 1)), (1, some (i64 a)), (2, some (i64 n)), (8, some (i64 (beV ((B.drop a).take i)))), (9, some (i64 i))]) (fun i => n - i) ?_ (a := 0) ⟨Nat.zero_le _, rfl, rfl⟩
    rintro i rg σ1 X hX ⟨hi, rfl, rfl⟩
    rw [s20l]
    have hd : ∀ c ∈ B.drop a, 0 ≤ c ∧ c < 256 := fun c h => hB c (List.mem_of_mem_drop h)
    refine bmd_mk (fun h => ?_) (fun h => ?_)
    · have w1 : IntKind.wrap .i64 (((1024 : Nat) : Int) - i) = ((1024 - i : Nat) : Int) := by rw [wrap64 (by omega) (by omega)]; omega
      have w2 : IntKind.wrap .i64 ((a : Int) + i) = ((a + i : Nat) : Int) := by rw [wrap64 (by omega) (by omega)]; omega
      rw [w1, w2]
      refine bmd_mk (fun g => by omega) (fun _ => req_mk (by omega) (req_mk (by omega) ?_))
      obtain ⟨v, hv⟩ : ∃ v, B[a + i]? = some v := ⟨B[a + i]'(by omega), by simp⟩
      simp only [pSome_some, aadd_none, szP5, Int.toNat_natCast, Nat.mul_one, Nat.zero_add]
      refine req_mk trivial (ldm H hm (c8get hv) (tI_mk ?_))
      have hvb := hB v (List.mem_of_getElem? hv)
      have hx := beV_take hd i
      have hp : (256 : Int) ^ i ≤ 256 ^ 3 := by
        have : (256 : Nat) ^ i ≤ 256 ^ 3 := Nat.pow_le_pow_right (by omega) (by omega)
        have h2 : ((256 : Int) ^ i) = ((256 ^ i : Nat) : Int) := by simp
        rw [h2]; omega
      have hd1 : (B.drop a)[i]? = some v := by rw [List.getElem?_drop]; exact hv
      have e1 : (B.drop a).take (i + 1) = (B.drop a).take i ++ [v] := by rw [List.take_add_one, hd1]; rfl
      have w3 : IntKind.wrap .i64 (IntKind.wrap .i64 (256 * beV ((B.drop a).take i)) + IntKind.wrap .i64 v) = beV ((B.drop a).take (i + 1)) := by
        rw [wrap64 (n := v) (by omega) (by omega), wrap64 (n := 256 * _) (by omega) (by omega), wrap64 (by omega) (by omega), e1, beV_snoc]
        omega
      have w4 : IntKind.wrap .i64 ((i : Int) + 1) = ((i + 1 : Nat) : Int) := by rw [wrap64 (by omega) (by omega)]; omega
      rw [w3, w4]
      exact hX (i + 1) _ _ (by omega) ⟨by omega, rfl, rfl⟩
    · have e : i = n := by omega
      subst e
      have hx := beV_take hd i
      have hp : (256 : Int) ^ i ≤ 4294967296 := by rcases hn with rfl | rfl <;> decide
      rw [wrapU32 (by omega) (by omega)]
      exact hK
  rcases hn with rfl | rfl
  · refine bm_mk (fun h => by simp at h) (fun _ => bmd_mk (fun h => by omega) (fun _ => loop))
  · refine bm_mk (fun _ => bm_mk (fun _ => bm_mk (fun h => by simp at h) (fun _ => bmd_mk (fun h => by omega) (fun _ => loop))) (fun h => by simp at h)) (fun h => by simp at h))
theorem c122 {m bj a n : Nat} {la : Option Addr} {ln le : Nat} {k : RK} {B : List Int} (H : Has σ L) (hs : (m, spO bj la ln le) ∈ L) (hm : (bj, AObj.row k (cells8 B)) ∈ L) (hB : ∀ c ∈ B, 0 ≤ c ∧ c < 256) (hl : B.length = 1024) (hn : n = 1 ∨ n = 4) (ha : a + n ≤ 1024)
    (hK : K (.tuple ⟨[u32 (beV ((B.drop a).take n)), i64 0]⟩) σ) : Tri Tryz.prog 122 [ptr m, u32 a, i64 n] σ K := tri_in (by
  rw [s122]
  refine ldm H hs rfl ?_
  simp only [tP_ptr, ptrEq_none, Bool.not_true, bm_false]
  refine ldm H hs rfl (tL_mk ?_)
  rw [wrap64 (n := (a : Int)) (by omega) (by omega), wrap64 (n := (a : Int) + n) (by omega) (by omega)]
  refine bmd_mk (fun h => by simp only at h; omega) (fun _ => ?_)
  refine ldm H hs rfl (tL_mk ?_)
  refine c20 H hm hB hl hn ha ?_
  simp only [tTup_tup, pSome_some, List.getElem?_cons_zero, List.getElem?_cons_succ, tI_int]
  exact hK)
/-- Bytes in a memory, from a place on. -/
def setN (B : List Int) (a : Nat) (P : List Int) : List Int := B.take a ++ P ++ B.drop (a + P.length)
theorem setN_nil (B : List Int) (a : Nat) : setN B a [] = B := by unfold setN; simp
theorem setN_len {B P : List Int} {a : Nat} (h : a + P.length ≤ B.length) : (setN B a P).length = B.length := by
  unfold setN; simp; omega
theorem setN_snoc {B P : List Int} {a : Nat} {v : Int} (h : a + P.length < B.length) : (setN B a P).set (a + P.length) v = setN B a (P ++ [v]) := by
  unfold setN
  have e1 : (B.take a ++ P).length = a + P.length := by simp; omega
  rw [List.set_append_right _ _ (by omega), e1, Nat.sub_self]
  rw [List.drop_eq_getElem_cons h, List.set_cons_zero]
  simp [Nat.add_assoc]
end
end Go.AI
end
section
set_option linter.unusedSimpArgs false
set_option linter.unusedVariables false
set_option maxRecDepth 1000000
/- A world with one stream on memory: a character comes to it; no condition but those that each names. -/
namespace Go.AI
open Go.Proofs
/-- Of what the world of such a law consists. -/
def wM (u : Int) (w : Bool) (tm tr fm sm sh al g ob m ar bu st ro bj : Nat) (x place written : Int) (k : Nat) (C B : List Int) : List AObj :=
  [.map [] 0, .row .plain [i64 20, i64 10, i64 0, i64 0, .map (some tm)], .map [] 0, .map [.mk (i64 1) (ptr st) 0] 1, .row .plain [i64 1048576, i64 1, .map (some fm), .map (some sm)],
   .map [.mk (u32 1) (ptr ob) 0] 1, .row .plain [u32 1, .map (some al), ptr tr, ptr sh, .slice none 0 0, .slice none 0 0, u32 0, .bool false],
   .row .plain [i64 2, u32 5, i64 0, u32 0, u32 0, .slice none 0 0, .map none, u32 0, u32 0, i64 0, u32 0, u32 0, u32 0, i64 1, u32 100, i64 u, .bool true, u32 0, .string (ByteArray.mk #[])],
   spO bj none 0 0, .row .rw [u32 1, u32 x], .row .plain [.slice (some ⟨ro, 0, none⟩) k 1, .bool w],
   .row .plain [.iface 270 (ptr bu), .pointer none, i64 1, i64 place, u32 0, u32 written], .row .rw (cellsU C), .row .rw (cells8 B)]
theorem ren_int (π : Nat → Nat) (k : IntKind) (l : List Int) : (l.map (Value.int k)).map (renV π) = l.map (Value.int k) := by
  rw [List.map_map]
  apply List.map_congr_left
  intro a _
  simp [renV]
theorem wM_ren (u : Int) (w : Bool) (tm tr fm sm sh al g ob m ar bu st ro bj : Nat) (x place written : Int) (k : Nat) (C B : List Int) (q : Nat) :
    (wM u w 0 1 2 3 4 5 6 7 8 9 10 11 12 13 x place written k C B).map (renO (pf [tm, tr, fm, sm, sh, al, g, ob, m, ar, bu, st, ro, bj] q)) = wM u w tm tr fm sm sh al g ob m ar bu st ro bj x place written k C B := by
  simp [wM, renO, renV, renE, pf, spO, ren_int, cellsU, cells8]
theorem nput4 : ∀ (x place written : Int) (k : Nat) (C B : List Int) (K : Value → AS → Prop),
    callN Tryz.prog hints glE 80 16 [ptr 6, .iface 29 (ptr 8), u32 299, .slice (some ⟨9, 0, none⟩) 2 1] (can (wM 4 true 0 1 2 3 4 5 6 7 8 9 10 11 12 13 x place written k C B)) K =
      bmatch (decide (place < (k : Int))) (req (0 ≤ place) (req (place < (k : Int)) (req (0 + place.toNat * szOf Tryz.prog 32 < (cellsU C).length) (req (place = place)
        (K (.tuple ⟨[u32 0, i64 0]⟩) (can
          ([.map [] 0, .row .plain [i64 20, i64 10, i64 0, i64 0, .map (some 0)], .map [] 0, .map [.mk (i64 1) (ptr 11) 0] 1, .row .plain [i64 1048576, i64 1, .map (some 2), .map (some 3)],
   .map [.mk (u32 1) (ptr 7) 0] 1, .row .plain [u32 1, .map (some 5), ptr 1, ptr 4, .slice none 0 0, .slice none 0 0, u32 0, .bool false],
   .row .plain [i64 2, u32 5, i64 0, u32 0, u32 0, .slice none 0 0, .map none, u32 0, u32 0, i64 0, u32 0, u32 0, u32 0, i64 1, u32 100, i64 4, .bool true, u32 0, .string (ByteArray.mk #[])],
   spO 13 none 0 0, .row .rw [u32 1, u32 x], .row .plain [.slice (some ⟨12, 0, none⟩) k 1, .bool true],
   .row .plain [.iface 270 (ptr 10), .pointer none, i64 1, i64 (imin (IntKind.wrap .i64 (place + 1)) k), u32 0, u32 (IntKind.wrap .u32 (written + IntKind.wrap .u32 (1 : Nat)))], .row .rw ((cellsU C).set (0 + place.toNat * szOf Tryz.prog 32) (u32 x)), .row .rw (cells8 B)] ++ [.row .plain [ptr 6, .iface 29 (ptr 8), .slice (some ⟨9, 0, none⟩) 2 1], .row .rw [u32 x]])))))))
        (req (place = place) (K (.tuple ⟨[u32 0, i64 0]⟩) (can (wM 4 true 0 1 2 3 4 5 6 7 8 9 10 11 12 13 x (imin (IntKind.wrap .i64 (place + 1)) k) (IntKind.wrap .u32 (written + IntKind.wrap .u32 (1 : Nat))) k C B ++ [.row .plain [ptr 6, .iface 29 (ptr 8), .slice (some ⟨9, 0, none⟩) 2 1], .row .rw [u32 x]])))) := by
  intros
  kernel_rfl
theorem nput1 : ∀ (x place written : Int) (k : Nat) (C B : List Int) (K : Value → AS → Prop),
    callN Tryz.prog hints glE 80 16 [ptr 6, .iface 29 (ptr 8), u32 299, .slice (some ⟨9, 0, none⟩) 2 1] (can (wM 1 false 0 1 2 3 4 5 6 7 8 9 10 11 12 13 x place written k C B)) K =
      bmatch (decide (x > 255)) (bmatch (decide (place < (k : Int))) (req (0 ≤ place) (req (place < (k : Int)) (req (0 + place.toNat * szOf Tryz.prog 32 < (cellsU C).length) (req (place = place)
        (K (.tuple ⟨[u32 0, i64 0]⟩) (can ([.map [] 0, .row .plain [i64 20, i64 10, i64 0, i64 0, .map (some 0)], .map [] 0, .map [.mk (i64 1) (ptr 11) 0] 1, .row .plain [i64 1048576, i64 1, .map (some 2), .map (some 3)],
   .map [.mk (u32 1) (ptr 7) 0] 1, .row .plain [u32 1, .map (some 5), ptr 1, ptr 4, .slice none 0 0, .slice none 0 0, u32 0, .bool false],
   .row .plain [i64 2, u32 5, i64 0, u32 0, u32 0, .slice none 0 0, .map none, u32 0, u32 0, i64 0, u32 0, u32 0, u32 0, i64 1, u32 100, i64 1, .bool true, u32 0, .string (ByteArray.mk #[])],
   spO 13 none 0 0, .row .rw [u32 1, u32 x], .row .plain [.slice (some ⟨12, 0, none⟩) k 1, .bool false],
   .row .plain [.iface 270 (ptr 10), .pointer none, i64 1, i64 (imin (IntKind.wrap .i64 (place + 1)) k), u32 0, u32 (IntKind.wrap .u32 (written + IntKind.wrap .u32 (1 : Nat)))], .row .rw ((cellsU C).set (0 + place.toNat * szOf Tryz.prog 32) (u32 (IntKind.wrap .u32 63))), .row .rw (cells8 B)] ++ [.row .plain [ptr 6, .iface 29 (ptr 8), .slice (some ⟨9, 0, none⟩) 2 1], .row .rw [u32 x]])))))))
        (req (place = place) (K (.tuple ⟨[u32 0, i64 0]⟩) (can (wM 1 false 0 1 2 3 4 5 6 7 8 9 10 11 12 13 x (imin (IntKind.wrap .i64 (place + 1)) k) (IntKind.wrap .u32 (written + IntKind.wrap .u32 (1 : Nat))) k C B ++ [.row .plain [ptr 6, .iface 29 (ptr 8), .slice (some ⟨9, 0, none⟩) 2 1], .row .rw [u32 x]]))))) (bmatch (decide (place < (k : Int))) (req (0 ≤ place) (req (place < (k : Int)) (req (0 + place.toNat * szOf Tryz.prog 32 < (cellsU C).length) (req (place = place)
        (K (.tuple ⟨[u32 0, i64 0]⟩) (can ([.map [] 0, .row .plain [i64 20, i64 10, i64 0, i64 0, .map (some 0)], .map [] 0, .map [.mk (i64 1) (ptr 11) 0] 1, .row .plain [i64 1048576, i64 1, .map (some 2), .map (some 3)],
   .map [.mk (u32 1) (ptr 7) 0] 1, .row .plain [u32 1, .map (some 5), ptr 1, ptr 4, .slice none 0 0, .slice none 0 0, u32 0, .bool false],
   .row .plain [i64 2, u32 5, i64 0, u32 0, u32 0, .slice none 0 0, .map none, u32 0, u32 0, i64 0, u32 0, u32 0, u32 0, i64 1, u32 100, i64 1, .bool true, u32 0, .string (ByteArray.mk #[])],
   spO 13 none 0 0, .row .rw [u32 1, u32 x], .row .plain [.slice (some ⟨12, 0, none⟩) k 1, .bool false],
   .row .plain [.iface 270 (ptr 10), .pointer none, i64 1, i64 (imin (IntKind.wrap .i64 (place + 1)) k), u32 0, u32 (IntKind.wrap .u32 (written + IntKind.wrap .u32 (1 : Nat)))], .row .rw ((cellsU C).set (0 + place.toNat * szOf Tryz.prog 32) (u32 (IntKind.wrap .u32 (IntKind.wrap .u8 x)))), .row .rw (cells8 B)] ++ [.row .plain [ptr 6, .iface 29 (ptr 8), .slice (some ⟨9, 0, none⟩) 2 1], .row .rw [u32 x]])))))))
        (req (place = place) (K (.tuple ⟨[u32 0, i64 0]⟩) (can (wM 1 false 0 1 2 3 4 5 6 7 8 9 10 11 12 13 x (imin (IntKind.wrap .i64 (place + 1)) k) (IntKind.wrap .u32 (written + IntKind.wrap .u32 (1 : Nat))) k C B ++ [.row .plain [ptr 6, .iface 29 (ptr 8), .slice (some ⟨9, 0, none⟩) 2 1], .row .rw [u32 x]]))))) := by
  intros
  kernel_rfl
/-- What is kept of a character. -/
def chM (w : Bool) (x : Int) : Int := if w = true then x else if x > 255 then 63 else x
theorem Eq.tri {f : Nat} {args : List Value} {σ : AS} {K : Value → AS → Prop} {A : Prop} (e : callN Tryz.prog hints glE 80 f args σ K = A) (h : A) : Tri Tryz.prog f args σ K := tri_hard (by rw [e]; exact h)
theorem imin_eq (a b : Int) : imin a b = if b < a then b else a := rfl
theorem tput {u : Int} {w : Bool} (huw : (u = 1 ∧ w = false) ∨ (u = 4 ∧ w = true)) {x written : Int} {p k : Nat} {C B : List Int} (hx : 0 ≤ x ∧ x ≤ 4294967295) (hp : p ≤ k) (hk : k ≤ 4096) (hC : C.length = k) :
    Tri Tryz.prog 16 [ptr 6, .iface 29 (ptr 8), u32 299, .slice (some ⟨9, 0, none⟩) 2 1] (can (wM u w 0 1 2 3 4 5 6 7 8 9 10 11 12 13 x p written k C B)) fun v σ0 => v = .tuple ⟨[u32 0, i64 0]⟩ ∧
      ∃ junk, σ0 = can (wM u w 0 1 2 3 4 5 6 7 8 9 10 11 12 13 x (if p < k then p + 1 else p : Nat) (IntKind.wrap .u32 (written + 1)) k (if p < k then C.set p (chM w x) else C) B ++ junk) := by
  have w1 : IntKind.wrap .u32 ((1 : Nat) : Int) = 1 := by decide
  have w2 : IntKind.wrap .i64 ((p : Int) + 1) = ((p + 1 : Nat) : Int) := by rw [wrap64 (by omega) (by omega)]; omega
  have hset : ∀ v, p < k → (cellsU C).set (0 + (p : Int).toNat * szOf Tryz.prog 32) (u32 v) = cellsU (C.set p v) := by
    intro v h
    rw [szP32, Int.toNat_natCast, Nat.mul_one, Nat.zero_add]
    exact (List.map_set ..).symm
  have hm : imin ((p + 1 : Nat) : Int) (k : Int) = ((if p < k then p + 1 else p : Nat) : Int) := by
    rw [imin_eq]
    by_cases h : p < k
    · rw [if_neg (by omega), if_pos h]
    · rw [if_pos (by omega), if_neg h]
      omega
  rcases huw with ⟨rfl, rfl⟩ | ⟨rfl, rfl⟩
  · refine Eq.tri (nput1 x p written k C B _) ?_
    rw [w1, w2, hm]
    have c1 : ∀ v, p < k → chM false x = v → ([.map [] 0, .row .plain [i64 20, i64 10, i64 0, i64 0, .map (some 0)], .map [] 0, .map [.mk (i64 1) (ptr 11) 0] 1, .row .plain [i64 1048576, i64 1, .map (some 2), .map (some 3)],
   .map [.mk (u32 1) (ptr 7) 0] 1, .row .plain [u32 1, .map (some 5), ptr 1, ptr 4, .slice none 0 0, .slice none 0 0, u32 0, .bool false],
   .row .plain [i64 2, u32 5, i64 0, u32 0, u32 0, .slice none 0 0, .map none, u32 0, u32 0, i64 0, u32 0, u32 0, u32 0, i64 1, u32 100, i64 1, .bool true, u32 0, .string (ByteArray.mk #[])],
   spO 13 none 0 0, .row .rw [u32 1, u32 x], .row .plain [.slice (some ⟨12, 0, none⟩) k 1, .bool false],
   .row .plain [.iface 270 (ptr 10), .pointer none, i64 1, i64 (if p < k then p + 1 else p : Nat), u32 0, u32 (IntKind.wrap .u32 (written + 1))], .row .rw ((cellsU C).set (0 + (p : Int).toNat * szOf Tryz.prog 32) (u32 v)), .row .rw (cells8 B)] : List AObj) =
        wM 1 false 0 1 2 3 4 5 6 7 8 9 10 11 12 13 x (if p < k then p + 1 else p : Nat) (IntKind.wrap .u32 (written + 1)) k (if p < k then C.set p (chM false x) else C) B := by
      intro v h e
      rw [hset v h, if_pos h, if_pos h, e]
      rfl
    refine bmd_mk (fun h1 => ?_) (fun h1 => ?_)
    all_goals
      refine bmd_mk (fun h => req_mk (by omega) (req_mk h (req_mk ?_ (req_mk rfl ⟨rfl, [.row .plain [ptr 6, .iface 29 (ptr 8), .slice (some ⟨9, 0, none⟩) 2 1], .row .rw [u32 x]], ?_⟩)))) (fun h => req_mk rfl ⟨rfl, [.row .plain [ptr 6, .iface 29 (ptr 8), .slice (some ⟨9, 0, none⟩) 2 1], .row .rw [u32 x]], ?_⟩)
      · rw [szP32, Int.toNat_natCast]; simp; omega
    · rw [c1 _ (by omega)]
      unfold chM
      rw [if_neg (by simp), if_pos h1]
      decide
    · have hlt : ¬ p < k := by omega
      rw [if_neg hlt, if_neg hlt]
    · rw [c1 _ (by omega)]
      unfold chM
      rw [if_neg (by simp), if_neg h1, wrapU8 (by omega) (by omega), wrapU32 (by omega) (by omega)]
    · have hlt : ¬ p < k := by omega
      rw [if_neg hlt, if_neg hlt]
  · refine Eq.tri (nput4 x p written k C B _) ?_
    rw [w1, w2, hm]
    refine bmd_mk (fun h => req_mk (by omega) (req_mk h (req_mk ?_ (req_mk rfl ⟨rfl, [.row .plain [ptr 6, .iface 29 (ptr 8), .slice (some ⟨9, 0, none⟩) 2 1], .row .rw [u32 x]], ?_⟩)))) (fun h => req_mk rfl ⟨rfl, [.row .plain [ptr 6, .iface 29 (ptr 8), .slice (some ⟨9, 0, none⟩) 2 1], .row .rw [u32 x]], ?_⟩)
    · rw [szP32, Int.toNat_natCast]; simp; omega
    · have hlt : p < k := by omega
      rw [hset x hlt, if_pos hlt, if_pos hlt]
      rfl
    · have hlt : ¬ p < k := by omega
      rw [if_neg hlt, if_neg hlt]
section
variable {σ : AS} {K : Value → AS → Prop}
/-- A character comes to the stream on memory. -/
theorem cput {u : Int} {w : Bool} (huw : (u = 1 ∧ w = false) ∨ (u = 4 ∧ w = true)) {tm tr fm sm sh al g ob m ar bu st ro bj : Nat} {x written : Int} {p k : Nat} {C B : List Int} {Fr : List (Nat × AObj)} (hx : 0 ≤ x ∧ x ≤ 4294967295) (hp : p ≤ k) (hk : k ≤ 4096) (hC : C.length = k)
    (H : Has σ (pairs [tm, tr, fm, sm, sh, al, g, ob, m, ar, bu, st, ro, bj] (wM u w tm tr fm sm sh al g ob m ar bu st ro bj x p written k C B) ++ Fr))
    (hK : ∀ σ', Has σ' (pairs [tm, tr, fm, sm, sh, al, g, ob, m, ar, bu, st, ro, bj] (wM u w tm tr fm sm sh al g ob m ar bu st ro bj x (if p < k then p + 1 else p : Nat) (IntKind.wrap .u32 (written + 1)) k (if p < k then C.set p (chM w x) else C) B) ++ Fr) → K (.tuple ⟨[u32 0, i64 0]⟩) σ') :
    Tri Tryz.prog 16 [ptr g, .iface 29 (ptr m), u32 299, .slice (some ⟨ar, 0, none⟩) 2 1] σ K := by
  refine tri_can2 (tput (B := B) (written := written) huw hx hp hk hC) (ids := [tm, tr, fm, sm, sh, al, g, ob, m, ar, bu, st, ro, bj]) (Fr := Fr) rfl rfl rfl ?_ ?_ fun q σ' H' => ?_
  · rw [wM_ren]; exact H
  · simp [renVs, renV, pf]
  · rw [wM_ren] at H'
    have := hK σ' H'
    simpa [renVs, renV] using this
end
end Go.AI
end
section
set_option linter.unusedSimpArgs false
set_option linter.unusedVariables false
set_option maxRecDepth 1000000
/- A world made, a space made, numbers as bytes, what is told: each reckoned once in a small state; no condition but those that each names. -/
namespace Go.AI
open Go.Proofs
theorem n13 : ∀ (K : Value → AS → Prop), callN Tryz.prog hints glE 80 13 [i64 20, i64 10, .slice none 0 0] (can []) K =
    K (.tuple ⟨[ptr 6, i64 0]⟩) (can [.map [] 0, .row .plain [i64 20, i64 10, i64 0, i64 0, .map (some 0)], .map [] 0, .map [] 0, .row .plain [i64 1048576, i64 0, .map (some 2), .map (some 3)], .map [] 0, .row .plain [u32 0, .map (some 5), ptr 1, ptr 4, .slice none 0 0, .slice none 0 0, u32 0, .bool false]]) := by
  intros
  kernel_rfl
/-- A byte of a number. -/
def by8 (d x : Int) : Int := IntKind.wrap .u8 (Int.tmod (IntKind.wrap .i64 (Int.tdiv (IntKind.wrap .i64 x) d)) 256)
def d1 : Int := IntKind.wrap .i64 (256 * IntKind.wrap .i64 (256 * IntKind.wrap .i64 (256 * 1)))
def d2 : Int := IntKind.wrap .i64 (Int.tdiv d1 256)
def d3 : Int := IntKind.wrap .i64 (Int.tdiv d2 256)
def d4 : Int := IntKind.wrap .i64 (Int.tdiv d3 256)
theorem n140a : ∀ (x : Int) (K : Value → AS → Prop), callN Tryz.prog hints glE 80 140 [u32 x, i64 1] (can []) K = K (.slice (some ⟨1, 0, none⟩) 1 1) (can [.row .rw [u8 (by8 1 x)], .row .rw [u8 (by8 1 x)]]) := by
  intros
  kernel_rfl
theorem n140b : ∀ (x : Int) (K : Value → AS → Prop), callN Tryz.prog hints glE 80 140 [u32 x, i64 4] (can []) K = K (.slice (some ⟨7, 0, none⟩) 4 1)
    (can [.row .rw [u8 (by8 d1 x)], .dead, .row .rw [u8 (by8 d2 x)], .dead, .row .rw [u8 (by8 d3 x)], .dead, .row .rw [u8 (by8 d4 x)], .row .rw [u8 (by8 d1 x), u8 (by8 d2 x), u8 (by8 d3 x), u8 (by8 d4 x)]]) := by
  intros
  kernel_rfl
theorem n92x : ∀ (a b : Int) (s a0 x0 : Value) (K : Value → AS → Prop),
    callN Tryz.prog hints glE 80 92 [ptr 0, u32 0, u32 4294967295, .slice (some ⟨2, 0, none⟩) 2 1] (can [.row .plain [a0, .iface 29 (ptr 1), x0], .row .plain [s, .slice none 0 0, i64 200, .pointer none, .pointer none], .row .rw [u32 a, u32 b]]) K =
    K (.tuple ⟨[u32 0, i64 0]⟩) (can [.row .plain [a0, .iface 29 (ptr 1), x0], .row .plain [s, .slice (some ⟨6, 0, none⟩) 2 1, i64 200, .pointer none, .pointer none], .row .rw [u32 a, u32 b], .row .rw [u32 a], .dead, .row .rw [u32 b], .row .rw [u32 a, u32 b]]) := by
  intros
  kernel_rfl
theorem n160 : ∀ (pl r wr : Int) (C : List Int) (n : Nat) (w : Bool) (K : Value → AS → Prop),
    callN Tryz.prog hints glE 80 160 [ptr 0, i64 1] (can [.row .plain [i64 1048576, i64 1, .map (some 2), .map (some 1)], .map [.mk (i64 1) (ptr 3) 0] 1, .map [] 0, .row .plain [.iface 270 (ptr 4), .pointer none, i64 1, i64 pl, u32 r, u32 wr], .row .plain [.slice (some ⟨5, 0, none⟩) n 1, .bool w], .row .rw (cellsU C)]) K =
    K (.tuple ⟨[u32 r, u32 wr, .slice (some ⟨5, 0, none⟩) n 1, i64 0]⟩) (can ([.row .plain [i64 1048576, i64 1, .map (some 2), .map (some 1)], .map [] 1, .map [] 0, .row .plain [.iface 270 (ptr 4), .pointer none, i64 1, i64 pl, u32 r, u32 wr], .row .plain [.slice (some ⟨5, 0, none⟩) n 1, .bool w], .row .rw (cellsU C)] ++ [.row .plain [ptr 3]])) := by
  intros
  kernel_rfl
theorem n185 : ∀ (K : Value → AS → Prop) (a b c d e f : Value), callN Tryz.prog hints glE 80 185 [ptr 0, ptr 3] (can [.row .plain [i64 1048576, i64 0, .map (some 1), .map (some 2)], .map [] 0, .map [] 0, .row .plain [a, b, c, d, e, f]]) K =
    K (i64 1) (can ([.row .plain [i64 1048576, i64 1, .map (some 1), .map (some 2)], .map [] 0, .map [.mk (i64 1) (ptr 3) 0] 1, .row .plain [a, b, c, d, e, f]] ++ [])) := by
  intros
  kernel_rfl
theorem n157 : ∀ (K : Value → AS → Prop) (a b c d e f : Value), callN Tryz.prog hints glE 80 157 [ptr 0, ptr 2] (can [.row .plain [u32 0, .map (some 1), a, b, c, d, e, f], .map [] 0, .row .plain []]) K =
    K (u32 1) (can ([.row .plain [u32 1, .map (some 1), a, b, c, d, e, f], .map [.mk (u32 1) (ptr 2) 0] 1, .row .plain []] ++ [])) := by
  intros
  kernel_rfl
end Go.AI
end
section
set_option linter.unusedSimpArgs false
set_option linter.unusedVariables false
set_option maxRecDepth 100000
/- A world made, numbers as bytes, a space written, what is told: contracts; no condition but those that each names. -/
namespace Go.AI
open Go.Proofs
section
variable {σ : AS} {K : Value → AS → Prop} {L M Fr : List (Nat × AObj)}
theorem c13 (H : Has σ L)
    (hK : ∀ (tm tr fm sm sh al g : Nat) σ', Has σ' ([(tm, .map [] 0), (tr, .row .plain [i64 20, i64 10, i64 0, i64 0, .map (some tm)]), (fm, .map [] 0), (sm, .map [] 0), (sh, .row .plain [i64 1048576, i64 0, .map (some fm), .map (some sm)]), (al, .map [] 0), (g, .row .plain [u32 0, .map (some al), ptr tr, ptr sh, .slice none 0 0, .slice none 0 0, u32 0, .bool false])] ++ L) → K (.tuple ⟨[ptr g, i64 0]⟩) σ') :
    Tri Tryz.prog 13 [i64 20, i64 10, .slice none 0 0] σ K := by
  refine tri_can (K0 := fun v σ0 => v = .tuple ⟨[ptr 6, i64 0]⟩ ∧ σ0 = _) (Eq.tri (n13 _) ⟨rfl, rfl⟩) (ids := []) (Fr := L) rfl rfl (by simpa [pairs] using H) (by simp [renVs, renV]) ?_
  rintro v σ0 ⟨rfl, rfl⟩ k σ' hh
  have h := hh [(0, _), (1, _), (2, _), (3, _), (4, _), (5, _), (6, _)] ⟨by simp, by
    intro p hp
    simp only [List.mem_cons, List.not_mem_nil, or_false] at hp
    rcases hp with rfl | rfl | rfl | rfl | rfl | rfl | rfl <;> rfl⟩ rfl
  have h2 := hK (k + 0) (k + 1) (k + 2) (k + 3) (k + 4) (k + 5) (k + 6) σ' (by simpa [renP, renO, renV, renE, pf] using h)
  simpa [renVs, renV, pf] using h2
/-- The bytes of a number. -/
def beP (n : Nat) (x : Int) : List Int := if n = 1 then [x % 256] else [x / 16777216 % 256, x / 65536 % 256, x / 256 % 256, x % 256]
theorem by8_eq {d x : Int} (hd : d = 1 ∨ d = 256 ∨ d = 65536 ∨ d = 16777216) (hx : 0 ≤ x ∧ x ≤ 4294967295) : by8 d x = x / d % 256 := by
  unfold by8
  have h0 : 0 ≤ x / d ∧ x / d ≤ 4294967295 := by rcases hd with rfl | rfl | rfl | rfl <;> omega
  rw [wrap64 (n := x) (by omega) (by omega), Int.tdiv_eq_ediv_of_nonneg hx.1, wrap64 (by omega) (by omega), Int.tmod_eq_emod_of_nonneg h0.1, wrapU8 (by omega) (by omega)]
theorem dd1 : d1 = 16777216 := by decide
theorem dd2 : d2 = 65536 := by decide
theorem dd3 : d3 = 256 := by decide
theorem dd4 : d4 = 1 := by decide
theorem c140 {n : Nat} {x : Int} (H : Has σ L) (hn : n = 1 ∨ n = 4) (hx : 0 ≤ x ∧ x ≤ 4294967295)
    (hK : ∀ j σ', Has σ' ((j, .row .rw (cells8 (beP n x))) :: L) → K (.slice (some ⟨j, 0, none⟩) n 1) σ') : Tri Tryz.prog 140 [u32 x, i64 n] σ K := by
  rcases hn with rfl | rfl
  · refine tri_can (K0 := fun v σ0 => v = .slice (some ⟨1, 0, none⟩) 1 1 ∧ σ0 = _) (Eq.tri (n140a x _) ⟨rfl, rfl⟩) (ids := []) (Fr := L) rfl rfl (by simpa [pairs] using H) (by simp [renVs, renV]) ?_
    rintro v σ0 ⟨rfl, rfl⟩ k σ' hh
    have h := hh [(1, _)] ⟨by simp, by
      intro p hp
      simp only [List.mem_cons, List.not_mem_nil, or_false] at hp
      rcases hp with rfl; rfl⟩ rfl
    have h2 := hK (k + 1) σ' (by simpa [renP, renO, renV, renE, pf, beP, by8_eq (.inl rfl) hx] using h)
    simpa [renVs, renV, pf] using h2
  · refine tri_can (K0 := fun v σ0 => v = .slice (some ⟨7, 0, none⟩) 4 1 ∧ σ0 = _) (Eq.tri (n140b x _) ⟨rfl, rfl⟩) (ids := []) (Fr := L) rfl rfl (by simpa [pairs] using H) (by simp [renVs, renV]) ?_
    rintro v σ0 ⟨rfl, rfl⟩ k σ' hh
    have h := hh [(7, _)] ⟨by simp, by
      intro p hp
      simp only [List.mem_cons, List.not_mem_nil, or_false] at hp
      rcases hp with rfl; rfl⟩ rfl
    have h2 := hK (k + 7) σ' (by simpa [renP, renO, renV, renE, pf, beP, dd1, dd2, dd3, dd4, by8_eq (.inl rfl) hx, by8_eq (.inr (.inl rfl)) hx, by8_eq (.inr (.inr (.inl rfl))) hx, by8_eq (.inr (.inr (.inr rfl))) hx] using h)
    simpa [renVs, renV, pf] using h2
theorem beP_len {n : Nat} {x : Int} (hn : n = 1 ∨ n = 4) : (beP n x).length = n := by rcases hn with rfl | rfl <;> rfl
theorem beP_byte {n : Nat} {x : Int} : ∀ c ∈ beP n x, 0 ≤ c ∧ c < 256 := by
  intro c hc
  unfold beP at hc
  split at hc <;> simp only [List.mem_cons, List.not_mem_nil, or_false] at hc
  · subst hc; omega
  · rcases hc with rfl | rfl | rfl | rfl <;> omega
theorem beV_beP {n : Nat} {x : Int} (hn : n = 1 ∨ n = 4) (hx : 0 ≤ x ∧ x ≤ 4294967295) (h1 : n = 1 → x ≤ 255) : beV (beP n x) = x := by
  rcases hn with rfl | rfl
  · have := h1 rfl
    simp [beV, beP]; omega
  · simp [beV, beP]; omega
/-- A space is written. -/
theorem c128 {m bj a n : Nat} {x : Int} {la : Option Addr} {ln le : Nat} {B : List Int} (H : Has σ ((bj, .row .rw (cells8 B)) :: (m, spO bj la ln le) :: M)) (hl : B.length = 1024) (hn : n = 1 ∨ n = 4) (hx : 0 ≤ x ∧ x ≤ 4294967295) (ha : a + n ≤ 1024)
    (hK : ∀ σ', Has σ' ((bj, .row .rw (cells8 (setN B a (beP n x)))) :: (m, spO bj la ln le) :: M) → K (i64 0) σ') : Tri Tryz.prog 128 [ptr m, u32 a, i64 n, u32 x] σ K := tri_in (by
  rw [s128]
  refine ldm H (List.mem_cons_of_mem _ List.mem_cons_self) rfl ?_
  simp only [tP_ptr, ptrEq_none, Bool.not_true, bm_false]
  refine ldm H (List.mem_cons_of_mem _ List.mem_cons_self) rfl (tL_mk ?_)
  rw [wrap64 (n := (a : Int)) (by omega) (by omega), wrap64 (n := (a : Int) + n) (by omega) (by omega)]
  refine bmd_mk (fun h => by simp only at h; omega) (fun _ => ?_)
  refine c140 H hn hx fun j σ1 H1 => ?_
  refine tL_mk ?_
  have hPl := beP_len (x := x) hn
  generalize beP n x = P at *
  have loop : ALoop (fl Tryz.prog hintsS (Tri Tryz.prog) 128 [true, true, true, true, false, true, false] [] K) [(0, some (ptr m)), (1, some (u32 a)), (2, some (i64 n)), (9, some (.slice (some ⟨j, 0, none⟩) n 1)), (10, some (i64 0))] σ1 := by
    refine aloop (fun (i : Nat) rg σ' => i ≤ n ∧ Has σ' ((bj, .row .rw (cells8 (setN B a (P.take i)))) :: (j, .row .rw (cells8 P)) :: (m, spO bj la ln le) :: M) ∧ rg = [(0, some (ptr m)), (1, some (u32 a)), (2, some (i64 n)), (9, some (.slice (some ⟨j, 0, none⟩) n 1)), (10, some (i64 i))]) (fun i => n - i) ?_ (a := 0) ⟨Nat.zero_le _, ?_, rfl⟩
    · rintro i rg σ2 X hX ⟨hi, H2, rfl⟩
      rw [s128l]
      refine bmd_mk (fun h => ?_) (fun h => ?_)
      · refine ldm H2 (List.mem_cons_of_mem _ (List.mem_cons_of_mem _ List.mem_cons_self)) rfl (tL_mk ?_)
        refine req_mk (by omega) (req_mk h ?_)
        simp only [pSome_some, aadd_none, szP5, Int.toNat_natCast, Nat.mul_one, Nat.zero_add]
        refine req_mk trivial ?_
        obtain ⟨v, hv⟩ : ∃ v, P[i]? = some v := ⟨P[i]'(by omega), by simp⟩
        refine ldm H2 (List.mem_cons_of_mem _ List.mem_cons_self) (c8get hv) (tI_mk ?_)
        have w2 : IntKind.wrap .i64 (IntKind.wrap .i64 (a : Int) + i) = ((a + i : Nat) : Int) := by rw [wrap64 (n := (a : Int)) (by omega) (by omega), wrap64 (by omega) (by omega)]; omega
        have w4 : IntKind.wrap .i64 ((i : Int) + 1) = ((i + 1 : Nat) : Int) := by rw [wrap64 (by omega) (by omega)]; omega
        rw [w2, w4]
        refine req_mk (by omega) (req_mk (by omega) ?_)
        simp only [pSome_some, aadd_none, Int.toNat_natCast, Nat.zero_add]
        have e0 : (P.take i).length = i := by simp; omega
        refine put0 H2 rfl ?_ fun σ3 H3 => ?_
        · simp only [List.length_map]
          rw [setN_len (by rw [e0]; omega)]
          omega
        have es : (cells8 (setN B a (P.take i))).set (a + i) (u8 v) = cells8 (setN B a (P.take (i + 1))) := by
          have := setN_snoc (B := B) (P := P.take i) (a := a) (v := v) (by rw [e0]; omega)
          rw [e0] at this
          rw [List.take_add_one, hv]
          simp only [Option.toList]
          rw [← this]
          exact (List.map_set ..).symm
        rw [es] at H3
        exact hX (i + 1) _ _ (by omega) ⟨by omega, H3, rfl⟩
      · have e : i = n := by omega
        subst e
        rw [List.take_of_length_le (by omega)] at H2
        exact hK _ (H2.sep fun p => by simp only [cnt_cons, cnt_app, cnt_nil]; omega)
    · rw [List.take_zero, setN_nil]
      exact H1.sep fun p => by simp only [cnt_cons, cnt_app, cnt_nil]; omega
  exact loop)
end
end Go.AI
end
section
set_option linter.unusedSimpArgs false
set_option linter.unusedVariables false
set_option maxRecDepth 100000
/- What is told on the stack; a thing of the shelf and of the world added; a stream closed: contracts; no condition but those that each names. -/
namespace Go.AI
open Go.Proofs
section
variable {σ : AS} {K : Value → AS → Prop} {L M Fr : List (Nat × AObj)}
theorem c190 {m bj ln le : Nat} {la : Option Addr} {S : List Int} {rows : List (Nat × AObj)} {x : Int} (hs : SlC 1 la le (cellsU S) rows) (hn : S.length = ln) (hln : ln < 200) (H : Has σ (rows ++ ((m, spO bj la ln le) :: M)))
    (hK : ∀ a' rows' σ', SlC 1 a' 1 (cellsU (S ++ [x])) rows' → Has σ' (rows' ++ ((m, spO bj a' (ln + 1) 1) :: M)) → K (i64 0) σ') : Tri Tryz.prog 190 [ptr m, u32 x] σ K := tri_in (by
  rw [s190]
  have hm : (m, spO bj la ln le) ∈ rows ++ ((m, spO bj la ln le) :: M) := List.mem_append_right _ List.mem_cons_self
  refine ldm H hm rfl ?_
  simp only [tP_ptr, ptrEq_none, Bool.not_true, bm_false]
  refine ldm H hm rfl (tL_ok hs.no ?_)
  refine ldm H hm rfl (tI_mk ?_)
  refine bmd_mk (fun h => by simp only at h; omega) (fun _ => ?_)
  refine ldm H hm rfl (tL_ok hs.no ?_)
  refine newAt_mk H fun i0 σ1 H1 => ?_
  refine lds_mk H1 0 rfl (by simp) ?_
  refine appC (new := [u32 x]) (m := 1) hs (H1.sep (M := rows ++ ((i0, .row .rw [u32 x]) :: (m, spO bj la ln le) :: M)) (fun a => by simp only [cnt_app, cnt_cons, cnt_nil, u32]; omega)) (by simp; omega) rfl (by omega) (by omega) fun a' σ2 rows' hs' H2 => ?_
  refine put0 (M := rows' ++ M) (H2.sep (M := (m, spO bj la ln le) :: (rows' ++ M)) (fun a => by simp only [cnt_app, cnt_cons, cnt_nil, u32]; omega)) rfl (by simp) fun σ3 H3 => ?_
  refine hK a' rows' σ3 (by simpa [cellsU] using hs') (H3.sep fun a => by simp only [cnt_app, cnt_cons, cnt_nil, spO, u32, i64, List.set_cons_zero, List.set_cons_succ]; omega))
theorem mPush : methodOf Tryz.prog 29 "Push" = some 190 := by kernel_rfl
theorem mGet : methodOf Tryz.prog 29 "Get" = some 122 := by kernel_rfl
theorem mSet : methodOf Tryz.prog 29 "Set" = some 128 := by kernel_rfl
theorem cU {B : List Int} {i : Nat} {v : Int} (h : B[i]? = some v) : (cellsU B)[i]? = some (u32 v) := by simp [cellsU, h]
/-- Numbers told on the stack. -/
theorem c147 {c m bj ln le j : Nat} {la : Option Addr} {S V : List Int} {rows : List (Nat × AObj)} {cg ca : Value} (hs : SlC 1 la le (cellsU S) rows) (hn : S.length = ln) (hln : ln + V.length ≤ 200)
    (hc : (c, AObj.row .plain [cg, .iface 29 (ptr m), ca]) ∈ M) (hj : (j, AObj.row .rw (cellsU V)) ∈ M) (H : Has σ (rows ++ ((m, spO bj la ln le) :: M)))
    (hK : ∀ a' e' rows' σ', SlC 1 a' e' (cellsU (S ++ V)) rows' → Has σ' (rows' ++ ((m, spO bj a' (ln + V.length) e') :: M)) → K (i64 0) σ') :
    Tri Tryz.prog 147 [ptr c, u32 4294967295, .slice (some ⟨j, 0, none⟩) V.length 1] σ K := tri_in (by
  rw [s147]
  refine aloop (fun (i : Nat) rg σ' => i ≤ V.length ∧ (∃ a' e' rows', SlC 1 a' e' (cellsU (S ++ V.take i)) rows' ∧ Has σ' (rows' ++ ((m, spO bj a' (ln + i) e') :: M))) ∧ rg = [(0, some (ptr c)), (1, some (u32 4294967295)), (10, some (.slice (some ⟨j, 0, none⟩) V.length 1)), (11, some (i64 (V.length : Nat))), (12, some (i64 i))]) (fun i => V.length - i) ?_ (a := 0) ⟨Nat.zero_le _, ⟨la, le, rows, by simpa using hs, H⟩, rfl⟩
  rintro i rg σ2 X hX ⟨hi, ⟨a', e', rows', hs', H2⟩, rfl⟩
  rw [s147l]
  refine bmd_mk (fun h => ?_) (fun h => ?_)
  · refine req_mk (by omega) (req_mk h ?_)
    simp only [pSome_some, aadd_none, szP32, Int.toNat_natCast, Nat.mul_one, Nat.zero_add]
    refine req_mk trivial ?_
    obtain ⟨v, hv⟩ : ∃ v, V[i]? = some v := ⟨V[i]'(by omega), by simp⟩
    refine ldm H2 (List.mem_append_right _ (List.mem_cons_of_mem _ hj)) (cU hv) (tI_mk ?_)
    refine beq_mk (fun h => by simp at h) (fun _ => beq_mk (fun _ => ?_) (fun h => absurd rfl h))
    refine ldm H2 (List.mem_append_right _ (List.mem_cons_of_mem _ hc)) rfl ?_
    simp only [tIf, mPush, pSome_some]
    refine c190 hs' (by simp; omega) (by omega) H2 fun a2 rows2 σ3 hs3 H3 => ?_
    refine tI_mk (bne_mk (fun h => absurd rfl h) (fun _ => ?_))
    rw [wrap1 (by omega)]
    refine hX (i + 1) _ _ (by omega) ⟨by omega, ⟨a2, 1, rows2, ?_, H3⟩, rfl⟩
    rw [List.take_add_one, hv]
    simpa using hs3
  · have e : i = V.length := by omega
    subst e
    rw [List.take_of_length_le (by omega)] at hs'
    exact hK a' e' rows' σ2 hs' H2)
theorem c92 {c m bj ln le j : Nat} {la : Option Addr} {S V : List Int} {rows : List (Nat × AObj)} {cg ca : Value} {x : Int} (hs : SlC 1 la le (cellsU S) rows) (hn : S.length = ln) (hln : ln + V.length ≤ 200)
    (hc : (c, AObj.row .plain [cg, .iface 29 (ptr m), ca]) ∈ M) (hj : (j, AObj.row .rw (cellsU V)) ∈ M) (H : Has σ (rows ++ ((m, spO bj la ln le) :: M)))
    (hK : ∀ a' e' rows' σ', SlC 1 a' e' (cellsU (S ++ V)) rows' → Has σ' (rows' ++ ((m, spO bj a' (ln + V.length) e') :: M)) → K (.tuple ⟨[u32 x, i64 0]⟩) σ') :
    Tri Tryz.prog 92 [ptr c, u32 x, u32 4294967295, .slice (some ⟨j, 0, none⟩) V.length 1] σ K := tri_in (by
  rw [s92]
  refine c147 hs hn hln hc hj H fun a' e' rows' σ' hs' H' => ?_
  exact tI_mk (bne_mk (fun h => absurd rfl h) (fun _ => hK a' e' rows' σ' hs' H')))
end
end Go.AI
end
section
set_option linter.unusedSimpArgs false
set_option linter.unusedVariables false
set_option maxRecDepth 100000
/- A buffer of the shelf; a thing added; a stream on memory made: contracts; no condition but those that each names. -/
namespace Go.AI
open Go.Proofs
section
variable {σ : AS} {K : Value → AS → Prop} {L M Fr : List (Nat × AObj)}
theorem n186 : ∀ (g : Nat) (σ : AS) (K : Value → AS → Prop), callN Tryz.prog hints glE 80 186 [ptr g, u32 1] σ K = gAdd [ptr g, u32 1] σ (fun v σ' => tI .u32 v fun n => K (u32 n) σ') := by
  intros
  kernel_rfl
theorem n199 : ∀ (c : Int) (σ : AS) (K : Value → AS → Prop), callN Tryz.prog hints glE 80 199 [u32 c] σ K = bmatch (decide (c > 255)) (K (u8 63) σ) (K (u8 (IntKind.wrap .u8 c)) σ) := by
  intros
  kernel_rfl
theorem c186 {g : Nat} {cs : List Value} {n : Int} (H : Has σ ((g, .row .plain (u32 n :: cs)) :: M)) (hn : 0 ≤ n ∧ n < 4294967295)
    (hK : ∀ σ', Has σ' ((g, .row .plain (u32 (n + 1) :: cs)) :: M) → K (u32 (n + 1)) σ') : Tri Tryz.prog 186 [ptr g, u32 1] σ K := tri_hard (by
  rw [n186]
  unfold gAdd
  refine rowAt_mk H 0 rfl (chk_mk rfl ?_)
  simp only [List.getElem?_cons_zero]
  rw [wrapU32 (by omega) (by omega)]
  exact tI_mk (hK _ (by simpa using H.upd 0 rfl _)))
theorem c157 {g al x : Nat} {cs : List Value} (H : Has σ ((g, .row .plain (u32 0 :: .map (some al) :: cs)) :: (al, .map [] 0) :: M))
    (hK : ∀ σ', Has σ' ((g, .row .plain (u32 1 :: .map (some al) :: cs)) :: (al, .map [.mk (u32 1) (ptr x) 0] 1) :: M) → K (u32 1) σ') : Tri Tryz.prog 157 [ptr g, ptr x] σ K := tri_in (by
  rw [s157]
  refine c186 H (by decide) fun σ1 H1 => tI_mk ?_
  refine ldm H1 List.mem_cons_self rfl ?_
  simp only [tM_map, pSome_some]
  refine mset0_new (H1.sep (M := (al, .map [] 0) :: (g, .row .plain (u32 (0 + 1) :: .map (some al) :: cs)) :: M) (fun a => by simp only [cnt_app, cnt_cons, cnt_nil, i64, u32, u8, ptr, Nat.zero_add, Int.zero_add, List.nil_append, List.set_cons_zero, List.set_cons_succ]; omega)) rfl fun σ2 H2 => ?_
  exact hK σ2 (H2.sep fun a => by simp only [cnt_app, cnt_cons, cnt_nil, i64, u32, u8, ptr, Nat.zero_add, Int.zero_add, List.nil_append, List.set_cons_zero, List.set_cons_succ]; omega))
theorem c185 {sh sm fm x : Nat} (H : Has σ ((sh, .row .plain [i64 1048576, i64 0, .map (some fm), .map (some sm)]) :: (sm, .map [] 0) :: M))
    (hK : ∀ σ', Has σ' ((sh, .row .plain [i64 1048576, i64 1, .map (some fm), .map (some sm)]) :: (sm, .map [.mk (i64 1) (ptr x) 0] 1) :: M) → K (i64 1) σ') : Tri Tryz.prog 185 [ptr sh, ptr x] σ K := tri_in (by
  rw [s185]
  refine ldm H List.mem_cons_self rfl (tI_mk ?_)
  rw [wrap64 (by omega) (by omega)]
  refine put0 H rfl (by simp) fun σ1 H1 => ?_
  refine ldm H1 List.mem_cons_self rfl ?_
  simp only [tM_map]
  refine ldm H1 List.mem_cons_self rfl (tI_mk ?_)
  simp only [pSome_some]
  refine mset0_new (H1.sep (M := (sm, .map [] 0) :: (sh, .row .plain [i64 1048576, i64 1, .map (some fm), .map (some sm)]) :: M) (fun a => by simp only [cnt_app, cnt_cons, cnt_nil, i64, u32, u8, ptr, Nat.zero_add, Int.zero_add, List.nil_append, List.set_cons_zero, List.set_cons_succ]; omega)) rfl fun σ2 H2 => ?_
  refine ldm H2 (List.mem_cons_of_mem _ List.mem_cons_self) rfl (tI_mk ?_)
  exact hK σ2 (H2.sep fun a => by simp only [cnt_app, cnt_cons, cnt_nil, i64, u32, u8, ptr, Nat.zero_add, Int.zero_add, List.nil_append, List.set_cons_zero, List.set_cons_succ]; omega))
/-- A row filled so far. -/
def fill (F : Nat → Int) (i k : Nat) : List Int := (List.range i).map F ++ List.replicate (k - i) 0
theorem fill_len (F : Nat → Int) {i k : Nat} (h : i ≤ k) : (fill F i k).length = k := by unfold fill; simp; omega
theorem fill_set (F : Nat → Int) {i k : Nat} (h : i < k) : (fill F i k).set i (F i) = fill F (i + 1) k := by
  unfold fill
  have e : k - i = (k - (i + 1)) + 1 := by omega
  rw [List.set_append_right _ _ (by simp), e, List.replicate_succ]
  simp [List.range_succ]
theorem fill_zero (F : Nat → Int) (k : Nat) : fill F 0 k = List.replicate k 0 := by unfold fill; simp
theorem fill_all (F : Nat → Int) (k : Nat) : fill F k k = (List.range k).map F := by unfold fill; simp
theorem fill_get (F : Nat → Int) {i k : Nat} (h : i < k) : (fill F k k)[i]? = some (F i) := by rw [fill_all]; simp [h]
theorem zeros (n : Nat) : List.flatten (List.replicate (Int.toNat (n : Int)) (valCells (u32 0))) = cellsU (List.replicate n 0) := by
  rw [Int.toNat_natCast]
  induction n with
  | zero => rfl
  | succ n ih => rw [List.replicate_succ, List.flatten_cons, ih]; rfl
theorem c187 {bf ro n i : Nat} {w : Bool} {C : List Int} {c : Int} (H : Has σ ((ro, .row .rw (cellsU C)) :: (bf, .row .plain [.slice (some ⟨ro, 0, none⟩) n 1, .bool w]) :: M)) (hC : C.length = n) (hn : n ≤ 4096) (hi : i < n) (hc : 0 ≤ c ∧ c ≤ 4294967295) (hw : w = false → c ≤ 255)
    (hK : ∀ σ', Has σ' ((ro, .row .rw (cellsU (C.set i c))) :: (bf, .row .plain [.slice (some ⟨ro, 0, none⟩) n 1, .bool w]) :: M) → K unit0 σ') : Tri Tryz.prog 187 [ptr bf, i64 i, u32 c] σ K := tri_in (by
  rw [s187]
  have hm : (bf, AObj.row .plain [.slice (some ⟨ro, 0, none⟩) n 1, .bool w]) ∈ (ro, AObj.row .rw (cellsU C)) :: (bf, AObj.row .plain [.slice (some ⟨ro, 0, none⟩) n 1, .bool w]) :: M := List.mem_cons_of_mem _ List.mem_cons_self
  have fin : ∀ σ2, Has σ2 ((ro, .row .rw ((cellsU C).set i (u32 c))) :: (bf, .row .plain [.slice (some ⟨ro, 0, none⟩) n 1, .bool w]) :: M) → K unit0 σ2 := by
    intro σ2 H2
    refine hK σ2 ?_
    have e : (cellsU C).set i (u32 c) = cellsU (C.set i c) := (List.map_set ..).symm
    rwa [e] at H2
  refine ldm H hm rfl ?_
  simp only [tB_bool]
  refine bnot_mk (fun hwf => ?_) (fun _ => ?_)
  · refine tri_hard ?_
    rw [n199]
    refine bmd_mk (fun h => by have := hw hwf; omega) (fun _ => tI_mk ?_)
    refine ldm H hm rfl (tL_mk ?_)
    refine bmd_mk (fun _ => ?_) (fun h => by simp only at h; omega)
    refine ldm H hm rfl (tL_mk ?_)
    refine req_mk (by omega) (req_mk (by simp only; omega) ?_)
    simp only [pSome_some, aadd_none, szP32, Int.toNat_natCast, Nat.mul_one, Nat.zero_add]
    have := hw hwf
    rw [wrapU8 (by omega) (by omega), wrapU32 (by omega) (by omega)]
    exact put0 H rfl (by simp; omega) fin
  · refine ldm H hm rfl (tL_mk ?_)
    refine bmd_mk (fun _ => ?_) (fun h => by simp only at h; omega)
    refine ldm H hm rfl (tL_mk ?_)
    refine req_mk (by omega) (req_mk (by simp only; omega) ?_)
    simp only [pSome_some, aadd_none, szP32, Int.toNat_natCast, Nat.mul_one, Nat.zero_add]
    exact put0 H rfl (by simp; omega) fin)
theorem bytes32 : bytesOf Tryz.prog 32 = 4 := by kernel_rfl
/-- A buffer is put on the shelf. -/
theorem c159 {sh sm fm j k : Nat} {F : Nat → Int} {mode : Int} {w : Bool} (hm : 1 ≤ mode ∧ mode ≤ 3) (hk : k ≤ 4096) (hF : ∀ i, i < k → 0 ≤ F i ∧ F i ≤ 4294967295) (hw : w = false → ∀ i, i < k → F i ≤ 255)
    (hj : (j, AObj.row .rw (cellsU (fill F k k))) ∈ M) (H : Has σ ((sh, .row .plain [i64 1048576, i64 0, .map (some fm), .map (some sm)]) :: (sm, .map [] 0) :: M))
    (hK : ∀ (st bf ro : Nat) σ', Has σ' ((sh, .row .plain [i64 1048576, i64 1, .map (some fm), .map (some sm)]) :: (sm, .map [.mk (i64 1) (ptr st) 0] 1) :: (st, .row .plain [.iface 270 (ptr bf), .pointer none, i64 mode, i64 0, u32 0, u32 0]) :: (bf, .row .plain [.slice (some ⟨ro, 0, none⟩) k 1, .bool w]) :: (ro, .row .rw (cellsU (fill F k k))) :: M) → K (.tuple ⟨[i64 1, i64 0]⟩) σ') :
    Tri Tryz.prog 159 [ptr sh, .slice (some ⟨j, 0, none⟩) k 1, i64 mode, .bool w] σ K := tri_in (by
  rw [s159]
  refine bmd_mk (fun h => by omega) (fun _ => bmd_mk (fun h => by omega) (fun _ => bmd_mk (fun h => by omega) (fun _ => ?_)))
  refine ldm H List.mem_cons_self rfl ?_
  simp only [tM_map]
  rw [mlen_eq (H.g (List.mem_cons_of_mem _ List.mem_cons_self))]
  refine beq_mk (fun h => by simp at h) (fun _ => ?_)
  refine req_mk (by omega) (req_mk (by omega) (req_mk (by rw [bytes32]; omega) ?_))
  rw [zeros, Int.toNat_natCast, ← fill_zero F]
  refine newAt_mk H fun ro σ1 H1 => ?_
  refine newAt_mk H1 fun bf σ2 H2 => ?_
  refine aloop (fun (i : Nat) rg σ' => i ≤ k ∧ Has σ' ((ro, .row .rw (cellsU (fill F i k))) :: (bf, .row .plain [.slice (some ⟨ro, 0, none⟩) k 1, .bool w]) :: (sh, .row .plain [i64 1048576, i64 0, .map (some fm), .map (some sm)]) :: (sm, .map [] 0) :: M) ∧
    rg = [(0, some (ptr sh)), (2, some (i64 mode)), (10, some (ptr bf)), (41, some (.slice (some ⟨j, 0, none⟩) k 1)), (42, some (i64 k)), (43, some (i64 i))]) (fun i => k - i) ?_ (a := 0) ⟨Nat.zero_le _, H2.sep (fun a => by simp only [cnt_app, cnt_cons, cnt_nil, i64, u32, u8, ptr, Nat.zero_add, Int.zero_add, List.nil_append, List.set_cons_zero, List.set_cons_succ]; omega), rfl⟩
  rintro i rg σ3 X hX ⟨hi, H3, rfl⟩
  rw [s159l]
  refine bmd_mk (fun h => ?_) (fun h => ?_)
  · refine req_mk (by omega) (req_mk h ?_)
    simp only [pSome_some, aadd_none, szP32, Int.toNat_natCast, Nat.mul_one, Nat.zero_add]
    refine req_mk trivial ?_
    refine ldm H3 (List.mem_cons_of_mem _ (List.mem_cons_of_mem _ (List.mem_cons_of_mem _ (List.mem_cons_of_mem _ hj)))) (cU (fill_get F (by omega))) (tI_mk ?_)
    refine c187 H3 (fill_len F hi) hk (by omega) (hF i (by omega)) (fun h => hw h i (by omega)) fun σ4 H4 => ?_
    rw [fill_set F (by omega)] at H4
    rw [wrap1 (by omega)]
    exact hX (i + 1) _ _ (by omega) ⟨by omega, H4, rfl⟩
  · have e : i = k := by omega
    subst e
    refine newAt_mk H3 fun st σ4 H4 => ?_
    refine c185 (x := st) (fm := fm) (H4.sep (M := (sh, .row .plain [i64 1048576, i64 0, .map (some fm), .map (some sm)]) :: (sm, .map [] 0) :: (st, .row .plain [.iface 270 (ptr bf), .pointer none, i64 mode, i64 0, u32 0, u32 0]) :: (bf, .row .plain [.slice (some ⟨ro, 0, none⟩) i 1, .bool w]) :: (ro, .row .rw (cellsU (fill F i i))) :: M) (fun a => by simp only [cnt_app, cnt_cons, cnt_nil, i64, u32, u8, ptr, Nat.zero_add, Int.zero_add, List.nil_append, List.set_cons_zero, List.set_cons_succ]; omega)) fun σ5 H5 => ?_
    exact tI_mk (hK st bf ro σ5 H5))
end
end Go.AI
end
