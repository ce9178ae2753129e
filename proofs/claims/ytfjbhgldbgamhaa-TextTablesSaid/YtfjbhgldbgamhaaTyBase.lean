/- Lemmas of the abstract condition ahead of code (a part of the library that the claim's proof stands on); they hold with no condition but those that each names. -/
import Derived.Test.YtfjbhgldbgamhaaTyRoads
import Derived.Test.YtfjbhgldbgamhaaTyForm1
import Derived.IntWalk
section
/- Words about rows of numbers, for the texts; no condition. -/
set_option maxRecDepth 4000
set_option linter.unusedVariables false
set_option linter.unusedSimpArgs false
namespace Go.AI
open Go.Proofs
theorem tri_in {f : Nat} {args : List Value} {σ : AS} {K : Value → AS → Prop} (h : fw Try.prog hintsS (Tri Try.prog) f args σ K) : Tri Try.prog f args σ K := tri_fw Try.checked.mixed noGoS h
theorem add_none (b o n : Nat) : Addr.add ⟨b, o, none⟩ n = ⟨b, o + n, none⟩ := by
  unfold Addr.add
  by_cases h : n = 0
  · subst h; simp
  · simp [h]
abbrev ptr (i : Nat) : Value := .pointer (some ⟨i, 0, none⟩)
abbrev i64 (n : Int) : Value := .int .i64 n
abbrev u32 (n : Int) : Value := .int .u32 n
abbrev cells8 (l : List Int) : List Value := l.map (.int .u8)
abbrev cellsU (l : List Int) : List Value := l.map u32
abbrev w32 (n : Int) : Int := IntKind.wrap .u32 n
theorem wrap64 {n : Int} (h0 : -9223372036854775808 ≤ n) (h1 : n ≤ 9223372036854775807) : IntKind.wrap .i64 n = n := by
  simp [IntKind.wrap, IntKind.signed, IntKind.bits]
  omega
theorem w32_eq {n : Int} (h0 : 0 ≤ n) (h1 : n ≤ 4294967295) : w32 n = n := Go.IntWalk.u32_in n (by omega)
theorem w32_in (n : Int) : 0 ≤ w32 n ∧ w32 n ≤ 4294967295 := by
  simp [w32, IntKind.wrap, IntKind.signed, IntKind.bits]
  omega
theorem ishl8 {x : Int} (h0 : 0 ≤ x) (h1 : x < 16777216) : ishl .u32 x 8 = x * 256 := by
  simp [ishl, IntKind.bits, IntKind.wrap, IntKind.signed]
  omega
theorem ior8 {q b : Int} (h0 : 0 ≤ q) (h1 : q < 16777216) (h2 : 0 ≤ b) (h3 : b < 256) : ior .u32 (q * 256) b = q * 256 + b := by
  obtain ⟨q, rfl⟩ := Int.eq_ofNat_of_zero_le h0
  obtain ⟨b, rfl⟩ := Int.eq_ofNat_of_zero_le h2
  unfold ior
  have e : ((BitVec.ofInt IntKind.u32.bits ((q : Int) * 256) ||| BitVec.ofInt IntKind.u32.bits (b : Int)).toNat) = q * 256 + b := by
    have e1 : ((q : Int) * 256) = ((q * 256 : Nat) : Int) := by omega
    rw [e1, BitVec.ofInt_natCast, BitVec.ofInt_natCast, BitVec.toNat_or, BitVec.toNat_ofNat, BitVec.toNat_ofNat]
    have hb : IntKind.u32.bits = 32 := rfl
    rw [hb, Nat.mod_eq_of_lt (by omega), Nat.mod_eq_of_lt (by omega)]
    have := Nat.two_pow_add_eq_or_of_lt (i := 8) (b := b) (by omega) q
    rw [Nat.mul_comm q 256]
    exact this.symm
  rw [e, Go.IntWalk.u32_in _ (by omega)]
  omega
/-- The number of some bytes. -/
def beV (l : List Int) : Int := l.foldl (fun x b => x * 256 + b) 0
theorem beV_take {l : List Int} (hb : ∀ c ∈ l, 0 ≤ c ∧ c < 256) : ∀ i, i ≤ 4 → 0 ≤ beV (l.take i) ∧ beV (l.take i) < 256 ^ i
  | 0, _ => by simp [beV]
  | i + 1, h => by
    have ih := beV_take hb i (by omega)
    cases hv : l[i]? with
    | none =>
      rw [List.take_add_one, hv]
      simp only [Option.toList, List.append_nil]
      refine ⟨ih.1, Int.lt_trans ih.2 ?_⟩
      exact Int.pow_lt_pow_of_lt (by omega) (by omega)
    | some v =>
      obtain ⟨g0, g1⟩ := hb v (List.mem_of_getElem? hv)
      rw [List.take_add_one, hv]
      simp only [Option.toList, beV, List.foldl_append, List.foldl_cons, List.foldl_nil]
      rw [← beV]
      have : (256 : Int) ^ (i + 1) = 256 ^ i * 256 := Int.pow_succ ..
      omega
abbrev rowL (j : Nat) (ys : List Int) (fr : List (Nat × AObj)) : List (Nat × AObj) := match ys with | [] => fr | _ => (j, .row .rw (cellsU ys)) :: fr
theorem rowL_ne {j : Nat} {ys : List Int} {fr : List (Nat × AObj)} (h : ys ≠ []) : rowL j ys fr = (j, .row .rw (cellsU ys)) :: fr := by
  cases ys with
  | nil => exact absurd rfl h
  | cons c t => rfl
theorem rowL_app (j : Nat) (ys : List Int) : ∃ P : List (Nat × AObj), ∀ fr, rowL j ys fr = P ++ fr := by
  cases ys with
  | nil => exact ⟨[], fun _ => rfl⟩
  | cons c t => exact ⟨[_], fun _ => rfl⟩
theorem rowL_mem {jr : Nat} {ys : List Int} {fr : List (Nat × AObj)} {p : Nat × AObj} (h : p ∈ fr) : p ∈ rowL jr ys fr := by
  obtain ⟨P, hP⟩ := rowL_app jr ys
  rw [hP]
  exact List.mem_append_right _ h
theorem rowL_swap {σ : AS} {jr : Nat} {ys : List Int} {p : Nat × AObj} {L : List (Nat × AObj)} (H : Has σ (p :: rowL jr ys L)) : Has σ (rowL jr ys (p :: L)) := by
  cases ys with
  | nil => exact H
  | cons c t => exact H.perm (.swap _ _ _)
theorem rowL_out {σ : AS} {jr : Nat} {ys : List Int} {p : Nat × AObj} {L : List (Nat × AObj)} (H : Has σ (rowL jr ys (p :: L))) : Has σ (p :: rowL jr ys L) := by
  cases ys with
  | nil => exact H
  | cons c t => exact H.perm (.swap _ _ _)
theorem cellsU_get {l : List Int} {i : Nat} {v : Int} (h : l[i]? = some v) : (cellsU l)[i]? = some (u32 v) := by simp [h]
theorem tL_ok {a : Option Addr} {n e : Nat} {K : Sl → Prop} (h : nilOr a e 1 = true) (hK : K ⟨a, n⟩) : tL 1 (.slice a n e) K := by
  unfold tL
  simp only [h, chk]
  exact hK
/-- The slice that holds these numbers. -/
def AllS (jr : Nat) (ys : List Int) (c : Option Addr) (ce : Nat) : Prop := nilOr c ce 1 = true ∧ (ys ≠ [] → c = some ⟨jr, 0, none⟩ ∧ ce = 1) ∧ (ys = [] → c = none)
theorem AllS.none (jr ce : Nat) : AllS jr [] Option.none ce := ⟨by unfold nilOr; split <;> rfl, fun h => absurd rfl h, fun _ => rfl⟩
section
variable {σ : AS}
theorem lds_zero {a : Addr} {G : List Value → Prop} (h : G []) : lds σ a 0 G := by
  unfold lds AS.cells
  simpa [pSome] using h
/-- A slice of numbers, among what is known. -/
def InU (a : Option Addr) (l : List Int) (L : List (Nat × AObj)) : Prop := l = [] ∨ ∃ r k, a = some ⟨r, 0, none⟩ ∧ (r, AObj.row k (cellsU l)) ∈ L
theorem InU.mono {a : Option Addr} {l : List Int} {L L' : List (Nat × AObj)} (h : InU a l L) (hs : ∀ p ∈ L, p ∈ L') : InU a l L' := h.imp id fun ⟨r, k, e, m⟩ => ⟨r, k, e, hs _ m⟩
theorem src_take {L : List (Nat × AObj)} {pa : Option Addr} {ms : List Int} {n : Nat} {G : Nat → List Value → Prop} (H : Has σ L) (hin : InU pa ms L) (hn : n ≤ ms.length) (hG : G n (cellsU (ms.take n))) :
    srcCells σ 1 (some (.slice pa n 1)) G := by
  unfold srcCells
  simp only
  by_cases hm : ms = []
  · subst hm
    obtain rfl : n = 0 := by simpa using hn
    cases pa with
    | none => exact hG
    | some a => exact req_mk trivial (by simp only [Nat.zero_mul]; exact lds_zero hG)
  · obtain ⟨r, k, rfl, hr⟩ := hin.resolve_left hm
    obtain ⟨q, hq⟩ := List.getElem?_of_mem hr
    refine req_mk trivial (lds_mk H q hq (by simp; omega) ?_)
    rw [Nat.mul_one, List.drop_zero, ← List.map_take]
    exact hG
theorem src_mk {L : List (Nat × AObj)} {pa : Option Addr} {ms : List Int} {G : Nat → List Value → Prop} (H : Has σ L) (hin : InU pa ms L) (hG : G ms.length (cellsU ms)) :
    srcCells σ 1 (some (.slice pa ms.length 1)) G := src_take H hin (Nat.le_refl _) (by rw [List.take_length]; exact hG)
theorem pushs_mk {L : List (Nat × AObj)} {jr : Nat} {ys ms : List Int} {c : Option Addr} {ce : Nat} {G : Sl → AS → Prop} (H : Has σ (rowL jr ys L)) (hs : AllS jr ys c ce) (hb : ys.length + ms.length ≤ 1099511627776)
    (hG : ∀ j' σ' c', Has σ' (rowL j' (ys ++ ms) L) → AllS j' (ys ++ ms) c' 1 → G ⟨c', ys.length + ms.length⟩ σ') : appendTo σ 1 4 ⟨c, ys.length⟩ (cellsU ms) ms.length G := by
  obtain ⟨hno, hne, hnil⟩ := hs
  cases ys with
  | nil =>
    obtain rfl := hnil rfl
    cases ms with
    | nil =>
      unfold appendTo
      refine req_mk (by simp) ?_
      exact hG 0 σ none H ⟨rfl, fun h => absurd rfl h, fun _ => rfl⟩
    | cons d t =>
      refine append_nil_mk H (by simp only [List.length_cons] at hb; omega) fun j' σ2 H2 => ?_
      have := hG j' σ2 (some ⟨j', 0, none⟩) H2 ⟨rfl, fun _ => ⟨rfl, rfl⟩, fun h => by cases h⟩
      simpa using this
  | cons d t =>
    obtain ⟨rfl, rfl⟩ := hne (by simp)
    refine append_mk (k := .rw) (cs := cellsU (d :: t)) H 0 rfl rfl (by omega) (by simp) fun j' σ2 H2 => ?_
    refine hG j' σ2 _ ?_ ⟨rfl, fun _ => ⟨rfl, rfl⟩, fun h => by cases h⟩
    have et : (cellsU (d :: t)).take ((d :: t).length * 1) = cellsU (d :: t) := by rw [Nat.mul_one]; exact List.take_of_length_le (by simp)
    rw [et, ← List.map_append] at H2
    exact H2
/-- The memory, among what is known. -/
def Mem (a : Option Addr) (bs : List Int) (L : List (Nat × AObj)) : Prop := (∀ c ∈ bs, 0 ≤ c ∧ c < 256) ∧ bs.length ≤ 1048576 ∧ (bs = [] ∨ ∃ r k ds, a = some ⟨r, 0, none⟩ ∧ (r, AObj.row k (cells8 bs ++ ds)) ∈ L)
theorem Mem.mono {a : Option Addr} {bs : List Int} {L L' : List (Nat × AObj)} (h : Mem a bs L) (hs : ∀ p ∈ L, p ∈ L') : Mem a bs L' := ⟨h.1, h.2.1, h.2.2.imp id fun ⟨r, k, ds, e, m⟩ => ⟨r, k, ds, e, hs _ m⟩⟩
end
/-- What a read of a memory gives. -/
def rd (bs : List Int) (x : Int) (n : Nat) : Option Int := if 0 ≤ x ∧ x + n ≤ bs.length then some (beV ((bs.drop x.toNat).take n)) else none
section
variable {σ : AS} {K : Value → AS → Prop}
theorem c41 {n : Int} (hn : n = 1 ∨ n = 4) (hK : K (.bool true) σ) : Tri Try.prog 41 [i64 n] σ K := tri_in (by
  rw [s41]
  rcases hn with rfl | rfl
  · exact hK
  · exact hK)
def beI (a : Option Addr) (l : List Int) (n : Nat) (σ0 : AS) (i : Nat) (r : Regs) (σ : AS) : Prop :=
  i ≤ n ∧ σ = σ0 ∧ r = [(8, some (u32 (beV (l.take i)))), (37, some (.slice a n 1)), (38, some (i64 n)), (39, some (i64 i))]
theorem c42 {L : List (Nat × AObj)} {a : Option Addr} {bs : List Int} {x n : Nat} (H : Has σ L) (hm : Mem a bs L) (hn : n = 1 ∨ n = 4)
    (h1 : x + n ≤ bs.length → K (.tuple ⟨[u32 (beV ((bs.drop x).take n)), i64 0]⟩) σ) (h2 : ¬ x + n ≤ bs.length → K (.tuple ⟨[u32 0, i64 2]⟩) σ) (hx : x ≤ 4294967295) :
    Tri Try.prog 42 [.slice a bs.length 1, i64 x, i64 n] σ K := tri_in (by
  obtain ⟨hb, hl, hr⟩ := hm
  rw [s42]
  refine c41 (by rcases hn with rfl | rfl <;> simp) ?_
  have e1 : ¬ (x : Int) < 0 := by omega
  have hn4 : n ≤ 4 := by omega
  simp only [tB_bool, Bool.not_true, bm_false, e1, decide_false]
  refine bm_mk (fun h => h2 (by have := of_decide_eq_true h; omega)) (fun h => ?_)
  have h := of_decide_eq_false h
  have e3 : IntKind.wrap .i64 ((bs.length : Int) - x) = (bs.length : Int) - x := wrap64 (by omega) (by omega)
  have e5 : IntKind.wrap .i64 ((x : Int) + n) = (x : Int) + n := wrap64 (by omega) (by omega)
  have e6 : ((x : Int) + n - x).toNat = n := by omega
  have hz : szOf Try.prog 5 = 1 := by kernel_rfl
  rw [e3, e5, e6, hz]
  refine bm_mk (fun h' => h2 (by have := of_decide_eq_true h'; omega)) (fun h' => ?_)
  have h' := of_decide_eq_false h'
  have hin : x + n ≤ bs.length := by omega
  refine req_mk (by omega) (req_mk (by omega) (req_mk (by omega) ?_))
  have hne : bs ≠ [] := fun e => by rw [e] at hin; simp at hin; omega
  obtain ⟨r0, k, ds, rfl, hr0⟩ := hr.resolve_left hne
  obtain ⟨q, hq⟩ := List.getElem?_of_mem hr0
  simp only [Option.map, add_none, Nat.zero_add, Nat.mul_one, Int.toNat_natCast]
  have hb' : ∀ c ∈ bs.drop x, 0 ≤ c ∧ c < 256 := fun c hc => hb c (List.mem_of_mem_drop hc)
  refine aloop (beI (some ⟨r0, x, none⟩) (bs.drop x) n σ) (fun i => n - i) ?_ (a := 0) ⟨by omega, rfl, rfl⟩
  rintro i r σ1 X hX ⟨hi, rfl, rfl⟩
  rw [s42l]
  refine bm_mk (fun h => ?_) (fun h => ?_)
  · have h : i < n := by have := of_decide_eq_true h; omega
    obtain ⟨v, hv⟩ : ∃ v, (bs.drop x)[i]? = some v := ⟨(bs.drop x)[i]'(by simp; omega), by simp⟩
    obtain ⟨w0, w1⟩ := hb' v (List.mem_of_getElem? hv)
    have hc : (cells8 bs ++ ds)[x + i]? = some (.int .u8 v) := by
      rw [List.getElem?_drop] at hv
      rw [List.getElem?_append_left (by simp; omega)]
      simp [hv]
    refine req_mk (by omega) (req_mk (by omega) ?_)
    simp only [pSome_some, hz, add_none, Int.toNat_natCast, Nat.mul_one]
    refine ldc_mk H q hq hc (tI_mk ?_)
    have ⟨t0, t1⟩ := beV_take hb' i (by omega)
    have t2 : beV ((bs.drop x).take i) < 16777216 := by
      have : i = 0 ∨ i = 1 ∨ i = 2 ∨ i = 3 := by omega
      rcases this with rfl | rfl | rfl | rfl
      · simp [beV]
      · have : (256 : Int) ^ 1 = 256 := by decide
        omega
      · have : (256 : Int) ^ 2 = 65536 := by decide
        omega
      · have : (256 : Int) ^ 3 = 16777216 := by decide
        omega
    rw [ishl8 t0 t2, Go.IntWalk.u32_in v (by omega), ior8 t0 t2 w0 w1, wrap64 (by omega) (by omega)]
    refine hX (i + 1) _ _ (by omega) ⟨h, rfl, ?_⟩
    have : beV ((bs.drop x).take (i + 1)) = beV ((bs.drop x).take i) * 256 + v := by
      rw [List.take_add_one, hv]
      simp [beV, List.foldl_append]
    rw [this]
    simp
  · have h : i = n := by have := of_decide_eq_false h; omega
    subst h
    exact h1 hin)
/-- A read. -/
theorem c33 {L : List (Nat × AObj)} {a : Option Addr} {bs : List Int} {x : Int} {n : Nat} (H : Has σ L) (hm : Mem a bs L) (hn : n = 1 ∨ n = 4) (h0 : 0 ≤ x) (h1 : x ≤ 4294967295)
    (hv : ∀ v, rd bs x n = some v → 0 ≤ v → v ≤ 4294967295 → K (.tuple ⟨[u32 v, i64 0]⟩) σ) (he : rd bs x n = none → K (.tuple ⟨[u32 0, i64 90]⟩) σ) :
    Tri Try.prog 33 [.slice a bs.length 1, u32 x, i64 n] σ K := tri_in (by
  rw [s33]
  obtain ⟨x, rfl⟩ := Int.eq_ofNat_of_zero_le h0
  rw [wrap64 (by omega) (by omega)]
  refine c42 (x := x) (n := n) H hm hn (fun h => ?_) (fun h => ?_) (by omega)
  · simp only [tTup_tup, pSome_some, tI_int, List.getElem?_cons_zero, List.getElem?_cons_succ, bne_self_eq_false, bm_false]
    have hb' : ∀ c ∈ bs.drop x, 0 ≤ c ∧ c < 256 := fun c hc => hm.1 c (List.mem_of_mem_drop hc)
    have ⟨t0, t1⟩ := beV_take hb' n (by omega)
    refine hv _ ?_ t0 ?_
    · unfold rd
      rw [if_pos (by omega), Int.toNat_natCast]
    · rcases hn with rfl | rfl
      · have : (256 : Int) ^ 1 = 256 := by decide
        omega
      · have : (256 : Int) ^ 4 = 4294967296 := by decide
        omega
  · have e2 : ((2 : Int) != 0) = true := by decide
    simp only [tTup_tup, pSome_some, tI_int, List.getElem?_cons_zero, List.getElem?_cons_succ, e2, bm_true]
    refine he ?_
    unfold rd
    rw [if_neg (by omega)])
end
end Go.AI
end
section
/- Rows of bytes, a number's four bytes, two rows of numbers that are alike. -/
set_option maxRecDepth 4000
set_option linter.unusedVariables false
set_option linter.unusedSimpArgs false
namespace Go.AI
open Go.Proofs
abbrev row8 (j : Nat) (ys : List Int) (fr : List (Nat × AObj)) : List (Nat × AObj) := match ys with | [] => fr | _ => (j, .row .rw (cells8 ys)) :: fr
theorem row8_ne {j : Nat} {ys : List Int} {fr : List (Nat × AObj)} (h : ys ≠ []) : row8 j ys fr = (j, .row .rw (cells8 ys)) :: fr := by
  cases ys with
  | nil => exact absurd rfl h
  | cons c t => rfl
/-- Four bytes of a number, the highest first. -/
def by4 (x : Int) : List Int := [x / 16777216 % 256, x / 65536 % 256, x / 256 % 256, x % 256]
theorem beV_by4 {x : Int} (h0 : 0 ≤ x) (h1 : x ≤ 4294967295) : beV (by4 x) = x := by
  simp only [beV, by4, List.foldl]
  omega
theorem by4_byte {x : Int} : ∀ c ∈ by4 x, 0 ≤ c ∧ c < 256 := by
  intro c h
  simp only [by4, List.mem_cons, List.not_mem_nil, or_false] at h
  rcases h with rfl | rfl | rfl | rfl <;> omega
def flat4 : List Int → List Int
  | [] => []
  | c :: r => by4 c ++ flat4 r
theorem flat4_len : ∀ l : List Int, (flat4 l).length = 4 * l.length
  | [] => rfl
  | c :: r => by simp [flat4, by4, flat4_len r]; omega
theorem flat4_app : ∀ a b : List Int, flat4 (a ++ b) = flat4 a ++ flat4 b
  | [], b => rfl
  | c :: r, b => by simp [flat4, flat4_app r b]
theorem flat4_drop : ∀ (i : Nat) (l : List Int), (flat4 l).drop (4 * i) = flat4 (l.drop i)
  | 0, l => by simp
  | i + 1, [] => by simp [flat4]
  | i + 1, c :: r => by
    have : 4 * (i + 1) = (by4 c).length + 4 * i := by simp [by4]; omega
    rw [flat4, this, List.drop_append]
    simp [flat4_drop i r]
theorem flat4_byte : ∀ {l : List Int}, ∀ c ∈ flat4 l, 0 ≤ c ∧ c < 256
  | [], c, h => by cases h
  | d :: r, c, h => by
    unfold flat4 at h
    rcases List.mem_append.1 h with h | h
    · exact by4_byte c h
    · exact flat4_byte c h
section
variable {σ : AS} {K : Value → AS → Prop}
theorem lds_row {L : List (Nat × AObj)} {i : Nat} {k : RK} {cs : List Value} {n : Nat} {G : List Value → Prop} (H : Has σ L) (q : Nat) (e : L[q]? = some (i, .row k cs)) (hn : n = cs.length) (hG : G cs) : lds σ ⟨i, 0, none⟩ n G := by
  refine lds_mk H q e (by omega) ?_
  rw [List.drop_zero, List.take_of_length_le (by omega)]
  exact hG
/-- A slice of bytes, among what is known. -/
def In8 (a : Option Addr) (l : List Int) (L : List (Nat × AObj)) : Prop := l = [] ∨ ∃ r k, a = some ⟨r, 0, none⟩ ∧ (r, AObj.row k (cells8 l)) ∈ L
theorem In8.mono {a : Option Addr} {l : List Int} {L L' : List (Nat × AObj)} (h : In8 a l L) (hs : ∀ p ∈ L, p ∈ L') : In8 a l L' := h.imp id fun ⟨r, k, e, m⟩ => ⟨r, k, e, hs _ m⟩
theorem In8.mem {a : Option Addr} {l : List Int} {L : List (Nat × AObj)} (h : In8 a l L) : l = [] ∨ ∃ r k ds, a = some ⟨r, 0, none⟩ ∧ (r, AObj.row k (cells8 l ++ ds)) ∈ L := h.imp id fun ⟨r, k, e, m⟩ => ⟨r, k, [], e, by rw [List.append_nil]; exact m⟩
theorem src8_mk {L : List (Nat × AObj)} {pa : Option Addr} {ms : List Int} {G : Nat → List Value → Prop} (H : Has σ L) (hin : In8 pa ms L) (hG : G ms.length (cells8 ms)) :
    srcCells σ 1 (some (.slice pa ms.length 1)) G := by
  unfold srcCells
  simp only
  by_cases hm : ms = []
  · subst hm
    cases pa with
    | none => exact hG
    | some a => exact req_mk trivial (by simp only [List.length_nil, Nat.zero_mul]; exact lds_zero hG)
  · obtain ⟨r, k, rfl, hr⟩ := hin.resolve_left hm
    obtain ⟨q, hq⟩ := List.getElem?_of_mem hr
    exact req_mk trivial (lds_row H q hq (by simp) hG)
/-- Bytes more behind a row of the call's own, which is not nil. -/
theorem app8_mk {L : List (Nat × AObj)} {j m : Nat} {ys ms : List Int} {G : Sl → AS → Prop} (H : Has σ ((j, .row .rw (cells8 ys)) :: L)) (hb : ys.length + ms.length ≤ 1099511627776) (hm : m = ms.length)
    (hG : ∀ j' σ', Has σ' ((j', .row .rw (cells8 (ys ++ ms))) :: L) → G ⟨some ⟨j', 0, none⟩, ys.length + ms.length⟩ σ') : appendTo σ 1 1 ⟨some ⟨j, 0, none⟩, ys.length⟩ (cells8 ms) m G := by
  subst hm
  refine append_mk (k := .rw) (cs := cells8 ys) H 0 rfl rfl (by omega) (by simp) fun j' σ2 H2 => hG j' σ2 ?_
  have et : (cells8 ys).take (ys.length * 1) = cells8 ys := by rw [Nat.mul_one]; exact List.take_of_length_le (by simp)
  rw [et, ← List.map_append] at H2
  exact H2
theorem pushB {L : List (Nat × AObj)} {j : Nat} {ys : List Int} {v : Int} {c : Option Addr} {ce : Nat} {G : Sl → AS → Prop} (H : Has σ (row8 j ys L)) (hs : AllS j ys c ce) (hb : ys.length ≤ 1048576)
    (hG : ∀ j' σ' c', Has σ' (row8 j' (ys ++ [v]) L) → AllS j' (ys ++ [v]) c' 1 → G ⟨c', ys.length + 1⟩ σ') :
    newAt σ (.row .rw [.int .u8 v]) fun i σ1 => chk (nilOr c ce (szOf Try.prog 5)) (lds σ1 ⟨i, 0, none⟩ 1 fun l2 => appendTo σ1 1 1 ⟨c, ys.length⟩ l2 1 G) := by
  have hz : szOf Try.prog 5 = 1 := by kernel_rfl
  obtain ⟨hno, hne, hnil⟩ := hs
  refine newAt_mk H fun i σ1 H1 => ?_
  rw [hz, hno]
  refine lds_row H1 0 rfl rfl ?_
  cases ys with
  | nil =>
    obtain rfl := hnil rfl
    refine append_nil_mk H1 (by omega) fun j' σ2 H2 => ?_
    exact hG j' σ2 (some ⟨j', 0, none⟩) (H2.sub (.cons_cons _ (.cons _ (.refl _)))) ⟨rfl, fun _ => ⟨rfl, rfl⟩, fun h => by cases h⟩
  | cons d t =>
    obtain ⟨rfl, rfl⟩ := hne (by simp)
    refine append_mk (k := .rw) (cs := cells8 (d :: t)) H1 1 rfl rfl (by omega) (by simp) fun j' σ2 H2 => ?_
    have H3 := H2.sub (.cons_cons _ (.cons _ (.refl _)))
    have et : (cells8 (d :: t)).take ((d :: t).length * 1) = cells8 (d :: t) := by rw [Nat.mul_one]; exact List.take_of_length_le (by simp)
    rw [et] at H3
    refine hG j' σ2 _ ?_ ⟨rfl, fun _ => ⟨rfl, rfl⟩, fun h => by cases h⟩
    rw [row8_ne (by simp)]
    simpa [cells8] using H3
theorem putByte {x p : Int} (h0 : 0 ≤ x) (h1 : x ≤ 4294967295) (hp : p = 16777216 ∨ p = 65536 ∨ p = 256 ∨ p = 1) :
    IntKind.wrap .u8 (Int.tmod (IntKind.wrap .i64 (Int.tdiv (IntKind.wrap .i64 x) p)) 256) = x / p % 256 := by
  rw [wrap64 (n := x) (by omega) (by omega)]
  have e1 : Int.tdiv x p = x / p := Int.tdiv_eq_ediv_of_nonneg h0
  rw [e1]
  rcases hp with rfl | rfl | rfl | rfl
  all_goals
    rw [wrap64 (by omega) (by omega), Int.tmod_eq_emod_of_nonneg (by omega)]
    simp [IntKind.wrap, IntKind.bits, IntKind.signed]
/-- Four bytes of a number. -/
theorem c19 {L : List (Nat × AObj)} {x : Int} (H : Has σ L) (h0 : 0 ≤ x) (h1 : x ≤ 4294967295) (hK : ∀ σ' j, Has σ' ((j, .row .rw (cells8 (by4 x))) :: L) → K (.slice (some ⟨j, 0, none⟩) 4 1) σ') :
    Tri Try.prog 19 [u32 x, i64 4] σ K := tri_in (by
  rw [s19]
  refine bm_mk (fun _ => bm_mk (fun _ => bm_mk (fun h => by simp at h) (fun _ => ?_)) (fun h => by simp at h)) (fun h => by simp at h)
  have g1 : IntKind.wrap .i64 ((256 : Int) * 1) = 256 := by decide
  have g2 : IntKind.wrap .i64 ((256 : Int) * 256) = 65536 := by decide
  have g3 : IntKind.wrap .i64 ((256 : Int) * 65536) = 16777216 := by decide
  have a0 : IntKind.wrap .i64 ((0 : Int) + 1) = 1 := by decide
  have a1 : IntKind.wrap .i64 ((1 : Int) + 1) = 2 := by decide
  have a2 : IntKind.wrap .i64 ((2 : Int) + 1) = 3 := by decide
  have a3 : IntKind.wrap .i64 ((3 : Int) + 1) = 4 := by decide
  have b0 : IntKind.wrap .i64 (65536 : Int) = 65536 := by decide
  have b1 : IntKind.wrap .i64 (256 : Int) = 256 := by decide
  have b2 : IntKind.wrap .i64 (1 : Int) = 1 := by decide
  have b3 : IntKind.wrap .i64 (0 : Int) = 0 := by decide
  intro X hX
  refine hX _ _ ?_
  rw [s19l]
  refine bm_mk (fun _ => hX _ _ ?_) (fun h => by simp at h)
  rw [s19l, g1, a1]
  refine bm_mk (fun _ => hX _ _ ?_) (fun h => by simp at h)
  rw [s19l, g2, a2]
  refine bm_mk (fun _ => hX _ _ ?_) (fun h => by simp at h)
  rw [s19l, g3, a3]
  refine bm_mk (fun h => by simp at h) (fun _ => ?_)
  clear hX X
  intro X hX
  have d0 : Int.tdiv (16777216 : Int) 256 = 65536 := by decide
  have d1 : Int.tdiv (65536 : Int) 256 = 256 := by decide
  have d2 : Int.tdiv (256 : Int) 256 = 1 := by decide
  have d3 : Int.tdiv (1 : Int) 256 = 0 := by decide
  refine hX _ _ ?_
  rw [s19k, putByte h0 h1 (.inl rfl), d0]
  refine bm_mk (fun _ => req_mk (by omega) ?_) (fun h => by simp at h)
  refine pushB (j := 0) (ys := []) H (AllS.none _ _) (by simp) fun j1 σ1 c1 H1 hs1 => ?_
  rw [b0, a0]
  refine hX _ _ ?_
  rw [s19k, putByte h0 h1 (.inr (.inl rfl)), d1]
  refine bm_mk (fun _ => req_mk (by omega) ?_) (fun h => by simp at h)
  refine pushB H1 hs1 (by simp) fun j2 σ2 c2 H2 hs2 => ?_
  rw [b1, a1]
  refine hX _ _ ?_
  rw [s19k, putByte h0 h1 (.inr (.inr (.inl rfl))), d2]
  refine bm_mk (fun _ => req_mk (by omega) ?_) (fun h => by simp at h)
  refine pushB H2 hs2 (by simp) fun j3 σ3 c3 H3 hs3 => ?_
  rw [b2, a2]
  refine hX _ _ ?_
  rw [s19k, putByte h0 h1 (.inr (.inr (.inr rfl))), d3]
  refine bm_mk (fun _ => req_mk (by omega) ?_) (fun h => by simp at h)
  refine pushB H3 hs3 (by simp) fun j4 σ4 c4 H4 hs4 => ?_
  rw [b3, a3]
  refine hX _ _ ?_
  rw [s19k]
  refine bm_mk (fun h => by simp at h) (fun _ => ?_)
  obtain ⟨rfl, _⟩ := hs4.2.1 (by simp)
  refine hK σ4 j4 ?_
  have e : [] ++ [x / 16777216 % 256] ++ [x / 65536 % 256] ++ [x / 256 % 256] ++ [x / 1 % 256] = by4 x := by simp [by4]
  rw [e] at H4
  exact H4)
theorem c15 {n : Int} (hK : K (i64 n) σ) : Tri Try.prog 15 [i64 n] σ K := tri_in (by rw [s15]; exact hK)
def sameI (a b : Option Addr) (m : Nat) (σ0 : AS) (i : Nat) (r : Regs) (σ : AS) : Prop :=
  i ≤ m ∧ σ = σ0 ∧ r = [(0, some (.slice a m 1)), (1, some (.slice b m 1)), (5, some (i64 i))]
theorem c16 {L : List (Nat × AObj)} {a b : Option Addr} {xs : List Int} (H : Has σ L) (ha : InU a xs L) (hb : InU b xs L) (hl : xs.length ≤ 1099511627776) (hK : K (.bool true) σ) :
    Tri Try.prog 16 [.slice a xs.length 1, .slice b xs.length 1] σ K := tri_in (by
  rw [s16]
  refine bm_mk (fun h => by simp at h) (fun _ => ?_)
  refine aloop (sameI a b xs.length σ) (fun i => xs.length - i) ?_ (a := 0) ⟨Nat.zero_le _, rfl, rfl⟩
  rintro i r σ1 X hX ⟨hi, rfl, rfl⟩
  rw [s16l]
  refine bm_mk (fun h => ?_) (fun h => hK)
  have h : i < xs.length := by have := of_decide_eq_true h; omega
  obtain ⟨v, hv⟩ : ∃ v, xs[i]? = some v := ⟨xs[i], by simp [h]⟩
  have hne : xs ≠ [] := fun e => by rw [e] at h; simp at h
  obtain ⟨r1, k1, rfl, m1⟩ := ha.resolve_left hne
  obtain ⟨r2, k2, rfl, m2⟩ := hb.resolve_left hne
  obtain ⟨q1, g1⟩ := List.getElem?_of_mem m1
  obtain ⟨q2, g2⟩ := List.getElem?_of_mem m2
  have hz : szOf Try.prog 22 = 1 := by kernel_rfl
  refine req_mk (by omega) (req_mk (by omega) ?_)
  simp only [pSome_some, hz, add_none, Int.toNat_natCast, Nat.mul_one, Nat.zero_add]
  refine req_mk trivial (ldc_mk H q1 g1 (cellsU_get hv) (tI_mk ?_))
  refine req_mk (by omega) (req_mk (by omega) (req_mk trivial (ldc_mk H q2 g2 (cellsU_get hv) (tI_mk ?_))))
  simp only [bne_self_eq_false, bm_false]
  rw [wrap64 (by omega) (by omega)]
  exact hX (i + 1) _ _ (by omega) ⟨h, rfl, by simp⟩)
theorem c16no {L : List (Nat × AObj)} {a b : Option Addr} {m n : Nat} (h : m ≠ n) (hK : K (.bool false) σ) : Tri Try.prog 16 [.slice a m 1, .slice b n 1] σ K := tri_in (by
  rw [s16]
  exact bm_mk (fun _ => hK) (fun e => absurd (by simpa using e) (by omega)))
end
end Go.AI
end
