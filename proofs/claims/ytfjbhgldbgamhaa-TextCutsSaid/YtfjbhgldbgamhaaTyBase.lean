/- Words about rows of numbers, for the texts; no condition. -/
import Derived.Test.YtfjbhgldbgamhaaTyRoads
import Derived.Test.YtfjbhgldbgamhaaTyForm1
import Derived.IntWalk
set_option maxRecDepth 4000
set_option linter.unusedVariables false
set_option linter.unusedSimpArgs false
namespace Go.AI
open Go.Proofs
theorem tri_in {f : Nat} {args : List Value} {σ : AS} {K : Value → AS → Prop} (h : fw Try.prog hintsS (Tri Try.prog) f args σ K) : Tri Try.prog f args σ K := tri_fw Try.checked.mixed noGoS h
theorem add_none (b o n : Nat) : Addr.add ⟨b, o, none⟩ n = ⟨b, o + n, none⟩ := by
  unfold Addr.add
  by_cases h : n = 0
  · subst h; simp
  · simp [h]
abbrev ptr (i : Nat) : Value := .pointer (some ⟨i, 0, none⟩)
abbrev i64 (n : Int) : Value := .int .i64 n
abbrev u32 (n : Int) : Value := .int .u32 n
abbrev cells8 (l : List Int) : List Value := l.map (.int .u8)
abbrev cellsU (l : List Int) : List Value := l.map u32
abbrev w32 (n : Int) : Int := IntKind.wrap .u32 n
theorem wrap64 {n : Int} (h0 : -9223372036854775808 ≤ n) (h1 : n ≤ 9223372036854775807) : IntKind.wrap .i64 n = n := by
  simp [IntKind.wrap, IntKind.signed, IntKind.bits]
  omega
theorem w32_eq {n : Int} (h0 : 0 ≤ n) (h1 : n ≤ 4294967295) : w32 n = n := Go.IntWalk.u32_in n (by omega)
theorem w32_in (n : Int) : 0 ≤ w32 n ∧ w32 n ≤ 4294967295 := by
  simp [w32, IntKind.wrap, IntKind.signed, IntKind.bits]
  omega
theorem ishl8 {x : Int} (h0 : 0 ≤ x) (h1 : x < 16777216) : ishl .u32 x 8 = x * 256 := by
  simp [ishl, IntKind.bits, IntKind.wrap, IntKind.signed]
  omega
theorem ior8 {q b : Int} (h0 : 0 ≤ q) (h1 : q < 16777216) (h2 : 0 ≤ b) (h3 : b < 256) : ior .u32 (q * 256) b = q * 256 + b := by
  obtain ⟨q, rfl⟩ := Int.eq_ofNat_of_zero_le h0
  obtain ⟨b, rfl⟩ := Int.eq_ofNat_of_zero_le h2
  unfold ior
  have e : ((BitVec.ofInt IntKind.u32.bits ((q : Int) * 256) ||| BitVec.ofInt IntKind.u32.bits (b : Int)).toNat) = q * 256 + b := by
    have e1 : ((q : Int) * 256) = ((q * 256 : Nat) : Int) := by omega
    rw [e1, BitVec.ofInt_natCast, BitVec.ofInt_natCast, BitVec.toNat_or, BitVec.toNat_ofNat, BitVec.toNat_ofNat]
    have hb : IntKind.u32.bits = 32 := rfl
    rw [hb, Nat.mod_eq_of_lt (by omega), Nat.mod_eq_of_lt (by omega)]
    have := Nat.two_pow_add_eq_or_of_lt (i := 8) (b := b) (by omega) q
    rw [Nat.mul_comm q 256]
    exact this.symm
  rw [e, Go.IntWalk.u32_in _ (by omega)]
  omega
/-- The number of some bytes. -/
def beV (l : List Int) : Int := l.foldl (fun x b => x * 256 + b) 0
theorem beV_take {l : List Int} (hb : ∀ c ∈ l, 0 ≤ c ∧ c < 256) : ∀ i, i ≤ 4 → 0 ≤ beV (l.take i) ∧ beV (l.take i) < 256 ^ i
  | 0, _ => by simp [beV]
  | i + 1, h => by
    have ih := beV_take hb i (by omega)
    cases hv : l[i]? with
    | none =>
      rw [List.take_add_one, hv]
      simp only [Option.toList, List.append_nil]
      refine ⟨ih.1, Int.lt_trans ih.2 ?_⟩
      exact Int.pow_lt_pow_of_lt (by omega) (by omega)
    | some v =>
      obtain ⟨g0, g1⟩ := hb v (List.mem_of_getElem? hv)
      rw [List.take_add_one, hv]
      simp only [Option.toList, beV, List.foldl_append, List.foldl_cons, List.foldl_nil]
      rw [← beV]
      have : (256 : Int) ^ (i + 1) = 256 ^ i * 256 := Int.pow_succ ..
      omega
abbrev rowL (j : Nat) (ys : List Int) (fr : List (Nat × AObj)) : List (Nat × AObj) := match ys with | [] => fr | _ => (j, .row .rw (cellsU ys)) :: fr
theorem rowL_ne {j : Nat} {ys : List Int} {fr : List (Nat × AObj)} (h : ys ≠ []) : rowL j ys fr = (j, .row .rw (cellsU ys)) :: fr := by
  cases ys with
  | nil => exact absurd rfl h
  | cons c t => rfl
theorem rowL_app (j : Nat) (ys : List Int) : ∃ P : List (Nat × AObj), ∀ fr, rowL j ys fr = P ++ fr := by
  cases ys with
  | nil => exact ⟨[], fun _ => rfl⟩
  | cons c t => exact ⟨[_], fun _ => rfl⟩
theorem rowL_mem {jr : Nat} {ys : List Int} {fr : List (Nat × AObj)} {p : Nat × AObj} (h : p ∈ fr) : p ∈ rowL jr ys fr := by
  obtain ⟨P, hP⟩ := rowL_app jr ys
  rw [hP]
  exact List.mem_append_right _ h
theorem rowL_swap {σ : AS} {jr : Nat} {ys : List Int} {p : Nat × AObj} {L : List (Nat × AObj)} (H : Has σ (p :: rowL jr ys L)) : Has σ (rowL jr ys (p :: L)) := by
  cases ys with
  | nil => exact H
  | cons c t => exact H.perm (.swap _ _ _)
theorem rowL_out {σ : AS} {jr : Nat} {ys : List Int} {p : Nat × AObj} {L : List (Nat × AObj)} (H : Has σ (rowL jr ys (p :: L))) : Has σ (p :: rowL jr ys L) := by
  cases ys with
  | nil => exact H
  | cons c t => exact H.perm (.swap _ _ _)
theorem cellsU_get {l : List Int} {i : Nat} {v : Int} (h : l[i]? = some v) : (cellsU l)[i]? = some (u32 v) := by simp [h]
theorem tL_ok {a : Option Addr} {n e : Nat} {K : Sl → Prop} (h : nilOr a e 1 = true) (hK : K ⟨a, n⟩) : tL 1 (.slice a n e) K := by
  unfold tL
  simp only [h, chk]
  exact hK
/-- The slice that holds these numbers. -/
def AllS (jr : Nat) (ys : List Int) (c : Option Addr) (ce : Nat) : Prop := nilOr c ce 1 = true ∧ (ys ≠ [] → c = some ⟨jr, 0, none⟩ ∧ ce = 1) ∧ (ys = [] → c = none)
theorem AllS.none (jr ce : Nat) : AllS jr [] Option.none ce := ⟨by unfold nilOr; split <;> rfl, fun h => absurd rfl h, fun _ => rfl⟩
section
variable {σ : AS}
theorem lds_zero {a : Addr} {G : List Value → Prop} (h : G []) : lds σ a 0 G := by
  unfold lds AS.cells
  simpa [pSome] using h
/-- A slice of numbers, among what is known. -/
def InU (a : Option Addr) (l : List Int) (L : List (Nat × AObj)) : Prop := l = [] ∨ ∃ r k, a = some ⟨r, 0, none⟩ ∧ (r, AObj.row k (cellsU l)) ∈ L
theorem InU.mono {a : Option Addr} {l : List Int} {L L' : List (Nat × AObj)} (h : InU a l L) (hs : ∀ p ∈ L, p ∈ L') : InU a l L' := h.imp id fun ⟨r, k, e, m⟩ => ⟨r, k, e, hs _ m⟩
theorem src_take {L : List (Nat × AObj)} {pa : Option Addr} {ms : List Int} {n : Nat} {G : Nat → List Value → Prop} (H : Has σ L) (hin : InU pa ms L) (hn : n ≤ ms.length) (hG : G n (cellsU (ms.take n))) :
    srcCells σ 1 (some (.slice pa n 1)) G := by
  unfold srcCells
  simp only
  by_cases hm : ms = []
  · subst hm
    obtain rfl : n = 0 := by simpa using hn
    cases pa with
    | none => exact hG
    | some a => exact req_mk trivial (by simp only [Nat.zero_mul]; exact lds_zero hG)
  · obtain ⟨r, k, rfl, hr⟩ := hin.resolve_left hm
    obtain ⟨q, hq⟩ := List.getElem?_of_mem hr
    refine req_mk trivial (lds_mk H q hq (by simp; omega) ?_)
    rw [Nat.mul_one, List.drop_zero, ← List.map_take]
    exact hG
theorem src_mk {L : List (Nat × AObj)} {pa : Option Addr} {ms : List Int} {G : Nat → List Value → Prop} (H : Has σ L) (hin : InU pa ms L) (hG : G ms.length (cellsU ms)) :
    srcCells σ 1 (some (.slice pa ms.length 1)) G := src_take H hin (Nat.le_refl _) (by rw [List.take_length]; exact hG)
theorem pushs_mk {L : List (Nat × AObj)} {jr : Nat} {ys ms : List Int} {c : Option Addr} {ce : Nat} {G : Sl → AS → Prop} (H : Has σ (rowL jr ys L)) (hs : AllS jr ys c ce) (hb : ys.length + ms.length ≤ 1099511627776)
    (hG : ∀ j' σ' c', Has σ' (rowL j' (ys ++ ms) L) → AllS j' (ys ++ ms) c' 1 → G ⟨c', ys.length + ms.length⟩ σ') : appendTo σ 1 4 ⟨c, ys.length⟩ (cellsU ms) ms.length G := by
  obtain ⟨hno, hne, hnil⟩ := hs
  cases ys with
  | nil =>
    obtain rfl := hnil rfl
    cases ms with
    | nil =>
      unfold appendTo
      refine req_mk (by simp) ?_
      exact hG 0 σ none H ⟨rfl, fun h => absurd rfl h, fun _ => rfl⟩
    | cons d t =>
      refine append_nil_mk H (by simp only [List.length_cons] at hb; omega) fun j' σ2 H2 => ?_
      have := hG j' σ2 (some ⟨j', 0, none⟩) H2 ⟨rfl, fun _ => ⟨rfl, rfl⟩, fun h => by cases h⟩
      simpa using this
  | cons d t =>
    obtain ⟨rfl, rfl⟩ := hne (by simp)
    refine append_mk (k := .rw) (cs := cellsU (d :: t)) H 0 rfl rfl (by omega) (by simp) fun j' σ2 H2 => ?_
    refine hG j' σ2 _ ?_ ⟨rfl, fun _ => ⟨rfl, rfl⟩, fun h => by cases h⟩
    have et : (cellsU (d :: t)).take ((d :: t).length * 1) = cellsU (d :: t) := by rw [Nat.mul_one]; exact List.take_of_length_le (by simp)
    rw [et, ← List.map_append] at H2
    exact H2
/-- The memory, among what is known. -/
def Mem (a : Option Addr) (bs : List Int) (L : List (Nat × AObj)) : Prop := (∀ c ∈ bs, 0 ≤ c ∧ c < 256) ∧ bs.length ≤ 1048576 ∧ (bs = [] ∨ ∃ r k ds, a = some ⟨r, 0, none⟩ ∧ (r, AObj.row k (cells8 bs ++ ds)) ∈ L)
theorem Mem.mono {a : Option Addr} {bs : List Int} {L L' : List (Nat × AObj)} (h : Mem a bs L) (hs : ∀ p ∈ L, p ∈ L') : Mem a bs L' := ⟨h.1, h.2.1, h.2.2.imp id fun ⟨r, k, ds, e, m⟩ => ⟨r, k, ds, e, hs _ m⟩⟩
end
/-- What a read of a memory gives. -/
def rd (bs : List Int) (x : Int) (n : Nat) : Option Int := if 0 ≤ x ∧ x + n ≤ bs.length then some (beV ((bs.drop x.toNat).take n)) else none
section
variable {σ : AS} {K : Value → AS → Prop}
theorem c41 {n : Int} (hn : n = 1 ∨ n = 4) (hK : K (.bool true) σ) : Tri Try.prog 41 [i64 n] σ K := tri_in (by
  rw [s41]
  rcases hn with rfl | rfl
  · exact hK
  · exact hK)
def beI (a : Option Addr) (l : List Int) (n : Nat) (σ0 : AS) (i : Nat) (r : Regs) (σ : AS) : Prop :=
  i ≤ n ∧ σ = σ0 ∧ r = [(8, some (u32 (beV (l.take i)))), (37, some (.slice a n 1)), (38, some (i64 n)), (39, some (i64 i))]
theorem c42 {L : List (Nat × AObj)} {a : Option Addr} {bs : List Int} {x n : Nat} (H : Has σ L) (hm : Mem a bs L) (hn : n = 1 ∨ n = 4)
    (h1 : x + n ≤ bs.length → K (.tuple ⟨[u32 (beV ((bs.drop x).take n)), i64 0]⟩) σ) (h2 : ¬ x + n ≤ bs.length → K (.tuple ⟨[u32 0, i64 2]⟩) σ) (hx : x ≤ 4294967295) :
    Tri Try.prog 42 [.slice a bs.length 1, i64 x, i64 n] σ K := tri_in (by
  obtain ⟨hb, hl, hr⟩ := hm
  rw [s42]
  refine c41 (by rcases hn with rfl | rfl <;> simp) ?_
  have e1 : ¬ (x : Int) < 0 := by omega
  have hn4 : n ≤ 4 := by omega
  simp only [tB_bool, Bool.not_true, bm_false, e1, decide_false]
  refine bm_mk (fun h => h2 (by have := of_decide_eq_true h; omega)) (fun h => ?_)
  have h := of_decide_eq_false h
  have e3 : IntKind.wrap .i64 ((bs.length : Int) - x) = (bs.length : Int) - x := wrap64 (by omega) (by omega)
  have e5 : IntKind.wrap .i64 ((x : Int) + n) = (x : Int) + n := wrap64 (by omega) (by omega)
  have e6 : ((x : Int) + n - x).toNat = n := by omega
  have hz : szOf Try.prog 5 = 1 := by kernel_rfl
  rw [e3, e5, e6, hz]
  refine bm_mk (fun h' => h2 (by have := of_decide_eq_true h'; omega)) (fun h' => ?_)
  have h' := of_decide_eq_false h'
  have hin : x + n ≤ bs.length := by omega
  refine req_mk (by omega) (req_mk (by omega) (req_mk (by omega) ?_))
  have hne : bs ≠ [] := fun e => by rw [e] at hin; simp at hin; omega
  obtain ⟨r0, k, ds, rfl, hr0⟩ := hr.resolve_left hne
  obtain ⟨q, hq⟩ := List.getElem?_of_mem hr0
  simp only [Option.map, add_none, Nat.zero_add, Nat.mul_one, Int.toNat_natCast]
  have hb' : ∀ c ∈ bs.drop x, 0 ≤ c ∧ c < 256 := fun c hc => hb c (List.mem_of_mem_drop hc)
  refine aloop (beI (some ⟨r0, x, none⟩) (bs.drop x) n σ) (fun i => n - i) ?_ (a := 0) ⟨by omega, rfl, rfl⟩
  rintro i r σ1 X hX ⟨hi, rfl, rfl⟩
  rw [s42l]
  refine bm_mk (fun h => ?_) (fun h => ?_)
  · have h : i < n := by have := of_decide_eq_true h; omega
    obtain ⟨v, hv⟩ : ∃ v, (bs.drop x)[i]? = some v := ⟨(bs.drop x)[i]'(by simp; omega), by simp⟩
    obtain ⟨w0, w1⟩ := hb' v (List.mem_of_getElem? hv)
    have hc : (cells8 bs ++ ds)[x + i]? = some (.int .u8 v) := by
      rw [List.getElem?_drop] at hv
      rw [List.getElem?_append_left (by simp; omega)]
      simp [hv]
    refine req_mk (by omega) (req_mk (by omega) ?_)
    simp only [pSome_some, hz, add_none, Int.toNat_natCast, Nat.mul_one]
    refine ldc_mk H q hq hc (tI_mk ?_)
    have ⟨t0, t1⟩ := beV_take hb' i (by omega)
    have t2 : beV ((bs.drop x).take i) < 16777216 := by
      have : i = 0 ∨ i = 1 ∨ i = 2 ∨ i = 3 := by omega
      rcases this with rfl | rfl | rfl | rfl
      · simp [beV]
      · have : (256 : Int) ^ 1 = 256 := by decide
        omega
      · have : (256 : Int) ^ 2 = 65536 := by decide
        omega
      · have : (256 : Int) ^ 3 = 16777216 := by decide
        omega
    rw [ishl8 t0 t2, Go.IntWalk.u32_in v (by omega), ior8 t0 t2 w0 w1, wrap64 (by omega) (by omega)]
    refine hX (i + 1) _ _ (by omega) ⟨h, rfl, ?_⟩
    have : beV ((bs.drop x).take (i + 1)) = beV ((bs.drop x).take i) * 256 + v := by
      rw [List.take_add_one, hv]
      simp [beV, List.foldl_append]
    rw [this]
    simp
  · have h : i = n := by have := of_decide_eq_false h; omega
    subst h
    exact h1 hin)
/-- A read. -/
theorem c33 {L : List (Nat × AObj)} {a : Option Addr} {bs : List Int} {x : Int} {n : Nat} (H : Has σ L) (hm : Mem a bs L) (hn : n = 1 ∨ n = 4) (h0 : 0 ≤ x) (h1 : x ≤ 4294967295)
    (hv : ∀ v, rd bs x n = some v → 0 ≤ v → v ≤ 4294967295 → K (.tuple ⟨[u32 v, i64 0]⟩) σ) (he : rd bs x n = none → K (.tuple ⟨[u32 0, i64 90]⟩) σ) :
    Tri Try.prog 33 [.slice a bs.length 1, u32 x, i64 n] σ K := tri_in (by
  rw [s33]
  obtain ⟨x, rfl⟩ := Int.eq_ofNat_of_zero_le h0
  rw [wrap64 (by omega) (by omega)]
  refine c42 (x := x) (n := n) H hm hn (fun h => ?_) (fun h => ?_) (by omega)
  · simp only [tTup_tup, pSome_some, tI_int, List.getElem?_cons_zero, List.getElem?_cons_succ, bne_self_eq_false, bm_false]
    have hb' : ∀ c ∈ bs.drop x, 0 ≤ c ∧ c < 256 := fun c hc => hm.1 c (List.mem_of_mem_drop hc)
    have ⟨t0, t1⟩ := beV_take hb' n (by omega)
    refine hv _ ?_ t0 ?_
    · unfold rd
      rw [if_pos (by omega), Int.toNat_natCast]
    · rcases hn with rfl | rfl
      · have : (256 : Int) ^ 1 = 256 := by decide
        omega
      · have : (256 : Int) ^ 4 = 4294967296 := by decide
        omega
  · have e2 : ((2 : Int) != 0) = true := by decide
    simp only [tTup_tup, pSome_some, tI_int, List.getElem?_cons_zero, List.getElem?_cons_succ, e2, bm_true]
    refine he ?_
    unfold rd
    rw [if_neg (by omega)])
end
end Go.AI
