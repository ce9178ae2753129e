/- Words and bytes: what word.Be and word.Put of four bytes do. -/
import Derived.Test.YtpgedoljndppdaaShCon
import Derived.Test.YtpgedoljndppdaaShForm3
set_option maxRecDepth 4000
set_option linter.unusedVariables false
set_option linter.unusedSimpArgs false
namespace Go.AI
open Go.Proofs
theorem ishr8 (x : Int) : ishr .u32 x 8 = x / 256 := Int.fdiv_eq_ediv_of_nonneg x (b := 256) (by omega)
theorem wrap8 (x : Int) : IntKind.wrap .u8 x = x % 256 := by
  simp [IntKind.wrap, IntKind.bits, IntKind.signed]
theorem ishl8 {x : Int} (h0 : 0 ≤ x) (h1 : x < 16777216) : ishl .u32 x 8 = x * 256 := by
  simp [ishl, IntKind.bits, IntKind.wrap, IntKind.signed]
  omega
theorem ior8 {q b : Int} (h0 : 0 ≤ q) (h1 : q < 16777216) (h2 : 0 ≤ b) (h3 : b < 256) : ior .u32 (q * 256) b = q * 256 + b := by
  obtain ⟨q, rfl⟩ := Int.eq_ofNat_of_zero_le h0
  obtain ⟨b, rfl⟩ := Int.eq_ofNat_of_zero_le h2
  unfold ior
  have e : ((BitVec.ofInt IntKind.u32.bits ((q : Int) * 256) ||| BitVec.ofInt IntKind.u32.bits (b : Int)).toNat) = q * 256 + b := by
    have e1 : ((q : Int) * 256) = ((q * 256 : Nat) : Int) := by omega
    rw [e1, BitVec.ofInt_natCast, BitVec.ofInt_natCast, BitVec.toNat_or, BitVec.toNat_ofNat, BitVec.toNat_ofNat]
    have hb : IntKind.u32.bits = 32 := rfl
    rw [hb, Nat.mod_eq_of_lt (by omega), Nat.mod_eq_of_lt (by omega)]
    have := Nat.two_pow_add_eq_or_of_lt (i := 8) (b := b) (by omega) q
    rw [Nat.mul_comm q 256]
    exact this.symm
  rw [e, Go.IntWalk.u32_in _ (by omega)]
  omega
abbrev cells8 (l : List Int) : List Value := l.map (.int .u8)
/-- Four bytes of a number, the highest first. -/
def by4 (x : Int) : List Int := [x / 16777216 % 256, x / 65536 % 256, x / 256 % 256, x % 256]
/-- The number of some bytes. -/
def beV (l : List Int) : Int := l.foldl (fun x b => x * 256 + b) 0
theorem beV_by4 {x : Int} (h0 : 0 ≤ x) (h1 : x ≤ 4294967295) : beV (by4 x) = x := by
  simp only [beV, by4, List.foldl]
  omega
section
variable {σ : AS} {K : Value → AS → Prop}
theorem c102 (hK : K (.bool true) σ) : Tri Try.prog 102 [i64 4] σ K := tri_in (by
  rw [s102]
  refine bm_mk (fun h => by simp at h) (fun _ => bm_mk (fun h => by simp at h) (fun _ => ?_))
  simpa using hK)
/-- A slice of bytes reads so. -/
def Rb (σ : AS) (a : Option Addr) (o : Nat) (l : List Int) : Prop := l = [] ∨ ∃ r q cs, a = some ⟨r, o, none⟩ ∧ σ r = some (.row q cs) ∧ ∀ (i : Nat) v, l[i]? = some v → cs[o + i]? = some (.int .u8 v)
def beI (a : Option Addr) (l : List Int) (σ0 : AS) (i : Nat) (r : Regs) (σ : AS) : Prop :=
  i ≤ 4 ∧ σ = σ0 ∧ r = [(8, some (u32 (beV (l.take i)))), (37, some (.slice a 4 1)), (38, some (i64 4)), (39, some (i64 i))]
theorem beV_take {l : List Int} (hb : ∀ c ∈ l, 0 ≤ c ∧ c < 256) : ∀ i, i ≤ 4 → 0 ≤ beV (l.take i) ∧ beV (l.take i) < 256 ^ i
  | 0, _ => by simp [beV]
  | i + 1, h => by
    have ih := beV_take hb i (by omega)
    cases hv : l[i]? with
    | none =>
      rw [List.take_add_one, hv]
      simp only [Option.toList, List.append_nil]
      refine ⟨ih.1, Int.lt_trans ih.2 ?_⟩
      exact Int.pow_lt_pow_of_lt (by omega) (by omega)
    | some v =>
      obtain ⟨g0, g1⟩ := hb v (List.mem_of_getElem? hv)
      rw [List.take_add_one, hv]
      simp only [Option.toList, beV, List.foldl_append, List.foldl_cons, List.foldl_nil]
      rw [← beV]
      have : (256 : Int) ^ (i + 1) = 256 ^ i * 256 := Int.pow_succ ..
      omega
theorem c100 {a : Option Addr} {l : List Int} {at_ : Nat} (hR : Rb σ a 0 l) (hb : ∀ c ∈ l, 0 ≤ c ∧ c < 256) (hm : l.length ≤ 1099511627776) (h4 : at_ + 4 ≤ l.length) (hK : K (.tuple ⟨[u32 (beV ((l.drop at_).take 4)), i64 0]⟩) σ) :
    Tri Try.prog 100 [.slice a l.length 1, i64 at_, i64 4] σ K := tri_in (by
  rw [s100]
  refine c102 ?_
  have e1 : ¬ (at_ : Int) < 0 := by omega
  have e2 : ¬ (at_ : Int) > (l.length : Int) := by omega
  have e3 : IntKind.wrap .i64 ((l.length : Int) - at_) = (l.length : Int) - at_ := wrap64 (by omega) (by omega)
  have e4 : ¬ (l.length : Int) - at_ < 4 := by omega
  have e5 : IntKind.wrap .i64 ((at_ : Int) + 4) = (at_ : Int) + 4 := wrap64 (by omega) (by omega)
  have e6 : ((at_ : Int) + 4 - at_).toNat = 4 := by omega
  have hz : szOf Try.prog 5 = 1 := by kernel_rfl
  rw [e3, e5, e6, hz]
  simp only [tB_bool, Bool.not_true, bm_false, e1, e2, e4, decide_false, Int.toNat_natCast, Nat.mul_one]
  refine req_mk (by omega) (req_mk (by omega) (req_mk (by omega) ?_))
  have hne : l ≠ [] := fun e => by rw [e] at h4; simp at h4
  obtain ⟨r0, q, cs, rfl, g1, g2⟩ := hR.resolve_left hne
  simp only [Option.map, add_none, Nat.zero_add]
  have hb' : ∀ c ∈ l.drop at_, 0 ≤ c ∧ c < 256 := fun c hc => hb c (List.mem_of_mem_drop hc)
  refine aloop (beI (some ⟨r0, at_, none⟩) (l.drop at_) σ) (fun i => 4 - i) ?_ (a := 0) ⟨by omega, rfl, rfl⟩
  rintro i r σ1 X hX ⟨hi, rfl, rfl⟩
  rw [s100l]
  refine bm_mk (fun h => ?_) (fun h => ?_)
  · have h : i < 4 := by have := of_decide_eq_true h; omega
    obtain ⟨v, hv⟩ : ∃ v, (l.drop at_)[i]? = some v := ⟨(l.drop at_)[i]'(by simp; omega), by simp⟩
    obtain ⟨w0, w1⟩ := hb' v (List.mem_of_getElem? hv)
    have hc := g2 (at_ + i) v (by rw [List.getElem?_drop] at hv; exact hv)
    rw [Nat.zero_add] at hc
    refine req_mk (by omega) (req_mk (by omega) ?_)
    simp only [pSome_some, hz, add_none, Int.toNat_natCast, Nat.mul_one, ldc, AS.cell, g1, hc]
    simp only [tI_int]
    have ⟨t0, t1⟩ := beV_take hb' i (by omega)
    have t2 : beV ((l.drop at_).take i) < 16777216 := by
      have : i = 0 ∨ i = 1 ∨ i = 2 ∨ i = 3 := by omega
      rcases this with rfl | rfl | rfl | rfl
      · simp [beV]
      · have : (256 : Int) ^ 1 = 256 := by decide
        omega
      · have : (256 : Int) ^ 2 = 65536 := by decide
        omega
      · have : (256 : Int) ^ 3 = 16777216 := by decide
        omega
    rw [ishl8 t0 t2, Go.IntWalk.u32_in v (by omega), ior8 t0 t2 w0 w1, wrap64 (by omega) (by omega)]
    refine hX (i + 1) _ _ (by omega) ⟨h, rfl, ?_⟩
    have : beV ((l.drop at_).take (i + 1)) = beV ((l.drop at_).take i) * 256 + v := by
      rw [List.take_add_one, hv]
      simp [beV, List.foldl_append]
    rw [this]
    simp
  · have h : i = 4 := by have := of_decide_eq_false h; omega
    subst h
    exact hK)

def putI (j : Nat) (x : Int) (L : List (Nat × AObj)) (d : Nat) (r : Regs) (σ : AS) : Prop :=
  d ≤ 4 ∧ r = [(0, some (u32 (x / 256 ^ d))), (5, some (.slice (some ⟨j, 0, none⟩) 4 1)), (6, some (i64 (3 - d)))] ∧
    Has σ ((j, .row .rw (cells8 (List.replicate (4 - d) 0 ++ (by4 x).drop (4 - d)))) :: L)
theorem c101 {x : Int} {L : List (Nat × AObj)} (H : Has σ L) (h0 : 0 ≤ x) (h1 : x ≤ 4294967295) (hK : ∀ σ' j, Has σ' ((j, .row .rw (cells8 (by4 x))) :: L) → K (.slice (some ⟨j, 0, none⟩) 4 1) σ') :
    Tri Try.prog 101 [u32 x, i64 4] σ K := tri_in (by
  rw [s101]
  refine c102 ?_
  have hb : bytesOf Try.prog 5 = 1 := by kernel_rfl
  have hv : valCells (.int .u8 0) = [.int .u8 0] := by kernel_rfl
  rw [hb, hv, flat_rep]
  simp only [tB_bool, Bool.not_true, bm_false]
  refine req_mk (by omega) (req_mk (by omega) (req_mk (by omega) ?_))
  refine newAt_mk H fun j σ1 H1 => ?_
  have e3 : IntKind.wrap .i64 ((4 : Int) - 1) = 3 := rfl
  rw [e3]
  refine aloop (putI j x L) (fun d => 4 - d) ?_ (a := 0) ⟨by omega, by simp, by simpa [cells8, List.replicate, by4] using H1⟩
  rintro d r σ2 X hX ⟨hd, rfl, H2⟩
  rw [s101l]
  have hz : szOf Try.prog 5 = 1 := by kernel_rfl
  refine bm_mk (fun h => ?_) (fun h => ?_)
  · have h : d < 4 := by have := of_decide_eq_true h; omega
    refine req_mk (by omega) (req_mk (by omega) ?_)
    have ei : ((3 : Int) - d).toNat = 3 - d := by omega
    simp only [pSome_some, hz, add_none, ei, Nat.mul_one, Nat.zero_add, wrap8, ishr8]
    refine put1_mk H2 0 rfl rfl (by simp [by4]; omega) fun σ3 H3 => ?_
    rw [wrap64 (by omega) (by omega)]
    refine hX (d + 1) _ _ (by omega) ⟨h, ?_, ?_⟩
    · have e1 : x / 256 ^ d / 256 = x / 256 ^ (d + 1) := by
        have : d = 0 ∨ d = 1 ∨ d = 2 ∨ d = 3 := by omega
        rcases this with rfl | rfl | rfl | rfl <;> simp <;> omega
      have e2 : (3 : Int) - d - 1 = 3 - ((d + 1 : Nat) : Int) := by omega
      rw [e1, e2]
    · have : d = 0 ∨ d = 1 ∨ d = 2 ∨ d = 3 := by omega
      rcases this with rfl | rfl | rfl | rfl <;> simpa [cells8, by4, List.replicate] using H3
  · have h : d = 4 := by have := of_decide_eq_false h; omega
    subst h
    exact hK σ2 j (by simpa [by4] using H2))
end
end Go.AI
