/- Lemmas of the abstract condition ahead of code (a part of the library that the claim's proof stands on); they hold with no condition but those that each names. -/
import Derived.Test.YtcjicaolgjialaaPyForm
import Derived.Test.YtcjicaolgjialaaPyForm2
import Derived.Test.YtcjicaolgjialaaPyTree
import Derived.IntWalk
section
set_option linter.unusedSimpArgs false
set_option linter.unusedVariables false
/- How the program's windows lie in memory; what the small functions do; no condition but those that each names. -/
namespace Go.AI
open Go.Proofs Go.Pane
theorem noGoP : noGo Try.prog = true := by kernel_rfl
theorem tri_in {f : Nat} {args : List Value} {σ : AS} {K : Value → AS → Prop} (h : fw Try.prog hintsS (Tri Try.prog) f args σ K) : Tri Try.prog f args σ K := tri_fw Try.checked.mixed noGoP h
theorem add_none (b o n : Nat) : Addr.add ⟨b, o, none⟩ n = ⟨b, o + n, none⟩ := by
  unfold Addr.add
  by_cases h : n = 0
  · subst h; simp
  · simp [h]
abbrev ptr (i : Nat) : Value := .pointer (some ⟨i, 0, none⟩)
abbrev i64 (n : Int) : Value := .int .i64 n
abbrev u32 (n : Int) : Value := .int .u32 n
abbrev unit0 : Value := .tuple ⟨[]⟩
theorem wrap64 {n : Int} (h0 : -9223372036854775808 ≤ n) (h1 : n ≤ 9223372036854775807) : IntKind.wrap .i64 n = n := by
  simp [IntKind.wrap, IntKind.signed, IntKind.bits]
  omega
theorem wrapU64 {n : Int} (h0 : 0 ≤ n) (h1 : n ≤ 18446744073709551615) : IntKind.wrap .u64 n = n := by
  simp [IntKind.wrap, IntKind.signed, IntKind.bits]
  omega
theorem bmd_mk {p : Prop} [Decidable p] {A B : Prop} (h1 : p → A) (h2 : ¬ p → B) : bmatch (decide p) A B :=
  bm_mk (fun h => h1 (of_decide_eq_true h)) (fun h => h2 (of_decide_eq_false h))
theorem beq_mk {a b : Int} {A B : Prop} (h1 : a = b → A) (h2 : a ≠ b → B) : bmatch (a == b) A B :=
  bm_mk (fun h => h1 (by simpa using h)) (fun h => h2 (by simpa using h))
theorem bne_mk {a b : Int} {A B : Prop} (h1 : a ≠ b → A) (h2 : a = b → B) : bmatch (a != b) A B :=
  bm_mk (fun h => h1 (by simpa using h)) (fun h => h2 (by simpa using h))
theorem bnot_mk {b : Bool} {A B : Prop} (h1 : b = false → A) (h2 : b = true → B) : bmatch (!b) A B := by cases b with | true => exact h2 rfl | false => exact h1 rfl
theorem bm_t {b : Bool} {A B : Prop} (h : b = true) (k : A) : bmatch b A B := by subst h; exact k
theorem bm_f {b : Bool} {A B : Prop} (h : b = false) (k : B) : bmatch b A B := by subst h; exact k
/-- A whole number that a variable of 64 bits may hold. -/
def In64 (n : Int) : Prop := -9223372036854775808 ≤ n ∧ n ≤ 9223372036854775807
theorem iand_and (a b : Int) : iand .i64 a b = IntKind.wrap .i64 (BitVec.ofInt 64 a &&& BitVec.ofInt 64 b).toNat := rfl
theorem iandn_and (a b : Int) : iandn .i64 a b = IntKind.wrap .i64 (BitVec.ofInt 64 a &&& ~~~ BitVec.ofInt 64 b).toNat := rfl
theorem ofInt_nat (n : Int) : (BitVec.ofInt 64 n).toNat = (n % 18446744073709551616).toNat := by rw [BitVec.toNat_ofInt]; rfl
theorem iand15 {n : Int} : iand .i64 n 15 = n % 16 := by
  rw [iand_and, BitVec.toNat_and, ofInt_nat, ofInt_nat]
  have e3 : ((15 : Int) % 18446744073709551616).toNat = 2 ^ 4 - 1 := by decide
  rw [e3, Nat.and_two_pow_sub_one_eq_mod]
  have : ((n % 18446744073709551616).toNat % 2 ^ 4 : Nat) = (n % 16).toNat := by omega
  rw [this, wrap64 (by omega) (by omega)]
  omega
theorem iand1 {n : Int} : iand .i64 n 1 = n % 2 := by
  rw [iand_and, BitVec.toNat_and, ofInt_nat, ofInt_nat]
  have e3 : ((1 : Int) % 18446744073709551616).toNat = 2 ^ 1 - 1 := by decide
  rw [e3, Nat.and_two_pow_sub_one_eq_mod]
  have : ((n % 18446744073709551616).toNat % 2 ^ 1 : Nat) = (n % 2).toNat := by omega
  rw [this, wrap64 (by omega) (by omega)]
  omega
theorem and_not15 (x : BitVec 64) : x &&& ~~~ 15#64 = (x >>> 4) <<< 4 := by
  apply BitVec.eq_of_getLsbD_eq
  intro i hi
  have e : (15#64).getLsbD i = decide (i < 4) := by
    have : ∀ i : Fin 64, (15#64).getLsbD i.val = decide (i.val < 4) := by decide
    exact this ⟨i, hi⟩
  simp only [BitVec.getLsbD_and, BitVec.getLsbD_not, BitVec.getLsbD_shiftLeft, BitVec.getLsbD_ushiftRight, e, hi, decide_true, Bool.true_and]
  by_cases h4 : i < 4
  · simp [h4]
  · have : 4 + (i - 4) = i := by omega
    simp [h4, this]
theorem iandn15 {n : Int} (h : In64 n) : iandn .i64 n 15 = n - n % 16 := by
  obtain ⟨h0, h1⟩ := h
  rw [iandn_and]
  have e : BitVec.ofInt 64 15 = 15#64 := by decide
  rw [e, and_not15, BitVec.toNat_shiftLeft, BitVec.toNat_ushiftRight, ofInt_nat, Nat.shiftRight_eq_div_pow, Nat.shiftLeft_eq]
  have hw : ∀ k : Int, IntKind.wrap .i64 k = (k + 9223372036854775808) % 18446744073709551616 - 9223372036854775808 := by
    intro k
    simp [IntKind.wrap, IntKind.signed, IntKind.bits]
    omega
  rw [hw]
  omega
def validB (m : Int) : Bool := decide (16 ≤ m ∧ m < 20 ∨ 32 ≤ m ∧ m < 36)
theorem validB_iff {m : Int} : validB m = true ↔ validM m := by simp [validB, validM]
section
variable {σ : AS} {K : Value → AS → Prop} {X : List (Nat × AObj)} {t m : Nat} {n W H root last : Int}
theorem c49 (hK : K (.bool (decide (0 ≤ n ∧ n ≤ 1000))) σ) : Tri Try.prog 49 [i64 n] σ K := tri_in (by
  rw [s49]
  refine bmd_mk (fun h => ?_) (fun h => ?_)
  · have : decide (n ≤ 1000) = decide (0 ≤ n ∧ n ≤ 1000) := decide_eq_decide.2 ⟨fun g => ⟨h, g⟩, fun g => g.2⟩
    rw [this]; exact hK
  · have : decide (0 ≤ n ∧ n ≤ 1000) = false := decide_eq_false fun g => h g.1
    rw [this] at hK; exact hK)
theorem c44 (h : In64 n) (hK : K (.bool (validB n)) σ) : Tri Try.prog 44 [i64 n] σ K := tri_in (by
  rw [s44, iandn15 h, iand15]
  have p1 : (n - n % 16 == 16) = decide (16 ≤ n ∧ n < 32) := by
    have : n - n % 16 = 16 ↔ 16 ≤ n ∧ n < 32 := by omega
    by_cases g : n - n % 16 = 16
    · rw [decide_eq_true (this.1 g)]; simpa using g
    · rw [decide_eq_false (fun q => g (this.2 q))]; simpa using g
  have p2 : (n - n % 16 == 32) = decide (32 ≤ n ∧ n < 48) := by
    have : n - n % 16 = 32 ↔ 32 ≤ n ∧ n < 48 := by omega
    by_cases g : n - n % 16 = 32
    · rw [decide_eq_true (this.1 g)]; simpa using g
    · rw [decide_eq_false (fun q => g (this.2 q))]; simpa using g
  have res : ∀ b : Bool, b = validB n → K (.bool b) σ := fun b e => by rw [e]; exact hK
  rw [p1, p2]
  refine bmd_mk (fun g1 => bmd_mk (fun g2 => res _ ?_) (fun g2 => bmd_mk (fun g3 => ?_) (fun _ => res _ ?_))) (fun g1 => bmd_mk (fun g2 => res _ ?_) (fun g2 => res _ ?_))
  · unfold validB; symm; apply decide_eq_true; omega
  · omega
  · unfold validB; symm; apply decide_eq_false; omega
  · unfold validB; apply decide_eq_decide.2; omega
  · unfold validB; symm; apply decide_eq_false; omega)
theorem c41 (hK : K (.bool (cols n)) σ) : Tri Try.prog 41 [i64 n] σ K := tri_in (by rw [s41, iand15]; exact hK)
theorem c23 (hK : K (i64 n) σ) : Tri Try.prog 23 [i64 n] σ K := tri_in (by rw [s23]; exact hK)
-- the program's windows
abbrev winV (w : Win) : List Value := [i64 w.k, i64 w.p, i64 w.a, i64 w.b, i64 w.m, u32 w.s, i64 w.key]
abbrev PW := Nat × Nat × Win
def entM (q : PW) : MapEntry := { key := i64 q.2.2.n, val := ptr q.1, born := q.2.1 }
abbrev objM (q : PW) : Nat × AObj := (q.1, .row .plain (winV q.2.2))
abbrev treeO (W H root last : Int) (m : Nat) : AObj := .row .plain [i64 W, i64 H, i64 root, i64 last, .map (some m)]
abbrev mapO (ws : List PW) (c : Nat) : AObj := .map (ws.map entM) c
abbrev wl (ws : List PW) : List Win := ws.map fun q => q.2.2
theorem find_at (n : Int) : ∀ (l1 : List PW) (q : PW) (l2 : List PW) (i : Nat), q.2.2.n = n → (∀ r ∈ l1, r.2.2.n ≠ n) → Instr.findNow (.int .i64) (i64 n) ((l1 ++ q :: l2).map entM) i = some (some (i + l1.length, ptr q.1))
  | [], q, l2, i, e, _ => by simp [Instr.findNow, Instr.sameNow, entM, e]
  | r :: l1, q, l2, i, e, h => by
    have h1 : r.2.2.n ≠ n := h r (by simp)
    have h1 : (n == r.2.2.n) = false := by simpa using Ne.symm h1
    have := find_at n l1 q l2 (i + 1) e fun x hx => h x (by simp [hx])
    rw [List.cons_append, List.map_cons]
    simp only [Instr.findNow, Instr.sameNow, entM, h1, if_pos]
    rw [show i + (r :: l1).length = i + 1 + l1.length by simp; omega]
    exact this
theorem find_no (n : Int) : ∀ (ws : List PW) (i : Nat), (∀ r ∈ ws, r.2.2.n ≠ n) → Instr.findNow (.int .i64) (i64 n) (ws.map entM) i = some none
  | [], i, _ => rfl
  | r :: l, i, h => by
    have h1 : r.2.2.n ≠ n := h r (by simp)
    have h1 : (n == r.2.2.n) = false := by simpa using Ne.symm h1
    rw [List.map_cons]
    simp only [Instr.findNow, Instr.sameNow, entM, h1, if_pos]
    exact find_no n l (i + 1) fun x hx => h x (by simp [hx])
abbrev Srt (L : List Win) : Prop := L.Pairwise fun x y => x.n < y.n
theorem srt_split {l1 l2 : List PW} {q : PW} (h : Srt (wl (l1 ++ q :: l2))) : (∀ r ∈ l1, r.2.2.n ≠ q.2.2.n) ∧ (∀ r ∈ l2, r.2.2.n ≠ q.2.2.n) := by
  unfold Srt wl at h
  rw [List.map_append, List.map_cons, List.pairwise_append] at h
  obtain ⟨_, h2, h3⟩ := h
  refine ⟨fun r hr => ?_, fun r hr => ?_⟩
  · have := h3 r.2.2 (List.mem_map_of_mem hr) q.2.2 (by simp)
    omega
  · have := (List.pairwise_cons.1 h2).1 r.2.2 (List.mem_map_of_mem hr)
    omega
/-- What is looked up by a number. -/
theorem look {ws : List PW} (h : Srt (wl ws)) (n : Int) :
    (∃ l1 q l2, ws = l1 ++ q :: l2 ∧ q.2.2.n = n ∧ ofL (wl ws) n = q.2.2 ∧ hasL (wl ws) n = true ∧ Instr.findNow (.int .i64) (i64 n) (ws.map entM) 0 = some (some (l1.length, ptr q.1)) ∧ (∀ r ∈ l1, r.2.2.n ≠ n) ∧ (∀ r ∈ l2, r.2.2.n ≠ n)) ∨
    (ofL (wl ws) n = zeroW ∧ hasL (wl ws) n = false ∧ Instr.findNow (.int .i64) (i64 n) (ws.map entM) 0 = some none ∧ ∀ r ∈ ws, r.2.2.n ≠ n) := by
  cases e : hasL (wl ws) n with
  | true =>
    left
    obtain ⟨w, hw, hn⟩ := hasL_iff.1 e
    obtain ⟨q, hq, rfl⟩ := List.mem_map.1 hw
    obtain ⟨l1, l2, rfl⟩ := List.append_of_mem hq
    obtain ⟨g1, g2⟩ := srt_split h
    have := find_at n l1 q l2 0 hn (fun r hr => by rw [← hn]; exact g1 r hr)
    rw [Nat.zero_add] at this
    exact ⟨l1, q, l2, rfl, hn, by rw [← hn]; exact ofL_mem h hw, rfl, this, fun r hr => by rw [← hn]; exact g1 r hr, fun r hr => by rw [← hn]; exact g2 r hr⟩
  | false =>
    right
    have hno := hasL_false.1 e
    have hno' : ∀ r ∈ ws, r.2.2.n ≠ n := fun r hr => hno _ (List.mem_map_of_mem hr)
    exact ⟨ofL_none e, rfl, find_no n ws 0 hno', hno'⟩
/-- What is known of the program's windows. -/
structure PIn (t m : Nat) (W H root last : Int) (ws : List PW) (c : Nat) (X : List (Nat × AObj)) : Prop where
  tree : (t, treeO W H root last m) ∈ X
  map : (m, mapO ws c) ∈ X
  win : ∀ q ∈ ws, objM q ∈ X
theorem PIn.mono {ws : List PW} {c : Nat} {X Y : List (Nat × AObj)} (h : PIn t m W H root last ws c X) (hs : ∀ p ∈ X, p ∈ Y) : PIn t m W H root last ws c Y :=
  ⟨hs _ h.tree, hs _ h.map, fun q hq => hs _ (h.win q hq)⟩
theorem PIn.new {ws : List PW} {c : Nat} {X new : List (Nat × AObj)} (h : PIn t m W H root last ws c X) : PIn t m W H root last ws c (new ++ X) := h.mono fun p hp => List.mem_append_right _ hp
theorem PIn.cons {ws : List PW} {c : Nat} {X : List (Nat × AObj)} {p : Nat × AObj} (h : PIn t m W H root last ws c X) : PIn t m W H root last ws c (p :: X) := h.mono fun p hp => List.mem_cons_of_mem _ hp
theorem ldm {G : Value → Prop} {v : Value} {i o : Nat} {k : RK} {cs : List Value} (H : Has σ X) (e : (i, AObj.row k cs) ∈ X) (hv : cs[o]? = some v) (hG : G v) : ldc σ ⟨i, o, none⟩ G := by
  obtain ⟨q, hq⟩ := List.getElem?_of_mem e
  exact ldc_mk H q hq hv hG
theorem ldsm {G : List Value → Prop} {i o n : Nat} {k : RK} {cs : List Value} (H : Has σ X) (e : (i, AObj.row k cs) ∈ X) (hb : o + n ≤ cs.length) (hG : G ((cs.drop o).take n)) : lds σ ⟨i, o, none⟩ n G := by
  obtain ⟨q, hq⟩ := List.getElem?_of_mem e
  exact lds_mk H q hq hb hG
theorem mgm {G : Option Value → Prop} {i c : Nat} {d : TypeDesc} {kv : Value} {es : List MapEntry} {x : Option (Nat × Value)} (H : Has σ X) (e : (i, AObj.map es c) ∈ X) (hx : Instr.findNow d kv es 0 = some x) (hG : G (x.map (·.2))) : mget σ d (some i) kv G := by
  obtain ⟨q, hq⟩ := List.getElem?_of_mem e
  exact mget_mk H q hq hx hG
theorem mlm {G : Int → Prop} {i c : Nat} {es : List MapEntry} (H : Has σ X) (e : (i, AObj.map es c) ∈ X) (hG : G es.length) : mlen σ (some i) G := by
  unfold mlen AS.ents
  simp only
  rw [H.2 _ e]
  exact hG
variable {ws : List PW} {c : Nat}
theorem c40 (Hh : Has σ X) (P : PIn t m W H root last ws c X) (hs : Srt (wl ws)) (hK : ∀ σ' i new, Has σ' (new ++ X) → (i, AObj.row .plain (winV (ofL (wl ws) n))) ∈ new ++ X → K (ptr i) σ') : Tri Try.prog 40 [ptr t, i64 n] σ K := tri_in (by
  rw [s40]
  refine ldm Hh P.tree rfl ?_
  rw [tM_map]
  rcases look hs n with ⟨l1, q, l2, e1, e2, e3, e4, e5, _⟩ | ⟨e3, e4, e5, _⟩
  · refine mgm Hh P.map e5 ?_
    simp only [Option.map_some, Option.getD_some]
    rw [tP_ptr, ptrEq_some, Bool.not_false, bm_true]
    refine ldm Hh P.tree rfl ?_
    rw [tM_map]
    refine mgm Hh P.map e5 ?_
    simp only [Option.map_some, Option.getD_some]
    rw [tP_ptr]
    refine hK σ q.1 [] Hh ?_
    rw [e3]
    exact P.win q (by rw [e1]; simp)
  · refine mgm Hh P.map e5 ?_
    simp only [Option.map_none, Option.getD_none]
    rw [tP_ptr, ptrEq_none, Bool.not_true, bm_false]
    refine newAt_mk Hh fun i σ' H' => ?_
    refine hK σ' i [_] H' ?_
    rw [e3]
    simp [winV, zeroW])
theorem c18 (Hh : Has σ X) (P : PIn t m W H root last ws c X) (hs : Srt (wl ws)) (hK : ∀ σ' new, Has σ' (new ++ X) → K (i64 (ofL (wl ws) n).k) σ') : Tri Try.prog 18 [ptr t, i64 n] σ K := tri_in (by
  rw [s18]
  refine c40 Hh P hs fun σ' i new H' hm => ?_
  rw [tP_ptr, pSome_some, add_none]
  refine ldm H' hm rfl ?_
  rw [tI_int]
  exact hK σ' new H')
theorem c24 (Hh : Has σ X) (P : PIn t m W H root last ws c X) (hs : Srt (wl ws)) (hK : ∀ σ' new, Has σ' (new ++ X) → K (i64 (ofL (wl ws) n).p) σ') : Tri Try.prog 24 [ptr t, i64 n] σ K := tri_in (by
  rw [s24]
  refine c40 Hh P hs fun σ' i new H' hm => ?_
  rw [tP_ptr, pSome_some]
  refine ldm H' hm rfl ?_
  rw [tI_int]
  exact hK σ' new H')
theorem sz3 : szOf Try.prog 3 = 1 := by kernel_rfl
theorem c20 (Hh : Has σ X) (P : PIn t m W H root last ws c X) (hs : Srt (wl ws)) (hK : ∀ σ' new, Has σ' (new ++ X) → K (.tuple ⟨[i64 (ofL (wl ws) n).a, i64 (ofL (wl ws) n).b]⟩) σ') : Tri Try.prog 20 [ptr t, i64 n] σ K := tri_in (by
  rw [s20]
  refine c40 Hh P hs fun σ' i new H' hm => ?_
  rw [tP_ptr, pSome_some, sz3]
  refine ldm H' hm rfl ?_
  rw [tI_int, pSome_some]
  refine ldm H' hm rfl ?_
  rw [tI_int]
  exact hK σ' new H')
theorem c26 (Hh : Has σ X) (P : PIn t m W H root last ws c X) (hs : Srt (wl ws)) (hK : ∀ σ' new, Has σ' (new ++ X) → K (i64 (sibL (wl ws) n)) σ') : Tri Try.prog 26 [ptr t, i64 n] σ K := tri_in (by
  rw [s26]
  refine c24 Hh P hs fun σ1 new1 H1 => ?_
  rw [tI_int]
  refine c20 H1 P.new hs fun σ2 new2 H2 => ?_
  simp only [tTup_tup, pSome_some, List.getElem?_cons_zero, List.getElem?_cons_succ, tI_int]
  rw [← List.append_assoc] at H2
  have := hK σ2 (new2 ++ new1) H2
  unfold sibL at this
  refine beq_mk (fun e => ?_) (fun e => ?_)
  · rw [if_pos e] at this; exact this
  · rw [if_neg e] at this; exact this)
theorem c27 (Hh : Has σ X) (P : PIn t m W H root last ws c X) (hK : K (i64 root) σ) : Tri Try.prog 27 [ptr t] σ K := tri_in (by
  rw [s27]
  refine ldm Hh P.tree rfl ?_
  rw [tI_int]
  exact hK)
/-- A pair, or why there is none. -/
def pairE (L : List Win) (n : Int) : Int := if hasL L n = false then 5 else if (ofL L n).k = 4 then 0 else 1
theorem c48 (Hh : Has σ X) (P : PIn t m W H root last ws c X) (hs : Srt (wl ws)) (hE : pairE (wl ws) n ≠ 0 → K (.tuple ⟨[.pointer none, i64 (pairE (wl ws) n)]⟩) σ)
    (hK : ∀ l1 q l2, ws = l1 ++ q :: l2 → q.2.2.n = n → ofL (wl ws) n = q.2.2 → q.2.2.k = 4 → K (.tuple ⟨[ptr q.1, i64 0]⟩) σ) : Tri Try.prog 48 [ptr t, i64 n] σ K := tri_in (by
  rw [s48]
  refine ldm Hh P.tree rfl ?_
  rw [tM_map]
  rcases look hs n with ⟨l1, q, l2, e1, e2, e3, e4, e5, _⟩ | ⟨e3, e4, e5, _⟩
  · refine mgm Hh P.map e5 ?_
    simp only [Option.map_some, Option.getD_some]
    rw [tP_ptr, ptrEq_some, bm_false, pSome_some, add_none]
    refine ldm Hh (P.win q (by rw [e1]; simp)) rfl ?_
    rw [tI_int]
    refine bne_mk (fun g => ?_) (fun g => ?_)
    · have e : pairE (wl ws) n = 1 := by unfold pairE; rw [e4, e3, if_neg (by simp), if_neg g]
      rw [e] at hE
      exact hE (by omega)
    · exact hK l1 q l2 e1 e2 e3 g
  · refine mgm Hh P.map e5 ?_
    simp only [Option.map_none, Option.getD_none]
    rw [tP_ptr, ptrEq_none, bm_true]
    have e : pairE (wl ws) n = 5 := by unfold pairE; rw [e4, if_pos rfl]
    rw [e] at hE
    exact hE (by omega))
theorem c30 (Hh : Has σ X) (P : PIn t m W H root last ws c X) (hs : Srt (wl ws)) (hE : pairE (wl ws) n ≠ 0 → K (.tuple ⟨[i64 0, u32 0, i64 0, i64 (pairE (wl ws) n)]⟩) σ)
    (hK : hasL (wl ws) n = true → (ofL (wl ws) n).k = 4 → K (.tuple ⟨[i64 (ofL (wl ws) n).m, u32 (ofL (wl ws) n).s, i64 (ofL (wl ws) n).key, i64 0]⟩) σ) : Tri Try.prog 30 [ptr t, i64 n] σ K := tri_in (by
  rw [s30]
  refine c48 Hh P hs (fun h => ?_) (fun l1 q l2 e1 e2 e3 e4 => ?_)
  · simp only [tTup_tup, pSome_some, List.getElem?_cons_zero, List.getElem?_cons_succ, tI_int, tP_ptr]
    exact bne_mk (fun _ => hE h) (fun g => absurd g h)
  · simp only [tTup_tup, pSome_some, List.getElem?_cons_zero, List.getElem?_cons_succ, tI_int, tP_ptr]
    have hq := P.win q (by rw [e1]; simp)
    have hh : hasL (wl ws) n = true := hasL_iff.2 ⟨q.2.2, by rw [e1]; simp, e2⟩
    have := hK hh (by rw [e3]; exact e4)
    rw [e3] at this
    refine bne_mk (fun g => absurd rfl g) (fun _ => ?_)
    refine ldm Hh hq rfl ?_
    rw [tI_int]
    refine ldm Hh hq rfl ?_
    rw [tI_int]
    refine ldm Hh hq rfl ?_
    rw [tI_int]
    exact this)
end
end Go.AI
end
section
set_option linter.unusedSimpArgs false
set_option linter.unusedVariables false
set_option maxRecDepth 10000
/- Where a window lies, what is below it: what the program tells of it; no condition but those that each names. -/
namespace Go.AI
open Go.Proofs Go.Pane
section
variable {σ : AS} {K : Value → AS → Prop} {X : List (Nat × AObj)} {t m : Nat} {n W H root last : Int} {ws : List PW} {c : Nat}
theorem iand32 {m : Int} (h : validM m) : (iand .i64 m 32 != 0) = decide (32 ≤ m) := by
  have : m = 16 ∨ m = 17 ∨ m = 18 ∨ m = 19 ∨ m = 32 ∨ m = 33 ∨ m = 34 ∨ m = 35 := by unfold validM at h; omega
  rcases this with rfl | rfl | rfl | rfl | rfl | rfl | rfl | rfl <;> decide +kernel
theorem partF_min (κ : Int → Int) (m s key n q : Int) (h : (if 32 ≤ m then n * s / 100 else if key = 0 ∨ κ key = 1 then 0 else s) = q) : partF κ m s key n = imin q n := by
  unfold partF imin
  rw [h]
theorem imin_in {a b : Int} (h0 : 0 ≤ a) (h1 : 0 ≤ b) (h2 : b ≤ 1000) : IntKind.wrap .i64 (imin a b) = imin a b := by
  unfold imin
  split <;> exact wrap64 (by omega) (by omega)
theorem c42 {p : Nat} {w : Win} (Hh : Has σ X) (P : PIn t m W H root last ws c X) (hs : Srt (wl ws)) (hp : (p, AObj.row .plain (winV w)) ∈ X) (hv : validM w.m) (h0 : 0 ≤ w.s) (h1 : w.s < 4294967296) (hn0 : 0 ≤ n) (hn1 : n ≤ 1000)
    (hK : ∀ σ' new, Has σ' (new ++ X) → K (i64 (partF (kof (wl ws)) w.m w.s w.key n)) σ') : Tri Try.prog 42 [ptr t, ptr p, i64 n] σ K := tri_in (by
  rw [s42]
  refine ldm Hh hp rfl ?_
  rw [tI_int]
  refine ldm Hh hp rfl ?_
  rw [tI_int, iand32 hv]
  have hmul : 0 ≤ n * w.s ∧ n * w.s ≤ 1000 * 4294967296 := ⟨Int.mul_nonneg hn0 h0, Int.mul_le_mul hn1 (by omega) h0 (by omega)⟩
  have e0 : IntKind.wrap .u64 n = n := wrapU64 hn0 (by omega)
  have e1 : IntKind.wrap .u64 w.s = w.s := wrapU64 h0 (by omega)
  have e2 : IntKind.wrap .u64 (n * w.s) = n * w.s := wrapU64 hmul.1 (by omega)
  have e3 : Int.tdiv (n * w.s) 100 = n * w.s / 100 := Int.tdiv_eq_ediv_of_nonneg hmul.1
  have e4 : 0 ≤ n * w.s / 100 := Int.ediv_nonneg hmul.1 (by decide)
  have e5 : n * w.s / 100 ≤ 18446744073709551615 := by generalize n * w.s = q at *; omega
  refine bmd_mk (fun g => ?_) (fun g => ?_)
  · rw [e0, e1, e2, e3, wrapU64 e4 e5, imin_in e4 hn0 hn1]
    have := hK σ [] Hh
    rw [partF_min _ _ _ _ _ _ (if_pos g)] at this
    exact this
  · refine ldm Hh hp rfl ?_
    rw [tI_int]
    refine beq_mk (fun g2 => ?_) (fun g2 => ?_)
    · rw [e0, imin_in (by omega) hn0 hn1]
      have := hK σ [] Hh
      rw [partF_min _ _ _ _ _ 0 (by rw [if_neg g, if_pos (.inl g2)])] at this
      exact this
    · refine ldm Hh hp rfl ?_
      rw [tI_int]
      refine c18 Hh P hs fun σ' new H' => ?_
      rw [tI_int]
      have := hK σ' new H'
      refine beq_mk (fun g3 => ?_) (fun g3 => ?_)
      · rw [e0, imin_in (by omega) hn0 hn1]
        rw [partF_min _ _ _ _ _ 0 (by rw [if_neg g, if_pos (.inr g3)])] at this
        exact this
      · rw [e0, e1, imin_in h0 hn0 hn1]
        rw [partF_min _ _ _ _ _ w.s (by rw [if_neg g, if_neg (by intro h; rcases h with h | h; exact g2 h; exact g3 h)])] at this
        exact this)
abbrev rV (r : R4) : Value := .agg ⟨[i64 r.x, i64 r.y, i64 r.w, i64 r.h]⟩
abbrev rL (r : R4) : List Value := [i64 r.x, i64 r.y, i64 r.w, i64 r.h]
abbrev j7 : List Bool := [true, true, true, true, true, true, true]
abbrev j9 : List Bool := [true, true, true, true, true, true, true, true, true]
abbrev jA : List Bool := [true, true, true, true, true, true, true, true, true, true]
theorem c17c {r cc : Nat} {q : R4} {cs : List Value} {Y : List (Nat × AObj)} (Hh : Has σ ((r, .row .plain (rL q)) :: (cc, .row .plain cs) :: Y)) (hc : cs.length = 4)
    (hK : ∀ σ', Has σ' ((r, .row .plain (rL q)) :: (cc, .row .plain (rL q)) :: Y) → K (.tuple ⟨[rV q, .bool true]⟩) σ') :
    jn Try.prog hintsS (Tri Try.prog) 17 jA [] K [(4, some (ptr cc)), (8, some (ptr r))] σ := by
  rw [s17c]
  refine lds_mk Hh 0 rfl (by simp) ?_
  simp only [List.drop_zero, List.take_succ_cons, List.take_zero, tCons, tI_int, tNil]
  refine puts_mk Hh 1 rfl rfl (by simp [hc]) fun σ' H' => ?_
  have ed : cs.drop (0 + [i64 q.x, i64 q.y, i64 q.w, i64 q.h].length) = [] := List.drop_eq_nil_of_le (by simp [hc])
  rw [ed] at H'
  refine lds_mk H' 1 rfl (by simp) ?_
  simp only [List.drop_zero, List.take_zero, List.nil_append, List.append_nil, List.take_succ_cons, tCons, tI_int, tNil]
  exact hK σ' (by simpa using H')
/-- A child's part: of columns, of rows. -/
theorem c17bX {r cc p : Nat} {q : R4} {f : Int} {w : Win} {cs : List Value} {Y : List (Nat × AObj)} (Hh : Has σ ((r, .row .plain (rL q)) :: (cc, .row .plain cs) :: Y)) (hc : cs.length = 4) (hp : (p, AObj.row .plain (winV w)) ∈ Y)
    (h0 : 0 ≤ q.x) (h1 : q.x + q.w ≤ 1000) (h2 : 0 ≤ f) (h3 : f ≤ q.w)
    (hK : ∀ σ' u, Has σ' (u :: (cc, .row .plain (rL (if n = w.a then ⟨q.x, q.y, f, q.h⟩ else ⟨q.x + f, q.y, q.w - f, q.h⟩))) :: Y) → K (.tuple ⟨[rV (if n = w.a then ⟨q.x, q.y, f, q.h⟩ else ⟨q.x + f, q.y, q.w - f, q.h⟩), .bool true]⟩) σ') :
    jn Try.prog hintsS (Tri Try.prog) 17 j9 [] K [(1, some (i64 n)), (4, some (ptr cc)), (7, some (ptr p)), (8, some (ptr r)), (10, some (.pointer (some ⟨r, 0, none⟩))), (11, some (.pointer (some ⟨r, 2, none⟩))), (12, some (i64 f))] σ := by
  rw [s17bX]
  refine ldm Hh (List.mem_cons_of_mem _ (List.mem_cons_of_mem _ hp)) rfl ?_
  rw [tI_int]
  refine beq_mk (fun g => ?_) (fun g => ?_)
  · rw [if_pos g] at hK
    refine put1_mk Hh 0 rfl rfl (by simp) fun σ1 H1 => ⟨?_⟩
    refine c17c (q := ⟨q.x, q.y, f, q.h⟩) H1 hc fun σ2 H2 => hK σ2 _ H2
  · rw [if_neg g] at hK
    refine ldc_mk Hh 0 rfl rfl ?_
    rw [tI_int, wrap64 (by omega) (by omega)]
    refine put1_mk Hh 0 rfl rfl (by simp) fun σ1 H1 => ?_
    refine ldc_mk H1 0 rfl rfl ?_
    rw [tI_int, wrap64 (by omega) (by omega)]
    refine put1_mk H1 0 rfl rfl (by simp) fun σ2 H2 => ⟨?_⟩
    refine c17c (q := ⟨q.x + f, q.y, q.w - f, q.h⟩) H2 hc fun σ3 H3 => hK σ3 _ H3
theorem c17bY {r cc p : Nat} {q : R4} {f : Int} {w : Win} {cs : List Value} {Y : List (Nat × AObj)} (Hh : Has σ ((r, .row .plain (rL q)) :: (cc, .row .plain cs) :: Y)) (hc : cs.length = 4) (hp : (p, AObj.row .plain (winV w)) ∈ Y)
    (h0 : 0 ≤ q.y) (h1 : q.y + q.h ≤ 1000) (h2 : 0 ≤ f) (h3 : f ≤ q.h)
    (hK : ∀ σ' u, Has σ' (u :: (cc, .row .plain (rL (if n = w.a then ⟨q.x, q.y, q.w, f⟩ else ⟨q.x, q.y + f, q.w, q.h - f⟩))) :: Y) → K (.tuple ⟨[rV (if n = w.a then ⟨q.x, q.y, q.w, f⟩ else ⟨q.x, q.y + f, q.w, q.h - f⟩), .bool true]⟩) σ') :
    jn Try.prog hintsS (Tri Try.prog) 17 j9 [] K [(1, some (i64 n)), (4, some (ptr cc)), (7, some (ptr p)), (8, some (ptr r)), (10, some (.pointer (some ⟨r, 1, none⟩))), (11, some (.pointer (some ⟨r, 3, none⟩))), (12, some (i64 f))] σ := by
  rw [s17bY]
  refine ldm Hh (List.mem_cons_of_mem _ (List.mem_cons_of_mem _ hp)) rfl ?_
  rw [tI_int]
  refine beq_mk (fun g => ?_) (fun g => ?_)
  · rw [if_pos g] at hK
    refine put1_mk Hh 0 rfl rfl (by simp) fun σ1 H1 => ⟨?_⟩
    refine c17c (q := ⟨q.x, q.y, q.w, f⟩) H1 hc fun σ2 H2 => hK σ2 _ H2
  · rw [if_neg g] at hK
    refine ldc_mk Hh 0 rfl rfl ?_
    rw [tI_int, wrap64 (by omega) (by omega)]
    refine put1_mk Hh 0 rfl rfl (by simp) fun σ1 H1 => ?_
    refine ldc_mk H1 0 rfl rfl ?_
    rw [tI_int, wrap64 (by omega) (by omega)]
    refine put1_mk H1 0 rfl rfl (by simp) fun σ2 H2 => ⟨?_⟩
    refine c17c (q := ⟨q.x, q.y + f, q.w, q.h - f⟩) H2 hc fun σ3 H3 => hK σ3 _ H3
/-- A list in which two things come to the front. -/
theorem front2 {a b : Nat × AObj} {l1 l2 l3 : List (Nat × AObj)} (h : Has σ (l1 ++ a :: (l2 ++ b :: l3))) : Has σ (a :: b :: (l1 ++ l2 ++ l3)) := by
  refine h.perm ?_
  refine .trans ?_ List.perm_middle.symm
  refine .cons _ ?_
  rw [← List.append_assoc]
  exact List.perm_middle.symm
theorem Has.back {a b : Nat × AObj} {l1 l2 l3 : List (Nat × AObj)} (h : Has σ (a :: b :: (l1 ++ l2 ++ l3))) : Has σ ((a :: b :: (l1 ++ l2)) ++ l3) := by simpa using h
variable {tr : Option T}
/-- The condition behind the first join. -/
theorem c17a {r cc p : Nat} {q : R4} {w : Win} {cs : List Value} {new : List (Nat × AObj)} (Hh : Has σ ((r, .row .plain (rL q)) :: (new ++ (cc, .row .plain cs) :: X))) (hc : cs.length = 4) (P : PIn t m W H root last ws c X) (hs : Srt (wl ws))
    (hp : (p, AObj.row .plain (winV w)) ∈ X) (hv : validM w.m) (hz0 : 0 ≤ w.s) (hz1 : w.s < 4294967296) (h0 : 0 ≤ q.x) (h1 : q.x + q.w ≤ 1000) (h2 : 0 ≤ q.w) (h3 : 0 ≤ q.y) (h4 : q.y + q.h ≤ 1000) (h5 : 0 ≤ q.h)
    (hK : ∀ σ' new, Has σ' (new ++ X) → K (.tuple ⟨[rV (childR (kof (wl ws)) w.m w.s w.key (w.a == n) q), .bool true]⟩) σ') :
    bmatch (cols w.m) (JoinS (jn Try.prog hintsS (Tri Try.prog) 17 j7 [] K) [(0, some (ptr t)), (1, some (i64 n)), (4, some (ptr cc)), (7, some (ptr p)), (8, some (ptr r)), (10, some (.pointer (some ⟨r, 0, none⟩))), (11, some (.pointer (some ⟨r, 0 + 2, none⟩)))] σ)
      (JoinS (jn Try.prog hintsS (Tri Try.prog) 17 j7 [] K) [(0, some (ptr t)), (1, some (i64 n)), (4, some (ptr cc)), (7, some (ptr p)), (8, some (ptr r)), (10, some (.pointer (some ⟨r, 0 + 1, none⟩))), (11, some (.pointer (some ⟨r, 0 + 3, none⟩)))] σ) := by
  have P' : PIn t m W H root last ws c ((r, .row .plain (rL q)) :: (new ++ (cc, .row .plain cs) :: X)) := P.mono fun p hp => by simp [hp]
  have hp' : (p, AObj.row .plain (winV w)) ∈ (r, AObj.row .plain (rL q)) :: (new ++ (cc, .row .plain cs) :: X) := by simp [hp]
  refine bm_mk (fun hcol => ⟨?_⟩) (fun hcol => ⟨?_⟩)
  · rw [show (0 + 2 : Nat) = 2 from rfl, s17aX]
    refine ldm Hh (List.mem_cons_self ..) rfl ?_
    rw [tI_int]
    refine c42 Hh P' hs hp' hv hz0 hz1 h2 (by omega) fun σ1 new1 H1 => ?_
    have b := partF_le (κ := kof (wl ws)) (m := w.m) (key := w.key) h2 hz0
    rw [tI_int]
    refine ldm H1 (List.mem_append_right _ hp') rfl ?_
    rw [tI_int, iand1]
    have F := front2 H1
    have fin : ∀ f, f = firstF (kof (wl ws)) w.m w.s w.key q.w → jn Try.prog hintsS (Tri Try.prog) 17 j9 [] K [(1, some (i64 n)), (4, some (ptr cc)), (7, some (ptr p)), (8, some (ptr r)), (10, some (.pointer (some ⟨r, 0, none⟩))), (11, some (.pointer (some ⟨r, 2, none⟩))), (12, some (i64 f))] σ1 := by
      intro f hf
      have bf := firstF_le (κ := kof (wl ws)) (m := w.m) (key := w.key) h2 hz0
      rw [← hf] at bf
      refine c17bX (w := w) F hc (by simp [hp]) h0 h1 bf.1 bf.2 fun σ2 u H2 => ?_
      have e : (if n = w.a then (⟨q.x, q.y, f, q.h⟩ : R4) else ⟨q.x + f, q.y, q.w - f, q.h⟩) = childR (kof (wl ws)) w.m w.s w.key (w.a == n) q := by
        unfold childR
        rw [hcol, ← hf]
        by_cases g : n = w.a
        · rw [if_pos g, g, beq_self_eq_true]
        · rw [if_neg g, show (w.a == n) = false by simpa using Ne.symm g]
      rw [e] at H2 ⊢
      exact hK σ2 _ H2.back
    refine beq_mk (fun g => ?_) (fun g => ⟨fin _ ?_⟩)
    · refine ldm H1 (List.mem_append_right _ (List.mem_cons_self ..)) rfl ?_
      rw [tI_int]
      refine ⟨fin _ ?_⟩
      unfold firstF
      rw [if_pos g, wrap64 (by omega) (by omega)]
    · unfold firstF
      rw [if_neg g]
  · rw [show (0 + 1 : Nat) = 1 from rfl, show (0 + 3 : Nat) = 3 from rfl, s17aY]
    refine ldm Hh (List.mem_cons_self ..) rfl ?_
    rw [tI_int]
    refine c42 Hh P' hs hp' hv hz0 hz1 h5 (by omega) fun σ1 new1 H1 => ?_
    have b := partF_le (κ := kof (wl ws)) (m := w.m) (key := w.key) h5 hz0
    rw [tI_int]
    refine ldm H1 (List.mem_append_right _ hp') rfl ?_
    rw [tI_int, iand1]
    have F := front2 H1
    have fin : ∀ f, f = firstF (kof (wl ws)) w.m w.s w.key q.h → jn Try.prog hintsS (Tri Try.prog) 17 j9 [] K [(1, some (i64 n)), (4, some (ptr cc)), (7, some (ptr p)), (8, some (ptr r)), (10, some (.pointer (some ⟨r, 1, none⟩))), (11, some (.pointer (some ⟨r, 3, none⟩))), (12, some (i64 f))] σ1 := by
      intro f hf
      have bf := firstF_le (κ := kof (wl ws)) (m := w.m) (key := w.key) h5 hz0
      rw [← hf] at bf
      refine c17bY (w := w) F hc (by simp [hp]) h3 h4 bf.1 bf.2 fun σ2 u H2 => ?_
      have e : (if n = w.a then (⟨q.x, q.y, q.w, f⟩ : R4) else ⟨q.x, q.y + f, q.w, q.h - f⟩) = childR (kof (wl ws)) w.m w.s w.key (w.a == n) q := by
        unfold childR
        rw [hcol, ← hf]
        by_cases g : n = w.a
        · rw [if_pos g, g, beq_self_eq_true]
        · rw [if_neg g, show (w.a == n) = false by simpa using Ne.symm g]
      rw [e] at H2 ⊢
      exact hK σ2 _ H2.back
    refine beq_mk (fun g => ?_) (fun g => ⟨fin _ ?_⟩)
    · refine ldm H1 (List.mem_append_right _ (List.mem_cons_self ..)) rfl ?_
      rw [tI_int]
      refine ⟨fin _ ?_⟩
      unfold firstF
      rw [if_pos g, wrap64 (by omega) (by omega)]
    · unfold firstF
      rw [if_neg g]
theorem kind_pos (h : Ok (wl ws) last tr) {fs : List Fr} {s : T} (a : Pane.At tr fs s) : (s.win (top fs)).k ≠ 0 := by
  rcases h.wok _ (h.at a) with h | h <;> omega
theorem c17 (ok : Ok (wl ws) last tr) (hW : 0 ≤ W) (hW1 : W ≤ 1000) (hH : 0 ≤ H) (hH1 : H ≤ 1000) : ∀ (fs : List Fr) (s : T) {σ : AS} {K : Value → AS → Prop} {X : List (Nat × AObj)}, Pane.At tr fs s → Has σ X → PIn t m W H root last ws c X →
    (∀ σ' new, Has σ' (new ++ X) → K (.tuple ⟨[rV (rectC (kof (wl ws)) W H fs), .bool true]⟩) σ') → Tri Try.prog 17 [ptr t, i64 s.num] σ K := by
  intro fs
  induction fs with
  | nil =>
    intro s σ K X a Hh P hK
    refine tri_in ?_
    rw [s17]
    refine newAt_mk Hh fun cc σ1 H1 => ?_
    refine c40 H1 P.cons ok.srt fun σ2 i new H2 hm => ?_
    rw [ok.of_at a] at hm
    rw [tP_ptr, pSome_some, add_none]
    refine ldm H2 hm rfl ?_
    rw [tI_int]
    refine beq_mk (fun g => absurd g (kind_pos ok a)) (fun _ => ?_)
    rw [pSome_some]
    refine ldm H2 hm rfl ?_
    rw [tI_int, T.win_p]
    refine beq_mk (fun _ => ?_) (fun g => absurd rfl g)
    have P2 : PIn t m W H root last ws c (new ++ (cc, AObj.row .plain [i64 0, i64 0, i64 0, i64 0]) :: X) := P.mono fun p hp => by simp [hp]
    refine ldm H2 P2.tree rfl ?_
    rw [tI_int]
    refine ldm H2 P2.tree rfl ?_
    rw [tI_int]
    have H3 : Has σ2 ((cc, AObj.row .plain [i64 0, i64 0, i64 0, i64 0]) :: (new ++ X)) := H2.perm List.perm_middle.symm
    refine puts_mk H3 0 rfl rfl (by simp) fun σ3 H4 => ?_
    refine lds_mk H4 0 rfl (by simp) ?_
    simp only [List.drop_zero, List.take_zero, List.nil_append, List.append_nil, List.take_succ_cons, tCons, tI_int, tNil, List.cons_append, List.drop_succ_cons, List.length_cons, List.length_nil, Nat.zero_add]
    exact hK σ3 ((cc, _) :: new) (by simpa using H4)
  | cons f fs ih =>
    intro s σ K X a Hh P hK
    refine tri_in ?_
    rw [s17]
    refine newAt_mk Hh fun cc σ1 H1 => ?_
    refine c40 H1 P.cons ok.srt fun σ2 i new H2 hm => ?_
    rw [ok.of_at a] at hm
    rw [tP_ptr, pSome_some, add_none]
    refine ldm H2 hm rfl ?_
    rw [tI_int]
    refine beq_mk (fun g => absurd g (kind_pos ok a)) (fun _ => ?_)
    rw [pSome_some]
    refine ldm H2 hm rfl ?_
    have hf := (ok.num_pos a.up).1
    rw [Fr.fill_num] at hf
    have et : top (f :: fs) = f.n := rfl
    rw [tI_int, T.win_p, et]
    refine beq_mk (fun g => by omega) (fun _ => ?_)
    have P2 : PIn t m W H root last ws c (new ++ (cc, AObj.row .plain [i64 0, i64 0, i64 0, i64 0]) :: X) := P.mono fun p hp => by simp [hp]
    refine ldm H2 P2.tree rfl ?_
    rw [tM_map, pSome_some]
    refine ldm H2 hm rfl ?_
    rw [tI_int, T.win_p, et]
    have e2 := ok.of_at a.up
    rw [Fr.fill_num, Fr.fill_win] at e2
    rcases look ok.srt f.n with ⟨l1, q, l2, g1, g2, g3, g4, g5, _⟩ | ⟨g3, g4, g5, _⟩
    · rw [e2] at g3
      refine mgm H2 P2.map g5 ?_
      simp only [Option.map_some, Option.getD_some]
      rw [tP_ptr, pSome_some]
      refine ldm H2 hm rfl ?_
      rw [tI_int, T.win_p, et]
      have ih' := @ih (f.fill s) σ2
      rw [Fr.fill_num] at ih'
      refine ih' a.up H2 P2 fun σ3 new3 H3 => ?_
      simp only [tTup_tup, pSome_some, List.getElem?_cons_zero, List.getElem?_cons_succ, tAgg, tCons, tI_int, tNil, tB_bool]
      refine newAt_mk H3 fun r σ4 H4 => ?_
      refine puts_mk H4 0 rfl rfl (by simp) fun σ5 H5 => ?_
      have hq : objM q ∈ X := P.win q (by rw [g1]; simp)
      simp only [List.drop_zero, List.take_zero, List.nil_append, List.append_nil, List.take_succ_cons, List.cons_append, List.drop_succ_cons, List.length_cons, List.length_nil, Nat.zero_add, List.set_cons_zero] at H5
      refine ldm H5 (show (q.1, AObj.row .plain (winV q.2.2)) ∈ _ by simp [hq]) rfl ?_
      rw [tI_int]
      refine c41 ?_
      rw [tB_bool]
      have H6 : Has σ5 ((r, AObj.row .plain (rL (rectC (kof (wl ws)) W H fs))) :: ((new3 ++ new) ++ (cc, AObj.row .plain [i64 0, i64 0, i64 0, i64 0]) :: X)) := by simpa using H5
      have b := ok.bounds hW hH fs _ a.up
      have fr := ok.frame a
      have ew : q.2.2.m = f.m ∧ q.2.2.s = f.s ∧ q.2.2.key = f.key := by
        rw [← g3]; unfold Fr.win; cases f.side <;> exact ⟨rfl, rfl, rfl⟩
      have es : (q.2.2.a == s.num) = f.side := by
        rw [← g3]
        unfold Fr.win
        have := ok.side_ne a
        cases e : f.side
        · simp only; simpa using this
        · simp only; simp
      refine c17a H6 rfl P ok.srt hq (by rw [ew.1]; exact fr.1) (by rw [ew.2.1]; exact fr.2.1) (by rw [ew.2.1]; exact fr.2.2.1) b.1 (by omega) b.2.1 b.2.2.2.1 (by omega) b.2.2.2.2.1 fun σ6 new6 H7 => ?_
      rw [es, ew.1, ew.2.1, ew.2.2]
      exact hK σ6 new6 H7
    · have := ok.has_at a.up
      rw [Fr.fill_num, g4] at this
      cases this
theorem c17n (hs : Srt (wl ws)) (hn : hasL (wl ws) n = false) (Hh : Has σ X) (P : PIn t m W H root last ws c X) (hK : ∀ σ' new, Has σ' (new ++ X) → K (.tuple ⟨[rV zeroR, .bool false]⟩) σ') : Tri Try.prog 17 [ptr t, i64 n] σ K := tri_in (by
  rw [s17]
  refine newAt_mk Hh fun cc σ1 H1 => ?_
  refine c40 H1 P.cons hs fun σ2 i new H2 hm => ?_
  rw [ofL_none hn] at hm
  rw [tP_ptr, pSome_some, add_none]
  refine ldm H2 hm rfl ?_
  rw [tI_int]
  refine beq_mk (fun _ => ?_) (fun g => absurd rfl g)
  have H3 : Has σ2 ((cc, AObj.row .plain [i64 0, i64 0, i64 0, i64 0]) :: (new ++ X)) := H2.perm List.perm_middle.symm
  refine puts_mk H3 0 rfl rfl (by simp) fun σ3 H4 => ?_
  refine lds_mk H4 0 rfl (by simp) ?_
  simp only [List.drop_zero, List.take_zero, List.nil_append, List.append_nil, List.take_succ_cons, tCons, tI_int, tNil, List.cons_append, List.drop_succ_cons, List.length_cons, List.length_nil, Nat.zero_add]
  exact hK σ3 ((cc, _) :: new) (by simpa using H4))
end
end Go.AI
end
section
set_option linter.unusedSimpArgs false
set_option linter.unusedVariables false
set_option maxRecDepth 10000
/- Slices of numbers; what is below a window; no condition but those that each names. -/
namespace Go.AI
open Go.Proofs Go.Pane
/-- A slice of whole numbers, with the row that it lies on. -/
def SlR (a : Option Addr) (e : Nat) (ys : List Int) (fr : List (Nat × AObj)) : Prop :=
  (a = none ∧ ys = [] ∧ fr = []) ∨ ∃ j, a = some ⟨j, 0, none⟩ ∧ e = 1 ∧ fr = [(j, .row .rw (ys.map i64))]
theorem SlR.no {a : Option Addr} {e : Nat} {ys : List Int} {fr : List (Nat × AObj)} (h : SlR a e ys fr) : nilOr a e 1 = true := by
  rcases h with ⟨rfl, _⟩ | ⟨j, rfl, rfl, _⟩
  · unfold nilOr; cases Nat.beq e 1 <;> rfl
  · rfl
theorem SlR.e1 {a : Option Addr} {e : Nat} {ys : List Int} {fr : List (Nat × AObj)} (h : SlR a e ys fr) : SlR a 1 ys fr := by
  rcases h with h | ⟨j, h1, h2, h3⟩
  · exact .inl h
  · exact .inr ⟨j, h1, rfl, h3⟩
theorem tL_ok {a : Option Addr} {n e f : Nat} {K : Sl → Prop} (h : nilOr a e f = true) (k : K ⟨a, n⟩) : tL f (.slice a n e) K := by
  unfold tL
  simp only
  exact chk_mk h k
section
variable {σ : AS} {K : Value → AS → Prop} {X : List (Nat × AObj)} {t m : Nat} {n W H root last : Int} {ws : List PW} {c : Nat} {tr : Option T}
theorem pushI {a : Option Addr} {e : Nat} {ys : List Int} {fr : List (Nat × AObj)} {v : Int} {G : Sl → AS → Prop} (hs : SlR a e ys fr) (Hh : Has σ (fr ++ X)) (hl : ys.length ≤ 1000000)
    (hG : ∀ a' σ' fr', SlR a' 1 (ys ++ [v]) fr' → Has σ' (fr' ++ X) → G ⟨a', (ys ++ [v]).length⟩ σ') :
    newAt σ (.row .rw [i64 v]) fun i0 σ1 => chk (nilOr a e (szOf Try.prog 3)) (lds σ1 ⟨i0, 0, none⟩ 1 fun l => appendTo σ1 1 8 ⟨a, ys.length⟩ l 1 G) := by
  refine newAt_mk Hh fun i0 σ1 H1 => ?_
  rw [sz3]
  refine chk_mk hs.no (lds_mk H1 0 rfl (by simp) ?_)
  rcases hs with ⟨rfl, rfl, rfl⟩ | ⟨j, rfl, rfl, rfl⟩
  · refine append_nil_mk H1 (by omega) fun j' σ2 H2 => ?_
    exact hG _ σ2 [_] (.inr ⟨j', rfl, rfl, rfl⟩) (H2.sub (.cons_cons _ (.cons _ (.refl _))))
  · refine append_mk H1 1 rfl rfl (by omega) (by simp) fun j' σ2 H2 => ?_
    have e2 : (ys ++ [v]).length = ys.length + 1 := by simp
    have e3 : (ys.map i64).take (ys.length * 1) ++ (List.drop 0 [i64 v]).take 1 = (ys ++ [v]).map i64 := by
      rw [Nat.mul_one, List.take_of_length_le (by simp)]; simp
    have H3 := H2.sub (L' := (j', .row .rw ((ys ++ [v]).map i64)) :: X) (by
      rw [e3]
      exact .cons_cons _ (.cons _ (.refl _)))
    rw [← e2]
    exact hG _ σ2 [_] (.inr ⟨j', rfl, rfl, rfl⟩) H3
/-- The numbers of a subtree. -/
def pre (s : T) : List Int := (s.wins 0).map (·.n)
theorem wins_n : ∀ (s : T) (p q : Int), (s.wins p).map (·.n) = (s.wins q).map (·.n)
  | .lf n k, p, q => rfl
  | .nd n m sz key a b, p, q => rfl
theorem pre_nd (n m sz key : Int) (a b : T) : pre (.nd n m sz key a b) = n :: (pre a ++ pre b) := by
  unfold pre
  simp only [T.wins, List.map_cons, List.map_append]
  rw [wins_n a n 0, wins_n b n 0]
abbrev b46 : List Bool := [true, true, false, true, true, false, true, false]
theorem Has.swap1 {fr fr' : List (Nat × AObj)} (h : Has σ (fr ++ X)) : Has σ (fr ++ X) := h
theorem c46 (ok : Ok (wl ws) last tr) : ∀ (s : T) (fs : List Fr) {σ : AS} {K : Value → AS → Prop} {X : List (Nat × AObj)} {a : Option Addr} {e : Nat} {ys : List Int} {fr : List (Nat × AObj)}, Pane.At tr fs s → SlR a e ys fr → Has σ (fr ++ X) → PIn t m W H root last ws c X →
    ys.length + (pre s).length ≤ 1000000 → (∀ σ' a' fr', SlR a' 1 (ys ++ pre s) fr' → Has σ' (fr' ++ X) → K (.slice a' (ys ++ pre s).length 1) σ') → Tri Try.prog 46 [ptr t, i64 s.num, .slice a ys.length e] σ K := by
  intro s
  induction s with
  | lf n k =>
    intro fs σ K X a e ys fr at' hs Hh P hl hK
    refine tri_in ?_
    rw [s46]
    have hp : pre (.lf n k) = [n] := rfl
    rw [hp] at hl hK
    refine pushI hs Hh (by simp at hl; omega) fun a' σ1 fr' hs1 H1 => ?_
    refine ldm H1 (P.new.tree) rfl ?_
    rw [tM_map]
    have e2 := ok.of_at at'
    rcases look ok.srt (T.lf n k).num with ⟨l1, q, l2, g1, g2, g3, g4, g5, _⟩ | ⟨g3, g4, g5, _⟩
    · rw [e2] at g3
      refine mgm H1 (P.new.map) g5 ?_
      simp only [Option.map_some, Option.getD_some]
      rw [tP_ptr, pSome_some, add_none]
      refine ldm H1 (P.new.win q (by rw [g1]; simp)) rfl ?_
      rw [tI_int]
      have hk : q.2.2.k = k := by rw [← g3]; rfl
      have hk4 : k ≠ 4 := by
        have := ok.wok _ (ok.at at')
        rcases this with h | h
        · have := h.2.1; simp only [T.win, validM] at this; omega
        · simp only [T.win] at h; omega
      refine beq_mk (fun g => absurd (hk.symm.trans g) hk4) (fun _ => ?_)
      exact hK σ1 a' fr' hs1 H1
    · have := ok.has_at at'
      rw [g4] at this
      cases this
  | nd n m' sz key x y ihx ihy =>
    intro fs σ K X a e ys fr at' hs Hh P hl hK
    refine tri_in ?_
    rw [s46]
    have hp := pre_nd n m' sz key x y
    rw [hp] at hl hK
    simp only [List.length_cons, List.length_append] at hl
    have hnum : (T.nd n m' sz key x y).num = n := rfl
    rw [hnum]
    refine pushI hs Hh (by omega) fun a' σ1 fr' hs1 H1 => ?_
    refine ldm H1 (P.new.tree) rfl ?_
    rw [tM_map]
    have e2 := ok.of_at at'
    rw [hnum] at e2
    rcases look ok.srt n with ⟨l1, q, l2, g1, g2, g3, g4, g5, _⟩ | ⟨g3, g4, g5, _⟩
    · rw [e2] at g3
      refine mgm H1 (P.new.map) g5 ?_
      simp only [Option.map_some, Option.getD_some]
      rw [tP_ptr, pSome_some, add_none]
      have hq : objM q ∈ fr' ++ X := P.new.win q (by rw [g1]; simp)
      refine ldm H1 hq rfl ?_
      rw [tI_int]
      have hk : q.2.2.k = 4 := by rw [← g3]; rfl
      have hka : q.2.2.a = x.num := by rw [← g3]; rfl
      have hkb : q.2.2.b = y.num := by rw [← g3]; rfl
      refine beq_mk (fun _ => ?_) (fun g => absurd hk g)
      rw [pSome_some]
      refine ldsm H1 hq (by simp) ?_
      simp only [List.drop_succ_cons, List.drop_zero, List.take_succ_cons, List.take_zero, tCons, tI_int, tNil, hka, hkb]
      intro XX hX
      refine hX _ _ ?_
      rw [s46l0]
      refine ihx _ at'.dnA hs1 H1 P (by simp; omega) fun σ2 a2 fr2 hs2 H2 => ?_
      refine tL_ok hs2.no ?_
      refine hX _ _ ?_
      rw [s46l1]
      refine ihy _ at'.dnB hs2 H2 P (by simp; omega) fun σ3 a3 fr3 hs3 H3 => ?_
      refine tL_ok hs3.no ?_
      refine hX _ _ ?_
      rw [s46l2]
      have el : ys ++ [n] ++ pre x ++ pre y = ys ++ n :: (pre x ++ pre y) := by simp
      rw [el] at hs3 ⊢
      exact hK σ3 a3 fr3 hs3 H3
    · have := ok.has_at at'
      rw [hnum, g4] at this
      cases this
theorem c66 {a : Option Addr} {e : Nat} {ys : List Int} {fr : List (Nat × AObj)} {v : Int} (hs : SlR a e ys fr) (Hh : Has σ (fr ++ X)) (hl : ys.length ≤ 1000000) (hN : v ∉ ys → K (i64 (-1)) σ) (hK : ∀ i : Nat, v ∈ ys → K (i64 i) σ) :
    Tri Try.prog 66 [.slice a ys.length e, i64 v] σ K := tri_in (by
  rw [s66]
  refine aloop (fun (k : Nat) rg σ' => σ' = σ ∧ k ≤ ys.length ∧ v ∉ ys.take k ∧ rg = [(0, some (.slice a ys.length e)), (1, some (i64 v)), (7, some (i64 ys.length)), (8, some (i64 k))]) (fun k => ys.length - k) ?_ (a := 0) ⟨rfl, Nat.zero_le _, by simp, rfl⟩
  rintro k rg σ1 Y hY ⟨rfl, hk, hno, rfl⟩
  rw [s66l]
  refine bmd_mk (fun h => ?_) (fun h => ?_)
  · obtain ⟨x, hx⟩ : ∃ x, ys[k]? = some x := ⟨ys[k]'(by omega), by simp⟩
    have hne : ys ≠ [] := fun e => by rw [e] at h; simp at h; omega
    rcases hs with ⟨_, h2, _⟩ | ⟨j, rfl, rfl, rfl⟩
    · exact absurd h2 hne
    · refine req_mk (by omega) (req_mk h ?_)
      rw [pSome_some, sz3]
      refine req_mk rfl ?_
      rw [add_none, Int.toNat_natCast, Nat.mul_one, Nat.zero_add]
      refine ldm Hh (List.mem_append_left _ (List.mem_singleton.2 rfl)) (v := i64 x) (by simp [hx]) ?_
      rw [tI_int]
      refine beq_mk (fun g => ?_) (fun g => ?_)
      · exact hK k (by rw [g]; exact List.mem_of_getElem? hx)
      · have e2 : IntKind.wrap .i64 ((k : Int) + 1) = ((k + 1 : Nat) : Int) := by rw [wrap64 (by omega) (by omega)]; omega
        rw [e2]
        refine hY (k + 1) _ _ (by omega) ⟨rfl, by omega, ?_, rfl⟩
        rw [List.take_add_one, hx]
        simp only [Option.toList_some, List.mem_append, List.mem_singleton, not_or]
        exact ⟨hno, g⟩
  · have e2 : k = ys.length := by omega
    subst e2
    rw [List.take_length] at hno
    exact hN hno)
theorem c57 {a : Option Addr} {e : Nat} {ys : List Int} {fr : List (Nat × AObj)} {v : Int} (hs : SlR a e ys fr) (Hh : Has σ (fr ++ X)) (hl : ys.length ≤ 1000000) (hK : K (.bool (decide (v ∈ ys))) σ) :
    Tri Try.prog 57 [.slice a ys.length e, i64 v] σ K := tri_in (by
  rw [s57]
  refine c66 hs Hh hl (fun h => ?_) (fun i h => ?_)
  · rw [tI_int]
    rw [decide_eq_false h] at hK
    exact hK
  · rw [tI_int]
    rw [decide_eq_true h] at hK
    have : decide ((i : Int) ≥ 0) = true := by simp
    rw [this]
    exact hK)
end
end Go.AI
end
section
set_option linter.unusedSimpArgs false
set_option linter.unusedVariables false
set_option maxRecDepth 10000
/- Windows added, hung elsewhere, opened: what the program does; no condition but those that each names. -/
namespace Go.AI
open Go.Proofs Go.Pane
abbrev progL (t m : Nat) (W H root last : Int) (ws : List PW) (c : Nat) (fr : List (Nat × AObj)) : List (Nat × AObj) := (t, treeO W H root last m) :: (m, mapO ws c) :: (ws.map objM ++ fr)
def updN (n0 : Int) (g : Win → Win) (q : PW) : PW := if q.2.2.n = n0 then (q.1, q.2.1, g q.2.2) else q
def updW (n0 : Int) (g : Win → Win) (w : Win) : Win := if w.n = n0 then g w else w
theorem wl_updN (n0 : Int) (g : Win → Win) (ws : List PW) : wl (ws.map (updN n0 g)) = (wl ws).map (updW n0 g) := by
  unfold wl
  rw [List.map_map, List.map_map]
  refine List.map_congr_left fun q _ => ?_
  unfold updN updW
  simp only [Function.comp]
  split <;> rfl
theorem updW_n {n0 : Int} {g : Win → Win} (hg : ∀ w, (g w).n = w.n) (w : Win) : (updW n0 g w).n = w.n := by unfold updW; split; exact hg w; rfl
theorem srt_upd {n0 : Int} {g : Win → Win} (hg : ∀ w, (g w).n = w.n) {ws : List PW} (h : Srt (wl ws)) : Srt (wl (ws.map (updN n0 g))) := by
  rw [wl_updN]; exact srt_map (updW_n hg) h
theorem map_at {n0 : Int} {g : Win → Win} {l1 l2 : List PW} {q : PW} (hq : q.2.2.n = n0) (h1 : ∀ r ∈ l1, r.2.2.n ≠ n0) (h2 : ∀ r ∈ l2, r.2.2.n ≠ n0) : (l1 ++ q :: l2).map (updN n0 g) = l1 ++ (q.1, q.2.1, g q.2.2) :: l2 := by
  have e1 : l1.map (updN n0 g) = l1 := by
    rw [List.map_congr_left (g := id) (fun r hr => by unfold updN; rw [if_neg (h1 r hr)]; rfl)]; simp
  have e2 : l2.map (updN n0 g) = l2 := by
    rw [List.map_congr_left (g := id) (fun r hr => by unfold updN; rw [if_neg (h2 r hr)]; rfl)]; simp
  rw [List.map_append, List.map_cons, e1, e2]
  congr 1
  unfold updN
  rw [if_pos hq]
theorem map_none {n0 : Int} {g : Win → Win} {ws : List PW} (h : ∀ r ∈ ws, r.2.2.n ≠ n0) : ws.map (updN n0 g) = ws := by
  rw [List.map_congr_left (g := id) (fun r hr => by unfold updN; rw [if_neg (h r hr)]; rfl)]; simp
theorem ent_upd {n0 : Int} {g : Win → Win} (hg : ∀ w, (g w).n = w.n) (ws : List PW) : (ws.map (updN n0 g)).map entM = ws.map entM := by
  rw [List.map_map]
  refine List.map_congr_left fun q _ => ?_
  unfold updN entM
  simp only [Function.comp]
  split
  · simp only [hg]
  · rfl
section
variable {σ : AS} {K : Value → AS → Prop} {t m : Nat} {n W H root last : Int} {ws : List PW} {c : Nat} {tr : Option T} {fr : List (Nat × AObj)}
theorem pin_of : PIn t m W H root last ws c (progL t m W H root last ws c fr) :=
  ⟨List.mem_cons_self .., List.mem_cons_of_mem _ (List.mem_cons_self ..), fun q hq => List.mem_cons_of_mem _ (List.mem_cons_of_mem _ (List.mem_append_left _ (List.mem_map_of_mem hq)))⟩
/-- A part of a window is written. -/
theorem putWin {l1 l2 : List PW} {q : PW} {o : Nat} {v : Value} {n0 : Int} {g : Win → Win} {G : AS → Prop} (hg : ∀ w, (g w).n = w.n) (hs : Srt (wl ws)) (hw : ws = l1 ++ q :: l2) (hq : q.2.2.n = n0) (ho : o < 7) (hv : (winV q.2.2).set o v = winV (g q.2.2))
    (Hh : Has σ (progL t m W H root last ws c fr)) (hG : ∀ σ', Has σ' (progL t m W H root last (ws.map (updN n0 g)) c fr) → G σ') : put1 σ ⟨q.1, o, none⟩ v G := by
  subst hw
  obtain ⟨s1, s2⟩ := srt_split hs
  have hpos : (progL t m W H root last (l1 ++ q :: l2) c fr)[2 + l1.length]? = some (q.1, .row .plain (winV q.2.2)) := by
    unfold progL
    rw [show 2 + l1.length = (l1.length + 1) + 1 by omega, List.getElem?_cons_succ, List.getElem?_cons_succ, List.getElem?_append_left (by simp)]
    simp
  refine put1_mk Hh (2 + l1.length) hpos rfl ho fun σ' H' => hG σ' ?_
  rw [hv] at H'
  have e2 : mapO ((l1 ++ q :: l2).map (updN n0 g)) c = mapO (l1 ++ q :: l2) c := by unfold mapO; rw [ent_upd hg]
  unfold progL at H' ⊢
  rw [e2, map_at hq (fun r hr => by rw [← hq]; exact s1 r hr) (fun r hr => by rw [← hq]; exact s2 r hr)]
  rw [show 2 + l1.length = (l1.length + 1) + 1 by omega, List.set_cons_succ, List.set_cons_succ, List.set_append_left _ _ (by simp)] at H'
  rw [List.map_append, List.map_cons, List.set_append_right _ _ (by simp)] at H'
  rw [List.map_append, List.map_cons]
  simpa using H'
theorem c43 {w : Nat} {win : Win} (Hh : Has σ ((w, .row .plain (winV win)) :: progL t m W H root last ws c fr)) (hn : win.n = last + 1) (hno : ∀ r ∈ ws, r.2.2.n ≠ last + 1) (h0 : 0 ≤ last) (h1 : last ≤ 1000000)
    (hK : ∀ σ', Has σ' (progL t m W H root (last + 1) (ws ++ [(w, c, win)]) (c + 1) fr) → K (i64 (last + 1)) σ') : Tri Try.prog 43 [ptr t, ptr w] σ K := tri_in (by
  rw [s43]
  refine ldc_mk Hh 1 rfl rfl ?_
  rw [tI_int, wrap64 (by omega) (by omega)]
  refine put1_mk Hh 1 rfl rfl (by simp) fun σ1 H1 => ?_
  refine ldc_mk H1 1 rfl rfl ?_
  rw [tM_map]
  refine ldc_mk H1 1 rfl rfl ?_
  rw [tI_int, pSome_some]
  refine mset_new_mk H1 2 rfl (find_no (last + 1) ws 0 hno) fun σ2 H2 => ?_
  refine ldc_mk H2 1 rfl rfl ?_
  rw [tI_int]
  refine hK σ2 ?_
  have H3 : Has σ2 ((w, .row .plain (winV win)) :: (t, treeO W H root (last + 1) m) :: (m, .map (ws.map entM ++ [{ key := i64 (last + 1), val := ptr w, born := c }]) (c + 1)) :: (ws.map objM ++ fr)) := by simpa using H2
  have e : mapO (ws ++ [(w, c, win)]) (c + 1) = .map (ws.map entM ++ [{ key := i64 (last + 1), val := ptr w, born := c }]) (c + 1) := by
    unfold mapO
    rw [List.map_append]
    simp [entM, hn]
  unfold progL
  rw [e]
  refine H3.perm ?_
  rw [List.map_append, List.append_assoc]
  simp only [List.map_cons, List.map_nil]
  exact List.perm_middle (l₁ := (t, _) :: (m, _) :: ws.map objM))
theorem look_has {ws : List PW} (h : Srt (wl ws)) (n : Int) (hh : hasL (wl ws) n = true) :
    ∃ l1 q l2, ws = l1 ++ q :: l2 ∧ q.2.2.n = n ∧ ofL (wl ws) n = q.2.2 ∧ Instr.findNow (.int .i64) (i64 n) (ws.map entM) 0 = some (some (l1.length, ptr q.1)) := by
  rcases look h n with ⟨l1, q, l2, e1, e2, e3, e4, e5, _⟩ | ⟨_, e4, _⟩
  · exact ⟨l1, q, l2, e1, e2, e3, e5⟩
  · rw [hh] at e4; cases e4
def turnN (p was now : Int) (q : PW) : PW := (q.1, q.2.1, turnW p was now q.2.2)
theorem wl_turnN (p was now : Int) (ws : List PW) : wl (ws.map (turnN p was now)) = (wl ws).map (turnW p was now) := by
  unfold wl; rw [List.map_map, List.map_map]; rfl
theorem mem_srt {ws : List PW} (hs : Srt (wl ws)) {q r : PW} (hq : q ∈ ws) (hr : r ∈ ws) (e : q.2.2.n = r.2.2.n) : q.2.2 = r.2.2 :=
  srt_inj hs (List.mem_map_of_mem hq) (List.mem_map_of_mem hr) e
abbrev l45 : List Bool := [true, true, true, true, false]
theorem c45 {p was now : Int} (hs : Srt (wl ws)) (h0 : ∀ r ∈ ws, r.2.2.n ≠ 0) (hnow : hasL (wl ws) now = true) (hp : p ≠ 0 → hasL (wl ws) p = true ∧ (ofL (wl ws) p).a ≠ (ofL (wl ws) p).b) (hpn : p ≠ now)
    (Hh : Has σ (progL t m W H root last ws c fr)) (hK : ∀ σ', Has σ' (progL t m W H (if p = 0 then now else root) last (ws.map (turnN p was now)) c fr) → K unit0 σ') : Tri Try.prog 45 [ptr t, i64 p, i64 was, i64 now] σ K := tri_in (by
  rw [s45]
  have P : PIn t m W H root last ws c (progL t m W H root last ws c fr) := pin_of
  refine ldm Hh P.tree rfl ?_
  rw [tM_map]
  obtain ⟨l1, q, l2, e1, e2, e3, e5⟩ := look_has hs now hnow
  refine mgm Hh P.map e5 ?_
  simp only [Option.map_some, Option.getD_some]
  rw [tP_ptr, pSome_some]
  refine putWin (n0 := now) (g := fun w => { w with p := p }) (o := 0 + 1) (fun w => rfl) hs e1 e2 (by decide) rfl Hh fun σ1 H1 => ?_
  have hs1 := srt_upd (n0 := now) (g := fun w => { w with p := p }) (fun w => rfl) hs
  refine beq_mk (fun g => ?_) (fun g => ?_)
  · subst g
    refine put1_mk H1 0 rfl rfl (by simp) fun σ2 H2 => hK σ2 ?_
    rw [if_pos rfl]
    have e : ws.map (turnN 0 was now) = ws.map (updN now fun w => { w with p := 0 }) := by
      refine List.map_congr_left fun r hr => ?_
      unfold turnN updN
      by_cases hn : r.2.2.n = now
      · rw [if_pos hn, turnW_now hn (h0 r hr)]
      · rw [if_neg hn, turnW_id hn (h0 r hr)]
    rw [e]
    exact H2
  · rw [if_neg g] at hK
    obtain ⟨hp1, hp2⟩ := hp g
    have P1 : PIn t m W H root last (ws.map (updN now fun w => { w with p := p })) c (progL t m W H root last (ws.map (updN now fun w => { w with p := p })) c fr) := pin_of
    refine ldm H1 P1.tree rfl ?_
    rw [tM_map]
    obtain ⟨k1, r, k2, f1, f2, f3, f5⟩ := look_has hs p hp1
    have hrw : r ∈ ws := by rw [f1]; simp
    have hrn : r.2.2.n ≠ now := by rw [f2]; exact hpn
    rw [f3] at hp2
    have hr1 : r ∈ ws.map (updN now fun w => { w with p := p }) := by
      refine List.mem_map.2 ⟨r, hrw, ?_⟩
      unfold updN
      rw [if_neg hrn]
    obtain ⟨k3, r', k4, d1, d2, d3, d5⟩ := look_has hs1 p (hasL_iff.2 ⟨_, List.mem_map_of_mem hr1, f2⟩)
    have hrr : r' = r := by
      have hr' : r' ∈ ws.map (updN now fun w => { w with p := p }) := by rw [d1]; simp
      obtain ⟨z, hz, ez⟩ := List.mem_map.1 hr'
      have hzn : z.2.2.n ≠ now := by
        intro h
        unfold updN at ez
        rw [if_pos h] at ez
        have : r'.2.2.n = z.2.2.n := by rw [← ez]
        rw [d2, h] at this
        exact hpn this
      unfold updN at ez
      rw [if_neg hzn] at ez
      subst ez
      have : z.2.2 = r.2.2 := mem_srt hs hz hrw (by rw [d2, f2])
      -- the same place
      have hn1 : (ws.map (fun q => q.2.2.n)).Nodup := by
        have := nodup_n hs
        rw [List.map_map] at this
        exact this
      rw [f1] at hz hn1
      rcases List.mem_append.1 hz with h | h
      · rw [List.map_append, List.map_cons, List.nodup_append] at hn1
        exact absurd (by rw [this]) (hn1.2.2 _ (List.mem_map_of_mem h) _ (List.mem_cons_self ..))
      · rcases List.mem_cons.1 h with h | h
        · exact h
        · rw [List.map_append, List.map_cons, List.nodup_append] at hn1
          have h3 := (List.nodup_cons.1 hn1.2.1).1
          exact absurd (List.mem_map_of_mem (f := fun q : PW => q.2.2.n) h) (by rw [this]; exact h3)
    subst hrr
    refine mgm H1 P1.map d5 ?_
    simp only [Option.map_some, Option.getD_some]
    rw [tP_ptr, pSome_some]
    refine ldsm H1 (P1.win r' hr1) (by simp) ?_
    simp only [List.drop_succ_cons, List.drop_zero, List.take_succ_cons, List.take_zero, tCons, tI_int, tNil]
    have hun : ∀ x ∈ ws, x.2.2.n = p → x.2.2 = r'.2.2 := fun x hx e => mem_srt hs hx hrw (by rw [e, f2])
    have key : ∀ g2 : Win → Win, turnW p was now r'.2.2 = g2 r'.2.2 → ws.map (turnN p was now) = (ws.map (updN now fun w => { w with p := p })).map (updN p g2) := by
      intro g2 hg
      rw [List.map_map]
      refine List.map_congr_left fun x hx => ?_
      unfold turnN updN
      simp only [Function.comp]
      by_cases hn : x.2.2.n = now
      · rw [if_pos hn, if_neg (by simp only; rw [hn]; exact Ne.symm hpn), turnW_now hn (by rw [hn]; exact Ne.symm hpn)]
      · rw [if_neg hn]
        by_cases hp : x.2.2.n = p
        · rw [if_pos hp, hun x hx hp, hg]
        · rw [if_neg hp, turnW_id hn hp]
    have tw : turnW p was now r'.2.2 = if r'.2.2.a = was then { r'.2.2 with a := now } else if r'.2.2.b = was then { r'.2.2 with b := now } else r'.2.2 := by
      unfold turnW
      simp only [if_neg hrn]
      simp only [d2, true_and]
    intro XX hX
    refine hX _ _ ?_
    rw [s45l0]
    refine beq_mk (fun ga => ?_) (fun ga => ?_)
    · refine putWin (n0 := p) (g := fun w => { w with a := now }) (o := 0 + 2) (fun w => rfl) hs1 d1 d2 (by decide) rfl H1 fun σ2 H2 => ?_
      refine hX _ _ ?_
      rw [s45l1]
      refine beq_mk (fun gb => absurd (ga.trans gb.symm) hp2) (fun gb => ?_)
      refine hX _ _ ?_
      rw [s45l2]
      refine hK σ2 ?_
      rw [key (fun w => { w with a := now }) (by rw [tw, if_pos ga])]
      exact H2
    · refine hX _ _ ?_
      rw [s45l1]
      refine beq_mk (fun gb => ?_) (fun gb => ?_)
      · rw [sz3]
        refine putWin (n0 := p) (g := fun w => { w with b := now }) (o := 0 + 2 + Int.toNat 1 * 1) (fun w => rfl) hs1 d1 d2 (by decide) rfl H1 fun σ2 H2 => ?_
        refine hX _ _ ?_
        rw [s45l2]
        refine hK σ2 ?_
        rw [key (fun w => { w with b := now }) (by rw [tw, if_neg ga, if_pos gb])]
        exact H2
      · refine hX _ _ ?_
        rw [s45l2]
        refine hK σ1 ?_
        rw [key (fun w => w) (by rw [tw, if_neg ga, if_neg gb])]
        have : (ws.map (updN now fun w => { w with p := p })).map (updN p fun w => w) = ws.map (updN now fun w => { w with p := p }) := by
          rw [List.map_congr_left (g := id) (fun r hr => by unfold updN; split <;> rfl)]; simp
        rw [this]
        exact H1)
/-- When the entries were made. -/
def BornOk (ws : List PW) (c : Nat) : Prop := (ws.map (·.2.1)).Nodup ∧ ∀ q ∈ ws, q.2.1 < c
theorem born_map {ws : List PW} {c : Nat} {f : PW → PW} (h : BornOk ws c) (hf : ∀ q, (f q).2.1 = q.2.1) : BornOk (ws.map f) c := by
  refine ⟨?_, fun q hq => ?_⟩
  · rw [List.map_map]
    have : ((fun q : PW => q.2.1) ∘ f) = fun q => q.2.1 := funext fun q => hf q
    rw [this]
    exact h.1
  · obtain ⟨r, hr, rfl⟩ := List.mem_map.1 hq
    rw [hf]
    exact h.2 r hr
theorem born_upd {ws : List PW} {c : Nat} (n0 : Int) (g : Win → Win) (h : BornOk ws c) : BornOk (ws.map (updN n0 g)) c := born_map h fun q => by unfold updN; split <;> rfl
theorem born_turn {ws : List PW} {c : Nat} (p was now : Int) (h : BornOk ws c) : BornOk (ws.map (turnN p was now)) c := born_map h fun q => rfl
theorem born_add {ws : List PW} {c w : Nat} {win : Win} (h : BornOk ws c) : BornOk (ws ++ [(w, c, win)]) (c + 1) := by
  refine ⟨?_, fun q hq => ?_⟩
  · rw [List.map_append, List.nodup_append]
    refine ⟨h.1, by simp, ?_⟩
    intro x hx y hy
    obtain ⟨r, hr, rfl⟩ := List.mem_map.1 hx
    have := h.2 r hr
    simp at hy
    omega
  · rcases List.mem_append.1 hq with hq | hq
    · have := h.2 q hq; omega
    · simp at hq; subst hq; show c < c + 1; omega
/-- Why a window is not opened; 0: it is. -/
def openE (L : List Win) (split m kind : Int) : Int :=
  if kind < 1 ∨ kind > 3 then 1 else if split = 0 then (if L = [] then 0 else 6) else if hasL L split = false then 5 else if validB m = false then 1 else if 62 < L.length then 4 else 0
def openN (L : List Win) (last split m sz kind : Int) : List Win :=
  if split = 0 then [⟨last + 1, kind, 0, 0, 0, 0, 0, 0⟩] else openL L last split (ofL L split).p m sz kind
def openLast (last split : Int) : Int := if split = 0 then last + 1 else last + 2
theorem plug_num : ∀ (fs : List Fr) (f : Fr) (x y : T), (plug (f :: fs) x).num = (plug (f :: fs) y).num
  | [], f, x, y => by simp only [plug, Fr.fill_num]
  | g :: fs, f, x, y => plug_num fs g (f.fill x) (f.fill y)
theorem openT_root (fs : List Fr) (s : T) (last m sz kind : Int) : rootT (some (openT fs s last m sz kind)) = if top fs = 0 ∧ fs = [] then last + 2 else rootT (some (plug fs s)) := by
  cases fs with
  | nil =>
    simp only [top, and_self, if_true]
    unfold openT
    simp only [plug, rootT]
    split <;> rfl
  | cons f fs =>
    rw [if_neg (by simp)]
    exact plug_num fs f _ _
theorem root_ne (ok : Ok (wl ws) last tr) : rootL (wl ws) = 0 ↔ wl ws = [] := by
  rw [ok.root]
  cases tr with
  | none =>
    have := List.perm_nil.1 ok.perm
    simp [rootT, this]
  | some x =>
    have a : Pane.At (some x) [] x := rfl
    have h1 := (ok.num_pos a).1
    constructor
    · intro h; simp only [rootT] at h; omega
    · intro h
      have := ok.at a
      rw [h] at this
      simp at this
theorem c22 {split m sz kind : Int} {mm : Nat} (ok : Ok (wl ws) last tr) (hb : BornOk ws c) (hr : root = rootL (wl ws)) (hl0 : 0 ≤ last) (hl1 : last ≤ 1000) (hm : In64 m) (hz : 0 ≤ sz ∧ sz < 4294967296) (Hh : Has σ (progL t mm W H root last ws c fr))
    (hE : openE (wl ws) split m kind ≠ 0 → K (.tuple ⟨[i64 0, i64 (openE (wl ws) split m kind)]⟩) σ)
    (hK : openE (wl ws) split m kind = 0 → ∀ σ' ws' c' root', wl ws' = openN (wl ws) last split m sz kind → root' = rootL (wl ws') → BornOk ws' c' → Has σ' (progL t mm W H root' (openLast last split) ws' c' fr) → K (.tuple ⟨[i64 (last + 1), i64 0]⟩) σ') :
    Tri Try.prog 22 [ptr t, i64 split, i64 m, u32 sz, i64 kind] σ K := tri_in (by
  rw [s22]
  have P : PIn t mm W H root last ws c (progL t mm W H root last ws c fr) := pin_of
  have hfresh : ∀ r ∈ ws, r.2.2.n ≠ last + 1 := fun r hr => by have := ok.rng _ (List.mem_map_of_mem (f := fun q : PW => q.2.2) hr); omega
  refine bmd_mk (fun g => ?_) (fun g1 => bmd_mk (fun g => ?_) (fun g2 => ?_))
  · have e : openE (wl ws) split m kind = 1 := by unfold openE; rw [if_pos (.inl g)]
    rw [e] at hE
    exact hE (by omega)
  · have e : openE (wl ws) split m kind = 1 := by unfold openE; rw [if_pos (.inr g)]
    rw [e] at hE
    exact hE (by omega)
  have hkn : ¬ (kind < 1 ∨ kind > 3) := by omega
  have big : split ≠ 0 → (ldc σ (Addr.mk t (0 + 4) none) fun v37 => tM v37 fun b38 => mget σ (TypeDesc.int IntKind.i64) b38 (i64 split) fun o39 => tP (Option.getD o39 (.pointer none)) fun b40 => ptrEq σ b40 none fun r41 =>
      bmatch r41 (K (.tuple ⟨[i64 0, i64 5]⟩) σ) (Tri Try.prog 44 [i64 m] σ fun v42 σ43 => tB v42 fun b44 => bmatch (!b44) (K (.tuple ⟨[i64 0, i64 1]⟩) σ43) (ldc σ43 (Addr.mk t (0 + 4) none) fun v45 => tM v45 fun b46 => mlen σ43 b46 fun n47 =>
        bmatch (decide (IntKind.wrap .i64 (n47 + 2) > 64)) (K (.tuple ⟨[i64 0, i64 4]⟩) σ43) (newAt σ43 (.row .plain [i64 kind, i64 0, i64 0, i64 0, i64 0, u32 0, i64 0]) fun i48 σ49 => Tri Try.prog 43 [ptr t, ptr i48] σ49 fun v50 σ51 => tI .i64 v50 fun n52 =>
          newAt σ51 (.row .plain [i64 4, i64 0, i64 split, i64 n52, i64 m, u32 sz, i64 n52]) fun i53 σ54 => bmatch (iand .i64 m 1 == 0)
            (puts σ54 (Addr.mk i53 (0 + 2) none) [i64 n52, i64 split] fun σ55 => JoinS (jn Try.prog hintsS (Tri Try.prog) 22 [true, true, true, true, true, true] [] K) [(0, some (ptr t)), (1, some (i64 split)), (12, some (.pointer b40)), (13, some (i64 n52)), (14, some (ptr i53))] σ55)
            (JoinS (jn Try.prog hintsS (Tri Try.prog) 22 [true, true, true, true, true, true] [] K) [(0, some (ptr t)), (1, some (i64 split)), (12, some (.pointer b40)), (13, some (i64 n52)), (14, some (ptr i53))] σ54))))) := by
    intro hs0
    refine ldm Hh P.tree rfl ?_
    rw [tM_map]
    rcases look ok.srt split with ⟨l1, q, l2, e1, e2, e3, e4, e5, _⟩ | ⟨e3, e4, e5, _⟩
    rotate_left
    · refine mgm Hh P.map e5 ?_
      simp only [Option.map_none, Option.getD_none]
      rw [tP_ptr, ptrEq_none, bm_true]
      have e : openE (wl ws) split m kind = 5 := by unfold openE; rw [if_neg hkn, if_neg hs0, if_pos e4]
      rw [e] at hE
      exact hE (by omega)
    refine mgm Hh P.map e5 ?_
    simp only [Option.map_some, Option.getD_some]
    rw [tP_ptr, ptrEq_some, bm_false]
    refine c44 hm ?_
    rw [tB_bool]
    refine bnot_mk (fun hv => ?_) (fun hv => ?_)
    · have e : openE (wl ws) split m kind = 1 := by unfold openE; rw [if_neg hkn, if_neg hs0, e4, if_neg (by simp), if_pos hv]
      rw [e] at hE
      exact hE (by omega)
    refine ldm Hh P.tree rfl ?_
    rw [tM_map]
    refine mlm Hh P.map ?_
    have hlen := ok.len
    have hlw : (ws.map entM).length = (wl ws).length := by simp
    rw [hlw, wrap64 (by omega) (by omega)]
    refine bmd_mk (fun g => ?_) (fun g => ?_)
    · have e : openE (wl ws) split m kind = 4 := by unfold openE; rw [if_neg hkn, if_neg hs0, e4, if_neg (by simp), hv, if_neg (by simp), if_pos (by omega)]
      rw [e] at hE
      exact hE (by omega)
    have e0 : openE (wl ws) split m kind = 0 := by unfold openE; rw [if_neg hkn, if_neg hs0, e4, if_neg (by simp), hv, if_neg (by simp), if_neg (by omega)]
    refine newAt_mk Hh fun i48 σ1 H1 => ?_
    refine c43 (win := ⟨last + 1, kind, 0, 0, 0, 0, 0, 0⟩) H1 rfl hfresh hl0 (by omega) fun σ2 H2 => ?_
    rw [tI_int]
    refine newAt_mk H2 fun i53 σ3 H3 => ?_
    obtain ⟨fs, s, a, hsn⟩ := ok.at_has e4
    have hvm := validB_iff.1 hv
    have okN := ok.opened a hvm (kind := kind) (by omega) hz (by omega)
    rw [hsn] at okN
    have hp : q.2.2.p = top fs := by rw [← e3, ← hsn, ok.of_at a, T.win_p]
    -- behind the join
    have fin : ∀ σ4, Has σ4 ((i53, .row .plain (winV (openPair split m sz (last + 1) (last + 2)))) :: progL t mm W H root (last + 1) (ws ++ [(i48, c, ⟨last + 1, kind, 0, 0, 0, 0, 0, 0⟩)]) (c + 1) fr) →
        jn Try.prog hintsS (Tri Try.prog) 22 [true, true, true, true, true, true] [] K [(0, some (ptr t)), (1, some (i64 split)), (12, some (ptr q.1)), (13, some (i64 (last + 1))), (14, some (ptr i53))] σ4 := by
      intro σ4 H4
      rw [s22j]
      refine c43 (win := openPair split m sz (last + 1) (last + 2)) H4 (by show last + 2 = last + 1 + 1; omega) ?_ (by omega) (by omega) fun σ5 H5 => ?_
      · intro r hr
        rcases List.mem_append.1 hr with h | h
        · have := ok.rng _ (List.mem_map_of_mem (f := fun q : PW => q.2.2) h); omega
        · simp at h; subst h; show last + 1 ≠ last + 1 + 1; omega
      rw [tI_int]
      let ws2 : List PW := ws ++ [(i48, c, ⟨last + 1, kind, 0, 0, 0, 0, 0, 0⟩)] ++ [(i53, c + 1, openPair split m sz (last + 1) (last + 2))]
      have H5' : Has σ5 (progL t mm W H root (last + 1 + 1) ws2 (c + 1 + 1) fr) := H5
      have hq2 : q ∈ ws2 := by simp only [ws2]; rw [e1]; simp
      have ewl : wl ws2 = wl ws ++ [⟨last + 1, kind, 0, 0, 0, 0, 0, 0⟩, openPair split m sz (last + 1) (last + 2)] := by simp [ws2, wl]
      have srt2 : Srt (wl ws2) := by
        rw [ewl]
        unfold Srt
        rw [List.pairwise_append]
        refine ⟨ok.srt, by simp [openPair], ?_⟩
        intro x hx y hy
        have := ok.rng x hx
        simp only [List.mem_cons, List.not_mem_nil, or_false] at hy
        rcases hy with rfl | rfl
        · show x.n < last + 1; omega
        · show x.n < last + 2; omega
      have P5 : PIn t mm W H root (last + 1 + 1) ws2 (c + 1 + 1) (progL t mm W H root (last + 1 + 1) ws2 (c + 1 + 1) fr) := pin_of
      refine ldm H5' (P5.win q hq2) rfl ?_
      rw [tI_int, hp, show (last + 1 + 1 : Int) = last + 2 by omega]
      have htop : top fs ≤ last := by
        cases fs with
        | nil => simp only [top]; omega
        | cons f fs => have := (ok.num_pos a.up).2; rwa [Fr.fill_num] at this
      have hof : ∀ w ∈ wl ws, ofL (wl ws2) w.n = w := fun w hw => ofL_mem srt2 (by rw [ewl]; exact List.mem_append_left _ hw)
      rw [show (last + 1 + 1 : Int) = last + 2 by omega] at H5'
      refine c45 srt2 ?_ ?_ ?_ (by omega) H5' fun σ6 H6 => ?_
      · intro r hr
        have hm : r.2.2 ∈ wl ws2 := List.mem_map_of_mem hr
        rw [ewl] at hm
        rcases List.mem_append.1 hm with h | h
        · have := ok.rng _ h; omega
        · simp only [List.mem_cons, List.not_mem_nil, or_false] at h
          rcases h with h | h <;> rw [h]
          · show last + 1 ≠ 0; omega
          · show last + 2 ≠ 0; omega
      · exact hasL_iff.2 ⟨openPair split m sz (last + 1) (last + 2), by rw [ewl]; simp, rfl⟩
      · intro hne
        cases fs with
        | nil => exact absurd rfl hne
        | cons f fs =>
          have hw := ok.at a.up
          rw [Fr.fill_win] at hw
          have hwn : (f.win s.num (top fs)).n = f.n := Fr.win_n _ _ _
          have et : top (f :: fs) = f.n := rfl
          refine ⟨hasL_iff.2 ⟨_, by rw [ewl]; exact List.mem_append_left _ hw, by rw [hwn, et]⟩, ?_⟩
          have := hof _ hw
          rw [hwn] at this
          rw [et, this]
          have hsd := ok.side_ne a
          unfold Fr.win
          cases f.side
          · exact hsd
          · exact Ne.symm hsd
      let ws3 : List PW := ws2.map (turnN (top fs) split (last + 2))
      have srt3 : Srt (wl ws3) := by simp only [ws3]; rw [wl_turnN]; exact srt_map (fun w => turnW_n _ _ _ w) srt2
      have H6' : Has σ6 (progL t mm W H (if top fs = 0 then last + 2 else root) (last + 2) ws3 (c + 1 + 1) fr) := H6
      have P6 : PIn t mm W H (if top fs = 0 then last + 2 else root) (last + 2) ws3 (c + 1 + 1) (progL t mm W H (if top fs = 0 then last + 2 else root) (last + 2) ws3 (c + 1 + 1) fr) := pin_of
      refine ldm H6' P6.tree rfl ?_
      rw [tM_map]
      have hx1 : (i48, c, turnW (top fs) split (last + 2) ⟨last + 1, kind, 0, 0, 0, 0, 0, 0⟩) ∈ ws3 := List.mem_map.2 ⟨(i48, c, ⟨last + 1, kind, 0, 0, 0, 0, 0, 0⟩), by simp [ws2], rfl⟩
      have tx1 : turnW (top fs) split (last + 2) ⟨last + 1, kind, 0, 0, 0, 0, 0, 0⟩ = ⟨last + 1, kind, 0, 0, 0, 0, 0, 0⟩ := turnW_id (by show last + 1 ≠ last + 2; omega) (by show last + 1 ≠ top fs; omega)
      rw [tx1] at hx1
      obtain ⟨k1, r1, k2, d1, d2, d3, d5⟩ := look_has srt3 (last + 1) (hasL_iff.2 ⟨_, List.mem_map_of_mem hx1, rfl⟩)
      refine mgm H6' P6.map d5 ?_
      simp only [Option.map_some, Option.getD_some]
      rw [tP_ptr]
      have hx2 : (q.1, q.2.1, turnW (top fs) split (last + 2) q.2.2) ∈ ws3 := List.mem_map.2 ⟨q, hq2, rfl⟩
      obtain ⟨k3, k4, f1⟩ := List.append_of_mem hx2
      refine putWin (q := (q.1, q.2.1, turnW (top fs) split (last + 2) q.2.2)) (n0 := split) (g := fun w => { w with p := last + 2 }) (o := 0 + 1) (fun w => rfl) srt3 f1 (by rw [turnW_n]; exact e2) (by decide) rfl H6' fun σ7 H7 => ?_
      rw [pSome_some]
      have srt4 := srt_upd (n0 := split) (g := fun w => { w with p := last + 2 }) (fun w => rfl) srt3
      have hr1 : r1 ∈ ws3.map (updN split fun w => { w with p := last + 2 }) := by
        refine List.mem_map.2 ⟨r1, by rw [d1]; simp, ?_⟩
        unfold updN
        have := (ok.num_pos a).2
        rw [hsn] at this
        rw [if_neg (by rw [d2]; omega)]
      obtain ⟨k5, k6, f2⟩ := List.append_of_mem hr1
      refine putWin (n0 := last + 1) (g := fun w => { w with p := last + 2 }) (o := 0 + 1) (fun w => rfl) srt4 f2 d2 (by decide) rfl H7 fun σ8 H8 => ?_
      have hsl : openLast last split = last + 2 := by unfold openLast; rw [if_neg hs0]
      have hN : openN (wl ws) last split m sz kind = openL (wl ws) last split (top fs) m sz kind := by unfold openN; rw [if_neg hs0, e3, hp]
      have hwl : wl ((ws3.map (updN split fun w => { w with p := last + 2 })).map (updN (last + 1) fun w => { w with p := last + 2 })) = openN (wl ws) last split m sz kind := by
        rw [hN, wl_updN, wl_updN]
        simp only [ws3]
        rw [wl_turnN, ewl]
        unfold openL
        rw [List.map_append, List.map_append, List.map_append, List.map_append, List.map_append]
        congr 1
        · have : ∀ w ∈ wl ws, w.n ≠ last + 1 := fun w hw => by have := ok.rng w hw; omega
          have gen : ∀ LL : List Win, (∀ w ∈ LL, w.n ≠ last + 1) → ((LL.map (turnW (top fs) split (last + 2))).map (updW split fun w => { w with p := last + 2 })).map (updW (last + 1) fun w => { w with p := last + 2 }) = (LL.map (turnW (top fs) split (last + 2))).map (setP split (last + 2)) := by
            intro LL h
            rw [List.map_map, List.map_map, List.map_map]
            refine List.map_congr_left fun w hw => ?_
            simp only [Function.comp]
            unfold updW setP
            simp only [turnW_n]
            by_cases g : w.n = split
            · rw [if_pos g]
              simp only [turnW_n]
              rw [if_neg (h w hw)]
            · rw [if_neg g, turnW_n, if_neg (h w hw)]
          exact gen _ this
        · simp only [List.map_cons, List.map_nil, tx1]
          have tx3 : turnW (top fs) split (last + 2) ⟨last + 1, kind, last + 2, 0, 0, 0, 0, 0⟩ = ⟨last + 1, kind, last + 2, 0, 0, 0, 0, 0⟩ := turnW_id (by show last + 1 ≠ last + 2; omega) (by show last + 1 ≠ top fs; omega)
          rw [tx3]
          have hsp := (ok.num_pos a)
          rw [hsn] at hsp
          congr 1
          · have hne : ¬ last + 1 = split := by omega
            simp [updW, setP, hne]
          · congr 1
            unfold updW setP
            have hpn : (turnW (top fs) split (last + 2) (openPair split m sz (last + 1) (last + 2))).n = last + 2 := by rw [turnW_n]; rfl
            have h1 : ¬ last + 2 = split := by omega
            have h2 : ¬ last + 2 = last + 1 := by omega
            simp [hpn, h1, h2]
      refine hK e0 σ8 _ (c + 1 + 1) (if top fs = 0 then last + 2 else root) hwl ?_ (born_upd _ _ (born_upd _ _ (born_turn _ _ _ (born_add (born_add hb))))) (by rw [hsl]; exact H8)
      rw [hwl, hN, okN.root, openT_root]
      have hrt : root = rootT (some (plug fs s)) := by rw [hr, ok.root]; congr 1
      by_cases g0 : top fs = 0
      · rw [if_pos g0, if_pos ⟨g0, (ok.top_ne a).1 g0⟩]
      · rw [if_neg g0, if_neg (fun h => g0 h.1), hrt]
    rw [iand1]
    refine beq_mk (fun g => ?_) (fun g => ⟨fin σ3 ?_⟩)
    · refine puts_mk H3 0 rfl rfl (by simp) fun σ4 H4 => ⟨fin σ4 ?_⟩
      have e : winV (openPair split m sz (last + 1) (last + 2)) = [i64 4, i64 0, i64 (last + 1), i64 split, i64 m, u32 sz, i64 (last + 1)] := by
        unfold openPair winV; simp only [if_pos g]
      rw [e]
      exact H4
    · have e : winV (openPair split m sz (last + 1) (last + 2)) = [i64 4, i64 0, i64 split, i64 (last + 1), i64 m, u32 sz, i64 (last + 1)] := by
        unfold openPair winV; simp only [if_neg g]
      rw [e]
      exact H3
  refine beq_mk (fun gs => ?_) (fun gs => ?_)
  · refine ldm Hh P.tree rfl ?_
    rw [tI_int]
    refine bne_mk (fun g => ?_) (fun g => ?_)
    · have hne : wl ws ≠ [] := fun h => g (by rw [hr]; exact (root_ne ok).2 h)
      have e : openE (wl ws) split m kind = 6 := by unfold openE; rw [if_neg hkn, if_pos gs, if_neg hne]
      rw [e] at hE
      exact hE (by omega)
    · have hnil : wl ws = [] := (root_ne ok).1 (by rw [← hr]; exact g)
      have e0 : openE (wl ws) split m kind = 0 := by unfold openE; rw [if_neg hkn, if_pos gs, if_pos hnil]
      refine beq_mk (fun _ => ?_) (fun g => absurd gs g)
      refine newAt_mk Hh fun i2 σ1 H1 => ?_
      refine c43 (win := ⟨last + 1, kind, 0, 0, 0, 0, 0, 0⟩) H1 rfl hfresh hl0 (by omega) fun σ2 H2 => ?_
      rw [tI_int]
      refine put1_mk H2 0 rfl rfl (by simp) fun σ3 H3 => ?_
      refine ldc_mk H3 0 rfl rfl ?_
      rw [tI_int]
      have hws : ws = [] := by simpa [wl] using hnil
      have e : wl (ws ++ [(i2, c, ⟨last + 1, kind, 0, 0, 0, 0, 0, 0⟩)]) = openN (wl ws) last split m sz kind := by
        unfold openN; rw [if_pos gs, hws]; rfl
      refine hK e0 σ3 _ (c + 1) (last + 1) e ?_ (born_add hb) ?_
      · rw [e]; unfold openN; rw [if_pos gs]; rfl
      · have : openLast last split = last + 1 := by unfold openLast; rw [if_pos gs]
        rw [this]
        exact H3
  · exact beq_mk (fun g => absurd g gs) (fun _ => big gs))
end
end Go.AI
end
