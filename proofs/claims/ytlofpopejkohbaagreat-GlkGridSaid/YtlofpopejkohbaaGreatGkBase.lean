/- Lemmas of the abstract condition ahead of code (a part of the library that the claim's proof stands on); they hold with no condition but those that each names. -/
import Derived.Test.YtlofpopejkohbaaGreatGkRoads
import Derived.Test.YtlofpopejkohbaaGreatGkSoft
import Derived.Test.YtlofpopejkohbaaGreatAIFrame
import Derived.Test.YtlofpopejkohbaaGreatAIJoin
import Derived.Test.YtlofpopejkohbaaGreatAISepTop
import Derived.IntWalk
import Derived.Laws.Strings
set_option linter.unusedSimpArgs false
set_option linter.unusedVariables false
set_option maxRecDepth 10000
/- Objects that are known, counted; slices with the rows that they lie on; strings; no condition but those that each names. -/
namespace Go.AI
open Go.Proofs
theorem tri_in {f : Nat} {args : List Value} {σ : AS} {K : Value → AS → Prop} (h : fw Tryz.prog hintsS (Tri Tryz.prog) f args σ K) : Tri Tryz.prog f args σ K := tri_fw Tryz.checked.mixed noGoS h
theorem add_none (b o n : Nat) : Addr.add ⟨b, o, none⟩ n = ⟨b, o + n, none⟩ := by
  unfold Addr.add
  by_cases h : n = 0
  · subst h; simp
  · simp [h]
abbrev ptr (i : Nat) : Value := .pointer (some ⟨i, 0, none⟩)
abbrev i64 (n : Int) : Value := .int .i64 n
abbrev u32 (n : Int) : Value := .int .u32 n
abbrev u8 (n : Int) : Value := .int .u8 n
abbrev unit0 : Value := .tuple ⟨[]⟩
theorem wrap64 {n : Int} (h0 : -9223372036854775808 ≤ n) (h1 : n ≤ 9223372036854775807) : IntKind.wrap .i64 n = n := by
  simp [IntKind.wrap, IntKind.signed, IntKind.bits]
  omega
theorem wrapU32 {n : Int} (h0 : 0 ≤ n) (h1 : n ≤ 4294967295) : IntKind.wrap .u32 n = n := Go.IntWalk.u32_in n (by omega)
theorem wrapU8 {n : Int} (h0 : 0 ≤ n) (h1 : n < 256) : IntKind.wrap .u8 n = n := Go.IntWalk.u8_in n (by omega)
theorem wrap1 {n : Nat} (h : n ≤ 4611686018427387904) : IntKind.wrap .i64 ((n : Int) + 1) = ((n + 1 : Nat) : Int) := by rw [wrap64 (by omega) (by omega)]; omega
theorem cap_ge (σ : AS) (a : Option Addr) (e n : Nat) : n ≤ capLo σ a e n := by
  unfold capLo
  split
  · exact Nat.le_refl _
  · split
    · exact Nat.le_max_left _ _
    · exact Nat.le_refl _
theorem cap_mk {σ : AS} {a : Option Addr} {e n : Nat} {p : Int} {K : Prop} (h : p ≤ n) (k : K) : req (p ≤ (capLo σ a e n : Nat)) K := req_mk (by have := cap_ge σ a e n; omega) k
theorem bmd_mk {p : Prop} [Decidable p] {A B : Prop} (h1 : p → A) (h2 : ¬ p → B) : bmatch (decide p) A B :=
  bm_mk (fun h => h1 (of_decide_eq_true h)) (fun h => h2 (of_decide_eq_false h))
theorem beq_mk {a b : Int} {A B : Prop} (h1 : a = b → A) (h2 : a ≠ b → B) : bmatch (a == b) A B :=
  bm_mk (fun h => h1 (by simpa using h)) (fun h => h2 (by simpa using h))
theorem bne_mk {a b : Int} {A B : Prop} (h1 : a ≠ b → A) (h2 : a = b → B) : bmatch (a != b) A B :=
  bm_mk (fun h => h1 (by simpa using h)) (fun h => h2 (by simpa using h))
theorem bnot_mk {b : Bool} {A B : Prop} (h1 : b = false → A) (h2 : b = true → B) : bmatch (!b) A B := by cases b with | true => exact h2 rfl | false => exact h1 rfl
theorem bm_t {b : Bool} {A B : Prop} (h : b = true) (k : A) : bmatch b A B := by subst h; exact k
theorem bm_f {b : Bool} {A B : Prop} (h : b = false) (k : B) : bmatch b A B := by subst h; exact k
theorem tL_ok {a : Option Addr} {n e f : Nat} {K : Sl → Prop} (h : nilOr a e f = true) (k : K ⟨a, n⟩) : tL f (.slice a n e) K := by
  unfold tL
  simp only
  exact chk_mk h k
theorem tL_ok_eq {a : Option Addr} {n e f : Nat} {K : Sl → Prop} (h : nilOr a e f = true) : tL f (.slice a n e) K = K ⟨a, n⟩ := by
  unfold tL
  simp only [h, chk]
theorem tAgg_agg (l : List Value) (K : List Value → Prop) : tAgg (.agg ⟨l⟩) K = K l := rfl
theorem tCons_cons (v : Value) (l : List Value) (K : Value → List Value → Prop) : tCons (v :: l) K = K v l := rfl
theorem tNil_nil (K : Prop) : tNil [] K = K := rfl
-- counted
noncomputable def one (a b : Nat × AObj) : Nat := open Classical in if a = b then 1 else 0
theorem one_self (a : Nat × AObj) : one a a = 1 := by unfold one; simp
theorem one_ne {a b : Nat × AObj} (h : a ≠ b) : one a b = 0 := by unfold one; simp [h]
noncomputable def cnt (a : Nat × AObj) : List (Nat × AObj) → Nat
  | [] => 0
  | b :: L => one a b + cnt a L
theorem cnt_nil (a : Nat × AObj) : cnt a [] = 0 := rfl
theorem cnt_cons (a b : Nat × AObj) (L : List (Nat × AObj)) : cnt a (b :: L) = one a b + cnt a L := rfl
theorem cnt_app (a : Nat × AObj) : ∀ L M : List (Nat × AObj), cnt a (L ++ M) = cnt a L + cnt a M
  | [], M => by rw [cnt_nil, List.nil_append, Nat.zero_add]
  | b :: L, M => by rw [List.cons_append, cnt_cons, cnt_cons, cnt_app a L M, Nat.add_assoc]
theorem cnt_pos {a : Nat × AObj} : ∀ {L : List (Nat × AObj)}, 1 ≤ cnt a L ↔ a ∈ L
  | [] => by simp [cnt]
  | b :: L => by
    rw [cnt_cons, List.mem_cons, ← cnt_pos (L := L)]
    by_cases e : a = b
    · subst e; rw [one_self]; constructor
      · intro _; exact .inl rfl
      · intro _; omega
    · rw [one_ne e]
      constructor
      · intro h; exact .inr (by omega)
      · rintro (h | h)
        · exact absurd h e
        · omega
theorem cnt_le_one {a : Nat × AObj} : ∀ {L : List (Nat × AObj)}, (L.map (·.1)).Nodup → cnt a L ≤ 1
  | [], _ => by simp [cnt]
  | b :: L, h => by
    obtain ⟨h1, h2⟩ := List.nodup_cons.1 h
    have := cnt_le_one (a := a) h2
    rw [cnt_cons]
    by_cases e : a = b
    · subst e
      have h3 : ¬ 1 ≤ cnt a L := fun g => h1 (List.mem_map_of_mem (cnt_pos.1 g))
      rw [one_self]
      omega
    · rw [one_ne e]; omega
theorem key_inj {L : List (Nat × AObj)} (h : (L.map (·.1)).Nodup) {x y : Nat × AObj} (hx : x ∈ L) (hy : y ∈ L) (e : x.1 = y.1) : x = y := by
  obtain ⟨m, hm⟩ := List.getElem?_of_mem hx
  obtain ⟨n, hn⟩ := List.getElem?_of_mem hy
  have h1 : (L.map (·.1))[m]? = some x.1 := by rw [List.getElem?_map, hm]; rfl
  have h2 : (L.map (·.1))[n]? = some x.1 := by rw [List.getElem?_map, hn, e]; rfl
  have := nodup_inj h h1 h2
  subst this
  rw [hm] at hn
  injection hn
theorem nodup_sep {L : List (Nat × AObj)} (h : (L.map (·.1)).Nodup) : ∀ {M : List (Nat × AObj)}, (∀ a, cnt a M ≤ cnt a L) → (M.map (·.1)).Nodup
  | [], _ => by simp
  | x :: M, hc => by
    have hM : ∀ a, cnt a M ≤ cnt a L := fun a => by have := hc a; rw [cnt_cons] at this; omega
    rw [List.map_cons, List.nodup_cons]
    refine ⟨fun hm => ?_, nodup_sep h hM⟩
    obtain ⟨y, hy, e⟩ := List.mem_map.1 hm
    have hxL : x ∈ L := cnt_pos.1 (by have := hc x; rw [cnt_cons, one_self] at this; omega)
    have hyL : y ∈ L := cnt_pos.1 (by have := hM y; have := cnt_pos.2 hy; omega)
    have : y = x := key_inj h hyL hxL e
    subst this
    have h1 := hc y
    have h2 := cnt_le_one (a := y) h
    have h3 := cnt_pos.2 hy
    rw [cnt_cons, one_self] at h1
    omega
section
variable {σ : AS} {L M : List (Nat × AObj)} {i o n : Nat} {k : RK} {cs : List Value}
theorem Has.sep (h : Has σ L) (hc : ∀ a, cnt a M ≤ cnt a L) : Has σ M :=
  ⟨nodup_sep h.1 hc, fun p hp => h.2 p (cnt_pos.1 (by have := hc p; have := cnt_pos.2 hp; omega))⟩
theorem Has.g (h : Has σ L) {x : AObj} (e : (i, x) ∈ L) : σ i = some x := h.2 _ e
theorem ldc_eq {G : Value → Prop} (h : σ i = some (.row k cs)) (o : Nat) : ldc σ ⟨i, o, none⟩ G = pSome cs[o]? G := by
  unfold ldc AS.cell; simp only; rw [h]
theorem lds_eq {G : List Value → Prop} (h : σ i = some (.row k cs)) (o n : Nat) (hb : o + n ≤ cs.length) : lds σ ⟨i, o, none⟩ n G = G ((cs.drop o).take n) := by
  unfold lds AS.cells
  cases n with
  | zero => simp [pSome]
  | succ n => simp only; rw [h]; simp only; rw [if_pos hb]; rfl
theorem mget_eq {G : Option Value → Prop} {es : List MapEntry} {c : Nat} (h : σ i = some (.map es c)) (d : TypeDesc) (kv : Value) : mget σ d (some i) kv G = pSome (Instr.findNow d kv es 0) fun x => G (x.map (·.2)) := by
  unfold mget AS.ents; simp only; rw [h]; rfl
theorem mlen_eq {G : Int → Prop} {es : List MapEntry} {c : Nat} (h : σ i = some (.map es c)) : mlen σ (some i) G = G es.length := by
  unfold mlen AS.ents; simp only; rw [h]; rfl
theorem ldm {G : Value → Prop} {v : Value} (H : Has σ L) (e : (i, AObj.row k cs) ∈ L) (hv : cs[o]? = some v) (hG : G v) : ldc σ ⟨i, o, none⟩ G := by
  rw [ldc_eq (H.g e), hv]; exact hG
theorem ldsm {G : List Value → Prop} (H : Has σ L) (e : (i, AObj.row k cs) ∈ L) (hb : o + n ≤ cs.length) (hG : G ((cs.drop o).take n)) : lds σ ⟨i, o, none⟩ n G := by
  rw [lds_eq (H.g e) _ _ hb]; exact hG
/-- The first of what is known is written to. -/
theorem put0 {G : AS → Prop} {v : Value} (H : Has σ ((i, .row k cs) :: M)) (hk : k.own = true) (ho : o < cs.length) (hG : ∀ σ', Has σ' ((i, .row k (cs.set o v)) :: M) → G σ') : put1 σ ⟨i, o, none⟩ v G := put1_mk H 0 rfl hk ho hG
theorem puts0 {G : AS → Prop} {vs : List Value} (H : Has σ ((i, .row k cs) :: M)) (hk : k.own = true) (ho : o + vs.length ≤ cs.length) (hG : ∀ σ', Has σ' ((i, .row k (cs.take o ++ vs ++ cs.drop (o + vs.length))) :: M) → G σ') : puts σ ⟨i, o, none⟩ vs G := puts_mk H 0 rfl hk ho hG
theorem mset0_new {G : AS → Prop} {d : TypeDesc} {kv v : Value} {es : List MapEntry} {c : Nat} (H : Has σ ((i, .map es c) :: M)) (hx : Instr.findNow d kv es 0 = some none) (hG : ∀ σ', Has σ' ((i, .map (es ++ [{ key := kv, val := v, born := c }]) (c + 1)) :: M) → G σ') : mset σ d i kv v G := mset_new_mk H 0 rfl hx hG
theorem mset0_old {G : AS → Prop} {d : TypeDesc} {kv v u : Value} {es : List MapEntry} {c j : Nat} (H : Has σ ((i, .map es c) :: M)) (hx : Instr.findNow d kv es 0 = some (some (j, u))) (hG : ∀ σ', Has σ' ((i, .map (es.modify j fun e => { e with key := kv, val := v }) c) :: M) → G σ') : mset σ d i kv v G := by
  unfold mset
  exact mapAt_mk H 0 rfl (pSome_mk hx (hG _ (H.upd 0 rfl _)))
theorem mdel0 {G : AS → Prop} {d : TypeDesc} {kv v : Value} {es : List MapEntry} {c j : Nat} (H : Has σ ((i, .map es c) :: M)) (hx : Instr.findNow d kv es 0 = some (some (j, v))) (hG : ∀ σ', Has σ' ((i, .map (es.eraseIdx j) c) :: M) → G σ') : mdel σ d i kv G := mdel_mk H 0 rfl hx hG
/-- A slice of so many cells, with the row that it lies on. -/
def SlC (sz : Nat) (a : Option Addr) (e : Nat) (cells : List Value) (rows : List (Nat × AObj)) : Prop :=
  (a = none ∧ cells = [] ∧ rows = []) ∨ ∃ j, a = some ⟨j, 0, none⟩ ∧ sz = e ∧ rows = [(j, .row .rw cells)]
variable {sz by_ : Nat} {a : Option Addr} {e : Nat} {cells new : List Value} {rows X : List (Nat × AObj)}
theorem SlC.no (h : SlC sz a e cells rows) : nilOr a e sz = true := by
  rcases h with ⟨rfl, _⟩ | ⟨j, rfl, rfl, _⟩
  · unfold nilOr; cases Nat.beq e sz <;> rfl
  · unfold nilOr; rw [Nat.beq_refl]
theorem SlC.e1 (h : SlC sz a e cells rows) : SlC sz a sz cells rows := by
  rcases h with h | ⟨j, h1, h2, h3⟩
  · exact .inl h
  · exact .inr ⟨j, h1, rfl, h3⟩
theorem SlC.nil (e : Nat) : SlC sz none e [] [] := .inl ⟨rfl, rfl, rfl⟩
theorem SlC.row {j : Nat} : SlC sz (some ⟨j, 0, none⟩) sz cells [(j, .row .rw cells)] := .inr ⟨j, rfl, rfl, rfl⟩
/-- Cells behind a slice. -/
theorem appC {G : Sl → AS → Prop} {m : Nat} (hs : SlC sz a e cells rows) (H : Has σ (rows ++ X)) (hn : n * sz = cells.length) (hm : new.length = m * sz) (hsz : 0 < sz) (hb : (n + m) * by_ ≤ 140737488355328)
    (hG : ∀ a' σ' rows', SlC sz a' sz (cells ++ new) rows' → Has σ' (rows' ++ X) → G ⟨a', n + m⟩ σ') : appendTo σ sz by_ ⟨a, n⟩ new m G := by
  rcases hs with ⟨rfl, rfl, rfl⟩ | ⟨j, rfl, rfl, rfl⟩
  · have h0 : n = 0 := by
      rcases Nat.eq_zero_or_pos n with h | h
      · exact h
      · have := Nat.mul_le_mul h hsz
        simp at hn
        omega
    subst h0
    unfold appendTo
    refine req_mk hb ?_
    simp only
    cases m with
    | zero =>
      have e0 : new = [] := List.length_eq_zero_iff.1 (by simpa using hm)
      subst e0
      exact hG none σ [] (SlC.nil _) H
    | succ m =>
      refine newAt_mk H fun j σ' H' => ?_
      have := hG (some ⟨j, 0, none⟩) σ' [(j, .row .rw new)] SlC.row (by simpa using H')
      rw [Nat.zero_add] at this
      exact this
  · refine append_mk H 0 rfl rfl hb (by omega) fun j' σ' H' => ?_
    have e0 : cells.take (n * sz) = cells := List.take_of_length_le (by omega)
    rw [e0] at H'
    exact hG _ σ' _ SlC.row (by simpa using H')
/-- One element more. -/
theorem pushC {G : Sl → AS → Prop} (hs : SlC sz a e cells rows) (H : Has σ (rows ++ X)) (hn : n * sz = cells.length) (hm : new.length = sz) (hsz : 0 < sz) (hb : (n + 1) * by_ ≤ 140737488355328)
    (hG : ∀ a' σ' rows', SlC sz a' sz (cells ++ new) rows' → Has σ' (rows' ++ X) → G ⟨a', n + 1⟩ σ') :
    newAt σ (.row .rw new) fun i0 σ1 => chk (nilOr a e sz) (lds σ1 ⟨i0, 0, none⟩ sz fun l => appendTo σ1 sz by_ ⟨a, n⟩ l 1 G) := by
  refine newAt_mk H fun i0 σ1 H1 => chk_mk hs.no (lds_mk H1 0 rfl (by omega) ?_)
  have e0 : (new.drop 0).take sz = new := by rw [List.drop_zero]; exact List.take_of_length_le (by omega)
  rw [e0]
  exact appC hs (H1.sep (M := rows ++ ((i0, .row .rw new) :: X)) (fun a => by simp only [cnt_app, cnt_cons, cnt_nil, List.flatMap_append, List.flatMap_cons, List.flatMap_nil, List.append_assoc, List.cons_append, List.nil_append, i64, u32, u8, ptr, List.set_cons_zero, List.set_cons_succ]; omega)) hn (by omega) hsz hb fun a' σ' rows' hs' H' => hG a' σ' rows' hs' (H'.sep (fun a => by simp only [cnt_app, cnt_cons, cnt_nil, List.flatMap_append, List.flatMap_cons, List.flatMap_nil, List.append_assoc, List.cons_append, List.nil_append, i64, u32, u8, ptr, List.set_cons_zero, List.set_cons_succ]; omega))
/-- A slice's cells as the source of an append. -/
theorem srcC {G : Nat → List Value → Prop} (hs : SlC sz a e cells rows) (H : Has σ L) (hr : ∀ p ∈ rows, p ∈ L) (hn : n * sz = cells.length) (hsz : 0 < sz) (hG : G n cells) : srcCells σ sz (some (.slice a n sz)) G := by
  rcases hs with ⟨rfl, rfl, rfl⟩ | ⟨j, rfl, rfl, rfl⟩
  · have h0 : n = 0 := by
      rcases Nat.eq_zero_or_pos n with h | h
      · exact h
      · have := Nat.mul_le_mul h hsz
        simp at hn
        omega
    subst h0
    exact hG
  · unfold srcCells
    refine req_mk rfl (ldsm (k := .rw) (cs := cells) H (hr _ (List.mem_singleton.2 rfl)) (by omega) ?_)
    have e0 : (cells.drop 0).take (n * sz) = cells := by rw [List.drop_zero]; exact List.take_of_length_le (by omega)
    rw [e0]
    exact hG
/-- An element of a slice: it is there. -/
theorem SlC.at (hs : SlC sz a e cells rows) {p : Nat} (hp : p < cells.length) : ∃ j, a = some ⟨j, 0, none⟩ ∧ sz = e ∧ rows = [(j, .row .rw cells)] := by
  rcases hs with ⟨rfl, rfl, rfl⟩ | h
  · simp at hp
  · exact h
end
-- strings
abbrev bsV (l : List UInt8) : ByteArray := ⟨l.toArray⟩
theorem strEq_bs (a b : List UInt8) : strEq (bsV a) (bsV b) = decide (a = b) := by
  unfold strEq
  rw [ByteArray.toList_mk, ByteArray.toList_mk]
  by_cases h : a = b <;> simp [h]
theorem bytesLess_lt : ∀ (x y : List UInt8), Op.bytesLess x y = decide (x < y)
  | [], [] => by simp [Op.bytesLess]
  | _ :: _, [] => by simp [Op.bytesLess]
  | [], _ :: _ => by simp [Op.bytesLess]
  | a :: x, b :: y => by
    rw [Op.bytesLess, bytesLess_lt x y]
    simp only [List.cons_lt_cons_iff]
    by_cases h1 : a < b <;> by_cases h2 : a = b <;> by_cases h3 : x < y <;> simp [h1, h2, h3]
theorem strLt_bs (a b : List UInt8) : strLt (bsV a) (bsV b) = decide (a < b) := by
  unfold strLt
  rw [ByteArray.toList_mk, ByteArray.toList_mk, bytesLess_lt]
theorem size_bs (a : List UInt8) : (bsV a).size = a.length := rfl
theorem bsV_ex (s : ByteArray) : ∃ l, s = bsV l := ⟨s.data.toList, by cases s; rfl⟩
abbrev cells8 (l : List Int) : List Value := l.map u8
abbrev cellsU (l : List Int) : List Value := l.map u32
end Go.AI
