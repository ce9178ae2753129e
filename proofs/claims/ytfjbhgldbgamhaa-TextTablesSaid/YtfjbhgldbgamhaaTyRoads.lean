/- Lemmas of the abstract condition ahead of code (a part of the library that the claim's proof stands on); they hold with no condition but those that each names. -/
import Derived.Test.YtfjbhgldbgamhaaTxHints
import Derived.RangeFuncGives
import Derived.RangeFuncBox
import Derived.RangeFuncLeaves
import Derived.Maps.AppendAt
import Derived.Maps.RangeWalk
import Derived.Shelf.Abstract
import Derived.WalkKit
import Derived.OwnWalkIn
import Derived.TacticsInMore
import Derived.RegionIn
import Derived.LoopNIn
import Derived.LoopIn
import Derived.Test.YtfjbhgldbgamhaaAISep
import Derived.Lib.Walk
import Derived.Lib.SliceRun
import Derived.Lib.AppendZerosOnto
section
/- slices.AppendSeq of nil and slices.Values of a slice of uint32: a new slice of the same numbers; no condition but the reach. -/
namespace Go.AI
open Go.Proofs Go.RowKit Go.Maps Go.Shelf
attribute [local go_sem] Oper.semAt_some
abbrev encU (x : Int) : Value := .int .u32 x
def txApAssign : Code := (Code.region 2 #[{ dst := some 5, op := Op.assign (Operand.tmp 7), type := 22, pos := "iter.go:51", after := #[], guard := none }] false)
def txApBody : Code := (Code.block 1 (Code.region 3 #[{ dst := some 8, op := Op.load 23 (Operand.tmp 2), type := 23, pos := "iter.go:52", after := #[], guard := none }, { dst := some 9, op := Op.move (Operand.tmp 5), type := 22, pos := "iter.go:52", after := #[], guard := none }, { dst := some 10, op := Op.buildSlice 23 1 #[(0, Operand.tmp 9)], type := 23, pos := "iter.go:52", after := #[{ on := 1, ground := Ground.data }], guard := none }, { dst := some 11, op := Op.call { callee := Callee.builtin Builtin.append, args := #[Operand.tmp 8, Operand.tmp 10], argTypes := #[23, 23] }, type := 23, pos := "iter.go:52", after := #[{ on := 0, ground := Ground.data }, { on := 2, ground := Ground.data }], guard := none }, { dst := none, op := Op.store 23 (Operand.tmp 2) (Operand.tmp 11), type := 0, pos := "iter.go:52", after := #[{ on := 3, ground := Ground.data }, { on := 3, ground := Ground.chain }, { on := 0, ground := Ground.phase }, { on := 1, ground := Ground.phase }, { on := 2, ground := Ground.phase }, { on := 3, ground := Ground.phase }], guard := none }] false))
def txApRec (fn : FuncId) (sv : Value) (Bs D : Nat) (st : LoopState) (pend : Option Code) : Loop :=
  { state := st, pending := pend, fn, tmps := #[.slice none 0 0, sv, .pointer (some ⟨Bs, 0, none⟩), undef, .slice none 0 0, undef, sv, undef, undef, undef, undef, undef, undef], params := #[7], assign := txApAssign, body := txApBody, defers := D }

structure TxApAt (w0 : World) (fn : FuncId) (sv : Value) (Bs l D : Nat) (ss : List Int) (W : World) : Prop where
  box : ∃ v, W.heap[Bs]? = some (.cells #[v] 23 (0, 0)) ∧ W.ownsRow w0.heap.size 22 1 v ss.length (ss.map encU) ∧ (v = .slice none 0 0 ↔ ss = [])
  L : W.heap[l]? = some (.loop (txApRec fn sv Bs D .ready none))
  K : W.heap[D]? = some (.deferred (some []))
  below : Below w0.heap.size w0 W

theorem ownsRow_abides {W W' : World} {row : Option Nat} {base : Nat} {e : TypeId} {size : Nat} {v : Value} {k : Nat} {xs : List Value} (h : W.ownsRow base e size v k xs) (hg : W.grownBy W' row)
    (hrow : ∀ r, row = some r → ∃ o : Obj, W.heap[r]? = some o ∧ o.isWalk = true) : W'.ownsRow base e size v k xs := by
  refine h.kept hg ?_
  rcases h.2 with ⟨rfl, _⟩ | ⟨g, cap, cur, rfl, _, hgb, _⟩
  · exact .inl rfl
  · refine .inr fun e' => ?_
    obtain ⟨o, ho, hw⟩ := hrow g (by simpa [Value.ownBlock] using e'.symm)
    rw [hgb] at ho; cases ho; cases hw

theorem txAp_abides (w0 : World) (fn : FuncId) (sv : Value) (Bs l D B : Nat) (hB : w0.heap.size ≤ B) : AbidesFrom B (TxApAt w0 fn sv Bs l D) := fun s W W' row h hg hrow => by
  have hrow' : ∀ r, row = some r → ∃ o : Obj, W.heap[r]? = some o ∧ o.isWalk = true := fun r e => (hrow r e).2
  obtain ⟨v, hv, hr, hn⟩ := h.box
  exact ⟨⟨v, (grownBy_keeps hg hrow' hv rfl).trans hv, ownsRow_abides hr hg hrow', hn⟩, (grownBy_keeps hg hrow' h.L rfl).trans h.L, (grownBy_keeps hg hrow' h.K rfl).trans h.K,
    h.below.grown hg h.below.size (fun k e => Nat.le_trans hB (hrow k e).1)⟩

theorem grownBy_putObj (W : World) (l : Nat) (o : Obj) : W.grownBy (W.putObj l o) (some l) :=
  ⟨rfl, rfl, rfl, by simp, fun k _ hk => World.putObj_heap_other (fun e => hk (by rw [e]))⟩
theorem grownBy_setCell0 (W : World) (b : Nat) (v : Value) : W.grownBy (W.setCell ⟨b, 0, none⟩ v) (some b) :=
  ⟨rfl, rfl, rfl, (KeepsWalks.setCell W _ v).size, fun k _ hk => Below.heap_setCell _ _ _ k (fun e => hk (by rw [e]))⟩
theorem ownsRow_ne {W : World} {base : Nat} {e : TypeId} {size : Nat} {v : Value} {k : Nat} {xs : List Value} (h : W.ownsRow base e size v k xs) {j : Nat} {o : Obj} (hj : W.heap[j]? = some o) (hno : ∀ cur, o ≠ .cells cur e (0, 0)) :
    v.ownBlock = none ∨ v.ownBlock ≠ some j := by
  rcases h.2 with ⟨rfl, _⟩ | ⟨g, cap, cur, rfl, _, hgb, _⟩
  · exact .inl rfl
  · refine .inr fun e' => ?_
    have : g = j := by simpa [Value.ownBlock] using e'
    subst this; rw [hgb] at hj; cases hj; exact hno cur rfl
theorem cell_of_box {W : World} {B : Nat} {v : Value} {t : TypeId} (h : W.heap[B]? = some (.cells #[v] t (0, 0))) : W.cell? ⟨B, 0, none⟩ = some v ∧ W.frozen? ⟨B, 0, none⟩ = false := by
  constructor <;> simp [World.cell?, World.frozen?, h]

theorem heap_setCell_box {W : World} {B : Nat} {v : Value} {t : TypeId} (v' : Value) (h : W.heap[B]? = some (.cells #[v] t (0, 0))) : (W.setCell ⟨B, 0, none⟩ v').heap[B]? = some (.cells #[v'] t (0, 0)) := by
  obtain ⟨hlt, hk⟩ := Array.getElem?_eq_some_iff.1 h
  show (W.heap.modify B _)[B]? = _
  rw [Array.getElem?_eq_getElem (by rw [Array.size_modify]; exact hlt), Array.getElem_modify_self, hk]
  rfl
theorem ownsRow_not_walk {W : World} {base : Nat} {e : TypeId} {size : Nat} {v : Value} {k : Nat} {xs : List Value} (h : W.ownsRow base e size v k xs) : ∀ (j : Nat) (o : Obj), v.ownBlock = some j → W.heap[j]? = some o → o.isWalk = false := by
  intro j o hj ho
  rcases h.2 with ⟨rfl, _⟩ | ⟨g, cap, cur, rfl, _, hgb, _⟩
  · simp [Value.ownBlock] at hj
  · have : g = j := by simpa [Value.ownBlock] using hj
    subst this; rw [hgb] at ho; cases ho; rfl

theorem txInfo22 : (Try.prog.info? 22).map (fun i => (i.zero, i.size, i.bytes)) = some (some (.int .u32 0), 1, 4) := by kernel_rfl

set_option maxRecDepth 100000 in
set_option maxHeartbeats 2000000 in
theorem txApYield (F : Fence) (m : Nat) (w0 : World) (fn : FuncId) (hfn : F.fn fn) (sv : Value) (Bs l D : Nat) (hBl : Bs ≠ l) (hDl : D ≠ l) (hDB : D ≠ Bs) (h0B : w0.heap.size ≤ Bs) (h0l : w0.heap.size ≤ l)
    (N : Nat) (hN : N ≤ maxLen) (hNb : N * 4 ≤ 140737488355328) (ss : List Int) (x : Int) (W : World) (h : TxApAt w0 fn sv Bs l D ss W) (hlen : ss.length < N) :
    YieldAt F m Try.prog l #[encU x] W fun e W' => e = .returned (.bool true) ∧ TxApAt w0 fn sv Bs l D (ss ++ [x]) W' ∧ KeepsWalks W W' := by
  obtain ⟨i0, hi, hz0, hz1, hz2⟩ := info_parts txInfo22
  obtain ⟨v, hv, hrow, _⟩ := h.box
  refine ⟨fn, #[.slice none 0 0, sv, .pointer (some ⟨Bs, 0, none⟩), undef, .slice none 0 0, undef, sv, encU x, undef, undef, undef, undef, undef], txApAssign, txApBody, by simpa [txApRec] using run_yield (P := Try.prog) (args := #[encU x]) h.L rfl, roundIn_of_wpIn hfn ?_⟩
  have hl : l < W.heap.size := (Array.getElem?_eq_some_iff.1 h.L).1
  have hbr := run_beginRound (P := Try.prog) h.L rfl
  obtain ⟨W2, hW2⟩ : ∃ W2, W.putObj l (.loop { txApRec fn sv Bs D .ready none with state := .busy }) = W2 := ⟨_, rfl⟩
  rw [hW2] at hbr
  have hg2 : W.grownBy W2 (some l) := by rw [← hW2]; exact grownBy_putObj _ _ _
  have hk2 : KeepsWalks W W2 := by rw [← hW2]; exact KeepsWalks.putObj _ h.L rfl
  have hv2 : W2.heap[Bs]? = some (.cells #[v] 23 (0, 0)) := by rw [← hW2]; exact (World.putObj_heap_other hBl).trans hv
  have hK2 : W2.heap[D]? = some (.deferred (some [])) := by rw [← hW2]; exact (World.putObj_heap_other hDl).trans h.K
  have hL2 : W2.heap[l]? = some (.loop { txApRec fn sv Bs D .ready none with state := .busy }) := by rw [← hW2]; exact World.putObj_heap_same hl
  have hrow2 : W2.ownsRow w0.heap.size 22 1 v ss.length (ss.map encU) := hrow.kept hg2 (ownsRow_ne hrow h.L (fun cur e => by cases e))
  have hb2 : Below w0.heap.size w0 W2 := h.below.grown hg2 h.below.size (fun k e => by cases e; exact h0l)
  obtain ⟨hc2, hf2⟩ := cell_of_box hv2
  have hBlt : Bs < W2.heap.size := (Array.getElem?_eq_some_iff.1 hv2).1
  have hl2 : l < W2.heap.size := (Array.getElem?_eq_some_iff.1 hL2).1
  have hDlt : D < W2.heap.size := (Array.getElem?_eq_some_iff.1 hK2).1
  have ne_of : ∀ {j : Nat} {o : Obj}, W2.heap[j]? = some o → (∀ cur, o ≠ .cells cur 22 (0, 0)) → some j ≠ v.ownBlock := fun hj hno => by
    rcases ownsRow_ne hrow2 hj hno with e | e
    · rw [e]; simp
    · exact fun e' => e e'.symm
  clear hW2
  unfold txApAssign
  gi_wp2_with (rw [Oper.semAt_eq _ _ _ (fun c h => by cases h)]; go_simp; try go_bits)
  unfold txApBody
  gi_wp2_with (first
    | (gi_at_builtin; refine wpListIn_append_own _ rfl _ _ 23 rfl w0.heap.size 22 i0 (.int .u32 0) 1 4 Try.underlying23 hi hz0 hz1 hz2 rfl (by decide) _ _ _ rfl (hrow2.alloc _) ⟨W2.heap.size, 0, none⟩ 1 1 [encU x] rfl rfl (cell_one_new _ _ _) (by simp [Value.oneCell', encU]) (by omega) (by omega) (by have := hb2.size; simp; omega) ?_; intro v' w3 hown' hg3 hnil3
       have hv3 : w3.heap[Bs]? = some (.cells #[v] 23 (0, 0)) := (hg3.block Bs (by simp; omega) (ne_of hv2 (fun cur e => by cases e))).trans ((Below.heap_alloc _ _ Bs hBlt).trans hv2)
       obtain ⟨hc3, hf3⟩ := cell_of_box hv3
       obtain ⟨g', cap', cur', rfl, hbase', hgb', hr1, hr2, hr3, hr4⟩ : ∃ g' cap' cur', v' = .slice (some ⟨g', 0, none⟩) (ss.length + 1) cap' ∧ w0.heap.size ≤ g' ∧ w3.heap[g']? = some (.cells cur' 22 (0, 0)) ∧ ss.length + 1 ≤ cap' ∧ cap' ≤ maxLen ∧ cur'.size = cap' * 1 ∧ cur'.toList.take ((ss.length + 1) * 1) = ss.map encU ++ [encU x] := by
         rcases hown'.2 with ⟨_, h0⟩ | h'
         · exact absurd h0 (by omega)
         · exact h'
       go_frame)
    | (rw [Oper.semAt_eq _ _ _ (fun c h => by cases h)]; go_simp; try go_bits))
  have hg3' : (W2.alloc (.cells #[encU x] 22)).grownBy w3 v.ownBlock := hg3
  have hL3 : w3.heap[l]? = some (.loop { txApRec fn sv Bs D .ready none with state := .busy }) := (hg3'.block l (by simp; omega) (ne_of hL2 (fun cur e => by cases e))).trans ((Below.heap_alloc _ _ l hl2).trans hL2)
  have hK3 : w3.heap[D]? = some (.deferred (some [])) := (hg3'.block D (by simp; omega) (ne_of hK2 (fun cur e => by cases e))).trans ((Below.heap_alloc _ _ D hDlt).trans hK2)
  obtain ⟨w4, hw4⟩ : ∃ w4, w3.setCell ⟨Bs, 0, none⟩ (.slice (some ⟨g', 0, none⟩) (ss.length + 1) cap') = w4 := ⟨_, rfl⟩
  rw [hw4]
  have hg4 : w3.grownBy w4 (some Bs) := by rw [← hw4]; exact grownBy_setCell0 _ _ _
  have hv4 : w4.heap[Bs]? = some (.cells #[.slice (some ⟨g', 0, none⟩) (ss.length + 1) cap'] 23 (0, 0)) := by rw [← hw4]; exact heap_setCell_box _ hv3
  have hL4 : w4.heap[l]? = some (.loop { txApRec fn sv Bs D .ready none with state := .busy }) := (hg4.block l (Array.getElem?_eq_some_iff.1 hL3).1 (fun e => hBl (by cases e; rfl))).trans hL3
  have hK4 : w4.heap[D]? = some (.deferred (some [])) := (hg4.block D (Array.getElem?_eq_some_iff.1 hK3).1 (fun e => hDB (by cases e; rfl))).trans hK3
  have hrow4 := hown'.kept hg4 (ownsRow_ne hown' hv3 (fun cur e => by cases e))
  have hl4 : l < w4.heap.size := (Array.getElem?_eq_some_iff.1 hL4).1
  have hb3 : Below w0.heap.size w0 w3 := (hb2.alloc hb2.size _).grown hg3' (by have := hb2.size; simp; omega) (fun k e => (hrow2.lt k e).1)
  have hb4 : Below w0.heap.size w0 w4 := hb3.grown hg4 hb3.size (fun k e => by cases e; exact h0B)
  have hk4 : KeepsWalks W w4 := ((hk2.trans (KeepsWalks.alloc _ _)).trans (KeepsWalks.of_grownBy hg3' (ownsRow_not_walk (hrow2.alloc _)))).trans (by rw [← hw4]; exact KeepsWalks.setCell _ _ _)
  clear hw4
  refine ⟨_, _, run_endRound none hL4, rfl, ⟨⟨_, (World.putObj_heap_other hBl).trans hv4, ?_, by simp⟩, World.putObj_heap_same hl4, (World.putObj_heap_other hDl).trans hK4, hb4.grown (grownBy_putObj _ _ _) hb4.size (fun k e => by cases e; exact h0l)⟩, hk4.trans (KeepsWalks.putObj _ hL4 rfl)⟩
  have := hrow4.kept (grownBy_putObj w4 l (.loop { { txApRec fn sv Bs D .ready none with state := .busy } with state := if (none : Option Code).isNone then .ready else .done, pending := none })) (ownsRow_ne hrow4 hL4 (fun cur e => by cases e))
  simpa using this



def uptoU (zs : List Int) (k : Nat) : List Int := (List.range k).map fun j => zs[j]?.getD 0
theorem uptoU_succ (zs : List Int) (k : Nat) : uptoU zs (k + 1) = uptoU zs k ++ [zs[k]?.getD 0] := by simp [uptoU, List.range_succ]
theorem uptoU_length (zs : List Int) (k : Nat) : (uptoU zs k).length = k := by simp [uptoU]
theorem uptoU_all (zs : List Int) : uptoU zs zs.length = zs := by
  apply List.ext_getElem
  · simp [uptoU]
  · intro i h1 h2
    simp [uptoU, h2]
set_option maxRecDepth 100000 in
set_option maxHeartbeats 2000000 in
theorem txValues1_in (F : Fence) (n : Nat) (h47 : F.fn 47) (hro : F.round = none) (hn : 1 ≤ n) (l Bs o b off len cap : Nat) (zs : List Int) (w0 : World) (hb : b < w0.heap.size) (hB : Bs < w0.heap.size) (hreach : len * 4 ≤ 140737488355328) (J : List Int → World → Prop)
    (hJB : ∀ pre W, J pre W → Below w0.heap.size w0 W)
    (hY : ∀ pre x W, J pre W → pre.length < len → YieldAt F (n - 1) Try.prog l #[encU x] W fun e W' => e = .returned (.bool true) ∧ J (pre ++ [x]) W' ∧ KeepsWalks W W')
    (W : World) (hBs : w0.cell? ⟨Bs, o, none⟩ = some (.slice (some ⟨b, off, none⟩) len cap)) (hc : ∀ j, j < len → w0.cell? ⟨b, off + j, none⟩ = some (.int .u32 (zs[j]?.getD 0))) (h0 : J [] W) :
    CallsIn F n Try.prog 47 #[.func (.yield l) #[] #[], .pointer (some ⟨Bs, o, none⟩)] W fun e W' => (∃ v, e = .returned v) ∧ J (uptoU zs len) W' := by
  have hBsW : W.cell? ⟨Bs, o, none⟩ = some (.slice (some ⟨b, off, none⟩) len cap) := ((hJB _ _ h0).cell (p := ⟨Bs, o, none⟩) hB).trans hBs
  refine callsIn_of_wp Try.func47 rfl h47 ?_ hro
  simp only [Try.ntmps47, List.size_toArray, List.length_cons, List.length_nil, Nat.reduceAdd, Nat.reduceSub, Array.replicate_succ, Array.replicate_zero, List.push_toArray, List.append_toArray, List.nil_append, List.cons_append]
  gi_wp2
  gi_loopw [7] (fun i wr => ∃ k : Nat, k ≤ len ∧ i = .int .i64 k ∧ J (uptoU zs k) wr)
    (fun i _ => len - (intOf i).toNat)
  case atStart => exact ⟨0, Nat.zero_le _, rfl, h0⟩
  case round =>
    obtain ⟨k, hk, rfl, hJs⟩ := hrel
    have hcx : k < len → wr.cell? ⟨b, off + k, none⟩ = some (.int .u32 (zs[k]?.getD 0)) := fun h => ((hJB _ _ hJs).cell (p := ⟨b, off + k, none⟩) hb).trans (hc k h)
    by_cases hlt : k < len
    · obtain ⟨fn, tmps, assign, body, hy, hR⟩ := hY _ (zs[k]?.getD 0) wr hJs (by rw [uptoU_length]; exact hlt)
      have hcx' := hcx hlt
      gi_wp2
      refine hR.mono ?_
      rintro e W3 ⟨rfl, hJ3, hk3⟩
      gi_wp2
      go_roundw
      case rel => exact ⟨k + 1, by omega, by simp, by rw [uptoU_succ]; exact hJ3⟩
      case measure => simp [intOf]; omega
    · obtain rfl : k = len := by omega
      gi_wp2
      go_end0
      exact ⟨⟨_, rfl⟩, hJs⟩
set_option maxRecDepth 100000 in
set_option maxHeartbeats 1000000 in
theorem txValues1_nil_in (F : Fence) (n : Nat) (h47 : F.fn 47) (hro : F.round = none) (l Bs o cap : Nat) (a : Option Addr) (J : List Int → World → Prop) (W : World) (hBs : W.cell? ⟨Bs, o, none⟩ = some (.slice a 0 cap)) (h0 : J [] W) :
    CallsIn F n Try.prog 47 #[.func (.yield l) #[] #[], .pointer (some ⟨Bs, o, none⟩)] W fun e W' => (∃ v, e = .returned v) ∧ J [] W' := by
  refine callsIn_of_wp Try.func47 rfl h47 ?_ hro
  simp only [Try.ntmps47, List.size_toArray, List.length_cons, List.length_nil, Nat.reduceAdd, Nat.reduceSub, Array.replicate_succ, Array.replicate_zero, List.push_toArray, List.append_toArray, List.nil_append, List.cons_append]
  gi_wp2
  gi_loopw [7] (fun i wr => i = .int .i64 0 ∧ J [] wr) (fun _ _ => 0)
  case atStart => exact ⟨rfl, h0⟩
  case round =>
    obtain ⟨rfl, hJs⟩ := hrel
    gi_wp2
    go_end0
    exact ⟨⟨_, rfl⟩, hJs⟩
set_option maxRecDepth 100000 in
set_option maxHeartbeats 2000000 in
theorem txAppendSeq_in (F : Fence) (n : Nat) (h48 : F.fn 48) (hro : F.round = none) (hn : 2 ≤ n) (h47 : F.fn 47) (Bs o : Nat) (zs : List Int) (N : Nat) (hN : N ≤ maxLen) (hNb : N * 4 ≤ 140737488355328) (w : World) (hB : Bs < w.heap.size)
    (hs : (∃ a cap, w.cell? ⟨Bs, o, none⟩ = some (.slice a 0 cap) ∧ zs = []) ∨ ∃ b off cap, w.cell? ⟨Bs, o, none⟩ = some (.slice (some ⟨b, off, none⟩) zs.length cap) ∧ b < w.heap.size ∧ zs.length ≤ N ∧ ∀ j, j < zs.length → w.cell? ⟨b, off + j, none⟩ = some (.int .u32 (zs[j]?.getD 0))) :
    CallsIn F n Try.prog 48 #[.slice none 0 0, .func (.func 47) #[] #[.pointer (some ⟨Bs, o, none⟩)]] w fun e w' => ∃ v : Value, e = .returned v ∧ w'.ownsRow w.heap.size 22 1 v zs.length (zs.map encU) ∧ (v = .slice none 0 0 ↔ zs = []) ∧ Below w.heap.size w w' := by
  have h1 : 1 ≤ n := by omega
  refine callsIn_of_wp_marks Try.func48 rfl h48 ?_ hro
  simp only [Try.ntmps48, List.size_toArray, List.length_cons, List.length_nil, Nat.reduceAdd, Nat.reduceSub, Array.replicate_succ, Array.replicate_zero, List.push_toArray, List.append_toArray, List.nil_append, List.cons_append]
  gi_wp2
  refine wpIn_rangeFunc ?_
  intro fn hfn
  rw [hro]
  obtain ⟨W0, hW0⟩ : ∃ W0, w.alloc (.cells #[.slice none 0 0] 23) = W0 := ⟨_, rfl⟩
  have hs0 : W0.heap.size = w.heap.size + 1 := by rw [← hW0]; simp
  have hv0 : W0.heap[w.heap.size]? = some (.cells #[.slice none 0 0] 23 (0, 0)) := by rw [← hW0]; exact World.alloc_heap_new w _
  have hb0 : Below w.heap.size w W0 := by rw [← hW0]; exact (Below.refl _ w).alloc (Nat.le_refl _) _
  rw [hW0]
  obtain ⟨W1, hW1⟩ : ∃ W1, (W0.alloc (.deferred (some []))).alloc (.loop (txApRec fn (.func (.func 47) #[] #[.pointer (some ⟨Bs, o, none⟩)]) w.heap.size W0.heap.size .ready none)) = W1 := ⟨_, rfl⟩
  have hold : ∀ k, k < W0.heap.size → W1.heap[k]? = W0.heap[k]? := fun k hk => by
    rw [← hW1]; exact (Below.heap_alloc _ _ k (by simp; omega)).trans (Below.heap_alloc _ _ k hk)
  have hb1 : Below w.heap.size w W1 := by rw [← hW1]; exact (hb0.alloc hb0.size _).alloc (by have := hb0.size; simp; omega) _
  have hs1 : W1.heap.size = W0.heap.size + 2 := by rw [← hW1]; simp
  have hM : TxApAt w fn (.func (.func 47) #[] #[.pointer (some ⟨Bs, o, none⟩)]) w.heap.size (W0.heap.size + 1) W0.heap.size [] W1 :=
    ⟨⟨_, (hold w.heap.size (by omega)).trans hv0, ⟨rfl, .inl ⟨rfl, rfl⟩⟩, by simp⟩,
     by rw [← hW1]; have := World.alloc_heap_new (W0.alloc (.deferred (some []))) (.loop (txApRec fn (.func (.func 47) #[] #[.pointer (some ⟨Bs, o, none⟩)]) w.heap.size W0.heap.size .ready none)); rwa [World.size_alloc] at this,
     by rw [← hW1]; exact (Below.heap_alloc _ _ _ (by simp)).trans (World.alloc_heap_new W0 _), hb1⟩
  refine ⟨W0.heap.size + 1, [{ target := .collected W0.heap.size, args := #[] }], W1, { target := .fn (.func 47) #[.pointer (some ⟨Bs, o, none⟩)], args := #[.func (.yield (W0.heap.size + 1)) #[] #[]] }, W1, 47,
    #[.func (.yield (W0.heap.size + 1)) #[] #[]] ++ #[.pointer (some ⟨Bs, o, none⟩)], W1, ?_, ?_, ?_, ?_, fun _ => h1, ?_⟩
  · rw [← hW1]; exact run_enterLoop_outer _ _ _ _ _
  · simp [resolve, go_sem]
  · intro f' hf'; simp [Target.leads] at hf'; subst hf'; exact h47
  · simp [invoke, go_sem, enters_of Try.func47 (by kernel_rfl) rfl]
  · have hY : ∀ pre x W, TxApAt w fn (.func (.func 47) #[] #[.pointer (some ⟨Bs, o, none⟩)]) w.heap.size (W0.heap.size + 1) W0.heap.size pre W → pre.length < N → YieldAt F (n - 1 - 1) Try.prog (W0.heap.size + 1) #[encU x] W fun e W' => e = .returned (.bool true) ∧ TxApAt w fn (.func (.func 47) #[] #[.pointer (some ⟨Bs, o, none⟩)]) w.heap.size (W0.heap.size + 1) W0.heap.size (pre ++ [x]) W' ∧ KeepsWalks W W' :=
      fun pre x W hJ hl => txApYield F (n - 1 - 1) w fn hfn _ w.heap.size (W0.heap.size + 1) W0.heap.size (by omega) (by omega) (by omega) (Nat.le_refl _) (by omega) N hN hNb pre x W hJ hl
    have hcall : CallsIn F (n - 1) Try.prog 47 #[.func (.yield (W0.heap.size + 1)) #[] #[], .pointer (some ⟨Bs, o, none⟩)] W1 fun e W' => (∃ v, e = .returned v) ∧ TxApAt w fn (.func (.func 47) #[] #[.pointer (some ⟨Bs, o, none⟩)]) w.heap.size (W0.heap.size + 1) W0.heap.size zs W' := by
      rcases hs with ⟨a, cap, hc, rfl⟩ | ⟨b, off, cap, hc, hb, hle, hcs⟩
      · exact txValues1_nil_in F (n - 1) h47 hro _ Bs o cap a _ W1 ((hb1.cell (p := ⟨Bs, o, none⟩) hB).trans hc) hM
      · have := txValues1_in F (n - 1) h47 hro (by omega) (W0.heap.size + 1) Bs o b off zs.length cap zs w hb hB (by omega) _ (fun pre W h => h.below) (fun pre x W hJ hl => hY pre x W hJ (by omega)) W1 hc hcs hM
        rw [uptoU_all] at this
        exact this
    refine hcall.mono ?_
    rintro e W2 ⟨⟨v0, rfl⟩, h2⟩
    obtain ⟨v, hv, hrow, hnil⟩ := h2.box
    have hend := run_endLoop (P := Try.prog) h2.L (by simp [txApRec])
    obtain ⟨W3, hW3⟩ : ∃ W3, W2.putObj (W0.heap.size + 1) (.loop { txApRec fn (.func (.func 47) #[] #[.pointer (some ⟨Bs, o, none⟩)]) w.heap.size W0.heap.size .ready none with state := .exhausted }) = W3 := ⟨_, rfl⟩
    rw [hW3] at hend
    have hg3 : W2.grownBy W3 (some (W0.heap.size + 1)) := by rw [← hW3]; exact grownBy_putObj _ _ _
    have hv3 : W3.heap[w.heap.size]? = some (.cells #[v] 23 (0, 0)) := by rw [← hW3]; exact (World.putObj_heap_other (by omega)).trans hv
    have hK3 : W3.heap[W0.heap.size]? = some (.deferred (some [])) := by rw [← hW3]; exact (World.putObj_heap_other (by omega)).trans h2.K
    have hrow3 := hrow.kept hg3 (ownsRow_ne hrow h2.L (fun cur e => by cases e))
    have hb3 : Below w.heap.size w W3 := h2.below.grown hg3 h2.below.size (fun k e => by cases e; omega)
    obtain ⟨hc3, hf3⟩ := cell_of_box hv3
    clear hW3
    refine ⟨none, W3, hend, ?_⟩
    gi_wp2
    rw [← hs0]
    refine ⟨by simp, .inl ⟨_, _, rfl, run_takeDeferred hK3, ?_⟩⟩
    exact ⟨_, results_tmp rfl _ _ _, v, rfl, hrow3.kept (grownBy_putObj _ _ _) (ownsRow_ne hrow3 hK3 (fun cur e => by cases e)), hnil, hb3.grown (grownBy_putObj _ _ _) hb3.size (fun k e => by cases e; omega)⟩

end Go.AI
end
section
/- slices.AppendSeq of nil and slices.Values: as the abstract states see it; no condition. -/
set_option maxRecDepth 4000
set_option linter.unusedVariables false
set_option linter.unusedSimpArgs false
namespace Go.AI
open Go.Proofs Go.RowKit Go.Maps Go.Shelf
def isU32 : Value → Bool
  | .int .u32 _ => true
  | _ => false
/-- What is asked ahead of slices.AppendSeq(nil, slices.Values(s)). -/
def gAS (args : List Value) (σ : AS) (K : Value → AS → Prop) : Prop :=
  match args with
  | [.slice none 0 _, .func (.func 47) ⟨[]⟩ ⟨[.pointer (some ⟨i, o, none⟩)]⟩] => ldc σ ⟨i, o, none⟩ fun v => match v with
    | .slice a n e => match n with
      | 0 => K (.slice none 0 0) σ
      | n + 1 => pSome a fun a => req (e = 1) <| lds σ a (n + 1) fun cells => chk (cells.all isU32) <| req ((n + 1) * 4 ≤ 1048576) <| newAt σ (.row .rw cells) fun i σ => K (.slice (some ⟨i, 0, none⟩) (n + 1) 1) σ
    | _ => False
  | _ => False
theorem all_u32 : ∀ {cs : List Value}, cs.all isU32 = true → ∃ zs : List Int, cs = zs.map encU
  | [], _ => ⟨[], rfl⟩
  | c :: cs, h => by
    simp only [List.all_cons, Bool.and_eq_true] at h
    obtain ⟨zs, rfl⟩ := all_u32 h.2
    obtain ⟨x, rfl⟩ : ∃ x, c = encU x := by
      revert h
      cases c with
      | int k m =>
        cases k <;> intro h
        all_goals first | exact ⟨m, rfl⟩ | exact absurd (show false = true from h.1) (by decide)
      | _ => intro h; exact absurd h.1 (by simp [isU32])
    exact ⟨x :: zs, rfl⟩
theorem Sim.below {ρ : RM} {w w' : World} {σ : AS} (s : Sim ρ w.heap σ) (hb : Below w.heap.size w w') : Sim ρ w'.heap σ where
  obj i o e := by
    obtain ⟨l, h1, h2⟩ := s.obj i o e
    refine ⟨l, h1, ?_⟩
    cases hl : o.live with
    | false =>
      have hd : o = .dead := dead_of (by rw [hl]; decide)
      subst hd
      trivial
    | true => exact h2.keep (RM.le_refl _) (hb.block _ (h2.lt hl))
  inj := s.inj
  dom := s.dom
theorem step_below {ρ : RM} {w w' : World} {σ : AS} (hb : Below w.heap.size w w') : Step ρ w σ ρ w' σ :=
  ⟨RM.le_refl _, hb.size, fun b h _ => hb.block b h, fun b h => .inl h, hb.os, hb.output⟩
theorem as_tri {args : List Value} {σ : AS} {K : Value → AS → Prop} (h : gAS args σ K) : Tri Try.prog 48 args σ K := by
  unfold gAS at h
  split at h
  case h_2 => exact h.elim
  case h_1 e0 i o =>
    refine ⟨fun ρ w cargs hc s => ?_⟩
    rcases hc with _ | ⟨hv0, hc⟩
    rcases hc with _ | ⟨hv1, hc⟩
    cases hc
    cases hv0
    cases hv1 with
    | func _ ha hd =>
    cases ha
    rcases hd with _ | ⟨hp, hd⟩
    cases hd
    cases hp with
    | ptr hl =>
    rename_i l
    unfold ldc at h
    cases hcell : σ.cell ⟨i, o, none⟩ with
    | none => rw [hcell] at h; exact h.elim
    | some v =>
    rw [hcell] at h
    simp only [pSome_some] at h
    obtain ⟨_, k, cs, h1, h2⟩ := AS.cell_elim hcell
    obtain ⟨cv, hcv, rv, _⟩ := s.load h1 hl h2
    have hBlt : l.block < w.heap.size := by
      obtain ⟨l', e1, e2⟩ := s.obj _ _ h1
      rw [hl] at e1
      injection e1 with e1
      subst e1
      exact e2.lt rfl
    have hent : (callFunc 48 ⟨[.slice none 0 0, .func (.func 47) ⟨[]⟩ ⟨[.pointer (some ⟨l.block, o + l.shift, none⟩)]⟩]⟩).run Try.prog w = .ok (.enter 48 ⟨[.slice none 0 0, .func (.func 47) ⟨[]⟩ ⟨[.pointer (some ⟨l.block, o + l.shift, none⟩)]⟩]⟩) w :=
      enters_of Try.func48 (by kernel_rfl) rfl _ _
    refine ⟨_, _, hent, ?_⟩
    have none_case : (∃ a cap, w.cell? ⟨l.block, o + l.shift, none⟩ = some (.slice a 0 cap)) → K (.slice none 0 0) σ → After Try.prog (.enter 48 ⟨[.slice none 0 0, .func (.func 47) ⟨[]⟩ ⟨[.pointer (some ⟨l.block, o + l.shift, none⟩)]⟩]⟩) w fun cv w' => ∃ v ρ' σ', K v σ' ∧ VRel ρ' v cv ∧ Sim ρ' w'.heap σ' ∧ Step ρ w σ ρ' w' σ' := by
      rintro ⟨a, cap, hx⟩ hK
      refine (callsIn_wide.1 (txAppendSeq_in Fence.wide 2 trivial rfl (Nat.le_refl _) trivial l.block (o + l.shift) [] 0 (by decide) (by decide) w hBlt (.inl ⟨a, cap, hx, rfl⟩))).mono ?_
      rintro e w' ⟨v, rfl, hrow, hnil, hb⟩
      obtain rfl := hnil.2 rfl
      exact ⟨_, rfl, .slice none 0 0, ρ, σ, hK, .nilslice 0, s.below hb, step_below hb⟩
    cases rv with
    | bool _ => exact h.elim
    | int _ _ => exact h.elim
    | str _ => exact h.elim
    | nilptr => exact h.elim
    | ptr _ => exact h.elim
    | nilmap => exact h.elim
    | map _ => exact h.elim
    | nilfunc => exact h.elim
    | func _ _ _ => exact h.elim
    | nilif => exact h.elim
    | iface _ _ => exact h.elim
    | agg _ _ => exact h.elim
    | tuple _ => exact h.elim
    | nilslice e => exact none_case ⟨_, _, hcv⟩ h
    | emp hi he => exact none_case ⟨_, _, hcv⟩ h
    | slice hi hn ho hs =>
      rename_i i2 o2 n e cap o' l2 _
      cases n with
      | zero => exact none_case ⟨_, _, hcv⟩ h
      | succ n =>
        simp only [pSome_some] at h
        obtain ⟨rfl, h⟩ := req_iff.1 h
        unfold lds at h
        cases hcs : σ.cells ⟨i2, o2, none⟩ (n + 1) with
        | none => rw [hcs] at h; exact h.elim
        | some vs =>
        rw [hcs] at h
        simp only [pSome] at h
        obtain ⟨hall, h⟩ := chk_elim h
        obtain ⟨hbytes, h⟩ := req_iff.1 h
        obtain ⟨zs, rfl⟩ := all_u32 hall
        have ho' : o' = o2 + l2.shift := ho.resolve_left (by omega)
        subst ho'
        rcases AS.cells_elim hcs with ⟨hz, _⟩ | ⟨_, k2, cs2, g1, g2, g3⟩
        · omega
        have hlen : zs.length = n + 1 := by
          have := congrArg List.length g3
          simp at this
          simp at g2
          omega
        have hb2 : l2.block < w.heap.size := by
          obtain ⟨l', e1, e2⟩ := s.obj _ _ g1
          rw [hi] at e1
          injection e1 with e1
          subst e1
          exact e2.lt rfl
        have hcells : ∀ j, j < zs.length → w.cell? ⟨l2.block, o2 + l2.shift + j, none⟩ = some (.int .u32 (zs[j]?.getD 0)) := by
          intro j hj
          have hzj : (zs.map encU)[j]? = some (encU (zs[j]?.getD 0)) := by simp [hj]
          have hcj : cs2[o2 + j]? = some (encU (zs[j]?.getD 0)) := by
            rw [g3] at hzj
            rw [List.getElem?_take, List.getElem?_drop] at hzj
            split at hzj
            · exact hzj
            · cases hzj
          obtain ⟨cv, q1, q2, _⟩ := s.load g1 hi hcj
          cases q2
          rw [← q1]
          congr 2
          omega
        refine (callsIn_wide.1 (txAppendSeq_in Fence.wide 2 trivial rfl (Nat.le_refl _) trivial l.block (o + l.shift) zs (n + 1) (by simp only [maxLen]; omega) (by omega) w hBlt (.inr ⟨l2.block, o2 + l2.shift, cap, by rw [hlen]; exact hcv, hb2, by omega, hcells⟩))).mono ?_
        rintro e w' ⟨v, rfl, hrow, hnil, hb⟩
        refine ⟨_, rfl, ?_⟩
        rcases hrow.2 with ⟨rfl, h0⟩ | ⟨g, cap', cur, rfl, hbg, hg, hnc, hcm, hsz, htk⟩
        · omega
        rw [hlen] at hnc htk ⊢
        refine ⟨.slice (some ⟨σ.n, 0, none⟩) (n + 1) 1, ρ.set σ.n ⟨g, 0, cap'⟩, _, h, ?_, ?_, ?_⟩
        · exact .slice (RM.set_same _ _ _) hnc (.inr (by simp)) (by simp)
        · refine s.add s.fresh (fun i o li e r hv => ?_) (fun b hb' hlt => hb.block b hlt) ?_
          · obtain ⟨l, q1, q2⟩ := s.obj i o e
            rw [r] at q1
            injection q1 with q1
            subst q1
            have := q2.lt hv
            simp only
            omega
          · refine ⟨cur, 22, (0, 0), hg, by simp only; omega, by simp; omega, ?_, .inl rfl⟩
            intro j v hv
            rw [← htk, Nat.mul_one] at hv
            rw [List.getElem?_take] at hv
            split at hv
            · have hm : v ∈ zs.map encU := by
                rw [← htk, Nat.mul_one]
                exact List.mem_of_getElem? (by rw [List.getElem?_take]; rename_i hlt; rw [if_pos hlt]; exact hv)
              obtain ⟨x, _, rfl⟩ := List.mem_map.1 hm
              refine ⟨encU x, ?_, .int _ _, rfl⟩
              simp only [Nat.zero_add]
              rw [← Array.getElem?_toList]; exact hv
            · cases hv
        · refine ⟨RM.le_set _ s.fresh, hb.size, fun b h _ => hb.block b h, ?_, hb.os, hb.output⟩
          rintro b ⟨i, o, li, q1, q2, q3, q4⟩
          by_cases hi' : i = σ.n
          · subst hi'
            rw [RM.set_same] at q3
            injection q3 with q3
            subst q3
            exact .inr (by simp only at q4; omega)
          · rw [AS.set_ne _ _ hi'] at q1
            rw [RM.set_ne _ _ hi'] at q3
            exact .inl ⟨i, o, li, q1, q2, q3, q4⟩
end Go.AI
end
section
/- slices.Grow of the nil slice of bytes: an empty slice with room; no condition but the reach. -/
set_option linter.unusedVariables false
set_option linter.unusedSimpArgs false
namespace Go.AI
open Go.Proofs Go.RowKit Go.Lib Go.Shelf
theorem txInfo5 : (Try.prog.info? 5).map (fun i => (i.zero, i.size, i.bytes)) = some (some (.int .u8 0), 1, 1) := by kernel_rfl
set_option maxHeartbeats 2000000 in
set_option maxRecDepth 100000 in
theorem txGrow_room (w : World) : Calls Try.prog 40 #[.slice none 0 0, .int .i64 0] w fun e w' => e = .returned (.slice none 0 0) ∧ w' = w := by
  have mixed := Try.checked.mixed
  go_enter Try.func40, Try.ntmps40
  go_wp2
  go_ret
  exact ⟨rfl, rfl⟩
set_option maxHeartbeats 4000000 in
set_option maxRecDepth 100000 in
theorem txGrow_grow (n : Nat) (w : World) (hn : 0 < n) (hbig : n ≤ 1048576) :
    Calls Try.prog 40 #[.slice none 0 0, .int .i64 n] w fun e w' => ∃ c : Array Value, e = .returned (.slice (some ⟨w.heap.size, 0, none⟩) 0 c.size) ∧ w' = w.drew.alloc (.cells c 5) := by
  have mixed := Try.checked.mixed
  obtain ⟨i0, hi0, hz0, hz1, hz2⟩ := info_parts txInfo5
  have h1 : ¬ ((n : Int) < 0) := by omega
  have h2 : wrap64 (((0 : Nat) : Int) - ((0 : Nat) : Int)) = 0 := by unfold wrap64; omega
  have h3 : wrap64 ((n : Int) - 0) = (n : Int) := by unfold wrap64; omega
  have h4 : (n : Int) > 0 := by omega
  have hold : (Builtin.firstCells i0.size 0 (.slice none 0 0)).run Try.prog w.drew = .ok ([] : List Value).toArray w.drew := run_firstCells_none w.drew i0.size 0 0 0
  have hrz : ∀ ty, (Builtin.append_ #[25, 3] ty #[.slice none 0 0, .int .i64 n]).run Try.prog w =
      .ok (.slice (some ⟨w.heap.size, 0, none⟩) n (grownCap w n 0 5)) (w.drew.alloc (.cells ((#[] : Array Value) ++ Builtin.zeroCells (Value.int .u8 0).cells n ++ Builtin.zeroCells (Value.int .u8 0).cells (grownCap w n 0 5 - n)) 5)) := fun ty => by
    have h := Lib.run_append_grow_zeros w 25 3 ty 5 i0 (.int .u8 0) .i64 .i64 Try.underlying25 Try.underlying3 hi0 hz0 none 0 0 [] hold n (by omega) (by omega) (by omega) (by omega)
      (by rw [hz2]; omega)
      (by rw [hz2]; rw [Nat.zero_add]; exact growslice_fits hn (by omega))
    rw [Nat.zero_add] at h
    exact h
  have hGn : n ≤ grownCap w n 0 5 := grownCap_ge w _ _ _
  have hsize : ((#[] : Array Value) ++ Builtin.zeroCells (Value.int .u8 0).cells n ++ Builtin.zeroCells (Value.int .u8 0).cells (grownCap w n 0 5 - n)).size = grownCap w n 0 5 := by
    simp only [Array.size_append, size_zeroCells]
    simp [Value.cells]
    omega
  obtain ⟨G, hG⟩ : ∃ G, G = grownCap w n 0 5 := ⟨_, rfl⟩
  obtain ⟨C, hC⟩ : ∃ C, C = (#[] : Array Value) ++ Builtin.zeroCells (Value.int .u8 0).cells n ++ Builtin.zeroCells (Value.int .u8 0).cells (grownCap w n 0 5 - n) := ⟨_, rfl⟩
  rw [← hC] at hsize hrz
  rw [← hG] at hrz hGn hsize
  have hG63 : G ≤ 9223372036854775807 := by
    have := grownCap_le_maxLen w n 0 5 (by unfold maxLen; omega)
    rw [← hG] at this
    unfold maxLen at this
    omega
  clear hold hG hC
  subst hsize
  go_enter Try.func40, Try.ntmps40
  go_wp2_with (at_builtin; refine Lib.wpList_append_run _ rfl _ _ _ _ rfl _ _ rfl rfl _ _ (hrz _) ?_)
  all_goals (go_ret; exact ⟨C, rfl, rfl⟩)
end Go.AI
end
section
/- What is known of slices.AppendSeq and slices.Grow, for the abstract reckoning; no condition. -/
set_option maxRecDepth 4000
set_option linter.unusedVariables false
set_option linter.unusedSimpArgs false
namespace Go.AI
open Go.Proofs Go.RowKit Go.Maps Go.Shelf
/-- What is asked ahead of slices.Grow(nil, n). -/
def gGrow (args : List Value) (σ : AS) (K : Value → AS → Prop) : Prop :=
  match args with
  | [.slice none 0 _, .int .i64 (.ofNat n)] => match n with
    | 0 => K (.slice none 0 0) σ
    | n + 1 => req (n + 1 ≤ 1048576) <| newAt σ (.row .rw []) fun i σ => K (.slice (some ⟨i, 0, none⟩) 0 1) σ
  | _ => False
theorem grow_tri {args : List Value} {σ : AS} {K : Value → AS → Prop} (h : gGrow args σ K) : Tri Try.prog 40 args σ K := by
  unfold gGrow at h
  split at h
  case h_2 => exact h.elim
  case h_1 e0 n =>
    refine ⟨fun ρ w cargs hc s => ?_⟩
    rcases hc with _ | ⟨hv0, hc⟩
    rcases hc with _ | ⟨hv1, hc⟩
    cases hc
    cases hv0
    cases hv1
    have hent : (callFunc 40 ⟨[.slice none 0 0, .int .i64 (.ofNat n)]⟩).run Try.prog w = .ok (.enter 40 ⟨[.slice none 0 0, .int .i64 (.ofNat n)]⟩) w :=
      enters_of Try.func40 (by kernel_rfl) rfl _ _
    refine ⟨_, _, hent, ?_⟩
    cases n with
    | zero =>
      refine (txGrow_room w).mono ?_
      rintro e w' ⟨rfl, rfl⟩
      exact ⟨_, rfl, .slice none 0 0, ρ, σ, h, .nilslice 0, s, Step.refl _ _ _⟩
    | succ n =>
      obtain ⟨hn, h⟩ := req_iff.1 h
      refine (txGrow_grow (n + 1) w (by omega) hn).mono ?_
      rintro e w' ⟨c, rfl, rfl⟩
      refine ⟨_, rfl, ?_⟩
      obtain ⟨i, ρ', h1, h2, h3, h4⟩ := sim_new s (k := .rw) (cells := []) (c := c) (e := 5) (w' := w.drew.alloc (.cells c 5)) (by intro j v hv; simp at hv) (by simp) rfl rfl rfl h
      exact ⟨_, ρ', _, h1, .slice h2 (Nat.zero_le _) (.inl rfl) (by simp), h3, h4⟩
def txE : Ex := fun f => match Nat.beq f 48 with
  | true => some gAS
  | false => match Nat.beq f 40 with
    | true => some gGrow
    | false => none
theorem txE_sound : ∀ f g, txE f = some g → ∀ args σ K, g args σ K → Tri Try.prog f args σ K := by
  intro f g h args σ K hg
  unfold txE at h
  split at h
  · rename_i e
    injection h with h
    subst h
    obtain rfl := Nat.eq_of_beq_eq_true e
    exact as_tri hg
  · split at h
    · rename_i e
      injection h with h
      subst h
      obtain rfl := Nat.eq_of_beq_eq_true e
      exact grow_tri hg
    · cases h
end Go.AI
end
section
/- The page's example of the texts holds (reckoned by the kernel). -/
set_option maxRecDepth 1000000
set_option linter.unusedVariables false
set_option linter.unusedSimpArgs false
namespace Go.AI
open Go.Proofs
theorem noGoS : noGo Try.prog = true := by kernel_rfl
theorem tri_hard {f : Nat} {args : List Value} {σ : AS} {K : Value → AS → Prop} (h : callN Try.prog hints txE 60 f args σ K) : Tri Try.prog f args σ K :=
  callN_sound (E := txE) txE_sound Try.checked.mixed noGoS 60 f args σ K h
theorem live_run : callN Try.prog hints txE 60 9 [] AS.nil (fun v _ => v = .bool true) = (Value.bool true = .bool true) := by kernel_rfl
theorem live_tri : Tri Try.prog 9 [] AS.nil (fun v _ => v = .bool true) := tri_hard (by rw [live_run])
theorem c9live {σ : AS} {K : Value → AS → Prop} (hK : K (.bool true) σ) : Tri Try.prog 9 [] σ K :=
  tri_pure (R := fun v => v = .bool true) rfl live_tri (fun v h => by subst h; rfl) (fun v h => by subst h; exact hK)
end Go.AI
end
