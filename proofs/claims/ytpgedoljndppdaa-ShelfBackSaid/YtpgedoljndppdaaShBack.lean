/- ShelfBack: the law's function tells true, from what its callees do. -/
import Derived.Test.YtpgedoljndppdaaShPieces
import Derived.Test.YtpgedoljndppdaaShClose
import Derived.Test.YtpgedoljndppdaaShLive
set_option maxRecDepth 4000
set_option linter.unusedVariables false
set_option linter.unusedSimpArgs false
namespace Go.AI
open Go.Proofs
section
variable {σ : AS} {K : Value → AS → Prop}
theorem wrA_end : ∀ (ms A : List Int), wrA (A, A.length) ms = (A ++ ms, A.length + ms.length)
  | [], A => by simp [wrA]
  | c :: ms, A => by
    show wrA (setA A A.length c, A.length + 1) ms = _
    have e : setA A A.length c = A ++ [c] := by simp [setA]
    rw [e]
    have := wrA_end ms (A ++ [c])
    rw [List.length_append] at this
    simp only [List.length_cons, List.length_nil, Nat.zero_add] at this
    rw [this]
    simp
    omega
/-- The slice that holds these numbers. -/
def AllS (jr : Nat) (ys : List Int) (c : Option Addr) (ce : Nat) : Prop := nilOr c ce 1 = true ∧ (ys ≠ [] → c = some ⟨jr, 0, none⟩ ∧ ce = 1) ∧ (ys = [] → c = none)
theorem lds_zero {a : Addr} {G : List Value → Prop} (h : G []) : lds σ a 0 G := by
  unfold lds AS.cells
  simpa [pSome] using h
theorem src_mk {L : List (Nat × AObj)} {pa : Option Addr} {ms : List Int} {G : Nat → List Value → Prop} (H : Has σ L) (hin : ms = [] ∨ ∃ r k, pa = some ⟨r, 0, none⟩ ∧ (r, AObj.row k (cellsU ms)) ∈ L) (hG : G ms.length (cellsU ms)) :
    srcCells σ 1 (some (.slice pa ms.length 1)) G := by
  unfold srcCells
  simp only
  by_cases hm : ms = []
  · subst hm
    cases pa with
    | none => exact hG
    | some a => exact req_mk trivial (by simp only [List.length_nil, Nat.zero_mul]; exact lds_zero hG)
  · obtain ⟨r, k, rfl, hr⟩ := hin.resolve_left hm
    obtain ⟨q, hq⟩ := List.getElem?_of_mem hr
    refine req_mk trivial (lds_mk H q hq (by simp) ?_)
    rw [Nat.mul_one, List.drop_zero, List.take_of_length_le (by simp)]
    exact hG
theorem pushs_mk {L : List (Nat × AObj)} {jr : Nat} {ys ms : List Int} {c : Option Addr} {ce : Nat} {G : Sl → AS → Prop} (H : Has σ (rowL jr ys L)) (hs : AllS jr ys c ce) (hb : ys.length + ms.length ≤ 1099511627776)
    (hG : ∀ j' σ' c', Has σ' (rowL j' (ys ++ ms) L) → AllS j' (ys ++ ms) c' 1 → G ⟨c', ys.length + ms.length⟩ σ') : appendTo σ 1 4 ⟨c, ys.length⟩ (cellsU ms) ms.length G := by
  obtain ⟨hno, hne, hnil⟩ := hs
  cases ys with
  | nil =>
    obtain rfl := hnil rfl
    cases ms with
    | nil =>
      unfold appendTo
      refine req_mk (by simp) ?_
      exact hG 0 σ none H ⟨rfl, fun h => absurd rfl h, fun _ => rfl⟩
    | cons d t =>
      refine append_nil_mk H (by simp only [List.length_cons] at hb; omega) fun j' σ2 H2 => ?_
      have := hG j' σ2 (some ⟨j', 0, none⟩) H2 ⟨rfl, fun _ => ⟨rfl, rfl⟩, fun h => by cases h⟩
      simpa using this
  | cons d t =>
    obtain ⟨rfl, rfl⟩ := hne (by simp)
    refine append_mk (k := .rw) (cs := cellsU (d :: t)) H 0 rfl rfl (by omega) (by simp) fun j' σ2 H2 => ?_
    refine hG j' σ2 _ ?_ ⟨rfl, fun _ => ⟨rfl, rfl⟩, fun h => by cases h⟩
    have et : (cellsU (d :: t)).take ((d :: t).length * 1) = cellsU (d :: t) := by rw [Nat.mul_one]; exact List.take_of_length_le (by simp)
    rw [et, ← List.map_append] at H2
    exact H2
abbrev bkL (fi j oi x s st f : Nat) (w : Bool) (all : List Int) (n : Nat) (mode p rd wr : Int) (cn : Nat) (fr : List (Nat × AObj)) : List (Nat × AObj) := oneL fi j (enc w all) oi x s st f w 1048576 n n nmF mode p rd wr cn fr
def bkI (fi s st f : Nat) (a : Option Addr) (w more : Bool) (ps : List Pc) (fr : List (Nat × AObj)) (i : Nat) (r : Regs) (σ : AS) : Prop :=
  ∃ (j oi x jr n : Nat) (mode wr : Int) (cn : Nat) (all : List Int) (c : Option Addr) (ce : Nat), i ≤ ps.length ∧ all.length ≤ 1000 * i ∧ (∀ v ∈ all, 0 ≤ v ∧ v ≤ 4294967295) ∧ AllS jr all c ce ∧ 1 ≤ n ∧ n ≤ i + 1 ∧ mode ≠ 2 ∧
    r = [(0, some (.slice a ps.length 1)), (1, some (.bool w)), (2, some (.bool more)), (7, some (.slice c all.length ce)), (8, some (ptr s)), (10, some (i64 n)), (12, some (i64 i))] ∧
    Has σ (rowL jr all (bkL fi j oi x s st f w all n mode all.length 0 wr cn fr))
def bkJ (fi j oi x jr s st f : Nat) (w : Bool) (all : List Int) (c : Option Addr) (ce n cn : Nat) (fr : List (Nat × AObj)) (i : Nat) (r : Regs) (σ : AS) : Prop :=
  i ≤ all.length ∧ r = [(1, some (.bool w)), (7, some (.slice c all.length ce)), (8, some (ptr s)), (26, some (i64 n)), (28, some (i64 i))] ∧ Has σ (bkL fi j oi x s st f w all n 2 i i 0 cn (rowL jr all fr))
theorem row_mem {jr fi j : Nat} {ys bs : List Int} {op : Value} {mid fr : List (Nat × AObj)} {p : Nat × AObj} (h : p ∈ fr) : ∃ m : Nat, (rowL jr ys (fileL fi j bs op mid fr))[m]? = some p := by
  obtain ⟨P, hP⟩ := rowL_app jr ys
  rw [hP]
  obtain ⟨q, hq⟩ := List.getElem?_of_mem h
  obtain ⟨m, hm⟩ := fr_at (fi := fi) (j := j) (bs := bs) (op := op) (mid := mid) hq
  exact List.getElem?_of_mem (List.mem_append_right _ (List.mem_of_getElem? hm))
theorem fl_mem {fi j : Nat} {bs : List Int} {op : Value} {mid fr : List (Nat × AObj)} {p : Nat × AObj} (h : p ∈ fr) : ∃ m : Nat, (fileL fi j bs op mid fr)[m]? = some p := by
  obtain ⟨q, hq⟩ := List.getElem?_of_mem h
  exact fr_at hq
theorem rowL_mem {jr : Nat} {ys : List Int} {fr : List (Nat × AObj)} {p : Nat × AObj} (h : p ∈ fr) : p ∈ rowL jr ys fr := by
  obtain ⟨P, hP⟩ := rowL_app jr ys
  rw [hP]
  exact List.mem_append_right _ h
theorem back_law {a : Option Addr} {ps : List Pc} {w more : Bool} {fr : List (Nat × AObj)} (H : Has σ fr) (hin : ps = [] ∨ ∃ r, a = some ⟨r, 0, none⟩ ∧ (r, AObj.row .ro (ps.map Pc.cell)) ∈ fr) (hok : ∀ p ∈ ps, p.ok) (hpi : ∀ p ∈ ps, p.inp fr) :
    Tri Try.prog 3 [.slice a ps.length 1, .bool w, .bool more] σ RK2 := tri_in (by
  have hz23 : szOf Try.prog 23 = 1 := by kernel_rfl
  have hz : szOf Try.prog 32 = 1 := by kernel_rfl
  rw [s3]
  refine c9 H (by omega) (by omega) fun σ1 s f st H1 => ?_
  simp only [tTup_tup, pSome_some, tP_ptr, tI_int, List.getElem?_cons_zero, List.getElem?_cons_succ]
  refine c10 ?_
  simp only [tI_int, bne_self_eq_false, bm_false, ptrEq_some]
  refine bm_mk (fun _ => ?_) (fun hm => ?_)
  · refine c10 ?_
    simp only [tI_int, beq_self_eq_true, bm_true, Bool.not_false]
    refine c11 ?_
    simp only [tB_bool]
  have hm : ps.length ≤ 100 := by have := of_decide_eq_false hm; omega
  refine c12w_new (nm := nmF) H1 (by decide) (by decide) (by omega) (by omega) (fun v => rfl) fun σ2 fi oi x H2 => ?_
  simp only [tTup_tup, pSome_some, tP_ptr, tI_int, List.getElem?_cons_zero, List.getElem?_cons_succ]
  refine c10 ?_
  simp only [tI_int, bne_self_eq_false, bm_false]
  rw [show (0 : Int) + 1 = ((1 : Nat) : Int) from rfl] at H2 ⊢
  rw [← enc_nil w] at H2
  refine aloop (bkI fi s st f a w more ps fr) (fun i => ps.length - i) ?_ (a := 0) ⟨0, oi, x, 0, 1, 1, 0, 0, [], none, 0, by omega, by simp, by simp, ⟨rfl, fun h => absurd rfl h, fun _ => rfl⟩, by omega, by omega, by omega, rfl, H2⟩
  rintro i r σ3 X hX ⟨j, oi, x, jr, n, mode, wr, cn, all, c, ce, hi, hlen, hall, hs, hn1, hn2, hmode, rfl, H3⟩
  rw [s3l]
  have hel := enc_len w all
  refine bm_mk (fun h => ?_) (fun h => ?_)
  · have h : i < ps.length := by have := of_decide_eq_true h; omega
    obtain ⟨p, hp⟩ : ∃ p, ps[i]? = some p := ⟨ps[i], by simp [h]⟩
    have hpm := List.mem_of_getElem? hp
    obtain ⟨ri, rfl, hri⟩ := hin.resolve_left (fun e => by rw [e] at h; simp at h)
    have hcell : (ps.map Pc.cell)[i]? = some p.cell := by simp [hp]
    have hpok : p.ok := hok p hpm
    have hpin := hpi p hpm
    refine req_mk (by omega) (req_mk (by omega) ?_)
    simp only [pSome_some, hz23, add_none, Int.toNat_natCast, Nat.zero_add, Nat.mul_one]
    obtain ⟨mq, hmq⟩ := row_mem (jr := jr) (ys := all) (fi := fi) (j := j) (bs := enc w all) (op := .slice (some ⟨oi, 0, none⟩) 1 1) (mid := [(oi, .row .rw [ptr x]), (x, streamO (holdV w fi) (ptr fi) mode all.length 0 wr), (s, shelfO 1048576 n f st), (st, .map [{ key := i64 n, val := ptr x, born := cn }] (cn + 1)), (f, .map (ent1 nmF (ptr fi)) 1)]) hri
    refine ldc_mk H3 mq hmq hcell (tL_mk ?_)
    simp only
    refine bm_mk (fun _ => ?_) (fun hp1000 => ?_)
    · refine c11 ?_
      simp only [tB_bool]
    have hp1000 : p.l.length ≤ 1000 := by have := of_decide_eq_false hp1000; omega
    -- a piece is written, and kept
    have go : ∀ (n : Nat) (mode wr : Int) (cn oi x j : Nat) (σ4 : AS), 1 ≤ n → n ≤ i + 2 → mode ≠ 2 → Has σ4 (bkL fi j oi x s st f w all n mode all.length 0 wr cn (rowL jr all fr)) →
        ldc σ4 ⟨ri, i, none⟩ fun v51 => tL 1 v51 fun s52 => Tri Try.prog 14 [ptr s, i64 n, .slice s52.a s52.n 1] σ4 fun v53 σ54 => tI .i64 v53 fun n55 => Tri Try.prog 10 [.int .i64 n55] σ54 fun v56 σ57 => tI .i64 v56 fun n58 =>
          bmatch (n58 != 0) (RK2 (.bool false) σ57) (req ((0 : Int) ≤ i) (req ((i : Int) < ps.length) (ldc σ57 ⟨ri, i, none⟩ fun v60 => tL 1 v60 fun s61 => chk (nilOr c ce 1) (srcCells σ57 1 (some (.slice s61.a s61.n 1)) fun m62 new63 =>
            appendTo σ57 1 4 ⟨c, all.length⟩ new63 m62 fun s64 σ65 => X [(0, some (.slice (some ⟨ri, 0, none⟩) ps.length 1)), (1, some (.bool w)), (2, some (.bool more)), (7, some (.slice s64.a s64.n 1)), (8, some (ptr s)), (10, some (i64 n)), (12, some (.int .i64 (IntKind.wrap .i64 ((i : Int) + 1))))] σ65)))) := by
      intro n mode wr cn oi x j σ4 hn1 hn2 hmode H4
      obtain ⟨mq, hmq⟩ := fl_mem (fi := fi) (j := j) (bs := enc w all) (op := .slice (some ⟨oi, 0, none⟩) 1 1) (mid := [(oi, .row .rw [ptr x]), (x, streamO (holdV w fi) (ptr fi) mode all.length 0 wr), (s, shelfO 1048576 n f st), (st, .map [{ key := i64 n, val := ptr x, born := cn }] (cn + 1)), (f, .map (ent1 nmF (ptr fi)) 1)]) (rowL_mem (jr := jr) (ys := all) hri)
      refine ldc_mk H4 mq hmq hcell (tL_mk ?_)
      simp only
      have hinp : Inp p.a p.l (rowL jr all fr) := by
        rcases hpin with h | ⟨r, h1, h2⟩
        · exact .inl h
        · obtain ⟨q, hq⟩ := List.getElem?_of_mem (rowL_mem (jr := jr) (ys := all) h2)
          exact .inr ⟨r, .ro, q, h1, hq⟩
      refine c14g (p := all.length) (ms := p.l) H4 hmode hinp hpok (Nat.le_refl _) (by omega) (by omega) fun σ5 j5 H5 => ?_
      rw [wrA_end] at H5
      refine tI_mk (c10 (tI_mk ?_))
      simp only [bne_self_eq_false, bm_false]
      refine req_mk (by omega) (req_mk (by omega) ?_)
      obtain ⟨mq2, hmq2⟩ := fl_mem (fi := fi) (j := j5) (bs := enc w (all ++ p.l)) (op := .slice (some ⟨oi, 0, none⟩) 1 1) (mid := [(oi, .row .rw [ptr x]), (x, streamO (holdV w fi) (ptr fi) mode (all.length + p.l.length : Nat) 0 (IntKind.wrap .u32 (wr + IntKind.wrap .u32 p.l.length))), (s, shelfO 1048576 n f st), (st, .map [{ key := i64 n, val := ptr x, born := cn }] (cn + 1)), (f, .map (ent1 nmF (ptr fi)) 1)]) (rowL_mem (jr := jr) (ys := all) hri)
      refine ldc_mk H5 mq2 hmq2 hcell (tL_mk (chk_mk hs.1 ?_))
      simp only
      have H6 := row_out H5
      refine src_mk H6 ?_ ?_
      · rcases hpin with h | ⟨r, h1, h2⟩
        · exact .inl h
        · refine .inr ⟨r, .ro, h1, ?_⟩
          obtain ⟨m, hm⟩ := row_mem (jr := jr) (ys := all) (fi := fi) (j := j5) (bs := enc w (all ++ p.l)) (op := .slice (some ⟨oi, 0, none⟩) 1 1) (mid := [(oi, .row .rw [ptr x]), (x, streamO (holdV w fi) (ptr fi) mode (all.length + p.l.length : Nat) 0 (IntKind.wrap .u32 (wr + IntKind.wrap .u32 p.l.length))), (s, shelfO 1048576 n f st), (st, .map [{ key := i64 n, val := ptr x, born := cn }] (cn + 1)), (f, .map (ent1 nmF (ptr fi)) 1)]) h2
          exact List.mem_of_getElem? hm
      refine pushs_mk H6 hs (by omega) fun j' σ7 c' H7 hs' => ?_
      rw [wrap64 (by omega) (by omega)]
      have el : all.length + p.l.length = (all ++ p.l).length := by simp
      rw [el] at H7 ⊢
      refine hX (i + 1) _ _ (by omega) ⟨j5, oi, x, j', n, mode, _, cn, all ++ p.l, c', 1, by omega, by rw [List.length_append]; omega, ?_, hs', by omega, by omega, hmode, rfl, H7⟩
      intro v hv
      rcases List.mem_append.1 hv with h | h
      · exact hall v h
      · exact hpok v h
    have now : req ((0 : Int) ≤ i) (req ((i : Int) < ps.length) (ldc σ3 ⟨ri, i, none⟩ fun v51 => tL 1 v51 fun s52 => Tri Try.prog 14 [ptr s, i64 n, .slice s52.a s52.n 1] σ3 fun v53 σ54 => tI .i64 v53 fun n55 => Tri Try.prog 10 [.int .i64 n55] σ54 fun v56 σ57 => tI .i64 v56 fun n58 =>
          bmatch (n58 != 0) (RK2 (.bool false) σ57) (req ((0 : Int) ≤ i) (req ((i : Int) < ps.length) (ldc σ57 ⟨ri, i, none⟩ fun v60 => tL 1 v60 fun s61 => chk (nilOr c ce 1) (srcCells σ57 1 (some (.slice s61.a s61.n 1)) fun m62 new63 =>
            appendTo σ57 1 4 ⟨c, all.length⟩ new63 m62 fun s64 σ65 => X [(0, some (.slice (some ⟨ri, 0, none⟩) ps.length 1)), (1, some (.bool w)), (2, some (.bool more)), (7, some (.slice s64.a s64.n 1)), (8, some (ptr s)), (10, some (i64 n)), (12, some (.int .i64 (IntKind.wrap .i64 ((i : Int) + 1))))] σ65))))) ) :=
      req_mk (by omega) (req_mk (by omega) (go n mode wr cn oi x j σ3 hn1 (by omega) hmode (row_in H3)))
    rw [hz]
    refine bm_mk (fun hmore => ?_) (fun _ => now)
    refine bm_mk (fun _ => ?_) (fun _ => now)
    refine c13f (row_in H3) fun σ4 H4 => ?_
    simp only [tTup_tup, pSome_some, tI_int, tL_nil, List.getElem?_cons_zero, List.getElem?_cons_succ]
    refine c12a_old (nm := nmF) H4 (by decide) (by decide) (by omega) (by omega) (by omega) (fun v => rfl) fun σ5 oi5 x5 H5 => ?_
    simp only [tTup_tup, pSome_some, tI_int, tL_nil, List.getElem?_cons_zero, List.getElem?_cons_succ]
    refine c10 (tI_mk (c10 (tI_mk ?_)))
    have e0 : (IntKind.wrap .i64 ((0 : Int) + 0) != 0) = false := by decide
    rw [e0]
    simp only [bm_false]
    rw [enc_size, show (n : Int) + 1 = ((n + 1 : Nat) : Int) from rfl] at H5
    exact req_mk (by omega) (req_mk (by omega) (go (n + 1) 5 0 (cn + 1) oi5 x5 j σ5 (by omega) (by omega) (by omega) H5))
  · have HA := row_in H3
    refine c15g (q := 1) (qs := 2) (qm := 3) (w := w) HA rfl rfl rfl (findN n x cn) (by omega) fun σ4 H4 => ?_
    simp only [tTup_tup, pSome_some, tI_int, List.getElem?_cons_zero, List.getElem?_cons_succ]
    refine c13f H4 fun σ5 H5 => ?_
    simp only [tTup_tup, pSome_some, tI_int, tL_nil, List.getElem?_cons_zero, List.getElem?_cons_succ]
    refine c12r_old (nm := nmF) (w := w) H5 (by decide) (by decide) (by omega) (by omega) (fun v => rfl) fun σ6 oi6 x6 H6 => ?_
    simp only [tTup_tup, pSome_some, tI_int, List.getElem?_cons_zero, List.getElem?_cons_succ]
    refine c10 (tI_mk ?_)
    have e0 : (((0 : Nat) : Int) != 0) = false := by decide
    rw [enc_size]
    simp only [bne_self_eq_false, bm_false, e0]
    rw [show (n : Int) + 1 = ((n + 1 : Nat) : Int) from rfl] at H6 ⊢
    refine aloop (bkJ fi j oi6 x6 jr s st f w all c ce (n + 1) (cn + 1) fr) (fun i => all.length - i) ?_ (a := 0) ⟨by omega, rfl, H6⟩
    rintro k r σ7 X hX ⟨hk, rfl, H7⟩
    rw [s3k]
    have hby := enc_byte (w := w) hall
    refine bm_mk (fun h => ?_) (fun h => ?_)
    · have h : k < all.length := by have := of_decide_eq_true h; omega
      have hne : all ≠ [] := by intro e; rw [e] at h; simp at h
      obtain ⟨rfl, rfl⟩ := hs.2.1 hne
      obtain ⟨v, hv⟩ : ∃ v, all[k]? = some v := ⟨all[k], by simp [h]⟩
      have hvv := hall v (List.mem_of_getElem? hv)
      have hjm : (jr, AObj.row .rw (cellsU all)) ∈ rowL jr all fr := by rw [rowL_ne hne]; simp
      obtain ⟨mq, hmq⟩ := fl_mem (fi := fi) (j := j) (bs := enc w all) (op := .slice (some ⟨oi6, 0, none⟩) 1 1) (mid := [(oi6, .row .rw [ptr x6]), (x6, streamO (holdV w fi) (ptr fi) 2 k k 0), (s, shelfO 1048576 (n + 1 : Nat) f st), (st, .map [{ key := i64 (n + 1 : Nat), val := ptr x6, born := cn + 1 }] (cn + 1 + 1)), (f, .map (ent1 nmF (ptr fi)) 1)]) hjm
      refine req_mk (by omega) (req_mk (by omega) ?_)
      simp only [pSome_some, hz, add_none, Int.toNat_natCast, Nat.zero_add, Nat.mul_one]
      refine req_mk (by first | rfl | trivial) ?_
      refine ldc_mk H7 mq hmq (cellsU_get hv) (tI_mk ?_)
      have w1 : IntKind.wrap .u32 ((k : Int) + 1) = ((k + 1 : Nat) : Int) := by rw [Go.IntWalk.u32_in _ (by omega)]; rfl
      have read : ∀ {G : Value → AS → Prop}, (∀ σ', Has σ' (bkL fi j oi6 x6 s st f w all (n + 1) 2 (k + 1 : Nat) (k + 1 : Nat) 0 (cn + 1) (rowL jr all fr)) → G (.tuple ⟨[u32 (putC w v), .bool true, i64 0]⟩) σ') → Tri Try.prog 16 [ptr s, i64 (n + 1 : Nat)] σ7 G := by
        intro G hG
        refine c16g_more (p := k) (q := 1) (qs := 2) (qm := 3) (w := w) H7 rfl rfl rfl (findN _ x6 _) (by omega) hby (.inl rfl) (by rw [enc_size]; exact h) fun σ8 H8 => ?_
        rw [w1, show (k : Int) + 1 = ((k + 1 : Nat) : Int) from rfl] at H8
        rw [enc_view hv hvv.1 hvv.2]
        exact hG σ8 H8
      have fin : ∀ σ', Has σ' (bkL fi j oi6 x6 s st f w all (n + 1) 2 (k + 1 : Nat) (k + 1 : Nat) 0 (cn + 1) (rowL jr all fr)) → X [(1, some (.bool w)), (7, some (.slice (some ⟨jr, 0, none⟩) all.length 1)), (8, some (ptr s)), (26, some (i64 (n + 1 : Nat))), (28, some (i64 (IntKind.wrap .i64 ((k : Int) + 1))))] σ' := by
        intro σ' H'
        rw [wrap64 (by omega) (by omega)]
        exact hX (k + 1) _ _ (by omega) ⟨by omega, rfl, H'⟩
      cases w with
      | true =>
        simp only [Bool.not_true, bm_false]
        refine read fun σ8 H8 => ?_
        have ep : putC true v = v := rfl
        simp only [tTup_tup, pSome_some, tI_int, tB_bool, List.getElem?_cons_zero, List.getElem?_cons_succ, ep, bne_self_eq_false, bm_false, Bool.not_true]
        refine c10 (tI_mk ?_)
        simp only [bne_self_eq_false, bm_false]
        exact fin σ8 H8
      | false =>
        simp only [Bool.not_false, bm_true]
        refine bm_mk (fun hv255 => ?_) (fun hv255 => ?_)
        · have hv255 := of_decide_eq_true hv255
          refine read fun σ8 H8 => ?_
          have ep : putC false v = 63 := by simp [putC, hv255]
          simp only [tTup_tup, pSome_some, tI_int, tB_bool, List.getElem?_cons_zero, List.getElem?_cons_succ, ep, bne_self_eq_false, bm_false, Bool.not_true]
          refine c10 (tI_mk ?_)
          simp only [bne_self_eq_false, bm_false]
          exact fin σ8 H8
        · have hv255 := of_decide_eq_false hv255
          refine read fun σ8 H8 => ?_
          have ep : putC false v = v := by simp [putC, hv255]
          simp only [tTup_tup, pSome_some, tI_int, tB_bool, List.getElem?_cons_zero, List.getElem?_cons_succ, ep, bne_self_eq_false, bm_false, Bool.not_true]
          refine c10 (tI_mk ?_)
          simp only [bne_self_eq_false, bm_false]
          exact fin σ8 H8
    · have h : k = all.length := by have := of_decide_eq_false h; omega
      subst h
      refine c16g_end (q := 1) (qs := 2) (qm := 3) (w := w) H7 rfl rfl rfl (findN _ x6 _) (by omega) (.inl rfl) (by rw [enc_size]; exact Int.le_refl _) fun σ8 H8 => ?_
      simp only [tTup_tup, pSome_some, tI_int, tB_bool, List.getElem?_cons_zero, List.getElem?_cons_succ]
      refine c13f H8 fun σ9 H9 => ?_
      simp only [tTup_tup, pSome_some, tI_int, tL_nil, List.getElem?_cons_zero, List.getElem?_cons_succ, Bool.not_false, bm_true]
      refine c10 (tI_mk (c10 (tI_mk ?_)))
      have e1 : (IntKind.wrap .i64 ((0 : Int) + 0) == 0) = true := by decide
      have e2 : IntKind.wrap .i64 (all.length : Int) = all.length := wrap64 (by omega) (by omega)
      rw [e1, e2]
      simp only [bm_true, beq_self_eq_true]
      refine c11 ?_
      simp only [tB_bool])
end
end Go.AI
