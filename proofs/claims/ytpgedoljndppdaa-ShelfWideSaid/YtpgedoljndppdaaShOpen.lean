/- A shelf's first file is opened. -/
import Derived.Test.YtpgedoljndppdaaShOne
set_option maxRecDepth 4000
set_option linter.unusedVariables false
set_option linter.unusedSimpArgs false
namespace Go.AI
open Go.Proofs
section
variable {σ : AS} {K : Value → AS → Prop}
theorem c28g {L : List (Nat × AObj)} {s x f st cn qs qm : Nat} {most last : Int} {es : List MapEntry} (H : Has σ L) (e1 : L[qs]? = some (s, shelfO most last f st)) (e2 : L[qm]? = some (st, .map es cn)) (hne : qs ≠ qm) (h0 : 0 ≤ last) (h1 : last ≤ 4611686018427387904)
    (hf : Instr.findNow (.int .i64) (i64 (last + 1)) es 0 = some none)
    (hK : ∀ σ', Has σ' ((L.set qs (s, shelfO most (last + 1) f st)).set qm (st, .map (es ++ [{ key := i64 (last + 1), val := ptr x, born := cn }]) (cn + 1))) → K (i64 (last + 1)) σ') : Tri Try.prog 28 [ptr s, ptr x] σ K := tri_in (by
  rw [s28]
  have hq : qs < L.length := (List.getElem?_eq_some_iff.1 e1).1
  refine ldc_mk H qs e1 rfl (tI_mk ?_)
  rw [wrap64 (by omega) (by omega)]
  refine put1_mk H qs e1 rfl (by simp) fun σ1 H1 => ?_
  have g1 : (L.set qs (s, AObj.row .plain ([i64 most, i64 last, .map (some f), .map (some st)].set (0 + 1) (.int .i64 (last + 1)))))[qs]? = some (s, shelfO most (last + 1) f st) := by
    rw [List.getElem?_set_self hq]; rfl
  have g2 : (L.set qs (s, AObj.row .plain ([i64 most, i64 last, .map (some f), .map (some st)].set (0 + 1) (.int .i64 (last + 1)))))[qm]? = some (st, .map es cn) := by
    rw [List.getElem?_set_ne hne]; exact e2
  refine ldc_mk H1 qs g1 rfl ?_
  simp only [tM_map]
  refine ldc_mk H1 qs g1 rfl (tI_mk ?_)
  simp only [pSome_some]
  refine mset_new_mk H1 qm g2 hf fun σ2 H2 => ?_
  refine ldc_mk H2 qs (by rw [List.getElem?_set_ne (fun e => hne e.symm)]; exact g1) rfl (tI_mk ?_)
  exact hK σ2 H2)
abbrev holdV (w : Bool) (fi : Nat) : Value := match w with | true => .iface 83 (hold fi) | false => .iface 78 (hold fi)
/-- One file, one stream on it. -/
abbrev oneL (fi j : Nat) (bs : List Int) (oi x s st f : Nat) (w : Bool) (most last n : Int) (nm : ByteArray) (mode place rd wr : Int) (cn : Nat) (fr : List (Nat × AObj)) : List (Nat × AObj) :=
  fileL fi j bs (.slice (some ⟨oi, 0, none⟩) 1 1) [(oi, .row .rw [ptr x]), (x, streamO (holdV w fi) (ptr fi) mode place rd wr), (s, shelfO most last f st), (st, .map [{ key := i64 n, val := ptr x, born := cn }] (cn + 1)), (f, .map (ent1 nm (ptr fi)) 1)] fr

theorem c12w_new {s f st cn : Nat} {most last : Int} {nm : ByteArray} {w : Bool} {fr : List (Nat × AObj)} (H : Has σ ((s, shelfO most last f st) :: (st, .map [] cn) :: (f, .map [] 0) :: fr)) (n0 : 1 ≤ nm.size) (n1 : nm.size ≤ 32) (h0 : 0 ≤ last) (h1 : last ≤ 4611686018427387904)
    (hf1 : ∀ v, Instr.findNow .string (.string nm) (ent1 nm v) 0 = some (some (0, v)))
    (hK : ∀ σ' fi oi x, Has σ' (oneL fi 0 [] oi x s st f w most (last + 1) (last + 1) nm 1 0 0 0 cn fr) → K (.tuple ⟨[i64 (last + 1), i64 0]⟩) σ') : Tri Try.prog 12 [ptr s, .string nm, i64 1, .bool w] σ K := tri_in (by
  rw [s12w]
  refine c27w_new (H.at 0 rfl) (H.at 1 rfl) (H.at 2 rfl) (by simp) (by simp) n0 n1 rfl ?_
  simp only [tI_int, bne_self_eq_false, bm_false]
  refine ldc_mk H 0 rfl rfl ?_
  simp only [tM_map]
  refine mget_mk (x := none) H 2 rfl rfl ?_
  simp only [Option.map, Option.getD, tP_ptr, ptrEq_none, bm_true]
  refine ldc_mk H 0 rfl rfl ?_
  simp only [tM_map]
  refine newAt_mk H fun fi σ1 H1 => ?_
  simp only [pSome_some]
  refine mset_new_mk H1 3 rfl rfl fun σ2 H2 => ?_
  refine ldc_mk H2 1 rfl rfl ?_
  simp only [tM_map]
  refine mget_mk H2 3 rfl (hf1 (ptr fi)) ?_
  simp only [Option.map, Option.getD, tP_ptr, pSome_some, add_none]
  refine put1_mk H2 0 rfl rfl (by simp) fun σ3 H3 => ?_
  refine newAt_mk H3 fun x σ4 H4 => ?_
  have fin : ∀ σ5, Has σ5 ((x, streamO (holdV w fi) (ptr fi) 1 0 0 0) :: (fi, .row .plain [.slice none 0 0, .slice none 0 0]) :: (s, shelfO most last f st) :: (st, .map [] cn) :: (f, .map (ent1 nm (ptr fi)) 1) :: fr) →
      ldc σ5 ⟨fi, 0 + 1, none⟩ fun v24 => tL 1 v24 fun s25 => newAt σ5 (.row .rw [ptr x]) fun i26 σ27 => lds σ27 ⟨i26, 0, none⟩ 1 fun l28 => appendTo σ27 1 8 ⟨s25.a, s25.n⟩ l28 1 fun s29 σ30 =>
        put1 σ30 ⟨fi, 0 + 1, none⟩ (.slice s29.a s29.n 1) fun σ32 => Tri Try.prog 28 [ptr s, ptr x] σ32 fun v33 σ34 => tI .i64 v33 fun n35 => K (.tuple ⟨[.int .i64 n35, i64 0]⟩) σ34 := by
    intro σ5 H5
    refine ldc_mk H5 1 rfl rfl (tL_ok rfl ?_)
    refine newAt_mk H5 fun i26 σ6 H6 => ?_
    refine lds_mk H6 0 rfl (by simp) ?_
    refine append_nil_mk H6 (by omega) fun oi σ7 H7 => ?_
    refine put1_mk H7 3 rfl rfl (by simp) fun σ8 H8 => ?_
    refine c28g H8 (qs := 4) (qm := 5) rfl rfl (by omega) h0 h1 rfl fun σ9 H9 => tI_mk ?_
    have G := H9.sub (L' := [(oi, .row .rw [ptr x]), (x, streamO (holdV w fi) (ptr fi) 1 0 0 0)] ++ (fi, .row .plain [.slice none 0 0, .slice (some ⟨oi, 0, none⟩) 1 1]) :: ((s, shelfO most (last + 1) f st) :: (st, .map [{ key := i64 (last + 1), val := ptr x, born := cn }] (cn + 1)) :: (f, .map (ent1 nm (ptr fi)) 1) :: fr))
      (.cons_cons _ (.cons _ (.refl _)))
    exact hK σ9 fi oi x (G.perm (List.perm_middle (l₁ := [(oi, .row .rw [ptr x]), (x, streamO (holdV w fi) (ptr fi) 1 0 0 0)]) (a := (fi, .row .plain [.slice none 0 0, .slice (some ⟨oi, 0, none⟩) 1 1])) (l₂ := (s, shelfO most (last + 1) f st) :: (st, .map [{ key := i64 (last + 1), val := ptr x, born := cn }] (cn + 1)) :: (f, .map (ent1 nm (ptr fi)) 1) :: fr)).symm)
  cases w with
  | true =>
    simp only [bm_true]
    refine put1_mk H4 0 rfl rfl (by simp) fun σ5 H5 => ?_
    exact fin σ5 H5
  | false =>
    simp only [bm_false]
    exact fin σ4 H4)
theorem c12b_new {s f st cn : Nat} {most last : Int} {nm : ByteArray} {w : Bool} {fr : List (Nat × AObj)} (H : Has σ ((s, shelfO most last f st) :: (st, .map [] cn) :: (f, .map [] 0) :: fr)) (n0 : 1 ≤ nm.size) (n1 : nm.size ≤ 32) (h0 : 0 ≤ last) (h1 : last ≤ 4611686018427387904)
    (hf1 : ∀ v, Instr.findNow .string (.string nm) (ent1 nm v) 0 = some (some (0, v)))
    (hK : ∀ σ' fi oi x, Has σ' (oneL fi 0 [] oi x s st f w most (last + 1) (last + 1) nm 3 0 0 0 cn fr) → K (.tuple ⟨[i64 (last + 1), i64 0]⟩) σ') : Tri Try.prog 12 [ptr s, .string nm, i64 3, .bool w] σ K := tri_in (by
  rw [s12b]
  refine c27b_new (H.at 0 rfl) (H.at 1 rfl) (H.at 2 rfl) (by simp) (by simp) n0 n1 rfl ?_
  simp only [tI_int, bne_self_eq_false, bm_false]
  refine ldc_mk H 0 rfl rfl ?_
  simp only [tM_map]
  refine mget_mk (x := none) H 2 rfl rfl ?_
  simp only [Option.map, Option.getD, tP_ptr, ptrEq_none, bm_true]
  refine ldc_mk H 0 rfl rfl ?_
  simp only [tM_map]
  refine newAt_mk H fun fi σ1 H1 => ?_
  simp only [pSome_some]
  refine mset_new_mk H1 3 rfl rfl fun σ2 H2 => ?_
  refine ldc_mk H2 1 rfl rfl ?_
  simp only [tM_map]
  refine mget_mk H2 3 rfl (hf1 (ptr fi)) ?_
  simp only [Option.map, Option.getD, tP_ptr, pSome_some, add_none]
  refine newAt_mk H2 fun x σ4 H4 => ?_
  have fin : ∀ σ5, Has σ5 ((x, streamO (holdV w fi) (ptr fi) 3 0 0 0) :: (fi, .row .plain [.slice none 0 0, .slice none 0 0]) :: (s, shelfO most last f st) :: (st, .map [] cn) :: (f, .map (ent1 nm (ptr fi)) 1) :: fr) →
      ldc σ5 ⟨fi, 0 + 1, none⟩ fun v24 => tL 1 v24 fun s25 => newAt σ5 (.row .rw [ptr x]) fun i26 σ27 => lds σ27 ⟨i26, 0, none⟩ 1 fun l28 => appendTo σ27 1 8 ⟨s25.a, s25.n⟩ l28 1 fun s29 σ30 =>
        put1 σ30 ⟨fi, 0 + 1, none⟩ (.slice s29.a s29.n 1) fun σ32 => Tri Try.prog 28 [ptr s, ptr x] σ32 fun v33 σ34 => tI .i64 v33 fun n35 => K (.tuple ⟨[.int .i64 n35, i64 0]⟩) σ34 := by
    intro σ5 H5
    refine ldc_mk H5 1 rfl rfl (tL_ok rfl ?_)
    refine newAt_mk H5 fun i26 σ6 H6 => ?_
    refine lds_mk H6 0 rfl (by simp) ?_
    refine append_nil_mk H6 (by omega) fun oi σ7 H7 => ?_
    refine put1_mk H7 3 rfl rfl (by simp) fun σ8 H8 => ?_
    refine c28g H8 (qs := 4) (qm := 5) rfl rfl (by omega) h0 h1 rfl fun σ9 H9 => tI_mk ?_
    have G := H9.sub (L' := [(oi, .row .rw [ptr x]), (x, streamO (holdV w fi) (ptr fi) 3 0 0 0)] ++ (fi, .row .plain [.slice none 0 0, .slice (some ⟨oi, 0, none⟩) 1 1]) :: ((s, shelfO most (last + 1) f st) :: (st, .map [{ key := i64 (last + 1), val := ptr x, born := cn }] (cn + 1)) :: (f, .map (ent1 nm (ptr fi)) 1) :: fr))
      (.cons_cons _ (.cons _ (.refl _)))
    exact hK σ9 fi oi x (G.perm (List.perm_middle (l₁ := [(oi, .row .rw [ptr x]), (x, streamO (holdV w fi) (ptr fi) 3 0 0 0)]) (a := (fi, .row .plain [.slice none 0 0, .slice (some ⟨oi, 0, none⟩) 1 1])) (l₂ := (s, shelfO most (last + 1) f st) :: (st, .map [{ key := i64 (last + 1), val := ptr x, born := cn }] (cn + 1)) :: (f, .map (ent1 nm (ptr fi)) 1) :: fr)).symm)
  cases w with
  | true =>
    simp only [bm_true]
    refine put1_mk H4 0 rfl rfl (by simp) fun σ5 H5 => ?_
    exact fin σ5 H5
  | false =>
    simp only [bm_false]
    exact fin σ4 H4)
end
end Go.AI
