/- Streams on a file, narrow or wide: the characters that a file holds, write, open again, close. -/
import Derived.Test.YtpgedoljndppdaaShGen
set_option maxRecDepth 4000
set_option linter.unusedVariables false
set_option linter.unusedSimpArgs false
namespace Go.AI
open Go.Proofs
/-- The bytes that characters are. -/
def enc (w : Bool) (l : List Int) : List Int := match w with | true => flat4 l | false => l.map (putC false)
theorem enc_nil (w : Bool) : enc w [] = [] := by cases w <;> rfl
theorem enc_len (w : Bool) (l : List Int) : l.length ≤ (enc w l).length ∧ (enc w l).length ≤ 4 * l.length := by
  cases w with
  | true => simp only [enc]; rw [flat4_len]; omega
  | false => simp only [enc, List.length_map]; omega
theorem enc_size (w : Bool) (l : List Int) : sizeW w (enc w l) = l.length := by
  cases w with
  | true => simp only [enc, sizeW]; rw [flat4_len]; omega
  | false => simp only [enc, sizeW, List.length_map]
theorem enc_byte {w : Bool} {l : List Int} (h : ∀ c ∈ l, 0 ≤ c ∧ c ≤ 4294967295) : ∀ c ∈ enc w l, 0 ≤ c ∧ c < 256 := by
  cases w with
  | true => exact flat4_byte
  | false =>
    intro c hc
    simp only [enc] at hc
    obtain ⟨d, hd, rfl⟩ := List.mem_map.1 hc
    exact putC_byte (h d hd).1
theorem enc_view {w : Bool} {l : List Int} {p : Nat} {v : Int} (hv : l[p]? = some v) (h0 : 0 ≤ v) (h1 : v ≤ 4294967295) : viewAt w (enc w l) p = putC w v := by
  cases w with
  | true => simp only [enc, viewAt]; rw [flat4_at hv h0 h1]; rfl
  | false => simp [enc, viewAt, hv]
section
variable {σ : AS} {K : Value → AS → Prop}
theorem cput {w : Bool} {fi j i : Nat} {l : List Int} {op : Value} {mid fr : List (Nat × AObj)} {c : Int} (H : Has σ (fileL fi j (enc w l) op mid fr)) (hi : i ≤ l.length) (hl : l.length ≤ 274877906944) (hc : 0 ≤ c) (hc1 : c ≤ 4294967295)
    (hK : ∀ σ' j', Has σ' (fileL fi j' (enc w (setA l i c)) op mid fr) → K (.tuple ⟨[]⟩) σ') : Tri Try.prog (putF w) [hold fi, i64 i, u32 c] σ K := by
  have hn := enc_len w l
  cases w with
  | true =>
    refine c98 (i := i) (bs := flat4 l) H (by rw [flat4_len]; omega) (by rw [flat4_len]; omega) hc hc1 fun σ2 j2 H2 => ?_
    rw [put4_flat hi] at H2
    exact hK σ2 j2 H2
  | false =>
    refine c94 (i := i) (bs := l.map (putC false)) H (by simpa using hi) (by simp; omega) hc fun σ2 j2 H2 => ?_
    refine hK σ2 j2 ?_
    have e : putB (l.map (putC false)) i c = enc false (setA l i c) := by
      simp only [putB, setA, enc, List.length_map]
      split <;> simp [List.map_set]
    rw [← e]; exact H2
def unW (w : Bool) : Nat := match w with | true => 4 | false => 1
theorem enc_un (w : Bool) (l : List Int) : (enc w l).length = unW w * l.length := by
  cases w with
  | true => simp only [enc, unW]; rw [flat4_len]
  | false => simp [enc, unW]
theorem cmore {w : Bool} {fi j : Nat} {bs : List Int} {op : Value} {mid fr : List (Nat × AObj)} {i : Int} (H : Has σ (fileL fi j bs op mid fr)) (hl : bs.length ≤ 1099511627776) (h0 : 0 ≤ i) (h1 : i ≤ 1099511627776)
    (hK : ∀ σ', Has σ' (fileL fi j bs op mid fr) → K (i64 (max 0 (unW w * i - bs.length))) σ') : Tri Try.prog (moreF w) [hold fi, i64 i] σ K := by
  cases w with
  | true => exact c97 H hl h0 h1 hK
  | false =>
    refine c93 H hl h0 h1 fun σ' H' => ?_
    have := hK σ' H'
    have e : ((unW false : Nat) : Int) * i = i := by simp [unW]
    rw [e] at this
    exact this
variable {fi oi x s st f cn : Nat} {most last n : Int} {nm : ByteArray} {mode rd wr : Int} {fr : List (Nat × AObj)} {w : Bool}
def wrGI (w : Bool) (fi oi x s st f : Nat) (most last n : Int) (nm : ByteArray) (mode rd wr : Int) (cn : Nat) (q : List Int × Nat) (ia : Option Addr) (ms : List Int) (fr : List (Nat × AObj)) (i : Nat) (r : Regs) (σ : AS) : Prop :=
  i ≤ ms.length ∧ r = [(2, some (.slice ia ms.length 1)), (7, some (ptr x)), (60, some (.slice ia ms.length 1)), (61, some (i64 ms.length)), (62, some (i64 i))] ∧
    ∃ j, Has σ (oneL fi j (enc w (wrA q (ms.take i)).1) oi x s st f w most last n nm mode ((wrA q (ms.take i)).2 : Nat) rd wr cn fr)
theorem c14g {j p : Nat} {l ms : List Int} {ia : Option Addr} (H : Has σ (oneL fi j (enc w l) oi x s st f w most last n nm mode (p : Int) rd wr cn fr)) (hmode : mode ≠ 2) (hin : Inp ia ms fr) (hc : ∀ c ∈ ms, 0 ≤ c ∧ c ≤ 4294967295)
    (hp : p ≤ l.length) (hroom : 4 * (max l.length (p + ms.length) : Nat) ≤ most) (hmost : most ≤ 1048576)
    (hK : ∀ σ' j', Has σ' (oneL fi j' (enc w (wrA (l, p) ms).1) oi x s st f w most last n nm mode ((wrA (l, p) ms).2 : Nat) rd (IntKind.wrap .u32 (wr + IntKind.wrap .u32 ms.length)) cn fr) → K (i64 0) σ') :
    Tri Try.prog 14 [ptr s, i64 n, .slice ia ms.length 1] σ K := tri_in (by
  have hel := enc_len w l
  rw [s14]
  refine c29 (H.at 3 rfl) (H.at 4 rfl) (findN n x cn) ?_
  have hm2 : (mode != 2) = true := by simpa using hmode
  simp only [tTup_tup, pSome_some, tP_ptr, tI_int, List.getElem?_cons_zero, List.getElem?_cons_succ, bne_self_eq_false, bm_false]
  refine c32 (H.at 2 rfl) ?_
  rw [hm2]
  simp only [tB_bool, Bool.not_true, bm_false]
  have go : ∀ σ0, Has σ0 (oneL fi j (enc w l) oi x s st f w most last n nm mode (p : Int) rd wr cn fr) → ALoop (fl Try.prog hintsS (Tri Try.prog) 14 [true, true, true, false, true, false] [] K) [(2, some (.slice ia ms.length 1)), (7, some (ptr x)), (60, some (.slice ia ms.length 1)), (61, some (i64 ms.length)), (62, some (i64 0))] σ0 := by
    intro σ0 H0
    refine aloop (wrGI w fi oi x s st f most last n nm mode rd wr cn (l, p) ia ms fr) (fun i => ms.length - i) ?_ (a := 0) ⟨Nat.zero_le _, rfl, j, H0⟩
    rintro i r σ1 X hX ⟨hi, rfl, j1, H1⟩
    rw [s14l]
    refine bm_mk (fun h => ?_) (fun h => ?_)
    · have h : i < ms.length := by have := of_decide_eq_true h; omega
      obtain ⟨v, hv⟩ : ∃ v, ms[i]? = some v := ⟨ms[i], by simp [h]⟩
      have hne : ms ≠ [] := fun e => by rw [e] at h; simp at h
      obtain ⟨ri, k, q, rfl, hq⟩ := hin.resolve_left hne
      have hz : szOf Try.prog 32 = 1 := by kernel_rfl
      obtain ⟨m, hm⟩ := fr_at (fi := fi) (j := j1) (bs := enc w (wrA (l, p) (ms.take i)).1) (op := .slice (some ⟨oi, 0, none⟩) 1 1) (mid := [(oi, .row .rw [ptr x]), (x, streamO (holdV w fi) (ptr fi) mode ((wrA (l, p) (ms.take i)).2 : Nat) rd wr), (s, shelfO most last f st), (st, .map [{ key := i64 n, val := ptr x, born := cn }] (cn + 1)), (f, .map (ent1 nm (ptr fi)) 1)]) hq
      refine req_mk (by omega) (req_mk (by omega) ?_)
      simp only [pSome_some, hz, add_none, Int.toNat_natCast, Nat.mul_one, Nat.zero_add]
      refine ldc_mk H1 m hm (cellsU_get hv) (tI_mk ?_)
      refine ldc_mk H1 2 rfl rfl ?_
      simp only [holdV_eq, tIf_if]
      refine ldc_mk H1 2 rfl rfl (tI_mk ?_)
      simp only [meth_put_g, pSome_some]
      obtain ⟨g0, g1⟩ := hc v (List.mem_of_getElem? hv)
      have hst : wrA (l, p) (ms.take (i + 1)) = (setA (wrA (l, p) (ms.take i)).1 (wrA (l, p) (ms.take i)).2 v, (wrA (l, p) (ms.take i)).2 + 1) := by
        rw [List.take_add_one, hv]
        exact wrA_snoc _ _ _
      have hQp : (wrA (l, p) (ms.take i)).2 = p + i := by rw [wrA_place]; simp; omega
      have hQl : (wrA (l, p) (ms.take i)).1.length = max l.length (p + i) := by rw [wrA_len _ _ hp]; simp; omega
      generalize hQ : wrA (l, p) (ms.take i) = Q at H1 hst hQp hQl
      refine cput (w := w) (i := Q.2) H1 (by omega) (by omega) g0 g1 fun σ2 j2 H2 => ?_
      refine ldc_mk H2 2 rfl rfl (tI_mk (ldc_mk H2 2 rfl rfl ?_))
      simp only [holdV_eq, tIf_if, meth_size_g, pSome_some]
      have hlen : (setA Q.1 Q.2 v).length = max Q.1.length (Q.2 + 1) := setA_len (by omega)
      have hel2 := enc_len w (setA Q.1 Q.2 v)
      refine csize (w := w) H2 (by omega) fun σ3 H3 => tI_mk ?_
      refine ldc_mk H3 2 rfl rfl (tI_mk ⟨rfl, ?_⟩)
      refine put1_mk H3 2 rfl rfl (by simp) fun σ4 H4 => ?_
      rw [wrap64 (n := (i : Int) + 1) (by omega) (by omega)]
      refine hX (i + 1) _ _ (by omega) ⟨h, by simp, j2, ?_⟩
      rw [hst]
      have e : imin (IntKind.wrap .i64 ((Q.2 : Int) + 1)) ((sizeW w (enc w (setA Q.1 Q.2 v)) : Nat) : Int) = ((Q.2 + 1 : Nat) : Int) := by
        rw [enc_size, wrap64 (by omega) (by omega)]
        unfold imin
        rw [if_neg (by omega)]
        omega
      rw [e] at H4
      exact H4
    · have h : i = ms.length := by have := of_decide_eq_false h; omega
      subst h
      rw [List.take_length] at H1
      refine ldc_mk H1 2 rfl rfl (tI_mk ?_)
      exact put1_mk H1 2 rfl rfl (by simp) fun σ2 H2 => hK σ2 j1 H2
  refine bm_mk (fun hm0 => ?_) (fun _ => go σ H)
  refine ldc_mk H 2 rfl rfl ?_
  simp only [tP_ptr, ptrEq_some, Bool.not_false, bm_true, add_none]
  refine ldc_mk H 2 rfl rfl ?_
  simp only [holdV_eq, tIf_if]
  refine ldc_mk H 2 rfl rfl (tI_mk ?_)
  refine ldc_mk H 3 rfl rfl (tI_mk ?_)
  refine c24 (qs := 2) (qf := 4) H rfl rfl (by omega) fun σ1 H1 => tI_mk ?_
  refine ldc_mk H1 3 rfl rfl (tI_mk ⟨by first | rfl | trivial, by first | rfl | trivial, ?_⟩)
  refine ldc_mk H1 2 rfl rfl (tI_mk ⟨by first | rfl | trivial, ?_⟩)
  refine ldc_mk H1 2 rfl rfl ?_
  simp only [holdV_eq, tIf_if, meth_more_g, pSome_some]
  refine ⟨by first | rfl | trivial, ?_⟩
  rw [wrap64 (n := (p : Int) + ms.length) (by omega) (by omega)]
  refine cmore (w := w) (i := (p : Int) + ms.length) H1 (by omega) (by omega) (by omega) fun σ2 H2 => tI_mk ?_
  refine ldc_mk H2 3 rfl rfl (tI_mk ⟨by first | rfl | trivial, ?_⟩)
  refine bm_mk (fun hf => ?_) (fun _ => go σ2 H2)
  exfalso
  have hf := of_decide_eq_true hf
  have hu : unW w = 1 ∨ unW w = 4 := by cases w <;> simp [unW]
  have hun := enc_un w l
  rcases hu with hu | hu
  · rw [hu] at hf hun
    rw [wrap64 (by omega) (by omega)] at hf
    omega
  · rw [hu] at hf hun
    rw [wrap64 (by omega) (by omega)] at hf
    omega)

/-- One file, no stream. -/
abbrev oneZ (fi j : Nat) (bs : List Int) (oi s st f : Nat) (most last : Int) (nm : ByteArray) (cn : Nat) (fr : List (Nat × AObj)) : List (Nat × AObj) :=
  fileL fi j bs (.slice (some ⟨oi, 0, none⟩) 0 1) [(oi, .row .rw [.pointer none]), (s, shelfO most last f st), (st, .map [] cn), (f, .map (ent1 nm (ptr fi)) 1)] fr
theorem c12_fin {j : Nat} {bs : List Int} {mode place : Int} {σ5 : AS} (h0 : 0 ≤ last) (h1 : last ≤ 4611686018427387904) (H5 : Has σ5 ((x, streamO (holdV w fi) (ptr fi) mode place 0 0) :: oneZ fi j bs oi s st f most last nm cn fr))
    (hK : ∀ σ' oi, Has σ' (oneL fi j bs oi x s st f w most (last + 1) (last + 1) nm mode place 0 0 cn fr) → K (.tuple ⟨[i64 (last + 1), i64 0]⟩) σ') :
    ldc σ5 ⟨fi, 0 + 1, none⟩ fun v24 => tL 1 v24 fun s25 => newAt σ5 (.row .rw [ptr x]) fun i26 σ27 => lds σ27 ⟨i26, 0, none⟩ 1 fun l28 => appendTo σ27 1 8 ⟨s25.a, s25.n⟩ l28 1 fun s29 σ30 =>
        put1 σ30 ⟨fi, 0 + 1, none⟩ (.slice s29.a s29.n 1) fun σ32 => Tri Try.prog 28 [ptr s, ptr x] σ32 fun v33 σ34 => tI .i64 v33 fun n35 => K (.tuple ⟨[.int .i64 n35, i64 0]⟩) σ34 := by
  refine ldc_mk H5 1 rfl rfl (tL_ok rfl ?_)
  refine newAt_mk H5 fun i26 σ6 H6 => ?_
  refine lds_mk H6 0 rfl (by simp) ?_
  refine append_mk (n := 0) (m := 1) H6 3 rfl rfl (by omega) (by simp) fun oi' σ7 H7 => ?_
  have H7 : Has σ7 ((oi', .row .rw [ptr x]) :: (i26, .row .rw [ptr x]) :: (x, streamO (holdV w fi) (ptr fi) mode place 0 0) :: (fi, fileO j bs (.slice (some ⟨oi, 0, none⟩) 0 1)) :: (s, shelfO most last f st) :: (st, .map [] cn) :: (f, .map (ent1 nm (ptr fi)) 1) :: rowK .u8 j bs fr) := H7
  refine put1_mk H7 3 rfl rfl (by simp) fun σ8 H8 => ?_
  refine c28g H8 (qs := 4) (qm := 5) rfl rfl (by omega) h0 h1 rfl fun σ9 H9 => tI_mk ?_
  have G := H9.sub (L' := [(oi', .row .rw [ptr x]), (x, streamO (holdV w fi) (ptr fi) mode place 0 0)] ++ (fi, fileO j bs (.slice (some ⟨oi', 0, none⟩) 1 1)) :: ((s, shelfO most (last + 1) f st) :: (st, .map [{ key := i64 (last + 1), val := ptr x, born := cn }] (cn + 1)) :: (f, .map (ent1 nm (ptr fi)) 1) :: rowK .u8 j bs fr))
    (.cons_cons _ (.cons _ (.refl _)))
  exact hK σ9 oi' (G.perm (List.perm_middle (l₁ := [(oi', .row .rw [ptr x]), (x, streamO (holdV w fi) (ptr fi) mode place 0 0)]) (a := (fi, fileO j bs (.slice (some ⟨oi', 0, none⟩) 1 1))) (l₂ := (s, shelfO most (last + 1) f st) :: (st, .map [{ key := i64 (last + 1), val := ptr x, born := cn }] (cn + 1)) :: (f, .map (ent1 nm (ptr fi)) 1) :: rowK .u8 j bs fr)).symm)
theorem c12r_old {j : Nat} {bs : List Int} (H : Has σ (oneZ fi j bs oi s st f most last nm cn fr)) (n0 : 1 ≤ nm.size) (n1 : nm.size ≤ 32) (h0 : 0 ≤ last) (h1 : last ≤ 4611686018427387904)
    (hf1 : ∀ v, Instr.findNow .string (.string nm) (ent1 nm v) 0 = some (some (0, v)))
    (hK : ∀ σ' oi x, Has σ' (oneL fi j bs oi x s st f w most (last + 1) (last + 1) nm 2 0 0 0 cn fr) → K (.tuple ⟨[i64 (last + 1), i64 0]⟩) σ') : Tri Try.prog 12 [ptr s, .string nm, i64 2, .bool w] σ K := tri_in (by
  rw [s12r]
  refine c27r_old (H.at 2 rfl) (H.at 3 rfl) (H.at 4 rfl) (by simp) (by simp) n0 n1 (hf1 _) (H.at 0 rfl) rfl ?_
  simp only [tI_int, bne_self_eq_false, bm_false]
  refine ldc_mk H 2 rfl rfl ?_
  simp only [tM_map]
  refine mget_mk H 4 rfl (hf1 (ptr fi)) ?_
  simp only [Option.map, Option.getD, tP_ptr, ptrEq_some, bm_false]
  refine ldc_mk H 2 rfl rfl ?_
  simp only [tM_map]
  refine mget_mk H 4 rfl (hf1 (ptr fi)) ?_
  simp only [Option.map, Option.getD, tP_ptr, pSome_some]
  refine newAt_mk H fun x σ4 H4 => ?_
  cases w with
  | true =>
    simp only [bm_true]
    refine put1_mk H4 0 rfl rfl (by simp) fun σ5 H5 => ?_
    exact c12_fin (w := true) h0 h1 H5 fun σ' oi' H' => hK σ' oi' x H'
  | false =>
    simp only [bm_false]
    exact c12_fin (w := false) h0 h1 H4 fun σ' oi' H' => hK σ' oi' x H')
theorem c12a_old {j : Nat} {bs : List Int} (H : Has σ (oneZ fi j bs oi s st f most last nm cn fr)) (n0 : 1 ≤ nm.size) (n1 : nm.size ≤ 32) (h0 : 0 ≤ last) (h1 : last ≤ 4611686018427387904) (hl : bs.length ≤ 1099511627776)
    (hf1 : ∀ v, Instr.findNow .string (.string nm) (ent1 nm v) 0 = some (some (0, v)))
    (hK : ∀ σ' oi x, Has σ' (oneL fi j bs oi x s st f w most (last + 1) (last + 1) nm 5 (sizeW w bs) 0 0 cn fr) → K (.tuple ⟨[i64 (last + 1), i64 0]⟩) σ') : Tri Try.prog 12 [ptr s, .string nm, i64 5, .bool w] σ K := tri_in (by
  rw [s12a]
  refine c27a_old (H.at 2 rfl) (H.at 3 rfl) (H.at 4 rfl) (by simp) (by simp) n0 n1 (hf1 _) (H.at 0 rfl) rfl ?_
  simp only [tI_int, bne_self_eq_false, bm_false]
  refine ldc_mk H 2 rfl rfl ?_
  simp only [tM_map]
  refine mget_mk H 4 rfl (hf1 (ptr fi)) ?_
  simp only [Option.map, Option.getD, tP_ptr, ptrEq_some, bm_false]
  refine ldc_mk H 2 rfl rfl ?_
  simp only [tM_map]
  refine mget_mk H 4 rfl (hf1 (ptr fi)) ?_
  simp only [Option.map, Option.getD, tP_ptr, pSome_some]
  refine newAt_mk H fun x σ4 H4 => ?_
  cases w with
  | true =>
    simp only [bm_true]
    refine put1_mk H4 0 rfl rfl (by simp) fun σ5 H5 => ?_
    refine ldc_mk H5 0 rfl rfl ?_
    have hm : methodOf Try.prog 83 "grotto/shelf.size" = some (szF true) := meth_size_g true
    simp only [tIf_if, hm, pSome_some]
    have H5 : Has σ5 ([(x, streamO (holdV true fi) (ptr fi) 5 0 0 0)] ++ oneZ fi j bs oi s st f most last nm cn fr) := H5
    refine csize (w := true) (fl_in _ H5) hl fun σ6 H6 => tI_mk ?_
    refine put1_mk (fl_out _ H6) 0 rfl rfl (by simp) fun σ7 H7 => ?_
    exact c12_fin (w := true) h0 h1 H7 fun σ' oi' H' => hK σ' oi' x H'
  | false =>
    simp only [bm_false]
    refine ldc_mk H4 0 rfl rfl ?_
    have hm : methodOf Try.prog 78 "grotto/shelf.size" = some (szF false) := meth_size_g false
    simp only [tIf_if, hm, pSome_some]
    have H5 : Has σ4 ([(x, streamO (holdV false fi) (ptr fi) 5 0 0 0)] ++ oneZ fi j bs oi s st f most last nm cn fr) := H4
    refine csize (w := false) (fl_in _ H5) hl fun σ6 H6 => tI_mk ?_
    refine put1_mk (fl_out _ H6) 0 rfl rfl (by simp) fun σ7 H7 => ?_
    exact c12_fin (w := false) h0 h1 H7 fun σ' oi' H' => hK σ' oi' x H')
end
end Go.AI
