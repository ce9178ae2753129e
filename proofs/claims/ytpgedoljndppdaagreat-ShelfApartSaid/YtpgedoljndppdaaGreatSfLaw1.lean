/- Lemmas of the abstract condition ahead of code (a part of the library that the claim's proof stands on); they hold with no condition but those that each names. -/
import Derived.Test.YtpgedoljndppdaaGreatSzLaw
set_option linter.unusedSimpArgs false
set_option linter.unusedVariables false
set_option maxRecDepth 10000
/- ShelfFull: no more bytes than were asked for; what is refused changes nothing. -/
namespace Go.AI
open Go.Proofs Go.Shelf Go.Sort
section
variable {σ : AS} {X fr : List (Nat × AObj)} {s w k : Nat} {most last n : Int} {F : List Fi} {S : List Sm} {l : List ActM} {a : Option Addr}
abbrev KTr : Value → AS → Prop := fun v _ => v = .bool true
theorem ref0 {σ : AS} (hP : PSt s n 0 [] [] ((w, refO n none 0 0 none 0 0 0) :: fr) σ) : JSt s w n 0 [] [] fr σ := by
  obtain ⟨g, hg, H⟩ := hP
  exact ⟨g, ⟨none, 0, [], [], none, 0, [], []⟩, hg, ⟨SlC.nil 0, SlC.nil 0, by simp, by simp⟩, rfl, rfl, H.sep (fun a => by simp only [cnt_app, cnt_cons, List.flatMap_nil, List.nil_append, RG.O, RG.R, List.length_nil]; omega)⟩
/-- The end: the bytes are counted; if it was refused, all is as it was. -/
theorem full_end {last' : Int} {F' : List Fi} {S' : List Sm} {Y : List (Nat × AObj)} {bad : Bool} {k' : Nat} (hP : PSt s n last' F' S' Y σ) (ok' : Ok n last' F' S' k') (hb : bad = true → JSt s w n last F S fr σ ∧ Ok n last F S k) :
    JoinS (jn Tryz.prog hintsS (Tri Tryz.prog) 3 [true, true, true, true, true, true, true, true, true, true] [] KTr) [(7, some (i64 n)), (8, some (ptr s)), (10, some (ptr w)), (14, some (.bool bad))] σ := by
  refine ⟨?_⟩
  rw [s3j1]
  have ht := ok'.tot
  have hm := ok'.most1
  cases bad with
  | false =>
    obtain ⟨g, hg, H⟩ := hP
    refine c11 hg H (by omega) fun σ1 H1 => ?_
    rw [tI_int]
    refine bmd_mk (fun _ => ?_) (fun h => absurd ht h)
    rw [Bool.not_false, bm_true]
    refine c6 ?_
    rw [tB_bool]
  | true =>
    obtain ⟨J, ok⟩ := hb rfl
    obtain ⟨h, hh, f1, f2, P1⟩ := J.prog
    obtain ⟨g, hg, H⟩ := P1
    have ht2 := ok.tot
    refine c11 hg H (by omega) fun σ1 H1 => ?_
    rw [tI_int]
    refine bmd_mk (fun _ => ?_) (fun h => absurd ht2 h)
    rw [Bool.not_true, bm_false]
    refine c17 (fr := fr) ⟨g, h, hg, hh, f1, f2, H1⟩ ok fun σ2 J2 => ?_
    rw [tB_bool, bm_true]
    refine c6 ?_
    rw [tB_bool]
theorem full_j {q1 : ActM} {i0 : Nat} (H : Has σ X) (hi0 : (i0, AObj.row .plain q1.cells) ∈ X) (ha : RdA a l X) (ho : ∀ q ∈ l, q.ok X) (h1 : q1.ok X) (hl : l.length ≤ 120) (hlen : ∀ q ∈ l, q.b.length ≤ 16384 ∧ q.l.length ≤ 16384) (hq : q1.b.length + q1.l.length ≤ 4096) (hn : 0 ≤ n ∧ n < 200) :
    JoinS (jn Tryz.prog hintsS (Tri Tryz.prog) 3 [true, true, true] [] KTr) [(1, some (.slice a l.length 9)), (5, some (ptr i0)), (7, some (i64 n))] σ := by
  refine ⟨?_⟩
  rw [s3j]
  refine c7 H (fun h => absurd ⟨by omega, by omega⟩ h) (fun _ σ1 s P1 => ?_)
  simp only [tI_int, tP_ptr, tTup_tup, pSome_some, bm_false, List.getElem?_cons_zero, List.getElem?_cons_succ, ptrEq_some]
  obtain ⟨g, hg, H1⟩ := P1
  refine c8 H1 (fun h => absurd ⟨by omega, by omega⟩ h) (fun _ σ2 w H2 => ?_)
  simp only [tI_int, tP_ptr, tTup_tup, pSome_some, List.getElem?_cons_zero, List.getElem?_cons_succ]
  refine c9 ?_
  rw [tI_int]
  refine bne_mk (fun h => absurd (by decide) h) (fun _ => ?_)
  have J0 : JSt s w n 0 [] [] X σ2 := ref0 ⟨g, hg, H2.sep (fun a => by simp only [cnt_app, cnt_cons]; omega)⟩
  have ok0 : Ok n 0 [] [] 0 := Ok.new (by omega) (by omega)
  refine aloop (fun (i : Nat) rg σ' => i ≤ l.length ∧ (∃ last F S, JSt s w n last F S X σ' ∧ Ok n last F S i) ∧ rg = [(1, some (.slice a l.length 9)), (5, some (ptr i0)), (7, some (i64 n)), (8, some (ptr s)), (10, some (ptr w)), (12, some (i64 i))]) (fun i => l.length - i) ?_ (a := 0) ⟨Nat.zero_le _, ⟨0, [], [], J0, ok0⟩, rfl⟩
  rintro i rg σ3 Y hY ⟨hi, ⟨last, F, S, J, ok⟩, rfl⟩
  rw [s3l]
  obtain ⟨g3, h3, hg3, hh3, f13, f23, H3⟩ := id J
  refine bmd_mk (fun hlt => ?_) (fun hge => ?_)
  · obtain ⟨q, hq'⟩ : ∃ q, l[i]? = some q := ⟨l[i]'(by omega), by simp⟩
    have hm := List.mem_of_getElem? hq'
    have hqo := ho q hm
    have hql := hlen q hm
    have nb : nilOr q.ba 1 1 = true := by unfold nilOr; rfl
    have nl : nilOr q.la 1 1 = true := by unfold nilOr; rfl
    refine rdA (X := (s, g3.O n last) :: (g3.R ++ ((w, h3.O n last) :: (h3.R ++ X)))) (ha.mono fun p hp => by simp [hp]) H3 hq' ?_
    simp only [ActM.cells, tL_ok_eq nb, tL_ok_eq nl, tI_int, tB_bool, tS_str, tCons_cons, tNil_nil]
    refine c10 J ok (by omega) hqo.hb hqo.hl hqo.b8 hqo.l32 hql.1 hql.2 hqo.ha fun σ4 last' F' S' J4 ok4 => ?_
    rw [tB_bool, Bool.not_true, bm_false]
    obtain ⟨h, hh, f1, f2, P4⟩ := J4.prog
    obtain ⟨g4, hg4, H4⟩ := P4
    have ht := ok4.tot
    have hm4 := ok4.most1
    refine c11 hg4 H4 (by omega) fun σ5 H5 => ?_
    rw [tI_int]
    refine bmd_mk (fun h => by omega) (fun _ => ?_)
    rw [wrap1 (by omega)]
    exact hY (i + 1) _ _ (by omega) ⟨by omega, ⟨last', F', S', ⟨g4, h, hg4, hh, f1, f2, H5⟩, ok4⟩, rfl⟩
  · have nb : nilOr q1.ba 1 1 = true := by unfold nilOr; rfl
    have nl : nilOr q1.la 1 1 = true := by unfold nilOr; rfl
    have hrow : σ3 i0 = some (.row .plain q1.cells) := J.at hi0
    rw [lds_eq hrow 0 9 (by simp)]
    simp only [List.drop_zero, List.take_succ_cons, List.take_zero, tCons_cons, tNil_nil, tL_ok_eq nb, tL_ok_eq nl, tI_int, tB_bool, tS_str, Nat.zero_add, tCons_cons, tNil_nil]
    have hlS : h3.S.length ≤ 64 := by
      have := ok.slen
      rw [← f23] at this
      simpa using this
    refine c12 (h := h3) (most := n) (last := last) (X := (s, g3.O n last) :: (g3.R ++ X)) (H3.sep (fun a => by simp only [cnt_app, cnt_cons, List.append_assoc]; omega)) hh3 hlS fun σ4 m H4 => ?_
    have P4 : PSt s n last F S ((w, h3.O n last) :: (h3.R ++ X)) σ4 := ⟨g3, hg3, H4.sep (fun a => by simp only [cnt_app, cnt_cons, List.append_assoc]; omega)⟩
    have r4 : σ4 i0 = some (.row .plain q1.cells) := P4.at (by simp [hi0])
    simp only [ldc_eq r4, ActM.cells, tL_ok_eq nb, tL_ok_eq nl, tI_int, tB_bool, tS_str, pSome_some, List.getElem?_cons_zero, List.getElem?_cons_succ]
    have hk : i + 1 ≤ 1024 := by omega
    have back : ∀ {σ'}, PSt s n last F S ((w, h3.O n last) :: (h3.R ++ X)) σ' → JSt s w n last F S X σ' := by
      rintro σ' ⟨g', hg', H'⟩
      exact ⟨g', h3, hg', hh3, f13, f23, H'⟩
    refine beq_mk (fun _ => ?_) (fun _ => ?_)
    · refine c13m P4 ok (h1.hb.z.mono fun p hp => by simp [hp]) (by omega) fun σ5 P5 => ?_
      simp only [tI_int]
      refine c9 ?_
      rw [tI_int]
      refine full_end (fr := X) (last := last) (F := F) (S := S) (k := i) P5 (ok.putO hk h1.b8) fun hb => ?_
      have hne : putE n F S q1.nm q1.b ≠ 0 := by simpa [Shelf.putO] using hb
      have e : (Shelf.putO n F S q1.nm q1.b).2 = F := by unfold Shelf.putO; simp only; rw [if_neg hne]
      rw [e] at P5
      exact ⟨back P5, ok⟩
    refine beq_mk (fun _ => ?_) (fun _ => ?_)
    · refine c14m P4 ok (h1.hl.mono fun p hp => by simp [hp]) h1.l32 (by omega) fun σ5 P5 => ?_
      rw [tI_int]
      refine c9 ?_
      rw [tI_int]
      refine full_end (fr := X) (last := last) (F := F) (S := S) (k := i) P5 (ok.wrO hk h1.l32 (by omega)) fun hb => ?_
      have hne : (Shelf.wrO n F S m q1.l).1 ≠ 0 := by simpa using hb
      have e : (Shelf.wrO n F S m q1.l).2.1 = F ∧ (Shelf.wrO n F S m q1.l).2.2 = S := by
        unfold Shelf.wrO at hne ⊢
        split
        · exact ⟨rfl, rfl⟩
        · rename_i x hx
          rw [hx] at hne
          simp only at hne
          split
          · rename_i h0
            rw [if_pos h0] at hne
            exact absurd rfl hne
          · exact ⟨rfl, rfl⟩
      rw [e.1, e.2] at P5
      exact ⟨back P5, ok⟩
    refine beq_mk (fun _ => ?_) (fun _ => ?_)
    · refine c15m P4 ok fun σ5 P5 => ?_
      simp only [tI_int, tTup_tup, pSome_some, List.getElem?_cons_zero, List.getElem?_cons_succ]
      refine c9 ?_
      rw [tI_int]
      refine full_end (fr := X) (last := last) (F := F) (S := S) (k := i) P5 (ok.opO hk) fun hb => ?_
      have hne : (Shelf.opO last F S q1.nm q1.mode q1.wide).e ≠ 0 := by simpa using hb
      have e : (Shelf.opO last F S q1.nm q1.mode q1.wide).last = last ∧ (Shelf.opO last F S q1.nm q1.mode q1.wide).F = F ∧ (Shelf.opO last F S q1.nm q1.mode q1.wide).S = S := by
        unfold Shelf.opO at hne ⊢
        split
        · rename_i h0
          rw [if_pos h0] at hne
          exact absurd rfl hne
        · exact ⟨rfl, rfl, rfl⟩
      rw [e.1, e.2.1, e.2.2] at P5
      exact ⟨back P5, ok⟩
    · refine c16m P4 ok.d h1.ha fun σ5 P5 => ?_
      rw [tI_int]
      refine c9 ?_
      rw [tI_int]
      refine full_end (fr := X) (last := last) (F := F) (S := S) (k := i) P5 (ok.skO hk) fun hb => ?_
      have hne : (Shelf.skO F S m q1.a q1.mode).1 ≠ 0 := by simpa using hb
      have e : (Shelf.skO F S m q1.a q1.mode).2 = S := by
        unfold Shelf.skO at hne ⊢
        split
        · rfl
        · rename_i x hx
          rw [hx] at hne
          simp only at hne
          split
          · rename_i h0
            rw [if_pos h0] at hne
            exact absurd rfl hne
          · rfl
      rw [e] at P5
      exact ⟨back P5, ok⟩
theorem full_law {q1 : ActM} (H : Has σ X) (ha : RdA a l X) (ho : ∀ q ∈ l, q.ok X) (h1 : q1.ok X) : Tri Tryz.prog 3 [i64 most, .slice a l.length 9, .agg ⟨q1.cells⟩] σ KTr := tri_in (by
  rw [s3]
  refine newAt_mk H fun i0 σ1 H1 => ?_
  have ha1 : RdA a l ((i0, AObj.row .plain q1.cells) :: X) := ha.mono fun p hp => List.mem_cons_of_mem _ hp
  have ho1 : ∀ q ∈ l, q.ok ((i0, AObj.row .plain q1.cells) :: X) := fun q hq => (ho q hq).mono fun p hp => List.mem_cons_of_mem _ hp
  have h11 : q1.ok ((i0, AObj.row .plain q1.cells) :: X) := h1.mono fun p hp => List.mem_cons_of_mem _ hp
  have live : ∀ σ' : AS, Tri Tryz.prog 6 [] σ' fun v5 σ6 => tB v5 fun b7 => KTr (.bool b7) σ6 := fun σ' => c6 (by rw [tB_bool])
  refine c5 H1 ha1 (fun q hq => ⟨(ho q hq).bl, (ho q hq).ll⟩) ?_ fun hl hlen => ?_
  · rw [tB_bool, bm_true]
    exact live _
  rw [tB_bool, bm_false]
  have nb : nilOr q1.ba 1 1 = true := by unfold nilOr; rfl
  have nl : nilOr q1.la 1 1 = true := by unfold nilOr; rfl
  have b1 := h1.bl
  have b2 := h1.ll
  simp only [ldc_eq (H1.at 0 rfl), tL_ok_eq nb, tL_ok_eq nl, pSome_some, List.getElem?_cons_zero, List.getElem?_cons_succ, Nat.zero_add]
  rw [wrap64 (by omega) (by omega)]
  refine bmd_mk (fun _ => live _) (fun hq => ?_)
  have t1 := Int.lt_tmod_of_pos most (b := 200) (by decide)
  have t2 := Int.tmod_lt_of_pos most (b := 200) (by decide)
  generalize Int.tmod most 200 = t at t1 t2
  refine bmd_mk (fun hneg => ?_) (fun hneg => ?_)
  · rw [wrap64 (by omega) (by omega)]
    exact full_j H1 (by simp) ha1 ho1 h11 hl hlen (by omega) ⟨by omega, by omega⟩
  · exact full_j H1 (by simp) ha1 ho1 h11 hl hlen (by omega) ⟨by omega, by omega⟩)
end
end Go.AI
