/- TextTables's law: both lay the same tables, both pack the same texts; no condition. -/
import Derived.Test.YtfjbhgldbgamhaaTyRef
set_option maxRecDepth 10000
set_option linter.unusedVariables false
set_option linter.unusedSimpArgs false
namespace Go.AI
open Go.Proofs
open Go.Tab (nodeU branchU tabU packT packE alphE U)
theorem tby4_byte {x : Int} : ∀ c ∈ Go.Tab.by4 x, 0 ≤ c ∧ c < 256 := by4_byte (x := x)
theorem nodeU_byte : ∀ (f : Nat) (t : Int) (l : List Int), (∀ c ∈ l, 0 ≤ c) → ∀ c ∈ nodeU f t l, 0 ≤ c ∧ c < 256
  | 0, t, l, _, c, h => by simp [nodeU] at h; omega
  | f + 1, t, [], _, c, h => by simp [nodeU] at h; omega
  | f + 1, t, [d], hl, c, h => by
    have h : c ∈ Go.Tab.leafB d := h
    have hd := hl d (by simp)
    unfold Go.Tab.leafB at h
    split at h
    · simp at h; rcases h with rfl | rfl <;> omega
    · rcases List.mem_cons.1 h with rfl | h
      · omega
      · exact tby4_byte c h
  | f + 1, t, a :: b :: r, hl, c, h => by
    have h2 : 2 ≤ (a :: b :: r).length := by simp
    rw [nodeU_two h2] at h
    generalize a :: b :: r = l at *
    unfold Go.Tab.branchU at h
    simp only [List.mem_cons, List.mem_append] at h
    rcases h with rfl | ((h | h) | h) | h
    · omega
    · exact tby4_byte c h
    · exact tby4_byte c h
    · exact nodeU_byte f _ _ (fun c hc => hl c (List.mem_of_mem_take hc)) c h
    · exact nodeU_byte f _ _ (fun c hc => hl c (List.mem_of_mem_drop hc)) c h
theorem tabU_byte {t : Int} {l : List Int} (hl : ∀ c ∈ l, 0 ≤ c) : ∀ c ∈ tabU t l, 0 ≤ c ∧ c < 256 := by
  intro c h
  unfold Go.Tab.tabU at h
  simp only [List.mem_cons, List.mem_append, List.not_mem_nil, or_false] at h
  rcases h with (((h | h) | h) | h | (h | h) | h) | h
  all_goals first | exact tby4_byte c h | exact nodeU_byte _ _ _ hl c h | omega
theorem packT_byte {xs l : List Int} : ∀ c ∈ packT xs l, 0 ≤ c ∧ c < 256 := by
  intro c h
  unfold Go.Tab.packT Go.Tab.packU at h
  rcases List.mem_cons.1 h with rfl | h
  · omega
  · obtain ⟨j, _, rfl⟩ := List.mem_map.1 h
    exact Go.Tab.byteAt_range (Go.Tab.bitsU_bit xs l) j
section
variable {σ : AS} {K : Value → AS → Prop} {L : List (Nat × AObj)}
theorem copyU_mk {i : Nat} {pa : Option Addr} {ms : List Int} {G : Sl → AS → Prop} (H : Has σ L) (hin : InU pa ms L) (hb : ms.length ≤ 300)
    (hG : ∀ j σ', Has σ' ((j, .row .rw (cellsU ms)) :: L) → G ⟨some ⟨j, 0, none⟩, ms.length⟩ σ') :
    newAt σ (.row .rw []) fun i σ1 => srcCells σ1 1 (some (.slice pa ms.length 1)) fun m new => appendTo σ1 1 4 ⟨some ⟨i, 0, none⟩, 0⟩ new m G := by
  refine newAt_mk H fun i σ1 H1 => src_mk H1 (hin.mono fun p h => List.mem_cons_of_mem _ h) ?_
  refine append_mk (k := .rw) (cs := []) H1 0 rfl rfl (by omega) (by simp) fun j σ2 H2 => ?_
  have := hG j σ2 (by simpa using H2)
  simpa using this
abbrev RTb : Value → AS → Prop := fun v _ => v = .bool true
theorem tab_law {t : Int} {a u : Option Addr} {xs l : List Int} (H : Has σ L) (ha : InU a xs L) (hu : InU u l L) (hc : ∀ c ∈ xs, 0 ≤ c ∧ c ≤ 4294967295) : Tri Try.prog 3 [u32 t, .slice a xs.length 1, .slice u l.length 1] σ RTb := tri_inT (by
  have live : ∀ {σ : AS}, Tri Try.prog 9 [] σ fun v0 σ1 => tB v0 fun b2 => RTb (.bool b2) σ1 := c9live (by simp only [tB_bool])
  rw [s3]
  refine bmd_mk (fun _ => live) (fun h1 => bmd_mk (fun _ => live) (fun h2 => ?_))
  have hx : xs.length ≤ 300 := by omega
  have hl : l.length ≤ 300 := by omega
  refine copyU_mk (i := 0) H ha hx fun j1 σ1 H1 => ?_
  refine copyU_mk (i := 0) H1 (hu.mono fun p h => List.mem_cons_of_mem _ h) hl fun j2 σ2 H2 => ?_
  simp only
  -- the copies
  have A1 : ∀ {new : List (Nat × AObj)}, InU (some ⟨j1, 0, none⟩) xs (new ++ ((j2, .row .rw (cellsU l)) :: (j1, .row .rw (cellsU xs)) :: L)) := .inr ⟨j1, .rw, rfl, by simp⟩
  have A2 : ∀ {new : List (Nat × AObj)}, InU (some ⟨j2, 0, none⟩) l (new ++ ((j2, .row .rw (cellsU l)) :: (j1, .row .rw (cellsU xs)) :: L)) := .inr ⟨j2, .rw, rfl, by simp⟩
  have B1 : ∀ {new : List (Nat × AObj)}, InU a xs (new ++ ((j2, .row .rw (cellsU l)) :: (j1, .row .rw (cellsU xs)) :: L)) := fun {new} => ha.mono fun p h => by simp [h]
  have B2 : ∀ {new : List (Nat × AObj)}, InU u l (new ++ ((j2, .row .rw (cellsU l)) :: (j1, .row .rw (cellsU xs)) :: L)) := fun {new} => hu.mono fun p h => by simp [h]
  generalize hL : (j2, AObj.row .rw (cellsU l)) :: (j1, .row .rw (cellsU xs)) :: L = M at *
  -- the end: the lists stay
  have fin : ∀ {σ : AS} {new : List (Nat × AObj)}, Has σ (new ++ M) → Tri Try.prog 16 [.slice (some ⟨j1, 0, none⟩) xs.length 1, .slice a xs.length 1] σ fun v62 σ63 => tB v62 fun b64 => bmatch b64
      (Tri Try.prog 16 [.slice (some ⟨j2, 0, none⟩) l.length 1, .slice u l.length 1] σ63 fun v65 σ66 => tB v65 fun b67 => bmatch b67 (Tri Try.prog 9 [] σ66 fun v68 σ69 => tB v68 fun b70 => RTb (.bool b70) σ69) (RTb (.bool false) σ66)) (RTb (.bool false) σ63) := by
    intro σ new H
    refine c16 H A1 B1 (by omega) ?_
    simp only [tB_bool, bm_true]
    refine c16 H A2 B2 (by omega) ?_
    simp only [tB_bool, bm_true]
    exact live
  -- the packed texts
  have packs : ∀ {σ : AS} {new : List (Nat × AObj)} {G : Int → Sl → Int → Sl → AS → Prop}, Has σ (new ++ M) →
      (∀ σ' new', packE xs l ≠ 0 → Has σ' (new' ++ (new ++ M)) → G (packE xs l) ⟨none, 0⟩ (packE xs l) ⟨none, 0⟩ σ') →
      (∀ σ' s s' new', packE xs l = 0 → Has σ' (new' ++ (new ++ M)) → In8 s (packT xs l) new' → In8 s' (packT xs l) new' → G 0 ⟨s, (packT xs l).length⟩ 0 ⟨s', (packT xs l).length⟩ σ') →
      Tri Try.prog 12 [.slice (some ⟨j1, 0, none⟩) xs.length 1, .slice (some ⟨j2, 0, none⟩) l.length 1] σ fun v34 σ35 => tTup v34 fun l36 => pSome l36[0]? fun u37 => tL 1 u37 fun s38 => tTup v34 fun l39 => pSome l39[1]? fun u40 => tI .i64 u40 fun n41 =>
        Tri Try.prog 13 [.slice a xs.length 1, .slice u l.length 1] σ35 fun v42 σ43 => tTup v42 fun l44 => pSome l44[0]? fun u45 => tL 1 u45 fun s46 => tTup v42 fun l47 => pSome l47[1]? fun u48 => tI .i64 u48 fun n49 =>
          G n41 s38 n49 s46 σ43 := by
    intro σ new G H g1 g2
    refine c12 H A1 A2 hx hl (fun he σ1 new1 H1 => ?_) (fun he σ1 s1 new1 H1 i1 => ?_)
    · simp only [tTup_tup, pSome_some, List.getElem?_cons_zero, List.getElem?_cons_succ, tI_int, tL_nil]
      refine c13 H1 (InO.of (B1.mono fun p h => by simp at h ⊢; exact .inr h)) (InO.of (B2.mono fun p h => by simp at h ⊢; exact .inr h)) hx hl (fun he2 σ2 new2 H2 => ?_) (fun he2 => absurd he2 he)
      simp only [tTup_tup, pSome_some, List.getElem?_cons_zero, List.getElem?_cons_succ, tI_int, tL_nil]
      exact g1 σ2 (new2 ++ new1) he (by simpa using H2)
    · simp only [tTup_tup, pSome_some, List.getElem?_cons_zero, List.getElem?_cons_succ, tI_int, tL_sl]
      refine c13 H1 (InO.of (B1.mono fun p h => by simp at h ⊢; exact .inr h)) (InO.of (B2.mono fun p h => by simp at h ⊢; exact .inr h)) hx hl (fun he2 => absurd he he2) (fun he2 σ2 s2 new2 H2 i2 => ?_)
      simp only [tTup_tup, pSome_some, List.getElem?_cons_zero, List.getElem?_cons_succ, tI_int, tL_sl]
      exact g2 σ2 s1 s2 (new2 ++ new1) he (by simpa using H2) (i1.mono fun p h => by simp [h]) (i2.mono fun p h => by simp [h])
  -- both answers held against each other
  have none14 : ∀ {σ : AS} {K : Value → AS → Prop}, K (.bool true) σ → Tri Try.prog 14 [.slice none 0 1, .slice none 0 1] σ K := fun {σ K} h => c14 (l := []) (L := []) (Has.nil σ) (.inl rfl) (.inl rfl) (by simp) h
  have rest : ∀ {σ : AS} {new : List (Nat × AObj)} {n25 n33 : Int} {s22 s30 : Sl}, n25 = n33 → Has σ (new ++ M) →
      (∀ {σ : AS} {new' : List (Nat × AObj)} {K : Value → AS → Prop}, Has σ (new' ++ (new ++ M)) → K (.bool true) σ → Tri Try.prog 14 [.slice s22.a s22.n 1, .slice s30.a s30.n 1] σ K) →
      Tri Try.prog 12 [.slice (some ⟨j1, 0, none⟩) xs.length 1, .slice (some ⟨j2, 0, none⟩) l.length 1] σ fun v34 σ35 => tTup v34 fun l36 => pSome l36[0]? fun u37 => tL 1 u37 fun s38 => tTup v34 fun l39 => pSome l39[1]? fun u40 => tI .i64 u40 fun n41 =>
        Tri Try.prog 13 [.slice a xs.length 1, .slice u l.length 1] σ35 fun v42 σ43 => tTup v42 fun l44 => pSome l44[0]? fun u45 => tL 1 u45 fun s46 => tTup v42 fun l47 => pSome l47[1]? fun u48 => tI .i64 u48 fun n49 =>
          Tri Try.prog 14 [.slice s22.a s22.n 1, .slice s30.a s30.n 1] σ43 fun v50 σ51 => tB v50 fun b52 => bmatch b52
            (Tri Try.prog 15 [i64 n25] σ51 fun v53 σ54 => tI .i64 v53 fun n55 => bmatch (n55 == n33)
              (Tri Try.prog 14 [.slice s38.a s38.n 1, .slice s46.a s46.n 1] σ54 fun v56 σ57 => tB v56 fun b58 => bmatch b58
                (Tri Try.prog 15 [i64 n41] σ57 fun v59 σ60 => tI .i64 v59 fun n61 => bmatch (n61 == n49)
                  (Tri Try.prog 16 [.slice (some ⟨j1, 0, none⟩) xs.length 1, .slice a xs.length 1] σ60 fun v62 σ63 => tB v62 fun b64 => bmatch b64
                    (Tri Try.prog 16 [.slice (some ⟨j2, 0, none⟩) l.length 1, .slice u l.length 1] σ63 fun v65 σ66 => tB v65 fun b67 => bmatch b67 (Tri Try.prog 9 [] σ66 fun v68 σ69 => tB v68 fun b70 => RTb (.bool b70) σ69) (RTb (.bool false) σ66)) (RTb (.bool false) σ63))
                  (RTb (.bool false) σ60))
                (RTb (.bool false) σ57))
              (RTb (.bool false) σ54))
            (RTb (.bool false) σ51) := by
    intro σ new n25 n33 s22 s30 e H h14
    subst e
    have c15' : ∀ {n : Int} {σ : AS} {A B : Prop}, A → Tri Try.prog 15 [i64 n] σ fun v59 σ60 => tI .i64 v59 fun n61 => bmatch (n61 == n) A B := fun {n σ A B} h => c15 (tI_mk (by simp only [beq_self_eq_true, bm_true]; exact h))
    refine packs H (fun σ1 new1 he H1 => ?_) (fun σ1 s s' new1 he H1 i1 i2 => ?_)
    · refine h14 H1 ?_
      simp only [tB_bool, bm_true]
      refine c15 (tI_mk ?_)
      simp only [beq_self_eq_true, bm_true]
      refine none14 ?_
      simp only [tB_bool, bm_true]
      refine c15 (tI_mk ?_)
      simp only [beq_self_eq_true, bm_true]
      exact fin (new := new1 ++ new) (by simpa using H1)
    · refine h14 H1 ?_
      simp only [tB_bool, bm_true]
      refine c15 (tI_mk ?_)
      simp only [beq_self_eq_true, bm_true]
      refine c14 H1 (i1.mono fun p h => by simp [h]) (i2.mono fun p h => by simp [h]) packT_byte ?_
      simp only [tB_bool, bm_true]
      refine c15 (tI_mk ?_)
      simp only [beq_self_eq_true, bm_true]
      exact fin (new := new1 ++ new) (by simpa using H1)
  have H2' : Has σ2 ([] ++ M) := H2
  refine c10 H2' A1 hx hc (fun he σ3 new3 H3 => ?_) (fun he σ3 s3 new3 H3 i3 => ?_)
  · simp only [tTup_tup, pSome_some, List.getElem?_cons_zero, List.getElem?_cons_succ, tI_int, tL_nil]
    refine c11 H3 (InO.of (B1 (new := []) |>.mono fun p h => by simp at h ⊢; exact .inr h)) hx hc (fun he2 => ?_) (fun he2 => absurd he2 he)
    simp only [tTup_tup, pSome_some, List.getElem?_cons_zero, List.getElem?_cons_succ, tI_int, tL_nil]
    exact rest (s22 := ⟨none, 0⟩) (s30 := ⟨none, 0⟩) rfl (new := new3) (by simpa using H3) (fun _ h => none14 h)
  · simp only [tTup_tup, pSome_some, List.getElem?_cons_zero, List.getElem?_cons_succ, tI_int, tL_sl]
    refine c11 H3 (InO.of (B1 (new := []) |>.mono fun p h => by simp at h ⊢; exact .inr h)) hx hc (fun he2 => absurd he he2) (fun he2 σ4 s4 new4 H4 i4 => ?_)
    simp only [tTup_tup, pSome_some, List.getElem?_cons_zero, List.getElem?_cons_succ, tI_int, tL_sl]
    exact rest (s22 := ⟨s3, (tabU t xs).length⟩) (s30 := ⟨s4, (tabU t xs).length⟩) rfl (new := new4 ++ new3) (by simpa using H4) (fun H5 h => c14 H5 (i3.mono fun p h => by simp [h]) (i4.mono fun p h => by simp [h]) (tabU_byte fun c h => (hc c h).1) h))
end
end Go.AI
