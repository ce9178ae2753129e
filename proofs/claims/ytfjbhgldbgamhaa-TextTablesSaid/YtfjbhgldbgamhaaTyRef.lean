/- Lemmas of the abstract condition ahead of code (a part of the library that the claim's proof stands on); they hold with no condition but those that each names. -/
import Derived.Test.YtfjbhgldbgamhaaTyTable
import Derived.Test.YtfjbhgldbgamhaaTyRefF
section
/- The reference: an alphabet, a node's size, a node laid, a table; no condition. -/
set_option maxRecDepth 10000
set_option linter.unusedVariables false
set_option linter.unusedSimpArgs false
namespace Go.AI
open Go.Proofs
open Go.Tab (nodeU cntN sizeB U alphE)
theorem tri_inT {f : Nat} {args : List Value} {σ : AS} {K : Value → AS → Prop} (h : fw Try.prog hintsT (Tri Try.prog) f args σ K) : Tri Try.prog f args σ K := tri_fw Try.checked.mixed noGoS h
section
variable {σ : AS} {K : Value → AS → Prop} {L : List (Nat × AObj)}
/-- A number of a slice. -/
theorem rdO {a : Option Addr} {l : List Int} {k : Nat} {v : Int} {G : Int → Prop} (H : Has σ L) (hin : InO a l L) (hv : l[k]? = some v) (hG : G v) :
    pSome a fun a => ldc σ (Addr.add a (Int.toNat (k : Int) * szOf Try.prog 22)) fun v => tI .u32 v G := by
  have hz : szOf Try.prog 22 = 1 := by kernel_rfl
  have hne : l ≠ [] := fun e => by rw [e] at hv; simp at hv
  obtain ⟨r, o, kk, cs, rfl, hm, hg⟩ := hin.resolve_left hne
  obtain ⟨q, hq⟩ := List.getElem?_of_mem hm
  simp only [pSome_some, hz, add_none, Int.toNat_natCast, Nat.mul_one]
  exact ldc_mk H q hq (cellsU_get (hg k v hv)) (tI_mk hG)
theorem c27 {a : Option Addr} {xs : List Int} (H : Has σ L) (hin : InO a xs L) (hx : xs.length ≤ 300) (hK : K (i64 (alphE xs)) σ) : Tri Try.prog 27 [.slice a xs.length 1] σ K := tri_inT (by
  rw [s27]
  have hz : szOf Try.prog 22 = 1 := by kernel_rfl
  have hk0 : xs.Nodup → K (i64 0) σ := fun h => by
    unfold alphE at hK
    rw [if_neg (by omega), if_pos h] at hK
    exact hK
  have hk6 : ¬ xs.Nodup → K (i64 6) σ := fun h => by
    unfold alphE at hK
    rw [if_neg (by omega), if_neg h] at hK
    exact hK
  refine bmd_mk (fun h => by omega) (fun _ => ?_)
  refine aloop (fun (i : Nat) rg σ' => (i ≤ xs.length ∧ ∀ p q : Nat, q < p → p < i → xs[p]? ≠ xs[q]?) ∧ σ' = σ ∧ rg = [(0, some (.slice a xs.length 1)), (3, some (i64 i))]) (fun i => xs.length - i) ?_ (a := 0) ⟨⟨Nat.zero_le _, fun p q h1 h2 => by omega⟩, rfl, rfl⟩
  rintro i rg σ1 X hX ⟨⟨hi, hno⟩, rfl, rfl⟩
  rw [s27l]
  refine bmd_mk (fun h => ?_) (fun h => hk0 (Go.Tab.nodup_pairs.2 fun p q h1 h2 => hno p q h1 (by omega)))
  refine aloop (fun (k : Nat) rg σ' => (k ≤ i ∧ ∀ q : Nat, q < k → xs[i]? ≠ xs[q]?) ∧ σ' = σ1 ∧ rg = [(0, some (.slice a xs.length 1)), (3, some (i64 i)), (4, some (i64 k))]) (fun k => i - k) ?_ (a := 0) ⟨⟨Nat.zero_le _, fun q h => by omega⟩, rfl, rfl⟩
  rintro k rg σ2 Y hY ⟨⟨hk, hno2⟩, rfl, rfl⟩
  rw [s27l1]
  have ei : IntKind.wrap .i64 ((i : Int) + 1) = ((i + 1 : Nat) : Int) := by rw [wrap64 (by omega) (by omega)]; omega
  have ek : IntKind.wrap .i64 ((k : Int) + 1) = ((k + 1 : Nat) : Int) := by rw [wrap64 (by omega) (by omega)]; omega
  rw [ei, ek, hz]
  refine bmd_mk (fun g => ?_) (fun g => ?_)
  · obtain ⟨x, hx1⟩ : ∃ x, xs[i]? = some x := ⟨xs[i]'(by omega), by simp⟩
    obtain ⟨y, hy1⟩ : ∃ y, xs[k]? = some y := ⟨xs[k]'(by omega), by simp⟩
    have rd1 : ∀ {k : Nat} {v : Int} {G : Int → Prop}, xs[k]? = some v → G v → req (0 ≤ (k : Int)) (req ((k : Int) < (xs.length : Int)) (pSome a fun a => req ((1 : Nat) = 1) (ldc σ2 (Addr.add a (Int.toNat (k : Int) * 1)) fun v => tI .u32 v G))) := by
      intro k v G hv hG
      have hlt := (List.getElem?_eq_some_iff.1 hv).1
      refine req_mk (by omega) (req_mk (by omega) ?_)
      have := rdO H hin hv hG
      rw [hz] at this
      have hne : xs ≠ [] := fun e => by rw [e] at hlt; simp at hlt
      obtain ⟨r, o, kk, cs, rfl, hm, hg⟩ := hin.resolve_left hne
      simp only [pSome_some] at this ⊢
      exact req_mk trivial this
    refine rd1 hx1 (rd1 hy1 (bm_mk (fun c => ?_) (fun c => ?_)))
    · have c : x = y := by simpa using c
      refine hk6 fun hn => ?_
      exact Go.Tab.nodup_pairs.1 hn i k (by omega) (by omega) (by rw [hx1, hy1, c])
    · have c : ¬ x = y := by simpa using c
      refine hY (k + 1) _ _ (by omega) ⟨⟨by omega, fun q hq => ?_⟩, rfl, rfl⟩
      by_cases e : q = k
      · subst e
        rw [hx1, hy1]
        exact fun h => c (Option.some.inj h)
      · exact hno2 q (by omega)
  · refine hX (i + 1) _ _ (by omega) ⟨⟨by omega, fun p q h1 h2 => ?_⟩, rfl, rfl⟩
    by_cases e : p = i
    · subst e
      exact hno2 q (by omega)
    · exact hno p q h1 (by omega))
theorem sizeB_two {f : Nat} {l : List Int} (h : 2 ≤ l.length) : sizeB (f + 1) l = 9 + sizeB f (l.take (l.length / 2)) + sizeB f (l.drop (l.length / 2)) := by
  match l, h with
  | a :: b :: r, _ => rfl
theorem half64 {n : Nat} (h : n ≤ 1048576) : IntKind.wrap .i64 (Int.tdiv (n : Int) 2) = ((n / 2 : Nat) : Int) := by
  have : Int.tdiv (n : Int) 2 = ((n / 2 : Nat) : Int) := by rw [Int.tdiv_eq_ediv_of_nonneg (by omega)]; omega
  rw [this, wrap64 (by omega) (by omega)]
theorem InO.left {a : Option Addr} {l : List Int} (hin : InO a l L) : InO (a.map fun x => Addr.add x (Int.toNat 0 * szOf Try.prog 22)) (l.take (l.length / 2)) L := by
  have hz : szOf Try.prog 22 = 1 := by kernel_rfl
  have := hin.sub (x := fun x => Addr.add x (Int.toNat 0 * szOf Try.prog 22)) (o := 0) (n := l.length / 2) (fun r q => by rw [hz, add_none]; rfl)
  rw [List.drop_zero] at this
  exact this
theorem InO.right {a : Option Addr} {l : List Int} (hin : InO a l L) : InO (a.map fun x => Addr.add x (Int.toNat ((l.length / 2 : Nat) : Int) * szOf Try.prog 22)) (l.drop (l.length / 2)) L := by
  have hz : szOf Try.prog 22 = 1 := by kernel_rfl
  have := hin.sub (x := fun x => Addr.add x (Int.toNat ((l.length / 2 : Nat) : Int) * szOf Try.prog 22)) (o := l.length / 2) (n := l.length) (fun r q => by rw [hz, add_none, Int.toNat_natCast, Nat.mul_one])
  rw [List.take_of_length_le (by rw [List.length_drop]; omega)] at this
  exact this
theorem c28 : ∀ (f : Nat) {K : Value → AS → Prop} {a : Option Addr} {l : List Int}, Has σ L → InO a l L → l.length ≤ f → f ≤ 300 → K (.tuple ⟨[i64 (sizeB f l : Nat), i64 (cntN f l : Nat)]⟩) σ → Tri Try.prog 28 [.slice a l.length 1] σ K := by
  intro f
  induction f with
  | zero =>
    intro K a l H hin hl hf hK
    have : l = [] := List.length_eq_zero_iff.1 (by omega)
    subst this
    refine tri_inT ?_
    rw [s28]
    exact bm_mk (fun _ => hK) (fun h => by simp at h)
  | succ f ih =>
    intro K a l H hin hl hf hK
    refine tri_inT ?_
    rw [s28]
    have hz : szOf Try.prog 22 = 1 := by kernel_rfl
    refine bm_mk (fun h => ?_) (fun h => ?_)
    · have : l = [] := List.length_eq_zero_iff.1 (by have : (l.length : Int) = 0 := by simpa using h
                                                     omega)
      subst this
      exact hK
    have hne : l.length ≠ 0 := by
      have : ¬ ((l.length : Int) = 0) := by simpa using h
      omega
    refine bm_mk (fun h1 => ?_) (fun h1 => ?_)
    · have h1' : (l.length : Int) = 1 := by simpa using h1
      obtain ⟨c, rfl⟩ : ∃ c, l = [c] := by
        match l, h1' with
        | [c], _ => exact ⟨c, rfl⟩
        | [], h => simp at h
        | _ :: _ :: _, h => simp at h; omega
      refine req_mk (by simp) (rdO (k := 0) (v := c) H hin rfl ⟨?_⟩)
      rw [s28j]
      refine bmd_mk (fun g => ?_) (fun g => ?_)
      · have e : sizeB (f + 1) [c] = 2 := by show (if c < 256 then 2 else 5) = 2; rw [if_pos g]
        rw [e] at hK
        exact hK
      · have e : sizeB (f + 1) [c] = 5 := by show (if c < 256 then 2 else 5) = 5; rw [if_neg g]
        rw [e] at hK
        exact bm_mk (fun _ => hK) (fun h => by simp at h)
    · have h1' : ¬ ((l.length : Int) = 1) := by simpa using h1
      have h2 : 2 ≤ l.length := by omega
      refine ⟨?_⟩
      rw [s28j]
      simp only [bm_false]
      refine bm_mk (fun h => absurd h (by rw [h1]; simp)) (fun _ => ?_)
      rw [half64 (by omega), hz]
      have z1 : (l.take (l.length / 2)).length = l.length / 2 := by rw [List.length_take]; omega
      have z2 : (l.drop (l.length / 2)).length = l.length - l.length / 2 := by rw [List.length_drop]
      have e3 : (((l.length / 2 : Nat) : Int) - 0).toNat = (l.take (l.length / 2)).length := by omega
      have e4 : ((l.length : Int) - ((l.length / 2 : Nat) : Int)).toNat = (l.drop (l.length / 2)).length := by omega
      rw [e3, e4]
      refine req_mk (by omega) (req_mk (by omega) (chk_mk (by simp [nilOr]) ?_))
      have hl1 := hin.left
      have hr1 := hin.right
      rw [hz] at hl1 hr1
      refine ih H hl1 (by omega) (by omega) ?_
      simp only [tTup_tup, pSome_some, List.getElem?_cons_zero, List.getElem?_cons_succ, tI_int]
      refine req_mk (by omega) (req_mk (by omega) (req_mk (by omega) (chk_mk (by simp [nilOr]) ?_)))
      refine ih H hr1 (by omega) (by omega) ?_
      simp only [tTup_tup, pSome_some, List.getElem?_cons_zero, List.getElem?_cons_succ, tI_int]
      have s1 := nodeU_lens f 0 (l.take (l.length / 2)) (by omega)
      have s2 := nodeU_lens f 0 (l.drop (l.length / 2)) (by omega)
      rw [Go.Tab.nodeU_len] at s1 s2
      have c1 := (cntN_le f (l.take (l.length / 2)) (by omega)).1
      have c2 := (cntN_le f (l.drop (l.length / 2)) (by omega)).1
      have b1 : sizeB f (l.take (l.length / 2)) ≤ 5000 := by rcases s1.2 with ⟨g, _⟩ | ⟨_, g⟩ <;> omega
      have b2 : sizeB f (l.drop (l.length / 2)) ≤ 5000 := by rcases s2.2 with ⟨g, _⟩ | ⟨_, g⟩ <;> omega
      rw [sizeB_two h2, cntN_two h2] at hK
      have q1 : IntKind.wrap .i64 (IntKind.wrap .i64 (9 + ((sizeB f (l.take (l.length / 2)) : Nat) : Int)) + ((sizeB f (l.drop (l.length / 2)) : Nat) : Int)) = ((9 + sizeB f (l.take (l.length / 2)) + sizeB f (l.drop (l.length / 2)) : Nat) : Int) := by
        rw [wrap64 (n := 9 + _) (by omega) (by omega), wrap64 (by omega) (by omega)]; omega
      have q2 : IntKind.wrap .i64 (IntKind.wrap .i64 (1 + ((cntN f (l.take (l.length / 2)) : Nat) : Int)) + ((cntN f (l.drop (l.length / 2)) : Nat) : Int)) = ((1 + cntN f (l.take (l.length / 2)) + cntN f (l.drop (l.length / 2)) : Nat) : Int) := by
        rw [wrap64 (n := 1 + _) (by omega) (by omega), wrap64 (by omega) (by omega)]; omega
      rw [q1, q2]
      exact hK
end
end Go.AI
end
section
/- The reference: nodes laid behind bytes, a table; two rows of bytes held against each other; no condition. -/
set_option maxRecDepth 10000
set_option linter.unusedVariables false
set_option linter.unusedSimpArgs false
namespace Go.AI
open Go.Proofs
open Go.Tab (nodeU cntN sizeB U alphE)
section
variable {σ : AS} {K : Value → AS → Prop} {L : List (Nat × AObj)}
/-- A new row of bytes behind a row of the call's own. -/
theorem lit8_mk {j : Nat} {ys ms : List Int} {G : Sl → AS → Prop} {e : Nat} (H : Has σ ((j, .row .rw (cells8 ys)) :: L)) (hb : ys.length + ms.length ≤ 1048576) (he : nilOr (some (⟨j, 0, none⟩ : Addr)) e 1 = true)
    (hG : ∀ j' σ' new, Has σ' ((j', .row .rw (cells8 (ys ++ ms))) :: (new ++ L)) → G ⟨some ⟨j', 0, none⟩, ys.length + ms.length⟩ σ') :
    newAt σ (.row .rw (cells8 ms)) fun i σ1 => chk (nilOr (some (⟨j, 0, none⟩ : Addr)) e (szOf Try.prog 5)) (lds σ1 ⟨i, 0, none⟩ ms.length fun l => appendTo σ1 1 1 ⟨some ⟨j, 0, none⟩, ys.length⟩ l ms.length G) := by
  have hz : szOf Try.prog 5 = 1 := by kernel_rfl
  rw [hz]
  refine newAt_mk H fun i σ1 H1 => chk_mk he (lds_row H1 0 rfl (by simp) ?_)
  exact app8_mk (L := (i, .row .rw (cells8 ms)) :: L) (H1.perm (.swap _ _ _)) (by omega) rfl fun j' σ2 H2 => hG j' σ2 [_] H2
/-- Four bytes behind a row of the call's own. -/
theorem put8_mk {j : Nat} {ys : List Int} {x : Int} {G : Sl → AS → Prop} (H : Has σ ((j, .row .rw (cells8 ys)) :: L)) (hb : ys.length ≤ 1048576) (h0 : 0 ≤ x) (h1 : x ≤ 4294967295)
    (hG : ∀ j' σ' new, Has σ' ((j', .row .rw (cells8 (ys ++ by4 x))) :: (new ++ L)) → G ⟨some ⟨j', 0, none⟩, ys.length + 4⟩ σ') :
    Tri Try.prog 19 [u32 x, i64 4] σ fun v σ1 => tL 1 v fun s => srcCells σ1 1 (some (.slice s.a s.n 1)) fun m new => appendTo σ1 1 1 ⟨some ⟨j, 0, none⟩, ys.length⟩ new m G := by
  refine c19 H h0 h1 fun σ1 i H1 => tL_mk ?_
  refine src8_mk (ms := by4 x) H1 (.inr ⟨i, .rw, rfl, by simp⟩) ?_
  exact app8_mk (L := (i, .row .rw (cells8 (by4 x))) :: L) (H1.perm (.swap _ _ _)) (by simp [by4]; omega) rfl fun j' σ2 H2 => hG j' σ2 [_] H2
theorem c29 : ∀ (f : Nat) {σ : AS} {K : Value → AS → Prop} {L : List (Nat × AObj)} {j : Nat} {ys : List Int} {t : Int} {a : Option Addr} {l : List Int}, Has σ ((j, .row .rw (cells8 ys)) :: L) → InO a l L → l.length ≤ f → f ≤ 300 → (∀ c ∈ l, 0 ≤ c ∧ c ≤ 4294967295) → ys.length + 14 * l.length ≤ 100000 →
    (∀ σ' j' new, Has σ' ((j', .row .rw (cells8 (ys ++ nodeU f (t + ys.length) l))) :: (new ++ L)) → K (.slice (some ⟨j', 0, none⟩) (ys ++ nodeU f (t + ys.length) l).length 1) σ') →
    Tri Try.prog 29 [.slice (some ⟨j, 0, none⟩) ys.length 1, u32 t, .slice a l.length 1] σ K := by
  intro f
  have hz5 : szOf Try.prog 5 = 1 := by kernel_rfl
  have nilC : ∀ {σ : AS} {K : Value → AS → Prop} {L : List (Nat × AObj)} {j : Nat} {ys : List Int}, Has σ ((j, .row .rw (cells8 ys)) :: L) → ys.length ≤ 100000 →
      (∀ σ' j' new, Has σ' ((j', .row .rw (cells8 (ys ++ [1]))) :: (new ++ L)) → K (.slice (some ⟨j', 0, none⟩) (ys ++ [1]).length 1) σ') →
      newAt σ (.row .rw [.int .u8 1]) fun i σ1 => lds σ1 ⟨i, 0, none⟩ 1 fun l2 => appendTo σ1 1 1 ⟨some ⟨j, 0, none⟩, ys.length⟩ l2 1 fun s σ4 => K (.slice s.a s.n 1) σ4 := by
    intro σ K L j ys H hb hK
    refine newAt_mk H fun i σ1 H1 => lds_row (cs := cells8 [1]) H1 0 rfl (by simp) ?_
    refine app8_mk (ms := [1]) (L := (i, .row .rw (cells8 [1])) :: L) (H1.perm (.swap _ _ _)) (by simp; omega) rfl fun j' σ2 H2 => ?_
    have := hK σ2 j' [_] H2
    rw [List.length_append] at this
    exact this
  induction f with
  | zero =>
    intro σ K L j ys t a l H hin hl hf hc hb hK
    have : l = [] := List.length_eq_zero_iff.1 (by omega)
    subst this
    refine tri_inT ?_
    rw [s29]
    exact bm_mk (fun _ => nilC H (by omega) hK) (fun h => by simp at h)
  | succ f ih =>
    intro σ K L j ys t a l H hin hl hf hc hb hK
    refine tri_inT ?_
    rw [s29]
    have hz : szOf Try.prog 22 = 1 := by kernel_rfl
    refine bm_mk (fun h => ?_) (fun h => ?_)
    · have : l = [] := List.length_eq_zero_iff.1 (by have : (l.length : Int) = 0 := by simpa using h
                                                     omega)
      subst this
      exact nilC H (by omega) hK
    have hne : l.length ≠ 0 := by
      have : ¬ ((l.length : Int) = 0) := by simpa using h
      omega
    have hH : ∀ p ∈ L, p ∈ (j, AObj.row .rw (cells8 ys)) :: L := fun p h => List.mem_cons_of_mem _ h
    refine bm_mk (fun h1 => ?_) (fun h1 => ?_)
    · have h1' : (l.length : Int) = 1 := by simpa using h1
      obtain ⟨c, rfl⟩ : ∃ c, l = [c] := by
        match l, h1' with
        | [c], _ => exact ⟨c, rfl⟩
        | [], h => simp at h
        | _ :: _ :: _, h => simp at h; omega
      have hcr := hc c (by simp)
      refine req_mk (by simp) (rdO (k := 0) (v := c) H (hin.mono hH) rfl ⟨?_⟩)
      rw [s29j]
      have rd1 : ∀ {σ : AS} {L' : List (Nat × AObj)} {G : Int → Prop}, Has σ L' → InO a [c] L' → G c → pSome a fun a => req ((1 : Nat) = szOf Try.prog 22) (ldc σ (Addr.add a (Int.toNat 0 * szOf Try.prog 22)) fun v => tI .u32 v G) := by
        intro σ L' G H hin hG
        have := rdO (k := 0) (v := c) H hin rfl hG
        obtain ⟨r, o, kk, cs, rfl, hm, hg⟩ := hin.resolve_left (by simp)
        simp only [pSome_some] at this ⊢
        exact req_mk hz.symm this
      refine bmd_mk (fun g => ?_) (fun g => ?_)
      · have ew : IntKind.wrap .u8 c = c := by
          simp [IntKind.wrap, IntKind.bits, IntKind.signed]
          omega
        refine req_mk (by simp) (rd1 H (hin.mono hH) ?_)
        rw [ew]
        refine lit8_mk (ms := [2, c]) H (by simp; omega) rfl fun j' σ1 new H1 => ?_
        have el : nodeU (f + 1) (t + ys.length) [c] = [2, c] := by show Go.Tab.leafB c = _; unfold Go.Tab.leafB; rw [if_pos g]
        have := hK σ1 j' new (by rw [el]; exact H1)
        rw [el, List.length_append] at this
        exact this
      · refine bm_mk (fun _ => ?_) (fun h => by simp at h)
        refine lit8_mk (ms := [4]) H (by simp; omega) rfl fun j1 σ1 new1 H1 => ?_
        refine req_mk (by simp) (rd1 H1 (hin.mono fun p h => by simp [h]) ?_)
        have e1 : ys.length + 1 = (ys ++ [4]).length := by simp
        simp only [List.length_singleton]
        rw [e1]
        refine put8_mk H1 (by simp; omega) hcr.1 hcr.2 fun j2 σ2 new2 H2 => ?_
        have el : nodeU (f + 1) (t + ys.length) [c] = 4 :: by4 c := by show Go.Tab.leafB c = _; unfold Go.Tab.leafB; rw [if_neg g]; rfl
        have ea : ys ++ [4] ++ by4 c = ys ++ 4 :: by4 c := by simp
        rw [ea] at H2
        have := hK σ2 j2 (new2 ++ new1) (by rw [el]; simpa using H2)
        rw [el, ← ea, List.length_append] at this
        exact this
    · have h1' : ¬ ((l.length : Int) = 1) := by simpa using h1
      have h2 : 2 ≤ l.length := by omega
      refine ⟨?_⟩
      rw [s29j]
      simp only [bm_false]
      refine bm_mk (fun h => absurd h (by rw [h1]; simp)) (fun _ => ?_)
      have hnil : ∀ a : Option Addr, nilOr a 1 (szOf Try.prog 22) = true := fun a => by rw [hz]; rfl
      have z1 : (l.take (l.length / 2)).length = l.length / 2 := by rw [List.length_take]; omega
      have z2 : (l.drop (l.length / 2)).length = l.length - l.length / 2 := by rw [List.length_drop]
      have e3 : (((l.length / 2 : Nat) : Int) - 0).toNat = (l.take (l.length / 2)).length := by omega
      have e4 : ((l.length : Int) - ((l.length / 2 : Nat) : Int)).toNat = (l.drop (l.length / 2)).length := by omega
      rw [half64 (by omega), e3, e4]
      refine req_mk (by omega) (req_mk (by omega) (chk_mk (hnil _) ?_))
      refine c28 f H (hin.left.mono hH) (by omega) (by omega) ?_
      simp only [tTup_tup, pSome_some, List.getElem?_cons_zero, List.getElem?_cons_succ, tI_int]
      refine lit8_mk (ms := [0]) H (by simp; omega) rfl fun j1 σ1 new1 H1 => ?_
      have s1 := nodeU_lens f 0 (l.take (l.length / 2)) (by omega)
      rw [Go.Tab.nodeU_len] at s1
      have b1 : sizeB f (l.take (l.length / 2)) ≤ 5000 := by rcases s1.2 with ⟨g, _⟩ | ⟨_, g⟩ <;> omega
      have w1 : IntKind.wrap .u32 (IntKind.wrap .u32 (t + IntKind.wrap .u32 (ys.length : Int)) + 9) = U (t + ys.length + 9) := by
        rw [w32_U, w32_U, w32_U, U_eq (x := (ys.length : Int)) (by omega) (by omega), Go.Tab.U_add]
      have w2 : IntKind.wrap .u32 (U (t + ys.length + 9) + IntKind.wrap .u32 ((sizeB f (l.take (l.length / 2)) : Nat) : Int)) = U (t + ys.length + 9 + sizeB f (l.take (l.length / 2))) := by
        rw [w32_U, w32_U, U_eq (x := ((sizeB f (l.take (l.length / 2)) : Nat) : Int)) (by omega) (by omega), Go.Tab.U_add]
      rw [w1, w2]
      have g1 := U_in (t + ys.length + 9)
      have g2 := U_in (t + ys.length + 9 + sizeB f (l.take (l.length / 2)))
      simp only [List.length_singleton]
      have e5 : ys.length + 1 = (ys ++ [0]).length := by simp
      rw [e5]
      refine put8_mk H1 (by simp; omega) g1.1 g1.2 fun j2 σ2 new2 H2 => ?_
      simp only
      have e6 : (ys ++ [0]).length + 4 = (ys ++ [0] ++ by4 (U (t + ys.length + 9))).length := by simp [by4]
      rw [e6]
      refine put8_mk H2 (by simp [by4]; omega) g2.1 g2.2 fun j3 σ3 new3 H3 => ?_
      simp only
      refine req_mk (by omega) (req_mk (by omega) (chk_mk (hnil _) ?_))
      have hM : ys ++ [0] ++ by4 (U (t + ys.length + 9)) ++ by4 (U (t + ys.length + 9 + sizeB f (l.take (l.length / 2)))) = ys ++ 0 :: (Go.Tab.by4 (U (t + ys.length + 9)) ++ Go.Tab.by4 (U (t + ys.length + 9 + sizeB f (l.take (l.length / 2))))) := by
        rw [← by4_tab]; simp
      have e7 : (ys ++ [0] ++ by4 (U (t + ys.length + 9))).length + 4 = (ys ++ 0 :: (Go.Tab.by4 (U (t + ys.length + 9)) ++ Go.Tab.by4 (U (t + ys.length + 9 + sizeB f (l.take (l.length / 2)))))).length := by
        rw [← hM]; simp [by4]
      have hstep := Go.Tab.lay_step (f := f) (from_ := t) (bs := ys) hl h2
      rw [hM] at H3
      rw [e7]
      have hM9 : (ys ++ 0 :: (Go.Tab.by4 (U (t + ys.length + 9)) ++ Go.Tab.by4 (U (t + ys.length + 9 + sizeB f (l.take (l.length / 2)))))).length = ys.length + 9 := by simp [Go.Tab.by4]
      generalize ys ++ 0 :: (Go.Tab.by4 (U (t + ys.length + 9)) ++ Go.Tab.by4 (U (t + ys.length + 9 + sizeB f (l.take (l.length / 2))))) = M at *
      refine ih (t := t) H3 (hin.left.mono fun p h => by simp [h]) (by omega) (by omega) (fun c h => hc c (List.mem_of_mem_take h)) (by omega) fun σ4 j4 new4 H4 => tL_mk ?_
      rw [hM9] at H4 ⊢
      refine req_mk (by omega) (req_mk (by omega) (req_mk (by omega) (chk_mk (hnil _) ?_)))
      have hN : (M ++ nodeU f (t + ((ys.length + 9 : Nat) : Int)) (l.take (l.length / 2))).length = ys.length + 9 + sizeB f (l.take (l.length / 2)) := by rw [List.length_append, Go.Tab.nodeU_len, hM9]
      generalize M ++ nodeU f (t + ((ys.length + 9 : Nat) : Int)) (l.take (l.length / 2)) = N at *
      refine ih (t := t) H4 (hin.right.mono fun p h => by simp [h]) (by omega) (by omega) (fun c h => hc c (List.mem_of_mem_drop h)) (by rcases s1.2 with ⟨g, _⟩ | ⟨_, g⟩ <;> omega) fun σ5 j5 new5 H5 => tL_mk ?_
      rw [hN, ← hstep] at H5 ⊢
      exact hK σ5 j5 (new5 ++ (new4 ++ (new3 ++ (new2 ++ new1)))) (by simpa using H5)
end
end Go.AI
end
section
/- The reference: a table; two rows of bytes held against each other; a way; no condition. -/
set_option maxRecDepth 10000
set_option linter.unusedVariables false
set_option linter.unusedSimpArgs false
namespace Go.AI
open Go.Proofs
open Go.Tab (nodeU cntN sizeB U alphE pathB)
section
variable {σ : AS} {K : Value → AS → Prop} {L : List (Nat × AObj)}
theorem lit8n_mk {j : Nat} {ys ms : List Int} {G : Sl → AS → Prop} (H : Has σ ((j, .row .rw (cells8 ys)) :: L)) (hb : ys.length + ms.length ≤ 1048576)
    (hG : ∀ j' σ' new, Has σ' ((j', .row .rw (cells8 (ys ++ ms))) :: (new ++ L)) → G ⟨some ⟨j', 0, none⟩, ys.length + ms.length⟩ σ') :
    newAt σ (.row .rw (cells8 ms)) fun i σ1 => lds σ1 ⟨i, 0, none⟩ ms.length fun l => appendTo σ1 1 1 ⟨some ⟨j, 0, none⟩, ys.length⟩ l ms.length G := by
  refine newAt_mk H fun i σ1 H1 => lds_row H1 0 rfl (by simp) ?_
  exact app8_mk (L := (i, .row .rw (cells8 ms)) :: L) (H1.perm (.swap _ _ _)) (by omega) rfl fun j' σ2 H2 => hG j' σ2 [_] H2
theorem c11 {t : Int} {a : Option Addr} {l : List Int} (H : Has σ L) (hin : InO a l L) (hl : l.length ≤ 300) (hc : ∀ c ∈ l, 0 ≤ c ∧ c ≤ 4294967295)
    (hE : alphE l ≠ 0 → K (.tuple ⟨[.slice none 0 0, i64 (alphE l)]⟩) σ)
    (hK : alphE l = 0 → ∀ σ' s new, Has σ' (new ++ L) → In8 s (Go.Tab.tabU t l) new → K (.tuple ⟨[.slice s (Go.Tab.tabU t l).length 1, i64 0]⟩) σ') :
    Tri Try.prog 11 [u32 t, .slice a l.length 1] σ K := tri_inT (by
  rw [s11]
  refine c27 H hin hl ?_
  simp only [tI_int]
  refine bm_mk (fun h => hE (by simpa using h)) (fun h => ?_)
  have h0 : alphE l = 0 := by simpa using h
  have hK := hK h0
  clear hE
  refine c28 l.length H hin (Nat.le_refl _) hl ?_
  simp only [tTup_tup, pSome_some, List.getElem?_cons_zero, List.getElem?_cons_succ, tI_int]
  have s1 := nodeU_lens l.length 0 l (Nat.le_refl _)
  rw [Go.Tab.nodeU_len] at s1
  have b1 : sizeB l.length l ≤ 5000 := by rcases s1.2 with ⟨g, _⟩ | ⟨_, g⟩ <;> omega
  have cl := (cntN_le l.length l (Nat.le_refl _)).1
  have w1 : IntKind.wrap .u32 (IntKind.wrap .i64 (22 + ((sizeB l.length l : Nat) : Int))) = 22 + (sizeB l.length l : Int) := by
    rw [wrap64 (by omega) (by omega), w32_U]; exact U_eq (by omega) (by omega)
  have w2 : IntKind.wrap .u32 (IntKind.wrap .i64 (((cntN l.length l : Nat) : Int) + 2)) = (cntN l.length l : Int) + 2 := by
    rw [wrap64 (by omega) (by omega), w32_U]; exact U_eq (by omega) (by omega)
  rw [w1, w2, w32_U, w32_U, w32_U]
  have g3 := U_in (t + 12)
  have g4 := U_in (t + 21)
  have g5 := U_in (t + 22)
  refine c19 H (by omega) (by omega) fun σ1 j1 H1 => tL_mk ?_
  simp only
  have l4 : ∀ x, (by4 x).length = 4 := fun x => rfl
  have e1 : (4 : Nat) = (by4 (22 + (sizeB l.length l : Int))).length := rfl
  rw [e1]
  refine put8_mk H1 (by rw [l4]; omega) (by omega) (by omega) fun j2 σ2 new2 H2 => ?_
  simp only
  rw [show (by4 (22 + (sizeB l.length l : Int))).length + 4 = (by4 (22 + (sizeB l.length l : Int)) ++ by4 ((cntN l.length l : Int) + 2)).length by simp [l4]]
  refine put8_mk H2 (by rw [List.length_append, l4, l4]; omega) g3.1 g3.2 fun j3 σ3 new3 H3 => ?_
  simp only
  rw [show (by4 (22 + (sizeB l.length l : Int)) ++ by4 ((cntN l.length l : Int) + 2)).length + 4 = (by4 (22 + (sizeB l.length l : Int)) ++ by4 ((cntN l.length l : Int) + 2) ++ by4 (U (t + 12))).length by simp [l4]]
  have len3 : (by4 (22 + (sizeB l.length l : Int)) ++ by4 ((cntN l.length l : Int) + 2) ++ by4 (U (t + 12))).length = 12 := by simp [l4]
  generalize hM3 : by4 (22 + (sizeB l.length l : Int)) ++ by4 ((cntN l.length l : Int) + 2) ++ by4 (U (t + 12)) = M3 at *
  refine lit8n_mk (ms := [0]) H3 (by simp; omega) fun j4 σ4 new4 H4 => ?_
  simp only
  rw [← List.length_append]
  have len4 : (M3 ++ [0]).length = 13 := by simp [len3]
  generalize hM4 : M3 ++ [0] = M4 at *
  refine put8_mk H4 (by omega) g4.1 g4.2 fun j5 σ5 new5 H5 => ?_
  simp only
  rw [show M4.length + 4 = (M4 ++ by4 (U (t + 21))).length by simp [l4]]
  have len5 : (M4 ++ by4 (U (t + 21))).length = 17 := by simp [len4, l4]
  generalize hM5 : M4 ++ by4 (U (t + 21)) = M5 at *
  refine put8_mk H5 (by omega) g5.1 g5.2 fun j6 σ6 new6 H6 => ?_
  simp only
  rw [show M5.length + 4 = (M5 ++ by4 (U (t + 22))).length by simp [l4]]
  have len6 : (M5 ++ by4 (U (t + 22))).length = 21 := by simp [len5, l4]
  generalize hM6 : M5 ++ by4 (U (t + 22)) = M6 at *
  refine lit8n_mk (ms := [1]) H6 (by simp; omega) fun j7 σ7 new7 H7 => ?_
  simp only
  rw [← List.length_append]
  have len7 : (M6 ++ [1]).length = 22 := by simp [len6]
  generalize hM7 : M6 ++ [1] = M7 at *
  refine c29 l.length (t := t) H7 (hin.mono fun p h => by simp [h]) (Nat.le_refl _) hl hc (by omega) fun σ8 j8 new8 H8 => tL_mk ?_
  have et : M7 ++ nodeU l.length (t + M7.length) l = Go.Tab.tabU t l := by
    rw [len7, ← hM7, ← hM6, ← hM5, ← hM4, ← hM3]
    unfold Go.Tab.tabU
    rw [← by4_tab]
    simp
  rw [et] at H8 ⊢
  exact hK σ8 (some ⟨j8, 0, none⟩) ((j8, AObj.row .rw (cells8 (Go.Tab.tabU t l))) :: (new8 ++ (new7 ++ (new6 ++ (new5 ++ (new4 ++ (new3 ++ new2))))))) (by simpa using H8) (.inr ⟨j8, .rw, rfl, by simp⟩))
/-- The bytes that a row of numbers says. -/
def bytesU (l : List Int) : List UInt8 := l.map fun c => UInt8.ofNat c.toNat
theorem bytes_cells : ∀ {l : List Int}, (∀ c ∈ l, 0 ≤ c ∧ c < 256) → bytesOf? (cells8 l) = some (bytesU l)
  | [], _ => rfl
  | c :: l, h => by
    have ih := bytes_cells (l := l) fun c hc => h c (by simp [hc])
    have hc := h c (by simp)
    have h1 : byteOf? (.int .u8 c) = some (UInt8.ofNat c.toNat) := rfl
    show (match byteOf? (.int .u8 c) with
      | some b => match bytesOf? (cells8 l) with | some bs => some (b :: bs) | none => none
      | none => none) = _
    rw [h1, ih]
    rfl
theorem bts_mk {a : Option Addr} {l : List Int} {G : List UInt8 → Prop} (H : Has σ L) (hin : In8 a l L) (hb : ∀ c ∈ l, 0 ≤ c ∧ c < 256) (hG : G (bytesU l)) : bts σ ⟨a, l.length⟩ G := by
  unfold bts
  simp only
  by_cases hm : l = []
  · subst hm
    cases a with
    | none => exact hG
    | some a => exact lds_zero hG
  · obtain ⟨r, k, rfl, hr⟩ := hin.resolve_left hm
    obtain ⟨q, hq⟩ := List.getElem?_of_mem hr
    refine lds_row H q hq (by simp) ?_
    rw [bytes_cells hb]
    exact hG
theorem c14 {a b : Option Addr} {l : List Int} (H : Has σ L) (ha : In8 a l L) (hb : In8 b l L) (hl : ∀ c ∈ l, 0 ≤ c ∧ c < 256) (hK : K (.bool true) σ) : Tri Try.prog 14 [.slice a l.length 1, .slice b l.length 1] σ K := tri_inT (by
  rw [s14]
  refine bts_mk H ha hl (bts_mk H hb hl ?_)
  have e : strEq (ByteArray.mk (List.toArray (bytesU l))) (ByteArray.mk (List.toArray (bytesU l))) = true := by
    unfold strEq
    exact beq_self_eq_true _
  rw [e]
  exact hK)
end
end Go.AI
end
section
/- The reference: a way to a character's leaf; no condition. -/
set_option maxRecDepth 10000
set_option linter.unusedVariables false
set_option linter.unusedSimpArgs false
namespace Go.AI
open Go.Proofs
open Go.Tab (wayR pathB)
section
variable {σ : AS} {K : Value → AS → Prop} {L : List (Nat × AObj)}
theorem dup1_mk {b : Option Addr} {bits : List Int} {v : Int} {p : Prop} {G : Sl → AS → Prop} (H : Has σ L) (hin : In8 b bits L) (hl : bits.length ≤ 1048000) (hp : p)
    (hG : ∀ j σ' new, Has σ' ((j, .row .rw (cells8 (bits ++ [v]))) :: (new ++ L)) → G ⟨some ⟨j, 0, none⟩, bits.length + 1⟩ σ') :
    newAt σ (.row .rw [.int .u8 v]) fun i σ1 => p ∧ newAt σ1 (.row .rw []) fun k σ2 => p ∧ srcCells σ2 1 (some (.slice b bits.length 1)) fun m new => appendTo σ2 1 1 ⟨some ⟨k, 0, none⟩, 0⟩ new m fun s σ3 => p ∧
      lds σ3 ⟨i, 0, none⟩ 1 fun l => appendTo σ3 1 1 ⟨s.a, s.n⟩ l 1 fun t σ4 => p ∧ G t σ4 := by
  refine newAt_mk H fun i σ1 H1 => ⟨hp, newAt_mk H1 fun k σ2 H2 => ⟨hp, ?_⟩⟩
  refine src8_mk H2 (hin.mono fun p h => by simp [h]) ?_
  refine app8_mk (ys := []) (ms := bits) H2 (by simp; omega) rfl fun k2 σ3 H3 => ⟨hp, ?_⟩
  simp only [List.nil_append, List.length_nil, Nat.zero_add] at H3 ⊢
  refine lds_row (cs := cells8 [v]) H3 1 rfl (by simp) ?_
  exact app8_mk (ys := bits) (ms := [v]) H3 (by simp; omega) rfl fun k3 σ4 H4 => ⟨hp, hG k3 σ4 [(i, .row .rw [.int .u8 v])] H4⟩
theorem dup2_mk {b : Option Addr} {bits : List Int} {v : Int} {p : Prop} {G : Sl → AS → Prop} (H : Has σ L) (hin : In8 b bits L) (hl : bits.length ≤ 1048000) (hp : p)
    (hG : ∀ j σ' new, Has σ' ((j, .row .rw (cells8 (bits ++ [v]))) :: (new ++ L)) → G ⟨some ⟨j, 0, none⟩, bits.length + 1⟩ σ') :
    newAt σ (.row .rw []) fun k σ1 => p ∧ newAt σ1 (.row .rw [.int .u8 v]) fun i σ2 => p ∧ srcCells σ2 1 (some (.slice b bits.length 1)) fun m new => appendTo σ2 1 1 ⟨some ⟨k, 0, none⟩, 0⟩ new m fun s σ3 => p ∧
      lds σ3 ⟨i, 0, none⟩ 1 fun l => appendTo σ3 1 1 ⟨s.a, s.n⟩ l 1 fun t σ4 => p ∧ G t σ4 := by
  refine newAt_mk H fun k σ1 H1 => ⟨hp, newAt_mk H1 fun i σ2 H2' => ⟨hp, ?_⟩⟩
  have H2 : Has σ2 ((k, .row .rw (cells8 [])) :: (i, .row .rw [.int .u8 v]) :: L) := H2'.perm (.swap _ _ _)
  refine src8_mk H2 (hin.mono fun p h => by simp [h]) ?_
  refine app8_mk (ys := []) (ms := bits) H2 (by simp; omega) rfl fun k2 σ3 H3 => ⟨hp, ?_⟩
  simp only [List.nil_append, List.length_nil, Nat.zero_add] at H3 ⊢
  refine lds_row (cs := cells8 [v]) H3 1 rfl (by simp) ?_
  exact app8_mk (ys := bits) (ms := [v]) H3 (by simp; omega) rfl fun k3 σ4 H4 => ⟨hp, hG k3 σ4 [(i, .row .rw [.int .u8 v])] H4⟩
theorem dup3_mk {b : Option Addr} {bits : List Int} {v : Int} {p : Prop} {G : Sl → AS → Prop} (H : Has σ L) (hin : In8 b bits L) (hl : bits.length ≤ 1048000) (hp : p)
    (hG : ∀ j σ' new, Has σ' ((j, .row .rw (cells8 (bits ++ [v]))) :: (new ++ L)) → G ⟨some ⟨j, 0, none⟩, bits.length + 1⟩ σ') :
    newAt σ (.row .rw []) fun k σ1 => p ∧ srcCells σ1 1 (some (.slice b bits.length 1)) fun m new => appendTo σ1 1 1 ⟨some ⟨k, 0, none⟩, 0⟩ new m fun s σ2 => p ∧ newAt σ2 (.row .rw [.int .u8 v]) fun i σ3 => p ∧
      lds σ3 ⟨i, 0, none⟩ 1 fun l => appendTo σ3 1 1 ⟨s.a, s.n⟩ l 1 fun t σ4 => p ∧ G t σ4 := by
  refine newAt_mk (x := .row .rw (cells8 [])) H fun k σ1 H1 => ⟨hp, ?_⟩
  refine src8_mk H1 (hin.mono fun p h => by simp [h]) ?_
  refine app8_mk (ys := []) (ms := bits) H1 (by simp; omega) rfl fun k2 σ2 H2 => ⟨hp, ?_⟩
  simp only [List.nil_append, List.length_nil, Nat.zero_add] at H2 ⊢
  refine newAt_mk H2 fun i σ3 H3' => ⟨hp, ?_⟩
  have H3 : Has σ3 ((k2, .row .rw (cells8 bits)) :: (i, .row .rw [.int .u8 v]) :: L) := H3'.perm (.swap _ _ _)
  refine lds_row (cs := cells8 [v]) H3 1 rfl (by simp) ?_
  exact app8_mk (ys := bits) (ms := [v]) H3 (by simp; omega) rfl fun k3 σ4 H4 => ⟨hp, hG k3 σ4 [(i, .row .rw [.int .u8 v])] H4⟩
theorem wayR_two {f : Nat} {bits l : List Int} {c : Int} (h : 2 ≤ l.length) : wayR (f + 1) bits l c = match wayR f (bits ++ [0]) (l.take (l.length / 2)) c with
    | (left, true) => (left, true)
    | (_, false) => wayR f (bits ++ [1]) (l.drop (l.length / 2)) c := by
  match l, h with
  | a :: b :: r, _ => rfl
theorem c32 : ∀ (f : Nat) {σ : AS} {K : Value → AS → Prop} {L : List (Nat × AObj)} {b a : Option Addr} {bits l : List Int} {c : Int}, Has σ L → In8 b bits L → InO a l L → l.length ≤ f → f ≤ 300 → bits.length + l.length ≤ 1000 →
    (∀ σ' s n new, Has σ' (new ++ L) → ((wayR f bits l c).2 = true → n = (wayR f bits l c).1.length ∧ In8 s (wayR f bits l c).1 (new ++ L)) → K (.tuple ⟨[.slice s n 1, .bool (wayR f bits l c).2]⟩) σ') →
    Tri Try.prog 32 [.slice b bits.length 1, .slice a l.length 1, u32 c] σ K := by
  intro f
  induction f with
  | zero =>
    intro σ K L b a bits l c H hb hin hl hf hn hK
    have : l = [] := List.length_eq_zero_iff.1 (by omega)
    subst this
    refine tri_inT ?_
    rw [s32]
    exact bm_mk (fun _ => hK σ b bits.length [] H (fun h => by cases h)) (fun h => by simp at h)
  | succ f ih =>
    intro σ K L b a bits l c H hb hin hl hf hn hK
    refine tri_inT ?_
    rw [s32]
    have hz : szOf Try.prog 22 = 1 := by kernel_rfl
    have hz5 : szOf Try.prog 5 = 1 := by kernel_rfl
    refine bm_mk (fun h => ?_) (fun h => ?_)
    · have : l = [] := List.length_eq_zero_iff.1 (by have : (l.length : Int) = 0 := by simpa using h
                                                     omega)
      subst this
      exact hK σ b bits.length [] H (fun h => by cases h)
    have hne : l.length ≠ 0 := by
      have : ¬ ((l.length : Int) = 0) := by simpa using h
      omega
    refine bm_mk (fun h1 => ?_) (fun h1 => ?_)
    · have h1' : (l.length : Int) = 1 := by simpa using h1
      obtain ⟨d, rfl⟩ : ∃ c, l = [c] := by
        match l, h1' with
        | [c], _ => exact ⟨c, rfl⟩
        | [], h => simp at h
        | _ :: _ :: _, h => simp at h; omega
      refine req_mk (by simp) (rdO (k := 0) (v := d) H hin rfl ?_)
      exact hK σ b bits.length [] H (fun _ => ⟨rfl, hb⟩)
    · have h1' : ¬ ((l.length : Int) = 1) := by simpa using h1
      have h2 : 2 ≤ l.length := by omega
      rw [wayR_two h2] at hK
      have hnil : ∀ a : Option Addr, nilOr a 1 (szOf Try.prog 22) = true := fun a => by rw [hz]; rfl
      have z1 : (l.take (l.length / 2)).length = l.length / 2 := by rw [List.length_take]; omega
      have z2 : (l.drop (l.length / 2)).length = l.length - l.length / 2 := by rw [List.length_drop]
      have e3 : (((l.length / 2 : Nat) : Int) - 0).toNat = (l.take (l.length / 2)).length := by omega
      have e4 : ((l.length : Int) - ((l.length / 2 : Nat) : Int)).toNat = (l.drop (l.length / 2)).length := by omega
      rw [half64 (by omega), e3]
      have right : ∀ {σ : AS} {L' : List (Nat × AObj)} {j : Nat} {new : List (Nat × AObj)} {n : Nat}, Has σ ((j, .row .rw (cells8 (bits ++ [1]))) :: (new ++ L')) → n = bits.length + 1 → InO a l L' →
          (∀ σ' s n new, Has σ' (new ++ L') → ((wayR f (bits ++ [1]) (l.drop (l.length / 2)) c).2 = true → n = (wayR f (bits ++ [1]) (l.drop (l.length / 2)) c).1.length ∧ In8 s (wayR f (bits ++ [1]) (l.drop (l.length / 2)) c).1 (new ++ L')) → K (.tuple ⟨[.slice s n 1, .bool (wayR f (bits ++ [1]) (l.drop (l.length / 2)) c).2]⟩) σ') →
          Tri Try.prog 32 [.slice (some ⟨j, 0, none⟩) n 1, .slice (a.map fun x => Addr.add x (Int.toNat ((l.length / 2 : Nat) : Int) * szOf Try.prog 22)) (l.drop (l.length / 2)).length 1, u32 c] σ fun v σ1 =>
            tTup v fun l1 => pSome l1[0]? fun u => tL 1 u fun s => tTup v fun l2 => pSome l2[1]? fun u2 => tB u2 fun ok => JoinS (jn Try.prog hintsT (Tri Try.prog) 32 [true, true, true, true, true] [] K) [(6, some (.slice s.a s.n 1)), (7, some (.bool ok))] σ1 := by
        intro σ L' j new n H1 hn1 hin1 hK1
        subst hn1
        have e : bits.length + 1 = (bits ++ [1]).length := by simp
        rw [e]
        refine ih (bits := bits ++ [1]) H1 (.inr ⟨j, .rw, rfl, by simp⟩) (hin1.right.mono fun p h => by simp [h]) (by omega) (by omega) (by simp; omega) fun σ2 s2 n2 new2 H2 g2 => ?_
        simp only [tTup_tup, pSome_some, List.getElem?_cons_zero, List.getElem?_cons_succ, tB_bool]
        refine tL_mk ?_
        refine ⟨?_⟩
        rw [s32j1]
        refine hK1 σ2 s2 n2 (new2 ++ ((j, .row .rw (cells8 (bits ++ [1]))) :: new)) (by simpa using H2) fun h => ?_
        obtain ⟨q1, q2⟩ := g2 h
        exact ⟨q1, by simpa using q2⟩
      have join : ∀ {σ : AS} {s : Option Addr} {n : Nat} {new : List (Nat × AObj)}, Has σ (new ++ L) → ((wayR f (bits ++ [0]) (l.take (l.length / 2)) c).2 = true → n = (wayR f (bits ++ [0]) (l.take (l.length / 2)) c).1.length ∧ In8 s (wayR f (bits ++ [0]) (l.take (l.length / 2)) c).1 (new ++ L)) →
          JoinS (jn Try.prog hintsT (Tri Try.prog) 32 [true, true, true] [] K) [(0, some (.slice b bits.length 1)), (1, some (.slice a l.length 1)), (2, some (u32 c)), (8, some (.slice s n 1)), (9, some (.bool (wayR f (bits ++ [0]) (l.take (l.length / 2)) c).2))] σ := by
        intro σ s n new H1 g1
        refine ⟨?_⟩
        rw [s32j]
        generalize hw : wayR f (bits ++ [0]) (l.take (l.length / 2)) c = w at *
        obtain ⟨left, ok⟩ := w
        cases ok with
        | true => exact hK σ s n new H1 (fun _ => g1 rfl)
        | false =>
          simp only [bm_false]
          simp only at hK
          have hK1 : ∀ σ' s n new', Has σ' (new' ++ (new ++ L)) → ((wayR f (bits ++ [1]) (l.drop (l.length / 2)) c).2 = true → n = (wayR f (bits ++ [1]) (l.drop (l.length / 2)) c).1.length ∧ In8 s (wayR f (bits ++ [1]) (l.drop (l.length / 2)) c).1 (new' ++ (new ++ L))) → K (.tuple ⟨[.slice s n 1, .bool (wayR f (bits ++ [1]) (l.drop (l.length / 2)) c).2]⟩) σ' :=
            fun σ' s n new' H' g' => hK σ' s n (new' ++ new) (by simpa using H') fun h => by
              obtain ⟨q1, q2⟩ := g' h
              exact ⟨q1, by simpa using q2⟩
          rw [half64 (by omega), e4]
          have hb1 : In8 b bits (new ++ L) := hb.mono fun p h => by simp [h]
          have hi1 : InO a l (new ++ L) := hin.mono fun p h => by simp [h]
          refine ⟨req_mk (by omega) (req_mk (by omega) (req_mk (by omega) (chk_mk (hnil _) ?_))), req_mk (by omega) (req_mk (by omega) (req_mk (by omega) (chk_mk (hnil _) ?_))), req_mk (by omega) (req_mk (by omega) (req_mk (by omega) (chk_mk (hnil _) ?_)))⟩
          · exact dup1_mk H1 hb1 (by omega) trivial fun j σ' new' H2 => right H2 rfl hi1 hK1
          · exact dup2_mk H1 hb1 (by omega) trivial fun j σ' new' H2 => right H2 rfl hi1 hK1
          · exact dup3_mk H1 hb1 (by omega) trivial fun j σ' new' H2 => right H2 rfl hi1 hK1
      have left : ∀ {σ : AS} {j : Nat} {new : List (Nat × AObj)} {n : Nat}, Has σ ((j, .row .rw (cells8 (bits ++ [0]))) :: (new ++ L)) → n = bits.length + 1 →
          Tri Try.prog 32 [.slice (some ⟨j, 0, none⟩) n 1, .slice (a.map fun x => Addr.add x (Int.toNat 0 * szOf Try.prog 22)) (l.take (l.length / 2)).length 1, u32 c] σ fun v σ1 =>
            tTup v fun l1 => pSome l1[0]? fun u => tL 1 u fun s => tTup v fun l2 => pSome l2[1]? fun u2 => tB u2 fun ok =>
              JoinS (jn Try.prog hintsT (Tri Try.prog) 32 [true, true, true] [] K) [(0, some (.slice b bits.length 1)), (1, some (.slice a l.length 1)), (2, some (u32 c)), (8, some (.slice s.a s.n 1)), (9, some (.bool ok))] σ1 := by
        intro σ j new n H1 hn1
        subst hn1
        have e : bits.length + 1 = (bits ++ [0]).length := by simp
        rw [e]
        refine ih (bits := bits ++ [0]) H1 (.inr ⟨j, .rw, rfl, by simp⟩) (hin.left.mono fun p h => by simp [h]) (by omega) (by omega) (by simp; omega) fun σ2 s2 n2 new2 H2 g2 => ?_
        simp only [tTup_tup, pSome_some, List.getElem?_cons_zero, List.getElem?_cons_succ, tB_bool]
        refine tL_mk ?_
        refine join (new := new2 ++ ((j, .row .rw (cells8 (bits ++ [0]))) :: new)) (by simpa using H2) fun h => ?_
        obtain ⟨q1, q2⟩ := g2 h
        exact ⟨q1, by simpa using q2⟩
      refine ⟨req_mk (by omega) (req_mk (by omega) ?_), req_mk (by omega) (req_mk (by omega) ?_), req_mk (by omega) (req_mk (by omega) ?_)⟩
      · exact dup1_mk H hb (by omega) rfl fun j σ' new' H2 => left H2 rfl
      · exact dup2_mk H hb (by omega) rfl fun j σ' new' H2 => left H2 rfl
      · exact dup3_mk H hb (by omega) rfl fun j σ' new' H2 => left H2 rfl
end
end Go.AI
end
section
/- The reference: a text packed; no condition. -/
set_option maxRecDepth 10000
set_option linter.unusedVariables false
set_option linter.unusedSimpArgs false
namespace Go.AI
open Go.Proofs
open Go.Tab (wayR pathB bitAt byteAt packU bitsU packT packE alphE)
/-- What so many bits of a byte say. -/
def preB (w : List Int) (i : Nat) : Nat → Int
  | 0 => 0
  | m + 1 => preB w i m + 2 ^ m * bitAt w (i + m)
theorem preB_range {w : List Int} (h : ∀ b ∈ w, b = 0 ∨ b = 1) (i : Nat) : ∀ m, 0 ≤ preB w i m ∧ preB w i m < 2 ^ m
  | 0 => by simp [preB]
  | m + 1 => by
    have ih := preB_range h i m
    have hb := Go.Tab.bit_sum h (i + m)
    have hp : (2 : Int) ^ (m + 1) = 2 ^ m * 2 := Int.pow_succ ..
    have h0 : (0 : Int) ≤ 2 ^ m := Int.le_of_lt (Int.pow_pos (by omega))
    unfold preB
    rcases hb with e | e <;> rw [e] <;> omega
theorem preB_end {w : List Int} (i : Nat) : ∀ m n : Nat, w.length ≤ i + m → preB w i (m + n) = preB w i m
  | m, 0, _ => rfl
  | m, n + 1, h => by
    rw [show preB w i (m + (n + 1)) = preB w i (m + n) + 2 ^ (m + n) * bitAt w (i + (m + n)) from rfl, preB_end i m n h, Go.Tab.bitAt_out (by omega), Int.mul_zero, Int.add_zero]
theorem preB_byte (w : List Int) (q : Nat) : preB w (8 * q) 8 = byteAt w q := by
  simp only [preB, byteAt, Nat.add_zero]
  omega
section
variable {σ : AS} {K : Value → AS → Prop} {L : List (Nat × AObj)}
theorem row8_front {j : Nat} {ys : List Int} {P : List (Nat × AObj)} (H : Has σ (P ++ row8 j ys L)) : Has σ (row8 j ys (P ++ L)) := by
  cases ys with
  | nil => exact H
  | cons c t => exact H.perm List.perm_middle.symm
theorem row8_drop {j : Nat} {ys : List Int} (H : Has σ (row8 j ys L)) : Has σ L := by
  cases ys with
  | nil => exact H
  | cons c t => exact H.sub (.cons _ (.refl _))
theorem row8_memP {j : Nat} {ys : List Int} {P : List (Nat × AObj)} {p : Nat × AObj} (h : p ∈ P ++ row8 j ys L) : p ∈ row8 j ys (P ++ L) := by
  cases ys with
  | nil => exact h
  | cons c t =>
    show p ∈ (j, AObj.row .rw (cells8 (c :: t))) :: (P ++ L)
    rcases List.mem_append.1 h with h | h
    · simp [h]
    · rcases List.mem_cons.1 h with h | h
      · simp [h]
      · simp [h]
theorem push8s_mk {j : Nat} {ys ms : List Int} {c pa : Option Addr} {ce : Nat} {G : Sl → AS → Prop} (H : Has σ (row8 j ys L)) (hs : AllS j ys c ce) (hin : In8 pa ms (row8 j ys L)) (hm : ms ≠ []) (hb : ys.length + ms.length ≤ 1048576)
    (hG : ∀ j' σ', Has σ' ((j', .row .rw (cells8 (ys ++ ms))) :: L) → G ⟨some ⟨j', 0, none⟩, ys.length + ms.length⟩ σ') :
    srcCells σ 1 (some (.slice pa ms.length 1)) fun m new => appendTo σ 1 1 ⟨c, ys.length⟩ new m G := by
  refine src8_mk H hin ?_
  obtain ⟨hno, hne, hnil⟩ := hs
  cases ys with
  | nil =>
    obtain rfl := hnil rfl
    obtain ⟨d, t, rfl⟩ : ∃ d t, ms = d :: t := by
      cases ms with
      | nil => exact absurd rfl hm
      | cons d t => exact ⟨d, t, rfl⟩
    refine append_nil_mk (m := t.length) H (by simp only [List.length_cons] at hb; omega) fun j' σ2 H2 => ?_
    have := hG j' σ2 H2
    simpa using this
  | cons d t =>
    obtain ⟨rfl, rfl⟩ := hne (by simp)
    exact app8_mk H (by omega) rfl hG
theorem c13 {a u : Option Addr} {xs l : List Int} (H : Has σ L) (hin : InO a xs L) (hu : InO u l L) (hx : xs.length ≤ 300) (hl : l.length ≤ 300)
    (hE : packE xs l ≠ 0 → ∀ σ' new, Has σ' (new ++ L) → K (.tuple ⟨[.slice none 0 0, i64 (packE xs l)]⟩) σ')
    (hK : packE xs l = 0 → ∀ σ' s new, Has σ' (new ++ L) → In8 s (packT xs l) new → K (.tuple ⟨[.slice s (packT xs l).length 1, i64 0]⟩) σ') :
    Tri Try.prog 13 [.slice a xs.length 1, .slice u l.length 1] σ K := tri_inT (by
  rw [s13]
  refine c27 H hin hx ?_
  simp only [tI_int]
  have hz : szOf Try.prog 22 = 1 := by kernel_rfl
  have hz5 : szOf Try.prog 5 = 1 := by kernel_rfl
  refine bm_mk (fun h => ?_) (fun h => ?_)
  · have h : alphE xs ≠ 0 := by simpa using h
    have e : packE xs l = alphE xs := by unfold packE; rw [if_pos h]
    rw [e] at hE
    exact hE h _ [] H
  have h0 : alphE xs = 0 := by simpa using h
  have hpe : packE xs l = if ∀ c ∈ l, c ∈ xs then 0 else 5 := by unfold packE; rw [if_neg (by simp [h0])]
  have blen : ∀ z, (bitsU xs (l.take z)).length ≤ 300 * 301 := fun z => by
    refine Nat.le_trans (Go.Tab.bitsU_len xs _) (Nat.mul_le_mul ?_ (by omega))
    rw [List.length_take]; omega
  refine aloop (fun (z : Nat) rg σ => (z ≤ l.length ∧ ∀ c ∈ l.take z, c ∈ xs) ∧ (∃ j c ce new, AllS j (bitsU xs (l.take z)) c ce ∧ Has σ (row8 j (bitsU xs (l.take z)) (new ++ L)) ∧
    rg = [(0, some (.slice a xs.length 1)), (1, some (.slice u l.length 1)), (7, some (.slice c (bitsU xs (l.take z)).length ce)), (8, some (i64 z))])) (fun z => l.length - z) ?_ (a := 0)
    ⟨⟨Nat.zero_le _, by simp⟩, 0, none, 0, [], AllS.none _ _, H, rfl⟩
  rintro z rg σ1 X hX ⟨⟨hz1, hall⟩, j, c, ce, new, hs, H1, rfl⟩
  rw [s13l]
  have hbl := blen z
  refine bmd_mk (fun g => ?_) (fun g => ?_)
  · obtain ⟨v, hv⟩ : ∃ v, l[z]? = some v := ⟨l[z]'(by omega), by simp⟩
    refine newAt_mk H1 fun i0 σ2 H2' => ?_
    have H2 : Has σ2 (row8 j (bitsU xs (l.take z)) ((i0, .row .rw [.int .u8 1]) :: (new ++ L))) := row8_front (P := [_]) H2'
    refine req_mk (by omega) (req_mk g ?_)
    have hu2 : InO u l ((i0, AObj.row .rw [.int .u8 1]) :: row8 j (bitsU xs (l.take z)) (new ++ L)) := hu.mono fun p h => List.mem_cons_of_mem _ (row8_mem (by simp [h]))
    have hne : l ≠ [] := fun e => by rw [e] at g; simp at g; omega
    have rdv := rdO (k := z) (v := v) (G := fun v => v = v) H2' hu2 hv rfl
    obtain ⟨r, o, kk, cs, rfl, hm, hg⟩ := hu2.resolve_left hne
    simp only [pSome_some]
    refine req_mk hz.symm ?_
    obtain ⟨q, hq⟩ := List.getElem?_of_mem hm
    simp only [hz, add_none, Int.toNat_natCast, Nat.mul_one]
    refine ldc_mk H2' q hq (cellsU_get (hg z v hv)) (tI_mk ?_)
    refine c32 xs.length (bits := [1]) H2' (.inr ⟨i0, .rw, rfl, by simp⟩) (hin.mono fun p h => List.mem_cons_of_mem _ (row8_mem (by simp [h]))) (Nat.le_refl _) hx (by simp; omega) fun σ3 s3 n3 new3 H3 g3 => ?_
    simp only [tTup_tup, pSome_some, List.getElem?_cons_zero, List.getElem?_cons_succ, tB_bool]
    refine tL_mk ?_
    obtain ⟨w1, w2⟩ := Go.Tab.wayR_eq xs.length [1] xs v (Nat.le_refl _)
    by_cases hvx : v ∈ xs
    · rw [w2 hvx] at g3 ⊢
      simp only [Bool.not_true, bm_false]
      obtain ⟨q1, q2⟩ := g3 rfl
      subst q1
      rw [hz5, hs.1, chk_true]
      simp only
      have H4 : Has σ3 (row8 j (bitsU xs (l.take z)) ((new3 ++ [(i0, AObj.row .rw [.int .u8 1])]) ++ (new ++ L))) := by
        have := row8_front (P := new3 ++ [(i0, AObj.row .rw [.int .u8 1])]) (by simpa using H3)
        exact this
      have q3 : In8 s3 ([1] ++ pathB xs.length (xs.idxOf v)) (row8 j (bitsU xs (l.take z)) ((new3 ++ [(i0, AObj.row .rw [.int .u8 1])]) ++ (new ++ L))) := q2.mono fun p h => row8_memP (by simpa using h)
      refine push8s_mk H4 hs q3 (by simp) ?_ fun j' σ4 H5 => ?_
      · have := Go.Tab.pathB_len xs.length (xs.idxOf v)
        simp
        omega
      have et : l.take (z + 1) = l.take z ++ [v] := by rw [List.take_add_one, hv]; rfl
      have eb : bitsU xs (l.take z) ++ ([1] ++ pathB xs.length (xs.idxOf v)) = bitsU xs (l.take (z + 1)) := by
        rw [et, Go.Tab.bitsU_snoc]; simp
      have e1 : IntKind.wrap .i64 ((z : Int) + 1) = ((z + 1 : Nat) : Int) := by rw [wrap64 (by omega) (by omega)]; omega
      rw [← List.length_append, eb] 
      rw [eb] at H5
      simp only
      rw [e1]
      have hbne : bitsU xs (l.take (z + 1)) ≠ [] := by rw [← eb]; simp
      refine hX (z + 1) _ _ (by omega) ⟨⟨by omega, fun c hc => ?_⟩, j', _, 1, (new3 ++ [(i0, AObj.row .rw [.int .u8 1])]) ++ new, ⟨rfl, fun _ => ⟨rfl, rfl⟩, fun h => absurd h hbne⟩, ?_, rfl⟩
      · rw [et] at hc
        rcases List.mem_append.1 hc with hc | hc
        · exact hall c hc
        · rw [List.mem_singleton.1 hc]; exact hvx
      · rw [row8_ne hbne]
        simpa using H5
    · have hf := w1 hvx
      rw [hf]
      simp only [Bool.not_false, bm_true]
      rw [hpe, if_neg (fun g => hvx (g v (List.mem_of_getElem? hv)))] at hE
      refine hE (by decide) σ3 (new3 ++ [(i0, AObj.row .rw [.int .u8 1])] ++ new) ?_
      have H4 := row8_front (σ := σ3) (P := new3 ++ [(i0, AObj.row .rw [.int .u8 1])]) (L := new ++ L) (j := j) (ys := bitsU xs (l.take z)) (by simpa using H3)
      have H5 := row8_drop H4
      simpa using H5
  · have ez : z = l.length := by omega
    subst ez
    rw [List.take_length] at hs H1 hall hbl ⊢
    have hp0 : packE xs l = 0 := by rw [hpe, if_pos hall]
    have hK := hK hp0
    clear hE hX
    refine pushB H1 hs (by omega) fun j2 σ2 c2 H2 hs2 => ?_
    simp only
    have hw01 : ∀ b ∈ bitsU xs l ++ [0], b = 0 ∨ b = 1 := Go.Tab.bitsU_bit xs l
    have hpk : packT xs l = 225 :: (List.range (((bitsU xs l ++ [0]).length + 7) / 8)).map (byteAt (bitsU xs l ++ [0])) := rfl
    rw [show (bitsU xs l).length + 1 = (bitsU xs l ++ [0]).length by simp]
    have hwl : (bitsU xs l ++ [0]).length ≤ 300 * 301 + 1 := by simp; omega
    have hwne : bitsU xs l ++ [0] ≠ [] := by simp
    generalize bitsU xs l ++ [0] = w at *
    obtain ⟨rfl, _⟩ := hs2.2.1 hwne
    rw [row8_ne hwne] at H2
    refine newAt_mk H2 fun i22 σ3 H3 => ?_
    refine aloop (fun (q : Nat) rg σ => q ≤ (w.length + 7) / 8 ∧ (∃ jo new', Has σ ((jo, .row .rw (cells8 (225 :: (List.range q).map (byteAt w)))) :: (j2, .row .rw (cells8 w)) :: (new' ++ L)) ∧
      rg = [(7, some (.slice (some ⟨j2, 0, none⟩) w.length 1)), (11, some (.slice (some ⟨jo, 0, none⟩) (225 :: (List.range q).map (byteAt w)).length 1)), (12, some (i64 ((8 * q : Nat) : Int)))])) (fun q => w.length + 8 - 8 * q) ?_ (a := 0) ⟨Nat.zero_le _, i22, new, H3, rfl⟩
    clear H3 H2 hs2
    rintro q rg σ4 X hX ⟨hq, jo, new4, H4, rfl⟩
    rw [s13l1]
    refine bmd_mk (fun g => ?_) (fun g => ?_)
    · refine aloop (fun (m : Nat) rg σ' => (m ≤ 8 ∧ 8 * q + m ≤ w.length) ∧ σ' = σ4 ∧ rg = [(7, some (.slice (some ⟨j2, 0, none⟩) w.length 1)), (11, some (.slice (some ⟨jo, 0, none⟩) (225 :: (List.range q).map (byteAt w)).length 1)), (12, some (i64 ((8 * q : Nat) : Int))), (13, some (i64 (preB w (8 * q) m))), (14, some (i64 (2 ^ m))), (15, some (i64 ((8 * q + m : Nat) : Int)))]) (fun m => 8 - m) ?_ (a := 0) ⟨⟨by omega, by omega⟩, rfl, rfl⟩
      rintro m rg σ5 Y hY ⟨hm, rfl, rfl⟩
      rw [s13l2]
      have w8 : IntKind.wrap .i64 (((8 * q : Nat) : Int) + 8) = ((8 * q + 8 : Nat) : Int) := by rw [wrap64 (by omega) (by omega)]; omega
      rw [w8]
      have done : (m = 8 ∨ 8 * q + m = w.length) → JoinS (jn Try.prog hintsT (Tri Try.prog) 13 [true, true, true, true, true, true, true, false, true, false, false, true, false, false, true, false, true, false, false, false] [X, Y] K)
          [(7, some (.slice (some ⟨j2, 0, none⟩) w.length 1)), (11, some (.slice (some ⟨jo, 0, none⟩) (225 :: (List.range q).map (byteAt w)).length 1)), (12, some (i64 ((8 * q : Nat) : Int))), (13, some (i64 (preB w (8 * q) m))), (14, some (i64 (2 ^ m))), (15, some (i64 ((8 * q + m : Nat) : Int))), (62, some (.bool false))] σ5 := by
        intro hend
        refine ⟨?_⟩
        rw [s13j]
        simp only [bm_false]
        have hx1 : preB w (8 * q) m = byteAt w q := by
          rw [← preB_byte]
          rcases hend with e | e
          · rw [e]
          · have := preB_end (w := w) (8 * q) m (8 - m) (by omega)
            rw [show m + (8 - m) = 8 by omega] at this
            exact this.symm
        have hbr := Go.Tab.byteAt_range hw01 q
        have ew : IntKind.wrap .u8 (preB w (8 * q) m) = byteAt w q := by
          rw [hx1]
          simp [IntKind.wrap, IntKind.bits, IntKind.signed]
          omega
        rw [ew, w8]
        refine lit8_mk (ms := [byteAt w q]) H4 (by simp; omega) rfl fun j' σ6 new6 H6 => ?_
        have eo : 225 :: (List.range q).map (byteAt w) ++ [byteAt w q] = 225 :: (List.range (q + 1)).map (byteAt w) := by rw [List.range_succ]; simp
        simp only
        rw [← List.length_append, eo]
        rw [eo] at H6
        have e8 : 8 * q + 8 = 8 * (q + 1) := by omega
        rw [e8]
        refine hX (q + 1) _ _ (by omega) ⟨by omega, j', new6 ++ new4, ?_, rfl⟩
        refine H6.perm (.cons _ ?_)
        have : (new6 ++ ((j2, AObj.row .rw (cells8 w)) :: (new4 ++ L))).Perm ((j2, AObj.row .rw (cells8 w)) :: (new6 ++ (new4 ++ L))) := List.perm_middle
        simpa using this.symm
      refine bmd_mk (fun k1 => ?_) (fun k1 => done (.inl (by omega)))
      by_cases hk : 8 * q + m < w.length
      · have hdt : decide (((8 * q + m : Nat) : Int) < (w.length : Int)) = true := decide_eq_true (by omega)
        rw [hdt]
        refine ⟨?_⟩
        rw [s13j]
        simp only [bm_true]
        obtain ⟨v, hv⟩ : ∃ v, w[8 * q + m]? = some v := ⟨w[8 * q + m]'(by omega), by simp⟩
        refine req_mk (by omega) (req_mk (by omega) ?_)
        simp only [pSome_some, hz5, add_none, Int.toNat_natCast, Nat.mul_one, Nat.zero_add]
        refine req_mk trivial (ldc_mk H4 1 rfl (v := .int .u8 v) (by simp [cells8, hv]) (tI_mk ?_))
        have hb := hw01 v (List.mem_of_getElem? hv)
        have hba : bitAt w (8 * q + m) = v := by unfold bitAt; rw [List.getD_eq_getElem?_getD, hv]; rfl
        have hpr := preB_range hw01 (8 * q) m
        have hpm : (2 : Int) ^ m ≤ 128 := by
          have : m ≤ 7 := by omega
          have h2 : (2 : Nat) ^ m ≤ 2 ^ 7 := Nat.pow_le_pow_right (by omega) this
          have h3 : ((2 : Int) ^ m) = ((2 ^ m : Nat) : Int) := by simp
          rw [h3]; omega
        have hp0 : (0 : Int) ≤ 2 ^ m := Int.le_of_lt (Int.pow_pos (by omega))
        have hps : (2 : Int) ^ (m + 1) = 2 ^ m * 2 := Int.pow_succ ..
        have hv64 : IntKind.wrap .i64 v = v := wrap64 (by omega) (by omega)
        have hmul : (2 : Int) ^ m * v = if v = 0 then 0 else 2 ^ m := by rcases hb with e | e <;> simp [e]
        have hmb : 0 ≤ (2 : Int) ^ m * v ∧ (2 : Int) ^ m * v ≤ 128 := by rw [hmul]; split <;> omega
        have e1 : IntKind.wrap .i64 (preB w (8 * q) m + IntKind.wrap .i64 (2 ^ m * IntKind.wrap .i64 v)) = preB w (8 * q) (m + 1) := by
          rw [hv64, wrap64 (n := 2 ^ m * v) (by omega) (by omega), wrap64 (by omega) (by omega)]
          show _ = preB w (8 * q) m + 2 ^ m * bitAt w (8 * q + m)
          rw [hba]
        have e2 : IntKind.wrap .i64 (2 * 2 ^ m) = (2 : Int) ^ (m + 1) := by rw [wrap64 (by omega) (by omega), hps]; omega
        have e3 : IntKind.wrap .i64 (((8 * q + m : Nat) : Int) + 1) = ((8 * q + (m + 1) : Nat) : Int) := by rw [wrap64 (by omega) (by omega)]; omega
        rw [e1, e2, e3]
        exact hY (m + 1) _ _ (by omega) ⟨⟨by omega, by omega⟩, rfl, rfl⟩
      · have hdf : decide (((8 * q + m : Nat) : Int) < (w.length : Int)) = false := decide_eq_false (by omega)
        rw [hdf]
        exact done (.inr (by omega))
    · have eq1 : q = (w.length + 7) / 8 := by omega
      subst eq1
      rw [hpk] at hK
      exact hK σ4 (some ⟨jo, 0, none⟩) ((jo, AObj.row .rw (cells8 (225 :: (List.range ((w.length + 7) / 8)).map (byteAt w)))) :: (j2, .row .rw (cells8 w)) :: new4) (by simpa using H4) (.inr ⟨jo, .rw, rfl, by simp⟩))
end
end Go.AI
end
