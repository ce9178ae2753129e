/- Lemmas of the abstract condition ahead of code (a part of the library that the claim's proof stands on); they hold with no condition but those that each names. -/
import Derived.Test.YtpgedoljndppdaaGreatSzRef
import Derived.Test.YtpgedoljndppdaaGreatSzProg
import Derived.Test.YtpgedoljndppdaaGreatSzSort
import Derived.Test.YtpgedoljndppdaaGreatSzForm2
section
set_option linter.unusedSimpArgs false
set_option linter.unusedVariables false
/- A shelf stays well, whatever is done: plain lists; no condition but those that each names. -/
namespace Go.Shelf
structure FiOk (most : Int) (F : List Fi) : Prop where
  srt : Srt F
  nm : ∀ f ∈ F, named f.nm
  byte : ∀ f ∈ F, ∀ c ∈ f.b, 0 ≤ c ∧ c < 256
  flen : F.length ≤ 64
  tot : (totF F : Int) ≤ most
structure StOk (last : Int) (F : List Fi) (k : Nat) (x : Sm) : Prop where
  sle : 1 ≤ x.n ∧ x.n ≤ last
  has : x.nm ≠ [] → hasF F x.nm = true
  pl : x.pl ≤ (charsOf F x).length
  ln : x.l.length ≤ 4096
  lc : ∀ c ∈ x.l, 0 ≤ c ∧ c ≤ 4294967295
  l0 : x.nm ≠ [] → x.l = []
  md : x.mode = 1 ∨ x.mode = 2 ∨ x.mode = 3 ∨ x.mode = 5
  rd : x.rd ≤ 1048576 * k
  wr : x.wr ≤ 1048576 * k
section
variable {most last : Int} {F F' : List Fi} {S : List Sm} {k : Nat} {x y : Sm} {n : List UInt8} {mode : Int} {b l ms : List Int} {w : Bool}
theorem Ok.fi (ok : Ok most last F S k) : FiOk most F := ⟨ok.srt, ok.nm, ok.byte, ok.flen, ok.tot⟩
theorem Ok.st (ok : Ok most last F S k) (h : x ∈ S) : StOk last F k x := ⟨ok.sle x h, ok.has x h, ok.pl x h, ok.ln x h, ok.lc x h, ok.l0 x h, ok.md x h, ok.rd x h, ok.wr x h⟩
theorem Ok.of (h0 : 0 ≤ most) (h1 : most ≤ 1048576) (h2 : 0 ≤ last) (h3 : last ≤ k) (h4 : k ≤ 1024) (hf : FiOk most F) (sn : S.Pairwise fun x y => x.n < y.n) (sl : S.length ≤ 64) (hs : ∀ x ∈ S, StOk last F k x) : Ok most last F S k :=
  ⟨h0, h1, h2, h3, h4, hf.srt, hf.nm, hf.byte, hf.flen, hf.tot, sn, fun x h => (hs x h).sle, sl, fun x h => (hs x h).has, fun x h => (hs x h).pl, fun x h => (hs x h).ln, fun x h => (hs x h).lc, fun x h => (hs x h).l0, fun x h => (hs x h).md, fun x h => (hs x h).rd, fun x h => (hs x h).wr⟩
theorem StOk.mono (h : StOk last F k x) {last' : Int} {k' : Nat} (hl : last ≤ last') (hk : k ≤ k') : StOk last' F k' x :=
  ⟨⟨h.sle.1, by have := h.sle.2; omega⟩, h.has, h.pl, h.ln, h.lc, h.l0, h.md, by have := h.rd; omega, by have := h.wr; omega⟩
/-- Other files, of which this stream's is as long and more. -/
theorem StOk.file (h : StOk last F k x) (hh : x.nm ≠ [] → hasF F' x.nm = true) (hb : x.nm ≠ [] → (bOf F x.nm).length ≤ (bOf F' x.nm).length) : StOk last F' k x := by
  refine ⟨h.sle, hh, ?_, h.ln, h.lc, h.l0, h.md, h.rd, h.wr⟩
  have := h.pl
  rw [charsOf_len] at this ⊢
  split
  · rename_i e; rw [if_pos e] at this; exact this
  · rename_i e
    rw [if_neg e] at this
    have hb := hb e
    refine Nat.le_trans this ?_
    unfold sizeW
    split <;> omega
theorem Ok.next (ok : Ok most last F S k) (hk : k + 1 ≤ 1024) : Ok most last F S (k + 1) :=
  .of ok.most0 ok.most1 ok.last0 (by have := ok.last1; omega) hk ok.fi ok.sn ok.slen fun x h => (ok.st h).mono (Int.le_refl _) (Nat.le_succ _)
theorem held_false : held S n = false ↔ ∀ x ∈ S, x.nm ≠ n := by unfold held; simp
theorem named_ne (h : named n) : n ≠ [] := by have := h.1; intro c; rw [c] at this; simp at this
theorem setB_fi (hf : FiOk most F) (hb : ∀ c ∈ b, 0 ≤ c ∧ c < 256) (ht : hasF F n = true → (totF F : Int) - (bOf F n).length + b.length ≤ most) : FiOk most (setB n b F) := by
  refine ⟨setB_srt hf.srt, ?_, ?_, by unfold setB; rw [List.length_map]; exact hf.flen, ?_⟩
  · intro f h
    obtain ⟨g, hg, rfl⟩ := List.mem_map.1 h
    have := hf.nm g hg
    split <;> exact this
  · intro f h
    obtain ⟨g, hg, rfl⟩ := List.mem_map.1 h
    split
    · exact hb
    · exact hf.byte g hg
  · cases h : hasF F n with
    | true =>
      obtain ⟨f, h1, rfl⟩ := hasF_iff.1 h
      have := totF_setB hf.srt h1 b
      have h2 := ht h
      rw [bOf_mem hf.srt h1] at h2
      omega
    | false =>
      rw [setB_none (hasF_false.1 h)]
      exact hf.tot
theorem insF_fi (hf : FiOk most F) (hn : named n) (hh : hasF F n = false) (h64 : F.length ≠ 64) (hb : ∀ c ∈ b, 0 ≤ c ∧ c < 256) (ht : (totF F : Int) + b.length ≤ most) : FiOk most (insF ⟨n, b⟩ F) := by
  have hp := insF_perm ⟨n, b⟩ F
  refine ⟨insF_srt hf.srt (hasF_false.1 hh), ?_, ?_, ?_, ?_⟩
  · intro f h
    rcases List.mem_cons.1 (hp.mem_iff.1 h) with rfl | h
    · exact hn
    · exact hf.nm f h
  · intro f h
    rcases List.mem_cons.1 (hp.mem_iff.1 h) with rfl | h
    · exact hb
    · exact hf.byte f h
  · have := hp.length_eq
    rw [List.length_cons] at this
    have := hf.flen
    omega
  · rw [totF_insF]
    show ((b.length + totF F : Nat) : Int) ≤ most
    omega
theorem putE_zero (h : putE most F S n b = 0) : named n ∧ held S n = false ∧ (hasF F n = false → F.length ≠ 64) ∧ (totF F : Int) + b.length - (bOf F n).length ≤ most := by
  unfold putE at h
  split at h
  · cases h
  · rename_i h1
    split at h
    · cases h
    · rename_i h2
      split at h
      · cases h
      · rename_i h3
        split at h
        · cases h
        · rename_i h4
          exact ⟨Decidable.not_not.1 h1, by simpa using h2, fun h e => h3 ⟨h, e⟩, by omega⟩
theorem Ok.put (ok : Ok most last F S k) (hk : k + 1 ≤ 1024) (hb : ∀ c ∈ b, 0 ≤ c ∧ c < 256) (h : putE most F S n b = 0) : Ok most last (putF F n b) S (k + 1) := by
  obtain ⟨h1, h2, h3, h4⟩ := putE_zero h
  have hno := held_false.1 h2
  have other : ∀ x ∈ S, hasF (putF F n b) x.nm = hasF F x.nm ∧ bOf (putF F n b) x.nm = bOf F x.nm := by
    intro x hx
    have hne := hno x hx
    unfold putF
    cases hh : hasF F n with
    | true =>
      rw [if_pos rfl]
      exact ⟨hasF_setB _ _ _ _, by rw [bOf_setB, if_neg (fun c => hne c.1.symm)]⟩
    | false =>
      rw [if_neg (by decide)]
      refine ⟨?_, by rw [bOf_insF ok.srt hh, if_neg (fun c => hne c.symm)]⟩
      rw [hasF_insF]
      have : (n == x.nm) = false := by simpa using fun c => hne (Eq.symm c)
      show (n == x.nm || _) = _
      rw [this, Bool.false_or]
  refine .of ok.most0 ok.most1 ok.last0 (by have := ok.last1; omega) hk ?_ ok.sn ok.slen fun x hx => ?_
  · unfold putF
    cases hh : hasF F n with
    | true => rw [if_pos rfl]; exact setB_fi ok.fi hb (fun _ => by omega)
    | false =>
      rw [if_neg (by decide)]
      have e := bOf_none hh
      rw [e] at h4
      exact insF_fi ok.fi h1 hh (h3 hh) hb (by simpa using h4)
  · obtain ⟨e1, e2⟩ := other x hx
    exact ((ok.st hx).mono (Int.le_refl _) (Nat.le_succ _)).file (fun h => by rw [e1]; exact ok.has x hx h) (fun _ => by rw [e2]; exact Nat.le_refl _)
theorem Ok.del (ok : Ok most last F S k) (hk : k + 1 ≤ 1024) (h : delB F S n = true) : Ok most last (delF n F) S (k + 1) := by
  unfold delB at h
  rw [Bool.and_eq_true, Bool.not_eq_true'] at h
  have hno := held_false.1 h.2
  obtain ⟨f, hf, rfl⟩ := hasF_iff.1 h.1
  have sub : ∀ g, g ∈ delF f.nm F → g ∈ F := fun g hg => (List.mem_filter.1 hg).1
  refine .of ok.most0 ok.most1 ok.last0 (by have := ok.last1; omega) hk ⟨delF_srt ok.srt, fun g hg => ok.nm g (sub g hg), fun g hg => ok.byte g (sub g hg), ?_, ?_⟩ ok.sn ok.slen fun x hx => ?_
  · have := List.length_filter_le (fun g : Fi => !(g.nm == f.nm)) F
    have := ok.flen
    show (List.filter _ F).length ≤ 64
    omega
  · have := totF_delF ok.srt hf
    have := ok.tot
    omega
  · have hne := hno x hx
    exact ((ok.st hx).mono (Int.le_refl _) (Nat.le_succ _)).file (fun h => by rw [hasF_delF (fun c => hne c.symm)]; exact ok.has x hx h) (fun _ => by rw [bOf_delF (fun c => hne c.symm)]; exact Nat.le_refl _)
theorem openE_zero (h : openE F S n mode = 0) : named n ∧ (mode = 1 ∨ mode = 2 ∨ mode = 3 ∨ mode = 5) ∧ S.length ≠ 64 ∧ (hasF F n = false → F.length ≠ 64) ∧ (held S n = true → mode = 2) := by
  unfold openE at h
  split at h
  · cases h
  · rename_i h1
    split at h
    · cases h
    · rename_i h2
      split at h
      · cases h
      · rename_i h3
        split at h
        · cases h
        · rename_i h4
          split at h
          · cases h
          · rename_i h5
            refine ⟨Decidable.byContradiction fun c => h1 (.inl c), Decidable.byContradiction fun c => h1 (.inr c), h2, fun h e => h4 ⟨h, e⟩, fun hh => Decidable.byContradiction fun c => h5 ⟨hh, .inr c⟩⟩
theorem snoc_sn (sn : S.Pairwise fun x y => x.n < y.n) (h : ∀ x ∈ S, x.n < y.n) : (S ++ [y]).Pairwise fun x y => x.n < y.n := by
  rw [List.pairwise_append]
  exact ⟨sn, by simp, fun a ha b hb => by rw [List.mem_singleton.1 hb]; exact h a ha⟩
theorem Ok.open (ok : Ok most last F S k) (hk : k + 1 ≤ 1024) (h : openE F S n mode = 0) : Ok most (last + 1) (openF F n mode) (S ++ [openS F last n mode w]) (k + 1) := by
  obtain ⟨h1, h2, h3, h4, h5⟩ := openE_zero h
  have hne := named_ne h1
  have fi : FiOk most (openF F n mode) := by
    unfold openF
    cases hh : hasF F n with
    | true =>
      rw [if_pos rfl]
      split
      · refine setB_fi ok.fi (by simp) fun _ => ?_
        have := ok.tot
        simp only [List.length_nil]
        omega
      · exact ok.fi
    | false =>
      rw [if_neg (by decide)]
      refine insF_fi ok.fi h1 hh (h4 hh) (by simp) ?_
      have := ok.tot
      simpa using this
  have hhas : hasF (openF F n mode) n = true := by
    unfold openF
    cases hh : hasF F n with
    | true =>
      rw [if_pos rfl]
      split
      · rw [hasF_setB]; exact hh
      · exact hh
    | false => rw [if_neg (by decide), hasF_insF]; simp
  have last1 := ok.last1
  refine .of ok.most0 ok.most1 (by have := ok.last0; omega) (by omega) hk fi (snoc_sn ok.sn fun x hx => ?_) (by rw [List.length_append]; have := ok.slen; simp; omega) fun x hx => ?_
  · have := (ok.sle x hx).2
    show x.n < last + 1
    omega
  · rcases List.mem_append.1 hx with hx | hx
    · refine ((ok.st hx).mono (by omega) (Nat.le_succ _)).file (fun h => ?_) (fun h => ?_)
      · have := ok.has x hx h
        unfold openF
        split
        · split
          · rw [hasF_setB]; exact this
          · exact this
        · rw [hasF_insF, this]; simp
      · unfold openF
        cases hh : hasF F n with
        | true =>
          rw [if_pos rfl]
          split
          · rename_i hm
            rw [bOf_setB, if_neg]
            · exact Nat.le_refl _
            · rintro ⟨c, _⟩
              have hd : held S n = true := by
                unfold held
                rw [List.any_eq_true]
                exact ⟨x, hx, by rw [c]; simp⟩
              have := h5 hd
              omega
          · exact Nat.le_refl _
        | false =>
          rw [if_neg (by decide), bOf_insF ok.srt hh, if_neg]
          · exact Nat.le_refl _
          · intro c
            have c : n = x.nm := c
            rw [c] at hh
            rw [ok.has x hx h] at hh
            cases hh
    · rw [List.mem_singleton.1 hx]
      refine ⟨⟨by have := ok.last0; show 1 ≤ last + 1; omega, Int.le_refl _⟩, fun _ => hhas, ?_, by simp [openS], by simp [openS], fun _ => rfl, h2, by simp [openS], by simp [openS]⟩
      rw [charsOf_len, if_neg (show ¬ (openS F last n mode w).nm = [] from hne)]
      show (if mode = 5 then sizeW w (bOf (openF F n mode) n) else 0) ≤ sizeW w (bOf (openF F n mode) n)
      split
      · exact Nat.le_refl _
      · exact Nat.zero_le _
theorem putC_le {c : Int} (h : 0 ≤ c ∧ c ≤ 4294967295) : 0 ≤ putC w c ∧ putC w c ≤ 4294967295 := by
  unfold putC
  split
  · exact h
  · split <;> omega
theorem Ok.buf (ok : Ok most last F S k) (hk : k + 1 ≤ 1024) (hc : ∀ c ∈ l, 0 ≤ c ∧ c ≤ 4294967295) (h : bufE S l.length mode = 0) : Ok most (last + 1) F (S ++ [bufS last l mode w]) (k + 1) := by
  unfold bufE at h
  split at h
  · cases h
  rename_i h1
  split at h
  · cases h
  rename_i h2
  have last1 := ok.last1
  refine .of ok.most0 ok.most1 (by have := ok.last0; omega) (by omega) hk ok.fi (snoc_sn ok.sn fun x hx => ?_) (by rw [List.length_append]; have := ok.slen; simp; omega) fun x hx => ?_
  · have := (ok.sle x hx).2
    show x.n < last + 1
    omega
  · rcases List.mem_append.1 hx with hx | hx
    · exact (ok.st hx).mono (by omega) (Nat.le_succ _)
    · rw [List.mem_singleton.1 hx]
      refine ⟨⟨by have := ok.last0; show 1 ≤ last + 1; omega, Int.le_refl _⟩, fun h => absurd rfl h, by simp [bufS], by simp only [bufS, List.length_map]; omega, ?_, fun h => absurd rfl h, ?_, by simp [bufS], by simp [bufS]⟩
      · intro c hc'
        obtain ⟨d, hd, rfl⟩ := List.mem_map.1 hc'
        exact putC_le (hc d hd)
      · show mode = 1 ∨ mode = 2 ∨ mode = 3 ∨ mode = 5
        omega
theorem setS_len (S : List Sm) (y : Sm) : (setS y S).length = S.length := by unfold setS; rw [List.length_map]
theorem Ok.upd (ok : Ok most last F S k) (hk : k + 1 ≤ 1024) (hy : StOk last F (k + 1) y) : Ok most last F (setS y S) (k + 1) := by
  refine .of ok.most0 ok.most1 ok.last0 (by have := ok.last1; omega) hk ok.fi (setS_sn ok.sn) (by rw [setS_len]; exact ok.slen) fun z hz => ?_
  rcases setS_mem hz with rfl | hz
  · exact hy
  · exact (ok.st hz).mono (Int.le_refl _) (Nat.le_succ _)
theorem Ok.rdS (ok : Ok most last F S k) (hk : k + 1 ≤ 1024) (hx : x ∈ S) {j : Nat} (hp : x.pl + j ≤ (charsOf F x).length) : Ok most last F (setS (rdS x j) S) (k + 1) := by
  have h := ok.st hx
  have hc := chars_le ok.d hx
  exact ok.upd hk ⟨h.sle, h.has, hp, h.ln, h.lc, h.l0, h.md, by have := h.rd; show x.rd + j ≤ _; omega, by have := h.wr; show x.wr ≤ _; omega⟩
theorem Ok.seek (ok : Ok most last F S k) (hk : k + 1 ≤ 1024) (hx : x ∈ S) {p q : Int} : Ok most last F (setS (seekS F x p q) S) (k + 1) := by
  have h := ok.st hx
  refine ok.upd hk ⟨h.sle, h.has, ?_, h.ln, h.lc, h.l0, h.md, by have := h.rd; show x.rd ≤ _; omega, by have := h.wr; show x.wr ≤ _; omega⟩
  have hp := h.pl
  show (seekTo (if q = 0 then 0 else if q = 1 then (x.pl : Int) else (charsOf F x).length) (charsOf F x).length p).toNat ≤ (charsOf F x).length
  have := seekTo_in (base := if q = 0 then 0 else if q = 1 then (x.pl : Int) else (charsOf F x).length) (sz := (charsOf F x).length) (p := p) (by split; omega; split <;> omega) (by split; omega; split <;> omega)
  omega
theorem Ok.close (ok : Ok most last F S k) (hk : k + 1 ≤ 1024) {m : Int} : Ok most last F (delS m S) (k + 1) := by
  refine .of ok.most0 ok.most1 ok.last0 (by have := ok.last1; omega) hk ok.fi (ok.sn.filter _) ?_ fun z hz => (ok.st (List.mem_filter.1 hz).1).mono (Int.le_refl _) (Nat.le_succ _)
  have := List.length_filter_le (fun y : Sm => !(y.n == m)) S
  have := ok.slen
  show (List.filter _ S).length ≤ 64
  omega
theorem wrE_zero (h : wrE most F x ms = 0) : x.mode ≠ 2 ∧ (x.nm ≠ [] → (totF F : Int) - (bOf F x.nm).length + (wrB (bOf F x.nm) x ms).length ≤ most) := by
  unfold wrE at h
  split at h
  · cases h
  · rename_i h1
    split at h
    · cases h
    · rename_i h2
      exact ⟨h1, fun hne => by
        have : ¬ ((totF F : Int) - (bOf F x.nm).length + (wrB (bOf F x.nm) x ms).length > most) := fun c => h2 ⟨hne, c⟩
        omega⟩
theorem Ok.write (ok : Ok most last F S k) (hk : k + 1 ≤ 1024) (hx : x ∈ S) (hc : ∀ c ∈ ms, 0 ≤ c ∧ c ≤ 4294967295) (hm : ms.length ≤ 1000000) (h : wrE most F x ms = 0) : Ok most last (wrF F x ms) (setS (wrS x ms) S) (k + 1) := by
  obtain ⟨h1, h2⟩ := wrE_zero h
  have hs := ok.st hx
  by_cases e : x.nm = []
  · have eF : wrF F x ms = F := by unfold wrF; rw [if_pos e]
    have eS : wrS x ms = { x with l := bufW x.l x.pl (ms.map (putC x.wd)), pl := min (x.pl + ms.length) x.l.length, wr := x.wr + ms.length } := by unfold wrS; rw [if_pos e]
    have hp := hs.pl
    rw [charsOf_len, if_pos e] at hp
    rw [eF]
    refine ok.upd hk ?_
    rw [eS]
    refine ⟨hs.sle, hs.has, ?_, ?_, ?_, fun h => absurd e h, hs.md, by have := hs.rd; show x.rd ≤ _; omega, by have := hs.wr; show x.wr + ms.length ≤ _; omega⟩
    · rw [charsOf_len, if_pos (show ({ x with l := bufW x.l x.pl (ms.map (putC x.wd)), pl := min (x.pl + ms.length) x.l.length, wr := x.wr + ms.length } : Sm).nm = [] from e)]
      show min (x.pl + ms.length) x.l.length ≤ (bufW x.l x.pl (ms.map (putC x.wd))).length
      rw [bufW_len hp]
      omega
    · show (bufW x.l x.pl (ms.map (putC x.wd))).length ≤ 4096
      rw [bufW_len hp]
      exact hs.ln
    · intro c hcm
      have hcm : c ∈ bufW x.l x.pl (ms.map (putC x.wd)) := hcm
      unfold bufW at hcm
      rcases List.mem_append.1 hcm with hcm | hcm
      · rcases List.mem_append.1 hcm with hcm | hcm
        · exact hs.lc c (List.mem_of_mem_take hcm)
        · obtain ⟨d, hd, rfl⟩ := List.mem_map.1 (List.mem_of_mem_take hcm)
          exact putC_le (hc d hd)
      · exact hs.lc c (List.mem_of_mem_drop hcm)
  · have hp := hs.pl
    rw [charsOf_len, if_neg e] at hp
    have hu := un_le hp
    have hh := hs.has e
    have eF : wrF F x ms = setB x.nm (wrB (bOf F x.nm) x ms) F := by unfold wrF; rw [if_neg e]
    have eS : wrS x ms = { x with pl := x.pl + ms.length, wr := x.wr + ms.length } := by unfold wrS; rw [if_neg e]
    have hlen : (bOf F x.nm).length ≤ (wrB (bOf F x.nm) x ms).length := by rw [wrB_len hu]; omega
    have eb : bOf (setB x.nm (wrB (bOf F x.nm) x ms) F) x.nm = wrB (bOf F x.nm) x ms := by rw [bOf_setB, if_pos ⟨rfl, hh⟩]
    have fi : FiOk most (wrF F x ms) := by
      rw [eF]
      refine setB_fi ok.fi (fun c hcm => ?_) (fun _ => h2 e)
      unfold wrB at hcm
      rcases setA_mem hcm with hcm | hcm
      · exact bOf_byte ok.byte _ c hcm
      · exact enc_byte (fun d hd => (hc d hd).1) c hcm
    refine .of ok.most0 ok.most1 ok.last0 (by have := ok.last1; omega) hk fi (setS_sn ok.sn) (by rw [setS_len]; exact ok.slen) fun z hz => ?_
    rw [eF]
    rcases setS_mem hz with rfl | hz
    · rw [eS]
      refine ⟨hs.sle, fun h => ?_, ?_, hs.ln, hs.lc, hs.l0, hs.md, by have := hs.rd; show x.rd ≤ _; omega, by have := hs.wr; show x.wr + ms.length ≤ _; omega⟩
      · show hasF _ x.nm = true
        rw [hasF_setB]; exact hh
      · rw [charsOf_len, if_neg (show ¬ ({ x with pl := x.pl + ms.length, wr := x.wr + ms.length } : Sm).nm = [] from e)]
        show x.pl + ms.length ≤ sizeW x.wd (bOf (setB x.nm (wrB (bOf F x.nm) x ms) F) x.nm)
        rw [eb]
        apply un_size
        rw [wrB_len hu]
        omega
    · refine ((ok.st hz).mono (Int.le_refl _) (Nat.le_succ _)).file (fun h => by rw [hasF_setB]; exact ok.has z hz h) (fun h => ?_)
      rw [bOf_setB]
      split
      · rename_i c
        rw [← c.1]
        exact hlen
      · exact Nat.le_refl _
theorem Ok.new {m : Int} (h0 : 0 ≤ m) (h1 : m ≤ 1048576) : Ok m 0 [] [] 0 :=
  .of h0 h1 (Int.le_refl _) (Int.le_refl _) (by decide) ⟨List.Pairwise.nil, by simp, by simp, by simp, by simpa [totF] using h0⟩ List.Pairwise.nil (by simp) (by simp)
end
end Go.Shelf
end
section
set_option linter.unusedSimpArgs false
set_option linter.unusedVariables false
set_option maxRecDepth 10000
/- Each act's answer and what is left, told as one, on both sides; no condition but those that each names. (printed by mkj.py) -/
namespace Go.Shelf
def putO (most : Int) (F : List Fi) (S : List Sm) (n : List UInt8) (b : List Int) : Int × List Fi := (putE most F S n b, if putE most F S n b = 0 then putF F n b else F)
def delO (F : List Fi) (S : List Sm) (n : List UInt8) : Bool × List Fi := (delB F S n, if delB F S n = true then delF n F else F)
structure OpO where
  n : Int
  e : Int
  last : Int
  F : List Fi
  S : List Sm
def opO (last : Int) (F : List Fi) (S : List Sm) (n : List UInt8) (mode : Int) (w : Bool) : OpO := if openE F S n mode = 0 then ⟨last + 1, 0, last + 1, openF F n mode, S ++ [openS F last n mode w]⟩ else ⟨0, openE F S n mode, last, F, S⟩
def buO' (last : Int) (F : List Fi) (S : List Sm) (l : List Int) (mode : Int) (w : Bool) : OpO := if bufE S l.length mode = 0 then ⟨last + 1, 0, last + 1, F, S ++ [bufS last l mode w]⟩ else ⟨0, bufE S l.length mode, last, F, S⟩
def wrO (most : Int) (F : List Fi) (S : List Sm) (n : Int) (ms : List Int) : Int × List Fi × List Sm :=
  match atS S n with | none => (5, F, S) | some x => if wrE most F x ms = 0 then (0, wrF F x ms, setS (wrS x ms) S) else (wrE most F x ms, F, S)
structure RdO where
  c : Int
  ok : Bool
  e : Int
  S : List Sm
def rdO (F : List Fi) (S : List Sm) (n : Int) : RdO :=
  match atS S n with | none => ⟨0, false, 5, S⟩ | some x => if reads x then (match (charsOf F x)[x.pl]? with | some c => ⟨c, true, 0, setS (rdS x 1) S⟩ | none => ⟨0, false, 0, S⟩) else ⟨0, false, 1, S⟩
structure LnO where
  l : List Int
  e : Int
  S : List Sm
def lnO (F : List Fi) (S : List Sm) (n : Int) (mx : Int) : LnO :=
  match atS S n with | none => ⟨[], 5, S⟩ | some x => if reads x then ⟨lineOf mx.toNat ((charsOf F x).drop x.pl), 0, setS (rdS x (lineOf mx.toNat ((charsOf F x).drop x.pl)).length) S⟩ else ⟨[], 1, S⟩
def skO (F : List Fi) (S : List Sm) (n p q : Int) : Int × List Sm := match atS S n with | none => (5, S) | some x => if seekE q = 0 then (0, setS (seekS F x p q) S) else (1, S)
structure ClO where
  rd : Nat
  wr : Nat
  l : List Int
  e : Int
  S : List Sm
def clO (S : List Sm) (n : Int) : ClO := match atS S n with | none => ⟨0, 0, [], 5, S⟩ | some x => ⟨x.rd, x.wr, x.l, 0, delS n S⟩
section
variable {most last : Int} {F : List Fi} {S : List Sm} {k : Nat} {n : List UInt8} {m mode p q : Int} {b l ms : List Int} {w : Bool}
theorem Ok.putO (ok : Ok most last F S k) (hk : k + 1 ≤ 1024) (hb : ∀ c ∈ b, 0 ≤ c ∧ c < 256) : Ok most last (Shelf.putO most F S n b).2 S (k + 1) := by
  unfold Shelf.putO
  simp only
  split
  · exact ok.put hk hb (by assumption)
  · exact ok.next hk
theorem Ok.delO (ok : Ok most last F S k) (hk : k + 1 ≤ 1024) : Ok most last (Shelf.delO F S n).2 S (k + 1) := by
  unfold Shelf.delO
  simp only
  split
  · exact ok.del hk (by assumption)
  · exact ok.next hk
theorem Ok.opO (ok : Ok most last F S k) (hk : k + 1 ≤ 1024) : Ok most (Shelf.opO last F S n mode w).last (Shelf.opO last F S n mode w).F (Shelf.opO last F S n mode w).S (k + 1) := by
  unfold Shelf.opO
  split
  · exact ok.open hk (by assumption)
  · exact ok.next hk
theorem Ok.buO (ok : Ok most last F S k) (hk : k + 1 ≤ 1024) (hc : ∀ c ∈ l, 0 ≤ c ∧ c ≤ 4294967295) : Ok most (Shelf.buO' last F S l mode w).last (Shelf.buO' last F S l mode w).F (Shelf.buO' last F S l mode w).S (k + 1) := by
  unfold Shelf.buO'
  split
  · exact ok.buf hk hc (by assumption)
  · exact ok.next hk
theorem Ok.wrO (ok : Ok most last F S k) (hk : k + 1 ≤ 1024) (hc : ∀ c ∈ ms, 0 ≤ c ∧ c ≤ 4294967295) (hm : ms.length ≤ 1000000) : Ok most last (Shelf.wrO most F S m ms).2.1 (Shelf.wrO most F S m ms).2.2 (k + 1) := by
  unfold Shelf.wrO
  split
  · exact ok.next hk
  · rename_i x h
    split
    · exact ok.write hk (atS_mem h).1 hc hm (by assumption)
    · exact ok.next hk
theorem Ok.rdO (ok : Ok most last F S k) (hk : k + 1 ≤ 1024) : Ok most last F (Shelf.rdO F S m).S (k + 1) := by
  unfold Shelf.rdO
  split
  · exact ok.next hk
  · rename_i x h
    split
    · split
      · rename_i c hc
        have := (List.getElem?_eq_some_iff.1 hc).1
        exact ok.rdS hk (atS_mem h).1 (by omega)
      · exact ok.next hk
    · exact ok.next hk
theorem Ok.lnO (ok : Ok most last F S k) (hk : k + 1 ≤ 1024) : Ok most last F (Shelf.lnO F S m p).S (k + 1) := by
  unfold Shelf.lnO
  split
  · exact ok.next hk
  · rename_i x h
    split
    · have h1 := lineOf_len p.toNat ((charsOf F x).drop x.pl)
      rw [List.length_drop] at h1
      have h2 := ok.pl x (atS_mem h).1
      exact ok.rdS hk (atS_mem h).1 (by omega)
    · exact ok.next hk
theorem Ok.skO (ok : Ok most last F S k) (hk : k + 1 ≤ 1024) : Ok most last F (Shelf.skO F S m p q).2 (k + 1) := by
  unfold Shelf.skO
  split
  · exact ok.next hk
  · rename_i x h
    split
    · exact ok.seek hk (atS_mem h).1
    · exact ok.next hk
theorem Ok.clO (ok : Ok most last F S k) (hk : k + 1 ≤ 1024) : Ok most last F (Shelf.clO S m).S (k + 1) := by
  unfold Shelf.clO
  split
  · exact ok.next hk
  · exact ok.close hk
end
end Go.Shelf
namespace Go.AI
open Go.Proofs Go.Shelf Go.Sort
section
variable {σ : AS} {K : Value → AS → Prop} {fr : List (Nat × AObj)} {s w k B : Nat} {most last n mode p q mx : Int} {nm : List UInt8} {F : List Fi} {S : List Sm} {l : List Int} {a : Option Addr} {wd : Bool}
theorem c13m (hS : PSt s most last F S fr σ) (ok : Ok most last F S k) (ha : InpZ u8 a l fr) (hl : l.length ≤ 1048576)
    (hK : ∀ σ', PSt s most last (Shelf.putO most F S nm l).2 S fr σ' → K (i64 (Shelf.putO most F S nm l).1) σ') : Tri Tryz.prog 13 [ptr s, .string (bsV nm), .slice a l.length 1] σ K := by
  unfold Shelf.putO at hK
  simp only at hK
  refine c13 hS ok ha hl (fun h σ' S' => hK σ' (by rw [if_neg h]; exact S')) (fun h σ' S' => ?_)
  have := hK σ' (by rw [if_pos h]; exact S')
  rw [h] at this
  exact this
theorem c24m (hS : PSt s most last F S fr σ) (ok : Ok most last F S k) (hK : ∀ σ', PSt s most last (Shelf.delO F S nm).2 S fr σ' → K (.bool (Shelf.delO F S nm).1) σ') : Tri Tryz.prog 24 [ptr s, .string (bsV nm)] σ K := by
  unfold Shelf.delO at hK
  simp only at hK
  refine c24 hS ok.srt (fun h σ' S' => ?_) (fun h σ' S' => ?_)
  · have := hK σ' (by rw [if_neg (by rw [h]; decide)]; exact S')
    rw [h] at this
    exact this
  · have := hK σ' (by rw [if_pos h]; exact S')
    rw [h] at this
    exact this
theorem c15m (hS : PSt s most last F S fr σ) (ok : Ok most last F S k)
    (hK : ∀ σ', PSt s most (Shelf.opO last F S nm mode wd).last (Shelf.opO last F S nm mode wd).F (Shelf.opO last F S nm mode wd).S fr σ' → K (.tuple ⟨[i64 (Shelf.opO last F S nm mode wd).n, i64 (Shelf.opO last F S nm mode wd).e]⟩) σ') : Tri Tryz.prog 15 [ptr s, .string (bsV nm), i64 mode, .bool wd] σ K := by
  unfold Shelf.opO at hK
  refine c15 hS ok (fun h σ' S' => ?_) (fun h σ' S' => ?_)
  · rw [if_neg h] at hK
    exact hK σ' S'
  · rw [if_pos h] at hK
    exact hK σ' S'
theorem c27m (hS : PSt s most last F S fr σ) (ok : Ok most last F S k) (ha : Inp u32 a l fr) (hc : ∀ c ∈ l, 0 ≤ c ∧ c ≤ 4294967295)
    (hK : ∀ σ', PSt s most (Shelf.buO' last F S l mode wd).last (Shelf.buO' last F S l mode wd).F (Shelf.buO' last F S l mode wd).S fr σ' → K (.tuple ⟨[i64 (Shelf.buO' last F S l mode wd).n, i64 (Shelf.buO' last F S l mode wd).e]⟩) σ') : Tri Tryz.prog 27 [ptr s, .slice a l.length 1, i64 mode, .bool wd] σ K := by
  unfold Shelf.buO' at hK
  refine c27 hS ok ha hc (fun h σ' S' => ?_) (fun h σ' S' => ?_)
  · rw [if_neg h] at hK
    exact hK σ' S'
  · rw [if_pos h] at hK
    exact hK σ' S'
theorem c14m {ms : List Int} (hS : PSt s most last F S fr σ) (ok : Ok most last F S k) (ha : Inp u32 a ms fr) (hc : ∀ c ∈ ms, 0 ≤ c ∧ c ≤ 4294967295) (hm : ms.length ≤ 1000000)
    (hK : ∀ σ', PSt s most last (Shelf.wrO most F S n ms).2.1 (Shelf.wrO most F S n ms).2.2 fr σ' → K (i64 (Shelf.wrO most F S n ms).1) σ') : Tri Tryz.prog 14 [ptr s, i64 n, .slice a ms.length 1] σ K := by
  unfold Shelf.wrO at hK
  refine c14 hS ok ha hc hm (fun h σ' S' => ?_) (fun x hx h σ' S' => ?_) (fun x hx h σ' S' => ?_)
  · rw [h] at hK
    exact hK σ' S'
  · rw [hx] at hK
    simp only [if_neg h] at hK
    exact hK σ' S'
  · rw [hx] at hK
    simp only [if_pos h] at hK
    exact hK σ' S'
theorem c37m (hS : PSt s most last F S fr σ) (ok : OkD F S B) (hB : B ≤ 4294967294)
    (hK : ∀ σ', PSt s most last F (Shelf.rdO F S n).S fr σ' → K (.tuple ⟨[u32 (Shelf.rdO F S n).c, .bool (Shelf.rdO F S n).ok, i64 (Shelf.rdO F S n).e]⟩) σ') : Tri Tryz.prog 37 [ptr s, i64 n] σ K := by
  unfold Shelf.rdO at hK
  refine c37 hS ok hB (fun h σ' S' => ?_) (fun x hx h σ' S' => ?_) (fun x hx h hz σ' S' => ?_) (fun x c hx h hc σ' S' => ?_)
  · rw [h] at hK
    exact hK σ' S'
  · rw [hx] at hK
    simp only [h, Bool.false_eq_true, if_false] at hK
    exact hK σ' S'
  · rw [hx] at hK
    have : (charsOf F x)[x.pl]? = none := List.getElem?_eq_none hz
    simp only [h, if_true, this] at hK
    exact hK σ' S'
  · rw [hx] at hK
    simp only [h, if_true, hc] at hK
    exact hK σ' S'
theorem c39m (hS : PSt s most last F S fr σ) (ok : OkD F S B) (hB : B ≤ 1073741824)
    (hK : ∀ σ' a' e' rows, SlC 1 a' e' (cellsU (Shelf.lnO F S n mx).l) rows → PSt s most last F (Shelf.lnO F S n mx).S (rows ++ fr) σ' → K (.tuple ⟨[.slice a' (Shelf.lnO F S n mx).l.length e', i64 (Shelf.lnO F S n mx).e]⟩) σ') : Tri Tryz.prog 39 [ptr s, i64 n, i64 mx] σ K := by
  unfold Shelf.lnO at hK
  refine c39 hS ok hB (fun h σ' S' => ?_) (fun x hx h σ' S' => ?_) (fun x hx h σ' a' e' rows hs S' => ?_)
  · rw [h] at hK
    exact hK σ' none 0 [] (SlC.nil 0) S'
  · rw [hx] at hK
    simp only [h, Bool.false_eq_true, if_false] at hK
    exact hK σ' none 0 [] (SlC.nil 0) S'
  · rw [hx] at hK
    simp only [h, if_true] at hK
    exact hK σ' a' e' rows hs S'
theorem c16m (hS : PSt s most last F S fr σ) (ok : OkD F S B) (hp : -9223372036854775808 ≤ p ∧ p ≤ 9223372036854775807)
    (hK : ∀ σ', PSt s most last F (Shelf.skO F S n p q).2 fr σ' → K (i64 (Shelf.skO F S n p q).1) σ') : Tri Tryz.prog 16 [ptr s, i64 n, i64 p, i64 q] σ K := by
  unfold Shelf.skO at hK
  refine c16 hS ok hp (fun h σ' S' => ?_) (fun x hx h σ' S' => ?_) (fun x hx h σ' S' => ?_)
  · rw [h] at hK
    exact hK σ' S'
  · rw [hx] at hK
    simp only [if_neg h] at hK
    exact hK σ' S'
  · rw [hx] at hK
    simp only [if_pos h] at hK
    exact hK σ' S'
theorem c22m (hS : PSt s most last F S fr σ) (ok : Ok most last F S k)
    (hK : ∀ σ' a' e' rows, SlC 1 a' e' (cellsU (Shelf.clO S n).l) rows → PSt s most last F (Shelf.clO S n).S (rows ++ fr) σ' → K (.tuple ⟨[u32 (Shelf.clO S n).rd, u32 (Shelf.clO S n).wr, .slice a' (Shelf.clO S n).l.length e', i64 (Shelf.clO S n).e]⟩) σ') : Tri Tryz.prog 22 [ptr s, i64 n] σ K := by
  unfold Shelf.clO at hK
  refine c22 hS ok (fun h σ' S' => ?_) (fun x hx σ' a' e' rows hs S' => ?_)
  · rw [h] at hK
    exact hK σ' none 0 [] (SlC.nil 0) S'
  · rw [hx] at hK
    exact hK σ' a' e' rows hs S'
theorem c32m (hS : RSt w most last F S fr σ) (ok : Ok most last F S k) (ha : Inp u8 a l fr) (hl : l.length ≤ 1048576)
    (hK : ∀ σ', RSt w most last (Shelf.putO most F S nm l).2 S fr σ' → K (i64 (Shelf.putO most F S nm l).1) σ') : Tri Tryz.prog 32 [ptr w, .string (bsV nm), .slice a l.length 1] σ K := by
  unfold Shelf.putO at hK
  simp only at hK
  refine c32 hS ok ha hl (fun h σ' S' => hK σ' (by rw [if_neg h]; exact S')) (fun h σ' S' => ?_)
  have := hK σ' (by rw [if_pos h]; exact S')
  rw [h] at this
  exact this
theorem c33m (hS : RSt w most last F S fr σ) (ok : Ok most last F S k) (hK : ∀ σ', RSt w most last (Shelf.delO F S nm).2 S fr σ' → K (.bool (Shelf.delO F S nm).1) σ') : Tri Tryz.prog 33 [ptr w, .string (bsV nm)] σ K := by
  unfold Shelf.delO at hK
  simp only at hK
  refine c33 hS ok (fun h σ' S' => ?_) (fun h σ' S' => ?_)
  · have := hK σ' (by rw [if_neg (by rw [h]; decide)]; exact S')
    rw [h] at this
    exact this
  · have := hK σ' (by rw [if_pos h]; exact S')
    rw [h] at this
    exact this
theorem c34m (hS : RSt w most last F S fr σ) (ok : Ok most last F S k)
    (hK : ∀ σ', RSt w most (Shelf.opO last F S nm mode wd).last (Shelf.opO last F S nm mode wd).F (Shelf.opO last F S nm mode wd).S fr σ' → K (.tuple ⟨[i64 (Shelf.opO last F S nm mode wd).n, i64 (Shelf.opO last F S nm mode wd).e]⟩) σ') : Tri Tryz.prog 34 [ptr w, .string (bsV nm), i64 mode, .bool wd] σ K := by
  unfold Shelf.opO at hK
  refine c34 hS ok (fun h σ' S' => ?_) (fun h σ' S' => ?_)
  · rw [if_neg h] at hK
    exact hK σ' S'
  · rw [if_pos h] at hK
    exact hK σ' S'
theorem c35m (hS : RSt w most last F S fr σ) (ok : Ok most last F S k) (ha : Inp u32 a l fr) (hc : ∀ c ∈ l, 0 ≤ c ∧ c ≤ 4294967295)
    (hK : ∀ σ', RSt w most (Shelf.buO' last F S l mode wd).last (Shelf.buO' last F S l mode wd).F (Shelf.buO' last F S l mode wd).S fr σ' → K (.tuple ⟨[i64 (Shelf.buO' last F S l mode wd).n, i64 (Shelf.buO' last F S l mode wd).e]⟩) σ') : Tri Tryz.prog 35 [ptr w, .slice a l.length 1, i64 mode, .bool wd] σ K := by
  unfold Shelf.buO' at hK
  refine c35 hS ok ha hc (fun h σ' S' => ?_) (fun h σ' S' => ?_)
  · rw [if_neg h] at hK
    exact hK σ' S'
  · rw [if_pos h] at hK
    exact hK σ' S'
theorem c36m {ms : List Int} (hS : RSt w most last F S fr σ) (ok : Ok most last F S k) (ha : Inp u32 a ms fr) (hc : ∀ c ∈ ms, 0 ≤ c ∧ c ≤ 4294967295) (hm : ms.length ≤ 1000000)
    (hK : ∀ σ', RSt w most last (Shelf.wrO most F S n ms).2.1 (Shelf.wrO most F S n ms).2.2 fr σ' → K (i64 (Shelf.wrO most F S n ms).1) σ') : Tri Tryz.prog 36 [ptr w, i64 n, .slice a ms.length 1] σ K := by
  unfold Shelf.wrO at hK
  refine c36 hS ok ha hc hm (fun h σ' S' => ?_) (fun x hx h σ' S' => ?_) (fun x hx h σ' S' => ?_)
  · rw [h] at hK
    exact hK σ' S'
  · rw [hx] at hK
    simp only [if_neg h] at hK
    exact hK σ' S'
  · rw [hx] at hK
    simp only [if_pos h] at hK
    exact hK σ' S'
theorem c38m (hS : RSt w most last F S fr σ) (ok : OkD F S B) (hB : B ≤ 1099511627776)
    (hK : ∀ σ', RSt w most last F (Shelf.rdO F S n).S fr σ' → K (.tuple ⟨[u32 (Shelf.rdO F S n).c, .bool (Shelf.rdO F S n).ok, i64 (Shelf.rdO F S n).e]⟩) σ') : Tri Tryz.prog 38 [ptr w, i64 n] σ K := by
  unfold Shelf.rdO at hK
  refine c38 hS ok hB (fun h σ' S' => ?_) (fun x hx h σ' S' => ?_) (fun x hx h hz σ' S' => ?_) (fun x c hx h hc σ' S' => ?_)
  · rw [h] at hK
    exact hK σ' S'
  · rw [hx] at hK
    simp only [h, Bool.false_eq_true, if_false] at hK
    exact hK σ' S'
  · rw [hx] at hK
    have : (charsOf F x)[x.pl]? = none := List.getElem?_eq_none hz
    simp only [h, if_true, this] at hK
    exact hK σ' S'
  · rw [hx] at hK
    simp only [h, if_true, hc] at hK
    exact hK σ' S'
theorem c40m (hS : RSt w most last F S fr σ) (ok : OkD F S B) (hB : B ≤ 1073741824)
    (hK : ∀ σ' a' e' rows, SlC 1 a' e' (cellsU (Shelf.lnO F S n mx).l) rows → RSt w most last F (Shelf.lnO F S n mx).S (rows ++ fr) σ' → K (.tuple ⟨[.slice a' (Shelf.lnO F S n mx).l.length e', i64 (Shelf.lnO F S n mx).e]⟩) σ') : Tri Tryz.prog 40 [ptr w, i64 n, i64 mx] σ K := by
  unfold Shelf.lnO at hK
  refine c40 hS ok hB (fun h σ' S' => ?_) (fun x hx h σ' S' => ?_) (fun x hx h σ' a' e' rows hs S' => ?_)
  · rw [h] at hK
    exact hK σ' none 0 [] (SlC.nil 0) S'
  · rw [hx] at hK
    simp only [h, Bool.false_eq_true, if_false] at hK
    exact hK σ' none 0 [] (SlC.nil 0) S'
  · rw [hx] at hK
    simp only [h, if_true] at hK
    exact hK σ' a' e' rows hs S'
theorem c41m (hS : RSt w most last F S fr σ) (ok : OkD F S B) (hp : -9223372036854775808 ≤ p ∧ p ≤ 9223372036854775807)
    (hK : ∀ σ', RSt w most last F (Shelf.skO F S n p q).2 fr σ' → K (i64 (Shelf.skO F S n p q).1) σ') : Tri Tryz.prog 41 [ptr w, i64 n, i64 p, i64 q] σ K := by
  unfold Shelf.skO at hK
  refine c41 hS ok hp (fun h σ' S' => ?_) (fun x hx h σ' S' => ?_) (fun x hx h σ' S' => ?_)
  · rw [h] at hK
    exact hK σ' S'
  · rw [hx] at hK
    simp only [if_neg h] at hK
    exact hK σ' S'
  · rw [hx] at hK
    simp only [if_pos h] at hK
    exact hK σ' S'
theorem c42m (hS : RSt w most last F S fr σ) (ok : Ok most last F S k)
    (hK : ∀ σ' a' e' rows, SlC 1 a' e' (cellsU (Shelf.clO S n).l) rows → RSt w most last F (Shelf.clO S n).S (rows ++ fr) σ' → K (.tuple ⟨[i64 (Shelf.clO S n).rd, i64 (Shelf.clO S n).wr, .slice a' (Shelf.clO S n).l.length e', i64 (Shelf.clO S n).e]⟩) σ') : Tri Tryz.prog 42 [ptr w, i64 n] σ K := by
  unfold Shelf.clO at hK
  refine c42 hS ok.d (fun h σ' S' => ?_) (fun x hx σ' a' rows hs S' => ?_)
  · rw [h] at hK
    exact hK σ' none 0 [] (SlC.nil 0) S'
  · rw [hx] at hK
    exact hK σ' a' 1 rows hs S'
end
end Go.AI
end
section
set_option linter.unusedSimpArgs false
set_option linter.unusedVariables false
set_option maxRecDepth 10000
/- Both sides in one state; the law's own small functions; no condition but those that each names. -/
namespace Go.AI
open Go.Proofs Go.Shelf Go.Sort
def JSt (s w : Nat) (most last : Int) (F : List Fi) (S : List Sm) (fr : List (Nat × AObj)) (σ : AS) : Prop :=
  ∃ (g : PG) (h : RG), g.ok F S ∧ h.ok ∧ h.Fi = F ∧ h.Sm = S ∧ Has σ ((s, g.O most last) :: (g.R ++ ((w, h.O most last) :: (h.R ++ fr))))
theorem sz26 : szOf Tryz.prog 26 = 9 := by kernel_rfl
section
variable {σ : AS} {K : Value → AS → Prop} {fr X rows rows' : List (Nat × AObj)} {s w k B : Nat} {g : PG} {h : RG} {most last most' last' n mode p q mx : Int} {nm : List UInt8} {F F' : List Fi} {S S' : List Sm} {l b : List Int} {a a' : Option Addr} {wd : Bool} {e e' : Nat}
theorem PSt.sep (hS : PSt s most last F S fr σ) {fr' : List (Nat × AObj)} (hc : ∀ a, cnt a fr' ≤ cnt a fr) : PSt s most last F S fr' σ := by
  obtain ⟨g, hg, H⟩ := hS
  refine ⟨g, hg, H.sep fun a => ?_⟩
  have := hc a
  simp only [cnt_app, cnt_cons]
  omega
theorem RSt.sep (hS : RSt w most last F S fr σ) {fr' : List (Nat × AObj)} (hc : ∀ a, cnt a fr' ≤ cnt a fr) : RSt w most last F S fr' σ := by
  obtain ⟨g, hg, h1, h2, H⟩ := hS
  refine ⟨g, hg, h1, h2, H.sep fun a => ?_⟩
  have := hc a
  simp only [cnt_app, cnt_cons, List.append_assoc]
  omega
theorem JSt.sep (hS : JSt s w most last F S fr σ) {fr' : List (Nat × AObj)} (hc : ∀ a, cnt a fr' ≤ cnt a fr) : JSt s w most last F S fr' σ := by
  obtain ⟨g, h, hg, hh, h1, h2, H⟩ := hS
  refine ⟨g, h, hg, hh, h1, h2, H.sep fun a => ?_⟩
  have := hc a
  simp only [cnt_app, cnt_cons, List.append_assoc]
  omega
/-- The program's side, the reference's beside it. -/
theorem JSt.prog (hJ : JSt s w most last F S fr σ) : ∃ h : RG, h.ok ∧ h.Fi = F ∧ h.Sm = S ∧ PSt s most last F S ((w, h.O most last) :: (h.R ++ fr)) σ := by
  obtain ⟨g, h, hg, hh, h1, h2, H⟩ := hJ
  exact ⟨h, hh, h1, h2, g, hg, H⟩
theorem PSt.r (hP : PSt s most' last' F' S' (rows ++ ((w, h.O most last) :: (h.R ++ fr))) σ) (hh : h.ok) (h1 : h.Fi = F) (h2 : h.Sm = S) : ∃ g : PG, g.ok F' S' ∧ RSt w most last F S ((s, g.O most' last') :: (g.R ++ (rows ++ fr))) σ := by
  obtain ⟨g, hg, H⟩ := hP
  exact ⟨g, hg, h, hh, h1, h2, H.sep (fun a => by simp only [cnt_app, cnt_cons, List.append_assoc]; omega)⟩
theorem PSt.r0 (hP : PSt s most' last' F' S' ((w, h.O most last) :: (h.R ++ fr)) σ) (hh : h.ok) (h1 : h.Fi = F) (h2 : h.Sm = S) : ∃ g : PG, g.ok F' S' ∧ RSt w most last F S ((s, g.O most' last') :: (g.R ++ fr)) σ := PSt.r (rows := []) hP hh h1 h2
theorem RSt.j (hR : RSt w most last F S (rows ++ ((s, g.O most last) :: (g.R ++ fr))) σ) (hg : g.ok F S) : JSt s w most last F S (rows ++ fr) σ := by
  obtain ⟨h, hh, h1, h2, H⟩ := hR
  exact ⟨g, h, hg, hh, h1, h2, H.sep (fun a => by simp only [cnt_app, cnt_cons, List.append_assoc]; omega)⟩
theorem RSt.j0 (hR : RSt w most last F S ((s, g.O most last) :: (g.R ++ fr)) σ) (hg : g.ok F S) : JSt s w most last F S fr σ := RSt.j (rows := []) hR hg
theorem c9 (hK : K (i64 n) σ) : Tri Tryz.prog 9 [i64 n] σ K := tri_in (by rw [s9]; exact hK)
/-- Two rows of characters that are alike. -/
theorem c28 (H : Has σ X) (hs : SlC 1 a e (cellsU l) rows) (hs' : SlC 1 a' e' (cellsU l) rows') (hr : ∀ p ∈ rows, p ∈ X) (hr' : ∀ p ∈ rows', p ∈ X) (hl : l.length ≤ 1073741824) (hK : K (.bool true) σ) : Tri Tryz.prog 28 [.slice a l.length 1, .slice a' l.length 1] σ K := tri_in (by
  rw [s28]
  refine bne_mk (fun h => absurd rfl h) (fun _ => ?_)
  refine aloop (fun (j : Nat) rg σ' => j ≤ l.length ∧ σ' = σ ∧ rg = [(0, some (.slice a l.length 1)), (1, some (.slice a' l.length 1)), (5, some (i64 j))]) (fun j => l.length - j) ?_ (a := 0) ⟨Nat.zero_le _, rfl, rfl⟩
  rintro j rg σ1 Y hY ⟨hj, rfl, rfl⟩
  rw [s28l, sz54]
  refine bmd_mk (fun h => ?_) (fun h => hK)
  obtain ⟨c, hc⟩ : ∃ c, l[j]? = some c := ⟨l[j]'(by omega), by simp⟩
  have hv : (cellsU l)[j]? = some (u32 c) := by rw [List.getElem?_map, hc]; rfl
  refine el_at (by omega) hs H hr hv ?_
  rw [tI_int]
  refine el_at (by omega) hs' H hr' hv ?_
  rw [tI_int]
  refine bne_mk (fun h => absurd rfl h) (fun _ => ?_)
  rw [wrap1 (by omega)]
  exact hY (j + 1) _ _ (by omega) ⟨by omega, rfl, rfl⟩)
theorem c51 (H : Has σ X) (hs : SlC 1 a e (l.map i64) rows) (hs' : SlC 1 a' e' (l.map i64) rows') (hr : ∀ p ∈ rows, p ∈ X) (hr' : ∀ p ∈ rows', p ∈ X) (hl : l.length ≤ 1073741824) (hK : K (.bool true) σ) : Tri Tryz.prog 51 [.slice a l.length 1, .slice a' l.length e'] σ K := tri_in (by
  rw [s51]
  refine bne_mk (fun h => absurd rfl h) (fun _ => ?_)
  refine aloop (fun (j : Nat) rg σ' => j ≤ l.length ∧ σ' = σ ∧ rg = [(0, some (.slice a l.length 1)), (1, some (.slice a' l.length e')), (5, some (i64 j))]) (fun j => l.length - j) ?_ (a := 0) ⟨Nat.zero_le _, rfl, rfl⟩
  rintro j rg σ1 Y hY ⟨hj, rfl, rfl⟩
  rw [s51l, sz3]
  refine bmd_mk (fun h => ?_) (fun h => hK)
  obtain ⟨c, hc⟩ : ∃ c, l[j]? = some c := ⟨l[j]'(by omega), by simp⟩
  obtain ⟨_, _, he, _⟩ := hs'.at (p := 0) (by rw [List.length_map]; omega)
  subst he
  have hv : (l.map i64)[j]? = some (i64 c) := by rw [List.getElem?_map, hc]; rfl
  refine el_at (by omega) hs H hr hv ?_
  rw [tI_int]
  refine el_at (by omega) hs' H hr' hv ?_
  rw [tI_int]
  refine bne_mk (fun h => absurd rfl h) (fun _ => ?_)
  rw [wrap1 (by omega)]
  exact hY (j + 1) _ _ (by omega) ⟨by omega, rfl, rfl⟩)
/-- Bytes in new memory, a mark behind them. -/
theorem c29 (H : Has σ X) (ha : Inp u8 a b X) (hl : b.length ≤ 1073741824) (hK : ∀ σ' j, Has σ' ((j, .row .rw (cells8 (b ++ [77]))) :: X) → K (.slice (some ⟨j, 0, none⟩) b.length 1) σ') : Tri Tryz.prog 29 [.slice a b.length 1] σ K := tri_in (by
  rw [s29]
  refine newAt_mk H fun i0 σ1 H1 => ?_
  refine srcI (ha.z.mono fun p hp => List.mem_cons_of_mem _ hp) H1 ?_
  refine appC (cells := []) (e := 1) (rows := [(i0, .row .rw [])]) (X := X) SlC.row H1 rfl (by simp) (by omega) (by omega) fun a1 σ4 rows1 hs1 H4 => ?_
  rw [List.nil_append] at hs1
  refine newAt_mk H4 fun i6 σ7 H7 => ?_
  rw [lds_eq (H7.at 0 rfl) 0 1 (by simp)]
  simp only [List.drop_zero, List.take_succ_cons, List.take_zero]
  refine appC (new := [u8 77]) (m := 1) (X := (i6, .row .rw [u8 77]) :: X) hs1 (H7.sep (fun a => by simp only [cnt_app, cnt_cons, u8]; omega)) (by simp) rfl (by omega) (by omega) fun a2 σ8 rows2 hs2 H8 => ?_
  have e8 : cells8 b ++ [u8 77] = cells8 (b ++ [77]) := by simp
  rw [e8] at hs2
  obtain ⟨j, q1, q2, q3⟩ := hs2.at (p := 0) (by simp)
  subst q1
  subst q3
  refine req_mk (by omega) (cap_mk (by show (b.length : Int) ≤ ((0 + b.length + 1 : Nat) : Int); omega) ?_)
  have e0 : ((b.length : Int) - 0).toNat = b.length := by omega
  rw [e0]
  simp only [Int.toNat_zero, Nat.zero_mul, Option.map_some, add_none, Nat.add_zero]
  exact hK σ8 j (H8.sep (fun a => by simp only [cnt_cons, List.cons_append, List.nil_append, u8]; omega)))
def toB (b : List Int) : List UInt8 := b.map fun c => UInt8.ofNat c.toNat
theorem bytes8 : ∀ b : List Int, bytesOf? (cells8 b) = some (toB b)
  | [] => rfl
  | c :: b => by
    show bytesOf? (u8 c :: cells8 b) = some (UInt8.ofNat c.toNat :: toB b)
    unfold bytesOf?
    rw [bytes8 b]
    rfl
theorem bts_in {G : List UInt8 → Prop} (H : Has σ X) (ha : Inp u8 a b X) (hG : G (toB b)) : bts σ ⟨a, b.length⟩ G := by
  rcases ha with rfl | ⟨r, q, rfl, hm⟩
  · cases a with
    | none => exact hG
    | some a0 => exact hG
  · unfold bts
    simp only
    refine ldsm H hm (by simp) ?_
    have : ((b.map u8).drop 0).take b.length = cells8 b := by rw [List.drop_zero]; exact List.take_of_length_le (by simp)
    rw [this, bytes8]
    exact hG
theorem bts_row {G : List UInt8 → Prop} {j : Nat} {kk : RK} {z : List Value} (hr : σ j = some (.row kk (cells8 b ++ z))) (hG : G (toB b)) : bts σ ⟨some ⟨j, 0, none⟩, b.length⟩ G := by
  unfold bts
  simp only
  rw [lds_eq hr 0 b.length (by simp)]
  have : ((cells8 b ++ z).drop 0).take b.length = cells8 b := by rw [List.drop_zero]; exact List.take_left' (by simp)
  rw [this, bytes8]
  exact hG
theorem strEq_self (x : ByteArray) : strEq x x = true := by
  obtain ⟨l, rfl⟩ := bsV_ex x
  rw [strEq_bs]
  simp
/-- They are as they were. -/
theorem c30 {j : Nat} (H : Has σ X) (hj : (j, AObj.row .rw (cells8 (b ++ [77]))) ∈ X) (ha : Inp u8 a b X) (hl : b.length ≤ 1073741824) (hK : K (.bool true) σ) : Tri Tryz.prog 30 [.slice (some ⟨j, 0, none⟩) b.length 1, .slice a b.length 1] σ K := tri_in (by
  rw [s30]
  have hr := H.g hj
  have e : cells8 (b ++ [77]) = cells8 b ++ [u8 77] := by simp
  rw [e] at hr
  refine bts_row hr (bts_in H ha ?_)
  rw [strEq_self, bm_true]
  have ew : IntKind.wrap .i64 ((b.length : Int) + 1) = ((b.length + 1 : Nat) : Int) := wrap1 (by omega)
  rw [ew]
  have hcap : b.length + 1 ≤ capLo σ (some ⟨j, 0, none⟩) 1 b.length := by
    unfold capLo
    simp only
    rw [hr]
    simp only
    have : (cells8 b ++ [u8 77]).length = b.length + 1 := by simp
    rw [this]
    show _ ≤ max _ _
    omega
  refine req_mk (by omega) (req_mk (by omega) (req_mk (by omega) (req_mk (by omega) ?_)))
  simp only [sz5, Int.toNat_zero, Int.toNat_natCast, Nat.mul_one, Option.map_some, pSome_some, Nat.zero_add, Nat.add_zero, add_none, Option.map_some]
  have hv : (cells8 b ++ [u8 77])[b.length]? = some (u8 77) := by
    rw [List.getElem?_append_right (by simp)]
    simp
  simp only [ldc_eq hr, hv, tI_int, pSome_some, beq_self_eq_true]
  exact hK)
theorem c31 {j n : Nat} {cs : List Value} (H : Has σ ((j, .row .rw cs) :: X)) (hn : n ≤ cs.length) (hl : n ≤ 1073741824) (hK : ∀ σ', Has σ' X → K unit0 σ') : Tri Tryz.prog 31 [.slice (some ⟨j, 0, none⟩) n 1] σ K := tri_in (by
  rw [s31]
  refine aloop (fun (i : Nat) rg σ' => i ≤ n ∧ (∃ cs', n ≤ cs'.length ∧ Has σ' ((j, .row .rw cs') :: X)) ∧ rg = [(0, some (.slice (some ⟨j, 0, none⟩) n 1)), (2, some (i64 i))]) (fun i => n - i) ?_ (a := 0) ⟨Nat.zero_le _, ⟨cs, hn, H⟩, rfl⟩
  rintro i rg σ1 Y hY ⟨hi, ⟨cs', h1, H1⟩, rfl⟩
  rw [s31l, sz5]
  refine bmd_mk (fun h => ?_) (fun h => hK σ1 (H1.sep (fun a => by simp only [cnt_cons]; omega)))
  refine req_mk (by omega) (req_mk (by omega) ?_)
  simp only [Int.toNat_natCast, Nat.mul_one, pSome_some, Nat.zero_add, add_none]
  refine req_mk trivial (put0 H1 rfl (by omega) fun σ2 H2 => ?_)
  rw [wrap1 (by omega)]
  exact hY (i + 1) _ _ (by omega) ⟨by omega, ⟨_, by rw [List.length_set]; exact h1, H2⟩, rfl⟩)
theorem c31s {n : Nat} {cs : List Value} (hs : SlC 1 a 1 cs rows) (H : Has σ (rows ++ X)) (hn : n = cs.length) (hl : n ≤ 1073741824) (hK : ∀ σ', Has σ' X → K unit0 σ') : Tri Tryz.prog 31 [.slice a n 1] σ K := by
  rcases hs with ⟨rfl, rfl, rfl⟩ | ⟨j, rfl, h2, rfl⟩
  · subst hn
    refine tri_in ?_
    rw [s31]
    refine aloop (fun (i : Nat) rg σ' => σ' = σ ∧ rg = [(0, some (.slice none 0 1)), (2, some (i64 0))]) (fun i => 0) ?_ (a := 0) ⟨rfl, rfl⟩
    rintro i rg σ1 Y hY ⟨rfl, rfl⟩
    have e : (0 : Int) = ((0 : Nat) : Int) := rfl
    rw [s31l]
    refine bmd_mk (fun h => absurd h (by decide)) (fun _ => hK σ1 H)
  · exact c31 H (by omega) hl hK
theorem c23 (H : Has σ X) (hs : Inp u8 a b X) (hs' : Inp u8 a' b X) (hK : K (.bool true) σ) : Tri Tryz.prog 23 [.slice a b.length 1, .slice a' b.length 1] σ K := tri_in (by
  rw [s23]
  refine bts_in H hs (bts_in H hs' ?_)
  rw [strEq_self]
  exact hK)
/-- The number of a stream. -/
theorem c12 {kind aN aA aM : Int} {ba la : Option Addr} {bn be ln le : Nat} {aw an : Bool} {nb : ByteArray} (H : Has σ ((w, h.O most last) :: (h.R ++ X))) (hh : h.ok) (hl : h.S.length ≤ 64)
    (hK : ∀ σ' m, Has σ' ((w, h.O most last) :: (h.R ++ X)) → K (i64 m) σ') : Tri Tryz.prog 12 [ptr w, .agg ⟨[i64 kind, .string nb, .slice ba bn be, .slice la ln le, i64 aN, i64 aA, i64 aM, .bool aw, .bool an]⟩] σ K := tri_in (by
  rw [s12]
  refine newAt_mk H fun i0 σ1 H1 => ?_
  have H0 : Has σ1 ((w, h.O most last) :: (h.R ++ X)) := H1.sep (fun a => by simp only [cnt_app, cnt_cons, List.append_assoc]; omega)
  simp only [ldc_eq (H1.at 0 rfl), ldc_eq (H1.at 1 rfl), tL_ok_eq hh.s.no, tI_int, tB_bool, pSome_some, List.getElem?_cons_zero, List.getElem?_cons_succ, Nat.zero_add]
  refine bnot_mk (fun _ => hK σ1 _ H0) (fun _ => ?_)
  refine beq_mk (fun _ => hK σ1 _ H0) (fun hne => ?_)
  have hL : 0 < (h.S.length : Int) := by omega
  have t1 := Int.lt_tmod_of_pos aN hL
  have t2 := Int.tmod_lt_of_pos aN hL
  generalize Int.tmod aN (h.S.length : Int) = t at t1 t2
  have go : ∀ kk : Int, 0 ≤ kk → kk < (h.S.length : Int) → JoinS (jn Tryz.prog hintsS (Tri Tryz.prog) 12 [true, true, true] [] K) [(0, some (ptr w)), (5, some (i64 kk))] σ1 := by
    intro kk k0 k1
    refine ⟨?_⟩
    rw [s12j]
    obtain ⟨i, rfl⟩ : ∃ i : Nat, kk = (i : Int) := ⟨kk.toNat, by omega⟩
    have hi : h.S[i]? = some (h.S[i]'(by omega)) := by simp
    generalize h.S[i]'(by omega) = r at hi
    obtain ⟨j, r1, r2, r3, r4, r5, r6⟩ := (RIn.of (w := w) (most := most) (last := last) (fr := X) hh).sel hi
    have e0 := r4 0 (by omega)
    rw [Nat.add_zero] at e0
    simp only [ldc_eq (H0.at 0 rfl), tL_ok_eq hh.s.no, pSome_some, List.getElem?_cons_zero, List.getElem?_cons_succ, Nat.zero_add]
    refine req_mk (by omega) (req_mk (by omega) ?_)
    simp only [r1, sz94, Int.toNat_natCast, ldc_eq (H0.g r3), e0, RQ.cells, tI_int, pSome_some, List.getElem?_cons_zero, Nat.zero_add, Nat.add_zero, add_none]
    exact hK σ1 _ H0
  refine req_mk (by omega) (bmd_mk (fun hn => ?_) (fun hn => ?_))
  · rw [wrap64 (by omega) (by omega)]
    exact go _ (by omega) (by omega)
  · exact go _ (by omega) (by omega))
end
end Go.AI
end
section
set_option linter.unusedSimpArgs false
set_option linter.unusedVariables false
set_option maxRecDepth 10000
/- An act done to both: both answer alike; no condition but those that each names. -/
namespace Go.AI
open Go.Proofs Go.Shelf Go.Sort
abbrev actV (kind : Int) (nm : List UInt8) (ba : Option Addr) (bn : Nat) (la : Option Addr) (ln : Nat) (aN aA aM : Int) (aw an : Bool) : List Value := [i64 kind, .string (bsV nm), .slice ba bn 1, .slice la ln 1, i64 aN, i64 aA, i64 aM, .bool aw, .bool an]
section
variable {σ : AS} {K : Value → AS → Prop} {fr X : List (Nat × AObj)} {s w k i : Nat} {o : AObj} {most last n mode kind aN aA aM : Int} {nm : List UInt8} {F : List Fi} {S : List Sm} {l b : List Int} {ba la : Option Addr} {aw an : Bool}
theorem PSt.at (hS : PSt s most last F S fr σ) (hm : (i, o) ∈ fr) : σ i = some o := by
  obtain ⟨g, hg, H⟩ := hS
  exact H.g (List.mem_cons_of_mem _ (List.mem_append_right _ hm))
theorem RSt.at (hS : RSt w most last F S fr σ) (hm : (i, o) ∈ fr) : σ i = some o := by
  obtain ⟨g, hg, h1, h2, H⟩ := hS
  exact H.g (List.mem_cons_of_mem _ (List.mem_append_right _ hm))
theorem JSt.at (hJ : JSt s w most last F S fr σ) (hm : (i, o) ∈ fr) : σ i = some o := by
  obtain ⟨h, hh, h1, h2, P1⟩ := hJ.prog
  exact P1.at (List.mem_cons_of_mem _ (List.mem_append_right _ hm))
/-- An act that both answer alike, by what each answers. -/
theorem j_end {v : Bool} (hv : v = true) (hK : K (.bool true) σ) : K (.bool v) σ := by rw [hv]; exact hK
theorem c10 (hJ : JSt s w most last F S fr σ) (ok : Ok most last F S k) (hk : k + 1 ≤ 1024) (hb : Inp u8 ba b fr) (hl : Inp u32 la l fr) (b8 : ∀ c ∈ b, 0 ≤ c ∧ c < 256) (l32 : ∀ c ∈ l, 0 ≤ c ∧ c ≤ 4294967295) (bl : b.length ≤ 16384) (ll : l.length ≤ 16384)
    (hA : -9223372036854775808 ≤ aA ∧ aA ≤ 9223372036854775807)
    (hK : ∀ σ' last' F' S', JSt s w most last' F' S' fr σ' → Ok most last' F' S' (k + 1) → K (.bool true) σ') :
    Tri Tryz.prog 10 [ptr s, ptr w, .agg ⟨actV kind nm ba b.length la l.length aN aA aM aw an⟩] σ K := tri_in (by
  rw [s10]
  obtain ⟨g0, h0, hg0, hh0, f1, f2, H⟩ := hJ
  refine newAt_mk H fun i0 σ1 H1 => ?_
  have nb : nilOr ba 1 1 = true := by unfold nilOr; rfl
  have nl : nilOr la 1 1 = true := by unfold nilOr; rfl
  rw [lds_eq (H1.at 0 rfl) 0 9 (by simp)]
  simp only [List.drop_zero, List.take_succ_cons, List.take_zero, tCons_cons, tNil_nil, tL_ok_eq nb, tL_ok_eq nl, tI_int, tB_bool, tS_str, Nat.zero_add, tCons_cons, tNil_nil]
  have hlen : h0.S.length ≤ 64 := by
    have := ok.slen
    rw [← f2] at this
    simpa using this
  refine c12 (h := h0) (most := most) (last := last) (X := (s, g0.O most last) :: (g0.R ++ ((i0, .row .plain (actV kind nm ba b.length la l.length aN aA aM aw an)) :: fr))) (H1.sep (fun a => by simp only [cnt_app, cnt_cons, List.append_assoc, i64, actV]; omega)) hh0 hlen fun σ2 m H2 => ?_
  rw [tI_int]
  have J : JSt s w most last F S ((i0, .row .plain (actV kind nm ba b.length la l.length aN aA aM aw an)) :: fr) σ2 := ⟨g0, h0, hg0, hh0, f1, f2, H2.sep (fun a => by simp only [cnt_app, cnt_cons, List.append_assoc, i64, actV]; omega)⟩
  clear H H1 H2
  clear hlen f1 f2 hg0 hh0
  clear g0 h0
  -- the act's own cells, in any state
  have AP : ∀ {most' last' F' S' Y σ'}, PSt s most' last' F' S' Y σ' → (i0, AObj.row .plain (actV kind nm ba b.length la l.length aN aA aM aw an)) ∈ Y → σ' i0 = some (.row .plain (actV kind nm ba b.length la l.length aN aA aM aw an)) := fun h hm => h.at hm
  have aJ := J.at (List.mem_cons_self ..)
  have okd := ok.d
  have hB : 1048576 * k ≤ 1073741824 := by omega
  have fin : ∀ {σ' last' F' S'}, JSt s w most last' F' S' ((i0, .row .plain (actV kind nm ba b.length la l.length aN aA aM aw an)) :: fr) σ' → Ok most last' F' S' (k + 1) → K (.bool true) σ' := fun h ok' => hK _ _ _ _ (h.sep (fun a => by simp only [cnt_cons]; omega)) ok'
  simp only [ldc_eq aJ, tI_int, tS_str, tL_sl, pSome_some, List.getElem?_cons_zero, List.getElem?_cons_succ]
  refine beq_mk (fun hk0 => ?_) (fun hk0 => ?_)
  · -- Put
    obtain ⟨g, h, hg, hh, f1, f2, H⟩ := J
    refine c29 H (hb.mono fun p hp => List.mem_cons_of_mem _ (List.mem_append_right _ (List.mem_cons_of_mem _ (List.mem_append_right _ (List.mem_cons_of_mem _ hp))))) (by omega) fun σ3 j H3 => ?_
    have P1 : PSt s most last F S ((w, h.O most last) :: (h.R ++ ((j, .row .rw (cells8 (b ++ [77]))) :: ((i0, .row .plain (actV kind nm ba b.length la l.length aN aA aM aw an)) :: fr)))) σ3 := ⟨g, hg, H3.sep (fun a => by simp only [cnt_app, cnt_cons, List.append_assoc]; omega)⟩
    have nj : nilOr (some (⟨j, 0, none⟩ : Addr)) 1 1 = true := rfl
    have a3 := P1.at (i := i0) (o := .row .plain (actV kind nm ba b.length la l.length aN aA aM aw an)) (by simp)
    simp only [tL_ok_eq nj, ldc_eq a3, tS_str, pSome_some, List.getElem?_cons_zero, List.getElem?_cons_succ]
    refine c13m P1 ok (.inr ⟨j, .rw, [u8 77], rfl, by simp⟩) (by omega) fun σ4 P2 => ?_
    have a4 := P2.at (i := i0) (o := .row .plain (actV kind nm ba b.length la l.length aN aA aM aw an)) (by simp)
    obtain ⟨g', hg', H4⟩ := P2
    simp only [tL_ok_eq nb, ldc_eq a4, tI_int, pSome_some, List.getElem?_cons_zero, List.getElem?_cons_succ]
    refine c30 (j := j) H4 (by simp) (hb.mono fun p hp => by simp [hp]) (by omega) ?_
    rw [tB_bool]
    refine c31 (j := j) (cs := cells8 (b ++ [77])) (X := (s, g'.O most last) :: (g'.R ++ ((w, h.O most last) :: (h.R ++ ((i0, .row .plain (actV kind nm ba b.length la l.length aN aA aM aw an)) :: fr))))) (H4.sep (fun a => by simp only [cnt_app, cnt_cons, List.append_assoc]; omega)) (by simp) (by omega) fun σ5 H5 => ?_
    have R1 : RSt w most last F S ((s, g'.O most last) :: (g'.R ++ ((i0, .row .plain (actV kind nm ba b.length la l.length aN aA aM aw an)) :: fr))) σ5 := ⟨h, hh, f1, f2, H5.sep (fun a => by simp only [cnt_app, cnt_cons, List.append_assoc]; omega)⟩
    have a5 := R1.at (i := i0) (o := .row .plain (actV kind nm ba b.length la l.length aN aA aM aw an)) (by simp)
    simp only [tL_ok_eq nb, ldc_eq a5, tS_str, pSome_some, bm_true, List.getElem?_cons_zero, List.getElem?_cons_succ]
    refine c9 ?_
    simp only [tL_ok_eq nb, ldc_eq a5, true_and, tI_int, tS_str, pSome_some, List.getElem?_cons_zero, List.getElem?_cons_succ]
    refine c32m R1 ok (hb.mono fun p hp => by simp [hp]) (by omega) fun σ6 R2 => ?_
    simp only [tI_int, beq_self_eq_true]
    refine ⟨?_⟩
    rw [s10j]
    exact j_end (by simp) (fin (R2.j0 hg') (ok.putO hk b8))
  refine beq_mk (fun hk1 => ?_) (fun hk1 => ?_)
  · -- Delete
    obtain ⟨h, hh, f1, f2, P1⟩ := J.prog
    refine c24m P1 ok fun σ3 P2 => ?_
    obtain ⟨g, hg, R1⟩ := P2.r0 hh f1 f2
    have a3 := R1.at (List.mem_cons_of_mem _ (List.mem_append_right _ (List.mem_cons_self ..)))
    simp only [ldc_eq a3, true_and, tB_bool, tS_str, pSome_some, List.getElem?_cons_zero, List.getElem?_cons_succ]
    refine c33m R1 ok fun σ4 R2 => ?_
    rw [tB_bool]
    exact j_end (by simp) (fin (R2.j0 hg) (ok.delO hk))
  -- the others
  have jc : ∀ {f : Bool}, (f = true → kind = 2 ∨ kind = 3) → (f = false → kind ≠ 2 ∧ kind ≠ 3) → JoinS (jn Tryz.prog hintsS (Tri Tryz.prog) 10 [true, true, false, true, false, true, true, true, true] [] K) [(0, some (ptr s)), (1, some (ptr w)), (5, some (ptr i0)), (7, some (i64 m)), (43, some (i64 kind)), (83, some (.bool f))] σ2 := by
    intro f _ _
    refine ⟨?_⟩
    rw [s10j1]
    simp only [ldc_eq aJ, tI_int, tB_bool, tS_str, pSome_some, List.getElem?_cons_zero, List.getElem?_cons_succ, Nat.zero_add]
    refine bm_mk (fun _ => ?_) (fun _ => ?_)
    · -- Open
      obtain ⟨h, hh, f1, f2, P1⟩ := J.prog
      refine c15m P1 ok fun σ3 P2 => ?_
      obtain ⟨g, hg, R1⟩ := P2.r0 hh f1 f2
      have a3 := R1.at (i := i0) (o := .row .plain (actV kind nm ba b.length la l.length aN aA aM aw an)) (by simp)
      simp only [ldc_eq a3, tI_int, tB_bool, tS_str, tTup_tup, pSome_some, List.getElem?_cons_zero, List.getElem?_cons_succ]
      refine c34m R1 ok fun σ4 R2 => ?_
      simp only [tI_int, tTup_tup, pSome_some, bm_true, List.getElem?_cons_zero, List.getElem?_cons_succ, beq_self_eq_true]
      refine c9 ?_
      rw [tI_int]
      refine ⟨?_⟩
      rw [s10j]
      exact j_end (by simp) (fin (R2.j0 hg) (ok.opO hk))
    refine beq_mk (fun hk4 => ?_) (fun hk4 => ?_)
    · -- Buffer
      obtain ⟨g, h, hg, hh, f1, f2, H⟩ := J
      refine newAt_mk H fun i31 σ3 H3 => ?_
      have a3 : σ3 i0 = some (.row .plain (actV kind nm ba b.length la l.length aN aA aM aw an)) := H3.g (by simp)
      simp only [ldc_eq a3, tL_ok_eq nl, pSome_some, List.getElem?_cons_zero, List.getElem?_cons_succ]
      refine srcI (hl.z.mono fun p hp => by simp [hp]) H3 ?_
      refine appC (cells := []) (e := 1) (rows := [(i31, .row .rw [])]) (X := (s, g.O most last) :: (g.R ++ ((w, h.O most last) :: (h.R ++ ((i0, .row .plain (actV kind nm ba b.length la l.length aN aA aM aw an)) :: fr))))) SlC.row H3 rfl (by simp) (by omega) (by omega) fun a' σ4 rows' hs' H4 => ?_
      rw [List.nil_append] at hs'
      rw [Nat.zero_add]
      have P1 : PSt s most last F S ((w, h.O most last) :: (h.R ++ (rows' ++ ((i0, .row .plain (actV kind nm ba b.length la l.length aN aA aM aw an)) :: fr)))) σ4 := ⟨g, hg, H4.sep (fun a => by simp only [cnt_app, cnt_cons, List.append_assoc]; omega)⟩
      have a4 := P1.at (i := i0) (o := .row .plain (actV kind nm ba b.length la l.length aN aA aM aw an)) (by simp)
      simp only [ldc_eq a4, tI_int, tB_bool, pSome_some, List.getElem?_cons_zero, List.getElem?_cons_succ]
      have hin : Inp u32 a' l ((w, h.O most last) :: (h.R ++ (rows' ++ ((i0, .row .plain (actV kind nm ba b.length la l.length aN aA aM aw an)) :: fr)))) := by
        rcases hs' with ⟨_, h2, _⟩ | ⟨j, q1, _, q3⟩
        · exact .inl (List.map_eq_nil_iff.1 h2)
        · exact .inr ⟨j, .rw, q1, by rw [q3]; simp⟩
      refine c27m P1 ok hin l32 fun σ5 P2 => ?_
      obtain ⟨g', hg', R1⟩ := P2.r0 hh f1 f2
      simp only [tI_int, tTup_tup, pSome_some, List.getElem?_cons_zero, List.getElem?_cons_succ]
      generalize hO : Shelf.buO' last F S l aM aw = O at R1 hg'
      refine aloop (fun (i : Nat) rg σ' => i ≤ l.length ∧ (∃ rows2, SlC 1 a' 1 (cellsU (rows2 : List Int)) (match a' with | none => [] | some a => [(a.block, .row .rw (cellsU rows2))]) ∧ rows2.length = l.length ∧ RSt w most last F S ((match a' with | none => [] | some a => [(a.block, .row .rw (cellsU rows2))]) ++ ((s, g'.O most O.last) :: (g'.R ++ ((i0, .row .plain (actV kind nm ba b.length la l.length aN aA aM aw an)) :: fr)))) σ') ∧
        rg = [(1, some (ptr w)), (5, some (ptr i0)), (15, some (.slice a' l.length 1)), (16, some (i64 O.n)), (17, some (i64 O.e)), (18, some (i64 i))]) (fun i => l.length - i) ?_ (a := 0) ⟨Nat.zero_le _, ⟨l, ?_, rfl, ?_⟩, ?_⟩
      · rintro i rg σ6 Y hY ⟨hi, ⟨z, hz, hzl, R2⟩, rfl⟩
        rw [s10l, sz54]
        refine bmd_mk (fun h => ?_) (fun h => ?_)
        · refine req_mk (by omega) (req_mk (by omega) ?_)
          obtain ⟨j, q1, _, q3⟩ := hz.at (p := 0) (by rw [List.length_map]; omega)
          subst q1
          simp only [Int.toNat_natCast, Nat.mul_one, pSome_some, Nat.zero_add, add_none]
          obtain ⟨h', hh', f1', f2', H6⟩ := R2
          have H7 : Has σ6 ((j, .row .rw (cellsU z)) :: ((w, h'.O most last) :: (h'.R ++ ((s, g'.O most O.last) :: (g'.R ++ ((i0, .row .plain (actV kind nm ba b.length la l.length aN aA aM aw an)) :: fr)))))) := H6.sep (fun a => by simp only [cnt_app, cnt_cons, List.append_assoc, List.cons_append, List.nil_append]; omega)
          refine req_mk trivial (put0 H7 rfl (by rw [List.length_map]; omega) fun σ7 H8 => ?_)
          rw [wrap1 (by omega)]
          have es : (cellsU z).set i (u32 77) = cellsU (z.set i 77) := (List.map_set (f := u32)).symm
          rw [es] at H8
          exact hY (i + 1) _ _ (by omega) ⟨by omega, ⟨z.set i 77, SlC.row, by rw [List.length_set]; exact hzl, h', hh', f1', f2', H8.sep (fun a => by simp only [cnt_app, cnt_cons, List.append_assoc, List.cons_append, List.nil_append]; omega)⟩, rfl⟩
        · have R3 : RSt w most last F S ((s, g'.O most O.last) :: (g'.R ++ ((i0, .row .plain (actV kind nm ba b.length la l.length aN aA aM aw an)) :: fr))) σ6 := R2.sep (fun a => by simp only [cnt_app, cnt_cons]; omega)
          have a6 := R3.at (i := i0) (o := .row .plain (actV kind nm ba b.length la l.length aN aA aM aw an)) (by simp)
          simp only [ldc_eq a6, tL_ok_eq nl, tI_int, tB_bool, pSome_some, List.getElem?_cons_zero, List.getElem?_cons_succ, Nat.zero_add]
          refine c35m R3 ok (hl.mono fun p hp => by simp [hp]) l32 fun σ7 R4 => ?_
          rw [hO] at R4 ⊢
          simp only [tI_int, tTup_tup, pSome_some, bm_true, List.getElem?_cons_zero, List.getElem?_cons_succ, beq_self_eq_true]
          refine c9 ?_
          rw [tI_int]
          refine ⟨?_⟩
          rw [s10j]
          have := ok.buO (mode := aM) (w := aw) hk l32
          rw [hO] at this
          exact j_end (by simp) (fin (R4.j0 hg') this)
      · rcases hs' with ⟨h1, h2, h3⟩ | ⟨j, q1, _, q3⟩
        · subst h1
          have : l = [] := List.map_eq_nil_iff.1 h2
          subst this
          exact SlC.nil 1
        · subst q1
          exact SlC.row
      · refine R1.sep fun a => ?_
        rcases hs' with ⟨h1, h2, h3⟩ | ⟨j, q1, _, q3⟩
        · subst h1
          simp only [cnt_app, cnt_cons, List.nil_append]
          omega
        · subst q1
          subst q3
          simp only [cellsU, cnt_app, cnt_cons, List.cons_append, List.nil_append]
          omega
      · rfl
    -- Write and what is behind it
    have jw : ∀ {f : Bool}, JoinS (jn Tryz.prog hintsS (Tri Tryz.prog) 10 [true, true, false, true, false, true, true, true, true, true, true, true, true] [] K) [(0, some (ptr s)), (1, some (ptr w)), (5, some (ptr i0)), (7, some (i64 m)), (43, some (i64 kind)), (162, some (.bool f))] σ2 := by
      intro f
      refine ⟨?_⟩
      rw [s10j4]
      simp only [ldc_eq aJ, tL_ok_eq nl, tI_int, pSome_some, List.getElem?_cons_zero, List.getElem?_cons_succ, Nat.zero_add]
      obtain ⟨h, hh, f1, f2, P1⟩ := J.prog
      refine bm_mk (fun _ => ?_) (fun _ => ?_)
      · -- Write
        refine c14m P1 ok (hl.mono fun p hp => by simp [hp]) l32 (by omega) fun σ3 P2 => ?_
        obtain ⟨g, hg, R1⟩ := P2.r0 hh f1 f2
        have a3 := R1.at (i := i0) (o := (.row .plain (actV kind nm ba b.length la l.length aN aA aM aw an))) (by simp)
        simp only [ldc_eq a3, tL_ok_eq nl, true_and, tI_int, pSome_some, List.getElem?_cons_zero, List.getElem?_cons_succ]
        refine c9 ?_
        simp only [ldc_eq a3, tL_ok_eq nl, true_and, tI_int, pSome_some, List.getElem?_cons_zero, List.getElem?_cons_succ]
        refine c36m R1 ok (hl.mono fun p hp => by simp [hp]) l32 (by omega) fun σ4 R2 => ?_
        rw [tI_int]
        exact j_end (by simp) (fin (R2.j0 hg) (ok.wrO hk l32 (by omega)))
      refine beq_mk (fun _ => ?_) (fun _ => ?_)
      · -- Read
        refine c37m P1 okd (by omega) fun σ3 P2 => ?_
        obtain ⟨g, hg, R1⟩ := P2.r0 hh f1 f2
        simp only [tI_int, tB_bool, tTup_tup, pSome_some, List.getElem?_cons_zero, List.getElem?_cons_succ]
        refine c38m R1 okd (by omega) fun σ4 R2 => ?_
        simp only [tI_int, tB_bool, tTup_tup, pSome_some, bm_true, List.getElem?_cons_zero, List.getElem?_cons_succ, beq_self_eq_true]
        try refine bm_t (by simp) ?_
        refine c9 ?_
        rw [tI_int]
        refine ⟨?_⟩
        rw [s10j]
        exact j_end (by simp) (fin (R2.j0 hg) (ok.rdO hk))
      refine beq_mk (fun _ => ?_) (fun _ => ?_)
      · -- Line
        refine c39m P1 okd hB fun σ3 a1 e1 r1 hs1 P2 => ?_
        obtain ⟨g, hg, R1⟩ := P2.r hh f1 f2
        have a3 := R1.at (i := i0) (o := (.row .plain (actV kind nm ba b.length la l.length aN aA aM aw an))) (by simp)
        simp only [ldc_eq a3, tL_ok_eq hs1.no, tI_int, tTup_tup, pSome_some, List.getElem?_cons_zero, List.getElem?_cons_succ]
        refine c40m R1 okd hB fun σ4 a2 e2 r2 hs2 R2 => ?_
        simp only [tL_ok_eq hs2.no, tI_int, tTup_tup, pSome_some, List.getElem?_cons_zero, List.getElem?_cons_succ]
        have hlo : (Shelf.lnO F S m aA).l.length ≤ 1073741824 := by
          unfold Shelf.lnO
          split
          · simp
          · rename_i x hx
            split
            · have h1 := lineOf_len aA.toNat ((charsOf F x).drop x.pl)
              rw [List.length_drop] at h1
              have h2 := chars_le okd (atS_mem hx).1
              show (lineOf _ _).length ≤ _
              omega
            · simp
        have R3 := R2
        obtain ⟨h', hh', f1', f2', H4⟩ := R3
        refine c28 H4 hs1 hs2 (fun p hp => by simp [hp]) (fun p hp => by simp [hp]) hlo ?_
        rw [tB_bool, bm_true]
        refine c9 ?_
        rw [tI_int]
        refine ⟨?_⟩
        rw [s10j]
        have J2 : JSt s w most last F (Shelf.lnO F S m aA).S ((i0, .row .plain (actV kind nm ba b.length la l.length aN aA aM aw an)) :: fr) σ4 := by
          refine RSt.j0 (g := g) ?_ hg
          exact R2.sep (fun a => by simp only [cnt_app, cnt_cons]; omega)
        exact j_end (by simp) (fin J2 (ok.lnO hk))
      have jz : ∀ {f : Bool}, JoinS (jn Tryz.prog hintsS (Tri Tryz.prog) 10 [true, true, false, true, false, true, true, true, true, true, true, true, true, true, true, true, true, true, true] [] K) [(0, some (ptr s)), (1, some (ptr w)), (5, some (ptr i0)), (7, some (i64 m)), (234, some (.bool f))] σ2 := by
        intro f
        refine ⟨?_⟩
        rw [s10j7]
        simp only [ldc_eq aJ, tI_int, pSome_some, List.getElem?_cons_zero, List.getElem?_cons_succ, Nat.zero_add]
        refine bm_mk (fun _ => ?_) (fun _ => ?_)
        · -- Seek
          refine c16m P1 okd hA fun σ3 P2 => ?_
          obtain ⟨g, hg, R1⟩ := P2.r0 hh f1 f2
          have a3 := R1.at (i := i0) (o := (.row .plain (actV kind nm ba b.length la l.length aN aA aM aw an))) (by simp)
          simp only [ldc_eq a3, true_and, tI_int, pSome_some, List.getElem?_cons_zero, List.getElem?_cons_succ]
          refine c9 ?_
          simp only [ldc_eq a3, true_and, tI_int, pSome_some, List.getElem?_cons_zero, List.getElem?_cons_succ]
          refine c41m R1 okd hA fun σ4 R2 => ?_
          rw [tI_int]
          exact j_end (by simp) (fin (R2.j0 hg) (ok.skO hk))
        · -- Close
          have hcl : (Shelf.clO S m).rd ≤ 1073741824 ∧ (Shelf.clO S m).wr ≤ 1073741824 ∧ (Shelf.clO S m).l.length ≤ 4096 := by
            unfold Shelf.clO
            split
            · simp
            · rename_i x hx
              have q1 := ok.rd x (atS_mem hx).1
              have q2 := ok.wr x (atS_mem hx).1
              have q3 := ok.ln x (atS_mem hx).1
              exact ⟨by show x.rd ≤ _; omega, by show x.wr ≤ _; omega, q3⟩
          refine c22m P1 ok fun σ3 a1 e1 r1 hs1 P2 => ?_
          obtain ⟨g, hg, R1⟩ := P2.r hh f1 f2
          simp only [tL_ok_eq hs1.no, tI_int, tTup_tup, pSome_some, List.getElem?_cons_zero, List.getElem?_cons_succ]
          refine c42m R1 ok fun σ4 a2 e2 r2 hs2 R2 => ?_
          simp only [tL_ok_eq hs2.no, tI_int, tTup_tup, pSome_some, List.getElem?_cons_zero, List.getElem?_cons_succ]
          rw [wrap64 (n := ((Shelf.clO S m).rd : Int)) (by omega) (by omega), wrap64 (n := ((Shelf.clO S m).wr : Int)) (by omega) (by omega)]
          refine bm_t (by simp) (bm_t (by simp) ?_)
          have R3 := R2
          obtain ⟨h', hh', f1', f2', H4⟩ := R3
          refine c28 H4 hs1 hs2 (fun p hp => by simp [hp]) (fun p hp => by simp [hp]) (by omega) ?_
          rw [tB_bool, bm_true]
          refine c9 ?_
          rw [tI_int]
          refine ⟨?_⟩
          rw [s10j]
          have J2 : JSt s w most last F (Shelf.clO S m).S ((i0, .row .plain (actV kind nm ba b.length la l.length aN aA aM aw an)) :: fr) σ4 := by
            refine RSt.j0 (g := g) ?_ hg
            exact R2.sep (fun a => by simp only [cnt_app, cnt_cons]; omega)
          exact j_end (by simp) (fin J2 (ok.clO hk))
      exact beq_mk (fun _ => jz) (fun _ => jz)
    exact beq_mk (fun _ => jw) (fun _ => jw)
  refine beq_mk (fun h => ?_) (fun h => ?_)
  · have := jc (f := kind == 2) (fun _ => .inl h) (fun c => by rw [h] at c; cases c)
    exact this
  · have := jc (f := kind == 3) (fun c => .inr (by simpa using c)) (fun c => ⟨h, by simpa using c⟩)
    exact this)
end
end Go.AI
end
section
set_option linter.unusedSimpArgs false
set_option linter.unusedVariables false
set_option maxRecDepth 10000
/- Both tell the same of all; no condition but those that each names. -/
namespace Go.AI
open Go.Proofs Go.Shelf Go.Sort
section
variable {σ : AS} {K : Value → AS → Prop} {fr X rows : List (Nat × AObj)} {s w k i : Nat} {o : AObj} {most last n : Int} {nm : List UInt8} {F : List Fi} {S : List Sm} {l b : List Int} {a : Option Addr} {e : Nat}
theorem SlC.inp {c : Int → Value} (hs : SlC 1 a e (l.map c) rows) (hr : ∀ p ∈ rows, p ∈ X) : Inp c a l X := by
  rcases hs with ⟨_, h2, _⟩ | ⟨j, q1, _, q3⟩
  · exact .inl (List.map_eq_nil_iff.1 h2)
  · exact .inr ⟨j, .rw, q1, hr _ (by rw [q3]; simp)⟩
theorem strEq_t {x y : ByteArray} (h : x = y) : strEq x y = true := by subst h; exact strEq_self x
theorem atS_get (sn : S.Pairwise fun x y => x.n < y.n) {x : Sm} (h : S[i]? = some x) : atS S x.n = some x := by
  cases hx : atS S x.n with
  | none =>
    have := List.find?_eq_none.1 hx x (List.mem_of_getElem? h)
    simp at this
  | some y =>
    obtain ⟨h1, h2⟩ := atS_mem hx
    have hnd : (S.map (·.n)).Nodup := by
      rw [List.Nodup, List.pairwise_map]
      exact sn.imp fun h => by omega
    obtain ⟨j, hj⟩ := List.getElem?_of_mem h1
    have i1 : (S.map (·.n))[i]? = some x.n := by rw [List.getElem?_map, h]; rfl
    have i2 : (S.map (·.n))[j]? = some x.n := by rw [List.getElem?_map, hj]; simp [h2]
    have e : i = j := (List.getElem_inj hnd).1 ((List.getElem?_eq_some_iff.1 i1).2.trans (List.getElem?_eq_some_iff.1 i2).2.symm)
    subst e
    rw [h] at hj
    exact hj.symm
theorem c17 (hJ : JSt s w most last F S fr σ) (ok : Ok most last F S k) (hK : ∀ σ', JSt s w most last F S fr σ' → K (.bool true) σ') : Tri Tryz.prog 17 [ptr s, ptr w] σ K := tri_in (by
  rw [s17]
  have okd := ok.d
  have hl0 := ok.last0
  have hl1 := ok.last1
  have hk := ok.kle
  have ht := ok.tot
  have hm1 := ok.most1
  have fl := ok.flen
  have sl := ok.slen
  obtain ⟨h, hh, f1, f2, P1⟩ := hJ.prog
  refine c49 P1 ok.srt ok.flen fun σ1 na rn hsn P2 => ?_
  have lF : h.F.length = F.length := by rw [← f1]; simp
  have lS : h.S.length = S.length := by rw [← f2]; simp
  have hw1 := P2.at (i := w) (o := h.O most last) (by simp)
  simp only [tL_ok_eq hsn.no, ldc_eq hw1, tL_ok_eq hh.f.no, lF, pSome_some, bm_false, List.getElem?_cons_zero, List.getElem?_cons_succ, Nat.zero_add, bne_self_eq_false]
  obtain ⟨g, hg, H2⟩ := P2
  refine c11 hg H2 (by omega) fun σ2 H3 => ?_
  rw [tI_int]
  have H3' : Has σ2 ((w, h.O most last) :: (h.R ++ ((s, g.O most last) :: (g.R ++ (rn ++ fr))))) := H3.sep (fun a => by simp only [cnt_app, cnt_cons, List.append_assoc]; omega)
  have eF : totF h.Fi = totF F := by rw [f1]
  refine c20 H3' (RIn.of hh) (by omega) (by omega) ?_
  simp only [eF, tI_int, bne_self_eq_false]
  refine ⟨?_⟩
  rw [s17j, bm_false]
  have J3 : JSt s w most last F S (rn ++ fr) σ2 := ⟨g, h, hg, hh, f1, f2, H3.sep (fun a => by simp only [cnt_app, cnt_cons, List.append_assoc]; omega)⟩
  clear H3 H3' H2 hw1 eF lF lS f1 f2 hg hh P1
  clear h g
  -- the files
  refine aloop (fun (i : Nat) rg σ' => i ≤ F.length ∧ JSt s w most last F S (rn ++ fr) σ' ∧ rg = [(0, some (ptr s)), (1, some (ptr w)), (5, some (.slice na F.length 1)), (6, some (i64 i))]) (fun i => F.length - i) ?_ (a := 0) ⟨Nat.zero_le _, J3, rfl⟩
  rintro i rg σ3 Y hY ⟨hi, J4, rfl⟩
  rw [s17l, sz9]
  refine bmd_mk (fun hlt => ?_) (fun hge => ?_)
  · obtain ⟨f, hf⟩ : ∃ f, F[i]? = some f := ⟨F[i]'(by omega), by simp⟩
    have hfm := List.mem_of_getElem? hf
    have hv : ((F.map (·.nm)).map encStr)[i]? = some (.string (bsV f.nm)) := by rw [List.getElem?_map, List.getElem?_map, hf]; rfl
    obtain ⟨h, hh, f1, f2, P3⟩ := J4.prog
    have P3' := P3
    obtain ⟨g3, hg3, H3⟩ := P3'
    refine el_at (n := F.length) (by omega) hsn H3 (fun p hp => by simp [hp]) hv ?_
    rw [tS_str]
    have hb : bOf F f.nm = f.b := bOf_mem ok.srt hfm
    refine c21 P3 ok.srt ok.flen1 (fun hn => ?_) (fun _ σ4 a4 r4 hs4 P4 => ?_)
    · rw [hasF_iff.2 ⟨f, hfm, rfl⟩] at hn
      cases hn
    rw [hb] at hs4 ⊢
    simp only [tL_ok_eq hs4.no, tB_bool, tTup_tup, pSome_some, bm_false, List.getElem?_cons_zero, List.getElem?_cons_succ, Nat.zero_add, Bool.not_true]
    have hw4 := P4.at (i := w) (o := h.O most last) (by simp)
    have P4' := P4
    obtain ⟨g4, hg4, H4⟩ := P4'
    refine el_at (n := F.length) (by omega) hsn H4 (fun p hp => by simp [hp]) hv ?_
    have lF : h.F.length = F.length := by rw [← f1]; simp
    have hir : ∃ r, h.F[i]? = some r ∧ r.f = f := by
      have hlt' : i < h.F.length := by omega
      refine ⟨h.F[i], by simp [hlt'], ?_⟩
      have e : (h.F.map RF.f)[i]? = some f := by rw [← hf, ← f1]
      rw [List.getElem?_map, List.getElem?_eq_getElem hlt'] at e
      injection e with e
    obtain ⟨r, hr, hrf⟩ := hir
    obtain ⟨jj, q1, q2, q3, q4⟩ := (RIn.of (w := w) (most := most) (last := last) (fr := fr) hh).fel hr
    have hrow : σ4 jj = some (.row .rw (h.F.flatMap RF.cells)) := by
      refine H4.g ?_
      rcases List.mem_cons.1 q3 with q3 | q3
      · exact absurd (congrArg Prod.snd q3) (by intro c; cases c)
      · rcases List.mem_append.1 q3 with q3 | q3
        · simp only [List.mem_append, List.mem_cons] at q3 ⊢
          exact .inr (.inr (.inr (.inr (.inl q3))))
        · simp [q3]
    have e0 := q4 0 (by omega)
    have e1 := q4 1 (by omega)
    rw [Nat.add_zero] at e0
    have hro : r.ok := hh.fo r (List.mem_of_getElem? hr)
    have hnf := hh.f.no
    simp only [ldc_eq hw4, tL_ok_eq hnf, lF, tS_str, pSome_some, List.getElem?_cons_zero, List.getElem?_cons_succ]
    refine req_mk (by omega) (req_mk (by omega) ?_)
    simp only [q1, sz112, Int.toNat_natCast, ldc_eq hrow, e0, RF.cells, hrf, tS_str, pSome_some, List.getElem?_cons_zero, Nat.zero_add, Nat.add_zero, add_none]
    rw [strEq_self, Bool.not_true, bm_false]
    refine req_mk (by omega) (req_mk (by omega) ?_)
    have hro1 : nilOr r.a r.e 1 = true := SlC.no (hro : SlC 1 r.a r.e (cells8 r.f.b) r.rows)
    simp only [e1, RF.cells, hrf, tL_ok_eq hro1, pSome_some, List.getElem?_cons_zero, List.getElem?_cons_succ]
    have hro' : SlC 1 r.a r.e (cells8 f.b) r.rows := by rw [← hrf]; exact hro
    refine c23 H4 (hs4.inp fun p hp => by simp [hp]) (hro'.inp fun p hp => ?_) ?_
    · have : p ∈ h.F.flatMap RF.rows := List.mem_flatMap.2 ⟨r, List.mem_of_getElem? hr, hp⟩
      simp [this]
    rw [tB_bool]
    refine ⟨?_⟩
    rw [s17j1, Bool.not_true, bm_false]
    have hfl := ok.flen1 _ hfm
    refine c31s hs4 (X := (s, g4.O most last) :: (g4.R ++ ((w, h.O most last) :: (h.R ++ (rn ++ fr))))) (H4.sep (fun a => by simp only [cnt_app, cnt_cons, List.append_assoc]; omega)) (by simp) (by omega) fun σ5 H5 => ?_
    rw [wrap1 (by omega)]
    exact hY (i + 1) _ _ (by omega) ⟨by omega, ⟨g4, h, hg4, hh, f1, f2, H5.sep (fun a => by simp only [cnt_app, cnt_cons, List.append_assoc]; omega)⟩, rfl⟩
  -- the streams
  refine aloop (fun (i : Nat) rg σ' => i ≤ S.length ∧ (∃ a' e' rows', SlC 1 a' e' (((S.take i).map (·.n)).map i64) rows' ∧ JSt s w most last F S (rows' ++ fr) σ' ∧ rg = [(0, some (ptr s)), (1, some (ptr w)), (9, some (.slice a' i e')), (10, some (i64 i))])) (fun i => S.length - i) ?_ (a := 0) ⟨Nat.zero_le _, none, 0, [], SlC.nil 0, J4.sep (fun a => by simp only [cnt_app, List.nil_append]; omega), rfl⟩
  rintro i rg σ3 Y hY ⟨hi, a', e', rows', hs', J5, rfl⟩
  rw [s17l1]
  have J5' := J5
  obtain ⟨g, h, hg, hh, f1, f2, H⟩ := J5'
  have lS : h.S.length = S.length := by rw [← f2]; simp
  have hwv : σ3 w = some (h.O most last) := H.g (by simp)
  simp only [ldc_eq hwv, tL_ok_eq hh.s.no, lS, tI_int, pSome_some, List.getElem?_cons_zero, List.getElem?_cons_succ, Nat.zero_add]
  refine bmd_mk (fun hlt => ?_) (fun hge => ?_)
  · obtain ⟨x, hx⟩ : ∃ x, S[i]? = some x := ⟨S[i]'(by omega), by simp⟩
    have hxat := atS_get ok.sn hx
    have hir : ∃ r, h.S[i]? = some r ∧ r.q = x := by
      have hlt' : i < h.S.length := by omega
      refine ⟨h.S[i], by simp [hlt'], ?_⟩
      have e : (h.S.map RQ.q)[i]? = some x := by rw [← hx, ← f2]
      rw [List.getElem?_map, List.getElem?_eq_getElem hlt'] at e
      injection e with e
    obtain ⟨r, hr, hrq⟩ := hir
    have look : ∀ {Y' : List (Nat × AObj)} {σ' : AS}, RSt w most last F S Y' σ' → ∃ (h' : RG) (jj : Nat), σ' w = some (h'.O most last) ∧ h'.ok ∧ h'.S.length = S.length ∧ h'.sa = some ⟨jj, 0, none⟩ ∧ ldc σ' ⟨jj, i * 8, none⟩ = fun G => G (i64 x.n) := by
      intro Y' σ' hR
      obtain ⟨h', hh', f1', f2', H'⟩ := hR
      have lS' : h'.S.length = S.length := by rw [← f2']; simp
      have hlt' : i < h'.S.length := by omega
      have e : (h'.S.map RQ.q)[i]? = some x := by rw [← hx, ← f2']
      rw [List.getElem?_map, List.getElem?_eq_getElem hlt'] at e
      injection e with e
      obtain ⟨jj, q1, q2, q3, q4, _⟩ := (RIn.of (w := w) (most := most) (last := last) (fr := Y') hh').sel (i := i) (r := h'.S[i]) (by simp [hlt'])
      have e0 := q4 0 (by omega)
      rw [Nat.add_zero] at e0
      refine ⟨h', jj, H'.g (by simp), hh', lS', q1, ?_⟩
      funext G
      rw [ldc_eq (H'.g q3), e0]
      simp only [RQ.cells, e, List.getElem?_cons_zero, pSome_some]
    have R0 : RSt w most last F S ((s, g.O most last) :: (g.R ++ (rows' ++ fr))) σ3 := ⟨h, hh, f1, f2, H.sep (fun a => by simp only [cnt_app, cnt_cons, List.append_assoc]; omega)⟩
    obtain ⟨h0, j0, w0, o0, l0, q0, d0⟩ := look R0
    have eh : h0.O most last = h.O most last := by rw [hwv] at w0; injection w0 with w0; exact w0.symm
    have esa : h.sa = some ⟨j0, 0, none⟩ := by
      unfold RG.O refO at eh
      injection eh with _ eh
      injection eh with _ eh
      injection eh with _ eh
      injection eh with eh _
      injection eh with eh _ _
      rw [← eh]
      exact q0
    refine req_mk (by omega) (req_mk (by omega) ?_)
    simp only [esa, sz94, Int.toNat_natCast, d0, tI_int, pSome_some, Nat.zero_add, Nat.add_zero, add_none]
    rw [sz3]
    refine pushC (X := (s, g.O most last) :: (g.R ++ ((w, h.O most last) :: (h.R ++ fr)))) hs' (H.sep (fun a => by simp only [cnt_app, cnt_cons, List.append_assoc]; omega)) (by rw [List.length_map, List.length_map, List.length_take]; omega) rfl (by omega) (by omega) fun a2 σ4 rows2 hs2 H4 => ?_
    have e8 : ((S.take i).map (·.n)).map i64 ++ [i64 x.n] = ((S.take (i + 1)).map (·.n)).map i64 := by
      rw [List.take_add_one, hx]
      simp
    rw [e8] at hs2
    have J6 : JSt s w most last F S (rows2 ++ fr) σ4 := ⟨g, h, hg, hh, f1, f2, H4.sep (fun a => by simp only [cnt_app, cnt_cons, List.append_assoc]; omega)⟩
    have R1 : RSt w most last F S ((s, g.O most last) :: (g.R ++ (rows2 ++ fr))) σ4 := ⟨h, hh, f1, f2, H4.sep (fun a => by simp only [cnt_app, cnt_cons, List.append_assoc]; omega)⟩
    obtain ⟨h1, j1, w1, o1, l1, q1, d1⟩ := look R1
    simp only [ldc_eq w1, tL_ok_eq o1.s.no, l1, pSome_some, List.getElem?_cons_zero, List.getElem?_cons_succ]
    refine req_mk (by omega) (req_mk (by omega) ?_)
    simp only [q1, d1, tI_int, pSome_some, Nat.zero_add, Nat.add_zero, add_none]
    obtain ⟨h2, hh2, f12, f22, P6⟩ := J6.prog
    refine c26 P6 okd (fun hn => by rw [hxat] at hn; cases hn) (fun y hy σ5 P7 => ?_)
    rw [hxat] at hy
    cases hy
    obtain ⟨g7, hg7, R7⟩ := P7.r0 hh2 f12 f22
    obtain ⟨h3, j3, w3, o3, l3, q3, d3⟩ := look R7
    simp only [ldc_eq w3, tL_ok_eq o3.s.no, l3, tI_int, tTup_tup, pSome_some, List.getElem?_cons_zero, List.getElem?_cons_succ]
    refine req_mk (by omega) (req_mk (by omega) ?_)
    simp only [q3, d3, tI_int, pSome_some, Nat.zero_add, Nat.add_zero, add_none]
    refine c50 R7 okd (fun hn => by rw [hxat] at hn; cases hn) (fun y hy σ6 R8 => ?_)
    rw [hxat] at hy
    cases hy
    simp only [tI_int, tTup_tup, pSome_some, bm_false, List.getElem?_cons_zero, List.getElem?_cons_succ, bne_self_eq_false]
    refine c9 ?_
    simp only [tI_int, bne_self_eq_false]
    refine ⟨?_⟩
    rw [s17j2, bm_false, wrap1 (by omega)]
    exact hY (i + 1) _ _ (by omega) ⟨by omega, a2, 1, rows2, hs2, R8.j0 hg7, rfl⟩
  · have hiS : i = S.length := by omega
    subst hiS
    rw [List.take_length] at hs'
    rw [wrap64 (by omega) (by omega)]
    have hno : atS S (last + 1) = none := by
      cases hx : atS S (last + 1) with
      | none => rfl
      | some x =>
        obtain ⟨h1, h2⟩ := atS_mem hx
        have := (ok.sle x h1).2
        omega
    obtain ⟨h2, hh2, f12, f22, P6⟩ := J5.prog
    refine c26 P6 okd (fun _ σ4 P7 => ?_) (fun y hy => by rw [hno] at hy; cases hy)
    simp only [tI_int, tTup_tup, pSome_some, List.getElem?_cons_zero, List.getElem?_cons_succ]
    have hnm : hasF F [] = false := hasF_false.2 fun f hf c => by
      have := (ok.nm f hf).1
      rw [c] at this
      simp at this
    refine c21 (nm := []) P7 ok.srt ok.flen1 (fun _ σ5 P8 => ?_) (fun hn => by rw [hnm] at hn; cases hn)
    have hn0 : nilOr (none : Option Addr) 0 1 = true := rfl
    simp only [tL_ok_eq hn0, tB_bool, tTup_tup, pSome_some, List.getElem?_cons_zero, List.getElem?_cons_succ, Bool.not_false]
    refine c52 P8 ok.sn ok.slen fun σ6 a6 r6 hs6 P9 => ?_
    simp only [tL_ok_eq hs6.no]
    have P9' := P9
    obtain ⟨g9, hg9, H9⟩ := P9'
    have hlen : (S.map (·.n)).length = S.length := by simp
    have := c51 (K := fun v71 σ72 => tB v71 fun b73 => bmatch b73 (Tri Tryz.prog 9 [i64 5] σ72 fun v74 σ75 => tI .i64 v74 fun n76 => bmatch (n76 == 5) (JoinS (jn Tryz.prog hintsS (Tri Tryz.prog) 17 [true, true, true, true, true, true, true, true] [] K) [(4, some (.bool true))] σ75) (JoinS (jn Tryz.prog hintsS (Tri Tryz.prog) 17 [true, true, true, true, true, true, true, true] [] K) [(4, some (.bool false))] σ75)) (JoinS (jn Tryz.prog hintsS (Tri Tryz.prog) 17 [true, true, true, true, true, true, true, true] [] K) [(4, some (.bool false))] σ72)) H9 hs6 hs' (fun p hp => by simp [hp]) (fun p hp => by simp [hp]) (by rw [hlen]; omega) (by
      rw [tB_bool, bm_true]
      refine c9 ?_
      rw [tI_int]
      refine bm_t rfl ⟨?_⟩
      rw [s17j3]
      refine hK σ6 ?_
      obtain ⟨g10, hg10, R10⟩ := P9.r hh2 f12 f22
      exact (RSt.j0 R10 hg10).sep (fun a => by simp only [cnt_app]; omega))
    rw [hlen] at this
    exact this)
/-- All is as it was, but that the last number was taken. -/
theorem c25 {last0 : Int} (hJ : ∃ (g : PG) (h : RG), g.ok F S ∧ h.ok ∧ h.Fi = F ∧ h.Sm = S ∧ Has σ ((s, g.O most last) :: (g.R ++ ((w, h.O most last0) :: (h.R ++ fr))))) (ok : Ok most last F S k) (hK : ∀ σ', JSt s w most last F S fr σ' → K (.bool true) σ') : Tri Tryz.prog 25 [ptr s, ptr w, i64 last] σ K := tri_in (by
  rw [s25]
  obtain ⟨g, h, hg, hh, f1, f2, H⟩ := hJ
  have H2 : Has σ ((w, h.O most last0) :: ((s, g.O most last) :: (g.R ++ (h.R ++ fr)))) := H.sep (fun a => by simp only [cnt_app, cnt_cons, List.append_assoc]; omega)
  refine put0 H2 rfl (by simp) fun σ1 H3 => ?_
  have H4 : Has σ1 ((s, g.O most last) :: (g.R ++ ((w, h.O most last) :: (h.R ++ fr)))) := H3.sep (fun a => by simp only [cnt_app, cnt_cons, List.append_assoc, i64, List.set_cons_zero, List.set_cons_succ, RG.O, refO]; omega)
  refine c17 (k := k) ⟨g, h, hg, hh, f1, f2, H4⟩ ok fun σ2 J => ?_
  rw [tB_bool]
  exact hK σ2 J)
end
end Go.AI
end
