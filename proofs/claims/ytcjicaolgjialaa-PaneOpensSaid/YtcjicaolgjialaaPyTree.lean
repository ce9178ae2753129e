/- Lemmas of the abstract condition ahead of code (a part of the library that the claim's proof stands on); they hold with no condition but those that each names. -/

section
/- Windows as a list, and as a tree: plain facts; no condition but those that each names. -/
namespace Go.Pane
structure Win where
  n : Int
  k : Int
  p : Int
  a : Int
  b : Int
  m : Int
  s : Int
  key : Int
def zeroW : Win := ⟨0, 0, 0, 0, 0, 0, 0, 0⟩
def ofL (L : List Win) (n : Int) : Win := (L.find? (·.n == n)).getD zeroW
def hasL (L : List Win) (n : Int) : Bool := L.any (·.n == n)
inductive T where
  | lf (n k : Int)
  | nd (n m s key : Int) (a b : T)
def T.num : T → Int
  | .lf n _ => n
  | .nd n _ _ _ _ _ => n
def T.win : T → Int → Win
  | .lf n k, p => ⟨n, k, p, 0, 0, 0, 0, 0⟩
  | .nd n m s key a b, p => ⟨n, 4, p, a.num, b.num, m, s, key⟩
def T.wins : T → Int → List Win
  | .lf n k, p => [⟨n, k, p, 0, 0, 0, 0, 0⟩]
  | .nd n m s key a b, p => ⟨n, 4, p, a.num, b.num, m, s, key⟩ :: (a.wins n ++ b.wins n)
theorem T.win_n (t : T) (p : Int) : (t.win p).n = t.num := by cases t <;> rfl
theorem T.win_p (t : T) (p : Int) : (t.win p).p = p := by cases t <;> rfl
theorem T.win_mem (t : T) (p : Int) : t.win p ∈ t.wins p := by cases t <;> simp [T.win, T.wins]
/-- A pair above a place; side: the place is its first child. -/
structure Fr where
  n : Int
  m : Int
  s : Int
  key : Int
  side : Bool
  o : T
def Fr.fill (f : Fr) (t : T) : T := match f.side with
  | true => .nd f.n f.m f.s f.key t f.o
  | false => .nd f.n f.m f.s f.key f.o t
def plug : List Fr → T → T
  | [], t => t
  | f :: fs, t => plug fs (f.fill t)
def top : List Fr → Int
  | [] => 0
  | f :: _ => f.n
def Fr.win (f : Fr) (x p : Int) : Win := match f.side with
  | true => ⟨f.n, 4, p, x, f.o.num, f.m, f.s, f.key⟩
  | false => ⟨f.n, 4, p, f.o.num, x, f.m, f.s, f.key⟩
def winsC : List Fr → Int → List Win
  | [], _ => []
  | f :: fs, x => f.win x (top fs) :: (f.o.wins f.n ++ winsC fs f.n)
theorem Fr.fill_num (f : Fr) (t : T) : (f.fill t).num = f.n := by
  unfold Fr.fill; cases f.side <;> rfl
theorem Fr.fill_win (f : Fr) (t : T) (p : Int) : (f.fill t).win p = f.win t.num p := by
  unfold Fr.fill Fr.win; cases f.side <;> rfl
theorem Fr.win_n (f : Fr) (x p : Int) : (f.win x p).n = f.n := by unfold Fr.win; cases f.side <;> rfl
theorem Fr.win_p (f : Fr) (x p : Int) : (f.win x p).p = p := by unfold Fr.win; cases f.side <;> rfl
theorem Fr.win_k (f : Fr) (x p : Int) : (f.win x p).k = 4 := by unfold Fr.win; cases f.side <;> rfl
theorem Fr.fill_wins (f : Fr) (t : T) (p : Int) : ((f.fill t).wins p).Perm (t.wins f.n ++ f.win t.num p :: f.o.wins f.n) := by
  unfold Fr.fill Fr.win
  cases f.side <;> simp only [T.wins]
  · refine .trans (.cons _ List.perm_append_comm) ?_
    exact List.perm_middle.symm
  · exact List.perm_middle.symm
theorem wins_plug : ∀ (fs : List Fr) (t : T), ((plug fs t).wins 0).Perm (t.wins (top fs) ++ winsC fs t.num)
  | [], t => by simp [plug, top, winsC]
  | f :: fs, t => by
    refine (wins_plug fs (f.fill t)).trans ?_
    rw [Fr.fill_num]
    refine ((f.fill_wins t (top fs)).append_right _).trans ?_
    simp only [top, winsC, List.append_assoc, List.cons_append]
    exact .refl _
theorem plug_append (fs gs : List Fr) (t : T) : plug (fs ++ gs) t = plug gs (plug fs t) := by
  induction fs generalizing t with
  | nil => rfl
  | cons f fs ih => exact ih _
/-- A window of a subtree is at a place in it. -/
theorem mem_sub : ∀ (s : T) (fs : List Fr) (w : Win), w ∈ s.wins (top fs) → ∃ pre s', plug pre s' = s ∧ w = s'.win (top (pre ++ fs))
  | .lf n k, fs, w, h => ⟨[], .lf n k, rfl, by simpa [T.wins, T.win] using h⟩
  | .nd n m s key a b, fs, w, h => by
    simp only [T.wins, List.mem_cons, List.mem_append] at h
    rcases h with h | h | h
    · exact ⟨[], .nd n m s key a b, rfl, h⟩
    · obtain ⟨pre, s', h1, h2⟩ := mem_sub a (⟨n, m, s, key, true, b⟩ :: fs) w h
      exact ⟨pre ++ [⟨n, m, s, key, true, b⟩], s', by rw [plug_append, h1]; rfl, by rw [h2]; simp⟩
    · obtain ⟨pre, s', h1, h2⟩ := mem_sub b (⟨n, m, s, key, false, a⟩ :: fs) w h
      exact ⟨pre ++ [⟨n, m, s, key, false, a⟩], s', by rw [plug_append, h1]; rfl, by rw [h2]; simp⟩
def winsO : Option T → List Win
  | none => []
  | some t => t.wins 0
def At (t : Option T) (fs : List Fr) (s : T) : Prop := t = some (plug fs s)
theorem at_of_mem {t : Option T} {w : Win} (h : w ∈ winsO t) : ∃ fs s, At t fs s ∧ w = s.win (top fs) := by
  cases t with
  | none => simp [winsO] at h
  | some t =>
    obtain ⟨pre, s', h1, h2⟩ := mem_sub t [] w h
    exact ⟨pre, s', by rw [At, h1], by simpa using h2⟩
theorem At.perm {t : Option T} {fs : List Fr} {s : T} (h : At t fs s) : (winsO t).Perm (s.wins (top fs) ++ winsC fs s.num) := by
  rw [h]; exact wins_plug fs s
theorem At.mem {t : Option T} {fs : List Fr} {s : T} (h : At t fs s) : s.win (top fs) ∈ winsO t :=
  h.perm.mem_iff.2 (List.mem_append_left _ (s.win_mem _))
theorem At.up {t : Option T} {f : Fr} {fs : List Fr} {s : T} (h : At t (f :: fs) s) : At t fs (f.fill s) := h
theorem At.upL {t : Option T} {fs gs : List Fr} {s : T} (h : At t (gs ++ fs) s) : At t fs (plug gs s) := by rw [At, h, plug_append]
theorem At.dnA {t : Option T} {fs : List Fr} {n m s key : Int} {a b : T} (h : At t fs (.nd n m s key a b)) : At t (⟨n, m, s, key, true, b⟩ :: fs) a := h
theorem At.dnB {t : Option T} {fs : List Fr} {n m s key : Int} {a b : T} (h : At t fs (.nd n m s key a b)) : At t (⟨n, m, s, key, false, a⟩ :: fs) b := h
def validM (m : Int) : Prop := 16 ≤ m ∧ m < 20 ∨ 32 ≤ m ∧ m < 36
/-- What a tree's window may be. -/
def WOk (w : Win) : Prop := w.k = 4 ∧ validM w.m ∧ 0 ≤ w.s ∧ w.s < 4294967296 ∨ 1 ≤ w.k ∧ w.k ≤ 3 ∧ w.m = 0 ∧ w.s = 0 ∧ w.key = 0 ∧ w.a = 0 ∧ w.b = 0
structure Ok (L : List Win) (last : Int) (t : Option T) : Prop where
  perm : L.Perm (winsO t)
  srt : L.Pairwise fun x y => x.n < y.n
  rng : ∀ w ∈ L, 1 ≤ w.n ∧ w.n ≤ last
  wok : ∀ w ∈ L, WOk w
  keys : ∀ w ∈ L, w.key = 0 ∨ hasL L w.key = true
  len : L.length ≤ 64
section
variable {L : List Win} {last : Int} {t : Option T}
theorem srt_inj {L : List Win} (h : L.Pairwise fun x y => x.n < y.n) {x y : Win} (hx : x ∈ L) (hy : y ∈ L) (e : x.n = y.n) : x = y := by
  induction L with
  | nil => simp at hx
  | cons z L ih =>
    obtain ⟨h1, h2⟩ := List.pairwise_cons.1 h
    rcases List.mem_cons.1 hx with g | g <;> rcases List.mem_cons.1 hy with g' | g'
    · rw [g, g']
    · have := h1 _ g'; rw [← g] at this; omega
    · have := h1 _ g; rw [← g'] at this; omega
    · exact ih h2 g g'
theorem ofL_mem {L : List Win} (h : L.Pairwise fun x y => x.n < y.n) {x : Win} (hx : x ∈ L) : ofL L x.n = x := by
  unfold ofL
  cases e : L.find? (·.n == x.n) with
  | none => have := List.find?_eq_none.1 e x hx; simp at this
  | some y =>
    have h1 := List.mem_of_find?_eq_some e
    have h2 := List.find?_some e
    simp only [beq_iff_eq] at h2
    exact srt_inj h h1 hx h2
theorem hasL_iff {L : List Win} {n : Int} : hasL L n = true ↔ ∃ w ∈ L, w.n = n := by simp [hasL]
theorem hasL_false {L : List Win} {n : Int} : hasL L n = false ↔ ∀ w ∈ L, w.n ≠ n := by simp [hasL]
theorem ofL_none {L : List Win} {n : Int} (h : hasL L n = false) : ofL L n = zeroW := by
  unfold ofL
  have : L.find? (·.n == n) = none := by
    rw [List.find?_eq_none]
    intro w hw
    simpa using hasL_false.1 h w hw
  rw [this]; rfl
theorem Ok.mem (h : Ok L last t) {w : Win} : w ∈ L ↔ w ∈ winsO t := h.perm.mem_iff
theorem Ok.at (h : Ok L last t) {fs : List Fr} {s : T} (a : At t fs s) : s.win (top fs) ∈ L := h.mem.2 a.mem
theorem Ok.of_at (h : Ok L last t) {fs : List Fr} {s : T} (a : At t fs s) : ofL L s.num = s.win (top fs) := by
  have := ofL_mem h.srt (h.at a)
  rwa [T.win_n] at this
theorem Ok.at_has (h : Ok L last t) {n : Int} (hn : hasL L n = true) : ∃ fs s, At t fs s ∧ s.num = n := by
  obtain ⟨w, hw, rfl⟩ := hasL_iff.1 hn
  obtain ⟨fs, s, h1, h2⟩ := at_of_mem (h.mem.1 hw)
  exact ⟨fs, s, h1, by rw [h2, T.win_n]⟩
theorem Ok.has_at (h : Ok L last t) {fs : List Fr} {s : T} (a : At t fs s) : hasL L s.num = true := hasL_iff.2 ⟨_, h.at a, T.win_n _ _⟩
theorem Ok.has0 (h : Ok L last t) : hasL L 0 = false := hasL_false.2 fun w hw e => by have := h.rng w hw; omega
theorem Ok.num_pos (h : Ok L last t) {fs : List Fr} {s : T} (a : At t fs s) : 1 ≤ s.num ∧ s.num ≤ last := by
  have := h.rng _ (h.at a); rwa [T.win_n] at this
theorem Ok.top_ne (h : Ok L last t) {fs : List Fr} {s : T} (a : At t fs s) : top fs = 0 ↔ fs = [] := by
  cases fs with
  | nil => simp [top]
  | cons f fs =>
    have := (h.num_pos a.up).1
    rw [Fr.fill_num] at this
    simp only [top, reduceCtorEq, iff_false]
    omega
/-- What lies at a number is one subtree. -/
theorem Ok.uniq (h : Ok L last t) : ∀ (s s' : T) (fs fs' : List Fr), At t fs s → At t fs' s' → s.num = s'.num → s = s' := by
  intro s
  induction s with
  | lf n k =>
    intro s' fs fs' a a' e
    have e1 := h.of_at a
    have e2 := h.of_at a'
    rw [e, e2] at e1
    have hk := h.wok _ (h.at a)
    cases s' with
    | lf n' k' => simp only [T.win, Win.mk.injEq] at e1; obtain ⟨r1, r2, _⟩ := e1; rw [r1, r2]
    | nd n' m' s' key' x y =>
      simp only [T.win, Win.mk.injEq] at e1
      rcases hk with hk | hk
      · have := hk.1
        simp only [T.win] at hk
        have hv := hk.2.1
        unfold validM at hv
        omega
      · simp only [T.win] at hk; omega
  | nd n m sz key x y ihx ihy =>
    intro s' fs fs' a a' e
    have e1 := h.of_at a
    have e2 := h.of_at a'
    rw [e, e2] at e1
    cases s' with
    | lf n' k' =>
      have hk := h.wok _ (h.at a')
      simp only [T.win, Win.mk.injEq] at e1
      rcases hk with hk | hk
      · simp only [T.win] at hk
        have hv := hk.2.1
        unfold validM at hv
        omega
      · simp only [T.win] at hk; omega
    | nd n' m' sz' key' x' y' =>
      simp only [T.win, Win.mk.injEq] at e1
      obtain ⟨r1, _, _, r2, r3, r4, r5, r6⟩ := e1
      rw [ihx x' _ _ a.dnA a'.dnA r2.symm, ihy y' _ _ a.dnB a'.dnB r3.symm, r1, r4, r5, r6]
end
end Go.Pane
end
section
/- A window opened, closed, arranged: what becomes of the list is what becomes of the tree; no condition but those that each names. -/
set_option linter.unusedVariables false
set_option linter.unusedSimpArgs false
namespace Go.Pane
section
variable {L : List Win} {last : Int} {t : Option T}
theorem nodup_n {L : List Win} (h : L.Pairwise fun x y => x.n < y.n) : (L.map (·.n)).Nodup := by
  rw [List.Nodup, List.pairwise_map]
  exact h.imp fun h e => by omega
theorem Ok.nodupT (h : Ok L last t) : ((winsO t).map (·.n)).Nodup := ((h.perm.map (·.n)).nodup_iff).1 (nodup_n h.srt)
theorem Ok.nodupC (h : Ok L last t) {fs : List Fr} {s : T} (a : At t fs s) : ((s.wins (top fs) ++ winsC fs s.num).map (·.n)).Nodup :=
  ((a.perm.map (·.n)).nodup_iff).1 h.nodupT
theorem wins_tail (s : T) (p q : Int) : ∃ r, s.wins p = s.win p :: r ∧ s.wins q = s.win q :: r := by
  cases s with
  | lf n k => exact ⟨[], rfl, rfl⟩
  | nd n m sz key a b => exact ⟨_, rfl, rfl⟩
theorem nodup_app {l m : List Win} (h : ((l ++ m).map (·.n)).Nodup) {x y : Win} (hx : x ∈ l) (hy : y ∈ m) : x.n ≠ y.n := by
  rw [List.map_append, List.nodup_append] at h
  exact h.2.2 _ (List.mem_map_of_mem hx) _ (List.mem_map_of_mem hy)
theorem nodup_cons {x : Win} {m : List Win} (h : ((x :: m).map (·.n)).Nodup) {y : Win} (hy : y ∈ m) : y.n ≠ x.n := by
  rw [List.map_cons, List.nodup_cons] at h
  exact fun e => h.1 (by rw [← e]; exact List.mem_map_of_mem hy)
theorem map_id' {l : List Win} {u : Win → Win} (h : ∀ w ∈ l, u w = w) : l.map u = l := by
  rw [List.map_congr_left h, List.map_id'']
  intro x; rfl
/-- In a parent, one child is another one now; that one's parent. -/
def turnW (p was now : Int) (w : Win) : Win :=
  let v : Win := if w.n = now then { w with p := p } else w
  if v.n = p ∧ v.a = was then { v with a := now } else if v.n = p ∧ v.b = was then { v with b := now } else v
theorem turnW_n (p was now : Int) (w : Win) : (turnW p was now w).n = w.n := by
  unfold turnW
  simp only
  split <;> (try split) <;> (try split) <;> rfl
theorem turnW_id {p was now : Int} {w : Win} (h1 : w.n ≠ now) (h2 : w.n ≠ p) : turnW p was now w = w := by
  unfold turnW
  simp only [if_neg h1]
  rw [if_neg (fun h => h2 h.1), if_neg (fun h => h2 h.1)]
theorem turnW_now {p was now : Int} {w : Win} (h1 : w.n = now) (h2 : w.n ≠ p) : turnW p was now w = { w with p := p } := by
  unfold turnW
  simp only [if_pos h1]
  rw [if_neg (fun h => h2 h.1), if_neg (fun h => h2 h.1)]
/-- The frames' windows, where the child has another number. -/
theorem winsC_turn {fs : List Fr} {x y : Int} (hn : ((winsC fs x).map (·.n)).Nodup) (hy : ∀ w ∈ winsC fs x, w.n ≠ y) (ho : ∀ f ∈ fs.head?, f.o.num ≠ x) (h0 : top fs = 0 → fs = []) : (winsC fs x).map (turnW (top fs) x y) = winsC fs y := by
  cases fs with
  | nil => rfl
  | cons f fs =>
    rw [show top (f :: fs) = f.n from rfl]
    simp only [winsC, List.map_cons] at hn hy ⊢
    have hf : f.n ≠ y := by have := hy (f.win x (top fs)) (by simp); rwa [Fr.win_n] at this
    congr 1
    · have e : f.o.num ≠ x := ho f rfl
      unfold turnW Fr.win
      cases f.side <;> simp [hf, e]
    · refine map_id' fun w hw => turnW_id (hy w (by simp only [List.mem_cons]; exact .inr hw)) ?_
      have := nodup_cons (x := f.win x (top fs)) (by rw [List.map_cons]; exact hn) hw
      rwa [Fr.win_n] at this
theorem Ok.side_ne (h : Ok L last t) {f : Fr} {fs : List Fr} {s : T} (a : At t (f :: fs) s) : f.o.num ≠ s.num := by
  have := nodup_app (h.nodupC a) (x := s.win (top (f :: fs))) (y := f.o.win f.n) (s.win_mem _) (by simp only [winsC, List.mem_cons, List.mem_append]; exact .inr (.inl (f.o.win_mem _)))
  rw [T.win_n, T.win_n] at this
  exact Ne.symm this
theorem winsC_len : ∀ (fs : List Fr) (x : Int), fs.length ≤ (winsC fs x).length
  | [], _ => by simp
  | f :: fs, x => by
    have := winsC_len fs f.n
    simp only [winsC, List.length_cons, List.length_append]
    omega
theorem Ok.depth (h : Ok L last t) {fs : List Fr} {s : T} (a : At t fs s) : fs.length < 64 := by
  have h1 := (h.perm.trans a.perm).length_eq
  have h2 := winsC_len fs s.num
  have h3 : 0 < (s.wins (top fs)).length := List.length_pos_of_mem (s.win_mem _)
  have := h.len
  rw [List.length_append] at h1
  omega
theorem srt_map {L : List Win} {u : Win → Win} (hu : ∀ w, (u w).n = w.n) (h : L.Pairwise fun x y => x.n < y.n) : (L.map u).Pairwise fun x y => x.n < y.n := by
  rw [List.pairwise_map]
  exact h.imp fun h => by rw [hu, hu]; exact h
/-- What a tree's windows are, said of the tree. -/
theorem Ok.intro {L : List Win} {last : Int} {t : Option T} (hp : L.Perm (winsO t)) (hs : L.Pairwise fun x y => x.n < y.n) (hr : ∀ w ∈ L, 1 ≤ w.n ∧ w.n ≤ last) (hw : ∀ w ∈ L, WOk w) (hk : ∀ w ∈ L, w.key = 0 ∨ hasL L w.key = true) (hl : L.length ≤ 64) : Ok L last t := ⟨hp, hs, hr, hw, hk, hl⟩
def openPair (split m sz win pair : Int) : Win := ⟨pair, 4, 0, if m % 2 = 0 then win else split, if m % 2 = 0 then split else win, m, sz, win⟩
def setP (n p : Int) (w : Win) : Win := if w.n = n then { w with p := p } else w
theorem setP_n (n p : Int) (w : Win) : (setP n p w).n = w.n := by unfold setP; split <;> rfl
/-- The list behind an opening. -/
def openL (L : List Win) (last split p m sz kind : Int) : List Win :=
  ((L ++ [⟨last + 1, kind, last + 2, 0, 0, 0, 0, 0⟩, openPair split m sz (last + 1) (last + 2)]).map (turnW p split (last + 2))).map (setP split (last + 2))
def openT (fs : List Fr) (s : T) (last m sz kind : Int) : T :=
  plug fs (if m % 2 = 0 then .nd (last + 2) m sz (last + 1) (.lf (last + 1) kind) s else .nd (last + 2) m sz (last + 1) s (.lf (last + 1) kind))
theorem hasL_map {L : List Win} {u : Win → Win} (hu : ∀ w, (u w).n = w.n) (n : Int) : hasL (L.map u) n = hasL L n := by
  unfold hasL
  rw [List.any_map]
  congr 1
  funext w
  simp [hu]
theorem turnW_k (p was now : Int) (w : Win) : (turnW p was now w).k = w.k ∧ (turnW p was now w).m = w.m ∧ (turnW p was now w).s = w.s ∧ (turnW p was now w).key = w.key := by
  unfold turnW
  simp only
  split <;> (try split) <;> (try split) <;> exact ⟨rfl, rfl, rfl, rfl⟩
theorem setP_k (n p : Int) (w : Win) : (setP n p w).k = w.k ∧ (setP n p w).m = w.m ∧ (setP n p w).s = w.s ∧ (setP n p w).key = w.key ∧ (setP n p w).a = w.a ∧ (setP n p w).b = w.b := by
  unfold setP; split <;> exact ⟨rfl, rfl, rfl, rfl, rfl, rfl⟩
theorem turnW_ab {p was now : Int} {w : Win} (h : was ≠ 0) (ha : w.a = 0) (hb : w.b = 0) : (turnW p was now w).a = 0 ∧ (turnW p was now w).b = 0 := by
  unfold turnW
  simp only
  split <;> simp [ha, hb, Ne.symm h]
theorem WOk.turn {p was now : Int} {w : Win} (h : WOk w) (h0 : was ≠ 0) : WOk (turnW p was now w) := by
  obtain ⟨e1, e2, e3, e4⟩ := turnW_k p was now w
  unfold WOk at h ⊢
  rw [e1, e2, e3, e4]
  rcases h with h | ⟨h1, h2, h3, h4, h5, h6, h7⟩
  · exact .inl h
  · exact .inr ⟨h1, h2, h3, h4, h5, (turnW_ab h0 h6 h7).1, (turnW_ab h0 h6 h7).2⟩
theorem WOk.setP {n p : Int} {w : Win} (h : WOk w) : WOk (setP n p w) := by
  obtain ⟨e1, e2, e3, e4, e5, e6⟩ := setP_k n p w
  unfold WOk at h ⊢
  rw [e1, e2, e3, e4, e5, e6]
  exact h
theorem Ok.opened (h : Ok L last t) {fs : List Fr} {s : T} (a : At t fs s) {m sz kind : Int} (hm : validM m) (hk : 1 ≤ kind ∧ kind ≤ 3) (hz : 0 ≤ sz ∧ sz < 4294967296) (hl : L.length ≤ 62) :
    Ok (openL L last s.num (top fs) m sz kind) (last + 2) (some (openT fs s last m sz kind)) := by
  have hn := h.nodupC a
  have pos := h.num_pos a
  have hmem : ∀ w ∈ s.wins (top fs) ++ winsC fs s.num, 1 ≤ w.n ∧ w.n ≤ last := fun w hw => h.rng w ((h.perm.trans a.perm).mem_iff.2 hw)
  have hC : ∀ w ∈ winsC fs s.num, w.n ≠ last + 2 := fun w hw => by have := hmem w (List.mem_append_right _ hw); omega
  have htop : top fs ≤ last := by
    cases fs with
    | nil => simp only [top]; omega
    | cons f fs => have := (h.num_pos a.up).2; rwa [Fr.fill_num] at this
  have hts : s.num ≠ top fs := by
    cases fs with
    | nil => simp only [top]; omega
    | cons f fs =>
      have := nodup_app hn (x := s.win (top (f :: fs))) (y := f.win s.num (top fs)) (s.win_mem _) (by simp [winsC])
      rwa [T.win_n, Fr.win_n] at this
  have hd : ∀ f ∈ fs.head?, f.o.num ≠ s.num := by
    cases fs with
    | nil => simp
    | cons f fs => intro g hg; simp at hg; subst hg; exact h.side_ne a
  have hC2 : (winsC fs s.num).map (turnW (top fs) s.num (last + 2)) = winsC fs (last + 2) :=
    winsC_turn (by rw [List.map_append] at hn; exact (List.nodup_append.1 hn).2.1) hC hd fun e => (h.top_ne a).1 e
  have hC3 : (winsC fs (last + 2)).map (setP s.num (last + 2)) = winsC fs (last + 2) := by
    rw [← hC2, List.map_map]
    refine List.map_congr_left fun w hw => ?_
    have hne : w.n ≠ s.num := by
      have := nodup_app hn (s.win_mem (top fs)) hw
      rw [T.win_n] at this
      exact Ne.symm this
    show setP s.num (last + 2) (turnW (top fs) s.num (last + 2) w) = _
    unfold setP
    rw [turnW_n, if_neg hne]
  obtain ⟨r, hr1, hr2⟩ := wins_tail s (top fs) (last + 2)
  have hr3 : ∀ w ∈ r, setP s.num (last + 2) (turnW (top fs) s.num (last + 2) w) = w := by
    intro w hw
    have hwm : w ∈ s.wins (top fs) := by rw [hr1]; exact List.mem_cons_of_mem _ hw
    have h1 := hmem w (List.mem_append_left _ hwm)
    have h2 : w.n ≠ s.num := by
      have hn1 : ((s.wins (top fs)).map (·.n)).Nodup := by rw [List.map_append] at hn; exact (List.nodup_append.1 hn).1
      rw [hr1] at hn1
      have := nodup_cons hn1 hw
      rwa [T.win_n] at this
    have h3 : w.n ≠ top fs := by
      cases fs with
      | nil => simp only [top]; omega
      | cons f fs =>
        have := nodup_app hn (x := w) (y := f.win s.num (top fs)) hwm (by simp [winsC])
        rwa [Fr.win_n] at this
    rw [turnW_id (by omega) h3]
    unfold setP
    rw [if_neg h2]
  have hroot : setP s.num (last + 2) (turnW (top fs) s.num (last + 2) (s.win (top fs))) = s.win (last + 2) := by
    rw [turnW_id (by rw [T.win_n]; omega) (by rw [T.win_n]; exact hts)]
    unfold setP
    rw [T.win_n, if_pos rfl]
    cases s <;> rfl
  have eS : ((s.wins (top fs)).map (turnW (top fs) s.num (last + 2))).map (setP s.num (last + 2)) = s.wins (last + 2) := by
    rw [List.map_map, hr1, hr2, List.map_cons]
    show setP s.num (last + 2) (turnW (top fs) s.num (last + 2) (s.win (top fs))) :: _ = _
    rw [hroot]
    congr 1
    exact map_id' hr3
  have e1 : setP s.num (last + 2) (turnW (top fs) s.num (last + 2) ⟨last + 1, kind, last + 2, 0, 0, 0, 0, 0⟩) = ⟨last + 1, kind, last + 2, 0, 0, 0, 0, 0⟩ := by
    rw [turnW_id (by show last + 1 ≠ last + 2; omega) (by show last + 1 ≠ top fs; omega)]
    unfold setP
    rw [if_neg (by show ¬ last + 1 = s.num; omega)]
  have e2 : setP s.num (last + 2) (turnW (top fs) s.num (last + 2) (openPair s.num m sz (last + 1) (last + 2))) = { openPair s.num m sz (last + 1) (last + 2) with p := top fs } := by
    rw [turnW_now (now := last + 2) (p := top fs) (w := openPair s.num m sz (last + 1) (last + 2)) rfl (by show last + 2 ≠ top fs; omega)]
    unfold setP
    rw [if_neg (by show ¬ last + 2 = s.num; omega)]
  have hperm : (openL L last s.num (top fs) m sz kind).Perm (winsO (some (openT fs s last m sz kind))) := by
    unfold openL
    rw [List.map_append, List.map_append]
    simp only [List.map_cons, List.map_nil]
    rw [e1, e2]
    have p1 := (((h.perm.trans a.perm).map (turnW (top fs) s.num (last + 2))).map (setP s.num (last + 2)))
    rw [List.map_append, List.map_append, eS, hC2, hC3] at p1
    refine (p1.append_right _).trans ?_
    unfold openT openPair
    show List.Perm _ ((plug fs _).wins 0)
    by_cases hm2 : m % 2 = 0
    · rw [if_pos hm2, if_pos hm2, if_pos hm2]
      refine .trans ?_ (wins_plug _ _).symm
      simp only [T.wins, T.num, List.cons_append, List.nil_append]
      refine List.perm_append_comm.trans ?_
      simp only [List.cons_append, List.nil_append]
      exact .swap _ _ _
    · rw [if_neg hm2, if_neg hm2, if_neg hm2]
      refine .trans ?_ (wins_plug _ _).symm
      simp only [T.wins, T.num, List.cons_append, List.nil_append]
      refine List.perm_append_comm.trans ?_
      simp only [List.cons_append, List.nil_append]
      refine (List.Perm.swap _ _ _).trans (.cons _ ?_)
      rw [List.append_assoc]
      exact List.perm_middle.symm
  have hun : ∀ w, (setP s.num (last + 2) (turnW (top fs) s.num (last + 2) w)).n = w.n := fun w => by rw [setP_n, turnW_n]
  have hmp : openL L last s.num (top fs) m sz kind = (L ++ [⟨last + 1, kind, last + 2, 0, 0, 0, 0, 0⟩, openPair s.num m sz (last + 1) (last + 2)]).map fun w => setP s.num (last + 2) (turnW (top fs) s.num (last + 2) w) := by
    unfold openL; rw [List.map_map]; rfl
  refine ⟨hperm, ?_, ?_, ?_, ?_, ?_⟩
  · rw [hmp]
    refine srt_map hun ?_
    rw [List.pairwise_append]
    refine ⟨h.srt, ?_, ?_⟩
    · simp [openPair]
    · intro x hx y hy
      have := h.rng x hx
      simp only [List.mem_cons, List.not_mem_nil, or_false] at hy
      rcases hy with rfl | rfl
      · show x.n < last + 1; omega
      · show x.n < last + 2; omega
  · intro w hw
    rw [hmp] at hw
    obtain ⟨v, hv, rfl⟩ := List.mem_map.1 hw
    rw [hun]
    rcases List.mem_append.1 hv with hv | hv
    · have := h.rng v hv; omega
    · simp only [List.mem_cons, List.not_mem_nil, or_false] at hv
      rcases hv with rfl | rfl
      · show 1 ≤ last + 1 ∧ last + 1 ≤ last + 2; omega
      · show 1 ≤ last + 2 ∧ last + 2 ≤ last + 2; omega
  · intro w hw
    rw [hmp] at hw
    obtain ⟨v, hv, rfl⟩ := List.mem_map.1 hw
    refine WOk.setP (WOk.turn ?_ (by omega))
    rcases List.mem_append.1 hv with hv | hv
    · exact h.wok v hv
    · simp only [List.mem_cons, List.not_mem_nil, or_false] at hv
      rcases hv with rfl | rfl
      · exact .inr ⟨hk.1, hk.2, rfl, rfl, rfl, rfl, rfl⟩
      · exact .inl ⟨rfl, hm, hz.1, hz.2⟩
  · intro w hw
    have hh : ∀ n, hasL (openL L last s.num (top fs) m sz kind) n = hasL (L ++ [⟨last + 1, kind, last + 2, 0, 0, 0, 0, 0⟩, openPair s.num m sz (last + 1) (last + 2)]) n := fun n => by rw [hmp]; exact hasL_map hun n
    rw [hh]
    rw [hmp] at hw
    obtain ⟨v, hv, rfl⟩ := List.mem_map.1 hw
    have ek : (setP s.num (last + 2) (turnW (top fs) s.num (last + 2) v)).key = v.key := by rw [(setP_k _ _ _).2.2.2.1, (turnW_k _ _ _ _).2.2.2]
    rw [ek]
    rcases List.mem_append.1 hv with hv | hv
    · rcases h.keys v hv with e | e
      · exact .inl e
      · right
        obtain ⟨x, hx, e⟩ := hasL_iff.1 e
        exact hasL_iff.2 ⟨x, List.mem_append_left _ hx, e⟩
    · simp only [List.mem_cons, List.not_mem_nil, or_false] at hv
      rcases hv with rfl | rfl
      · exact .inl rfl
      · right
        exact hasL_iff.2 ⟨⟨last + 1, kind, last + 2, 0, 0, 0, 0, 0⟩, by simp, rfl⟩
  · rw [hmp, List.length_map, List.length_append]
    simp only [List.length_cons, List.length_nil]
    omega
end
end Go.Pane
end
section
/- A window closed, a pair arranged: what becomes of the list is what becomes of the tree; no condition but those that each names. -/
set_option linter.unusedVariables false
set_option linter.unusedSimpArgs false
namespace Go.Pane
section
variable {L : List Win} {last : Int} {t : Option T}
/-- From a window upward, so many steps at most: is there that one? -/
def belF (L : List Win) : Nat → Int → Int → Bool
  | 0, _, _ => false
  | i + 1, n, top => if n = 0 then false else if n = top then true else belF L i (ofL L n).p top
def chain (fs : List Fr) (s : T) : List Int := s.num :: fs.map Fr.n
theorem Ok.belF_chain (h : Ok L last t) (x : Int) : ∀ (fs : List Fr) (s : T) (i : Nat), At t fs s → fs.length < i → (belF L i s.num x = true ↔ x ∈ chain fs s) := by
  intro fs
  induction fs with
  | nil =>
    intro s i a hi
    obtain ⟨i, rfl⟩ : ∃ k, i = k + 1 := ⟨i - 1, by omega⟩
    have h1 := (h.num_pos a).1
    unfold belF chain
    rw [if_neg (by omega)]
    by_cases e : s.num = x
    · rw [if_pos e]; simp [e]
    · rw [if_neg e, h.of_at a, T.win_p]
      cases i with
      | zero => simp [belF, Ne.symm e]
      | succ i => simp [belF, top, Ne.symm e]
  | cons f fs ih =>
    intro s i a hi
    obtain ⟨i, rfl⟩ : ∃ k, i = k + 1 := ⟨i - 1, by omega⟩
    have h1 := (h.num_pos a).1
    unfold belF
    rw [if_neg (by omega)]
    by_cases e : s.num = x
    · rw [if_pos e]; simp [chain, e]
    · rw [if_neg e, h.of_at a, T.win_p]
      have := ih (f.fill s) i a.up (by simp at hi; omega)
      rw [Fr.fill_num] at this
      show belF L i f.n x = true ↔ _
      rw [this]
      simp [chain, Fr.fill_num, Ne.symm e]
theorem sub_mem : ∀ (pre gs : List Fr) (s : T), s.win (top (pre ++ gs)) ∈ (plug pre s).wins (top gs)
  | [], gs, s => s.win_mem _
  | f :: pre, gs, s => by
    have := sub_mem_aux pre gs (f.fill s) (s.win f.n) (by
      unfold Fr.fill
      cases f.side <;> simp [T.wins, T.win_mem])
    exact this
where
  sub_mem_aux : ∀ (pre gs : List Fr) (s : T) (w : Win), w ∈ s.wins (top (pre ++ gs)) → w ∈ (plug pre s).wins (top gs)
  | [], gs, s, w, h => h
  | f :: pre, gs, s, w, h => by
    refine sub_mem_aux pre gs (f.fill s) w ?_
    have h' : w ∈ s.wins f.n := h
    unfold Fr.fill
    cases f.side <;> simp [T.wins, h']
/-- Below a window is what its subtree has. -/
theorem Ok.bel (h : Ok L last t) {fs : List Fr} {s : T} (a : At t fs s) {w : Win} (hw : w ∈ L) : belF L 100 w.n s.num = true ↔ w ∈ s.wins (top fs) := by
  constructor
  · intro hb
    obtain ⟨gs, u, b, rfl⟩ := at_of_mem (h.mem.1 hw)
    rw [T.win_n] at hb
    have hc := (h.belF_chain s.num gs u 100 b (by have := h.depth b; omega)).1 hb
    have key : ∀ pre rest, gs = pre ++ rest → (plug pre u).num = s.num → u.win (top gs) ∈ s.wins (top fs) := by
      intro pre rest e hn
      subst e
      have e1 := h.uniq (plug pre u) s rest fs b.upL a hn
      have e2 := h.of_at b.upL
      have e3 := h.of_at a
      rw [hn, e3] at e2
      have e4 : top fs = top rest := by have := congrArg Win.p e2; rwa [T.win_p, T.win_p] at this
      have := sub_mem pre rest u
      rw [e1, ← e4] at this
      exact this
    rcases List.mem_cons.1 hc with e | e
    · exact key [] gs rfl e.symm
    · obtain ⟨f, hf, ef⟩ := List.mem_map.1 e
      obtain ⟨pre, rest, rfl⟩ := List.append_of_mem hf
      refine key (pre ++ [f]) rest (by simp) ?_
      rw [plug_append]
      show (f.fill (plug pre u)).num = s.num
      rw [Fr.fill_num, ef]
  · intro hm
    obtain ⟨pre, u, h1, h2⟩ := mem_sub s fs w hm
    have b : At t (pre ++ fs) u := by rw [At, plug_append, h1]; exact a
    have e : w.n = u.num := by rw [h2, T.win_n]
    rw [e]
    refine (h.belF_chain s.num (pre ++ fs) u 100 b (by have := h.depth b; omega)).2 ?_
    rcases List.eq_nil_or_concat pre with rfl | ⟨init, f, rfl⟩
    · have h1 : u = s := h1
      rw [h1]; simp [chain]
    · rw [List.concat_eq_append, plug_append] at h1
      have h1 : f.fill (plug init u) = s := h1
      have e : f.n = s.num := by rw [← h1, Fr.fill_num]
      simp [chain, e]
def clrW (L : List Win) (w : Win) : Win := if hasL L w.key then w else { w with key := 0 }
def sibL (L : List Win) (n : Int) : Int := if (ofL L (ofL L n).p).a = n then (ofL L (ofL L n).p).b else (ofL L (ofL L n).p).a
def outW (L : List Win) (n : Int) (w : Win) : Bool := belF L 100 w.n n || w.n == (ofL L n).p
def goneL (L : List Win) (n : Int) : List Win := L.filter (outW L n)
def closeK (L : List Win) (n : Int) : List Win := ((if (ofL L n).p = 0 then L else L.map (turnW (ofL L (ofL L n).p).p (ofL L n).p (sibL L n))).filter fun w => !outW L n w)
def closeL (L : List Win) (n : Int) : List Win := (closeK L n).map (clrW (closeK L n))
def clrT (has : Int → Bool) : T → T
  | .lf n k => .lf n k
  | .nd n m s key a b => .nd n m s (if has key then key else 0) (clrT has a) (clrT has b)
theorem clrT_num (has : Int → Bool) (s : T) : (clrT has s).num = s.num := by cases s <;> rfl
theorem clrT_wins (M : List Win) : ∀ (s : T) (p : Int), (clrT (hasL M) s).wins p = (s.wins p).map (clrW M)
  | .lf n k, p => by simp [clrT, T.wins, clrW]
  | .nd n m sz key a b, p => by
    simp only [clrT, T.wins, List.map_cons, List.map_append, clrT_num, clrT_wins M a, clrT_wins M b]
    congr 1
    unfold clrW
    simp only
    split <;> rfl
def closeT (L : List Win) (n : Int) (fs : List Fr) : Option T := match fs with
  | [] => none
  | f :: fs => some (clrT (hasL (closeK L n)) (plug fs f.o))
theorem Ok.sib (h : Ok L last t) {f : Fr} {fs : List Fr} {s : T} (a : At t (f :: fs) s) : sibL L s.num = f.o.num := by
  unfold sibL
  have hne := h.side_ne a
  have e1 : (ofL L s.num).p = f.n := by rw [h.of_at a, T.win_p]; rfl
  have e2 := h.of_at a.up
  rw [Fr.fill_num, Fr.fill_win] at e2
  rw [e1, e2]
  unfold Fr.win
  cases f.side
  · rw [if_neg hne]
  · rw [if_pos rfl]
theorem Ok.out_iff (h : Ok L last t) {fs : List Fr} {s : T} (a : At t fs s) {w : Win} (hw : w ∈ L) : outW L s.num w = true ↔ w ∈ s.wins (top fs) ∨ w.n = top fs := by
  unfold outW
  rw [Bool.or_eq_true, h.bel a hw, h.of_at a, T.win_p]
  simp
theorem turn_out (L : List Win) (n p was now : Int) (w : Win) : outW L n (turnW p was now w) = outW L n w := by unfold outW; rw [turnW_n]
theorem Ok.closedK (h : Ok L last t) {fs : List Fr} {s : T} (a : At t fs s) : (closeK L s.num).Perm (match fs with | [] => [] | f :: fs => (plug fs f.o).wins 0) ∧ (closeK L s.num).Pairwise (fun x y => x.n < y.n) ∧
    (∀ w ∈ closeK L s.num, ∃ v ∈ L, w.n = v.n ∧ w.k = v.k ∧ w.m = v.m ∧ w.s = v.s ∧ w.key = v.key ∧ WOk w) := by
  have e1 : (ofL L s.num).p = top fs := by rw [h.of_at a, T.win_p]
  unfold closeK
  rw [e1]
  have hout : ∀ w ∈ L, outW L s.num w = true ↔ w ∈ s.wins (top fs) ∨ w.n = top fs := fun w hw => h.out_iff a hw
  cases fs with
  | nil =>
    simp only [top]
    rw [if_pos trivial]
    have : (L.filter fun w => !outW L s.num w) = [] := by
      rw [List.filter_eq_nil_iff]
      intro w hw
      have hm : w ∈ s.wins (top []) := by
        have := (h.perm.trans a.perm).mem_iff.1 hw
        simpa [winsC] using this
      rw [(hout w hw).2 (.inl hm)]
      simp
    rw [this]
    exact ⟨.refl _, .nil, by simp⟩
  | cons f fs =>
    have hfp := (h.num_pos a.up).1
    rw [Fr.fill_num] at hfp
    have e0 : top (f :: fs) = f.n := rfl
    rw [e0]
    rw [if_neg (by omega), h.sib a]
    have e2 : (ofL L f.n).p = top fs := by have := h.of_at a.up; rw [Fr.fill_num] at this; rw [this, T.win_p]
    rw [e2]
    rw [List.filter_map]
    have hco : ((fun w => !outW L s.num w) ∘ turnW (top fs) f.n f.o.num) = fun w => !outW L s.num w := by
      funext w; simp [turn_out]
    rw [hco]
    have hn := h.nodupC a
    have hpm := h.perm.trans a.perm
    have hset : (L.filter fun w => !outW L s.num w).Perm (f.o.wins f.n ++ winsC fs f.n) := by
      refine (hpm.filter _).trans ?_
      rw [List.filter_append]
      have f1 : ((s.wins (top (f :: fs))).filter fun w => !outW L s.num w) = [] := by
        rw [List.filter_eq_nil_iff]
        intro w hw
        rw [(hout w (hpm.mem_iff.2 (List.mem_append_left _ hw))).2 (.inl hw)]
        simp
      have f2 : ((winsC (f :: fs) s.num).filter fun w => !outW L s.num w) = f.o.wins f.n ++ winsC fs f.n := by
        simp only [winsC]
        rw [List.filter_cons_of_neg]
        · rw [List.filter_eq_self]
          intro w hw
          have hw' : w ∈ winsC (f :: fs) s.num := by simp only [winsC]; exact List.mem_cons_of_mem _ hw
          have hL := hpm.mem_iff.2 (List.mem_append_right _ hw')
          rw [Bool.not_eq_true', Bool.eq_false_iff]
          intro ho
          rcases (hout w hL).1 ho with g | g
          · exact nodup_app hn g hw' rfl
          · have hn2 : ((winsC (f :: fs) s.num).map (·.n)).Nodup := by rw [List.map_append] at hn; exact (List.nodup_append.1 hn).2.1
            simp only [winsC] at hn2
            have := nodup_cons hn2 hw
            rw [Fr.win_n] at this
            exact this g
        · have hL := hpm.mem_iff.2 (List.mem_append_right (s.wins (top (f :: fs))) (List.mem_cons_self (a := f.win s.num (top fs)) (l := f.o.wins f.n ++ winsC fs f.n)))
          rw [(hout _ hL).2 (.inr (by rw [Fr.win_n]; rfl))]
          simp
      rw [f1, f2, List.nil_append]
    -- the sibling, its place
    have b : At t (⟨f.n, f.m, f.s, f.key, !f.side, s⟩ :: fs) f.o := by
      have a' := a
      unfold At plug at a' ⊢
      rw [a']
      congr 1
      unfold Fr.fill
      cases f.side <;> rfl
    have hnb := h.nodupC b
    have e0b : top (⟨f.n, f.m, f.s, f.key, !f.side, s⟩ :: fs) = f.n := rfl
    rw [e0b] at hnb
    have ne1 : f.o.num ≠ top fs := by
      cases fs with
      | nil => have := (h.num_pos b).1; simp only [top]; omega
      | cons g fs =>
        have := nodup_app hnb (x := f.o.win f.n) (y := g.win f.n (top fs)) (f.o.win_mem _) (by simp [winsC])
        rwa [T.win_n, Fr.win_n] at this
    obtain ⟨r, hr1, hr2⟩ := wins_tail f.o f.n (top fs)
    have hn3 : ((f.o.wins f.n).map (·.n)).Nodup := by rw [List.map_append] at hnb; exact (List.nodup_append.1 hnb).1
    have m1 : (f.o.wins f.n).map (turnW (top fs) f.n f.o.num) = f.o.wins (top fs) := by
      rw [hr1, hr2, List.map_cons]
      congr 1
      · rw [turnW_now (now := f.o.num) (p := top fs) (w := f.o.win f.n) (T.win_n _ _) (by rw [T.win_n]; exact ne1)]
        cases f.o <;> rfl
      · refine map_id' fun w hw => turnW_id ?_ ?_
        · rw [hr1] at hn3
          have := nodup_cons hn3 hw
          rwa [T.win_n] at this
        · cases fs with
          | nil =>
            have hwm : w ∈ f.o.wins f.n := by rw [hr1]; exact List.mem_cons_of_mem _ hw
            have := h.rng w (hpm.mem_iff.2 (List.mem_append_right _ (by simp [winsC, hwm])))
            simp only [top]; omega
          | cons g fs =>
            have hwm : w ∈ f.o.wins f.n := by rw [hr1]; exact List.mem_cons_of_mem _ hw
            have := nodup_app hnb (x := w) (y := g.win f.n (top fs)) hwm (by simp [winsC])
            rwa [Fr.win_n] at this
    have hn4 : ((winsC fs f.n).map (·.n)).Nodup := by
      have := h.nodupC a.up
      rw [Fr.fill_num, List.map_append] at this
      exact (List.nodup_append.1 this).2.1
    have m2 : (winsC fs f.n).map (turnW (top fs) f.n f.o.num) = winsC fs f.o.num := by
      refine winsC_turn hn4 ?_ ?_ fun e => (h.top_ne a.up).1 e
      · intro w hw
        have := nodup_app hnb (x := f.o.win f.n) (y := w) (f.o.win_mem _) (by simp [winsC, hw])
        rw [T.win_n] at this
        exact Ne.symm this
      · cases fs with
        | nil => simp
        | cons g fs => intro x hx; simp at hx; subst hx; have := h.side_ne a.up; rwa [Fr.fill_num] at this
    refine ⟨?_, ?_, ?_⟩
    · refine (hset.map _).trans ?_
      rw [List.map_append, m1, m2]
      exact (wins_plug fs f.o).symm
    · exact srt_map (fun w => turnW_n _ _ _ w) (h.srt.filter _)
    · intro w hw
      obtain ⟨v, hv, rfl⟩ := List.mem_map.1 hw
      have hvL := (List.mem_filter.1 hv).1
      obtain ⟨q1, q2, q3, q4⟩ := turnW_k (top fs) f.n f.o.num v
      exact ⟨v, hvL, turnW_n _ _ _ _, q1, q2, q3, q4, WOk.turn (h.wok v hvL) (by omega)⟩
theorem clrW_n (M : List Win) (w : Win) : (clrW M w).n = w.n := by unfold clrW; split <;> rfl
theorem Ok.closed (h : Ok L last t) {fs : List Fr} {s : T} (a : At t fs s) : Ok (closeL L s.num) last (closeT L s.num fs) := by
  obtain ⟨h1, h2, h3⟩ := h.closedK a
  have hh : ∀ n, hasL (closeL L s.num) n = hasL (closeK L s.num) n := fun n => hasL_map (clrW_n _) n
  refine ⟨?_, srt_map (clrW_n _) h2, ?_, ?_, ?_, ?_⟩
  · unfold closeL closeT
    refine (h1.map _).trans ?_
    cases fs with
    | nil => exact .refl _
    | cons f fs => simp only [winsO]; rw [clrT_wins]
  · intro w hw
    obtain ⟨v, hv, rfl⟩ := List.mem_map.1 hw
    obtain ⟨u, hu, e, _⟩ := h3 v hv
    rw [clrW_n, e]
    exact h.rng u hu
  · intro w hw
    obtain ⟨v, hv, rfl⟩ := List.mem_map.1 hw
    obtain ⟨u, hu, e1, e2, e3, e4, e5, e6⟩ := h3 v hv
    unfold clrW
    split
    · exact e6
    · unfold WOk at e6 ⊢
      rcases e6 with e6 | e6
      · exact .inl e6
      · exact .inr ⟨e6.1, e6.2.1, e6.2.2.1, e6.2.2.2.1, rfl, e6.2.2.2.2.2.1, e6.2.2.2.2.2.2⟩
  · intro w hw
    obtain ⟨v, hv, rfl⟩ := List.mem_map.1 hw
    rw [hh]
    unfold clrW
    by_cases e : hasL (closeK L s.num) v.key = true
    · rw [if_pos e]; exact .inr e
    · rw [if_neg e]; exact .inl rfl
  · have := h1.length_eq
    have hl := h.len
    have hp := (h.perm.trans a.perm).length_eq
    unfold closeL
    rw [List.length_map]
    unfold closeK
    have : ∀ (M : List Win) (q : Win → Bool), M.length = L.length → (M.filter q).length ≤ 64 := fun M q e => by
      have := List.length_filter_le q M
      omega
    split
    · exact this _ _ rfl
    · exact this _ _ (by simp)
/-- A pair arranged. -/
def arrW (n m sz key : Int) (w : Win) : Win := if w.n = n then { w with m := m, s := sz, key := if key = 0 then w.key else key } else w
def arrL (L : List Win) (n m sz key : Int) : List Win := L.map (arrW n m sz key)
theorem arrW_n (n m sz key : Int) (w : Win) : (arrW n m sz key w).n = w.n := by unfold arrW; split <;> rfl
theorem Ok.arranged (h : Ok L last t) {fs : List Fr} {n m0 sz0 key0 : Int} {x y : T} (a : At t fs (.nd n m0 sz0 key0 x y)) {m sz key : Int} (hm : validM m) (hz : 0 ≤ sz ∧ sz < 4294967296) (hk : key = 0 ∨ hasL L key = true) :
    Ok (arrL L n m sz key) last (some (plug fs (.nd n m sz (if key = 0 then key0 else key) x y))) := by
  have hn := h.nodupC a
  have hpm := h.perm.trans a.perm
  have hh : ∀ q, hasL (arrL L n m sz key) q = hasL L q := fun q => hasL_map (arrW_n n m sz key) q
  refine ⟨?_, srt_map (arrW_n _ _ _ _) h.srt, ?_, ?_, ?_, ?_⟩
  · unfold arrL
    refine (hpm.map _).trans ?_
    rw [List.map_append]
    have e1 : (winsC fs (T.nd n m0 sz0 key0 x y).num).map (arrW n m sz key) = winsC fs n := by
      refine map_id' fun w hw => ?_
      have := nodup_app hn (x := T.win (.nd n m0 sz0 key0 x y) (top fs)) (y := w) (T.win_mem _ _) hw
      have this : n ≠ w.n := this
      unfold arrW
      rw [if_neg (Ne.symm this)]
    have e2 : ((T.nd n m0 sz0 key0 x y).wins (top fs)).map (arrW n m sz key) = (T.nd n m sz (if key = 0 then key0 else key) x y).wins (top fs) := by
      simp only [T.wins, List.map_cons]
      congr 1
      · unfold arrW; rw [if_pos rfl]
      · refine map_id' fun w hw => ?_
        have hn1 : (((T.nd n m0 sz0 key0 x y).wins (top fs)).map (·.n)).Nodup := by rw [List.map_append] at hn; exact (List.nodup_append.1 hn).1
        simp only [T.wins] at hn1
        have := nodup_cons hn1 hw
        unfold arrW
        rw [if_neg this]
    rw [e1, e2]
    exact (wins_plug fs _).symm
  · intro w hw
    obtain ⟨v, hv, rfl⟩ := List.mem_map.1 hw
    rw [arrW_n]
    exact h.rng v hv
  · intro w hw
    obtain ⟨v, hv, rfl⟩ := List.mem_map.1 hw
    unfold arrW
    split
    · rename_i e
      have : v = T.win (.nd n m0 sz0 key0 x y) (top fs) := srt_inj h.srt hv (h.at a) e
      subst this
      exact .inl ⟨rfl, hm, hz.1, hz.2⟩
    · exact h.wok v hv
  · intro w hw
    obtain ⟨v, hv, rfl⟩ := List.mem_map.1 hw
    rw [hh]
    unfold arrW
    split
    · simp only
      by_cases e : key = 0
      · rw [if_pos e]; exact h.keys v hv
      · rw [if_neg e]; exact .inr (hk.resolve_left e)
    · exact h.keys v hv
  · unfold arrL; rw [List.length_map]; exact h.len
/-- The first window. -/
theorem Ok.first (h : Ok [] last t) {kind : Int} (hk : 1 ≤ kind ∧ kind ≤ 3) (hl : 0 ≤ last) : Ok [⟨last + 1, kind, 0, 0, 0, 0, 0, 0⟩] (last + 1) (some (.lf (last + 1) kind)) := by
  refine ⟨.refl _, by simp, ?_, ?_, ?_, by simp⟩
  · intro w hw; simp at hw; subst hw; simp only; omega
  · intro w hw; simp at hw; subst hw; exact .inr ⟨hk.1, hk.2, rfl, rfl, rfl, rfl, rfl⟩
  · intro w hw; simp at hw; subst hw; exact .inl rfl
end
end Go.Pane
end
section
/- Where windows lie: by the list, by the tree; no condition but those that each names. -/
set_option linter.unusedVariables false
set_option linter.unusedSimpArgs false
namespace Go.Pane
structure R4 where
  x : Int
  y : Int
  w : Int
  h : Int
def zeroR : R4 := ⟨0, 0, 0, 0⟩
def cols (m : Int) : Bool := decide (m % 16 < 2)
/-- How much of n the measured part has. -/
def partF (κ : Int → Int) (m s key n : Int) : Int :=
  if (if 32 ≤ m then n * s / 100 else if key = 0 ∨ κ key = 1 then 0 else s) > n then n else if 32 ≤ m then n * s / 100 else if key = 0 ∨ κ key = 1 then 0 else s
def firstF (κ : Int → Int) (m s key n : Int) : Int := if m % 2 = 1 then n - partF κ m s key n else partF κ m s key n
def childR (κ : Int → Int) (m s key : Int) (side : Bool) (r : R4) : R4 :=
  match cols m with
  | true => match side with
    | true => ⟨r.x, r.y, firstF κ m s key r.w, r.h⟩
    | false => ⟨r.x + firstF κ m s key r.w, r.y, r.w - firstF κ m s key r.w, r.h⟩
  | false => match side with
    | true => ⟨r.x, r.y, r.w, firstF κ m s key r.h⟩
    | false => ⟨r.x, r.y + firstF κ m s key r.h, r.w, r.h - firstF κ m s key r.h⟩
def rectC (κ : Int → Int) (W H : Int) : List Fr → R4
  | [] => ⟨0, 0, W, H⟩
  | f :: fs => childR κ f.m f.s f.key f.side (rectC κ W H fs)
def kof (L : List Win) (n : Int) : Int := (ofL L n).k
def rhoF (L : List Win) (W H : Int) : Nat → Int → R4
  | 0, _ => zeroR
  | i + 1, n => if (ofL L n).p = 0 then ⟨0, 0, W, H⟩ else
      childR (kof L) (ofL L (ofL L n).p).m (ofL L (ofL L n).p).s (ofL L (ofL L n).p).key ((ofL L (ofL L n).p).a == n) (rhoF L W H i (ofL L n).p)
def rho (L : List Win) (W H n : Int) : R4 := if hasL L n then rhoF L W H 100 n else zeroR
section
variable {L : List Win} {last : Int} {t : Option T} {W H : Int}
theorem partF_le {κ : Int → Int} {m s key n : Int} (hn : 0 ≤ n) (hs : 0 ≤ s) : 0 ≤ partF κ m s key n ∧ partF κ m s key n ≤ n := by
  unfold partF
  have h1 : 0 ≤ n * s / 100 := Int.ediv_nonneg (Int.mul_nonneg hn hs) (by decide)
  generalize n * s / 100 = q at *
  split
  · omega
  · split
    · constructor <;> omega
    · split
      · omega
      · constructor <;> omega
theorem firstF_le {κ : Int → Int} {m s key n : Int} (hn : 0 ≤ n) (hs : 0 ≤ s) : 0 ≤ firstF κ m s key n ∧ firstF κ m s key n ≤ n := by
  have := partF_le (κ := κ) (m := m) (key := key) hn hs
  unfold firstF
  split <;> omega
/-- Where the window at a place lies. -/
theorem Ok.rhoF (h : Ok L last t) : ∀ (fs : List Fr) (s : T) (i : Nat), At t fs s → fs.length < i → rhoF L W H i s.num = rectC (kof L) W H fs := by
  intro fs
  induction fs with
  | nil =>
    intro s i a hi
    obtain ⟨i, rfl⟩ : ∃ k, i = k + 1 := ⟨i - 1, by omega⟩
    unfold Pane.rhoF
    rw [h.of_at a, T.win_p, if_pos (show top [] = 0 from rfl)]
    rfl
  | cons f fs ih =>
    intro s i a hi
    obtain ⟨i, rfl⟩ : ∃ k, i = k + 1 := ⟨i - 1, by omega⟩
    have hf := (h.num_pos a.up).1
    rw [Fr.fill_num] at hf
    have e1 : (ofL L s.num).p = f.n := by rw [h.of_at a, T.win_p]; rfl
    have e2 := h.of_at a.up
    rw [Fr.fill_num, Fr.fill_win] at e2
    have e3 := ih (f.fill s) i a.up (by simp at hi; omega)
    rw [Fr.fill_num] at e3
    unfold Pane.rhoF
    rw [e1, if_neg (by omega), e2, e3]
    have hs := h.side_ne a
    show _ = childR (kof L) f.m f.s f.key f.side (rectC (kof L) W H fs)
    unfold Fr.win
    cases hside : f.side
    · have : (f.o.num == s.num) = false := by simpa using hs
      simp only [this]
    · simp only [beq_self_eq_true]
theorem Ok.rho (h : Ok L last t) {fs : List Fr} {s : T} (a : At t fs s) : rho L W H s.num = rectC (kof L) W H fs := by
  unfold Pane.rho
  rw [h.has_at a, if_pos rfl]
  exact h.rhoF fs s 100 a (by have := h.depth a; omega)
/-- A frame's window is well. -/
theorem Ok.frame (h : Ok L last t) {f : Fr} {fs : List Fr} {s : T} (a : At t (f :: fs) s) : validM f.m ∧ 0 ≤ f.s ∧ f.s < 4294967296 ∧ (f.key = 0 ∨ hasL L f.key = true) := by
  have hm := h.at a.up
  have hw := h.wok _ hm
  have hk := h.keys _ hm
  rw [Fr.fill_win] at hw hk
  unfold Fr.win WOk at hw
  unfold Fr.win at hk
  cases e : f.side <;> rw [e] at hw hk <;> simp only at hw hk <;> rcases hw with hw | hw
  · exact ⟨hw.2.1, hw.2.2.1, hw.2.2.2, hk⟩
  · omega
  · exact ⟨hw.2.1, hw.2.2.1, hw.2.2.2, hk⟩
  · omega
theorem Ok.bounds (h : Ok L last t) (hW : 0 ≤ W) (hH : 0 ≤ H) : ∀ (fs : List Fr) (s : T), At t fs s →
    0 ≤ (rectC (kof L) W H fs).x ∧ 0 ≤ (rectC (kof L) W H fs).w ∧ (rectC (kof L) W H fs).x + (rectC (kof L) W H fs).w ≤ W ∧ 0 ≤ (rectC (kof L) W H fs).y ∧ 0 ≤ (rectC (kof L) W H fs).h ∧ (rectC (kof L) W H fs).y + (rectC (kof L) W H fs).h ≤ H := by
  intro fs
  induction fs with
  | nil => intro s a; simp only [rectC]; omega
  | cons f fs ih =>
    intro s a
    have i := ih _ a.up
    have fr := h.frame a
    simp only [rectC]
    generalize rectC (kof L) W H fs = r at *
    have b1 := firstF_le (κ := kof L) (m := f.m) (key := f.key) i.2.1 fr.2.1
    have b2 := firstF_le (κ := kof L) (m := f.m) (key := f.key) i.2.2.2.2.1 fr.2.1
    unfold childR
    cases cols f.m <;> cases f.side <;> simp only <;> omega
def inR (r : R4) (x y : Int) : Bool := decide (r.x ≤ x) && decide (x < r.x + r.w) && decide (r.y ≤ y) && decide (y < r.y + r.h)
theorem inR_iff {r : R4} {x y : Int} : inR r x y = true ↔ r.x ≤ x ∧ x < r.x + r.w ∧ r.y ≤ y ∧ y < r.y + r.h := by simp [inR, and_assoc]
/-- A pair has just what its children have, no place twice. -/
theorem tile {κ : Int → Int} {m s key : Int} {r : R4} (hw : 0 ≤ r.w) (hh : 0 ≤ r.h) (hs : 0 ≤ s) (x y : Int) :
    (inR r x y = true ↔ inR (childR κ m s key true r) x y = true ∨ inR (childR κ m s key false r) x y = true) ∧ ¬ (inR (childR κ m s key true r) x y = true ∧ inR (childR κ m s key false r) x y = true) := by
  have b1 := firstF_le (κ := κ) (m := m) (key := key) hw hs
  have b2 := firstF_le (κ := κ) (m := m) (key := key) hh hs
  simp only [inR_iff]
  unfold childR
  cases cols m <;> simp only <;> constructor <;> omega
theorem Ok.count (h : Ok L last t) (hW : 0 ≤ W) (hH : 0 ≤ H) (x y : Int) : ∀ (s : T) (fs : List Fr), At t fs s →
    (s.wins (top fs)).countP (fun w => w.k != 4 && inR (Pane.rho L W H w.n) x y) = (inR (rectC (kof L) W H fs) x y).toNat := by
  intro s
  induction s with
  | lf n k =>
    intro fs a
    have hk := h.wok _ (h.at a)
    have hk4 : k ≠ 4 := by
      rcases hk with hk | hk
      · have := hk.2.1; simp only [T.win, validM] at this; omega
      · simp only [T.win] at hk; omega
    have e := h.rho (W := W) (H := H) a
    have e : Pane.rho L W H n = _ := e
    simp only [T.wins, List.countP_cons, List.countP_nil, e]
    have e4 : (k != 4) = true := by simpa using hk4
    rw [e4, Bool.true_and]
    cases inR (rectC (kof L) W H fs) x y <;> rfl
  | nd n m sz key p q ihp ihq =>
    intro fs a
    have ip := ihp _ a.dnA
    have iq := ihq _ a.dnB
    have fr := h.frame a.dnA
    have b := h.bounds hW hH fs _ a
    have tl := tile (κ := kof L) (m := m) (s := sz) (key := key) (r := rectC (kof L) W H fs) b.2.1 b.2.2.2.2.1 fr.2.1 x y
    simp only [top, rectC] at ip iq
    simp only [T.wins, List.countP_cons, List.countP_append]
    rw [ip, iq]
    simp only [bne_self_eq_false, Bool.false_and]
    rw [if_neg (by decide)]
    clear ip iq ihp ihq
    cases c1 : inR (childR (kof L) m sz key true (rectC (kof L) W H fs)) x y <;> cases c2 : inR (childR (kof L) m sz key false (rectC (kof L) W H fs)) x y <;> rw [c1, c2] at tl <;> cases c3 : inR (rectC (kof L) W H fs) x y <;> rw [c3] at tl <;> simp at tl ⊢
/-- Each place lies in just one window that is no pair. -/
theorem Ok.tiles (h : Ok L last t) (hne : L ≠ []) {x y : Int} (hx : 0 ≤ x ∧ x < W) (hy : 0 ≤ y ∧ y < H) : L.countP (fun w => w.k != 4 && inR (Pane.rho L W H w.n) x y) = 1 := by
  cases t with
  | none => exact absurd (List.perm_nil.1 h.perm) hne
  | some t =>
    rw [h.perm.countP_eq]
    have a : At (some t) [] t := rfl
    have := h.count (W := W) (H := H) (by omega) (by omega) x y t [] a
    show (t.wins 0).countP _ = 1
    have e : top [] = 0 := rfl
    rw [e] at this
    rw [this]
    have : inR (rectC (kof L) W H []) x y = true := by simp only [rectC, inR_iff]; omega
    rw [this]; rfl
def rootT (t : Option T) : Int := match t with
  | none => 0
  | some t => t.num
def rootL (L : List Win) : Int := ((L.find? (·.p == 0)).map (·.n)).getD 0
theorem Ok.root (h : Ok L last t) : rootL L = rootT t := by
  unfold rootL
  cases t with
  | none =>
    have := List.perm_nil.1 h.perm
    subst this
    rfl
  | some t =>
    cases e : L.find? (·.p == 0) with
    | none =>
      have a : At (some t) [] t := rfl
      have := List.find?_eq_none.1 e _ (h.at a)
      rw [T.win_p] at this
      simp [top] at this
    | some w =>
      have hw := List.mem_of_find?_eq_some e
      have hp := List.find?_some e
      obtain ⟨fs, s, a, rfl⟩ := at_of_mem (h.mem.1 hw)
      rw [T.win_p] at hp
      have hp : top fs = 0 := by simpa using hp
      have := (h.top_ne a).1 hp
      subst this
      have e2 : t = s := by injection a
      rw [e2]
      simp only [Option.map_some, Option.getD_some, T.win_n]
      rfl
theorem Ok.pairs (h : Ok L last t) : ∀ (s : T) (fs : List Fr), At t fs s → (s.wins (top fs)).length = 2 * (s.wins (top fs)).countP (fun w => w.k == 4) + 1 := by
  intro s
  induction s with
  | lf n k =>
    intro fs a
    have hk := h.wok _ (h.at a)
    have hk4 : k ≠ 4 := by
      rcases hk with hk | hk
      · have := hk.2.1; simp only [T.win, validM] at this; omega
      · simp only [T.win] at hk; omega
    simp [T.wins, hk4]
  | nd n m sz key p q ihp ihq =>
    intro fs a
    have ip := ihp _ a.dnA
    have iq := ihq _ a.dnB
    simp only [top] at ip iq
    simp only [T.wins, List.length_cons, List.length_append, List.countP_cons, List.countP_append]
    rw [ip, iq]
    simp
    omega
theorem Ok.pairsL (h : Ok L last t) : L = [] ∨ L.length = 2 * L.countP (fun w => w.k == 4) + 1 := by
  cases t with
  | none => exact .inl (List.perm_nil.1 h.perm)
  | some t =>
    right
    have a : At (some t) [] t := rfl
    have := h.pairs t [] a
    rw [h.perm.length_eq, h.perm.countP_eq]
    exact this
theorem Ok.len63 (h : Ok L last t) : L.length ≤ 63 := by
  have := h.len
  rcases h.pairsL with e | e
  · rw [e]; simp
  · omega
theorem Ok.zero (h : Ok L last t) : ∀ (fs : List Fr) (s : T), At t fs s → rectC (kof L) 0 0 fs = zeroR := by
  intro fs
  induction fs with
  | nil => intro s a; rfl
  | cons f fs ih =>
    intro s a
    have fr := h.frame a
    have e := ih _ a.up
    have b := firstF_le (κ := kof L) (m := f.m) (s := f.s) (key := f.key) (n := 0) (by omega) fr.2.1
    have b0 : firstF (kof L) f.m f.s f.key 0 = 0 := by omega
    simp only [rectC, e]
    unfold childR zeroR
    simp only [b0]
    cases cols f.m <;> cases f.side <;> rfl
end
end Go.Pane
end
section
/- What goes when a window is closed, in order; no condition but those that each names. -/
set_option linter.unusedVariables false
namespace Go.Pane
section
variable {L : List Win} {last : Int} {t : Option T}
def upN (fs : List Fr) : List Int := match fs with | [] => [] | f :: _ => [f.n]
def goneT (fs : List Fr) (s : T) : List Int := (s.wins 0).map (·.n) ++ upN fs
theorem wins_nn : ∀ (s : T) (p q : Int), (s.wins p).map (·.n) = (s.wins q).map (·.n)
  | .lf n k, p, q => rfl
  | .nd n m sz key a b, p, q => rfl
theorem Ok.gone_perm (h : Ok L last t) {fs : List Fr} {s : T} (a : At t fs s) : ((goneL L s.num).map (·.n)).Perm (goneT fs s) := by
  have hout : ∀ w ∈ L, outW L s.num w = true ↔ w ∈ s.wins (top fs) ∨ w.n = top fs := fun w hw => h.out_iff a hw
  have hpm := h.perm.trans a.perm
  have hn := h.nodupC a
  unfold goneL goneT
  rw [wins_nn s 0 (top fs)]
  have f1 : ((s.wins (top fs)).filter fun w => outW L s.num w) = s.wins (top fs) := by
    rw [List.filter_eq_self]
    intro w hw
    exact (hout w (hpm.mem_iff.2 (List.mem_append_left _ hw))).2 (.inl hw)
  have f2 : ((winsC fs s.num).filter fun w => outW L s.num w).map (·.n) = upN fs := by
    cases fs with
    | nil => simp [winsC, upN]
    | cons f fs =>
      simp only [winsC]
      have hL := hpm.mem_iff.2 (List.mem_append_right (s.wins (top (f :: fs))) (List.mem_cons_self (a := f.win s.num (top fs)) (l := f.o.wins f.n ++ winsC fs f.n)))
      rw [List.filter_cons_of_pos ((hout _ hL).2 (.inr (by rw [Fr.win_n]; rfl)))]
      have : ((f.o.wins f.n ++ winsC fs f.n).filter fun w => outW L s.num w) = [] := by
        rw [List.filter_eq_nil_iff]
        intro w hw ho
        have hw' : w ∈ winsC (f :: fs) s.num := by simp only [winsC]; exact List.mem_cons_of_mem _ hw
        have hL := hpm.mem_iff.2 (List.mem_append_right _ hw')
        rcases (hout w hL).1 ho with g | g
        · exact nodup_app hn g hw' rfl
        · have hn2 : ((winsC (f :: fs) s.num).map (·.n)).Nodup := by rw [List.map_append] at hn; exact (List.nodup_append.1 hn).2.1
          simp only [winsC] at hn2
          have := nodup_cons hn2 hw
          rw [Fr.win_n] at this
          exact this g
      rw [this]
      simp [Fr.win_n, upN]
  have p1 := (hpm.filter (fun w => outW L s.num w)).map (·.n)
  rw [List.filter_append, List.map_append, f1, f2] at p1
  exact p1
theorem srt_le {L : List Win} (h : L.Pairwise fun x y => x.n < y.n) : (L.map (·.n)).Pairwise fun x y => decide (x ≤ y) = true := by
  rw [List.pairwise_map]
  exact h.imp fun h => by simp; omega
/-- Numbers in order, whatever order they came in. -/
theorem sort_eq {L : List Win} (h : L.Pairwise fun x y => x.n < y.n) {l : List Int} (hp : (L.map (·.n)).Perm l) : l.mergeSort (fun x y => decide (x ≤ y)) = L.map (·.n) := by
  refine List.Perm.eq_of_pairwise (le := fun x y => decide (x ≤ y) = true) ?_ ?_ (srt_le h) ((List.mergeSort_perm _ _).trans hp.symm)
  · intro a b _ _ h1 h2
    simp at h1 h2
    omega
  · exact List.pairwise_mergeSort (by intro a b c h1 h2; simp at *; omega) (by intro a b; simp; omega) _
theorem Ok.gone_sort (h : Ok L last t) {fs : List Fr} {s : T} (a : At t fs s) : (goneT fs s).mergeSort (fun x y => decide (x ≤ y)) = (goneL L s.num).map (·.n) :=
  sort_eq (h.srt.filter _) (h.gone_perm a)
theorem anc_mem : ∀ (fs : List Fr) (x : Int) (f : Fr), f ∈ fs → ∃ w ∈ winsC fs x, w.n = f.n
  | g :: fs, x, f, h => by
    rcases List.mem_cons.1 h with rfl | h
    · exact ⟨_, List.mem_cons_self .., Fr.win_n _ _ _⟩
    · obtain ⟨w, hw, e⟩ := anc_mem fs g.n f h
      exact ⟨w, List.mem_cons_of_mem _ (List.mem_append_right _ hw), e⟩
theorem Ok.not_anc (h : Ok L last t) {fs : List Fr} {s : T} (a : At t fs s) {f : Fr} (hf : f ∈ fs) : s.num ≠ f.n := by
  obtain ⟨w, hw, e⟩ := anc_mem fs s.num f hf
  have := nodup_app (h.nodupC a) (s.win_mem (top fs)) hw
  rw [T.win_n, e] at this
  exact this
theorem At.sib {f : Fr} {fs : List Fr} {s : T} (a : At t (f :: fs) s) : At t (⟨f.n, f.m, f.s, f.key, !f.side, s⟩ :: fs) f.o := by
  have a' := a
  unfold At plug at a' ⊢
  rw [a']
  congr 1
  unfold Fr.fill
  cases f.side <;> rfl
theorem Ok.sib_top (h : Ok L last t) {f : Fr} {fs : List Fr} {s : T} (a : At t (f :: fs) s) : top fs ≠ f.o.num := by
  cases fs with
  | nil => have := (h.num_pos a.sib).1; simp only [top]; omega
  | cons g fs => exact Ne.symm (h.not_anc a.sib (f := g) (by simp))
end
end Go.Pane
end
