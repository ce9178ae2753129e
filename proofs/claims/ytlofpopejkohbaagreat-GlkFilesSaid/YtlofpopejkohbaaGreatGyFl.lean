/- Lemmas of the abstract condition ahead of code (a part of the library that the claim's proof stands on); they hold with no condition but those that each names. -/
import Derived.Test.YtlofpopejkohbaaGreatGyS4
import Derived.Test.YtlofpopejkohbaaGreatGyFormX
import Derived.Test.YtlofpopejkohbaaGreatGyS2
section
set_option linter.unusedSimpArgs false
set_option linter.unusedVariables false
set_option maxRecDepth 100000
/- A world with files: its state as one; what each small step does to it; no condition but those that each names. -/
namespace Go.AI
open Go.Proofs Go.Shelf
section
variable {σ : AS} {K : Value → AS → Prop} {G : Value → Prop} {Gs : AS → Prop} {fr fr' L M N : List (Nat × AObj)} {s : Nat} {most last : Int} {F : List Fi} {S : List Sm}
theorem PSt.frm (h : PSt s most last F S fr σ) : ∃ L, Has σ (L ++ fr) ∧ ∀ {σ' : AS} {fr' : List (Nat × AObj)}, Has σ' (L ++ fr') → PSt s most last F S fr' σ' := by
  obtain ⟨g, hg, H⟩ := h
  exact ⟨(s, g.O most last) :: g.R, by simpa using H, fun H' => ⟨g, hg, by simpa using H'⟩⟩
theorem PSt.has (h : PSt s most last F S fr σ) : Has σ fr := by
  obtain ⟨L, H, _⟩ := h.frm
  exact H.sub (List.sublist_append_right _ _)
theorem PSt.sep (h : PSt s most last F S fr σ) (hc : ∀ a, cnt a fr' ≤ cnt a fr) : PSt s most last F S fr' σ := by
  obtain ⟨L, H, h2⟩ := h.frm
  exact h2 (H.sep fun a => by have := hc a; simp only [cnt_app]; omega)
theorem PSt.newAt {o : AObj} {Gn : Nat → AS → Prop} (h : PSt s most last F S fr σ) (hG : ∀ i σ', PSt s most last F S ((i, o) :: fr) σ' → Gn i σ') : newAt σ o Gn := by
  obtain ⟨L, H, h2⟩ := h.frm
  exact newAt_mk H fun i σ' H' => hG i σ' (h2 (H'.sep fun a => by simp only [cnt_app, cnt_cons]; omega))
def wTail (tr sh : Nat) : List Value := [ptr tr, ptr sh, .slice none 0 0, .slice none 0 0, u32 0, .bool false]
def wO (n : Nat) (al tr sh : Nat) : AObj := .row .plain (u32 n :: .map (some al) :: wTail tr sh)
/-- A world with files, and the game's memory. -/
def FSt (g al tr sh m bj n : Nat) (es : List MapEntry) (ec : Nat) (B : List Int) (last : Int) (F : List Fi) (S : List Sm) (M : List (Nat × AObj)) (σ : AS) : Prop :=
  PSt sh 1048576 last F S ((g, wO n al tr sh) :: (al, .map es ec) :: (m, spO bj none 0 0) :: (bj, .row .rw (cells8 B)) :: M) σ
variable {g al tr sh m bj n ec : Nat} {es : List MapEntry} {B : List Int}
theorem FSt.has (h : FSt g al tr sh m bj n es ec B last F S M σ) : Has σ ((g, wO n al tr sh) :: (al, .map es ec) :: (m, spO bj none 0 0) :: (bj, .row .rw (cells8 B)) :: M) := PSt.has h
theorem FSt.sep (h : FSt g al tr sh m bj n es ec B last F S M σ) (hc : ∀ a, cnt a N ≤ cnt a M) : FSt g al tr sh m bj n es ec B last F S N σ :=
  PSt.sep h fun a => by have := hc a; simp only [cnt_cons]; omega
theorem FSt.newAt {o : AObj} {Gn : Nat → AS → Prop} (h : FSt g al tr sh m bj n es ec B last F S M σ) (hG : ∀ i σ', FSt g al tr sh m bj n es ec B last F S ((i, o) :: M) σ' → Gn i σ') : Go.AI.newAt σ o Gn :=
  PSt.newAt h fun i σ' h' => hG i σ' (PSt.sep h' fun a => by simp only [cnt_cons]; omega)
theorem FSt.ld1 (h : FSt g al tr sh m bj n es ec B last F S M σ) (hG : G (.map (some al))) : ldc σ ⟨g, 1, none⟩ G := ldm h.has List.mem_cons_self rfl hG
theorem FSt.ld3 (h : FSt g al tr sh m bj n es ec B last F S M σ) (hG : G (ptr sh)) : ldc σ ⟨g, 3, none⟩ G := ldm h.has List.mem_cons_self rfl hG
theorem FSt.ld6 (h : FSt g al tr sh m bj n es ec B last F S M σ) (hG : G (u32 0)) : ldc σ ⟨g, 6, none⟩ G := ldm h.has List.mem_cons_self rfl hG
theorem FSt.ld7 (h : FSt g al tr sh m bj n es ec B last F S M σ) (hG : G (.bool false)) : ldc σ ⟨g, 7, none⟩ G := ldm h.has List.mem_cons_self rfl hG
theorem m4 {a b c d x : Nat × AObj} (h : x ∈ M) : x ∈ a :: b :: c :: d :: M := by simp [h]
theorem FSt.ld {i o : Nat} {k : RK} {cs : List Value} {v : Value} (h : FSt g al tr sh m bj n es ec B last F S M σ) (hi : (i, AObj.row k cs) ∈ M) (hv : cs[o]? = some v) (hG : G v) : ldc σ ⟨i, o, none⟩ G := ldm h.has (m4 hi) hv hG
theorem FSt.of {ob i : Nat} {id sort : Int} {os : List Value} (h : FSt g al tr sh m bj n es ec B last F S M σ) (ho : (ob, AObj.row .plain (i64 sort :: os)) ∈ M) (hf : Instr.findNow (.int .u32) (u32 id) es 0 = some (some (i, ptr ob))) (hK : K (ptr ob) σ) : Tri Tryz.prog 54 [ptr g, u32 id, i64 sort] σ K :=
  c54 (y := u32 n) (gs := wTail tr sh) (al := al) (es := es) (n := ec) (os := os) List.mem_cons_self (by simp) (m4 ho) hf h.has hK
theorem FSt.add {x : Nat} (h : FSt g al tr sh m bj n es ec B last F S M σ) (hn : n < 1000000) (hx : Instr.findNow (.int .u32) (u32 ((n + 1 : Nat) : Int)) es 0 = some none) (hK : ∀ σ', FSt g al tr sh m bj (n + 1) (es ++ [.mk (u32 ((n + 1 : Nat) : Int)) (ptr x) ec]) (ec + 1) B last F S M σ' → K (u32 ((n + 1 : Nat) : Int)) σ') : Tri Tryz.prog 157 [ptr g, ptr x] σ K := tri_in (by
  rw [s157]
  obtain ⟨L, H, h2⟩ := PSt.frm h
  refine c186 (n := n) (g := g) (cs := .map (some al) :: wTail tr sh) (M := L ++ ((al, .map es ec) :: (m, spO bj none 0 0) :: (bj, .row .rw (cells8 B)) :: M)) (H.sep fun a => by simp only [wO, cnt_app, cnt_cons]; omega) (by omega) fun σ1 H1 => tI_mk ?_
  rw [show ((n : Int) + 1) = ((n + 1 : Nat) : Int) by omega] at H1 ⊢
  refine ldm H1 List.mem_cons_self rfl ?_
  simp only [tM_map, pSome_some]
  refine mset0_new (H1.sep (M := (al, .map es ec) :: (L ++ ((g, wO (n + 1) al tr sh) :: (m, spO bj none 0 0) :: (bj, .row .rw (cells8 B)) :: M))) (fun a => by simp only [wO, cnt_app, cnt_cons]; omega)) hx fun σ2 H2 => ?_
  exact hK σ2 (h2 (H2.sep fun a => by simp only [u32, ptr, cnt_app, cnt_cons]; omega)))
theorem FSt.get {a k : Nat} (h : FSt g al tr sh m bj n es ec B last F S M σ) (hB : ∀ c ∈ B, 0 ≤ c ∧ c < 256) (hl : B.length = 1024) (hk : k = 1 ∨ k = 4) (ha : a + k ≤ 1024) (hK : K (.tuple ⟨[u32 (beV ((B.drop a).take k)), i64 0]⟩) σ) : Tri Tryz.prog 122 [ptr m, u32 a, i64 k] σ K :=
  c122 (bj := bj) (la := none) (ln := 0) (le := 0) h.has (by simp) (k := .rw) (by simp) hB hl hk ha hK
theorem FSt.set {a k : Nat} {x : Int} (h : FSt g al tr sh m bj n es ec B last F S M σ) (hl : B.length = 1024) (hk : k = 1 ∨ k = 4) (hx : 0 ≤ x ∧ x ≤ 4294967295) (ha : a + k ≤ 1024) (hK : ∀ σ', FSt g al tr sh m bj n es ec (setN B a (beP k x)) last F S M σ' → K (i64 0) σ') : Tri Tryz.prog 128 [ptr m, u32 a, i64 k, u32 x] σ K := by
  obtain ⟨L, H, h2⟩ := PSt.frm h
  refine c128 (bj := bj) (la := none) (ln := 0) (le := 0) (M := L ++ ((g, wO n al tr sh) :: (al, .map es ec) :: M)) (H.sep fun a => by simp only [cnt_app, cnt_cons]; omega) hl hk hx ha fun σ' H' => ?_
  exact hK σ' (h2 (H'.sep fun a => by simp only [cnt_app, cnt_cons]; omega))
def callK (g m ar k : Nat) : AObj := .row .plain [ptr g, .iface 29 (ptr m), .slice (some ⟨ar, 0, none⟩) k 1]
/-- Numbers told to a place in memory. -/
theorem FSt.hand {c ar k a j : Nat} {V : List Int} (h : FSt g al tr sh m bj n es ec B last F S M σ) (hl : B.length = 1024) (hc : (c, callK g m ar k) ∈ M) (hj : (j, AObj.row .rw (cellsU V)) ∈ M) (hV : ∀ x ∈ V, 0 ≤ x ∧ x ≤ 4294967295) (ha0 : 0 < a) (ha : a + 4 * V.length ≤ 1024)
    (hK : ∀ σ', FSt g al tr sh m bj n es ec (setN B a (V.flatMap (beP 4))) last F S M σ' → K (i64 0) σ') : Tri Tryz.prog 147 [ptr c, u32 a, .slice (some ⟨j, 0, none⟩) V.length 1] σ K := tri_in (by
  rw [s147]
  have hfl : ∀ W : List Int, (W.flatMap (beP 4)).length = 4 * W.length := fun W => by
    induction W with
    | nil => rfl
    | cons x W ih => rw [List.flatMap_cons, List.length_append, ih, List.length_cons]; simp [beP]; omega
  refine aloop (fun (i : Nat) rg σ' => i ≤ V.length ∧ FSt g al tr sh m bj n es ec (setN B a ((V.take i).flatMap (beP 4))) last F S M σ' ∧ rg = [(0, some (ptr c)), (1, some (u32 a)), (10, some (.slice (some ⟨j, 0, none⟩) V.length 1)), (11, some (i64 (V.length : Nat))), (12, some (i64 i))]) (fun i => V.length - i) ?_ (a := 0) ⟨Nat.zero_le _, by simpa [setN_nil] using h, rfl⟩
  rintro i rg σ1 Y hY ⟨hi, h1, rfl⟩
  rw [s147l]
  refine bmd_mk (fun hlt => ?_) (fun hge => ?_)
  · have hi2 : i < V.length := by omega
    obtain ⟨x, hx⟩ : ∃ x, V[i]? = some x := ⟨V[i], List.getElem?_eq_getElem hi2⟩
    have hlt := hfl (V.take i)
    have hlk : (V.take i).length = i := by simp; omega
    refine req_mk (by omega) (req_mk (by omega) ?_)
    simp only [pSome_some, aadd_none, szP32, Int.toNat_natCast, Nat.mul_one, Nat.zero_add]
    refine req_mk trivial (h1.ld hj (cU hx) (tI_mk ?_))
    refine beq_mk (fun h => by omega) (fun _ => beq_mk (fun h => by omega) (fun _ => ?_))
    refine h1.ld hc rfl ?_
    simp only [tIf_if, mSet, pSome_some]
    have ew : IntKind.wrap .u32 ((a : Int) + IntKind.wrap .u32 (4 * IntKind.wrap .u32 (i : Int))) = ((a + 4 * i : Nat) : Int) := by
      rw [wrapU32 (n := (i : Int)) (by omega) (by omega), wrapU32 (n := 4 * (i : Int)) (by omega) (by omega), wrapU32 (by omega) (by omega)]; omega
    rw [ew]
    refine h1.set (k := 4) (by rw [setN_len (by omega)]; exact hl) (.inr rfl) (hV x (List.mem_of_getElem? hx)) (by omega) fun σ2 h2 => ?_
    refine tI_mk (bne_mk (fun h => absurd rfl h) (fun _ => ?_))
    rw [wrap1 (by omega)]
    refine hY (i + 1) _ _ (by omega) ⟨by omega, ?_, rfl⟩
    have e1 : (V.take (i + 1)).flatMap (beP 4) = (V.take i).flatMap (beP 4) ++ beP 4 x := by rw [List.take_add_one, hx, List.flatMap_append]; simp
    have e2 := setN_app (B := B) (P := (V.take i).flatMap (beP 4)) (Q := beP 4 x) (a := a) (by rw [hlt, hlk]; simp [beP]; omega)
    rw [e1, ← e2, hlt, hlk]
    exact h2
  · have ei : i = V.length := by omega
    subst ei
    rw [List.take_length] at h1
    exact hK σ1 h1)
end
end Go.AI
end
section
set_option linter.unusedSimpArgs false
set_option linter.unusedVariables false
set_option maxRecDepth 100000
/- A reference by a name that lies in memory; no condition but those that each names. -/
namespace Go.AI
open Go.Proofs Go.Shelf
def nmI (nm : List UInt8) : List Int := nm.map fun b => (b.toNat : Int)
theorem nmI_byte (nm : List UInt8) : ∀ c ∈ nmI nm, 0 ≤ c ∧ c < 256 := by
  intro c hc
  unfold nmI at hc
  obtain ⟨b, _, rfl⟩ := List.mem_map.1 hc
  have := b.toNat_lt
  omega
theorem bytesU_nm (nm : List UInt8) : bytesU (nmI nm) = nm := by
  unfold bytesU nmI
  rw [List.map_map]
  conv => rhs; rw [← List.map_id nm]
  refine List.map_congr_left fun b _ => ?_
  simp
theorem drop1 {B : List Int} {a : Nat} {x : Int} (h : B[a]? = some x) : (B.drop a).take 1 = [x] := by
  have hl := (List.getElem?_eq_some_iff.1 h).1
  rw [List.drop_eq_getElem_cons hl, List.take_succ_cons, List.take_zero, (List.getElem?_eq_some_iff.1 h).2]
theorem beV1 (x : Int) : beV [x] = x := by simp [beV]
/-- The name lies in memory. -/
def NameAt (B : List Int) (a : Nat) (nm : List UInt8) : Prop := (∀ (i : Nat) (b : UInt8), nm[i]? = some b → B[a + i]? = some (b.toNat : Int) ∧ b ≠ 0) ∧ B[a + nm.length]? = some 0
def refO (rock : Int) (nm : List UInt8) : AObj := .row .plain [i64 3, u32 rock, i64 0, u32 0, u32 0, .slice none 0 0, .map none, u32 0, u32 0, i64 0, u32 0, u32 0, u32 0, i64 0, u32 0, i64 0, .bool false, u32 0, .string (bsV nm)]
section
variable {σ : AS} {K : Value → AS → Prop} {L M N : List (Nat × AObj)} {last : Int} {F : List Fi} {S : List Sm}
variable {g al tr sh m bj n ec : Nat} {es : List MapEntry} {B : List Int}
theorem n46j : ∀ (σ : AS) (K : Value → AS → Prop), callN Tryz.prog hints glE 80 46 [u32 97] σ K = K (i64 3) σ := by intros; kernel_rfl
theorem n46k : ∀ (σ : AS) (K : Value → AS → Prop), callN Tryz.prog hints glE 80 46 [u32 103] σ K = K (i64 1) σ := by intros; kernel_rfl
theorem n46l : ∀ (σ : AS) (K : Value → AS → Prop), callN Tryz.prog hints glE 80 46 [u32 66] σ K = K (i64 3) σ := by intros; kernel_rfl
theorem n46m : ∀ (σ : AS) (K : Value → AS → Prop), callN Tryz.prog hints glE 80 46 [u32 312] σ K = K (i64 3) σ := by intros; kernel_rfl
theorem n46n : ∀ (σ : AS) (K : Value → AS → Prop), callN Tryz.prog hints glE 80 46 [u32 144] σ K = K (i64 1) σ := by intros; kernel_rfl
theorem n46o : ∀ (σ : AS) (K : Value → AS → Prop), callN Tryz.prog hints glE 80 46 [u32 304] σ K = K (i64 1) σ := by intros; kernel_rfl
theorem n46p : ∀ (σ : AS) (K : Value → AS → Prop), callN Tryz.prog hints glE 80 46 [u32 299] σ K = K (i64 2) σ := by intros; kernel_rfl
theorem c101 {c ar a : Nat} {rock : Int} {nm : List UInt8} (hBb : ∀ c ∈ B, 0 ≤ c ∧ c < 256) (hl : B.length = 1024) (hnm : nm.length ≤ 100) (ha : a ≤ 900) (hN : NameAt B a nm) (hc : (c, callK g m ar 3) ∈ M) (har : (ar, AObj.row .rw [u32 0, u32 a, u32 rock]) ∈ M)
    (W : FSt g al tr sh m bj 0 [] ec B last F S M σ) (hE : ¬ named nm → ∀ σ', FSt g al tr sh m bj 0 [] ec B last F S M σ' → K (.tuple ⟨[u32 0, i64 0]⟩) σ')
    (hK : named nm → ∀ ro σ', FSt g al tr sh m bj 1 [.mk (u32 1) (ptr ro) ec] (ec + 1) B last F S ((ro, refO rock nm) :: M) σ' → K (.tuple ⟨[u32 1, i64 0]⟩) σ') : Tri Tryz.prog 101 [ptr c] σ K := tri_in (by
  rw [s101]
  refine W.newAt fun i0 σ0 W0 => ?_
  have fin : ∀ (i : Nat) (na : Option Addr) (ne : Nat) (rows : List (Nat × AObj)) (σ' : AS), i = min nm.length 33 → SlC 1 na ne (cells8 ((nmI nm).take i)) rows → FSt g al tr sh m bj 0 [] ec B last F S (rows ++ M) σ' →
      ldc σ' ⟨c, 0, none⟩ fun v => tP v fun b => pSome b fun a1 => ldc σ' ⟨a1.block, a1.off + 1, none⟩ fun v => tM v fun b => rngM σ' b fun j σ2 =>
        ALoop (fl Tryz.prog hintsS (Tri Tryz.prog) 101 [true, true, true, true, false, true, false] [] K) [(0, some (ptr c)), (4, some (.slice na i ne)), (8, some (i64 0)), (51, some (ptr j))] σ2 := by
    intro i na ne rows σ' hi hs W1
    refine W1.ld (List.mem_append_right _ hc) rfl ?_
    simp only [tP_ptr, pSome_some]
    refine W1.ld1 ?_
    simp only [tM_map]
    obtain ⟨LL, H, h2⟩ := PSt.frm W1
    refine rngM_m (ent := id) (ws := ([] : List MapEntry)) (c := ec) H (by simp) fun j σ2 H2 => ?_
    refine aloop (fun (k : Nat) rg σ3 => Has σ3 ((j, .iter (some al) ec [] ec) :: (LL ++ ((g, wO 0 al tr sh) :: (al, AObj.map [] ec) :: (m, spO bj none 0 0) :: (bj, .row .rw (cells8 B)) :: (rows ++ M)))) ∧ rg = [(0, some (ptr c)), (4, some (.slice na i ne)), (8, some (i64 0)), (51, some (ptr j))]) (fun k => k) ?_ (a := 0) ⟨H2, rfl⟩
    rintro k rg σ3 Y hY ⟨H3, rfl⟩
    rw [s101l1]
    refine mnext_m (ent := id) (ws := ([] : List MapEntry)) (S := []) (R := []) H3 (by simp) ⟨by simp, by simp⟩ (by simp) (fun q R' hR => by simp at hR) (fun _ => ?_)
    simp only [onNx]
    have W3 : FSt g al tr sh m bj 0 [] ec B last F S (rows ++ M) σ3 := h2 (H3.sep fun a => by simp only [cnt_app, cnt_cons]; omega)
    have hsep := W3.sep (N := M) (fun a => by simp only [cnt_app]; omega)
    have hil : i ≤ 33 := by omega
    refine beq_mk (fun h => hE (fun hn => by unfold named at hn; omega) σ3 hsep) (fun h0 => ?_)
    refine bmd_mk (fun h => hE (fun hn => by unfold named at hn; omega) σ3 hsep) (fun h32 => ?_)
    have hnmd : named nm := by unfold named; omega
    have ei : i = nm.length := by unfold named at hnmd; omega
    refine bmd_mk (fun h => absurd h (by decide)) (fun _ => ?_)
    refine W3.ld (List.mem_append_right _ hc) rfl ?_
    simp only [tP_ptr]
    refine W3.ld (List.mem_append_right _ hc) rfl (tL_mk (req_mk (by simp only; omega) ?_))
    simp only [pSome_some, aadd_none, szP32]
    refine W3.ld (List.mem_append_right _ har) rfl (tI_mk ?_)
    obtain ⟨jr, rfl, he, rfl⟩ := hs.at (p := 0) (by simp [nmI]; omega)
    have etk : (nmI nm).take i = nmI nm := List.take_of_length_le (by rw [ei]; simp [nmI])
    rw [etk] at W3
    have hrow : (jr, AObj.row .rw (cells8 (nmI nm))) ∈ [(jr, AObj.row .rw (cells8 (nmI nm)))] ++ M := by simp
    refine btsm (B := nmI nm) (o := 0) (n := i) W3.has (m4 hrow) (nmI_byte nm) (by rw [ei]; simp [nmI]) ?_
    have ebs : bytesU (((nmI nm).drop 0).take i) = nm := by rw [List.drop_zero, etk, bytesU_nm]
    rw [ebs]
    refine W3.newAt fun ro σ4 W4 => ?_
    refine W4.ld (List.mem_cons_of_mem _ (List.mem_append_right _ hc)) rfl ?_
    simp only [tP_ptr]
    refine ⟨trivial, W4.add (by omega) rfl fun σ5 W5 => tI_mk ?_⟩
    exact hK hnmd ro σ5 (W5.sep fun a => by simp only [refO, bsV, i64, u32, cnt_app, cnt_cons]; omega)
  refine aloop (fun (i : Nat) rg σ' => i ≤ nm.length ∧ i ≤ 33 ∧ (∃ na ne rows, SlC 1 na ne (cells8 ((nmI nm).take i)) rows ∧ FSt g al tr sh m bj 0 [] ec B last F S (rows ++ M) σ' ∧ rg = [(0, some (ptr c)), (4, some (.slice na i ne)), (12, some (u32 i))])) (fun i => 33 - i) ?_ (a := 0)
    ⟨Nat.zero_le _, Nat.zero_le _, some ⟨i0, 0, none⟩, 1, [(i0, .row .rw [])], SlC.row, W0, rfl⟩
  rintro i rg σ1 Y hY ⟨hi, hi2, na, ne, rows, hs, W1, rfl⟩
  rw [s101l]
  refine bmd_mk (fun h => ?_) (fun h => ?_)
  · refine W1.ld (List.mem_append_right _ hc) rfl ?_
    simp only [tIf_if]
    refine W1.ld (List.mem_append_right _ hc) rfl (tL_mk (req_mk (by simp only; omega) ?_))
    simp only [pSome_some, aadd_none, szP32]
    refine W1.ld (List.mem_append_right _ har) rfl (tI_mk ?_)
    simp only [mGet, pSome_some]
    have ew : IntKind.wrap .u32 ((a : Int) + (i : Int)) = ((a + i : Nat) : Int) := by rw [wrapU32 (by omega) (by omega)]; omega
    rw [ew]
    refine W1.get hBb hl (k := 1) (.inl rfl) (by omega) ?_
    simp only [tTup_tup, pSome_some, List.getElem?_cons_zero, List.getElem?_cons_succ, tI_int]
    refine bne_mk (fun h => absurd rfl h) (fun _ => ?_)
    rcases Nat.lt_or_ge i nm.length with hlt | hge
    · obtain ⟨b, hb⟩ : ∃ b, nm[i]? = some b := ⟨nm[i], List.getElem?_eq_getElem hlt⟩
      obtain ⟨h1, h2⟩ := hN.1 i b hb
      have hbl := b.toNat_lt
      have hb0 : b.toNat ≠ 0 := fun h => h2 (UInt8.toNat_inj.1 (by simpa using h))
      rw [drop1 h1, beV1]
      refine beq_mk (fun h => by omega) (fun _ => ?_)
      rw [wrapU8 (by omega) (by omega)]
      obtain ⟨LL, H, h3⟩ := PSt.frm W1
      have hlen : ((nmI nm).take i).length = i := by simp [nmI]; omega
      simp only [szP5]
      refine pushC (new := [u8 (b.toNat : Int)]) (X := LL ++ ((g, wO 0 al tr sh) :: (al, AObj.map [] ec) :: (m, spO bj none 0 0) :: (bj, .row .rw (cells8 B)) :: M)) hs (H.sep fun a => by simp only [cnt_app, cnt_cons]; omega) (by rw [List.length_map, hlen]; omega) rfl (by omega) (by omega) fun na' σ2 rows' hs' H2 => ?_
      rw [show IntKind.wrap .u32 ((i : Int) + 1) = ((i + 1 : Nat) : Int) by rw [wrapU32 (by omega) (by omega)]; omega]
      refine hY (i + 1) _ _ (by omega) ⟨by omega, by omega, na', 1, rows', ?_, h3 (H2.sep fun a => by simp only [cnt_app, cnt_cons]; omega), rfl⟩
      have e1 : (nmI nm).take (i + 1) = (nmI nm).take i ++ [(b.toNat : Int)] := by
        rw [List.take_add_one]
        unfold nmI
        rw [List.getElem?_map, hb]; rfl
      rw [e1]
      simpa [cells8] using hs'
    · have ei : i = nm.length := by omega
      have h1 := hN.2
      rw [← ei] at h1
      rw [drop1 h1, beV1]
      refine beq_mk (fun _ => ?_) (fun h => absurd rfl h)
      exact fin i na ne rows σ1 (by omega) hs W1
  · exact fin i na ne rows σ1 (by omega) hs W1)
theorem c16rn {ar a : Nat} {rock : Int} {nm : List UInt8} (hBb : ∀ c ∈ B, 0 ≤ c ∧ c < 256) (hl : B.length = 1024) (hnm : nm.length ≤ 100) (ha : a ≤ 900) (hN : NameAt B a nm) (har : (ar, AObj.row .rw [u32 0, u32 a, u32 rock]) ∈ M)
    (W : FSt g al tr sh m bj 0 [] ec B last F S M σ) (hE : ¬ named nm → ∀ σ', FSt g al tr sh m bj 0 [] ec B last F S M σ' → K (.tuple ⟨[u32 0, i64 0]⟩) σ')
    (hK : named nm → ∀ ro σ', FSt g al tr sh m bj 1 [.mk (u32 1) (ptr ro) ec] (ec + 1) B last F S ((ro, refO rock nm) :: M) σ' → K (.tuple ⟨[u32 1, i64 0]⟩) σ') :
    Tri Tryz.prog 16 [ptr g, .iface 29 (ptr m), u32 97, .slice (some ⟨ar, 0, none⟩) 3 1] σ K := tri_in (by
  rw [s16rn]
  refine W.ld7 ?_
  simp only [tB_bool, bm_false]
  refine tri_hard ?_
  rw [n46j]
  refine tI_mk (bne_mk (fun h => absurd rfl h) (fun _ => ?_))
  refine W.newAt fun c σ1 W1 => tri_in ?_
  rw [s51rn]
  refine c101 (ar := ar) (a := a) (rock := rock) (nm := nm) hBb hl hnm ha hN List.mem_cons_self (List.mem_cons_of_mem _ har) W1 (fun hn σ2 W2 => ?_) (fun hn ro σ2 W2 => ?_)
  · simp only [tTup_tup, pSome_some, List.getElem?_cons_zero, List.getElem?_cons_succ, tI_int]
    exact hE hn σ2 (W2.sep fun a => by simp only [cnt_cons]; omega)
  · simp only [tTup_tup, pSome_some, List.getElem?_cons_zero, List.getElem?_cons_succ, tI_int]
    exact hK hn ro σ2 (W2.sep fun a => by simp only [cnt_cons]; omega))
end
end Go.AI
end
section
set_option linter.unusedSimpArgs false
set_option linter.unusedVariables false
set_option maxRecDepth 100000
/- Calls on references and on streams of files; no condition but those that each names. -/
namespace Go.AI
open Go.Proofs Go.Shelf
def strF (rock num : Int) : AObj := .row .plain [i64 2, u32 rock, i64 0, u32 0, u32 0, .slice none 0 0, .map none, u32 0, u32 0, i64 0, u32 0, u32 0, u32 0, i64 num, u32 0, i64 0, .bool false, u32 0, .string (ByteArray.mk #[])]
section
variable {σ : AS} {K : Value → AS → Prop} {L M N : List (Nat × AObj)} {last : Int} {F : List Fi} {S : List Sm}
variable {g al tr sh m bj n ec : Nat} {es : List MapEntry} {B : List Int}
theorem FSt.toP (h : FSt g al tr sh m bj n es ec B last F S M σ) : PSt sh 1048576 last F S ((g, wO n al tr sh) :: (al, .map es ec) :: (m, spO bj none 0 0) :: (bj, .row .rw (cells8 B)) :: M) σ := h
/-- Is there the file? -/
theorem c16re {ro ar i : Nat} {id rock : Int} {nm : List UInt8} (hro : (ro, refO rock nm) ∈ M) (hf : Instr.findNow (.int .u32) (u32 id) es 0 = some (some (i, ptr ro))) (har : (ar, AObj.row .rw [u32 id]) ∈ M) (srt : Srt F) (f1 : ∀ f ∈ F, f.b.length ≤ 1048576)
    (W : FSt g al tr sh m bj n es ec B last F S M σ) (hK : ∀ σ', FSt g al tr sh m bj n es ec B last F S M σ' → K (.tuple ⟨[u32 (if hasF F nm = true then 1 else 0), i64 0]⟩) σ') :
    Tri Tryz.prog 16 [ptr g, .iface 29 (ptr m), u32 103, .slice (some ⟨ar, 0, none⟩) 1 1] σ K := tri_in (by
  rw [s16re]
  refine W.ld7 ?_
  simp only [tB_bool, bm_false]
  refine tri_hard ?_
  rw [n46k]
  refine tI_mk (bne_mk (fun h => absurd rfl h) (fun _ => ?_))
  refine W.newAt fun c σ1 W1 => tri_in ?_
  rw [s51re]
  refine W1.ld List.mem_cons_self rfl ?_
  simp only [tP_ptr]
  refine W1.ld List.mem_cons_self rfl (tL_mk (req_mk (by simp only; omega) ?_))
  simp only [pSome_some, aadd_none, szP32]
  refine W1.ld (List.mem_cons_of_mem _ har) rfl (tI_mk ?_)
  refine W1.of (List.mem_cons_of_mem _ hro) hf ?_
  simp only [tP_ptr, ptrEq_some, bm_false, pSome_some]
  refine W1.ld List.mem_cons_self rfl ?_
  simp only [tP_ptr, pSome_some]
  refine W1.ld3 ?_
  simp only [tP_ptr, pSome_some]
  refine W1.ld (List.mem_cons_of_mem _ hro) rfl ?_
  simp only [tS_str]
  refine p71 W1 srt f1 (fun hn σ2 h2 => ?_) (fun hn σ2 a' rows hs h2 => ?_)
  · have W2 : FSt g al tr sh m bj n es ec B last F S _ σ2 := h2
    rw [hn] at hK
    simp only [tTup_tup, pSome_some, List.getElem?_cons_zero, List.getElem?_cons_succ, tB_bool, bm_false, tI_int]
    refine tL_ok rfl ?_
    exact hK σ2 (W2.sep fun a => by simp only [cnt_cons]; omega)
  · rw [hn] at hK
    simp only [tTup_tup, pSome_some, List.getElem?_cons_zero, List.getElem?_cons_succ, tB_bool, bm_true, tI_int]
    refine tL_ok hs.no ?_
    have W2 : FSt g al tr sh m bj n es ec B last F S (rows ++ M) σ2 := PSt.sep h2 fun a => by simp only [callK, ptr, cnt_app, cnt_cons]; omega
    exact hK σ2 (W2.sep fun a => by simp only [cnt_app]; omega))
/-- A file's stream opened. -/
theorem c96 {ro ar i c k : Nat} {id rock mode rk : Int} {nm : List UInt8} {wd : Bool} (hc : (c, callK g m ar 3) ∈ M) (hro : (ro, refO rock nm) ∈ M) (hf : Instr.findNow (.int .u32) (u32 id) es 0 = some (some (i, ptr ro))) (har : (ar, AObj.row .rw [u32 id, u32 mode, u32 rk]) ∈ M) (hm : 0 ≤ mode ∧ mode ≤ 5) (ok : Ok 1048576 last F S k) (hn : n < 1000000)
    (hx : Instr.findNow (.int .u32) (u32 ((n + 1 : Nat) : Int)) es 0 = some none) (W : FSt g al tr sh m bj n es ec B last F S M σ)
    (hE : openE F S nm mode ≠ 0 → ∀ σ', FSt g al tr sh m bj n es ec B last F S M σ' → K (u32 0) σ')
    (hK : openE F S nm mode = 0 → ∀ x σ', FSt g al tr sh m bj (n + 1) (es ++ [.mk (u32 ((n + 1 : Nat) : Int)) (ptr x) ec]) (ec + 1) B (last + 1) (openF F nm mode) (S ++ [openS F last nm mode wd]) ((x, strF rk (last + 1)) :: M) σ' → K (u32 ((n + 1 : Nat) : Int)) σ') :
    Tri Tryz.prog 96 [ptr c, .bool wd] σ K := tri_in (by
  rw [s96]
  refine W.ld hc rfl ?_
  simp only [tP_ptr]
  refine W.ld hc rfl (tL_mk (req_mk (by simp only; omega) ?_))
  simp only [pSome_some, aadd_none, szP32]
  refine W.ld har rfl (tI_mk ?_)
  refine W.of hro hf ?_
  simp only [tP_ptr, ptrEq_some, bm_false, pSome_some]
  refine W.ld hc rfl (tL_mk (req_mk (by simp only; omega) ?_))
  simp only [pSome_some, aadd_none, szP32]
  refine W.ld har rfl (tI_mk ?_)
  refine bmd_mk (fun h => by omega) (fun _ => ?_)
  refine W.ld hc rfl ?_
  simp only [tP_ptr, pSome_some]
  refine W.ld3 ?_
  simp only [tP_ptr]
  refine W.ld hro rfl ?_
  simp only [tS_str]
  refine W.ld hc rfl (tL_mk (req_mk (by simp only; omega) ?_))
  simp only [pSome_some, aadd_none, szP32]
  refine W.ld har rfl (tI_mk ?_)
  rw [wrap64 (by omega) (by omega)]
  refine p156 W ok (fun h σ2 h2 => ?_) (fun h σ2 h2 => ?_)
  · simp only [tTup_tup, pSome_some, List.getElem?_cons_zero, List.getElem?_cons_succ, tI_int]
    exact bne_mk (fun _ => hE h σ2 h2) (fun e => absurd e h)
  · simp only [tTup_tup, pSome_some, List.getElem?_cons_zero, List.getElem?_cons_succ, tI_int]
    refine bne_mk (fun e => absurd rfl e) (fun _ => ?_)
    have W2 : FSt g al tr sh m bj n es ec B (last + 1) (openF F nm mode) (S ++ [openS F last nm mode wd]) M σ2 := h2
    refine W2.ld hc rfl ?_
    simp only [tP_ptr]
    refine W2.ld hc rfl (tL_mk (req_mk (by simp only; omega) ?_))
    simp only [pSome_some, aadd_none, szP32]
    refine W2.ld har rfl (tI_mk ?_)
    refine W2.newAt fun x σ3 W3 => ?_
    refine W3.ld (List.mem_cons_of_mem _ hc) rfl ?_
    simp only [tP_ptr]
    refine ⟨trivial, W3.add hn hx fun σ4 W4 => tI_mk ?_⟩
    exact hK h x σ4 W4)
theorem c16sf {ro ar i k : Nat} {id rock mode rk : Int} {nm : List UInt8} {wd : Bool} (hro : (ro, refO rock nm) ∈ M) (hf : Instr.findNow (.int .u32) (u32 id) es 0 = some (some (i, ptr ro))) (har : (ar, AObj.row .rw [u32 id, u32 mode, u32 rk]) ∈ M) (hm : 0 ≤ mode ∧ mode ≤ 5) (ok : Ok 1048576 last F S k) (hn : n < 1000000)
    (hx : Instr.findNow (.int .u32) (u32 ((n + 1 : Nat) : Int)) es 0 = some none) (W : FSt g al tr sh m bj n es ec B last F S M σ) (hE : openE F S nm mode = 0)
    (hK : ∀ x σ', FSt g al tr sh m bj (n + 1) (es ++ [.mk (u32 ((n + 1 : Nat) : Int)) (ptr x) ec]) (ec + 1) B (last + 1) (openF F nm mode) (S ++ [openS F last nm mode wd]) ((x, strF rk (last + 1)) :: M) σ' → K (.tuple ⟨[u32 ((n + 1 : Nat) : Int), i64 0]⟩) σ') :
    Tri Tryz.prog 16 [ptr g, .iface 29 (ptr m), u32 (if wd = true then 312 else 66), .slice (some ⟨ar, 0, none⟩) 3 1] σ K := by
  cases wd with
  | false =>
    refine tri_in ?_
    simp only [Bool.false_eq_true, if_false]
    rw [s16sf]
    refine W.ld7 ?_
    simp only [tB_bool, bm_false]
    refine tri_hard ?_
    rw [n46l]
    refine tI_mk (bne_mk (fun h => absurd rfl h) (fun _ => ?_))
    refine W.newAt fun c σ1 W1 => tri_in ?_
    rw [s50sf]
    refine c96 (ar := ar) (rock := rock) (nm := nm) (ro := ro) (rk := rk) List.mem_cons_self (List.mem_cons_of_mem _ hro) hf (List.mem_cons_of_mem _ har) hm ok hn hx W1 (fun h => absurd hE h) (fun h x σ2 W2 => tI_mk ?_)
    simp only [tTup_tup, pSome_some, List.getElem?_cons_zero, List.getElem?_cons_succ, tI_int]
    exact hK x σ2 (W2.sep fun a => by simp only [cnt_cons]; omega)
  | true =>
    refine tri_in ?_
    simp only [if_true]
    rw [s16sfw]
    refine W.ld7 ?_
    simp only [tB_bool, bm_false]
    refine tri_hard ?_
    rw [n46m]
    refine tI_mk (bne_mk (fun h => absurd rfl h) (fun _ => ?_))
    refine W.newAt fun c σ1 W1 => tri_in ?_
    rw [s50sfw]
    refine c96 (ar := ar) (rock := rock) (nm := nm) (ro := ro) (rk := rk) List.mem_cons_self (List.mem_cons_of_mem _ hro) hf (List.mem_cons_of_mem _ har) hm ok hn hx W1 (fun h => absurd hE h) (fun h x σ2 W2 => tI_mk ?_)
    simp only [tTup_tup, pSome_some, List.getElem?_cons_zero, List.getElem?_cons_succ, tI_int]
    exact hK x σ2 (W2.sep fun a => by simp only [cnt_cons]; omega)
/-- A character put to a file's stream. -/
theorem c16ps {so ar i k : Nat} {id rk num x : Int} {x0 : Sm} (hso : (so, strF rk num) ∈ M) (hf : Instr.findNow (.int .u32) (u32 id) es 0 = some (some (i, ptr so))) (har : (ar, AObj.row .rw [u32 id, u32 x]) ∈ M) (hx : 0 ≤ x ∧ x ≤ 4294967295) (ok : Ok 1048576 last F S k)
    (hat : atS S num = some x0) (hw : wrE 1048576 F x0 [x] = 0) (W : FSt g al tr sh m bj n es ec B last F S M σ)
    (hK : ∀ σ', FSt g al tr sh m bj n es ec B last (wrF F x0 [x]) (setS (wrS x0 [x]) S) M σ' → K (.tuple ⟨[u32 0, i64 0]⟩) σ') :
    Tri Tryz.prog 16 [ptr g, .iface 29 (ptr m), u32 299, .slice (some ⟨ar, 0, none⟩) 2 1] σ K := tri_in (by
  rw [s16ps]
  refine W.ld7 ?_
  simp only [tB_bool, bm_false]
  refine tri_hard ?_
  rw [n46p]
  refine tI_mk (bne_mk (fun h => absurd rfl h) (fun _ => ?_))
  refine W.newAt fun c σ1 W1 => tri_in ?_
  rw [s53ps]
  refine W1.ld List.mem_cons_self rfl ?_
  simp only [tP_ptr]
  refine W1.ld List.mem_cons_self rfl (tL_mk (req_mk (by simp only; omega) ?_))
  simp only [pSome_some, aadd_none, szP32]
  refine W1.ld (List.mem_cons_of_mem _ har) rfl (tI_mk ?_)
  refine W1.ld List.mem_cons_self rfl (tL_mk (req_mk (by simp only; omega) ?_))
  simp only [pSome_some, aadd_none, szP32]
  refine W1.ld (List.mem_cons_of_mem _ har) rfl (tI_mk (tri_in ?_))
  rw [s72]
  refine W1.of (List.mem_cons_of_mem _ hso) hf ?_
  simp only [tP_ptr, ptrEq_some, bm_false, pSome_some]
  refine W1.ld (List.mem_cons_of_mem _ hso) rfl (tI_mk ?_)
  refine bne_mk (fun h => absurd rfl h) (fun _ => ?_)
  refine W1.ld3 ?_
  simp only [tP_ptr]
  refine W1.ld (List.mem_cons_of_mem _ hso) rfl (tI_mk ?_)
  refine W1.newAt fun j σ2 W2 => ?_
  refine W2.ld (List.mem_cons_of_mem _ (List.mem_cons_of_mem _ hso)) rfl (tI_mk ⟨rfl, ?_⟩)
  refine W2.ld3 ?_
  simp only [tP_ptr]
  refine ⟨trivial, ?_⟩
  refine p78 (ms := [x]) W2 ok (.inr ⟨j, .rw, rfl, by simp⟩) (by simpa using hx) (by simp) (fun h => by rw [h] at hat; cases hat) (fun y hy he => by rw [hat] at hy; obtain rfl := Option.some.inj hy; exact absurd hw he) fun y hy _ σ3 h3 => ?_
  rw [hat] at hy
  obtain rfl := Option.some.inj hy
  refine tI_mk ?_
  have W3 : FSt g al tr sh m bj n es ec B last (wrF F x0 [x]) (setS (wrS x0 [x]) S) _ σ3 := h3
  exact hK σ3 (W3.sep fun a => by simp only [cnt_cons]; omega))
/-- A file's stream closed: how much was read, how much was written. -/
theorem c16cf {so ar i a k : Nat} {id rk num : Int} {x0 : Sm} (hl : B.length = 1024) (hso : (so, strF rk num) ∈ M) (hid : id ≠ 0) (hf : Instr.findNow (.int .u32) (u32 id) es 0 = some (some (i, ptr so))) (har : (ar, AObj.row .rw [u32 id, u32 a]) ∈ M) (ha0 : 0 < a) (ha : a + 8 ≤ 1024) (ok : Ok 1048576 last F S k)
    (hat : atS S num = some x0) (hx0 : x0.l = []) (W : FSt g al tr sh m bj n es ec B last F S M σ)
    (hK : ∀ σ', FSt g al tr sh m bj n (es.eraseIdx i) ec (setN B a (beP 4 x0.rd ++ beP 4 x0.wr)) last F (delS num S) M σ' → K (.tuple ⟨[u32 0, i64 0]⟩) σ') :
    Tri Tryz.prog 16 [ptr g, .iface 29 (ptr m), u32 68, .slice (some ⟨ar, 0, none⟩) 2 1] σ K := tri_in (by
  have hk := ok.kle
  have hr := ok.rd x0 (atS_mem hat).1
  have hwr := ok.wr x0 (atS_mem hat).1
  rw [s16cl]
  refine W.ld7 ?_
  simp only [tB_bool, bm_false]
  refine tri_hard ?_
  rw [n46c]
  refine tI_mk (bne_mk (fun h => absurd rfl h) (fun _ => ?_))
  refine W.newAt fun c σ1 W1 => tri_in ?_
  rw [s50cl]
  refine W1.ld List.mem_cons_self rfl ?_
  simp only [tP_ptr]
  refine W1.ld List.mem_cons_self rfl (tL_mk (req_mk (by simp only; omega) ?_))
  simp only [pSome_some, aadd_none, szP32]
  refine W1.ld (List.mem_cons_of_mem _ har) rfl (tI_mk ?_)
  refine W1.of (List.mem_cons_of_mem _ hso) hf ?_
  simp only [tP_ptr, ptrEq_some, bm_false, pSome_some]
  refine W1.ld (List.mem_cons_of_mem _ hso) rfl (tI_mk ?_)
  refine bne_mk (fun h => absurd rfl h) (fun _ => tri_in ?_)
  rw [s100]
  refine W1.ld List.mem_cons_self rfl ?_
  simp only [tP_ptr, pSome_some]
  refine W1.ld3 ?_
  simp only [tP_ptr]
  refine W1.ld (List.mem_cons_of_mem _ hso) rfl (tI_mk ?_)
  refine p160 W1 ok (fun h => by rw [h] at hat; cases hat) fun y hy σ2 a' e' rows hs h2 => ?_
  rw [hat] at hy
  obtain rfl := Option.some.inj hy
  simp only [tTup_tup, pSome_some, List.getElem?_cons_zero, List.getElem?_cons_succ, tI_int]
  refine tL_ok hs.no ?_
  have W2 : FSt g al tr sh m bj n es ec B last F (delS num S) ((c, callK g m ar 2) :: (rows ++ M)) σ2 := PSt.sep h2 fun a => by simp only [callK, ptr, cnt_app, cnt_cons]; omega
  have inM : ∀ {p : Nat × AObj}, p ∈ M → p ∈ (c, callK g m ar 2) :: (rows ++ M) := fun h => by simp [h]
  refine W2.ld List.mem_cons_self rfl ?_
  simp only [tP_ptr, pSome_some]
  refine W2.ld1 ?_
  simp only [tM_map]
  refine W2.ld List.mem_cons_self rfl (tL_mk (req_mk (by simp only; omega) ?_))
  simp only [pSome_some, aadd_none, szP32]
  refine W2.ld (inM har) rfl (tI_mk ?_)
  obtain ⟨LL, H, h3⟩ := PSt.frm W2
  refine mdel0 (H.sep (M := (al, .map es ec) :: (LL ++ ((g, wO n al tr sh) :: (m, spO bj none 0 0) :: (bj, .row .rw (cells8 B)) :: (c, callK g m ar 2) :: (rows ++ M)))) fun a => by simp only [cnt_app, cnt_cons]; omega) hf fun σ3 H3 => ?_
  have W3 : FSt g al tr sh m bj n (es.eraseIdx i) ec B last F (delS num S) ((c, callK g m ar 2) :: (rows ++ M)) σ3 := h3 (H3.sep fun a => by simp only [cnt_app, cnt_cons]; omega)
  refine W3.ld List.mem_cons_self rfl ?_
  simp only [tP_ptr, pSome_some]
  refine W3.ld6 (tI_mk ?_)
  refine W3.ld List.mem_cons_self rfl (tL_mk (req_mk (by simp only; omega) ?_))
  simp only [pSome_some, aadd_none, szP32]
  refine W3.ld (inM har) rfl (tI_mk ?_)
  refine beq_mk (fun h => absurd h.symm hid) (fun _ => ?_)
  rw [hx0]
  refine aloop (fun (_ : Nat) rg σ' => σ' = σ3 ∧ rg = [(0, some (ptr c)), (1, some (ptr so)), (6, some (u32 x0.rd)), (7, some (u32 x0.wr)), (63, some (.slice a' 0 1)), (64, some (i64 0)), (65, some (i64 0))]) (fun k => k) ?_ (a := 0) ⟨rfl, rfl⟩
  rintro _ rg σ4 Y hY ⟨rfl, rfl⟩
  rw [s100l]
  refine bmd_mk (fun h => absurd h (by decide)) (fun _ => ?_)
  refine W3.ld List.mem_cons_self rfl (tL_mk (req_mk (by simp only; omega) ?_))
  simp only [pSome_some, aadd_none, szP32]
  refine W3.ld (inM har) rfl (tI_mk ?_)
  refine W3.newAt fun j σ5 W5 => tri_in ?_
  rw [s92]
  refine W5.hand (V := [(x0.rd : Int), (x0.wr : Int)]) (ar := ar) (k := 2) hl (by simp) (by simp) (by intro z hz; simp at hz; rcases hz with rfl | rfl <;> omega) ha0 (by simp; omega) fun σ6 W6 => ?_
  refine tI_mk (bne_mk (fun h => absurd rfl h) (fun _ => ?_))
  simp only [tTup_tup, pSome_some, List.getElem?_cons_zero, List.getElem?_cons_succ, tI_int]
  refine hK σ6 ?_
  have e : [(x0.rd : Int), (x0.wr : Int)].flatMap (beP 4) = beP 4 x0.rd ++ beP 4 x0.wr := by simp
  rw [e] at W6
  exact W6.sep fun a => by simp only [cnt_app, cnt_cons]; omega)
theorem n82f : ∀ (x : Int) (σ : AS) (K : Value → AS → Prop), callN Tryz.prog hints glE 80 82 [u32 x] σ K = bmatch (decide (x > 255)) (K (u32 63) σ) (K (u32 x) σ) := by
  intros
  kernel_rfl
/-- A character of a file's stream. -/
theorem c16gf {so ar i k : Nat} {id rk num : Int} {x0 : Sm} {wd : Bool} (hso : (so, strF rk num) ∈ M) (hf : Instr.findNow (.int .u32) (u32 id) es 0 = some (some (i, ptr so))) (har : (ar, AObj.row .rw [u32 id]) ∈ M) (ok : Ok 1048576 last F S k)
    (hat : atS S num = some x0) (hrd : reads x0 = true) (W : FSt g al tr sh m bj n es ec B last F S M σ)
    (hZ : (charsOf F x0).length ≤ x0.pl → ∀ σ', FSt g al tr sh m bj n es ec B last F S M σ' → K (.tuple ⟨[u32 4294967295, i64 0]⟩) σ')
    (hK : ∀ v, (charsOf F x0)[x0.pl]? = some v → (wd = false → v ≤ 255) ∧ ∀ σ', FSt g al tr sh m bj n es ec B last F (setS (rdS x0 1) S) M σ' → K (.tuple ⟨[u32 v, i64 0]⟩) σ') :
    Tri Tryz.prog 16 [ptr g, .iface 29 (ptr m), u32 (if wd = true then 304 else 144), .slice (some ⟨ar, 0, none⟩) 1 1] σ K := by
  have hk := ok.kle
  have okd := ok.d
  cases wd with
  | false =>
    refine tri_in ?_
    simp only [Bool.false_eq_true, if_false]
    rw [s16gs]
    refine W.ld7 ?_
    simp only [tB_bool, bm_false]
    refine tri_hard ?_
    rw [n46n]
    refine tI_mk (bne_mk (fun h => absurd rfl h) (fun _ => ?_))
    refine W.newAt fun c σ1 W1 => tri_in ?_
    rw [s53gs]
    refine W1.ld List.mem_cons_self rfl ?_
    simp only [tP_ptr]
    refine W1.ld List.mem_cons_self rfl (tL_mk (req_mk (by simp only; omega) ?_))
    simp only [pSome_some, aadd_none, szP32]
    refine W1.ld (List.mem_cons_of_mem _ har) rfl (tI_mk ?_)
    refine W1.of (List.mem_cons_of_mem _ hso) hf ?_
    simp only [tP_ptr, ptrEq_some, bm_false, pSome_some]
    refine W1.ld (List.mem_cons_of_mem _ hso) rfl (tI_mk ?_)
    refine bne_mk (fun h => absurd rfl h) (fun _ => ?_)
    refine W1.ld List.mem_cons_self rfl ?_
    simp only [tP_ptr, pSome_some]
    refine W1.ld3 ?_
    simp only [tP_ptr]
    refine W1.ld (List.mem_cons_of_mem _ hso) rfl (tI_mk ?_)
    refine p81 W1 okd (by omega) (fun h => by rw [h] at hat; cases hat) (fun y hy h => by rw [hat] at hy; obtain rfl := Option.some.inj hy; rw [hrd] at h; cases h) (fun y hy h hz σ2 h2 => ?_) (fun y v hy h hv σ2 h2 => ?_)
    · rw [hat] at hy
      obtain rfl := Option.some.inj hy
      have W2 : FSt g al tr sh m bj n es ec B last F S _ σ2 := h2
      simp only [tTup_tup, pSome_some, List.getElem?_cons_zero, List.getElem?_cons_succ, tI_int, tB_bool, Bool.not_false, bm_true]
      exact hZ hz σ2 (W2.sep fun a => by simp only [cnt_cons]; omega)
    · rw [hat] at hy
      obtain rfl := Option.some.inj hy
      have W2 : FSt g al tr sh m bj n es ec B last F (setS (rdS x0 1) S) _ σ2 := h2
      obtain ⟨h255, hKv⟩ := hK v hv
      simp only [tTup_tup, pSome_some, List.getElem?_cons_zero, List.getElem?_cons_succ, tI_int, tB_bool, Bool.not_true, bm_false]
      refine tri_hard ?_
      rw [n82f]
      refine bmd_mk (fun h => by have := h255 rfl; omega) (fun _ => tI_mk ?_)
      exact hKv σ2 (W2.sep fun a => by simp only [cnt_cons]; omega)
  | true =>
    refine tri_in ?_
    simp only [if_true]
    rw [s16gsw]
    refine W.ld7 ?_
    simp only [tB_bool, bm_false]
    refine tri_hard ?_
    rw [n46o]
    refine tI_mk (bne_mk (fun h => absurd rfl h) (fun _ => ?_))
    refine W.newAt fun c σ1 W1 => tri_in ?_
    rw [s53gsw]
    refine W1.ld List.mem_cons_self rfl ?_
    simp only [tP_ptr]
    refine W1.ld List.mem_cons_self rfl (tL_mk (req_mk (by simp only; omega) ?_))
    simp only [pSome_some, aadd_none, szP32]
    refine W1.ld (List.mem_cons_of_mem _ har) rfl (tI_mk ?_)
    refine W1.of (List.mem_cons_of_mem _ hso) hf ?_
    simp only [tP_ptr, ptrEq_some, bm_false, pSome_some]
    refine W1.ld (List.mem_cons_of_mem _ hso) rfl (tI_mk ?_)
    refine bne_mk (fun h => absurd rfl h) (fun _ => ?_)
    refine W1.ld List.mem_cons_self rfl ?_
    simp only [tP_ptr, pSome_some]
    refine W1.ld3 ?_
    simp only [tP_ptr]
    refine W1.ld (List.mem_cons_of_mem _ hso) rfl (tI_mk ?_)
    refine p81 W1 okd (by omega) (fun h => by rw [h] at hat; cases hat) (fun y hy h => by rw [hat] at hy; obtain rfl := Option.some.inj hy; rw [hrd] at h; cases h) (fun y hy h hz σ2 h2 => ?_) (fun y v hy h hv σ2 h2 => ?_)
    · rw [hat] at hy
      obtain rfl := Option.some.inj hy
      have W2 : FSt g al tr sh m bj n es ec B last F S _ σ2 := h2
      simp only [tTup_tup, pSome_some, List.getElem?_cons_zero, List.getElem?_cons_succ, tI_int, tB_bool, Bool.not_false, bm_true]
      exact hZ hz σ2 (W2.sep fun a => by simp only [cnt_cons]; omega)
    · rw [hat] at hy
      obtain rfl := Option.some.inj hy
      have W2 : FSt g al tr sh m bj n es ec B last F (setS (rdS x0 1) S) _ σ2 := h2
      simp only [tTup_tup, pSome_some, List.getElem?_cons_zero, List.getElem?_cons_succ, tI_int, tB_bool, Bool.not_true, bm_false]
      exact (hK v hv).2 σ2 (W2.sep fun a => by simp only [cnt_cons]; omega)
/-- A file's bytes. -/
theorem c26 {nm : List UInt8} (srt : Srt F) (f1 : ∀ f ∈ F, f.b.length ≤ 1048576) (hh : hasF F nm = true) (W : FSt g al tr sh m bj n es ec B last F S M σ) (hK : ∀ a' σ', FSt g al tr sh m bj n es ec B last F S M σ' → K (.tuple ⟨[.slice a' (bOf F nm).length 1, .bool true]⟩) σ') :
    Tri Tryz.prog 26 [ptr g, .string (bsV nm)] σ K := tri_in (by
  rw [s26]
  refine W.ld3 ?_
  simp only [tP_ptr]
  refine p71 W srt f1 (fun hn => by rw [hn] at hh; cases hh) (fun hn σ2 a' rows hs h2 => ?_)
  simp only [tTup_tup, pSome_some, List.getElem?_cons_zero, List.getElem?_cons_succ, tB_bool]
  refine tL_mk ?_
  have W2 : FSt g al tr sh m bj n es ec B last F S (rows ++ M) σ2 := PSt.sep h2 fun a => by simp only [cnt_app, cnt_cons]; omega
  exact hK a' σ2 (W2.sep fun a => by simp only [cnt_app]; omega))
end
end Go.AI
end
section
set_option linter.unusedSimpArgs false
set_option linter.unusedVariables false
set_option maxRecDepth 100000
/- One file, written and read character by character: plain lists; no condition but those that each names. -/
namespace Go.AI
open Go.Proofs Go.Shelf
theorem setA_end (b ps : List Int) : setA b b.length ps = b ++ ps := by
  unfold setA
  rw [List.take_length, List.drop_of_length_le (by omega), List.append_nil]
theorem sizeW_enc (w : Bool) (l : List Int) : sizeW w (enc w l) = l.length := by
  have := enc_len w l
  cases w <;> simp only [sizeW, unW] at this ⊢ <;> omega
theorem enc_at (w : Bool) (A : List Int) (v : Int) (C : List Int) : ((enc w (A ++ v :: C)).drop (unW w * A.length)).take (unW w) = enc1 w v := by
  rw [enc_app, enc_cons, ← enc_len w A, List.drop_left]
  exact List.take_left' (enc1_len w v)
theorem view_enc {w : Bool} {l : List Int} {p : Nat} {v : Int} (hv : l[p]? = some v) (h0 : 0 ≤ v) (h1 : v ≤ 4294967295) : (view w (enc w l))[p]? = some (putC w v) := by
  have hp := (List.getElem?_eq_some_iff.1 hv).1
  rw [view_get (by rw [sizeW_enc]; exact hp)]
  congr 1
  have hs : l = l.take p ++ v :: l.drop (p + 1) := by
    have e := (List.getElem?_eq_some_iff.1 hv).2
    conv => lhs; rw [← List.take_append_drop p l, List.drop_eq_getElem_cons hp, e]
  have hl : (l.take p).length = p := by simp; omega
  have h := enc_at w (l.take p) v (l.drop (p + 1))
  rw [← hs, hl] at h
  cases w with
  | true =>
    simp only [unW] at h
    show beW (((enc true l).drop (4 * p)).take 4) = _
    rw [h]
    simp only [enc1, putC, if_true]
    exact beW_by4 h0 h1
  | false =>
    simp only [unW, Nat.one_mul] at h
    show (enc false l).getD p 0 = _
    simp only [enc1] at h
    have hlen : p < (enc false l).length := by rw [enc_len]; simp [unW]; exact hp
    rw [List.drop_eq_getElem_cons hlen, List.take_succ_cons, List.take_zero] at h
    injection h with h _
    rw [List.getD_eq_getElem?_getD, List.getElem?_eq_getElem hlen]
    exact h
theorem bOf_one (nm : List UInt8) (b : List Int) : bOf [⟨nm, b⟩] nm = b := by simp [bOf, List.find?]
theorem hasF_one (nm : List UInt8) (b : List Int) : hasF [⟨nm, b⟩] nm = true := by simp [hasF]
def wrSm (nm : List UInt8) (w : Bool) (i : Nat) : Sm := ⟨1, nm, [], 1, w, i, 0, i⟩
def rdSm (nm : List UInt8) (w : Bool) (i : Nat) : Sm := ⟨2, nm, [], 2, w, i, i, 0⟩
section
variable {nm : List UInt8} {w : Bool} {P : List Int} {c : Int}
theorem wr1_B : wrB (enc w P) (wrSm nm w P.length) [c] = enc w (P ++ [c]) := by
  unfold wrB wrSm
  simp only
  rw [← enc_len, setA_end, enc_app]
theorem wr1_F (hn : nm ≠ []) : wrF [⟨nm, enc w P⟩] (wrSm nm w P.length) [c] = [⟨nm, enc w (P ++ [c])⟩] := by
  unfold wrF
  have e : (wrSm nm w P.length).nm = nm := rfl
  rw [e, if_neg hn, bOf_one, wr1_B]
  simp [setB]
theorem wr1_S (hn : nm ≠ []) : setS (wrS (wrSm nm w P.length) [c]) [wrSm nm w P.length] = [wrSm nm w (P ++ [c]).length] := by
  unfold wrS
  have e : (wrSm nm w P.length).nm = nm := rfl
  rw [e, if_neg hn]
  simp [setS, wrSm]
theorem wr1_E (hn : nm ≠ []) (h : P.length + 1 ≤ 1000) : wrE 1048576 [⟨nm, enc w P⟩] (wrSm nm w P.length) [c] = 0 := by
  unfold wrE
  have e : (wrSm nm w P.length).nm = nm := rfl
  have e2 : ¬ (wrSm nm w P.length).mode = 2 := by simp [wrSm]
  rw [e, if_neg e2, bOf_one, wr1_B]
  have e3 : totF [⟨nm, enc w P⟩] = (enc w P).length := by simp [totF]
  have hl := enc_len w (P ++ [c])
  have hu : unW w ≤ 4 := by cases w <;> decide
  have hm : unW w * (P ++ [c]).length ≤ 4 * 1000 := Nat.mul_le_mul hu (by simpa using h)
  rw [if_neg]
  rw [e3]
  intro h2
  have := h2.2
  omega
theorem chars_rd (hn : nm ≠ []) (i : Nat) : charsOf [⟨nm, enc w P⟩] (rdSm nm w i) = view w (enc w P) := by
  unfold charsOf
  have e : (rdSm nm w i).nm = nm := rfl
  rw [e, if_neg hn, bOf_one]
  rfl
theorem rd1_S (i : Nat) : setS (rdS (rdSm nm w i) 1) [rdSm nm w i] = [rdSm nm w (i + 1)] := by simp [setS, rdS, rdSm]
theorem open1 (hn : named nm) : openE [] [] nm 1 = 0 := by simp [openE, hn, held, hasF]
theorem open2 (hn : named nm) (b : List Int) : openE [⟨nm, b⟩] [] nm 2 = 0 := by simp [openE, hn, held, hasF]
theorem openF1 : openF [] nm 1 = [⟨nm, enc w []⟩] := by simp [openF, hasF, insF, enc]
theorem openF2 (b : List Int) : openF [⟨nm, b⟩] nm 2 = [⟨nm, b⟩] := by simp [openF, hasF]
theorem openS1 : ([] : List Sm) ++ [openS [] 0 nm 1 w] = [wrSm nm w 0] := by simp [openS, wrSm]
theorem openS2 (F : List Fi) : ([] : List Sm) ++ [openS F 1 nm 2 w] = [rdSm nm w 0] := by simp [openS, rdSm]
theorem del1 (i : Nat) : delS 1 [wrSm nm w i] = [] := by simp [delS, wrSm]
theorem at1 (i : Nat) : atS [wrSm nm w i] 1 = some (wrSm nm w i) := by simp [atS, wrSm]
theorem at2 (i : Nat) : atS [rdSm nm w i] 2 = some (rdSm nm w i) := by simp [atS, rdSm]
theorem one_bounds {F : List Fi} {S : List Sm} {k : Nat} {last : Int} (ok : Ok 1048576 last F S k) : ∀ f ∈ F, f.b.length ≤ 1048576 := ok.flen1
end
end Go.AI
end
section
set_option linter.unusedSimpArgs false
set_option linter.unusedVariables false
set_option maxRecDepth 100000
/- The law of files: what was written is read again; no condition but those that each names. -/
namespace Go.AI
open Go.Proofs Go.Shelf
def es13 (ro t2 : Nat) : List MapEntry := [.mk (u32 1) (ptr ro) 0, .mk (u32 3) (ptr t2) 2]
def es12 (ro so : Nat) : List MapEntry := [.mk (u32 1) (ptr ro) 0, .mk (u32 2) (ptr so) 1]
theorem beV4 {x : Int} (h0 : 0 ≤ x) (h1 : x ≤ 4294967295) : beV (beP 4 x) = x := by
  unfold beP beV
  simp only [show ¬ (4 : Nat) = 1 by decide, if_false, List.foldl_cons, List.foldl_nil]
  omega
section
variable {σ : AS} {M : List (Nat × AObj)} {g al tr sh m bj ro so t2 k : Nat} {nm : List UInt8} {la : Option Addr} {l B : List Int} {w : Bool}
theorem fl_read (hnm : named nm) (hla : Inp u32 la l M) (hlr : ∀ x ∈ l, 0 ≤ x ∧ x ≤ 4294967295) (hl3 : l.length ≤ 300) (hBb : ∀ c ∈ B, 0 ≤ c ∧ c < 256) (hl : B.length = 1024) (hB0 : (B.drop 700).take 4 = beP 4 0) (hB1 : (B.drop 704).take 4 = beP 4 l.length)
    (ht : (t2, strF 0 2) ∈ M) (ok : Ok 1048576 2 [⟨nm, enc w l⟩] [rdSm nm w 0] k) (hk : k + l.length + 2 ≤ 1024)
    (W : FSt g al tr sh m bj 3 (es13 ro t2) 3 B 2 [⟨nm, enc w l⟩] [rdSm nm w 0] M σ) :
    ALoop (fl Tryz.prog hintsS (Tri Tryz.prog) 6 [true, true, true, true, true, true, true, true, true, true, true, true, true, true, true, true, true, true, false, true, false] [] RB)
      [(0, some (.string (bsV nm))), (1, some (.slice la l.length 1)), (2, some (.bool w)), (9, some (ptr g)), (11, some (ptr m)), (12, some (u32 1)), (15, some (u32 (if w = true then 304 else 144))), (16, some (u32 0)), (18, some (u32 2)), (21, some (u32 1)), (23, some (u32 3)), (25, some (i64 0))] σ := by
  have hne : nm ≠ [] := Go.Shelf.named_ne hnm
  have hch : ∀ i, (charsOf [⟨nm, enc w l⟩] (rdSm nm w i)).length = l.length := fun i => by rw [chars_rd hne, view_len, sizeW_enc]
  refine aloop (fun (i : Nat) rg σ' => i ≤ l.length ∧ Ok 1048576 2 [⟨nm, enc w l⟩] [rdSm nm w i] (k + i) ∧ FSt g al tr sh m bj 3 (es13 ro t2) 3 B 2 [⟨nm, enc w l⟩] [rdSm nm w i] M σ' ∧
    rg = [(0, some (.string (bsV nm))), (1, some (.slice la l.length 1)), (2, some (.bool w)), (9, some (ptr g)), (11, some (ptr m)), (12, some (u32 1)), (15, some (u32 (if w = true then 304 else 144))), (16, some (u32 0)), (18, some (u32 2)), (21, some (u32 1)), (23, some (u32 3)), (25, some (i64 i))]) (fun i => l.length - i) ?_ (a := 0) ⟨Nat.zero_le _, ok, W, rfl⟩
  rintro i rg σ1 Y hY ⟨hi, ok1, W1, rfl⟩
  rw [s6l2]
  refine bmd_mk (fun h => ?_) (fun h => ?_)
  · have hi2 : i < l.length := by omega
    obtain ⟨x, hx⟩ : ∃ x, l[i]? = some x := ⟨l[i], List.getElem?_eq_getElem hi2⟩
    have hxr := hlr x (List.mem_of_getElem? hx)
    obtain ⟨r, kk, rfl, hr⟩ := hla.resolve_left (by intro h0; rw [h0] at hx; simp at hx)
    have hview := view_enc (w := w) hx hxr.1 hxr.2
    refine req_mk (by omega) (req_mk h ?_)
    simp only [pSome_some, aadd_none, szP32, Int.toNat_natCast, Nat.mul_one, Nat.zero_add]
    have hxu : (l.map u32)[i]? = some (u32 x) := by rw [List.getElem?_map, hx]; rfl
    refine req_mk trivial (W1.ld hr hxu (tI_mk ?_))
    have get : ∀ {σ2 : AS} {j : Nat} {K : Value → AS → Prop}, FSt g al tr sh m bj 3 (es13 ro t2) 3 B 2 [⟨nm, enc w l⟩] [rdSm nm w i] ((j, .row .rw [u32 3]) :: M) σ2 →
        (∀ σ3, FSt g al tr sh m bj 3 (es13 ro t2) 3 B 2 [⟨nm, enc w l⟩] [rdSm nm w (i + 1)] M σ3 → K (.tuple ⟨[u32 (putC w x), i64 0]⟩) σ3) →
        Tri Tryz.prog 16 [ptr g, .iface 29 (ptr m), u32 (if w = true then 304 else 144), .slice (some ⟨j, 0, none⟩) 1 1] σ2 K := by
      intro σ2 j K W2 hK
      refine c16gf (wd := w) (x0 := rdSm nm w i) (num := 2) (rk := 0) (so := t2) (i := 1) (id := 3) (List.mem_cons_of_mem _ ht) rfl List.mem_cons_self ok1 (at2 i) rfl W2 (fun hz => ?_) (fun v hv => ?_)
      · rw [hch] at hz
        have : (rdSm nm w i).pl = i := rfl
        omega
      · rw [chars_rd hne] at hv
        have e : (rdSm nm w i).pl = i := rfl
        rw [e, hview] at hv
        obtain rfl := Option.some.inj hv
        refine ⟨fun hw => ?_, fun σ3 W3 => ?_⟩
        · subst hw
          simp only [putC, Bool.false_eq_true, if_false]
          split <;> omega
        · rw [rd1_S] at W3
          exact hK σ3 (W3.sep fun a => by simp only [cnt_cons]; omega)
    have okn : Ok 1048576 2 [⟨nm, enc w l⟩] [rdSm nm w (i + 1)] (k + (i + 1)) := by
      have := ok1.rdS (by omega) (List.mem_singleton.2 rfl) (j := 1) (by rw [hch]; have : (rdSm nm w i).pl = i := rfl; omega)
      rw [rd1_S] at this
      exact this
    have done : ∀ {σ3}, FSt g al tr sh m bj 3 (es13 ro t2) 3 B 2 [⟨nm, enc w l⟩] [rdSm nm w (i + 1)] M σ3 → Y [(0, some (.string (bsV nm))), (1, some (.slice (some ⟨r, 0, none⟩) l.length 1)), (2, some (.bool w)), (9, some (ptr g)), (11, some (ptr m)), (12, some (u32 1)), (15, some (u32 (if w = true then 304 else 144))), (16, some (u32 0)), (18, some (u32 2)), (21, some (u32 1)), (23, some (u32 3)), (25, some (i64 (IntKind.wrap .i64 ((i : Int) + 1))))] σ3 := fun W3 => by
      rw [wrap1 (by omega)]
      exact hY (i + 1) _ _ (by omega) ⟨by omega, okn, W3, rfl⟩
    refine bnot_mk (fun hw => ?_) (fun hw => ?_)
    · refine bmd_mk (fun h255 => ?_) (fun h255 => ?_)
      · refine W1.newAt fun j σ2 W2 => ?_
        refine get W2 fun σ3 W3 => ?_
        simp only [tTup_tup, pSome_some, List.getElem?_cons_zero, List.getElem?_cons_succ, tI_int]
        have e : putC w x = 63 := by subst hw; simp only [putC, Bool.false_eq_true, if_false]; rw [if_pos h255]
        refine bne_mk (fun h => absurd e h) (fun _ => c15 (tI_mk (bne_mk (fun h => absurd rfl h) (fun _ => done W3))))
      · refine W1.newAt fun j σ2 W2 => ?_
        refine get W2 fun σ3 W3 => ?_
        simp only [tTup_tup, pSome_some, List.getElem?_cons_zero, List.getElem?_cons_succ, tI_int]
        have e : putC w x = x := by subst hw; simp only [putC, Bool.false_eq_true, if_false]; rw [if_neg h255]
        refine bne_mk (fun h => absurd e h) (fun _ => c15 (tI_mk (bne_mk (fun h => absurd rfl h) (fun _ => done W3))))
    · refine W1.newAt fun j σ2 W2 => ?_
      refine get W2 fun σ3 W3 => ?_
      simp only [tTup_tup, pSome_some, List.getElem?_cons_zero, List.getElem?_cons_succ, tI_int]
      have e : putC w x = x := by subst hw; simp only [putC, if_true]
      refine bne_mk (fun h => absurd e h) (fun _ => c15 (tI_mk (bne_mk (fun h => absurd rfl h) (fun _ => done W3))))
  · have ei : i = l.length := by omega
    subst ei
    refine W1.newAt fun j σ2 W2 => ?_
    refine c16gf (wd := w) (x0 := rdSm nm w l.length) (num := 2) (rk := 0) (so := t2) (i := 1) (id := 3) (List.mem_cons_of_mem _ ht) rfl List.mem_cons_self ok1 (at2 _) rfl W2 (fun _ σ3 W3 => ?_) (fun v hv => ?_)
    · simp only [tTup_tup, pSome_some, List.getElem?_cons_zero, List.getElem?_cons_succ, tI_int]
      refine c26 ok1.srt ok1.flen1 (hasF_one nm _) W3 fun a' σ4 W4 => ?_
      simp only [tTup_tup, pSome_some, List.getElem?_cons_zero, List.getElem?_cons_succ, tB_bool]
      refine tL_mk ?_
      rw [bOf_one, enc_len]
      have v0 : beV ((B.drop 700).take 4) = 0 := by rw [hB0]; exact beV4 (by omega) (by omega)
      have v1 : beV ((B.drop 704).take 4) = (l.length : Int) := by rw [hB1]; exact beV4 (by omega) (by omega)
      have sm : (m, spO bj none 0 0) ∈ ((g, wO 3 al tr sh) :: (al, AObj.map (es13 ro t2) 3) :: (m, spO bj none 0 0) :: (bj, .row .rw (cells8 B)) :: ((j, AObj.row .rw [u32 3]) :: M) : List (Nat × AObj)) := by simp
      have sb : (bj, AObj.row .rw (cells8 B)) ∈ ((g, wO 3 al tr sh) :: (al, AObj.map (es13 ro t2) 3) :: (m, spO bj none 0 0) :: (bj, .row .rw (cells8 B)) :: ((j, AObj.row .rw [u32 3]) :: M) : List (Nat × AObj)) := by simp
      refine bm_mk (fun hw => ?_) (fun hw => ?_)
      · subst hw
        refine ldm W4.has sm rfl (tL_mk ?_)
        refine c20 (a := 700) (n := 4) W4.has sb hBb hl (.inr rfl) (by omega) ?_
        simp only [tTup_tup, pSome_some, List.getElem?_cons_zero, List.getElem?_cons_succ, tI_int]
        refine ldm W4.has sm rfl (tL_mk ?_)
        refine c20 (a := 704) (n := 4) W4.has sb hBb hl (.inr rfl) (by omega) ?_
        simp only [tTup_tup, pSome_some, List.getElem?_cons_zero, List.getElem?_cons_succ, tI_int]
        rw [v0, v1, wrap64 (n := (l.length : Int)) (by omega) (by omega), wrap64 (n := 4 * (l.length : Int)) (by omega) (by omega)]
        refine bmd_mk (fun _ => ?_) (fun h => absurd (by decide) h)
        refine bmd_mk (fun _ => ?_) (fun h => absurd (by decide) h)
        refine bmd_mk (fun _ => ?_) (fun h => absurd (by decide) h)
        refine beq_mk (fun _ => ?_) (fun h => absurd rfl h)
        refine beq_mk (fun _ => ?_) (fun h => absurd rfl h)
        refine beq_mk (fun _ => ?_) (fun h => absurd rfl h)
        simp only [bm_true]
        refine beq_mk (fun _ => ?_) (fun h => absurd (by simp [unW]) h)
        refine beq_mk (fun _ => ?_) (fun h => absurd rfl h)
        refine beq_mk (fun _ => ?_) (fun h => absurd rfl h)
        exact c12 rfl
      · subst hw
        refine ldm W4.has sm rfl (tL_mk ?_)
        refine c20 (a := 700) (n := 4) W4.has sb hBb hl (.inr rfl) (by omega) ?_
        simp only [tTup_tup, pSome_some, List.getElem?_cons_zero, List.getElem?_cons_succ, tI_int]
        refine ldm W4.has sm rfl (tL_mk ?_)
        refine c20 (a := 704) (n := 4) W4.has sb hBb hl (.inr rfl) (by omega) ?_
        simp only [tTup_tup, pSome_some, List.getElem?_cons_zero, List.getElem?_cons_succ, tI_int]
        rw [v0, v1, wrap64 (n := (l.length : Int)) (by omega) (by omega), wrap64 (n := 1 * (l.length : Int)) (by omega) (by omega)]
        refine bmd_mk (fun _ => ?_) (fun h => absurd (by decide) h)
        refine bmd_mk (fun _ => ?_) (fun h => absurd (by decide) h)
        refine bmd_mk (fun _ => ?_) (fun h => absurd (by decide) h)
        refine beq_mk (fun _ => ?_) (fun h => absurd rfl h)
        refine beq_mk (fun _ => ?_) (fun h => absurd rfl h)
        refine beq_mk (fun _ => ?_) (fun h => absurd rfl h)
        simp only [bm_true]
        refine beq_mk (fun _ => ?_) (fun h => absurd (by simp [unW]) h)
        refine beq_mk (fun _ => ?_) (fun h => absurd rfl h)
        refine beq_mk (fun _ => ?_) (fun h => absurd rfl h)
        exact c12 rfl
    · have := (List.getElem?_eq_some_iff.1 hv).1
      rw [hch] at this
      have e : (rdSm nm w l.length).pl = l.length := rfl
      omega
end
end Go.AI
end
section
set_option linter.unusedSimpArgs false
set_option linter.unusedVariables false
set_option maxRecDepth 100000
/- The law of files, whole; no condition but those that each names. -/
namespace Go.AI
open Go.Proofs Go.Shelf
theorem getN {B P : List Int} {a i : Nat} {v : Int} (h : a + P.length ≤ B.length) (hv : P[i]? = some v) : (setN B a P)[a + i]? = some v := by
  have hi := (List.getElem?_eq_some_iff.1 hv).1
  have e := setN_drop (B := B) (P := P) (a := a) (i := i) h (by omega)
  have : ((setN B a P).drop (a + i))[0]? = some v := by
    rw [e, List.getElem?_append_left (by simp; omega), List.getElem?_drop]
    simpa using hv
  rw [List.getElem?_drop] at this
  simpa using this
section
variable {σ : AS} {M : List (Nat × AObj)} {g al tr sh m bj ro so t2 k : Nat} {nm : List UInt8} {la : Option Addr} {l B : List Int} {w : Bool}
theorem fl_write (hnm : named nm) (hla : Inp u32 la l M) (hlr : ∀ x ∈ l, 0 ≤ x ∧ x ≤ 4294967295) (hl3 : l.length ≤ 300) (hBb : ∀ c ∈ B, 0 ≤ c ∧ c < 256) (hl : B.length = 1024)
    (hro : (ro, refO 9 nm) ∈ M) (hso : (so, strF 0 1) ∈ M) (ok : Ok 1048576 1 [⟨nm, enc w []⟩] [wrSm nm w 0] k) (hk : k ≤ 10)
    (W : FSt g al tr sh m bj 2 (es12 ro so) 2 B 1 [⟨nm, enc w []⟩] [wrSm nm w 0] M σ) :
    ALoop (fl Tryz.prog hintsS (Tri Tryz.prog) 6 [true, true, true, true, true, true, true, true, true, true, true, true, true, true, false, true, false] [] RB)
      [(0, some (.string (bsV nm))), (1, some (.slice la l.length 1)), (2, some (.bool w)), (9, some (ptr g)), (11, some (ptr m)), (12, some (u32 1)), (14, some (u32 (if w = true then 312 else 66))), (15, some (u32 (if w = true then 304 else 144))), (16, some (u32 0)), (18, some (u32 2)), (20, some (i64 0))] σ := by
  have hne : nm ≠ [] := Go.Shelf.named_ne hnm
  refine aloop (fun (i : Nat) rg σ' => i ≤ l.length ∧ Ok 1048576 1 [⟨nm, enc w (l.take i)⟩] [wrSm nm w i] (k + i) ∧ FSt g al tr sh m bj 2 (es12 ro so) 2 B 1 [⟨nm, enc w (l.take i)⟩] [wrSm nm w i] M σ' ∧
    rg = [(0, some (.string (bsV nm))), (1, some (.slice la l.length 1)), (2, some (.bool w)), (9, some (ptr g)), (11, some (ptr m)), (12, some (u32 1)), (14, some (u32 (if w = true then 312 else 66))), (15, some (u32 (if w = true then 304 else 144))), (16, some (u32 0)), (18, some (u32 2)), (20, some (i64 i))]) (fun i => l.length - i) ?_ (a := 0) ⟨Nat.zero_le _, by simpa using ok, by simpa using W, rfl⟩
  rintro i rg σ1 Y hY ⟨hi, ok1, W1, rfl⟩
  rw [s6l1]
  refine bmd_mk (fun h => ?_) (fun h => ?_)
  · have hi2 : i < l.length := by omega
    obtain ⟨x, hx⟩ : ∃ x, l[i]? = some x := ⟨l[i], List.getElem?_eq_getElem hi2⟩
    have hxr := hlr x (List.mem_of_getElem? hx)
    obtain ⟨r, kk, rfl, hr⟩ := hla.resolve_left (by intro h0; rw [h0] at hx; simp at hx)
    refine req_mk (by omega) (req_mk h ?_)
    simp only [pSome_some, aadd_none, szP32, Int.toNat_natCast, Nat.mul_one, Nat.zero_add]
    have hxu : (l.map u32)[i]? = some (u32 x) := by rw [List.getElem?_map, hx]; rfl
    refine req_mk trivial (W1.ld hr hxu (tI_mk ?_))
    have hP : (l.take i).length = i := by simp; omega
    have htk : l.take (i + 1) = l.take i ++ [x] := by rw [List.take_add_one, hx]; rfl
    have hE := wr1_E (w := w) (P := l.take i) (c := x) hne (by omega)
    have hF := wr1_F (w := w) (P := l.take i) (c := x) hne
    have hS := wr1_S (w := w) (P := l.take i) (c := x) hne
    rw [hP] at hE
    rw [hP, ← htk] at hF
    rw [hP, ← htk, show (l.take (i + 1)).length = i + 1 by simp; omega] at hS
    have okn := ok1.write (by omega) (List.mem_singleton.2 rfl) (ms := [x]) (by simpa using hxr) (by simp) hE
    rw [hF, hS] at okn
    refine W1.newAt fun j σ2 W2 => ?_
    refine c16ps (x0 := wrSm nm w i) (num := 1) (rk := 0) (so := so) (i := 1) (id := 2) (List.mem_cons_of_mem _ hso) rfl List.mem_cons_self hxr ok1 (at1 i) hE W2 fun σ3 W3 => ?_
    rw [hF, hS] at W3
    rw [wrap1 (by omega)]
    exact hY (i + 1) _ _ (by omega) ⟨by omega, okn, W3.sep fun a => by simp only [cnt_cons]; omega, rfl⟩
  · have ei : i = l.length := by omega
    subst ei
    rw [List.take_length] at ok1 W1
    refine W1.newAt fun j σ2 W2 => ?_
    refine c16cf (a := 700) (x0 := wrSm nm w l.length) (num := 1) (rk := 0) (so := so) (i := 1) (id := 2) hl (List.mem_cons_of_mem _ hso) (by decide) rfl List.mem_cons_self (by omega) (by omega) ok1 (at1 _) rfl W2 fun σ3 W3 => ?_
    have ok3 := ok1.close (by omega) (m := 1)
    rw [del1] at W3 ok3
    have eP : (beP 4 ((wrSm nm w l.length).rd : Int) ++ beP 4 ((wrSm nm w l.length).wr : Int)) = beP 4 0 ++ beP 4 (l.length : Int) := rfl
    rw [eP] at W3
    have hlen : (beP 4 0 ++ beP 4 (l.length : Int)).length = 8 := rfl
    generalize hB2 : setN B 700 (beP 4 0 ++ beP 4 (l.length : Int)) = B2 at W3
    have hB2l : B2.length = 1024 := by rw [← hB2, setN_len (by omega)]; exact hl
    have hB2b : ∀ c ∈ B2, 0 ≤ c ∧ c < 256 := by
      rw [← hB2]
      intro c hc
      unfold setN at hc
      rcases List.mem_append.1 hc with hc | hc
      · rcases List.mem_append.1 hc with hc | hc
        · exact hBb c (List.mem_of_mem_take hc)
        · rcases List.mem_append.1 hc with hc | hc
          · exact beP_byte c hc
          · exact beP_byte c hc
      · exact hBb c (List.mem_of_mem_drop hc)
    have hB20 : (B2.drop 700).take 4 = beP 4 0 := by
      rw [← hB2, show 700 = 700 + 0 by rfl, setN_drop (by omega) (by omega)]
      rfl
    have hB21 : (B2.drop 704).take 4 = beP 4 (l.length : Int) := by
      rw [← hB2, show 704 = 700 + 4 by rfl, setN_drop (by omega) (by omega)]
      rfl
    have W3' : FSt g al tr sh m bj 2 [.mk (u32 1) (ptr ro) 0] 2 B2 1 [⟨nm, enc w l⟩] [] M σ3 := W3.sep fun a => by simp only [cnt_cons]; omega
    refine W3'.newAt fun j2 σ4 W4 => ?_
    refine c16re (i := 0) (id := 1) (ro := ro) (rock := 9) (nm := nm) (List.mem_cons_of_mem _ hro) rfl List.mem_cons_self ok3.srt ok3.flen1 W4 fun σ5 W5 => ?_
    rw [if_pos (hasF_one nm _)]
    simp only [tTup_tup, pSome_some, List.getElem?_cons_zero, List.getElem?_cons_succ, tI_int]
    refine W5.newAt fun j3 σ6 W6 => ?_
    refine c16sf (wd := w) (i := 0) (id := 1) (mode := 2) (rk := 0) (ro := ro) (rock := 9) (nm := nm) (by simp [hro]) rfl List.mem_cons_self (by omega) ok3 (by omega) rfl W6 (open2 hnm _) fun x σ7 W7 => ?_
    have ok7 := ok3.open (w := w) (by omega) (open2 hnm (enc w l))
    rw [openF2, show (1 : Int) + 1 = 2 by rfl] at W7 ok7
    rw [openS2] at W7 ok7
    simp only [tTup_tup, pSome_some, List.getElem?_cons_zero, List.getElem?_cons_succ, tI_int]
    have W8 : FSt g al tr sh m bj 3 (es13 ro x) 3 B2 2 [⟨nm, enc w l⟩] [rdSm nm w 0] ((x, strF 0 2) :: M) σ7 := W7.sep fun a => by simp only [cnt_cons]; omega
    exact fl_read hnm (hla.mono fun p hp => List.mem_cons_of_mem _ hp) hlr hl3 hB2b hB2l hB20 hB21 List.mem_cons_self ok7 (by omega) W8
theorem fl_main (hnm : named nm) (hla : Inp u32 la l M) (hlr : ∀ x ∈ l, 0 ≤ x ∧ x ≤ 4294967295) (hl3 : l.length ≤ 300) (hBb : ∀ c ∈ B, 0 ≤ c ∧ c < 256) (hl : B.length = 1024)
    (hro : (ro, refO 9 nm) ∈ M) (W : FSt g al tr sh m bj 1 [.mk (u32 1) (ptr ro) 0] 1 B 0 [] [] M σ) :
    newAt σ (.row .rw [u32 1]) fun i σ1 => Tri Tryz.prog 16 [ptr g, .iface 29 (ptr m), u32 103, .slice (some ⟨i, 0, none⟩) 1 1] σ1 fun v σ2 => tTup v fun l1 => pSome l1[0]? fun u1 => tI .u32 u1 fun n1 => tTup v fun l2 => pSome l2[1]? fun u2 => tI .i64 u2 fun _ =>
      newAt σ2 (.row .rw [u32 1, u32 1, u32 0]) fun i σ3 => Tri Tryz.prog 16 [ptr g, .iface 29 (ptr m), u32 (if w = true then 312 else 66), .slice (some ⟨i, 0, none⟩) 3 1] σ3 fun v σ4 => tTup v fun l1 => pSome l1[0]? fun u3 => tI .u32 u3 fun n3 => tTup v fun l2 => pSome l2[1]? fun u4 => tI .i64 u4 fun _ =>
        ALoop (fl Tryz.prog hintsS (Tri Tryz.prog) 6 [true, true, true, true, true, true, true, true, true, true, true, true, true, true, false, true, false] [] RB)
          [(0, some (.string (bsV nm))), (1, some (.slice la l.length 1)), (2, some (.bool w)), (9, some (ptr g)), (11, some (ptr m)), (12, some (u32 1)), (14, some (u32 (if w = true then 312 else 66))), (15, some (u32 (if w = true then 304 else 144))), (16, some (u32 n1)), (18, some (u32 n3)), (20, some (i64 0))] σ4 := by
  have ok0 : Ok 1048576 0 [] [] 0 := Ok.new (by omega) (by omega)
  refine W.newAt fun j σ1 W1 => ?_
  refine c16re (i := 0) (id := 1) (ro := ro) (rock := 9) (nm := nm) (List.mem_cons_of_mem _ hro) rfl List.mem_cons_self ok0.srt ok0.flen1 W1 fun σ2 W2 => ?_
  rw [if_neg (by simp [hasF])]
  simp only [tTup_tup, pSome_some, List.getElem?_cons_zero, List.getElem?_cons_succ, tI_int]
  refine W2.newAt fun j2 σ3 W3 => ?_
  refine c16sf (wd := w) (i := 0) (id := 1) (mode := 1) (rk := 0) (ro := ro) (rock := 9) (nm := nm) (by simp [hro]) rfl List.mem_cons_self (by omega) ok0 (by omega) rfl W3 (open1 hnm) fun x σ4 W4 => ?_
  have ok4 := ok0.open (w := w) (by omega) (open1 hnm)
  rw [openF1 (w := w), show (0 : Int) + 1 = 1 by rfl] at W4 ok4
  rw [openS1] at W4 ok4
  simp only [tTup_tup, pSome_some, List.getElem?_cons_zero, List.getElem?_cons_succ, tI_int]
  have W5 : FSt g al tr sh m bj 2 (es12 ro x) 2 B 1 [⟨nm, enc w []⟩] [wrSm nm w 0] ((x, strF 0 1) :: M) σ4 := W4.sep fun a => by simp only [cnt_cons]; omega
  exact fl_write hnm (hla.mono fun p hp => List.mem_cons_of_mem _ hp) hlr hl3 hBb hl (List.mem_cons_of_mem _ hro) List.mem_cons_self ok4 (by omega) W5
end
end Go.AI
end
section
set_option linter.unusedSimpArgs false
set_option linter.unusedVariables false
set_option maxRecDepth 100000
/- The law of files holds for all plain inputs; no condition but those that each names. -/
namespace Go.AI
open Go.Proofs Go.Shelf
section
variable {σ : AS} {M : List (Nat × AObj)} {nm : List UInt8} {la : Option Addr} {l : List Int} {w : Bool}
theorem cells_nm (nm : List UInt8) : (nm.map fun b => Value.int .u8 (b.toNat : Int)) = cells8 (nmI nm) := by
  unfold nmI cells8
  rw [List.map_map]
  rfl
theorem fl_law (H : Has σ M) (hla : Inp u32 la l M) (hlr : ∀ x ∈ l, 0 ≤ x ∧ x ≤ 4294967295) :
    Tri Tryz.prog 6 [.string (bsV nm), .slice la l.length 1, .bool w] σ RB := tri_in (by
  rw [s6]
  simp only [size_bs]
  refine bmd_mk (fun _ => c12 rfl) (fun hl3 => bmd_mk (fun _ => c12 rfl) (fun hn1 => ?_))
  refine aloop (fun (i : Nat) rg σ' => i ≤ nm.length ∧ σ' = σ ∧ rg = [(0, some (.string (bsV nm))), (1, some (.slice la l.length 1)), (2, some (.bool w)), (7, some (.bool (decide ((0 : UInt8) ∈ nm.take i)))), (8, some (i64 i))]) (fun i => nm.length - i) ?_ (a := 0) ⟨Nat.zero_le _, rfl, by simp⟩
  rintro i rg σ1 Y hY ⟨hi, rfl, rfl⟩
  rw [s6l]
  simp only [size_bs]
  refine bmd_mk (fun h => ?_) (fun h => ?_)
  · have hi2 : i < nm.length := by omega
    obtain ⟨b, hb⟩ : ∃ b, nm[i]? = some b := ⟨nm[i], List.getElem?_eq_getElem hi2⟩
    have htk : nm.take (i + 1) = nm.take i ++ [b] := by rw [List.take_add_one, hb]; rfl
    rw [wrap1 (by omega)]
    refine bmd_mk (fun hz => ?_) (fun hz => ?_)
    · refine hY (i + 1) _ _ (by omega) ⟨by omega, rfl, ?_⟩
      have e : decide ((0 : UInt8) ∈ nm.take (i + 1)) = true := by rw [htk]; simp [hz]
      rw [e]
    · refine req_mk (by omega) (req_mk (by omega) ?_)
      refine hY (i + 1) _ _ (by omega) ⟨by omega, rfl, ?_⟩
      have e : (((List.getD (bsV nm).data.toList (Int.toNat (i : Int)) (0 : UInt8)).toNat : Int) == 0) = decide ((0 : UInt8) ∈ nm.take (i + 1)) := by
        have e1 : (bsV nm).data.toList = nm := rfl
        rw [e1, Int.toNat_natCast, List.getD_eq_getElem?_getD, hb, htk]
        simp only [Option.getD_some, List.mem_append, hz, List.mem_singleton, false_or]
        rw [Bool.eq_iff_iff]
        simp only [beq_iff_eq, decide_eq_true_eq]
        constructor
        · intro h0
          exact (UInt8.toNat_inj.1 (by simpa using h0 : b.toNat = (0 : UInt8).toNat)).symm
        · intro h0
          rw [← h0]; rfl
      rw [e]
  have ei : i = nm.length := by omega
  subst ei
  rw [List.take_length]
  refine c13 H fun tm tr fm sm sh al g σ2 H2 => ?_
  simp only [tTup_tup, pSome_some, List.getElem?_cons_zero, List.getElem?_cons_succ, tI_int, tP_ptr]
  refine c14 H2 fun m bj σ3 H3 => ?_
  simp only [tP_ptr]
  refine c15 (tI_mk (bne_mk (fun h => absurd rfl h) (fun _ => ?_)))
  simp only [ptrEq_some, bm_false, pSome_some, add_none]
  refine bmd_mk (fun hz => bm_mk (fun _ => c12 rfl) (fun h => absurd hz (by simpa using h))) (fun hz => ?_)
  refine ldm H3 List.mem_cons_self rfl (tL_mk (req_mk (by simp only; omega) (cap_mk (by simp only; omega) ?_)))
  unfold srcCells
  simp only [Option.map_some, aadd_none, szP5, Nat.mul_one, Nat.zero_add]
  refine chk_mk rfl ?_
  rw [cells_nm]
  have e524 : Int.toNat ((1024 : Nat) - (500 : Int)) = 524 := by decide
  rw [e524]
  unfold copyTo
  simp only
  have hnl : (nmI nm).length = nm.length := by simp [nmI]
  have emin : min (bsV nm).size 524 = nm.length := by rw [size_bs]; omega
  rw [emin, Nat.mul_one, List.take_of_length_le (by simp [hnl])]
  refine puts0 (i := bj) (H3.sep (M := (bj, .row .rw (cells8 (List.replicate 1024 0))) :: (m, spO bj none 0 0) :: ([(tm, .map [] 0), (tr, .row .plain [i64 20, i64 10, i64 0, i64 0, .map (some tm)]), (fm, .map [] 0), (sm, .map [] 0), (sh, .row .plain [i64 1048576, i64 0, .map (some fm), .map (some sm)]), (al, .map [] 0), (g, .row .plain [u32 0, .map (some al), ptr tr, ptr sh, .slice none 0 0, .slice none 0 0, u32 0, .bool false])] ++ M)) (fun a => by simp only [cnt_app, cnt_cons, cnt_nil]; omega)) rfl (by simp [hnl]; omega) fun σ4 H4 => ?_
  have eset : (cells8 (List.replicate 1024 0)).take (Int.toNat 500) ++ cells8 (nmI nm) ++ (cells8 (List.replicate 1024 0)).drop (Int.toNat 500 + (cells8 (nmI nm)).length) = cells8 (setN (List.replicate 1024 0) 500 (nmI nm)) := by
    unfold setN
    simp [cells8]
  have H5 : Has σ4 ((bj, .row .rw (cells8 (setN (List.replicate 1024 0) 500 (nmI nm)))) :: (m, spO bj none 0 0) :: ([(tm, .map [] 0), (tr, .row .plain [i64 20, i64 10, i64 0, i64 0, .map (some tm)]), (fm, .map [] 0), (sm, .map [] 0), (sh, .row .plain [i64 1048576, i64 0, .map (some fm), .map (some sm)]), (al, .map [] 0), (g, .row .plain [u32 0, .map (some al), ptr tr, ptr sh, .slice none 0 0, .slice none 0 0, u32 0, .bool false])] ++ M)) := by rw [← eset]; exact H4
  clear H4 H3 H2
  have hB0 : (setN (List.replicate 1024 (0 : Int)) 500 (nmI nm)).length = 1024 := by rw [setN_len (by simp [hnl]; omega)]; simp
  have hBb : ∀ c ∈ setN (List.replicate 1024 (0 : Int)) 500 (nmI nm), 0 ≤ c ∧ c < 256 := by
    intro c hc
    unfold setN at hc
    rcases List.mem_append.1 hc with hc | hc
    · rcases List.mem_append.1 hc with hc | hc
      · have := List.eq_of_mem_replicate (List.mem_of_mem_take hc); omega
      · exact nmI_byte nm c hc
    · have := List.eq_of_mem_replicate (List.mem_of_mem_drop hc); omega
  have hN : NameAt (setN (List.replicate 1024 (0 : Int)) 500 (nmI nm)) 500 nm := by
    refine ⟨fun i b hb => ⟨getN (by simp [hnl]; omega) (by unfold nmI; rw [List.getElem?_map, hb]; rfl), fun h0 => hz (by rw [← h0]; exact List.mem_of_getElem? hb)⟩, ?_⟩
    have h := setN_drop (B := List.replicate 1024 (0 : Int)) (P := nmI nm) (a := 500) (i := nm.length) (by simp [hnl]; omega) (by omega)
    have h2 : ((setN (List.replicate 1024 (0 : Int)) 500 (nmI nm)).drop (500 + nm.length))[0]? = some 0 := by
      rw [h, hnl, List.drop_of_length_le (by omega), List.nil_append, List.getElem?_drop, List.getElem?_replicate, if_pos (by omega)]
    rw [List.getElem?_drop] at h2
    simpa using h2
  generalize setN (List.replicate 1024 (0 : Int)) 500 (nmI nm) = B at hB0 hBb hN H5
  have W : FSt g al tr sh m bj 0 [] 0 B 0 [] [] M σ4 := by
    refine ⟨⟨[], 0, fm, [], 0, sm⟩, ⟨.refl _, rfl, by simp, by simp, by simp, by simp, ⟨by simp, by simp⟩, ⟨by simp, by simp⟩⟩, H5.sep fun a => ?_⟩
    have e0 : wO 0 al tr sh = .row .plain [u32 0, .map (some al), ptr tr, ptr sh, .slice none 0 0, .slice none 0 0, u32 0, .bool false] := rfl
    rw [e0]
    simp only [PG.R, PG.O, shelfO, List.map_nil, List.flatMap_nil, cnt_app, cnt_cons, cnt_nil]
    omega
  clear H5
  refine W.newAt fun ar σ5 W5 => ?_
  refine c16rn (a := 500) (rock := 9) (nm := nm) hBb hB0 (by omega) (by omega) hN List.mem_cons_self W5 (fun hn σ6 W6 => ?_) (fun hn ro σ6 W6 => ?_)
  · simp only [tTup_tup, pSome_some, List.getElem?_cons_zero, List.getElem?_cons_succ, tI_int]
    refine beq_mk (fun _ => ?_) (fun h0 => bmd_mk (fun _ => ?_) (fun h32 => absurd (by unfold named; omega) hn))
    · refine beq_mk (fun _ => c15 (tI_mk (beq_mk (fun _ => c12 rfl) (fun h => absurd rfl h)))) (fun h => absurd rfl h)
    · refine beq_mk (fun _ => c15 (tI_mk (beq_mk (fun _ => c12 rfl) (fun h => absurd rfl h)))) (fun h => absurd rfl h)
  · simp only [tTup_tup, pSome_some, List.getElem?_cons_zero, List.getElem?_cons_succ, tI_int]
    have hn2 := hn
    unfold named at hn2
    refine beq_mk (fun h => by omega) (fun _ => bmd_mk (fun h => by omega) (fun _ => ?_))
    have main := fl_main (w := w) (M := (ro, refO 9 nm) :: (ar, .row .rw [u32 0, u32 500, u32 9]) :: M) hn (hla.mono fun p hp => by simp [hp]) hlr (by omega) hBb hB0 List.mem_cons_self W6
    refine bm_mk (fun hw => ?_) (fun hw => ?_)
    · subst hw
      exact main
    · subst hw
      exact main)
end
end Go.AI
end
