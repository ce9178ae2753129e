/- Lemmas of the abstract condition ahead of code (a part of the library that the claim's proof stands on); they hold with no condition but those that each names. -/
import Derived.Test.YtlofpopejkohbaaGreatGyTwo
section
set_option linter.unusedSimpArgs false
set_option linter.unusedVariables false
set_option maxRecDepth 100000
/- The plain law of a stream on memory; slices and strings of bytes; no condition but those that each names. -/
namespace Go.AI
open Go.Proofs
-- plain law
theorem setN_take {B P : List Int} {a : Nat} (h : a + P.length ≤ B.length) : (setN B a P).take a = B.take a := by
  unfold setN
  rw [List.append_assoc, List.take_append_of_le_length (by simp; omega), List.take_of_length_le (by simp; omega)]
theorem setN_drop {B P : List Int} {a i : Nat} (h : a + P.length ≤ B.length) (hi : i ≤ P.length) : (setN B a P).drop (a + i) = P.drop i ++ B.drop (a + P.length) := by
  unfold setN
  have e1 : (B.take a).length = a := by simp; omega
  rw [List.append_assoc, List.drop_append, e1, List.drop_of_length_le (by omega), List.nil_append, Nat.add_sub_cancel_left, List.drop_append_of_le_length hi]
theorem flatP_drop {u : Nat} (hu : u = 1 ∨ u = 4) : ∀ (i : Nat) (C : List Int), (flatP u C).drop (u * i) = flatP u (C.drop i)
  | 0, C => by simp
  | i + 1, [] => by simp [flatP]
  | i + 1, c :: C => by
    have ih := flatP_drop hu i C
    unfold flatP at ih ⊢
    rw [List.flatMap_cons, List.drop_succ_cons, ← ih, List.drop_append, List.drop_of_length_le (by rw [beP_len hu, Nat.mul_add]; omega), List.nil_append, beP_len hu]
    congr 1
    rw [Nat.mul_add]; omega
theorem flatP_at {u : Nat} (hu : u = 1 ∨ u = 4) {i : Nat} {C : List Int} {v : Int} (h : C[i]? = some v) : ((flatP u C).drop (u * i)).take u = beP u v := by
  rw [flatP_drop hu]
  have hi := (List.getElem?_eq_some_iff.1 h)
  rw [List.drop_eq_getElem_cons hi.1]
  unfold flatP
  rw [List.flatMap_cons, List.take_append_of_le_length (by rw [beP_len hu]; omega), List.take_of_length_le (by rw [beP_len hu]; omega), hi.2]
theorem beP_beV {u : Nat} (hu : u = 1 ∨ u = 4) {P : List Int} (hl : P.length = u) (hb : ∀ c ∈ P, 0 ≤ c ∧ c < 256) : beP u (beV P) = P := by
  rcases hu with rfl | rfl
  · match P, hl with
    | [a], _ =>
      have := hb a (by simp)
      simp [beP, beV]; omega
  · match P, hl with
    | [a, b, c, d], _ =>
      have ha := hb a (by simp)
      have h2 := hb b (by simp)
      have h3 := hb c (by simp)
      have h4 := hb d (by simp)
      simp [beP, beV]
      omega
/-- What the buffer is after so many characters. -/
def gC (w : Bool) (l : List Int) (F : Nat → Int) (k i : Nat) : List Int := (List.range k).map fun j => if j < i then chM w (l.getD j 0) else F j
theorem gC_len (w : Bool) (l : List Int) (F : Nat → Int) (k i : Nat) : (gC w l F k i).length = k := by unfold gC; simp
theorem gC_zero (w : Bool) (l : List Int) (F : Nat → Int) (k : Nat) : gC w l F k 0 = fill F k k := by unfold gC; rw [fill_all]; simp
theorem gC_step {w : Bool} {l : List Int} {F : Nat → Int} {k i : Nat} {x : Int} (hx : l[i]? = some x) : (if (min i k) < k then (gC w l F k i).set (min i k) (chM w x) else gC w l F k i) = gC w l F k (i + 1) := by
  unfold gC
  apply List.ext_getElem?
  intro j
  by_cases hik : i < k
  · have e : min i k = i := by omega
    rw [e, if_pos hik, List.getElem?_set]
    by_cases hj : i = j
    · subst hj
      simp [hik, hx]
    · by_cases hjk : j < k
      · rw [if_neg hj]
        have e2 : (j < i + 1) = (j < i) := by apply propext; omega
        simp [hjk, e2]
      · rw [if_neg hj]
        simp [hjk]
  · have e : ¬ min i k < k := by omega
    rw [if_neg e]
    by_cases hjk : j < k
    · have e1 : j < i := by omega
      have e2 : j < i + 1 := by omega
      simp [hjk, e1, e2]
    · simp [hjk]
theorem gC_get {w : Bool} {l : List Int} {F : Nat → Int} {k i j : Nat} (hj : j < k) : (gC w l F k i)[j]? = some (if j < i then chM w (l.getD j 0) else F j) := by unfold gC; simp [hj]
theorem flat_mem {B : List Int} (hB : ∀ c ∈ B, 0 ≤ c ∧ c < 256) {u : Nat} (hu : u = 1 ∨ u = 4) : ∀ (n a : Nat), 100 + u * (a + n) ≤ B.length → flatP u ((List.range n).map fun j => memF B u (a + j)) = (B.drop (100 + u * a)).take (u * n)
  | 0, a, _ => by simp [flatP]
  | n + 1, a, h => by
    have ih := flat_mem hB hu n (a + 1) (by rw [show a + 1 + n = a + (n + 1) by omega]; exact h)
    have e : (List.range (n + 1)).map (fun j => memF B u (a + j)) = memF B u a :: (List.range n).map (fun j => memF B u (a + 1 + j)) := by
      rw [List.range_succ_eq_map, List.map_cons, List.map_map]
      congr 1
      apply List.map_congr_left
      intro j _
      simp only [Function.comp]
      congr 1
      omega
    rw [e]
    unfold flatP at ih ⊢
    rw [List.flatMap_cons, ih]
    have hua : 100 + u * a + u ≤ B.length := by
      have : u * (a + (n + 1)) = u * a + u * n + u := by rw [Nat.mul_add, Nat.mul_add]; omega
      omega
    have e1 : beP u (memF B u a) = (B.drop (100 + u * a)).take u := by
      unfold memF
      exact beP_beV hu (by simp; omega) fun c hc => hB c (List.mem_of_mem_drop (List.mem_of_mem_take hc))
    have e2 : u * (n + 1) = u + u * n := by rw [Nat.mul_add]; omega
    rw [e1, e2, List.take_add, List.drop_drop]
    congr 3
    rw [Nat.mul_add]; omega
/-- Beyond what was written the memory is as before. -/
theorem mem_rest {B : List Int} (hB : ∀ c ∈ B, 0 ≤ c ∧ c < 256) {u : Nat} (hu : u = 1 ∨ u = 4) {w : Bool} {l : List Int} {k : Nat} (h : 100 + u * k ≤ B.length) :
    (setN B 100 (flatP u (gC w l (memF B u) k l.length))).drop (100 + u * min l.length k) = B.drop (100 + u * min l.length k) := by
  have hfl : (flatP u (gC w l (memF B u) k l.length)).length = u * k := by rw [flatP_len hu, gC_len]
  have hmk : u * min l.length k ≤ u * k := Nat.mul_le_mul_left _ (by omega)
  rw [setN_drop (by omega) (by omega), flatP_drop hu, hfl]
  have e : (gC w l (memF B u) k l.length).drop (min l.length k) = (List.range (k - min l.length k)).map fun j => memF B u (min l.length k + j) := by
    apply List.ext_getElem?
    intro j
    rw [List.getElem?_drop]
    by_cases hj : min l.length k + j < k
    · rw [gC_get hj]
      have e1 : ¬ min l.length k + j < l.length := by omega
      have e2 : j < k - min l.length k := by omega
      simp [e1, e2]
    · have e2 : ¬ j < k - min l.length k := by omega
      rw [List.getElem?_eq_none (by rw [gC_len]; omega)]
      simp [e2]
  rw [e, flat_mem hB hu _ _ (by rw [show min l.length k + (k - min l.length k) = k by omega]; exact h)]
  have e3 : u * (k - min l.length k) = u * k - u * min l.length k := Nat.mul_sub ..
  have e4 : B.drop (100 + u * k) = (B.drop (100 + u * min l.length k)).drop (u * (k - min l.length k)) := by
    rw [List.drop_drop, e3]
    congr 1
    omega
  rw [e4, List.take_append_drop]
theorem mem_at {B : List Int} {w : Bool} {u : Nat} (hu : (u = 1 ∧ w = false) ∨ (u = 4 ∧ w = true)) {l : List Int} (hlx : ∀ c ∈ l, 0 ≤ c ∧ c ≤ 4294967295) {k i : Nat} (h : 100 + u * k ≤ B.length) (hi : i < l.length) (hk : i < k) :
    beV (((setN B 100 (flatP u (gC w l (memF B u) k l.length))).drop (100 + u * i)).take u) = chM w (l.getD i 0) := by
  have hu' : u = 1 ∨ u = 4 := by rcases hu with ⟨h, _⟩ | ⟨h, _⟩ <;> simp [h]
  have hfl : (flatP u (gC w l (memF B u) k l.length)).length = u * k := by rw [flatP_len hu', gC_len]
  have hik : u * i + u ≤ u * k := by
    have := Nat.mul_le_mul_left u (show i + 1 ≤ k by omega)
    rw [Nat.mul_add] at this; omega
  rw [setN_drop (by omega) (by omega), List.take_append_of_le_length (by simp; omega), flatP_at hu' (gC_get hk), if_pos hi]
  have hv := hlx (l.getD i 0) (by rw [List.getD_eq_getElem?_getD, List.getElem?_eq_getElem hi]; exact List.getElem_mem hi)
  refine beV_beP hu' ?_ ?_
  · unfold chM; split <;> (try split) <;> omega
  · intro h1
    rcases hu with ⟨_, rfl⟩ | ⟨h4, _⟩
    · unfold chM; rw [if_neg (by simp)]; split <;> omega
    · omega
end Go.AI
end
section
set_option linter.unusedSimpArgs false
set_option linter.unusedVariables false
set_option maxRecDepth 1000000
/- A space made, a number told, numbers alike, bytes as a string, the page's example: contracts; no condition but those that each names. -/
namespace Go.AI
open Go.Proofs
section
variable {σ : AS} {K : Value → AS → Prop} {L M Fr : List (Nat × AObj)}
theorem n15 : ∀ (n : Int) (σ : AS) (K : Value → AS → Prop), callN Tryz.prog hints glE 80 15 [i64 n] σ K = K (i64 n) σ := by
  intros
  kernel_rfl
theorem c15 {n : Int} (hK : K (i64 n) σ) : Tri Tryz.prog 15 [i64 n] σ K := tri_hard (by rw [n15]; exact hK)
theorem n14 : ∀ (σ : AS) (K : Value → AS → Prop), callN Tryz.prog hints glE 80 14 [] σ K = newAt σ (.row .rw (cells8 (List.replicate 1024 0))) fun i σ => newAt σ (.row .plain [.slice (some ⟨i, 0, none⟩) 1024 1, .slice none 0 0, i64 200, .pointer none, .pointer none]) fun j σ => K (ptr j) σ := by
  intros
  kernel_rfl
theorem c14 (H : Has σ L) (hK : ∀ m bj σ', Has σ' ((m, spO bj none 0 0) :: (bj, .row .rw (cells8 (List.replicate 1024 0))) :: L) → K (ptr m) σ') : Tri Tryz.prog 14 [] σ K := tri_hard (by
  rw [n14]
  exact newAt_mk H fun i σ1 H1 => newAt_mk H1 fun j σ2 H2 => hK j i σ2 H2)
theorem live_run : callN Tryz.prog hints glE 80 12 [] AS.nil (fun v _ => v = .bool true) = (Value.bool true = .bool true ∧ Value.bool true = .bool true) := by kernel_rfl
theorem live_tri : Tri Tryz.prog 12 [] AS.nil (fun v _ => v = .bool true) := tri_hard (by rw [live_run]; exact ⟨rfl, rfl⟩)
theorem c12 (hK : K (.bool true) σ) : Tri Tryz.prog 12 [] σ K :=
  tri_pure (R := fun v => v = .bool true) rfl live_tri (fun v h => by subst h; rfl) (fun v h => by subst h; exact hK)
/-- Two lists that are the same. -/
theorem c18 {a : Option Addr} {e j : Nat} {V : List Int} {rows : List (Nat × AObj)} {kk : RK} (hs : SlC 1 a e (cellsU V) rows) (hr : ∀ p ∈ rows, p ∈ L) (hj : (j, AObj.row kk (cellsU V)) ∈ L) (hV : V.length ≤ 4096) (H : Has σ L) (hK : K (.bool true) σ) :
    Tri Tryz.prog 18 [.slice a V.length 1, .slice (some ⟨j, 0, none⟩) V.length 1] σ K := tri_in (by
  rw [s18]
  refine bne_mk (fun h => absurd rfl h) (fun _ => ?_)
  refine aloop (fun (i : Nat) rg σ' => i ≤ V.length ∧ σ' = σ ∧ rg = [(0, some (.slice a V.length 1)), (1, some (.slice (some ⟨j, 0, none⟩) V.length 1)), (5, some (i64 i))]) (fun i => V.length - i) ?_ (a := 0) ⟨Nat.zero_le _, rfl, rfl⟩
  rintro i rg σ1 X hX ⟨hi, rfl, rfl⟩
  rw [s18l]
  refine bmd_mk (fun h => ?_) (fun h => hK)
  have hi2 : i < V.length := by omega
  obtain ⟨v, hv⟩ : ∃ v, V[i]? = some v := ⟨V[i]'hi2, by simp⟩
  obtain ⟨q, rfl, rfl, rfl⟩ := hs.at (p := i) (by simpa using hi2)
  refine req_mk (by omega) (req_mk h ?_)
  simp only [pSome_some, aadd_none, szP32, Int.toNat_natCast, Nat.mul_one, Nat.zero_add]
  refine req_mk trivial (ldm H (hr _ (List.mem_singleton.2 rfl)) (cU hv) (tI_mk ?_))
  refine req_mk (by omega) (req_mk h (req_mk trivial (ldm H hj (cU hv) (tI_mk ?_))))
  refine bne_mk (fun h => absurd rfl h) (fun _ => ?_)
  rw [wrap1 (by omega)]
  exact hX (i + 1) _ _ (by omega) ⟨by omega, rfl, rfl⟩)
/-- The bytes that a row of numbers says. -/
def bytesU (l : List Int) : List UInt8 := l.map fun c => UInt8.ofNat c.toNat
theorem bytes_cells : ∀ {l : List Int}, (∀ c ∈ l, 0 ≤ c ∧ c < 256) → bytesOf? (cells8 l) = some (bytesU l)
  | [], _ => rfl
  | c :: l, h => by
    have ih := bytes_cells (l := l) fun c hc => h c (by simp [hc])
    have h1 : byteOf? (.int .u8 c) = some (UInt8.ofNat c.toNat) := rfl
    show (match byteOf? (.int .u8 c) with
      | some b => match bytesOf? (cells8 l) with | some bs => some (b :: bs) | none => none
      | none => none) = _
    rw [h1, ih]
    rfl
theorem btsm {j o n : Nat} {k : RK} {B : List Int} {G : List UInt8 → Prop} (H : Has σ L) (hj : (j, AObj.row k (cells8 B)) ∈ L) (hb : ∀ c ∈ B, 0 ≤ c ∧ c < 256) (hn : o + n ≤ B.length) (hG : G (bytesU ((B.drop o).take n))) : bts σ ⟨some ⟨j, o, none⟩, n⟩ G := by
  unfold bts
  refine ldsm H hj (by simp; omega) ?_
  have e : ((cells8 B).drop o).take n = cells8 ((B.drop o).take n) := by simp [cells8]
  rw [e, bytes_cells fun c hc => hb c (List.mem_of_mem_drop (List.mem_of_mem_take hc))]
  exact hG
theorem ex_bs (l : List UInt8) (a b : Nat) : (bsV l).extract a b = bsV ((l.take b).drop a) := by
  apply ByteArray.ext
  rw [ByteArray.data_extract]
  apply Array.toList_inj.1
  simp [List.extract_eq_take_drop]
  rw [List.drop_take]
theorem szP5' : szOf Tryz.prog 5 = 1 := szP5
end
end Go.AI
end
section
set_option linter.unusedSimpArgs false
set_option linter.unusedVariables false
set_option maxRecDepth 100000
/- The law of a stream on memory; no condition but those that each names. -/
namespace Go.AI
open Go.Proofs
section
variable {σ : AS} {L M X : List (Nat × AObj)}
def RB : Value → AS → Prop := fun v _ => v = .bool true
def Inp (c : Int → Value) (a : Option Addr) (l : List Int) (X : List (Nat × AObj)) : Prop := l = [] ∨ ∃ r k, a = some ⟨r, 0, none⟩ ∧ (r, AObj.row k (l.map c)) ∈ X
theorem Inp.mono {c : Int → Value} {a : Option Addr} {l : List Int} {X Y : List (Nat × AObj)} (h : Inp c a l X) (hs : ∀ p ∈ X, p ∈ Y) : Inp c a l Y := by
  rcases h with h | ⟨r, k, h1, h2⟩
  · exact .inl h
  · exact .inr ⟨r, k, h1, hs _ h2⟩
theorem lds_zero {a : Addr} {G : List Value → Prop} (h : G []) : lds σ a 0 G := by
  unfold lds AS.cells
  simpa [pSome] using h
theorem srcI {a : Option Addr} {l : List Int} {G : Nat → List Value → Prop} (H : Has σ L) (hin : Inp u8 a l L) (hG : G l.length (cells8 l)) : srcCells σ 1 (some (.slice a l.length 1)) G := by
  unfold srcCells
  by_cases hm : l = []
  · subst hm
    cases a with
    | none => exact hG
    | some a => exact req_mk rfl (lds_zero hG)
  · obtain ⟨r, k, rfl, hr⟩ := hin.resolve_left hm
    refine req_mk rfl (ldsm H hr (by simp) ?_)
    have e : (((cells8 l).drop 0).take (l.length * 1)) = cells8 l := by rw [List.drop_zero, Nat.mul_one]; exact List.take_of_length_le (by simp)
    rw [e]
    exact hG
/-- What is left once the stream is closed. -/
theorem mem_end {u : Nat} {w : Bool} {la : Option Addr} {l B : List Int} {k m bj : Nat} {most : Int} {a' : Option Addr} {e' : Nat} {rows : List (Nat × AObj)} (hB : ∀ c ∈ B, 0 ≤ c ∧ c < 256) (hl : B.length = 1024) (hu : (u = 1 ∧ w = false ∧ most = 255) ∨ (u = 4 ∧ w = true ∧ most = 4294967295)) (hk : k < 100) (hlx : ∀ c ∈ l, 0 ≤ c ∧ c ≤ 4294967295) (hln : l.length ≤ 400) (hla : Inp u32 la l X)
    (hs : SlC 1 a' e' (cellsU [0, (l.length : Int)]) rows) (H : Has σ (rows ++ ((m, spO bj a' 2 e') :: (bj, .row .rw (cells8 (setN B 100 (flatP u (gC w l (memF B u) k l.length))))) :: X))) :
    ALoop (fl Tryz.prog hintsS (Tri Tryz.prog) 4 [true, true, true, true, true, true, true, true, true, true, true, true, true, true, false, true, false] [] RB)
      [(2, some (.slice la l.length 1)), (11, some (ptr m)), (12, some (.string (bsV (bytesU B)))), (14, some (i64 u)), (15, some (u32 most)), (16, some (i64 k)), (20, some (i64 0))] σ := by
  have hu2 : (u = 1 ∧ w = false) ∨ (u = 4 ∧ w = true) := by rcases hu with ⟨h, h2, _⟩ | ⟨h, h2, _⟩ <;> simp [h, h2]
  have hu' : u = 1 ∨ u = 4 := by rcases hu with ⟨h, _⟩ | ⟨h, _⟩ <;> simp [h]
  have huk : u * k ≤ 400 := by rcases hu' with rfl | rfl <;> omega
  have hfl : (flatP u (gC w l (memF B u) k l.length)).length = u * k := by rw [flatP_len hu', gC_len]
  have hrest := mem_rest (B := B) hB hu' (w := w) (l := l) (k := k) (by omega)
  have hat := fun i => mem_at (B := B) (w := w) hu2 hlx (k := k) (i := i) (by omega)
  have htake := setN_take (B := B) (P := flatP u (gC w l (memF B u) k l.length)) (a := 100) (by omega)
  have hB2 : ∀ c ∈ setN B 100 (flatP u (gC w l (memF B u) k l.length)), 0 ≤ c ∧ c < 256 := by
    intro c hc
    unfold setN at hc
    rcases List.mem_append.1 hc with hc | hc
    · rcases List.mem_append.1 hc with hc | hc
      · exact hB c (List.mem_of_mem_take hc)
      · obtain ⟨x, _, hx⟩ := List.mem_flatMap.1 hc
        exact beP_byte c hx
    · exact hB c (List.mem_of_mem_drop hc)
  have hl2 : (setN B 100 (flatP u (gC w l (memF B u) k l.length))).length = 1024 := by rw [setN_len (by omega)]; exact hl
  generalize setN B 100 (flatP u (gC w l (memF B u) k l.length)) = B2 at *
  have hm : (m, spO bj a' 2 e') ∈ rows ++ ((m, spO bj a' 2 e') :: (bj, .row .rw (cells8 B2)) :: X) := by simp
  have hb : (bj, AObj.row .rw (cells8 B2)) ∈ rows ++ ((m, spO bj a' 2 e') :: (bj, .row .rw (cells8 B2)) :: X) := by simp
  have fin : ldc σ ⟨m, 0, none⟩ fun v31 => tL 1 v31 fun s32 => req (100 ≤ ((capLo σ s32.a (szOf Tryz.prog 5) s32.n : Nat) : Int)) (bts σ ⟨s32.a.map (fun x => aadd x (Int.toNat 0 * szOf Tryz.prog 5)), 100⟩ fun l33 => req ((100 : Int) ≤ ((bsV (bytesU B)).size : Int))
      (bmatch (strEq ⟨l33.toArray⟩ ((bsV (bytesU B)).extract (Int.toNat 0) (Int.toNat 100)))
        (ldc σ ⟨m, 0, none⟩ fun v34 => tL 1 v34 fun s35 => req (0 ≤ IntKind.wrap .i64 (100 + IntKind.wrap .i64 ((u : Int) * imin (l.length : Int) k)))
          (req (IntKind.wrap .i64 (100 + IntKind.wrap .i64 ((u : Int) * imin (l.length : Int) k)) ≤ ((s35.n : Nat) : Int)) (req (((s35.n : Nat) : Int) ≤ ((capLo σ s35.a (szOf Tryz.prog 5) s35.n : Nat) : Int))
            (bts σ ⟨s35.a.map (fun x => aadd x (Int.toNat (IntKind.wrap .i64 (100 + IntKind.wrap .i64 ((u : Int) * imin (l.length : Int) k))) * szOf Tryz.prog 5)), Int.toNat (((s35.n : Nat) : Int) - IntKind.wrap .i64 (100 + IntKind.wrap .i64 ((u : Int) * imin (l.length : Int) k)))⟩ fun l36 =>
              req (0 ≤ IntKind.wrap .i64 (100 + IntKind.wrap .i64 ((u : Int) * imin (l.length : Int) k))) (req (IntKind.wrap .i64 (100 + IntKind.wrap .i64 ((u : Int) * imin (l.length : Int) k)) ≤ ((bsV (bytesU B)).size : Int)) (req (((bsV (bytesU B)).size : Int) ≤ ((bsV (bytesU B)).size : Int))
                (bmatch (strEq ⟨l36.toArray⟩ ((bsV (bytesU B)).extract (Int.toNat (IntKind.wrap .i64 (100 + IntKind.wrap .i64 ((u : Int) * imin (l.length : Int) k)))) (Int.toNat ((bsV (bytesU B)).size : Int))))
                  (ldc σ ⟨m, 0 + 1, none⟩ fun v37 => tL 1 v37 fun s38 => newAt σ (.row .rw [u32 0, u32 (IntKind.wrap .u32 (l.length : Int))]) fun i39 σ40 => ldc σ40 ⟨m, 0 + 1, none⟩ fun v41 => tL 1 v41 fun s42 =>
                    Value.slice s38.a s38.n (szOf Tryz.prog 32) = Value.slice s42.a s42.n (szOf Tryz.prog 32) ∧ Tri Tryz.prog 18 [.slice s38.a s38.n 1, .slice (some ⟨i39, 0, none⟩) 2 1] σ40 fun v43 σ44 => tB v43 fun b45 => bmatch b45 (Tri Tryz.prog 12 [] σ44 fun v46 σ47 => tB v46 fun b48 => RB (.bool b48) σ47) (RB (.bool false) σ44))
                  (RB (.bool false) σ))))))))
        (RB (.bool false) σ))) := by
    have hsz : (bsV (bytesU B)).size = 1024 := by show (bytesU B).length = 1024; unfold bytesU; rw [List.length_map]; exact hl
    have him : imin (l.length : Int) k = ((min l.length k : Nat) : Int) := by rw [imin_eq]; split <;> omega
    have hum : u * min l.length k ≤ u * k := Nat.mul_le_mul_left _ (by omega)
    have ew : IntKind.wrap .i64 (100 + IntKind.wrap .i64 ((u : Int) * imin (l.length : Int) k)) = ((100 + u * min l.length k : Nat) : Int) := by
      have e0 : (u : Int) * ((min l.length k : Nat) : Int) = ((u * min l.length k : Nat) : Int) := by push_cast; rfl
      rw [him, e0, wrap64 (n := ((u * min l.length k : Nat) : Int)) (by omega) (by omega), wrap64 (by omega) (by omega)]
      omega
    rw [ew, hsz]
    have hbl : ∀ (x y : Nat), bytesU ((B.drop x).take y) = ((bytesU B).drop x).take y := by intro x y; unfold bytesU; simp
    refine ldm H hm rfl (tL_mk (cap_mk (by simp only; omega) ?_))
    simp only [Option.map_some, aadd_none, szP5, Nat.mul_one, Nat.zero_add]
    refine btsm H hb hB2 (by simp; omega) (req_mk (by omega) ?_)
    refine bm_t ?_ ?_
    · rw [ex_bs, strEq_bs]
      refine decide_eq_true ?_
      have e : (B2.drop (Int.toNat 0)).take 100 = B.take 100 := by rw [← htake]; rfl
      rw [e]
      unfold bytesU
      simp
    refine ldm H hm rfl (tL_mk ?_)
    refine req_mk (by omega) (req_mk (by simp only; omega) (cap_mk (by simp only; omega) ?_))
    simp only [Option.map_some, aadd_none, szP5, Nat.mul_one, Nat.zero_add, Int.toNat_natCast]
    have et : Int.toNat ((1024 : Nat) - ((100 + u * min l.length k : Nat) : Int)) = 1024 - (100 + u * min l.length k) := by omega
    rw [et]
    refine btsm H hb hB2 (by omega) (req_mk (by omega) (req_mk (by omega) (req_mk (by omega) ?_)))
    refine bm_t ?_ ?_
    · rw [ex_bs, strEq_bs]
      refine decide_eq_true ?_
      rw [hrest, List.take_of_length_le (by simp; omega), List.take_of_length_le (by unfold bytesU; simp; omega)]
      unfold bytesU
      simp
    refine ldm H hm rfl (tL_ok hs.no ?_)
    refine newAt_mk H fun j σ1 H1 => ?_
    refine ldm H1 (List.mem_cons_of_mem _ hm) rfl (tL_ok hs.no ?_)
    refine ⟨rfl, ?_⟩
    rw [wrapU32 (by omega) (by omega)] at H1
    refine c18 (V := [0, (l.length : Int)]) (kk := .rw) hs (fun p hp => by simp [hp]) List.mem_cons_self (by simp) H1 ?_
    simp only [tB_bool, bm_true]
    refine c12 ?_
    rfl
  refine aloop (fun (i : Nat) rg σ' => i ≤ l.length ∧ i ≤ k ∧ σ' = σ ∧ rg = [(2, some (.slice la l.length 1)), (11, some (ptr m)), (12, some (.string (bsV (bytesU B)))), (14, some (i64 u)), (15, some (u32 most)), (16, some (i64 k)), (20, some (i64 i))]) (fun i => k - i) ?_ (a := 0) ⟨Nat.zero_le _, Nat.zero_le _, rfl, rfl⟩
  rintro i rg σ1 Y hX ⟨hi, hik, rfl, rfl⟩
  rw [s4l1]
  refine bmd_mk (fun h => bmd_mk (fun h2 => ?_) (fun _ => fin)) (fun _ => fin)
  have hui : u * i + u ≤ u * k := by
    have := Nat.mul_le_mul_left u (show i + 1 ≤ k by omega)
    rw [Nat.mul_add] at this; omega
  refine ldm H hm rfl (tL_mk ?_)
  have ew : IntKind.wrap .i64 (100 + IntKind.wrap .i64 ((u : Int) * (i : Int))) = ((100 + u * i : Nat) : Int) := by
    have e0 : (u : Int) * (i : Int) = ((u * i : Nat) : Int) := by push_cast; rfl
    rw [e0, wrap64 (n := ((u * i : Nat) : Int)) (by omega) (by omega), wrap64 (by omega) (by omega)]
    omega
  rw [ew]
  refine c20 (k := .rw) H hb hB2 hl2 hu' (by omega) ?_
  simp only [tTup_tup, pSome_some, List.getElem?_cons_zero, List.getElem?_cons_succ, tI_int]
  rw [hat i (by omega) (by omega)]
  refine req_mk (by omega) (req_mk h ?_)
  obtain ⟨v, hv⟩ : ∃ v, l[i]? = some v := ⟨l[i]'(by omega), by simp⟩
  obtain ⟨r, kk, rfl, hr⟩ := (hla.mono (Y := rows ++ ((m, spO bj a' 2 e') :: (bj, .row .rw (cells8 B2)) :: X)) (fun p hp => by simp [hp])).resolve_left (by intro h0; rw [h0] at hv; simp at hv)
  simp only [pSome_some, aadd_none, szP32, Int.toNat_natCast, Nat.mul_one, Nat.zero_add]
  refine req_mk trivial (ldm H hr (cU hv) (tI_mk ?_))
  have hgd : l.getD i 0 = v := by rw [List.getD_eq_getElem?_getD, hv]; rfl
  have hvx := hlx v (List.mem_of_getElem? hv)
  rw [hgd, wrap1 (by omega)]
  refine bmd_mk (fun hgt => ?_) (fun hle => ?_)
  · have e : chM w v = 63 := by
      rcases hu with ⟨_, rfl, rfl⟩ | ⟨_, rfl, rfl⟩
      · unfold chM; rw [if_neg (by simp), if_pos hgt]
      · omega
    rw [e]
    exact bne_mk (fun h => absurd rfl h) (fun _ => hX (i + 1) _ _ (by omega) ⟨by omega, by omega, rfl, rfl⟩)
  · have e : chM w v = v := by
      rcases hu with ⟨_, rfl, rfl⟩ | ⟨_, rfl, rfl⟩
      · unfold chM; rw [if_neg (by simp), if_neg hle]
      · rfl
    rw [e]
    exact bne_mk (fun h => absurd rfl h) (fun _ => hX (i + 1) _ _ (by omega) ⟨by omega, by omega, rfl, rfl⟩)
end
end Go.AI
end
