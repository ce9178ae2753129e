/- Lemmas of the abstract condition ahead of code (a part of the library that the claim's proof stands on); they hold with no condition but those that each names. -/
import Derived.Test.YtcjicaolgjialaaPySoft
import Derived.Test.YtcjicaolgjialaaAISort
import Derived.Test.YtcjicaolgjialaaAIJoin
import Derived.Shelf.Sort.Plain
import Derived.Shelf.Slices.In.SortNone
import Derived.Test.YtcjicaolgjialaaPyBase
import Derived.Test.YtcjicaolgjialaaPyTree
section
/- slices.Sort of whole numbers puts them in order: what the kit has proved of it, at this program; no condition but those that each names. -/
namespace Go.AI
open Go.Proofs Go.Sort
def sortRen : Go.Shelf.Ren := ⟨fun | 189 => 39 | 125 => 59 | 257 => 58 | 128 => 76 | 129 => 77 | 294 => 67 | 295 => 68 | 296 => 69 | 297 => 70 | 298 => 71 | 299 => 72 | 216 => 73 | 300 => 74 | 301 => 75 | 328 => 79 | 329 => 80 | 330 => 81 | 331 => 82 | 332 => 83 | 215 => 84 | 343 => 85 | n => n, fun | 28 => 33 | 3 => 3 | 46 => 105 | 0 => 0 | 51 => 24 | 53 => 106 | 4 => 4 | 183 => 111 | 182 => 110 | 131 => 115 | 5 => 5 | 9 => 9 | 218 => 120 | 222 => 86 | 228 => 125 | 229 => 27 | n => n, fun | n => n⟩
theorem sortLays : Go.Proofs.Lays.n189 Try.prog sortRen := {
  mixed := (by kernel_rfl),
  f125 := Try.func59.trans (congrArg some (by kernel_rfl)),
  f128 := Try.func76.trans (congrArg some (by kernel_rfl)),
  f129 := Try.func77.trans (congrArg some (by kernel_rfl)),
  f189 := Try.func39.trans (congrArg some (by kernel_rfl)),
  f215 := Try.func84.trans (congrArg some (by kernel_rfl)),
  f216 := Try.func73.trans (congrArg some (by kernel_rfl)),
  f257 := Try.func58.trans (congrArg some (by kernel_rfl)),
  f294 := Try.func67.trans (congrArg some (by kernel_rfl)),
  f295 := Try.func68.trans (congrArg some (by kernel_rfl)),
  f296 := Try.func69.trans (congrArg some (by kernel_rfl)),
  f297 := Try.func70.trans (congrArg some (by kernel_rfl)),
  f298 := Try.func71.trans (congrArg some (by kernel_rfl)),
  f299 := Try.func72.trans (congrArg some (by kernel_rfl)),
  f300 := Try.func74.trans (congrArg some (by kernel_rfl)),
  f301 := Try.func75.trans (congrArg some (by kernel_rfl)),
  f328 := Try.func79.trans (congrArg some (by kernel_rfl)),
  f329 := Try.func80.trans (congrArg some (by kernel_rfl)),
  f330 := Try.func81.trans (congrArg some (by kernel_rfl)),
  f331 := Try.func82.trans (congrArg some (by kernel_rfl)),
  f332 := Try.func83.trans (congrArg some (by kernel_rfl)),
  f343 := Try.func85.trans (congrArg some (by kernel_rfl)),
  t0 := Try.underlying0,
  a0 := Try.isAgg0,
  z0 := Try.sizeOf0,
  v0 := Try.zeroValue0,
  t3 := Try.underlying3,
  a3 := Try.isAgg3,
  z3 := Try.sizeOf3,
  v3 := Try.zeroValue3,
  t4 := Try.underlying4,
  a4 := Try.isAgg4,
  z4 := Try.sizeOf4,
  v4 := Try.zeroValue4,
  t5 := Try.underlying5,
  a5 := Try.isAgg5,
  z5 := Try.sizeOf5,
  v5 := Try.zeroValue5,
  t9 := Try.underlying9,
  a9 := Try.isAgg9,
  z9 := Try.sizeOf9,
  v9 := Try.zeroValue9,
  t28 := Try.underlying33,
  a28 := Try.isAgg33,
  z28 := Try.sizeOf33,
  v28 := Try.zeroValue33,
  t46 := Try.underlying105,
  a46 := Try.isAgg105,
  z46 := Try.sizeOf105,
  v46 := Try.zeroValue105,
  t51 := Try.underlying24,
  a51 := Try.isAgg24,
  z51 := Try.sizeOf24,
  v51 := Try.zeroValue24,
  t53 := Try.underlying106,
  a53 := Try.isAgg106,
  z53 := Try.sizeOf106,
  v53 := Try.zeroValue106,
  t131 := Try.underlying115,
  a131 := Try.isAgg115,
  z131 := Try.sizeOf115,
  v131 := Try.zeroValue115,
  t182 := Try.underlying110,
  a182 := Try.isAgg110,
  z182 := Try.sizeOf110,
  v182 := Try.zeroValue110,
  t183 := Try.underlying111,
  a183 := Try.isAgg111,
  z183 := Try.sizeOf111,
  v183 := Try.zeroValue111,
  t218 := Try.underlying120,
  a218 := Try.isAgg120,
  z218 := Try.sizeOf120,
  v218 := Try.zeroValue120,
  t222 := Try.underlying86,
  a222 := Try.isAgg86,
  z222 := Try.sizeOf86,
  v222 := Try.zeroValue86,
  t228 := Try.underlying125,
  a228 := Try.isAgg125,
  z228 := Try.sizeOf125,
  v228 := Try.zeroValue125,
  t229 := Try.underlying27,
  a229 := Try.isAgg27,
  z229 := Try.sizeOf27,
  v229 := Try.zeroValue27 }
abbrev leI (x y : Int) : Bool := decide (x ≤ y)
theorem noGoSo : noGo Try.prog = true := by kernel_rfl
theorem sort_enters (args : Array Value) (w : World) : (callFunc 39 args).run Try.prog w = .ok (.enter 39 args) w := callFunc_enter noGoSo Try.func39 rfl args w
theorem sorts39 : SortsTo Try.prog 39 (Value.int .i64) (fun zs => zs.mergeSort leI) := fun blk off cap zs w h1 h2 h3 => Any.slices_Sort_int sortLays blk off cap zs w h1 h2 h3
theorem c39 {σ : AS} {j : Nat} {k : RK} {zs : List Int} {X : List (Nat × AObj)} {K : Value → AS → Prop} (H : Has σ ((j, .row k (zs.map (.int .i64))) :: X)) (hk : k.own = true) (hne : zs ≠ []) (hbig : zs.length ≤ 1048576)
    (hK : ∀ σ', Has σ' ((j, .row k ((zs.mergeSort leI).map (.int .i64))) :: X) → K (.tuple ⟨[]⟩) σ') : Tri Try.prog 39 [.slice (some ⟨j, 0, none⟩) zs.length 1] σ K :=
  tri_sort sort_enters sorts39 (fun zs => by simp) (fun ρ x cv h => by cases h; rfl) (fun ρ x => .int _ _) (fun x => rfl) H hk hne hbig hK
theorem c39n {σ : AS} {a : Option Addr} {e : Nat} {K : Value → AS → Prop} (hK : K (.tuple ⟨[]⟩) σ) : Tri Try.prog 39 [.slice a 0 e] σ K :=
  tri_sort_none sort_enters (fun p cap w => Any.slices_Sort_int_none sortLays p cap w) hK
end Go.AI
end
section
set_option linter.unusedSimpArgs false
set_option linter.unusedVariables false
set_option maxRecDepth 10000
/- A pair arranged, another screen, all windows told, a window closed: what the program does; no condition but those that each names. -/
namespace Go.AI
open Go.Proofs Go.Pane
section
variable {σ : AS} {K : Value → AS → Prop} {X : List (Nat × AObj)} {t m : Nat} {n W H root last : Int} {ws : List PW} {c : Nat} {tr : Option T} {fr : List (Nat × AObj)}
def fitsB (n : Int) : Bool := decide (0 ≤ n ∧ n ≤ 1000)
theorem c31 {w h : Int} (Hh : Has σ X) (hE : (fitsB w && fitsB h) = false → K (.tuple ⟨[.pointer none, i64 1]⟩) σ)
    (hK : (fitsB w && fitsB h) = true → ∀ σ' t m, Has σ' (progL t m w h 0 0 [] 0 X) → K (.tuple ⟨[ptr t, i64 0]⟩) σ') : Tri Try.prog 31 [i64 w, i64 h] σ K := tri_in (by
  rw [s31]
  refine c49 ?_
  rw [tB_bool]
  refine bnot_mk (fun g => hE (by unfold fitsB; rw [g]; rfl)) (fun g => ?_)
  refine c49 ?_
  rw [tB_bool]
  refine bnot_mk (fun g2 => hE (by unfold fitsB; rw [g, g2]; rfl)) (fun g2 => ?_)
  refine newAt_mk Hh fun i6 σ1 H1 => newAt_mk H1 fun i8 σ2 H2 => ?_
  exact hK (by unfold fitsB; rw [g, g2]; rfl) σ2 i8 i6 H2)
theorem c37 {w h : Int} (Hh : Has σ (progL t m W H root last ws c fr)) (hE : (fitsB w && fitsB h) = false → K (i64 1) σ)
    (hK : (fitsB w && fitsB h) = true → ∀ σ', Has σ' (progL t m w h root last ws c fr) → K (i64 0) σ') : Tri Try.prog 37 [ptr t, i64 w, i64 h] σ K := tri_in (by
  rw [s37]
  refine c49 ?_
  rw [tB_bool]
  refine bnot_mk (fun g => hE (by unfold fitsB; rw [g]; rfl)) (fun g => ?_)
  refine c49 ?_
  rw [tB_bool]
  refine bnot_mk (fun g2 => hE (by unfold fitsB; rw [g, g2]; rfl)) (fun g2 => ?_)
  refine put1_mk Hh 0 rfl rfl (by simp) fun σ1 H1 => put1_mk H1 0 rfl rfl (by simp) fun σ2 H2 => ?_
  exact hK (by unfold fitsB; rw [g, g2]; rfl) σ2 H2)
/-- Why a pair is not arranged; 0: it is. -/
def arrE (L : List Win) (pair m key : Int) : Int :=
  if pairE L pair ≠ 0 then pairE L pair else if validB m = false ∨ cols m ≠ cols (ofL L pair).m then 1
  else if key ≠ 0 ∧ (hasL L key = false ∨ (ofL L key).k = 4 ∨ belF L 100 key pair = false) then 1 else 0
theorem c36 {pair mm sz key : Int} (ok : Ok (wl ws) last tr) (hm : In64 mm) (Hh : Has σ (progL t m W H root last ws c fr)) (hE : arrE (wl ws) pair mm key ≠ 0 → ∀ σ' new, Has σ' (new ++ progL t m W H root last ws c fr) → K (i64 (arrE (wl ws) pair mm key)) σ')
    (hK : arrE (wl ws) pair mm key = 0 → ∀ σ' ws' new, wl ws' = arrL (wl ws) pair mm sz key → (BornOk ws c → BornOk ws' c) → Has σ' (new ++ progL t m W H root last ws' c fr) → K (i64 0) σ') :
    Tri Try.prog 36 [ptr t, i64 pair, i64 mm, u32 sz, i64 key] σ K := tri_in (by
  rw [s36]
  have P : PIn t m W H root last ws c (progL t m W H root last ws c fr) := pin_of
  refine c48 Hh P ok.srt (fun h => ?_) (fun l1 q l2 e1 e2 e3 e4 => ?_)
  · simp only [tTup_tup, pSome_some, List.getElem?_cons_zero, List.getElem?_cons_succ, tP_ptr, tI_int]
    have e : arrE (wl ws) pair mm key = pairE (wl ws) pair := by unfold arrE; rw [if_pos h]
    rw [e] at hE
    exact bne_mk (fun _ => hE h σ [] Hh) (fun g => absurd g h)
  · simp only [tTup_tup, pSome_some, List.getElem?_cons_zero, List.getElem?_cons_succ, tP_ptr, tI_int]
    refine bne_mk (fun g => absurd rfl g) (fun _ => ?_)
    have hhas : hasL (wl ws) pair = true := hasL_iff.2 ⟨q.2.2, by rw [e1]; simp, e2⟩
    have ep : pairE (wl ws) pair = 0 := by unfold pairE; rw [hhas, if_neg (by simp), if_pos (by rw [e3]; exact e4)]
    refine c44 hm ?_
    rw [tB_bool]
    refine bnot_mk (fun hv => ?_) (fun hv => ?_)
    · have e : arrE (wl ws) pair mm key = 1 := by unfold arrE; rw [ep, if_neg (by simp), if_pos (.inl hv)]
      rw [e] at hE
      exact hE (by omega) σ [] Hh
    have hq : objM q ∈ progL t m W H root last ws c fr := P.win q (by rw [e1]; simp)
    refine ldm Hh hq rfl ?_
    rw [tI_int]
    refine c41 ?_
    rw [tB_bool]
    refine ldm Hh hq rfl ?_
    rw [tI_int]
    refine ⟨rfl, ?_⟩
    refine c41 ?_
    rw [tB_bool]
    refine bm_mk (fun g => ?_) (fun g => ?_)
    · have e : arrE (wl ws) pair mm key = 1 := by
        have hne : cols mm ≠ cols (ofL (wl ws) pair).m := by
          rw [e3]
          intro h
          rw [h] at g
          cases hc : cols q.2.2.m <;> rw [hc] at g <;> cases g
        unfold arrE
        rw [ep, if_neg (by simp), if_pos (.inr hne)]
      rw [e] at hE
      exact hE (by omega) σ [] Hh
    have hcc : cols mm = cols q.2.2.m := by
      cases h1 : cols mm <;> cases h2 : cols q.2.2.m <;> rw [h1, h2] at g <;> first | rfl | (simp at g)
    have eA : ∀ r : Bool, arrE (wl ws) pair mm key = (if key ≠ 0 ∧ (hasL (wl ws) key = false ∨ (ofL (wl ws) key).k = 4 ∨ belF (wl ws) 100 key pair = false) then 1 else 0) := by
      intro _
      unfold arrE
      rw [ep, if_neg (by simp), if_neg (by rw [e3, hv, hcc]; simp)]
    -- what is written
    have fin : ∀ σ1 new, arrE (wl ws) pair mm key = 0 → Has σ1 (new ++ progL t m W H root last ws c fr) →
        put1 σ1 ⟨q.1, 0 + 4, none⟩ (i64 mm) fun σ38 => put1 σ38 ⟨q.1, 0 + 5, none⟩ (u32 sz) fun σ40 => bmatch (key != 0) (put1 σ40 ⟨q.1, 0 + 6, none⟩ (i64 key) fun σ42 => K (i64 0) σ42) (K (i64 0) σ40) := by
      intro σ1 new e0 H1
      have H1' : Has σ1 (progL t m W H root last ws c (fr ++ new)) := by
        refine H1.perm ?_
        unfold progL
        rw [← List.append_assoc, ← List.cons_append, ← List.cons_append]
        exact List.perm_append_comm
      have back : ∀ {σ2 : AS} {ws2 : List PW}, Has σ2 (progL t m W H root last ws2 c (fr ++ new)) → Has σ2 (new ++ progL t m W H root last ws2 c fr) := by
        intro σ2 ws2 h
        refine h.perm ?_
        unfold progL
        rw [← List.append_assoc, ← List.cons_append, ← List.cons_append]
        exact List.perm_append_comm
      refine putWin (n0 := pair) (g := fun w => { w with m := mm }) (fun w => rfl) ok.srt e1 e2 (by decide) rfl H1' fun σ2 H2 => ?_
      have srt2 := srt_upd (n0 := pair) (g := fun w => { w with m := mm }) (fun w => rfl) ok.srt
      have hq2 : (q.1, q.2.1, { q.2.2 with m := mm }) ∈ ws.map (updN pair fun w => { w with m := mm }) := List.mem_map.2 ⟨q, by rw [e1]; simp, by unfold updN; rw [if_pos e2]⟩
      obtain ⟨k1, k2, f1⟩ := List.append_of_mem hq2
      refine putWin (q := (q.1, q.2.1, { q.2.2 with m := mm })) (n0 := pair) (g := fun w => { w with s := sz }) (fun w => rfl) srt2 f1 e2 (by decide) rfl H2 fun σ3 H3 => ?_
      have srt3 := srt_upd (n0 := pair) (g := fun w => { w with s := sz }) (fun w => rfl) srt2
      have hb3 : BornOk ws c → BornOk ((ws.map (updN pair fun w => { w with m := mm })).map (updN pair fun w => { w with s := sz })) c := fun h => born_upd _ _ (born_upd _ _ h)
      have pt : ∀ x : Win, updW pair (fun w => { w with s := sz }) (updW pair (fun w => { w with m := mm }) x) = if x.n = pair then { x with m := mm, s := sz } else x := by
        intro x
        unfold updW
        by_cases g : x.n = pair
        · simp [g]
        · simp [g]
      refine bne_mk (fun g => ?_) (fun g => ?_)
      · have hq3 : (q.1, q.2.1, { q.2.2 with m := mm, s := sz }) ∈ (ws.map (updN pair fun w => { w with m := mm })).map (updN pair fun w => { w with s := sz }) := List.mem_map.2 ⟨_, hq2, by unfold updN; rw [if_pos e2]⟩
        obtain ⟨k3, k4, f2⟩ := List.append_of_mem hq3
        refine putWin (q := (q.1, q.2.1, { q.2.2 with m := mm, s := sz })) (n0 := pair) (g := fun w => { w with key := key }) (fun w => rfl) srt3 f2 e2 (by decide) rfl H3 fun σ4 H4 => ?_
        refine hK e0 σ4 _ new ?_ (fun h => born_upd _ _ (hb3 h)) (back H4)
        rw [wl_updN, wl_updN, wl_updN]
        unfold arrL
        have gen : ∀ LL : List Win, ((LL.map (updW pair fun w => { w with m := mm })).map (updW pair fun w => { w with s := sz })).map (updW pair fun w => { w with key := key }) = LL.map (arrW pair mm sz key) := by
          intro LL
          rw [List.map_map, List.map_map]
          refine List.map_congr_left fun x _ => ?_
          simp only [Function.comp]
          rw [pt]
          unfold arrW updW
          by_cases h : x.n = pair
          · simp [h, g]
          · simp [h]
        exact gen _
      · refine hK e0 σ3 _ new ?_ hb3 (back H3)
        rw [wl_updN, wl_updN]
        unfold arrL
        have gen : ∀ LL : List Win, (LL.map (updW pair fun w => { w with m := mm })).map (updW pair fun w => { w with s := sz }) = LL.map (arrW pair mm sz key) := by
          intro LL
          rw [List.map_map]
          refine List.map_congr_left fun x _ => ?_
          simp only [Function.comp]
          rw [pt]
          unfold arrW
          by_cases h : x.n = pair
          · simp [h, g]
          · simp [h]
        exact gen _
    refine bne_mk (fun gk => ?_) (fun gk => ?_)
    · refine c18 Hh P ok.srt fun σ1 new1 H1 => ?_
      rw [tI_int]
      refine beq_mk (fun g4 => ?_) (fun g4 => ?_)
      · have e : arrE (wl ws) pair mm key = 1 := by rw [eA true, if_pos ⟨gk, .inr (.inl g4)⟩]
        rw [e] at hE
        exact hE (by omega) σ1 new1 H1
      obtain ⟨fs, s, a, hsn⟩ := ok.at_has hhas
      have hbl : (pre s).length ≤ 64 := by
        have h1 := (ok.perm.trans a.perm).length_eq
        have h2 := ok.len
        unfold pre
        rw [List.length_map]
        have : (s.wins 0).length = (s.wins (top fs)).length := by
          obtain ⟨r, h1, h2⟩ := wins_tail s 0 (top fs)
          rw [h1, h2]; rfl
        rw [List.length_append] at h1
        omega
      rw [← hsn]
      refine c46 (ys := []) (a := none) (e := 0) (fr := []) ok s fs a (.inl ⟨rfl, rfl, rfl⟩) H1 P.new (by simp; omega) fun σ2 a2 fr2 hs2 H2 => ?_
      rw [List.nil_append] at hs2 ⊢
      refine tL_ok hs2.no ?_
      refine c57 hs2 H2 (by omega) ?_
      rw [tB_bool]
      have hin : decide (key ∈ pre s) = (hasL (wl ws) key && belF (wl ws) 100 key pair) := by
        have hiff : key ∈ pre s ↔ hasL (wl ws) key = true ∧ belF (wl ws) 100 key pair = true := by
          rw [← hsn]
          unfold pre
          rw [wins_n s 0 (top fs)]
          constructor
          · intro h
            obtain ⟨w, hw, rfl⟩ := List.mem_map.1 h
            have hwL : w ∈ wl ws := (ok.perm.trans a.perm).mem_iff.2 (List.mem_append_left _ hw)
            exact ⟨hasL_iff.2 ⟨w, hwL, rfl⟩, (ok.bel a hwL).2 hw⟩
          · rintro ⟨h1, h2⟩
            obtain ⟨w, hw, rfl⟩ := hasL_iff.1 h1
            exact List.mem_map_of_mem ((ok.bel a hw).1 h2)
        rcases Decidable.em (key ∈ pre s) with h | h
        · rw [decide_eq_true h, (hiff.1 h).1, (hiff.1 h).2]; rfl
        · rw [decide_eq_false h]
          cases h1 : hasL (wl ws) key <;> cases h2 : belF (wl ws) 100 key pair <;> first | rfl | exact absurd (hiff.2 ⟨h1, h2⟩) h
      rw [hin]
      have H2' : Has σ2 ((fr2 ++ new1) ++ progL t m W H root last ws c fr) := by rw [List.append_assoc]; exact H2
      refine bnot_mk (fun g5 => ?_) (fun g5 => ?_)
      · have e : arrE (wl ws) pair mm key = 1 := by
          have hx : hasL (wl ws) key = false ∨ (ofL (wl ws) key).k = 4 ∨ belF (wl ws) 100 key pair = false := by
            cases h1 : hasL (wl ws) key
            · exact .inl rfl
            · rw [h1] at g5; exact .inr (.inr (by simpa using g5))
          rw [eA true, if_pos ⟨gk, hx⟩]
        rw [e] at hE
        exact hE (by omega) σ2 _ H2'
      · have e0 : arrE (wl ws) pair mm key = 0 := by
          rw [eA true, if_neg]
          rintro ⟨_, h | h | h⟩
          · rw [h] at g5; simp at g5
          · exact g4 h
          · rw [h] at g5; simp at g5
        have := fin σ2 _ e0 H2'
        have gk' : (key != 0) = true := by simpa using gk
        exact this
    · have e0 : arrE (wl ws) pair mm key = 0 := by rw [eA true, if_neg (fun h => h.1 gk)]
      exact fin σ [] e0 Hh)
-- a map's entries, one by one
theorem find_born {ws : List PW} (h : (ws.map (·.2.1)).Nodup) {q : PW} (hq : q ∈ ws) : (ws.map entM).find? (fun e => e.born == q.2.1) = some (entM q) := by
  induction ws with
  | nil => cases hq
  | cons r ws ih =>
    rw [List.map_cons, List.nodup_cons] at h
    rw [List.map_cons, List.find?_cons]
    by_cases e : r.2.1 = q.2.1
    · rcases List.mem_cons.1 hq with rfl | hq
      · simp [entM]
      · exact absurd (by rw [e]; exact List.mem_map_of_mem (f := fun q : PW => q.2.1) hq) h.1
    · have e' : ((entM r).born == q.2.1) = false := by simpa [entM] using e
      rw [e']
      rcases List.mem_cons.1 hq with rfl | hq
      · exact absurd rfl e
      · exact ih h.2 hq
theorem nodup_pw {ws : List PW} {c : Nat} (hb : BornOk ws c) : ws.Nodup := by
  have := hb.1
  rw [List.Nodup, List.pairwise_map] at this
  exact this.imp fun h e => h (by rw [e])
theorem mnext_m {j : Nat} {S R : List PW} {Y : List (Nat × AObj)} {G : Option (Value × Value) → AS → Prop} (Hh : Has σ ((j, .iter (some m) c (S.map (·.2.1)) c) :: Y)) (hm : (m, mapO ws c) ∈ Y) (hb : BornOk ws c) (hp : (S ++ R).Perm ws)
    (hQ : ∀ q R', R.Perm (q :: R') → ∀ σ', Has σ' ((j, .iter (some m) c ((S ++ [q]).map (·.2.1)) c) :: Y) → G (some (i64 q.2.2.n, ptr q.1)) σ') (hZ : R = [] → G none σ) : mnext σ j G := by
  unfold mnext
  rw [Hh.2 _ (List.mem_cons_self ..)]
  simp only
  unfold mapAt
  rw [Hh.2 _ (List.mem_cons_of_mem _ hm)]
  simp only
  have hnd := (hp.nodup_iff).2 (nodup_pw hb)
  have hnb : ((S ++ R).map (·.2.1)).Nodup := ((hp.map (·.2.1)).nodup_iff).2 hb.1
  have hun : ∀ q ∈ ws, unseen (S.map (·.2.1)) (entM q) = true ↔ q ∈ R := by
    intro q hq
    unfold unseen
    have : (entM q).born = q.2.1 := rfl
    rw [this, Bool.not_eq_true', List.contains_eq_mem, decide_eq_false_iff_not]
    constructor
    · intro h
      rcases List.mem_append.1 (hp.mem_iff.2 hq) with h' | h'
      · exact absurd (List.mem_map_of_mem (f := fun q : PW => q.2.1) h') h
      · exact h'
    · intro h h'
      rw [List.map_append, List.nodup_append] at hnb
      obtain ⟨r, hr, e⟩ := List.mem_map.1 h'
      exact hnb.2.2 _ (List.mem_map_of_mem (f := fun q : PW => q.2.1) hr) _ (List.mem_map_of_mem (f := fun q : PW => q.2.1) h) e
  refine chk_mk ?_ ?_
  · unfold iterOk
    cases hS : S with
    | nil => rfl
    | cons s S' =>
      have hsw : s ∈ ws := hp.mem_iff.1 (by rw [hS]; simp)
      have : (ws.map entM).any (fun e => Nat.blt e.born c) = true := List.any_eq_true.2 ⟨entM s, List.mem_map_of_mem hsw, by simpa [entM, Nat.blt_eq] using hb.2 s hsw⟩
      rw [this]
      simp
  · rw [mcase_iff]
    refine ⟨fun e he => ?_, fun h => ?_⟩
    · obtain ⟨he1, he2⟩ := List.mem_filter.1 he
      obtain ⟨q, hq, rfl⟩ := List.mem_map.1 he1
      have hqR := (hun q hq).1 he2
      obtain ⟨r1, r2, hr⟩ := List.append_of_mem hqR
      refine hQ q (r1 ++ r2) (by rw [hr]; exact List.perm_middle) _ ?_
      have := Hh.upd 0 rfl (.iter (some m) c ((S ++ [q]).map (·.2.1)) c)
      have e : (S.map (·.2.1)) ++ [(entM q).born] = (S ++ [q]).map (·.2.1) := by rw [List.map_append]; rfl
      rw [e]
      exact this
    · refine hZ ?_
      cases hR : R with
      | nil => rfl
      | cons r R' =>
        have hrw : r ∈ ws := hp.mem_iff.1 (by rw [hR]; simp)
        have h1 := (hun r hrw).2 (by rw [hR]; simp)
        have : ((ws.map entM).any fun e => unseen (S.map (·.2.1)) e && Nat.blt e.born c) = true := List.any_eq_true.2 ⟨entM r, List.mem_map_of_mem hrw, by
          rw [h1, Bool.true_and]
          simpa [entM, Nat.blt_eq] using hb.2 r hrw⟩
        rw [this] at h
        cases h
theorem mentry_m {j : Nat} {S : List PW} {q : PW} {Y : List (Nat × AObj)} {G : Value → Value → Prop} (Hh : Has σ ((j, .iter (some m) c ((S ++ [q]).map (·.2.1)) c) :: Y)) (hm : (m, mapO ws c) ∈ Y) (hb : BornOk ws c) (hq : q ∈ ws) (hG : G (i64 q.2.2.n) (ptr q.1)) : mentry σ j G := by
  unfold mentry
  rw [Hh.2 _ (List.mem_cons_self ..)]
  simp only
  have e : ((S ++ [q]).map (·.2.1)).getLast? = some q.2.1 := by rw [List.map_append]; simp
  rw [e]
  simp only
  rw [Hh.2 _ (List.mem_cons_of_mem _ hm)]
  simp only
  refine req_mk (by first | trivial | rfl) ?_
  have := find_born hb.1 hq
  rw [this]
  exact hG
theorem rngM_m {Y : List (Nat × AObj)} {G : Nat → AS → Prop} (Hh : Has σ Y) (hm : (m, mapO ws c) ∈ Y) (hG : ∀ j σ', Has σ' ((j, .iter (some m) c [] c) :: Y) → G j σ') : rngM σ (some m) G := by
  unfold rngM
  simp only
  unfold mapAt
  rw [Hh.2 _ hm]
  exact newAt_mk Hh hG
/-- All numbers, in order. -/
theorem c16 (Hh : Has σ X) (P : PIn t m W H root last ws c X) (hb : BornOk ws c) (hs : Srt (wl ws)) (hlen : ws.length ≤ 1000)
    (hK : ∀ σ' a new fr', SlR a 1 ((wl ws).map (·.n)) fr' → Has σ' (fr' ++ (new ++ X)) → K (.slice a (wl ws).length 1) σ') : Tri Try.prog 16 [ptr t] σ K := tri_in (by
  rw [s16]
  refine ldm Hh P.tree rfl ?_
  rw [tM_map]
  refine mlm Hh P.map ?_
  have hbo : bytesOf Try.prog 3 = 8 := by kernel_rfl
  rw [hbo]
  refine req_mk (by omega) (req_mk (by simp; omega) ?_)
  refine newAt_mk Hh fun i3 σ1 H1 => ?_
  refine ldm H1 P.cons.tree rfl ?_
  rw [tM_map]
  refine rngM_m H1 P.cons.map fun j σ2 H2 => ?_
  refine aloop (fun (p : List PW × List PW) rg σ => (p.1 ++ p.2).Perm ws ∧ ∃ a fr', SlR a 1 (p.1.map fun q => q.2.2.n) fr' ∧ Has σ (fr' ++ ((j, .iter (some m) c (p.1.map (·.2.1)) c) :: X)) ∧
    rg = [(3, some (.slice a p.1.length 1)), (17, some (ptr j))]) (fun p => p.2.length) ?_ (a := ([], ws)) ⟨by simp, some ⟨i3, 0, none⟩, [(i3, .row .rw [])], .inr ⟨i3, rfl, rfl, rfl⟩, H2.perm (.swap _ _ _), rfl⟩
  rintro ⟨S, R⟩ rg σ3 Y hY ⟨hp, a, fr', hsl, H3, rfl⟩
  simp only at hp hsl H3 ⊢
  rw [s16l]
  have H3' : Has σ3 ((j, .iter (some m) c (S.map (·.2.1)) c) :: (fr' ++ X)) := H3.perm List.perm_middle.symm
  have hmY : (m, mapO ws c) ∈ fr' ++ X := List.mem_append_right _ P.map
  have hSl : S.length ≤ 1000 := by have := hp.length_eq; rw [List.length_append] at this; omega
  refine mnext_m H3' hmY hb hp (fun q R' hR σ4 H4 => ?_) (fun hR => ?_)
  · have hqw : q ∈ ws := hp.mem_iff.1 (List.mem_append_right _ (hR.mem_iff.2 (List.mem_cons_self ..)))
    simp only [onNx]
    refine mentry_m H4 hmY hb hqw ?_
    rw [tI_int]
    have H4' : Has σ4 (fr' ++ ((j, .iter (some m) c ((S ++ [q]).map (·.2.1)) c) :: X)) := H4.perm List.perm_middle
    have el : S.length = (S.map fun q => q.2.2.n).length := by simp
    rw [el]
    refine pushI hsl H4' (by simp; omega) fun a' σ5 fr5 hs5 H5 => ?_
    refine hY (S ++ [q], R') _ _ ?_ ⟨?_, a', fr5, ?_, H5, ?_⟩
    · have := hR.length_eq; simp at this ⊢; omega
    · rw [List.append_assoc]
      exact ((List.Perm.refl S).append (by simpa using hR.symm)).trans hp
    · rw [List.map_append]; exact hs5
    · simp
  · subst hR
    rw [List.append_nil] at hp
    simp only [onNx]
    have hperm : ((wl ws).map (·.n)).Perm (S.map fun q => q.2.2.n) := by
      have := (hp.map fun q => q.2.2.n).symm
      unfold wl
      rw [List.map_map]
      exact this
    have hso := sort_eq hs hperm
    have hlS : S.length = (wl ws).length := by have := hp.length_eq; simp [wl]; exact this
    cases hS : S with
    | nil =>
      have hw0 : ws = [] := by rw [hS] at hp; exact List.nil_perm.1 hp
      subst hw0
      subst hS
      refine c39n ?_
      exact hK σ3 a [(j, _)] fr' hsl (by simpa using H3)
    | cons s S' =>
      rw [← hS]
      rcases hsl with ⟨_, h2, _⟩ | ⟨i, rfl, _, rfl⟩
      · rw [hS] at h2; cases h2
      · have H3a : Has σ3 ((i, .row .rw ((S.map fun q => q.2.2.n).map i64)) :: ((j, .iter (some m) c (S.map (·.2.1)) c) :: X)) := H3
        have el : S.length = (S.map fun q => q.2.2.n).length := by simp
        rw [el]
        refine c39 H3a rfl (by rw [hS]; simp) (by simp; omega) fun σ4 H4 => ?_
        rw [hso] at H4
        rw [← el, hlS]
        exact hK σ4 (some ⟨i, 0, none⟩) [(j, _)] [_] (.inr ⟨i, rfl, rfl, rfl⟩) H4)
end
end Go.AI
end
section
set_option linter.unusedSimpArgs false
set_option linter.unusedVariables false
set_option maxRecDepth 10000
/- A window closed: what the program does; no condition but those that each names. -/
namespace Go.AI
open Go.Proofs Go.Pane
section
variable {σ : AS} {K : Value → AS → Prop} {X : List (Nat × AObj)} {t m : Nat} {n W H root last : Int} {ws : List PW} {c : Nat} {tr : Option T} {fr : List (Nat × AObj)}
theorem pushI' {a : Option Addr} {e : Nat} {ys : List Int} {fr : List (Nat × AObj)} {v : Int} {G : Sl → AS → Prop} (hs : SlR a e ys fr) (Hh : Has σ (fr ++ X)) (hl : ys.length ≤ 1000000)
    (hG : ∀ a' σ' fr', SlR a' 1 (ys ++ [v]) fr' → Has σ' (fr' ++ X) → G ⟨a', (ys ++ [v]).length⟩ σ') :
    newAt σ (.row .rw [i64 v]) fun i0 σ1 => (lds σ1 ⟨i0, 0, none⟩ 1 fun l => appendTo σ1 1 8 ⟨a, ys.length⟩ l 1 G) := by
  have := pushI (G := G) hs Hh hl hG
  rw [sz3] at this
  exact (chk_elim this).2
theorem front {A : List (Nat × AObj)} (h : Has σ (A ++ progL t m W H root last ws c fr)) : Has σ (progL t m W H root last ws c (fr ++ A)) := by
  refine h.perm ?_
  unfold progL
  rw [← List.append_assoc, ← List.cons_append, ← List.cons_append]
  exact List.perm_append_comm
theorem unfront {A : List (Nat × AObj)} (h : Has σ (progL t m W H root last ws c (fr ++ A))) : Has σ (A ++ progL t m W H root last ws c fr) := by
  refine h.perm ?_
  unfold progL
  rw [← List.append_assoc, ← List.cons_append, ← List.cons_append]
  exact List.perm_append_comm
abbrev midL (t m : Nat) (W H root last : Int) (ws0 ws : List PW) (c : Nat) (fr : List (Nat × AObj)) : List (Nat × AObj) := (t, treeO W H root last m) :: (m, mapO ws c) :: (ws0.map objM ++ fr)
abbrev d28 : List Bool := [true, true, true, true, true, true, true, false, true, false]
abbrev k28 : List Bool := [true, true, true, true, true, true, true, true, false, true, false]
/-- The entries of those that are gone are struck. -/
theorem c28del {gs : List Int} {a : Option Addr} {frg : List (Nat × AObj)} (hs : Srt (wl ws)) (hsl : SlR a 1 gs frg) (hnd : gs.Nodup) (hin : ∀ g ∈ gs, hasL (wl ws) g = true) (hgl : gs.length ≤ 1000)
    (Hh : Has σ (frg ++ progL t m W H root last ws c fr))
    (hK : ∀ σ', Has σ' (frg ++ midL t m W H root last ws (ws.filter fun q => !decide (q.2.2.n ∈ gs)) c fr) →
      rngM σ' (some m) fun j σ10 => ALoop (fl Try.prog hintsS (Tri Try.prog) 28 k28 [] K) [(0, some (ptr t)), (7, some (.slice a gs.length 1)), (81, some (ptr j))] σ10) :
    ALoop (fl Try.prog hintsS (Tri Try.prog) 28 d28 [] K) [(0, some (ptr t)), (7, some (.slice a gs.length 1)), (65, some (.slice a gs.length 1)), (66, some (i64 gs.length)), (67, some (i64 0))] σ := by
  have h0 : Has σ (frg ++ midL t m W H root last ws (ws.filter fun q => !decide (q.2.2.n ∈ gs.take 0)) c fr) := by
    have : (ws.filter fun q => !decide (q.2.2.n ∈ gs.take 0)) = ws := by rw [List.filter_eq_self]; intro q _; simp
    rw [this]; exact Hh
  refine aloop (fun (k : Nat) rg σ => k ≤ gs.length ∧ Has σ (frg ++ midL t m W H root last ws (ws.filter fun q => !decide (q.2.2.n ∈ gs.take k)) c fr) ∧
    rg = [(0, some (ptr t)), (7, some (.slice a gs.length 1)), (65, some (.slice a gs.length 1)), (66, some (i64 gs.length)), (67, some (i64 k))]) (fun k => gs.length - k) ?_ (a := 0) ⟨Nat.zero_le _, h0, rfl⟩
  rintro k rg σ1 Y hY ⟨hk, H1, rfl⟩
  rw [s28l]
  have tm : (t, treeO W H root last m) ∈ frg ++ midL t m W H root last ws (ws.filter fun q => !decide (q.2.2.n ∈ gs.take k)) c fr := List.mem_append_right _ (List.mem_cons_self ..)
  refine bmd_mk (fun g => ?_) (fun g => ?_)
  · obtain ⟨x, hx⟩ : ∃ x, gs[k]? = some x := ⟨gs[k]'(by omega), by simp⟩
    have hne : gs ≠ [] := fun e => by rw [e] at g; simp at g; omega
    refine req_mk (by omega) (req_mk g ?_)
    rcases hsl with ⟨_, h2, _⟩ | ⟨i, rfl, _, rfl⟩
    · exact absurd h2 hne
    rw [pSome_some, sz3]
    refine req_mk rfl ?_
    rw [add_none, Int.toNat_natCast, Nat.mul_one, Nat.zero_add]
    refine ldm H1 (List.mem_append_left _ (List.mem_singleton.2 rfl)) (v := i64 x) (by simp [hx]) ?_
    rw [tI_int]
    refine ldm H1 tm rfl ?_
    rw [tM_map, pSome_some]
    have hxn : x ∉ gs.take k := by
      intro h
      obtain ⟨i', hi', e⟩ := List.getElem_of_mem h
      have hi2 : i' < k := by simp at hi'; omega
      have e1 : gs[i']? = some x := by
        rw [List.getElem_take] at e
        rw [List.getElem?_eq_getElem (by omega), e]
      exact absurd (nodup_intI hnd e1 hx) (by omega)
    obtain ⟨w, hw, hwx⟩ := hasL_iff.1 (hin x (List.mem_of_getElem? hx))
    obtain ⟨q, hq, rfl⟩ := List.mem_map.1 hw
    have hqf : q ∈ ws.filter fun q => !decide (q.2.2.n ∈ gs.take k) := List.mem_filter.2 ⟨hq, by simpa [hwx] using hxn⟩
    obtain ⟨l1, l2, hl⟩ := List.append_of_mem hqf
    have hsub : (wl (ws.filter fun q => !decide (q.2.2.n ∈ gs.take k))).Sublist (wl ws) := List.filter_sublist.map _
    have hsf : Srt (wl (l1 ++ q :: l2)) := by rw [← hl]; exact hs.sublist hsub
    obtain ⟨g1, g2⟩ := srt_split hsf
    have hf := find_at x l1 q l2 0 hwx (fun r hr => by rw [← hwx]; exact g1 r hr)
    rw [Nat.zero_add] at hf
    rw [hl] at H1
    refine mdel_mk H1 2 rfl hf fun σ2 H2 => ?_
    have e2 : IntKind.wrap .i64 ((k : Int) + 1) = ((k + 1 : Nat) : Int) := by rw [wrap64 (by omega) (by omega)]; omega
    rw [e2]
    refine hY (k + 1) _ _ (by omega) ⟨by omega, ?_, rfl⟩
    have ef : (ws.filter fun q => !decide (q.2.2.n ∈ gs.take (k + 1))) = l1 ++ l2 := by
      have : (fun q : PW => !decide (q.2.2.n ∈ gs.take (k + 1))) = fun q => (!decide (q.2.2.n = x)) && (!decide (q.2.2.n ∈ gs.take k)) := by
        funext r
        rw [List.take_add_one, hx]
        simp only [Option.toList_some, List.mem_append, List.mem_singleton]
        by_cases h1 : r.2.2.n = x <;> by_cases h2 : r.2.2.n ∈ gs.take k <;> simp [h1, h2]
      rw [this, ← List.filter_filter, hl, List.filter_append, List.filter_cons_of_neg (by simp [hwx])]
      congr 1
      · rw [List.filter_eq_self]; intro r hr; have := g1 r hr; rw [hwx] at this; simp [this]
      · rw [List.filter_eq_self]; intro r hr; have := g2 r hr; rw [hwx] at this; simp [this]
    rw [ef]
    have ee : ((l1 ++ q :: l2).map entM).eraseIdx l1.length = (l1 ++ l2).map entM := by
      rw [List.map_append, List.map_cons, List.eraseIdx_append_of_length_le (by simp)]
      simp
    rw [ee] at H2
    exact H2
  · have ek : k = gs.length := by omega
    subst ek
    rw [List.take_length] at H1 tm
    refine ldm H1 tm rfl ?_
    rw [tM_map]
    exact hK σ1 H1
where
  nodup_intI {l : List Int} (h : l.Nodup) {m n : Nat} {x : Int} (a : l[m]? = some x) (b : l[n]? = some x) : m = n := by
    induction l generalizing m n with
    | nil => simp at a
    | cons y l ih =>
      have ⟨h1, h2⟩ := List.nodup_cons.1 h
      cases m with
      | zero =>
        cases n with
        | zero => rfl
        | succ n => simp at a; subst a; exact absurd (List.mem_of_getElem? (by simpa using b)) h1
      | succ m =>
        cases n with
        | zero => simp at b; subst b; exact absurd (List.mem_of_getElem? (by simpa using a)) h1
        | succ n =>
          have a' : l[m]? = some x := by simpa using a
          have b' : l[n]? = some x := by simpa using b
          rw [ih h2 a' b']
def clrS (M : List Win) (S : List PW) (q : PW) : PW := if q.2.2.n ∈ S.map (fun r => r.2.2.n) then (q.1, q.2.1, clrW M q.2.2) else q
theorem ent_clrS (M : List Win) (S ws : List PW) : (ws.map (clrS M S)).map entM = ws.map entM := by
  rw [List.map_map]
  refine List.map_congr_left fun q _ => ?_
  unfold clrS entM
  simp only [Function.comp]
  split
  · simp only [clrW_n]
  · rfl
theorem srt_clrS {M : List Win} {S ws : List PW} (h : Srt (wl ws)) : Srt (wl (ws.map (clrS M S))) := by
  have : (wl (ws.map (clrS M S))).map (·.n) = (wl ws).map (·.n) := by
    unfold wl
    rw [List.map_map, List.map_map, List.map_map]
    refine List.map_congr_left fun q _ => ?_
    unfold clrS
    simp only [Function.comp]
    split
    · simp only [clrW_n]
    · rfl
  have h' : ((wl ws).map (·.n)).Pairwise fun x y => x < y := List.pairwise_map.2 h
  rw [← this] at h'
  exact List.pairwise_map.1 h'
/-- Keys that are gone are none any more. -/
theorem c28clr {gs : List Int} {a : Option Addr} {A : List (Nat × AObj)} (hs : Srt (wl ws)) (hb : BornOk ws c) (Hh : Has σ (A ++ progL t m W H root last ws c fr))
    (hK : ∀ σ' ws' j, wl ws' = (wl ws).map (clrW (wl ws)) → BornOk ws' c → Has σ' (j :: (A ++ progL t m W H root last ws' c fr)) → K (.tuple ⟨[.slice a gs.length 1, i64 0]⟩) σ') :
    rngM σ (some m) fun j σ10 => ALoop (fl Try.prog hintsS (Tri Try.prog) 28 k28 [] K) [(0, some (ptr t)), (7, some (.slice a gs.length 1)), (81, some (ptr j))] σ10 := by
  have P : PIn t m W H root last ws c (A ++ progL t m W H root last ws c fr) := pin_of.new
  refine rngM_m Hh P.map fun j σ1 H1 => ?_
  have e0 : ws.map (clrS (wl ws) []) = ws := by
    rw [List.map_congr_left (g := id) (fun q _ => by unfold clrS; rw [if_neg (by simp)]; rfl)]; simp
  refine aloop (fun (p : List PW × List PW) rg σ => (p.1 ++ p.2).Perm ws ∧ Has σ ((j, .iter (some m) c (p.1.map (·.2.1)) c) :: (A ++ progL t m W H root last (ws.map (clrS (wl ws) p.1)) c fr)) ∧
    rg = [(0, some (ptr t)), (7, some (.slice a gs.length 1)), (81, some (ptr j))]) (fun p => p.2.length) ?_ (a := ([], ws)) ⟨by simp, by simp only; rw [e0]; exact H1, rfl⟩
  rintro ⟨S, R⟩ rg σ2 Y hY ⟨hp, H2, rfl⟩
  simp only at hp H2
  rw [s28k]
  have eM : mapO (ws.map (clrS (wl ws) S)) c = mapO ws c := by unfold mapO; rw [ent_clrS]
  have P2 : PIn t m W H root last (ws.map (clrS (wl ws) S)) c (A ++ progL t m W H root last (ws.map (clrS (wl ws) S)) c fr) := pin_of.new
  have hm2 : (m, mapO ws c) ∈ A ++ progL t m W H root last (ws.map (clrS (wl ws) S)) c fr := by rw [← eM]; exact P2.map
  have hnb := ((hp.map fun q : PW => q.2.2.n).nodup_iff).2 (by have := nodup_n hs; unfold wl at this; rw [List.map_map] at this; exact this)
  refine mnext_m H2 hm2 hb hp (fun q R' hR σ3 H3 => ?_) (fun hR => ?_)
  · have hqR : q ∈ R := hR.mem_iff.2 (List.mem_cons_self ..)
    have hqw : q ∈ ws := hp.mem_iff.1 (List.mem_append_right _ hqR)
    have hqS : q.2.2.n ∉ S.map fun r => r.2.2.n := by
      intro h
      rw [List.map_append, List.nodup_append] at hnb
      exact hnb.2.2 _ h _ (List.mem_map_of_mem (f := fun q : PW => q.2.2.n) hqR) rfl
    simp only [onNx]
    refine mentry_m H3 hm2 hb hqw ?_
    rw [tP_ptr]
    have P3 := P2.cons (p := (j, .iter (some m) c ((S ++ [q]).map (·.2.1)) c))
    refine ldm H3 P3.tree rfl ?_
    rw [tM_map, pSome_some]
    have hqm : q ∈ ws.map (clrS (wl ws) S) := List.mem_map.2 ⟨q, hqw, by unfold clrS; rw [if_neg hqS]⟩
    refine ldm H3 (P3.win q hqm) rfl ?_
    rw [tI_int]
    have step : ∀ σ4, Has σ4 ((j, .iter (some m) c ((S ++ [q]).map (·.2.1)) c) :: (A ++ progL t m W H root last (ws.map (clrS (wl ws) (S ++ [q]))) c fr)) → Y [(0, some (ptr t)), (7, some (.slice a gs.length 1)), (81, some (ptr j))] σ4 := by
      intro σ4 H4
      refine hY (S ++ [q], R') _ _ (by have := hR.length_eq; simp at this ⊢; omega) ⟨?_, H4, rfl⟩
      simp only
      rw [List.append_assoc]
      exact ((List.Perm.refl S).append (by simpa using hR.symm)).trans hp
    have hun : ∀ x ∈ ws, x.2.2.n = q.2.2.n → x = q := by
      intro x hx e
      obtain ⟨l1, l2, hl⟩ := List.append_of_mem hqw
      have hs' := hs
      rw [hl] at hs' hx
      obtain ⟨g1, g2⟩ := srt_split hs'
      rcases List.mem_append.1 hx with h | h
      · exact absurd e (g1 x h)
      · rcases List.mem_cons.1 h with h | h
        · exact h
        · exact absurd e (g2 x h)
    rcases look hs q.2.2.key with ⟨l1, r, l2, f1, f2, f3, f4, f5, _⟩ | ⟨f3, f4, f5, _⟩
    · refine mgm H3 (List.mem_cons_of_mem _ hm2) f5 ?_
      simp only [Option.map_some, Option.getD_some, Option.isSome_some, Bool.not_true]
      rw [tP_ptr, bm_false]
      refine step σ3 ?_
      have : ws.map (clrS (wl ws) (S ++ [q])) = ws.map (clrS (wl ws) S) := by
        refine List.map_congr_left fun x hx => ?_
        unfold clrS
        by_cases g : x.2.2.n = q.2.2.n
        · have := hun x hx g
          subst this
          rw [if_pos (by simp), if_neg hqS]
          unfold clrW
          rw [if_pos f4]
        · have : (x.2.2.n ∈ (S ++ [q]).map fun r => r.2.2.n) ↔ (x.2.2.n ∈ S.map fun r => r.2.2.n) := by
            rw [List.map_append, List.mem_append]
            simp [g]
          by_cases g2 : x.2.2.n ∈ S.map fun r => r.2.2.n
          · rw [if_pos (this.2 g2), if_pos g2]
          · rw [if_neg (fun h => g2 (this.1 h)), if_neg g2]
      rw [this]
      exact H3
    · refine mgm H3 (List.mem_cons_of_mem _ hm2) f5 ?_
      simp only [Option.map_none, Option.getD_none, Option.isSome_none, Bool.not_false]
      rw [tP_ptr, bm_true, pSome_some]
      have H3f : Has σ3 (progL t m W H root last (ws.map (clrS (wl ws) S)) c (fr ++ ((j, .iter (some m) c ((S ++ [q]).map (·.2.1)) c) :: A))) := front (A := (j, _) :: A) H3
      obtain ⟨l1, l2, hl⟩ := List.append_of_mem hqm
      refine putWin (n0 := q.2.2.n) (g := fun w => { w with key := 0 }) (fun w => rfl) (srt_clrS hs) hl rfl (by show 0 + 6 < 7; decide) rfl H3f fun σ4 H4 => ?_
      refine step σ4 ?_
      have : ws.map (clrS (wl ws) (S ++ [q])) = (ws.map (clrS (wl ws) S)).map (updN q.2.2.n fun w => { w with key := 0 }) := by
        rw [List.map_map]
        refine List.map_congr_left fun x hx => ?_
        simp only [Function.comp]
        by_cases g : x.2.2.n = q.2.2.n
        · have := hun x hx g
          subst this
          have e1 : clrS (wl ws) S x = x := by unfold clrS; rw [if_neg hqS]
          rw [e1]
          unfold clrS updN
          rw [if_pos (by simp), if_pos rfl]
          unfold clrW
          rw [if_neg (by rw [f4]; simp)]
        · have hn : (clrS (wl ws) S x).2.2.n = x.2.2.n := by
            unfold clrS
            split
            · simp only [clrW_n]
            · rfl
          have : (x.2.2.n ∈ (S ++ [q]).map fun r => r.2.2.n) ↔ (x.2.2.n ∈ S.map fun r => r.2.2.n) := by
            rw [List.map_append, List.mem_append]
            simp [g]
          unfold updN
          rw [hn, if_neg g]
          unfold clrS
          by_cases g2 : x.2.2.n ∈ S.map fun r => r.2.2.n
          · rw [if_pos (this.2 g2), if_pos g2]
          · rw [if_neg (fun h => g2 (this.1 h)), if_neg g2]
      rw [this]
      exact unfront (A := (j, _) :: A) H4
  · subst hR
    rw [List.append_nil] at hp
    simp only [onNx]
    refine hK σ2 (ws.map (clrS (wl ws) S)) _ ?_ (born_map hb fun q => by unfold clrS; split <;> rfl) H2
    unfold wl
    rw [List.map_map, List.map_map]
    refine List.map_congr_left fun q hq => ?_
    simp only [Function.comp]
    have : q.2.2.n ∈ S.map fun r => r.2.2.n := List.mem_map_of_mem (f := fun q : PW => q.2.2.n) (hp.mem_iff.2 hq)
    unfold clrS
    rw [if_pos this]
theorem closeK_wl {win : Int} (ok : Ok (wl ws) last tr) {ws1 : List PW} (h1 : wl ws1 = if (ofL (wl ws) win).p = 0 then wl ws else (wl ws).map (turnW (ofL (wl ws) (ofL (wl ws) win).p).p (ofL (wl ws) win).p (sibL (wl ws) win))) :
    wl (ws1.filter fun q => !decide (q.2.2.n ∈ (goneL (wl ws) win).map (·.n))) = closeK (wl ws) win := by
  have e : wl (ws1.filter fun q => !decide (q.2.2.n ∈ (goneL (wl ws) win).map (·.n))) = (wl ws1).filter fun w => !decide (w.n ∈ (goneL (wl ws) win).map (·.n)) := by
    unfold wl
    rw [List.filter_map]
    rfl
  rw [e, h1]
  unfold closeK
  refine List.filter_congr fun w hw => ?_
  congr 1
  have key : ∀ v ∈ wl ws, decide (v.n ∈ (goneL (wl ws) win).map (·.n)) = outW (wl ws) win v := by
    intro v hv
    unfold goneL
    cases ho : outW (wl ws) win v with
    | true => exact decide_eq_true (List.mem_map_of_mem (List.mem_filter.2 ⟨hv, ho⟩))
    | false =>
      refine decide_eq_false fun h => ?_
      obtain ⟨u, hu, e⟩ := List.mem_map.1 h
      obtain ⟨hu1, hu2⟩ := List.mem_filter.1 hu
      have := srt_inj ok.srt hu1 hv e
      subst this
      rw [ho] at hu2
      cases hu2
  split at hw
  · exact key w hw
  · obtain ⟨v, hv, rfl⟩ := List.mem_map.1 hw
    rw [turnW_n, turn_out]
    exact key v hv
theorem clrT_plug_num (has : Int → Bool) (t : T) : (clrT has t).num = t.num := clrT_num has t
theorem c28 {win : Int} (ok : Ok (wl ws) last tr) (hb : BornOk ws c) (hr : root = rootL (wl ws)) (Hh : Has σ (progL t m W H root last ws c fr))
    (hE : hasL (wl ws) win = false → K (.tuple ⟨[.slice none 0 0, i64 5]⟩) σ)
    (hK : hasL (wl ws) win = true → ∀ σ' ws' root' a frg new, wl ws' = closeL (wl ws) win → root' = rootL (wl ws') → BornOk ws' c → SlR a 1 ((goneL (wl ws) win).map (·.n)) frg → Has σ' (frg ++ (new ++ progL t m W H root' last ws' c fr)) →
      K (.tuple ⟨[.slice a ((goneL (wl ws) win).map (·.n)).length 1, i64 0]⟩) σ') : Tri Try.prog 28 [ptr t, i64 win] σ K := tri_in (by
  rw [s28]
  have P : PIn t m W H root last ws c (progL t m W H root last ws c fr) := pin_of
  refine ldm Hh P.tree rfl ?_
  rw [tM_map]
  rcases look ok.srt win with ⟨l1, q, l2, e1, e2, e3, e4, e5, _⟩ | ⟨e3, e4, e5, _⟩
  rotate_left
  · refine mgm Hh P.map e5 ?_
    simp only [Option.map_none, Option.getD_none]
    rw [tP_ptr, ptrEq_none, bm_true]
    exact hE e4
  refine mgm Hh P.map e5 ?_
  simp only [Option.map_some, Option.getD_some]
  rw [tP_ptr, ptrEq_some, bm_false]
  obtain ⟨fs, s, a, hsn⟩ := ok.at_has e4
  have okc := ok.closed a
  rw [hsn] at okc
  have hp : q.2.2.p = top fs := by rw [← e3, ← hsn, ok.of_at a, T.win_p]
  have hpw : (ofL (wl ws) win).p = top fs := by rw [e3, hp]
  have gso := ok.gone_sort a
  rw [hsn] at gso
  have gpl : (goneT fs s).length ≤ 64 := by
    have h1 := (ok.gone_perm a).length_eq
    rw [← h1, List.length_map]
    exact Nat.le_trans (List.length_filter_le _ _) ok.len
  have hgl : ((goneL (wl ws) win).map (·.n)).length = (goneT fs s).length := by rw [← gso]; simp
  have hgn : ((goneL (wl ws) win).map (·.n)).Nodup := nodup_n (ok.srt.filter _)
  -- behind the join
  have tail : ∀ {σ1 : AS} {ws1 : List PW} {root1 : Int} {a1 : Option Addr} {frg new : List (Nat × AObj)}, BornOk ws1 c → Srt (wl ws1) → (wl ws1 = if (ofL (wl ws) win).p = 0 then wl ws else (wl ws).map (turnW (ofL (wl ws) (ofL (wl ws) win).p).p (ofL (wl ws) win).p (sibL (wl ws) win))) →
      root1 = rootL (closeL (wl ws) win) → SlR a1 1 (goneT fs s) frg → Has σ1 (frg ++ (new ++ progL t m W H root1 last ws1 c fr)) →
      jn Try.prog hintsS (Tri Try.prog) 28 [true, true, true, true, true] [] K [(0, some (ptr t)), (7, some (.slice a1 (goneT fs s).length 1))] σ1 := by
    intro σ1 ws1 root1 a1 frg new hb1 hs1 hw1 hr1 hsl H1
    rw [s28j]
    have hne : goneT fs s ≠ [] := by
      unfold goneT
      intro h
      have := List.append_eq_nil_iff.1 h
      have h2 := (List.map_eq_nil_iff.1 this.1)
      have := s.win_mem 0
      rw [h2] at this
      cases this
    rcases hsl with ⟨_, h2, _⟩ | ⟨j, rfl, _, rfl⟩
    · exact absurd h2 hne
    refine c39 H1 rfl hne (by omega) fun σ2 H2 => ?_
    have hwn : ∀ x ∈ (goneL (wl ws) win).map (·.n), hasL (wl ws1) x = true := by
      intro x hx
      obtain ⟨w, hw, rfl⟩ := List.mem_map.1 hx
      have hwL := (List.mem_filter.1 hw).1
      rw [hw1]
      split
      · exact hasL_iff.2 ⟨w, hwL, rfl⟩
      · rw [hasL_map (turnW_n _ _ _)]
        exact hasL_iff.2 ⟨w, hwL, rfl⟩
    rw [← hgl]
    have H2' : Has σ2 ([(j, .row .rw (((goneL (wl ws) win).map (·.n)).map i64))] ++ progL t m W H root1 last ws1 c (fr ++ new)) := by
      have e : (goneT fs s).mergeSort leI = (goneL (wl ws) win).map (·.n) := gso
      rw [e] at H2
      refine H2.perm (.cons _ ?_)
      have pp : ∀ (A B C : List (Nat × AObj)) (x y : Nat × AObj), (x :: y :: (A ++ (B ++ C))).Perm (C ++ (x :: y :: (A ++ B))) := by
        intro A B C x y
        rw [← List.append_assoc, ← List.cons_append, ← List.cons_append]
        exact List.perm_append_comm
      exact pp _ _ _ _ _
    refine c28del hs1 (.inr ⟨j, rfl, rfl, rfl⟩) hgn hwn (by omega) H2' fun σ3 H3 => ?_
    have hkw := closeK_wl ok hw1
    have hsk : Srt (wl (ws1.filter fun q => !decide (q.2.2.n ∈ (goneL (wl ws) win).map (·.n)))) := hs1.sublist (List.filter_sublist.map _)
    have hbk : BornOk (ws1.filter fun q => !decide (q.2.2.n ∈ (goneL (wl ws) win).map (·.n))) c := ⟨(List.filter_sublist.map _).nodup hb1.1, fun q hq => hb1.2 q (List.mem_filter.1 hq).1⟩
    have H3' : Has σ3 ([(j, .row .rw (((goneL (wl ws) win).map (·.n)).map i64))] ++ progL t m W H root1 last (ws1.filter fun q => !decide (q.2.2.n ∈ (goneL (wl ws) win).map (·.n))) c (fr ++ new)) := by
      refine H3.sub ?_
      refine .cons_cons _ (.cons_cons _ (.cons_cons _ ?_))
      exact (List.filter_sublist.map _).append (.refl _)
    refine c28clr hsk hbk H3' fun σ4 ws' jj hw' hb' H4 => ?_
    have hcl : wl ws' = closeL (wl ws) win := by rw [hw', hkw]; rfl
    refine hK e4 σ4 ws' root1 (some ⟨j, 0, none⟩) [(j, _)] (jj :: new) hcl (by rw [hcl]; exact hr1) hb' (.inr ⟨j, rfl, rfl, rfl⟩) ?_
    refine H4.perm ?_
    refine (List.Perm.cons _ (List.Perm.cons _ ?_)).trans (.swap _ _ _)
    unfold progL
    rw [← List.append_assoc, ← List.cons_append, ← List.cons_append]
    exact List.perm_append_comm
  rw [← hsn]
  have hpre : (pre s).length ≤ 64 := by unfold goneT at gpl; rw [List.length_append] at gpl; show ((s.wins 0).map (·.n)).length ≤ 64; omega
  refine c46 (ys := []) (a := none) (e := 0) (fr := []) ok s fs a (.inl ⟨rfl, rfl, rfl⟩) Hh P (by simp; omega) fun σ1 a1 fr1 hs1 H1 => ?_
  rw [List.nil_append] at hs1 ⊢
  refine tL_ok hs1.no ?_
  rw [pSome_some]
  have P1 : PIn t m W H root last ws c (fr1 ++ progL t m W H root last ws c fr) := P.new
  have hq1 : objM q ∈ fr1 ++ progL t m W H root last ws c fr := P1.win q (by rw [e1]; simp)
  refine ldm H1 hq1 rfl ?_
  rw [tI_int, hp]
  cases fs with
  | nil =>
    refine beq_mk (fun _ => ?_) (fun g => absurd rfl g)
    have H1f := front H1
    refine put1_mk H1f 0 rfl rfl (by simp) fun σ2 H2 => ⟨?_⟩
    have H2' : Has σ2 (fr1 ++ ([] ++ progL t m W H 0 last ws c fr)) := unfront (A := fr1) (fr := fr) (root := 0) (c := c) H2
    have eg : goneT [] s = pre s := by unfold goneT pre upN; simp
    have := tail (σ1 := σ2) (ws1 := ws) (root1 := 0) (a1 := a1) (frg := fr1) (new := []) hb ok.srt (by rw [hpw]; rfl) (by rw [okc.root]; rfl) (by rw [eg]; exact hs1) H2'
    rw [eg] at this
    exact this
  | cons f fs =>
    have et : top (f :: fs) = f.n := rfl
    have hfp := (ok.num_pos a.up).1
    rw [Fr.fill_num] at hfp
    rw [et]
    refine beq_mk (fun g => by omega) (fun _ => ?_)
    rw [pSome_some]
    refine ldm H1 hq1 rfl ?_
    rw [tI_int, hp, et]
    refine pushI' hs1 H1 (by omega) fun a2 σ2 fr2 hs2 H2 => ?_
    have eg : goneT (f :: fs) s = pre s ++ [f.n] := by unfold goneT pre upN; rfl
    rw [← eg] at hs2 ⊢
    have P2 : PIn t m W H root last ws c (fr2 ++ progL t m W H root last ws c fr) := P.new
    have hq2 : objM q ∈ fr2 ++ progL t m W H root last ws c fr := P2.win q (by rw [e1]; simp)
    refine ldm H2 P2.tree rfl ?_
    rw [tM_map, pSome_some]
    refine ldm H2 hq2 rfl ?_
    rw [tI_int, hp, et]
    have hfh : hasL (wl ws) f.n = true := by have := ok.has_at a.up; rwa [Fr.fill_num] at this
    obtain ⟨k1, r, k2, d1, d2, d3, d5⟩ := look_has ok.srt f.n hfh
    refine mgm H2 P2.map d5 ?_
    simp only [Option.map_some, Option.getD_some]
    rw [tP_ptr, pSome_some]
    have hr2 : objM r ∈ fr2 ++ progL t m W H root last ws c fr := P2.win r (by rw [d1]; simp)
    have hrp : r.2.2.p = top fs := by rw [← d3]; have := ok.of_at a.up; rw [Fr.fill_num] at this; rw [this, T.win_p]
    refine ldm H2 hr2 rfl ?_
    rw [tI_int, hrp, pSome_some]
    refine ldm H2 hq2 rfl ?_
    rw [tI_int, hp, et]
    refine c26 H2 P2 ok.srt fun σ3 new3 H3 => ?_
    rw [tI_int, ok.sib a]
    have P3 : PIn t m W H root last ws c (new3 ++ (fr2 ++ progL t m W H root last ws c fr)) := P2.new
    refine ldm H3 (P3.win q (by rw [e1]; simp)) rfl ?_
    rw [tI_int, hp, et]
    refine ⟨rfl, ?_⟩
    refine ldm H3 (P3.win r (by rw [d1]; simp)) rfl ?_
    rw [tI_int, hrp]
    refine ⟨rfl, ?_⟩
    refine mgm H3 P3.map d5 ?_
    simp only [Option.map_some, Option.getD_some]
    rw [tP_ptr]
    refine ⟨rfl, ?_⟩
    refine ldm H3 (P3.win q (by rw [e1]; simp)) rfl ?_
    rw [tI_int, hp, et]
    refine ⟨rfl, ?_⟩
    refine ldm H3 P3.tree rfl ?_
    rw [tM_map]
    refine ⟨rfl, ?_⟩
    have H3f : Has σ3 (progL t m W H root last ws c (fr ++ (new3 ++ fr2))) := front (by rw [List.append_assoc]; exact H3)
    have hsibh : hasL (wl ws) f.o.num = true := ok.has_at a.sib
    refine c45 ok.srt (fun x hx => by have := ok.rng _ (List.mem_map_of_mem (f := fun q : PW => q.2.2) hx); omega) hsibh ?_ (ok.sib_top a) H3f fun σ4 H4 => ⟨?_⟩
    · intro hne
      cases fs with
      | nil => exact absurd rfl hne
      | cons g fs =>
        have et2 : top (g :: fs) = g.n := rfl
        have hof := ok.of_at a.up.up
        rw [Fr.fill_num, Fr.fill_win] at hof
        have hh := ok.has_at a.up.up
        rw [Fr.fill_num] at hh
        rw [et2]
        refine ⟨hh, ?_⟩
        rw [hof]
        have hsd := ok.side_ne a.up
        unfold Fr.win
        cases g.side
        · exact hsd
        · exact Ne.symm hsd
    have H4' : Has σ4 (fr2 ++ (new3 ++ progL t m W H (if top fs = 0 then f.o.num else root) last (ws.map (turnN (top fs) f.n f.o.num)) c fr)) := by
      have := unfront H4
      refine this.perm ?_
      rw [← List.append_assoc]
      exact List.perm_append_comm.append_right _
    refine tail (ws1 := ws.map (turnN (top fs) f.n f.o.num)) (born_turn _ _ _ hb) ?_ ?_ ?_ hs2 H4'
    · rw [wl_turnN]; exact srt_map (fun w => turnW_n _ _ _ w) ok.srt
    · rw [hpw, et, if_neg (by omega), wl_turnN]
      have hs' := ok.sib a
      rw [hsn] at hs'
      rw [hs', d3, hrp]
    · rw [okc.root]
      show _ = (clrT _ (plug fs f.o)).num
      rw [clrT_num]
      cases fs with
      | nil => rw [if_pos (show top [] = 0 from rfl)]; rfl
      | cons g fs =>
        have hgp := (ok.num_pos a.up.up).1
        rw [Fr.fill_num] at hgp
        have et2 : top (g :: fs) = g.n := rfl
        rw [if_neg (by rw [et2]; omega), hr, ok.root, a]
        exact plug_num fs g _ _)
end
end Go.AI
end
