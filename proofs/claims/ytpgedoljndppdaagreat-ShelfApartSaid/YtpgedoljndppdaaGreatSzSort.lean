/- Lemmas of the abstract condition ahead of code (a part of the library that the claim's proof stands on); they hold with no condition but those that each names. -/
import Derived.Test.YtpgedoljndppdaaGreatSzSoft
import Derived.Test.YtpgedoljndppdaaGreatAISort
import Derived.Test.YtpgedoljndppdaaGreatAIJoin
import Derived.Test.YtpgedoljndppdaaGreatSzBase
import Derived.Shelf.Sort.Plain
import Derived.Shelf.Slices.In.SortNone
import Derived.Test.YtpgedoljndppdaaGreatSzProg
section
/- slices.Sort of names and of whole numbers puts them in order: what the kit has proved of it, at this program; no condition but those that each names. -/
namespace Go.AI
open Go.Proofs Go.Sort
def sortLaysS_ren : Go.Shelf.Ren := ⟨fun | 190 => 65 | 125 => 73 | 258 => 72 | 128 => 84 | 129 => 85 | 302 => 75 | 303 => 76 | 304 => 77 | 305 => 78 | 306 => 79 | 307 => 80 | 308 => 81 | 309 => 82 | 310 => 83 | 333 => 95 | 329 => 96 | 330 => 97 | 334 => 98 | 335 => 99 | 336 => 100 | 344 => 105 | n => n, fun | 31 => 109 | 9 => 9 | 3 => 3 | 46 => 141 | 0 => 0 | 51 => 54 | 53 => 154 | 4 => 4 | 183 => 145 | 182 => 144 | 131 => 150 | 5 => 5 | 218 => 161 | 222 => 165 | 228 => 170 | 229 => 74 | n => n, fun | n => n⟩
theorem sortLaysS : Go.Proofs.Lays.n190 Tryz.prog sortLaysS_ren := {
  mixed := (by kernel_rfl),
  f125 := Tryz.func73.trans (congrArg some (by kernel_rfl)),
  f128 := Tryz.func84.trans (congrArg some (by kernel_rfl)),
  f129 := Tryz.func85.trans (congrArg some (by kernel_rfl)),
  f190 := Tryz.func65.trans (congrArg some (by kernel_rfl)),
  f258 := Tryz.func72.trans (congrArg some (by kernel_rfl)),
  f302 := Tryz.func75.trans (congrArg some (by kernel_rfl)),
  f303 := Tryz.func76.trans (congrArg some (by kernel_rfl)),
  f304 := Tryz.func77.trans (congrArg some (by kernel_rfl)),
  f305 := Tryz.func78.trans (congrArg some (by kernel_rfl)),
  f306 := Tryz.func79.trans (congrArg some (by kernel_rfl)),
  f307 := Tryz.func80.trans (congrArg some (by kernel_rfl)),
  f308 := Tryz.func81.trans (congrArg some (by kernel_rfl)),
  f309 := Tryz.func82.trans (congrArg some (by kernel_rfl)),
  f310 := Tryz.func83.trans (congrArg some (by kernel_rfl)),
  f329 := Tryz.func96.trans (congrArg some (by kernel_rfl)),
  f330 := Tryz.func97.trans (congrArg some (by kernel_rfl)),
  f333 := Tryz.func95.trans (congrArg some (by kernel_rfl)),
  f334 := Tryz.func98.trans (congrArg some (by kernel_rfl)),
  f335 := Tryz.func99.trans (congrArg some (by kernel_rfl)),
  f336 := Tryz.func100.trans (congrArg some (by kernel_rfl)),
  f344 := Tryz.func105.trans (congrArg some (by kernel_rfl)),
  t0 := Tryz.underlying0,
  a0 := Tryz.isAgg0,
  z0 := Tryz.sizeOf0,
  v0 := Tryz.zeroValue0,
  t3 := Tryz.underlying3,
  a3 := Tryz.isAgg3,
  z3 := Tryz.sizeOf3,
  v3 := Tryz.zeroValue3,
  t4 := Tryz.underlying4,
  a4 := Tryz.isAgg4,
  z4 := Tryz.sizeOf4,
  v4 := Tryz.zeroValue4,
  t5 := Tryz.underlying5,
  a5 := Tryz.isAgg5,
  z5 := Tryz.sizeOf5,
  v5 := Tryz.zeroValue5,
  t9 := Tryz.underlying9,
  a9 := Tryz.isAgg9,
  z9 := Tryz.sizeOf9,
  v9 := Tryz.zeroValue9,
  t31 := Tryz.underlying109,
  a31 := Tryz.isAgg109,
  z31 := Tryz.sizeOf109,
  v31 := Tryz.zeroValue109,
  t46 := Tryz.underlying141,
  a46 := Tryz.isAgg141,
  z46 := Tryz.sizeOf141,
  v46 := Tryz.zeroValue141,
  t51 := Tryz.underlying54,
  a51 := Tryz.isAgg54,
  z51 := Tryz.sizeOf54,
  v51 := Tryz.zeroValue54,
  t53 := Tryz.underlying154,
  a53 := Tryz.isAgg154,
  z53 := Tryz.sizeOf154,
  v53 := Tryz.zeroValue154,
  t131 := Tryz.underlying150,
  a131 := Tryz.isAgg150,
  z131 := Tryz.sizeOf150,
  v131 := Tryz.zeroValue150,
  t182 := Tryz.underlying144,
  a182 := Tryz.isAgg144,
  z182 := Tryz.sizeOf144,
  v182 := Tryz.zeroValue144,
  t183 := Tryz.underlying145,
  a183 := Tryz.isAgg145,
  z183 := Tryz.sizeOf145,
  v183 := Tryz.zeroValue145,
  t218 := Tryz.underlying161,
  a218 := Tryz.isAgg161,
  z218 := Tryz.sizeOf161,
  v218 := Tryz.zeroValue161,
  t222 := Tryz.underlying165,
  a222 := Tryz.isAgg165,
  z222 := Tryz.sizeOf165,
  v222 := Tryz.zeroValue165,
  t228 := Tryz.underlying170,
  a228 := Tryz.isAgg170,
  z228 := Tryz.sizeOf170,
  v228 := Tryz.zeroValue170,
  t229 := Tryz.underlying74,
  a229 := Tryz.isAgg74,
  z229 := Tryz.sizeOf74,
  v229 := Tryz.zeroValue74 }
def sortLaysI_ren : Go.Shelf.Ren := ⟨fun | 189 => 66 | 125 => 73 | 257 => 74 | 128 => 84 | 129 => 85 | 294 => 86 | 295 => 87 | 296 => 88 | 297 => 89 | 298 => 90 | 299 => 91 | 216 => 92 | 300 => 93 | 301 => 94 | 328 => 101 | 329 => 96 | 330 => 97 | 331 => 102 | 332 => 103 | 215 => 104 | 343 => 106 | n => n, fun | 28 => 113 | 3 => 3 | 46 => 141 | 0 => 0 | 51 => 54 | 53 => 154 | 4 => 4 | 183 => 145 | 182 => 144 | 131 => 150 | 5 => 5 | 9 => 9 | 218 => 161 | 222 => 165 | 228 => 170 | 229 => 74 | n => n, fun | n => n⟩
theorem sortLaysI : Go.Proofs.Lays.n189 Tryz.prog sortLaysI_ren := {
  mixed := (by kernel_rfl),
  f125 := Tryz.func73.trans (congrArg some (by kernel_rfl)),
  f128 := Tryz.func84.trans (congrArg some (by kernel_rfl)),
  f129 := Tryz.func85.trans (congrArg some (by kernel_rfl)),
  f189 := Tryz.func66.trans (congrArg some (by kernel_rfl)),
  f215 := Tryz.func104.trans (congrArg some (by kernel_rfl)),
  f216 := Tryz.func92.trans (congrArg some (by kernel_rfl)),
  f257 := Tryz.func74.trans (congrArg some (by kernel_rfl)),
  f294 := Tryz.func86.trans (congrArg some (by kernel_rfl)),
  f295 := Tryz.func87.trans (congrArg some (by kernel_rfl)),
  f296 := Tryz.func88.trans (congrArg some (by kernel_rfl)),
  f297 := Tryz.func89.trans (congrArg some (by kernel_rfl)),
  f298 := Tryz.func90.trans (congrArg some (by kernel_rfl)),
  f299 := Tryz.func91.trans (congrArg some (by kernel_rfl)),
  f300 := Tryz.func93.trans (congrArg some (by kernel_rfl)),
  f301 := Tryz.func94.trans (congrArg some (by kernel_rfl)),
  f328 := Tryz.func101.trans (congrArg some (by kernel_rfl)),
  f329 := Tryz.func96.trans (congrArg some (by kernel_rfl)),
  f330 := Tryz.func97.trans (congrArg some (by kernel_rfl)),
  f331 := Tryz.func102.trans (congrArg some (by kernel_rfl)),
  f332 := Tryz.func103.trans (congrArg some (by kernel_rfl)),
  f343 := Tryz.func106.trans (congrArg some (by kernel_rfl)),
  t0 := Tryz.underlying0,
  a0 := Tryz.isAgg0,
  z0 := Tryz.sizeOf0,
  v0 := Tryz.zeroValue0,
  t3 := Tryz.underlying3,
  a3 := Tryz.isAgg3,
  z3 := Tryz.sizeOf3,
  v3 := Tryz.zeroValue3,
  t4 := Tryz.underlying4,
  a4 := Tryz.isAgg4,
  z4 := Tryz.sizeOf4,
  v4 := Tryz.zeroValue4,
  t5 := Tryz.underlying5,
  a5 := Tryz.isAgg5,
  z5 := Tryz.sizeOf5,
  v5 := Tryz.zeroValue5,
  t9 := Tryz.underlying9,
  a9 := Tryz.isAgg9,
  z9 := Tryz.sizeOf9,
  v9 := Tryz.zeroValue9,
  t28 := Tryz.underlying113,
  a28 := Tryz.isAgg113,
  z28 := Tryz.sizeOf113,
  v28 := Tryz.zeroValue113,
  t46 := Tryz.underlying141,
  a46 := Tryz.isAgg141,
  z46 := Tryz.sizeOf141,
  v46 := Tryz.zeroValue141,
  t51 := Tryz.underlying54,
  a51 := Tryz.isAgg54,
  z51 := Tryz.sizeOf54,
  v51 := Tryz.zeroValue54,
  t53 := Tryz.underlying154,
  a53 := Tryz.isAgg154,
  z53 := Tryz.sizeOf154,
  v53 := Tryz.zeroValue154,
  t131 := Tryz.underlying150,
  a131 := Tryz.isAgg150,
  z131 := Tryz.sizeOf150,
  v131 := Tryz.zeroValue150,
  t182 := Tryz.underlying144,
  a182 := Tryz.isAgg144,
  z182 := Tryz.sizeOf144,
  v182 := Tryz.zeroValue144,
  t183 := Tryz.underlying145,
  a183 := Tryz.isAgg145,
  z183 := Tryz.sizeOf145,
  v183 := Tryz.zeroValue145,
  t218 := Tryz.underlying161,
  a218 := Tryz.isAgg161,
  z218 := Tryz.sizeOf161,
  v218 := Tryz.zeroValue161,
  t222 := Tryz.underlying165,
  a222 := Tryz.isAgg165,
  z222 := Tryz.sizeOf165,
  v222 := Tryz.zeroValue165,
  t228 := Tryz.underlying170,
  a228 := Tryz.isAgg170,
  z228 := Tryz.sizeOf170,
  v228 := Tryz.zeroValue170,
  t229 := Tryz.underlying74,
  a229 := Tryz.isAgg74,
  z229 := Tryz.sizeOf74,
  v229 := Tryz.zeroValue74 }
theorem sz9 : szOf Tryz.prog 9 = 1 := by kernel_rfl
theorem sz3 : szOf Tryz.prog 3 = 1 := by kernel_rfl
abbrev leI (x y : Int) : Bool := decide (x ≤ y)
abbrev leS (x y : List UInt8) : Bool := decide (x ≤ y)
theorem enters66 (args : Array Value) (w : World) : (callFunc 66 args).run Tryz.prog w = .ok (.enter 66 args) w := callFunc_enter noGoS Tryz.func66 rfl args w
theorem enters65 (args : Array Value) (w : World) : (callFunc 65 args).run Tryz.prog w = .ok (.enter 65 args) w := callFunc_enter noGoS Tryz.func65 rfl args w
theorem sorts66 : SortsTo Tryz.prog 66 (Value.int .i64) (fun zs => zs.mergeSort leI) := fun blk off cap zs w h1 h2 h3 => Any.slices_Sort_int sortLaysI blk off cap zs w h1 h2 h3
theorem sorts65 : SortsTo Tryz.prog 65 encStr (fun zs => zs.mergeSort leS) := fun blk off cap zs w h1 h2 h3 => Any.slices_Sort_string sortLaysS blk off cap zs w h1 h2 h3
theorem c66 {σ : AS} {j : Nat} {k : RK} {zs : List Int} {X : List (Nat × AObj)} {K : Value → AS → Prop} (H : Has σ ((j, .row k (zs.map (.int .i64))) :: X)) (hk : k.own = true) (hne : zs ≠ []) (hbig : zs.length ≤ 1048576)
    (hK : ∀ σ', Has σ' ((j, .row k ((zs.mergeSort leI).map (.int .i64))) :: X) → K (.tuple ⟨[]⟩) σ') : Tri Tryz.prog 66 [.slice (some ⟨j, 0, none⟩) zs.length 1] σ K :=
  tri_sort enters66 sorts66 (fun zs => by simp) (fun ρ x cv h => by cases h; rfl) (fun ρ x => .int _ _) (fun x => rfl) H hk hne hbig hK
theorem c66n {σ : AS} {a : Option Addr} {e : Nat} {K : Value → AS → Prop} (hK : K (.tuple ⟨[]⟩) σ) : Tri Tryz.prog 66 [.slice a 0 e] σ K :=
  tri_sort_none enters66 (fun p cap w => Any.slices_Sort_int_none sortLaysI p cap w) hK
theorem c65 {σ : AS} {j : Nat} {k : RK} {zs : List (List UInt8)} {X : List (Nat × AObj)} {K : Value → AS → Prop} (H : Has σ ((j, .row k (zs.map encStr)) :: X)) (hk : k.own = true) (hne : zs ≠ []) (hbig : zs.length ≤ 1048576)
    (hK : ∀ σ', Has σ' ((j, .row k ((zs.mergeSort leS).map encStr)) :: X) → K (.tuple ⟨[]⟩) σ') : Tri Tryz.prog 65 [.slice (some ⟨j, 0, none⟩) zs.length 1] σ K :=
  tri_sort enters65 sorts65 (fun zs => by simp) (fun ρ x cv h => by cases h; rfl) (fun ρ x => .str _) (fun x => rfl) H hk hne hbig hK
theorem c65n {σ : AS} {a : Option Addr} {e : Nat} {K : Value → AS → Prop} (hK : K (.tuple ⟨[]⟩) σ) : Tri Tryz.prog 65 [.slice a 0 e] σ K :=
  tri_sort_none enters65 (fun p cap w => Any.slices_Sort_string_none sortLaysS p cap w) hK
end Go.AI
end
section
set_option linter.unusedSimpArgs false
set_option linter.unusedVariables false
set_option maxRecDepth 10000
/- The program: Names, Streams; no condition but those that each names. -/
namespace Go.AI
open Go.Proofs Go.Shelf Go.Sort
theorem le_total_b (a b : List UInt8) : a ≤ b ∨ b ≤ a := by
  by_cases h : a < b
  · exact .inl (List.le_of_lt h)
  · exact .inr (List.not_lt.1 h)
/-- Names in order are what the sort makes of them. -/
theorem sort_names {L : List (List UInt8)} {F : List Fi} (h : L.Perm (F.map (·.nm))) (hs : Srt F) : L.mergeSort leS = F.map (·.nm) := by
  have h1 : (L.mergeSort leS).Pairwise fun a b => leS a b = true := List.pairwise_mergeSort (fun a b c h1 h2 => by
    have h1 := of_decide_eq_true h1
    have h2 := of_decide_eq_true h2
    exact decide_eq_true (List.le_trans h1 h2)) (fun a b => by
    rcases le_total_b a b with h | h
    · simp [leS, h]
    · simp [leS, h]) L
  have h2 : (F.map (·.nm)).Pairwise fun a b => leS a b = true := by
    rw [List.pairwise_map]
    exact hs.imp fun h => decide_eq_true (List.le_of_lt h)
  refine List.Perm.eq_of_pairwise (le := fun a b => leS a b = true) (fun a b _ _ h1 h2 => List.le_antisymm (of_decide_eq_true h1) (of_decide_eq_true h2)) h1 h2 ((List.mergeSort_perm L leS).trans h)
theorem sort_ints {L : List Int} {S : List Sm} (h : L.Perm (S.map (·.n))) (hs : S.Pairwise fun x y => x.n < y.n) : L.mergeSort leI = S.map (·.n) := by
  have h1 : (L.mergeSort leI).Pairwise fun a b => leI a b = true := List.pairwise_mergeSort (fun a b c h1 h2 => by
    simp [leI] at *
    omega) (fun a b => by
    simp [leI]
    omega) L
  have h2 : (S.map (·.n)).Pairwise fun a b => leI a b = true := by
    rw [List.pairwise_map]
    exact hs.imp fun h => decide_eq_true (by omega)
  refine List.Perm.eq_of_pairwise (le := fun a b => leI a b = true) (fun a b _ _ h1 h2 => by simp [leI] at *; omega) h1 h2 ((List.mergeSort_perm L leI).trans h)
section
variable {σ : AS} {K : Value → AS → Prop} {fr X : List (Nat × AObj)} {s k B : Nat} {g : PG} {most last n mode : Int} {nm : List UInt8} {F : List Fi} {S : List Sm} {l : List Int} {a : Option Addr} {wd : Bool}
theorem c49 (hS : PSt s most last F S fr σ) (srt : Srt F) (flen : F.length ≤ 64)
    (hK : ∀ σ' a' rows, SlC 1 a' 1 ((F.map (·.nm)).map encStr) rows → PSt s most last F S (rows ++ fr) σ' → K (.slice a' F.length 1) σ') : Tri Tryz.prog 49 [ptr s] σ K := tri_in (by
  rw [s49]
  obtain ⟨g, hg, H⟩ := hS
  have lG := PG.lenG hg
  have hb : bytesOf Tryz.prog 9 = 16 := by kernel_rfl
  simp only [ldc_eq (H.at 0 rfl), mlen_eq (PG.hasf H), tM_map, pSome_some, List.getElem?_cons_zero, List.getElem?_cons_succ, Nat.zero_add]
  rw [List.length_map, lG]
  refine req_mk (by omega) (req_mk (by rw [hb]; omega) ?_)
  refine newAt_mk H fun i3 σ4 H4 => ?_
  simp only [ldc_eq (H4.at 1 rfl), tM_map, pSome_some, List.getElem?_cons_zero, List.getElem?_cons_succ]
  have hm : (g.f, AObj.map (g.G.map entF) g.cf) ∈ (s, g.O most last) :: (g.R ++ fr) := by unfold PG.R; simp
  refine rngM_m H4 (List.mem_cons_of_mem _ hm) fun j σ8 H8 => ?_
  refine aloop (fun (y : List PF × List PF) rg σ' => (y.1 ++ y.2).Perm g.G ∧ (∃ a' rows, SlC 1 a' 1 ((y.1.map fun r => r.f.nm).map encStr) rows ∧ Has σ' ((j, .iter (some g.f) g.cf (y.1.map fun x => (entF x).born) g.cf) :: (rows ++ ((s, g.O most last) :: (g.R ++ fr)))) ∧
    rg = [(3, some (.slice a' y.1.length 1)), (17, some (ptr j))])) (fun y => y.2.length) ?_ (a := ([], g.G)) ⟨by simp, _, _, SlC.row (j := i3), H8, rfl⟩
  rintro ⟨A, R⟩ rg σ1 Y hY ⟨hp, a', rows, hs, H1, rfl⟩
  rw [s49l]
  have hAR : A.length + R.length = g.G.length := by have := hp.length_eq; rw [List.length_append] at this; exact this
  refine mnext_m H1 (List.mem_append_right _ hm) hg.bF hp (fun q R' hR σ2 H2 => ?_) (fun hR => ?_)
  · have hqG : q ∈ g.G := hp.mem_iff.1 (List.mem_append_right _ (hR.mem_iff.2 (by simp)))
    have hp' : ((A ++ [q]) ++ R').Perm g.G := by
      rw [List.append_assoc]
      exact (hR.symm.append_left A).trans hp
    have hRl : R.length = R'.length + 1 := by
      have := hR.length_eq
      rw [List.length_cons] at this
      exact this
    simp only [onNx]
    refine mentry_m H2 (List.mem_append_right _ hm) hg.bF hqG ?_
    rw [sz9]
    simp only [entF, tS_str]
    refine pushC (X := (j, .iter (some g.f) g.cf ((A ++ [q]).map fun x => (entF x).born) g.cf) :: ((s, g.O most last) :: (g.R ++ fr))) hs (H2.sep (fun a => by simp only [cnt_app, cnt_cons]; omega)) (by simp) rfl (by omega) (by omega) fun a2 σ3 rows2 hs2 H3 => ?_
    have e : (A.map fun r => r.f.nm).map encStr ++ [Value.string (bsV q.f.nm)] = ((A ++ [q]).map fun r => r.f.nm).map encStr := by
      rw [List.map_append, List.map_append]; rfl
    rw [e] at hs2
    refine hY (A ++ [q], R') _ _ ?_ ⟨hp', a2, rows2, hs2, H3.sep (fun a => by simp only [cnt_app, cnt_cons]; omega), ?_⟩
    · show R'.length < R.length
      omega
    · simp
  · simp only [onNx]
    have hR : R = [] := hR
    subst hR
    rw [List.append_nil] at hp
    have hpn : (A.map fun r => r.f.nm).Perm (F.map (·.nm)) := by
      have h1 : (A.map fun r => r.f.nm).Perm (g.G.map fun r => r.f.nm) := hp.map _
      have h2 := hg.gF.map (·.nm)
      rw [List.map_map] at h2
      exact h1.trans h2
    have lA : A.length = F.length := by rw [← lG]; exact hp.length_eq
    rw [lA]
    by_cases h0 : A = []
    · have hF : F.length = 0 := by rw [← lA, h0]; rfl
      rw [hF]
      refine c65n ?_
      have hFn : F = [] := List.length_eq_zero_iff.1 hF
      rw [h0] at hs
      have := hK σ1 a' rows (by rw [hFn]; exact hs) ⟨g, hg, H1.sep (fun a => by simp only [cnt_app, cnt_cons]; omega)⟩
      rw [hF] at this
      exact this
    · obtain ⟨jj, q1, q2, q3⟩ := hs.at (p := 0) (by
        simp only [List.length_map]
        exact List.length_pos_iff.2 h0)
      subst q1
      have H2 : Has σ1 ((jj, .row .rw ((A.map fun r => r.f.nm).map encStr)) :: ((j, .iter (some g.f) g.cf (A.map fun x => (entF x).born) g.cf) :: ((s, g.O most last) :: (g.R ++ fr)))) := by
        rw [q3] at H1
        exact H1.sep (fun a => by simp only [cnt_app, cnt_cons, List.cons_append, List.nil_append]; omega)
      have := c65 (K := fun v12 σ13 => K (.slice (some ⟨jj, 0, none⟩) F.length 1) σ13) H2 rfl (by simpa using h0) (by simp only [List.length_map]; omega) (fun σ2 H3 => by
        rw [sort_names hpn srt] at H3
        exact hK σ2 _ _ (SlC.row (j := jj)) ⟨g, hg, H3.sep (fun a => by simp only [cnt_app, cnt_cons, List.cons_append, List.nil_append]; omega)⟩)
      rw [List.length_map, lA] at this
      exact this)
theorem c52 (hS : PSt s most last F S fr σ) (sn : S.Pairwise fun x y => x.n < y.n) (slen : S.length ≤ 64)
    (hK : ∀ σ' a' rows, SlC 1 a' 1 ((S.map (·.n)).map i64) rows → PSt s most last F S (rows ++ fr) σ' → K (.slice a' S.length 1) σ') : Tri Tryz.prog 52 [ptr s] σ K := tri_in (by
  rw [s52]
  obtain ⟨g, hg, H⟩ := hS
  have lQ := PG.lenQ hg
  have hb : bytesOf Tryz.prog 3 = 8 := by kernel_rfl
  simp only [ldc_eq (H.at 0 rfl), mlen_eq (PG.hasm H), tM_map, pSome_some, List.getElem?_cons_zero, List.getElem?_cons_succ, Nat.zero_add]
  rw [List.length_map, lQ]
  refine req_mk (by omega) (req_mk (by rw [hb]; omega) ?_)
  refine newAt_mk H fun i3 σ4 H4 => ?_
  simp only [ldc_eq (H4.at 1 rfl), tM_map, pSome_some, List.getElem?_cons_zero, List.getElem?_cons_succ]
  have hm : (g.m, AObj.map (g.Q.map entQ) g.cm) ∈ (s, g.O most last) :: (g.R ++ fr) := by unfold PG.R; simp
  refine rngM_m H4 (List.mem_cons_of_mem _ hm) fun j σ8 H8 => ?_
  refine aloop (fun (y : List PQ × List PQ) rg σ' => (y.1 ++ y.2).Perm g.Q ∧ (∃ a' rows, SlC 1 a' 1 ((y.1.map fun r => r.q.n).map i64) rows ∧ Has σ' ((j, .iter (some g.m) g.cm (y.1.map fun x => (entQ x).born) g.cm) :: (rows ++ ((s, g.O most last) :: (g.R ++ fr)))) ∧
    rg = [(3, some (.slice a' y.1.length 1)), (17, some (ptr j))])) (fun y => y.2.length) ?_ (a := ([], g.Q)) ⟨by simp, _, _, SlC.row (j := i3), H8, rfl⟩
  rintro ⟨A, R⟩ rg σ1 Y hY ⟨hp, a', rows, hs, H1, rfl⟩
  rw [s52l]
  have hAR : A.length + R.length = g.Q.length := by have := hp.length_eq; rw [List.length_append] at this; exact this
  refine mnext_m H1 (List.mem_append_right _ hm) hg.bQ hp (fun q R' hR σ2 H2 => ?_) (fun hR => ?_)
  · have hqG : q ∈ g.Q := hp.mem_iff.1 (List.mem_append_right _ (hR.mem_iff.2 (by simp)))
    have hp' : ((A ++ [q]) ++ R').Perm g.Q := by
      rw [List.append_assoc]
      exact (hR.symm.append_left A).trans hp
    have hRl : R.length = R'.length + 1 := by
      have := hR.length_eq
      rw [List.length_cons] at this
      exact this
    simp only [onNx]
    refine mentry_m H2 (List.mem_append_right _ hm) hg.bQ hqG ?_
    rw [sz3]
    simp only [entQ, tI_int]
    refine pushC (X := (j, .iter (some g.m) g.cm ((A ++ [q]).map fun x => (entQ x).born) g.cm) :: ((s, g.O most last) :: (g.R ++ fr))) hs (H2.sep (fun a => by simp only [cnt_app, cnt_cons]; omega)) (by simp) rfl (by omega) (by omega) fun a2 σ3 rows2 hs2 H3 => ?_
    have e : (A.map fun r => r.q.n).map i64 ++ [i64 q.q.n] = ((A ++ [q]).map fun r => r.q.n).map i64 := by
      rw [List.map_append, List.map_append]; rfl
    rw [e] at hs2
    refine hY (A ++ [q], R') _ _ ?_ ⟨hp', a2, rows2, hs2, H3.sep (fun a => by simp only [cnt_app, cnt_cons]; omega), ?_⟩
    · show R'.length < R.length
      omega
    · simp
  · simp only [onNx]
    have hR : R = [] := hR
    subst hR
    rw [List.append_nil] at hp
    have hpn : (A.map fun r => r.q.n).Perm (S.map (·.n)) := by
      have h1 : (A.map fun r => r.q.n).Perm (g.Q.map fun r => r.q.n) := hp.map _
      have h2 : (g.Q.map fun r => r.q.n) = S.map (·.n) := by rw [← hg.qS, List.map_map]; rfl
      rw [h2] at h1
      exact h1
    have lA : A.length = S.length := by rw [← lQ]; exact hp.length_eq
    rw [lA]
    by_cases h0 : A = []
    · have hF : S.length = 0 := by rw [← lA, h0]; rfl
      rw [hF]
      refine c66n ?_
      have hFn : S = [] := List.length_eq_zero_iff.1 hF
      rw [h0] at hs
      have := hK σ1 a' rows (by rw [hFn]; exact hs) ⟨g, hg, H1.sep (fun a => by simp only [cnt_app, cnt_cons]; omega)⟩
      rw [hF] at this
      exact this
    · obtain ⟨jj, q1, q2, q3⟩ := hs.at (p := 0) (by
        simp only [List.length_map]
        exact List.length_pos_iff.2 h0)
      subst q1
      have H2 : Has σ1 ((jj, .row .rw ((A.map fun r => r.q.n).map i64)) :: ((j, .iter (some g.m) g.cm (A.map fun x => (entQ x).born) g.cm) :: ((s, g.O most last) :: (g.R ++ fr)))) := by
        rw [q3] at H1
        exact H1.sep (fun a => by simp only [cnt_app, cnt_cons, List.cons_append, List.nil_append]; omega)
      have := c66 (K := fun v12 σ13 => K (.slice (some ⟨jj, 0, none⟩) S.length 1) σ13) H2 rfl (by simpa using h0) (by simp only [List.length_map]; omega) (fun σ2 H3 => by
        rw [sort_ints hpn sn] at H3
        have H4 : Has σ2 ((jj, .row .rw ((S.map (·.n)).map i64)) :: ((j, .iter (some g.m) g.cm (A.map fun x => (entQ x).born) g.cm) :: ((s, g.O most last) :: (g.R ++ fr)))) := H3
        exact hK σ2 _ _ (SlC.row (j := jj)) ⟨g, hg, H4.sep (fun a => by simp only [cnt_app, cnt_cons, List.cons_append, List.nil_append]; omega)⟩)
      rw [List.length_map, lA] at this
      exact this)
end
end Go.AI
end
