/- Lemmas of the abstract condition ahead of code (a part of the library that the claim's proof stands on); they hold with no condition but those that each names. -/
import Derived.Test.YtlofpopejkohbaaGreatAIQ6
set_option linter.unusedSimpArgs false
set_option linter.unusedVariables false
/- Calls, and the operations that write or make memory. -/
namespace Go.AI

/-- What stands behind what an operation leads to. -/
def After (P : Program) (nx : Next) (w : World) (R : Value → World → Prop) : Prop :=
  match nx with
  | .value cv => R cv w
  | .skip => R undef w
  | .enter f a => Calls P f a w fun e w' => ∃ cv, e = .returned cv ∧ R cv w'
  | _ => False

theorem After.mono {P : Program} {nx : Next} {w : World} {R S : Value → World → Prop} (h : After P nx w R) (hr : ∀ v w', R v w' → S v w') : After P nx w S := by
  cases nx <;> first | exact h.elim | exact hr _ _ h | skip
  exact Calls.mono h fun e w' ⟨cv, h1, h2⟩ => ⟨cv, h1, hr _ _ h2⟩

/-- A call of a function: in each world like this state it comes to an answer and a state of which K holds. -/
structure Tri (P : Program) (f : FuncId) (args : List Value) (σ : AS) (K : Value → AS → Prop) : Prop where
  run : ∀ (ρ : RM) (w : World) (cargs : List Value), VsRel ρ args cargs → Sim ρ w.heap σ →
    ∃ nx w1, (callFunc f ⟨cargs⟩).run P w = .ok nx w1 ∧ After P nx w1 fun cv w' => ∃ v ρ' σ', K v σ' ∧ VRel ρ' v cv ∧ Sim ρ' w'.heap σ' ∧ Step ρ w σ ρ' w' σ'

theorem Tri.mono {P : Program} {f : FuncId} {args : List Value} {σ : AS} {K K' : Value → AS → Prop} (h : Tri P f args σ K) (hk : ∀ v σ', K v σ' → K' v σ') : Tri P f args σ K' :=
  ⟨fun ρ w cargs ha hs => let ⟨nx, w1, h1, h2⟩ := h.run ρ w cargs ha hs
    ⟨nx, w1, h1, h2.mono fun _ _ ⟨v, ρ', σ', a, b⟩ => ⟨v, ρ', σ', hk _ _ a, b⟩⟩⟩

-- prims that write
def isIntV : Option Value → Bool
  | some (.int _ _) => true
  | _ => false
def rowAt (σ : AS) (i : Nat) (K : RK → List Value → Prop) : Prop := match σ i with | some (.row k cs) => K k cs | _ => False
def mapAt (σ : AS) (i : Nat) (K : List MapEntry → Nat → Prop) : Prop := match σ i with | some (.map es c) => K es c | _ => False
def newAt (σ : AS) (o : AObj) (K : Nat → AS → Prop) : Prop := K σ.n (σ.set σ.n o)
def put1 (σ : AS) (a : Addr) (v : Value) (K : AS → Prop) : Prop :=
  rowAt σ a.block fun k cs => chk k.own <| req (a.spot = none) <| req (a.off < cs.length) <| K (σ.set a.block (.row k (cs.set a.off v)))
def puts (σ : AS) (a : Addr) (vs : List Value) (K : AS → Prop) : Prop :=
  rowAt σ a.block fun k cs => chk k.own <| req (a.spot = none) <| req (a.off + vs.length ≤ cs.length) <| K (σ.set a.block (.row k (setCells cs a.off vs)))

/-- append: what the new slice is, and the state. -/
def appendTo (σ : AS) (size bytes : Nat) (s : Sl) (new : List Value) (m : Nat) (K : Sl → AS → Prop) : Prop :=
  req ((s.n + m) * bytes ≤ 140737488355328) <| match s.a with
    | none => (match m with | 0 => K ⟨none, 0⟩ σ | m + 1 => newAt σ (.row .rw new) fun j σ => K ⟨some ⟨j, 0, none⟩, m + 1⟩ σ)
    | some a => rowAt σ a.block fun k cs => chk k.own <| req (a.spot = none) <| req (a.off + s.n * size ≤ cs.length) <|
        K ⟨some ⟨σ.n, 0, none⟩, s.n + m⟩ ((σ.del a.block).set σ.n (.row .rw ((cs.drop a.off).take (s.n * size) ++ new)))

/-- The cells that a slice or a string tells. -/
def srcCells (σ : AS) (size : Nat) (x : Option Value) (K : Nat → List Value → Prop) : Prop :=
  match x with
  | some (.slice a n c) => (match a with | none => K 0 [] | some a => req (c = size) <| lds σ a (n * size) fun l => K n l)
  | some (.string s) => chk (Nat.beq size 1) (K s.size (s.data.toList.map fun b => .int .u8 b.toNat))
  | _ => False

def bytesOf (P : Program) (t : TypeId) : Nat := ((P.info? t).map (·.bytes)).getD 0

def aAppend (P : Program) (ts : List TypeId) (xs : Option (List Value)) (σ : AS) (K : Value → AS → Prop) : Prop :=
  match ts, xs with
  | [t, tx], some [.slice a n c, x] => match P.underlying t with
    | some (.slice e) => match P.underlying tx with
      | some (.int _) => False
      | some _ => pSome (zeroOf P e) fun z => chk (Nat.beq (valCells z).length (szOf P e)) <| chk (Nat.blt 0 (bytesOf P e)) <| chk (Nat.blt 0 (szOf P e)) <| chk (nilOr a c (szOf P e)) <| srcCells σ (szOf P e) (some x) fun m new =>
          appendTo σ (szOf P e) (bytesOf P e) ⟨a, n⟩ new m fun s σ => K (.slice s.a s.n (szOf P e)) σ
      | none => False
    | _ => False
  | _, _ => False

def mset (σ : AS) (d : TypeDesc) (i : Nat) (k v : Value) (K : AS → Prop) : Prop :=
  mapAt σ i fun es c => pSome (Instr.findNow d k es 0) fun x =>
    match x with
    | some (j, _) => K (σ.set i (.map (es.modify j fun e => { e with key := k, val := v }) c))
    | none => K (σ.set i (.map (es ++ [{ key := k, val := v, born := c }]) (c + 1)))
def mset2 (σ : AS) (kk : IntKind) (i : Nat) (k v : Value) (K : AS → Prop) : Prop :=
  pSome (int2 kk k) fun p => mapAt σ i fun es c => pSome (find2 kk p es 0) fun x =>
    match x with
    | some (j, _) => K (σ.set i (.map (es.modify j fun e => { e with key := k, val := v }) c))
    | none => K (σ.set i (.map (es ++ [{ key := k, val := v, born := c }]) (c + 1)))
def mdel (σ : AS) (d : TypeDesc) (i : Nat) (k : Value) (K : AS → Prop) : Prop :=
  mapAt σ i fun es c => pSome (Instr.findNow d k es 0) fun x =>
    match x with
    | some (j, _) => K (σ.set i (.map (es.eraseIdx j) c))
    | none => K σ

def unseen (seen : List Nat) (e : MapEntry) : Bool := !seen.contains e.born
def iterOk (es : List MapEntry) (seen : List Nat) (last : Nat) : Bool := seen.isEmpty || es.isEmpty || es.any fun e => Nat.blt e.born last
def allE : List MapEntry → (MapEntry → Prop) → Prop
  | [], _ => True
  | [e], K => K e
  | e :: es, K => K e ∧ allE es K
theorem allE_iff {K : MapEntry → Prop} : ∀ {c : List MapEntry}, allE c K ↔ ∀ e ∈ c, K e
  | [] => by simp [allE]
  | [e] => by simp [allE]
  | e :: f :: es => by
    have := allE_iff (K := K) (c := f :: es)
    simp only [allE]
    rw [this]
    simp
/-- Each of the entries may come; it may also end, if none has to come. -/
def mcase (c : List MapEntry) (must : Bool) (K : MapEntry → Prop) (Z : Prop) : Prop :=
  match must with
  | true => allE c K
  | false => (match c with | [] => Z | c => allE c K ∧ Z)
theorem mcase_iff {c : List MapEntry} {must : Bool} {K : MapEntry → Prop} {Z : Prop} : mcase c must K Z ↔ (∀ e ∈ c, K e) ∧ (must = false → Z) := by
  unfold mcase
  cases must with
  | true =>
    simp only [allE_iff]
    exact ⟨fun h => ⟨h, fun e => by cases e⟩, fun h => h.1⟩
  | false =>
    simp only
    split
    · exact ⟨fun h => ⟨fun e he => by simp at he, fun _ => h⟩, fun h => by simpa using h⟩
    · rw [allE_iff]
      exact ⟨fun h => ⟨h.1, fun _ => h.2⟩, fun h => by simpa using h⟩

def mnext (σ : AS) (j : Nat) (K : Option (Value × Value) → AS → Prop) : Prop :=
  match σ j with
  | some (.iter none _ _ _) => K none σ
  | some (.iter (some m) since seen last) => mapAt σ m fun es c => chk (iterOk es seen last) <|
      mcase (es.filter (unseen seen)) (es.any fun e => unseen seen e && Nat.blt e.born since) (fun e => K (some (e.key, e.val)) (σ.set j (.iter (some m) since (seen ++ [e.born]) c))) (K none σ)
  | _ => False

/-- The method that an interface value's call comes to, of plain receivers. -/
def methodOf (P : Program) (t : TypeId) (name : String) : Option FuncId :=
  match P.info? t with
  | some i => match i.methods.find? (·.name == name) with
    | some m => match m.path.toList, m.func with
      | [], some (f, p) => match P.underlying t, p with
        | some (.pointer _), true => some f
        | some (.pointer _), false => none
        | some _, false => some f
        | _, _ => none
      | _, _ => none
    | none => none
  | none => none

/-- What is known of calls. -/
abbrev Ct := FuncId → List Value → AS → (Value → AS → Prop) → Prop

def callV (T : Ct) (f : Value) (args : List Value) (σ : AS) (K : Value → AS → Prop) : Prop :=
  match f with
  | .func (.func f) a c => T f (a.toList ++ args ++ c.toList) σ K
  | _ => False

def callI (P : Program) (T : Ct) (x : Value) (name : String) (args : List Value) (σ : AS) (K : Value → AS → Prop) : Prop :=
  match x with
  | .iface t v => pSome (methodOf P t name) fun f => T f (v :: args) σ K
  | _ => False

def copyTo (σ : AS) (size : Nat) (a : Option Addr) (n m : Nat) (l : List Value) (K : Int → AS → Prop) : Prop :=
  match a with
  | none => K 0 σ
  | some a => puts σ a (l.take (min m n * size)) fun σ => K (min m n : Nat) σ
def clearTo (σ : AS) (a : Option Addr) (n : Nat) (z : List Value) (K : AS → Prop) : Prop :=
  match n with
  | 0 => K σ
  | n + 1 => pSome a fun a => puts σ a (List.replicate (n + 1) z).flatten K

/-- A map's iterator. -/
def rngM (σ : AS) (r : Option Nat) (K : Nat → AS → Prop) : Prop :=
  match r with
  | none => newAt σ (.iter none 0 [] 0) K
  | some m => mapAt σ m fun _ c => newAt σ (.iter (some m) c [] c) K
def onNx (r : Option (Value × Value)) (A : Value → Value → Prop) (B : Prop) : Prop := match r with | some (k, v) => A k v | none => B
/-- Operations that write, make memory or call. -/
def aC (P : Program) (T : Ct) (o : Op) (ty : TypeId) (ev : Operand → Option Value) (σ : AS) (K : Option Value → AS → Prop) : Prop :=
  match o with
  | .alloc e => pSome (zeroOf P e) fun z => newAt σ (.row .plain (valCells z)) fun i σ => K (some (.pointer (some ⟨i, 0, none⟩))) σ
  | .box e x => pSome (ev x) fun v => cellsAs P e v fun cs => newAt σ (.row .plain cs) fun i σ => K (some (.pointer (some ⟨i, 0, none⟩))) σ
  | .buildSlice t n parts => match P.underlying t with
    | some (.slice e) => pSome (zeroOf P e) fun z => chk (Nat.beq (valCells z).length (szOf P e)) <| chk (Nat.ble (n * szOf P e) 16777216) <|
        aFill P (fun i => some (e, i * szOf P e)) ev parts.toList (List.replicate n (valCells z)).flatten fun cs =>
          newAt σ (.row .rw cs) fun i σ => K (some (.slice (some ⟨i, 0, none⟩) n (szOf P e))) σ
    | _ => False
  | .store t a x => match ev a with
    | some (.pointer o) => pSome o fun a => pSome (ev x) fun v => (match isAggT P t with
      | true => cellsAs P t v fun cs => puts σ a cs fun σ => K none σ
      | false => chk (Nat.beq (szOf P t) 1) <| chk (oneC v) <| put1 σ a v fun σ => K none σ)
    | _ => False
  | .makeSlice t n c => match P.underlying t, ev n, ev c with
    | some (.slice e), some (.int _ n), some (.int _ c) => pSome (zeroOf P e) fun z => chk (Nat.beq (valCells z).length (szOf P e)) <| chk (Nat.blt 0 (szOf P e)) <| chk (Nat.blt 0 (bytesOf P e)) <|
        req (0 ≤ n) <| req (n ≤ c) <| req (c * bytesOf P e ≤ 140737488355328) <| newAt σ (.row .rw (List.replicate n.toNat (valCells z)).flatten) fun i σ => K (some (.slice (some ⟨i, 0, none⟩) n.toNat (szOf P e))) σ
    | _, _, _ => False
  | .makeMap t r => match P.underlying t with
    | some (.map _ _) => chk (match r with | none => true | some x => isIntV (ev x)) <| newAt σ (.map [] 0) fun i σ => K (some (.map (some i))) σ
    | _ => False
  | .mapUpdate t m k x => match P.underlying t, ev m with
    | some (.map kt _), some (.map r) => match P.underlying kt with
      | some d => (match scalarKey d with
        | true => pSome r fun i => pSome (ev k) fun k => pSome (ev x) fun v => mset σ d i k v fun σ => K none σ
        | false => pSome (key2 P kt) fun kk => pSome r fun i => pSome (ev k) fun k => pSome (ev x) fun v => mset2 σ kk i k v fun σ => K none σ)
      | none => False
    | _, _ => False
  | .range t x => match P.underlying t, ev x with
    | some .string, some (.string s) => newAt σ (.siter s 0) fun j σ => K (some (.pointer (some ⟨j, 0, none⟩))) σ
    | some (.map _ _), some (.map r) => rngM σ r fun j σ => K (some (.pointer (some ⟨j, 0, none⟩))) σ
    | _, _ => False
  | .next x isS => match ev x, isS with
    | some (.pointer (some a)), false => chk (Nat.beq a.off 0) <| mnext σ a.block fun r σ => onNx r (fun k v => K (some (.tuple ⟨[.bool true, k, v]⟩)) σ) (K (some (.tuple ⟨[.bool false]⟩)) σ)
    | some (.pointer (some a)), true => chk (Nat.beq a.off 0) <| (match σ a.block with
      | some (.siter s pos) => if pos < s.size then K (some (.tuple ⟨[.bool true, .int .i64 pos, .int .i32 (Utf8.decode s pos).1]⟩)) (σ.set a.block (.siter s (pos + (Utf8.decode s pos).2))) else K (some (.tuple ⟨[.bool false]⟩)) σ
      | _ => False)
    | _, _ => False
  | .call c => match c.callee with
    | .value f => pSome (evs ev c.args.toList) fun args => pSome (ev f) fun f => callV T f args σ fun v σ => tV (kdOf P ty) v fun v => K (some v) σ
    | .invoke x name => pSome (evs ev c.args.toList) fun args => pSome (ev x) fun x => callI P T x name args σ fun v σ => tV (kdOf P ty) v fun v => K (some v) σ
    | .builtin .append => aAppend P c.argTypes.toList (evs ev c.args.toList) σ fun v σ => K (some v) σ
    | .builtin .delete => match c.argTypes.toList, evs ev c.args.toList with
      | t :: _, some [.map r, k] => match P.underlying t with
        | some (.map kt _) => match P.underlying kt with
          | some d => chk (scalarKey d) <| pSome r fun i => mdel σ d i k fun σ => K none σ
          | none => False
        | _ => False
      | _, _ => False
    | .builtin .copy => match c.argTypes.toList, evs ev c.args.toList with
      | [t, _], some [.slice a n c, x] => match P.underlying t with
        | some (.slice e) => chk (P.info? e).isSome <| chk (nilOr a c (szOf P e)) <| srcCells σ (szOf P e) (some x) fun m l => copyTo σ (szOf P e) a n m l fun r σ => K (some (.int .i64 r)) σ
        | _ => False
      | _, _ => False
    | .builtin .clear => match c.argTypes.toList, evs ev c.args.toList with
      | [t], some [.slice a n c] => match P.underlying t with
        | some (.slice e) => pSome (zeroOf P e) fun z => chk (Nat.beq (valCells z).length (szOf P e)) <| chk (Nat.blt 0 (szOf P e)) <| chk (nilOr a c (szOf P e)) <| clearTo σ a n (valCells z) fun σ => K none σ
        | _ => False
      | _, _ => False
    | _ => False
  | _ => False

end Go.AI
