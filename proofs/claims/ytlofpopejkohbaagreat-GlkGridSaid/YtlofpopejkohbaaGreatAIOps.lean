/- The abstract answer of each operation that only looks (aQ), in the form of what is to hold of it: prims over plain data. -/
import Derived.Test.YtlofpopejkohbaaGreatAIHeap
namespace Go.AI

abbrev Regs := List (Nat × Option Value)
def rget : Regs → Nat → Option Value
  | [], _ => none
  | (k, v) :: r, t => match Nat.beq k t with | true => v | false => rget r t

/-- What an operation yields that is left out. -/
def uV : Value := .tuple ⟨[]⟩
def constOk : Value → Bool
  | .bool _ | .int .. | .string _ | .pointer none | .map none | .nilFunc | .nilIface => true
  | .slice none n c => match Nat.beq n 0 with | true => Nat.beq c 0 | false => false
  | _ => false

def aev (r : Regs) : Operand → Option Value
  | .tmp t => rget r t
  | .const v => match constOk v with | true => some v | false => none
  | .func f => some (.func (.func f) #[] #[])
  | .global _ => none

/-- A slice without its capacity. -/
structure Sl where
  a : Option Addr
  n : Nat

inductive Kd where
  | int (k : IntKind) | bool | str | ptr | sl (e : Nat) | map | ifc | any

def szOf (P : Program) (t : TypeId) : Nat := ((P.info? t).map (·.size)).getD 0

/-- The kinds of the cells of a type. -/
def kdCells (P : Program) : Nat → TypeId → List Kd
  | 0, _ => []
  | d + 1, t => match P.underlying t with
    | some .bool => [.bool]
    | some (.int k) => [.int k]
    | some .string => [.str]
    | some (.pointer _) => [.ptr]
    | some (.slice e) => [.sl (szOf P e)]
    | some (.map _ _) => [.map]
    | some (.interface _) => [.ifc]
    | some (.struct fs) => fs.toList.flatMap fun f => kdCells P d f.type
    | some (.array n e) => (List.replicate n (kdCells P d e)).flatten
    | _ => [.any]

inductive KT where
  | one (k : Kd)
  | agg (ks : List Kd)
def kdOf (P : Program) (t : TypeId) : KT :=
  match P.underlying t with
  | some (.struct _) | some (.array _ _) => .agg (kdCells P 12 t)
  | _ => match kdCells P 1 t with | [k] => .one k | _ => .one .any

def chk (b : Bool) (K : Prop) : Prop := match b with | true => K | false => False
def req (p : Prop) [h : Decidable p] (K : Prop) : Prop := match h with | .isTrue _ => K | .isFalse _ => False
theorem req_elim {p : Prop} [h : Decidable p] {K : Prop} (x : req p K) : p ∧ K := by
  unfold req at x
  cases h with
  | isTrue hp => exact ⟨hp, x⟩
  | isFalse _ => exact x.elim
theorem req_mk {p : Prop} [h : Decidable p] {K : Prop} (hp : p) (k : K) : req p K := by
  unfold req
  cases h with
  | isTrue _ => exact k
  | isFalse n => exact absurd hp n
theorem req_iff {p : Prop} [h : Decidable p] {K : Prop} : req p K ↔ p ∧ K := ⟨req_elim, fun ⟨a, b⟩ => req_mk a b⟩
theorem req2_elim {p q : Prop} [Decidable p] [Decidable q] {K : Prop} (x : req p (req q K)) : p ∧ q ∧ K := ⟨(req_elim x).1, req_elim (req_elim x).2⟩
theorem req3_elim {p q r : Prop} [Decidable p] [Decidable q] [Decidable r] {K : Prop} (x : req p (req q (req r K))) : p ∧ q ∧ r ∧ K := ⟨(req_elim x).1, req2_elim (req_elim x).2⟩
theorem req4_elim {p q r s : Prop} [Decidable p] [Decidable q] [Decidable r] [Decidable s] {K : Prop} (x : req p (req q (req r (req s K)))) : p ∧ q ∧ r ∧ s ∧ K := ⟨(req_elim x).1, req3_elim (req_elim x).2⟩
/-- A slice's part for its element's size. -/
def nilOr (a : Option Addr) (c e : Nat) : Bool := match Nat.beq c e with | true => true | false => match a with | none => true | some _ => false
theorem nilOr_elim {a : Option Addr} {c e : Nat} (h : nilOr a c e = true) : a = none ∨ c = e := by
  unfold nilOr at h
  cases hb : Nat.beq c e with
  | true => exact .inr (Nat.eq_of_beq_eq_true hb)
  | false =>
    rw [hb] at h
    cases a with
    | none => exact .inl rfl
    | some a => cases h
def ikEq : IntKind → IntKind → Bool
  | .i8, .i8 | .i16, .i16 | .i32, .i32 | .i64, .i64 | .u8, .u8 | .u16, .u16 | .u32, .u32 | .u64, .u64 => true
  | _, _ => false
theorem ikEq_eq {a b : IntKind} (h : ikEq a b = true) : a = b := by cases a <;> cases b <;> first | rfl | cases h
theorem ikEq_refl (a : IntKind) : ikEq a a = true := by cases a <;> rfl

-- prims: looks at a value
def tI (k : IntKind) (v : Value) (K : Int → Prop) : Prop := match v with | .int k' n => chk (ikEq k' k) (K n) | _ => False
def tB (v : Value) (K : Bool → Prop) : Prop := match v with | .bool b => K b | _ => False
def tS (v : Value) (K : ByteArray → Prop) : Prop := match v with | .string b => K b | _ => False
def tP (v : Value) (K : Option Addr → Prop) : Prop := match v with | .pointer b => K b | _ => False
def tM (v : Value) (K : Option Nat → Prop) : Prop := match v with | .map b => K b | _ => False
def tL (e : Nat) (v : Value) (K : Sl → Prop) : Prop := match v with | .slice a n c => chk (nilOr a c e) (K ⟨a, n⟩) | _ => False
def tIf (v : Value) (A : TypeId → Value → Prop) (B : Prop) : Prop := match v with | .iface t u => A t u | .nilIface => B | _ => False
def tCons (l : List Value) (K : Value → List Value → Prop) : Prop := match l with | v :: l => K v l | [] => False
def tNil (l : List Value) (K : Prop) : Prop := match l with | [] => K | _ => False
def tAgg (v : Value) (K : List Value → Prop) : Prop := match v with | .agg a => K a.toList | _ => False
def tTup (v : Value) (K : List Value → Prop) : Prop := match v with | .tuple a => K a.toList | _ => False
def pSome {α : Type} (o : Option α) (K : α → Prop) : Prop := match o with | some a => K a | none => False

theorem chk_mk {b : Bool} {K : Prop} (h : b = true) (k : K) : chk b K := by subst h; exact k
theorem pSome_mk {α : Type} {o : Option α} {a : α} {K : α → Prop} (h : o = some a) (k : K a) : pSome o K := by subst h; exact k
def tV1 : Kd → Value → (Value → Prop) → Prop
  | .int k, v, K => tI k v fun n => K (.int k n)
  | .bool, v, K => tB v fun b => K (.bool b)
  | .str, v, K => tS v fun b => K (.string b)
  | .ptr, v, K => tP v fun b => K (.pointer b)
  | .sl e, v, K => tL e v fun s => K (.slice s.a s.n e)
  | .map, v, K => tM v fun b => K (.map b)
  | .ifc, v, K => tIf v (fun t u => K (.iface t u)) (K .nilIface)
  | .any, v, K => K v
def tC : List Kd → List Value → (List Value → Prop) → Prop
  | [], l, K => tNil l (K [])
  | k :: ks, l, K => tCons l fun v l => tV1 k v fun v => tC ks l fun vs => K (v :: vs)
def tV : KT → Value → (Value → Prop) → Prop
  | .one k, v, K => tV1 k v K
  | .agg ks, v, K => tAgg v fun l => tC ks l fun vs => K (.agg ⟨vs⟩)

-- looks at the state
def AS.cell (σ : AS) (a : Addr) : Option Value :=
  match a.spot with
  | some _ => none
  | none => match σ a.block with
    | some (.row _ cs) => cs[a.off]?
    | _ => none
def AS.cells (σ : AS) (a : Addr) (n : Nat) : Option (List Value) :=
  match n with
  | 0 => some []
  | n + 1 => match a.spot with
    | some _ => none
    | none => match σ a.block with
      | some (.row _ cs) => if a.off + (n + 1) ≤ cs.length then some ((cs.drop a.off).take (n + 1)) else none
      | _ => none
def AS.ents (σ : AS) : Option Nat → Option (List MapEntry)
  | none => some []
  | some i => match σ i with | some (.map es _) => some es | _ => none
def AS.plainB (σ : AS) (i : Nat) : Bool := match σ i with | some (.row .plain _) => true | _ => false
def AS.plain (σ : AS) (i : Nat) : Prop := σ.plainB i = true
instance (σ : AS) (i : Nat) : Decidable (σ.plain i) := inferInstanceAs (Decidable (σ.plainB i = true))

def ldc (σ : AS) (a : Addr) (K : Value → Prop) : Prop := pSome (σ.cell a) K
def lds (σ : AS) (a : Addr) (n : Nat) (K : List Value → Prop) : Prop := pSome (σ.cells a n) K

/-- A map's look-up: the entry's value, if there is one. -/
def mget (σ : AS) (d : TypeDesc) (r : Option Nat) (k : Value) (K : Option Value → Prop) : Prop :=
  pSome (σ.ents r) fun es => pSome (Instr.findNow d k es 0) fun x => K (x.map (·.2))
def mlen (σ : AS) (r : Option Nat) (K : Int → Prop) : Prop := pSome (σ.ents r) fun es => K es.length

def ptrEq (σ : AS) (x y : Option Addr) (K : Bool → Prop) : Prop :=
  match y with
  | none => K x.isNone
  | some b => match x with
    | none => K false
    | some a => req (a.spot = none) <| req (b.spot = none) <| if a.block = b.block then K (decide (a.off = b.off)) else req (σ.plain a.block) <| req (σ.plain b.block) <| K false

def isIf : Value → Bool
  | .iface .. | .nilIface => true
  | _ => false
def isNilIf : Value → Bool
  | .nilIface => true
  | _ => false
def isFn : Value → Bool
  | .func .. | .nilFunc => true
  | _ => false
def isNilFn : Value → Bool
  | .nilFunc => true
  | _ => false

def iand (k : IntKind) (a b : Int) : Int := k.wrap (BitVec.ofInt k.bits a &&& BitVec.ofInt k.bits b).toNat
def ior (k : IntKind) (a b : Int) : Int := k.wrap (BitVec.ofInt k.bits a ||| BitVec.ofInt k.bits b).toNat
def ixor (k : IntKind) (a b : Int) : Int := k.wrap (BitVec.ofInt k.bits a ^^^ BitVec.ofInt k.bits b).toNat
def iandn (k : IntKind) (a b : Int) : Int := k.wrap (BitVec.ofInt k.bits a &&& ~~~ BitVec.ofInt k.bits b).toNat
def ishl (k : IntKind) (a b : Int) : Int := k.wrap (a * 2 ^ (min b.toNat k.bits))
def ishr (k : IntKind) (a b : Int) : Int := a.fdiv (2 ^ (min b.toNat k.bits))

/-- Two whole numbers. -/
def aInt (op : BinOp) (k : IntKind) (a : Int) (k' : IntKind) (b : Int) (K : Value → Prop) : Prop :=
  match op with
  | .shl => req (0 ≤ b) <| K (.int k (ishl k a b))
  | .shr => req (0 ≤ b) <| K (.int k (ishr k a b))
  | _ => match ikEq k k' with
    | false => False
    | true => match op with
      | .add => K (.int k (k.wrap (a + b)))
      | .sub => K (.int k (k.wrap (a - b)))
      | .mul => K (.int k (k.wrap (a * b)))
      | .quo => req (b ≠ 0) <| K (.int k (k.wrap (a.tdiv b)))
      | .rem => req (b ≠ 0) <| K (.int k (a.tmod b))
      | .and => K (.int k (iand k a b))
      | .or => K (.int k (ior k a b))
      | .xor => K (.int k (ixor k a b))
      | .andNot => K (.int k (iandn k a b))
      | .eql => K (.bool (a == b))
      | .neq => K (.bool (a != b))
      | .lss => K (.bool (decide (a < b)))
      | .leq => K (.bool (decide (a ≤ b)))
      | .gtr => K (.bool (decide (a > b)))
      | .geq => K (.bool (decide (a ≥ b)))
      | _ => False

def strEq (a b : ByteArray) : Bool := a.toList == b.toList
def strLt (a b : ByteArray) : Bool := Op.bytesLess a.toList b.toList
def aStr (op : BinOp) (a b : ByteArray) (K : Value → Prop) : Prop :=
  match op with
  | .add => req (a.size + b.size < 2 ^ 62) <| K (.string (a ++ b))
  | .eql => K (.bool (strEq a b))
  | .neq => K (.bool (!strEq a b))
  | .lss => K (.bool (strLt a b))
  | .leq => K (.bool (strLt a b || strEq a b))
  | .gtr => K (.bool (!(strLt a b || strEq a b)))
  | .geq => K (.bool (!strLt a b))
  | _ => False

def aNot (op : BinOp) (b : Bool) (K : Value → Prop) : Prop :=
  match op with
  | .eql => K (.bool b)
  | .neq => K (.bool (!b))
  | _ => False

/-- Structs of whole numbers and bools. -/
def eqC (P : Program) (t : TypeId) (x y : Option Value) : Option Bool :=
  match P.underlying t, x, y with
  | some (.int _), some (.int k a), some (.int k' b) => (match ikEq k k' with | true => some (a == b) | false => none)
  | some .bool, some (.bool a), some (.bool b) => some (a == b)
  | _, _, _ => none
def eqF (P : Program) : List Field → List Value → List Value → Option Bool
  | [], _, _ => some true
  | f :: fs, xs, ys => match f.name != "_", eqC P f.type xs[f.offset]? ys[f.offset]?, eqF P fs xs ys with
    | true, some a, some b => some (a && b)
    | _, _, _ => none

def aBin (P : Program) (op : BinOp) (t : TypeId) (x y : Option Value) (yc : Bool) (σ : AS) (K : Value → Prop) : Prop :=
  match x, y with
  | some (.int k a), some (.int k' b) => aInt op k a k' b K
  | some (.string a), some (.string b) => aStr op a b K
  | some (.bool a), some (.bool b) => match P.underlying t with | some .bool => aNot op (a == b) K | _ => False
  | some (.pointer a), some (.pointer b) => match P.underlying t with
    | some (.pointer e) => match Nat.beq (szOf P e) 0 with | true => False | false => ptrEq σ a b fun r => aNot op r K
    | _ => False
  | some (.slice a _ _), some (.slice none _ _) => match P.underlying t with | some (.slice _) => aNot op a.isNone K | _ => False
  | some (.map a), some (.map none) => match P.underlying t with | some (.map _ _) => aNot op a.isNone K | _ => False
  | some (.agg a), some (.agg b) => match P.underlying t with
    | some (.struct fs) => chk (!P.stoodInHeld t) <| chk (!P.eqGuardType P.depth t) <| pSome (eqF P fs.toList a.toList b.toList) fun r => aNot op r K
    | _ => False
  | some v, some .nilIface => match P.underlying t with | some (.interface _) => (match yc with | true => chk (isIf v) <| aNot op (isNilIf v) K | false => False) | _ => False
  | some v, some .nilFunc => match P.underlying t with | some (.func _ _ _) => chk (isFn v) <| aNot op (isNilFn v) K | _ => False
  | _, _ => False

def aUn (op : UnOp) (x : Option Value) (K : Value → Prop) : Prop :=
  match op, x with
  | .not, some (.bool b) => K (.bool !b)
  | .neg, some (.int k n) => K (.int k (k.wrap (0 - n)))
  | .xor, some (.int k n) => K (.int k (ixor k (if k.signed then -1 else k.max) n))
  | _, _ => False

def byteOf? : Value → Option UInt8
  | .int .u8 n => some (UInt8.ofNat n.toNat)
  | _ => none
def bytesOf? : List Value → Option (List UInt8)
  | [] => some []
  | v :: vs => match byteOf? v with
    | some b => match bytesOf? vs with | some bs => some (b :: bs) | none => none
    | none => none
/-- The bytes of a slice. -/
def bts (σ : AS) (s : Sl) (K : List UInt8 → Prop) : Prop :=
  match s.a with
  | none => K []
  | some a => lds σ a s.n fun l => pSome (bytesOf? l) K

def aConv (P : Program) (s d : TypeId) (x : Option Value) (σ : AS) (K : Value → Prop) : Prop :=
  match P.underlying s, P.underlying d, x with
  | some _, some (.int k), some (.int _ n) => K (.int k (k.wrap n))
  | some .string, some .string, some (.string b) => K (.string b)
  | some (.slice e), some .string, some (.slice a n _) => match P.underlying e with
    | some (.int .u8) => bts σ ⟨a, n⟩ fun l => K (.string ⟨l.toArray⟩)
    | _ => False
  | _, _, _ => False

def oInt (ev : Operand → Option Value) (x : Option Operand) (d : Int) (K : Int → Prop) : Prop :=
  match x with
  | none => K d
  | some o => match ev o with | some (.int _ n) => K n | _ => False

/-- An address so many cells on. -/
def aadd (a : Addr) (n : Nat) : Addr := match a.spot with
  | none => ⟨a.block, a.off + n, none⟩
  | some _ => a.add n
theorem aadd_eq (a : Addr) (n : Nat) : aadd a n = a.add n := by
  unfold aadd Addr.add
  cases h : a.spot with
  | none =>
    simp only
    split
    · rename_i e
      obtain ⟨b, o, s⟩ := a
      simp only at h ⊢
      rw [h, e]; rfl
    · rfl
  | some s => rfl
theorem aadd_none (b o n : Nat) : aadd ⟨b, o, none⟩ n = ⟨b, o + n, none⟩ := rfl
/-- How long a slice may be made: as long as it is, or as far as the row goes that it lies on. -/
def capLo (σ : AS) (a : Option Addr) (e n : Nat) : Nat :=
  match a with
  | none => n
  | some a => match σ a.block with
    | some (.row .rw cs) => Nat.max n ((cs.length - a.off) / e)
    | _ => n

def aSlice (P : Program) (σ : AS) (ev : Operand → Option Value) (t : TypeId) (x : Operand) (lo hi mx : Option Operand) (K : Value → Prop) : Prop :=
  match P.underlying t, ev x, mx with
  | some .string, some (.string s), none => oInt ev lo 0 fun l => oInt ev hi s.size fun h => req (0 ≤ l) <| req (l ≤ h) <| req (h ≤ s.size) <| K (.string (s.extract l.toNat h.toNat))
  | some (.slice e), some (.slice a n c), none => oInt ev lo 0 fun l => oInt ev hi n fun h => req (0 ≤ l) <| req (l ≤ h) <| req (h ≤ (capLo σ a c n : Nat)) <| chk (nilOr a c (szOf P e)) <|
      chk (P.info? e).isSome (K (.slice (a.map fun x => aadd x (l.toNat * szOf P e)) (h - l).toNat (szOf P e)))
  | _, _, _ => False

def fieldOf (P : Program) (t : TypeId) (i : Nat) : Option Field :=
  match P.underlying t with
  | some (.struct fs) => fs[i]?
  | _ => none

def isAggT (P : Program) (t : TypeId) : Bool := match P.underlying t with | some (.struct _) | some (.array _ _) => true | _ => false

/-- A part of a struct's or an array's cells. -/
def aPart (P : Program) (t : TypeId) (cs : List Value) (off : Nat) (K : Value → Prop) : Prop :=
  match isAggT P t with
  | true => match Nat.ble (off + szOf P t) cs.length with | true => K (.agg ⟨(cs.drop off).take (szOf P t)⟩) | false => False
  | false => pSome cs[off]? K

def allOk : List Value → Bool
  | [] => true
  | v :: vs => match constOk v with | true => allOk vs | false => false
def zOk : Value → Bool
  | .agg a => allOk a.toList
  | v => constOk v
def zeroOf (P : Program) (t : TypeId) : Option Value :=
  match (P.info? t).bind (·.zero) with
  | some z => match zOk z with | true => some z | false => none
  | none => none

def tyAs (v : Value) (t : TypeId) (K : Option Value → Prop) : Prop :=
  match v with
  | .iface u x => match Nat.beq u t with | true => K (some x) | false => K none
  | .nilIface => K none
  | _ => False

def aLoad (P : Program) (t : TypeId) (a : Addr) (σ : AS) (K : Value → Prop) : Prop :=
  match P.underlying t with
  | none => False
  | some _ => match isAggT P t with
    | false => ldc σ a fun v => tV (kdOf P t) v K
    | true => lds σ a (szOf P t) fun l => tC (kdCells P 12 t) l fun vs => K (.agg ⟨vs⟩)

def scalarKey : TypeDesc → Bool
  | .int _ | .string | .bool => true
  | _ => false

/-- Keys that are two numbers of a kind. -/
def key2 (P : Program) (kt : TypeId) : Option IntKind :=
  match P.underlying kt with
  | some (.array n et) => (match P.underlying et with
    | some (.int k) => (match Nat.beq n 2 with | true => (match Nat.beq (szOf P et) 1 with | true => some k | false => none) | false => none)
    | _ => none)
  | _ => none
def int2 (k : IntKind) (v : Value) : Option (Int × Int) :=
  match v with
  | .agg ⟨[.int j a, .int j' b]⟩ => (match ikEq j k with | true => (match ikEq j' k with | true => some (a, b) | false => none) | false => none)
  | _ => none
def find2 (k : IntKind) (p : Int × Int) : List MapEntry → Nat → Option (Option (Nat × Value))
  | [], _ => some none
  | e :: es, i => match int2 k e.key with
    | some q => if p = q then some (some (i, e.val)) else find2 k p es (i + 1)
    | none => none
def mget2 (σ : AS) (k : IntKind) (r : Option Nat) (kv : Value) (K : Option Value → Prop) : Prop :=
  pSome (int2 k kv) fun p => pSome (σ.ents r) fun es => pSome (find2 k p es 0) fun x => K (x.map (·.2))
def aLookup (P : Program) (t : TypeId) (x k : Option Value) (ok : Bool) (σ : AS) (K : Value → Prop) : Prop :=
  match P.underlying t, x, k with
  | some (.map kt et), some (.map r), some kv => match zeroOf P et with
    | some z => match P.underlying kt with
      | some d => (match scalarKey d with
        | true => mget σ d r kv fun o => tV (kdOf P et) (o.getD z) fun v => match ok with | true => K (.tuple ⟨[v, .bool o.isSome]⟩) | false => K v
        | false => pSome (key2 P kt) fun kk => mget2 σ kk r kv fun o => tV (kdOf P et) (o.getD z) fun v => match ok with | true => K (.tuple ⟨[v, .bool o.isSome]⟩) | false => K v)
      | none => False
    | none => False
  | _, _, _ => False

def aAssert (P : Program) (x : Option Value) (t : TypeId) (ok : Bool) (K : Value → Prop) : Prop :=
  match P.underlying t, x, ok with
  | some (.interface _), _, _ => False
  | some _, some v, true => match zeroOf P t with
    | some z => tyAs v t fun o => tV (kdOf P t) (o.getD z) fun u => K (.tuple ⟨[u, .bool o.isSome]⟩)
    | none => False
  | _, _, _ => False

def evs (ev : Operand → Option Value) : List Operand → Option (List Value)
  | [] => some []
  | x :: xs => match ev x with
    | some v => match evs ev xs with | some vs => some (v :: vs) | none => none
    | none => none

def aLen (P : Program) (t : TypeId) (x : Option Value) (σ : AS) (K : Value → Prop) : Prop :=
  match P.underlying t, x with
  | some .string, some (.string s) => K (.int .i64 s.size)
  | some (.array n _), some _ => K (.int .i64 n)
  | some (.slice _), some (.slice _ n _) => K (.int .i64 n)
  | some (.map _ _), some (.map r) => mlen σ r fun n => K (.int .i64 n)
  | some (.pointer t), some _ => match P.underlying t with | some (.array n _) => K (.int .i64 n) | _ => False
  | _, _ => False

def imin (x y : Int) : Int := if y < x then y else x
def imax (x y : Int) : Int := if y > x then y else x
def aFold (f : Int → Int → Int) : Value → List Value → (Value → Prop) → Prop
  | v, [], K => K v
  | .int k x, .int _ y :: r, K => aFold f (.int k (f x y)) r K
  | _, _, _ => False

def aBuiltin (P : Program) (b : Builtin) (ts : Array TypeId) (xs : Option (List Value)) (σ : AS) (K : Value → Prop) : Prop :=
  match b, ts.toList, xs with
  | .len, t :: _, some (v :: _) => aLen P t (some v) σ K
  | .min, _, some (v :: r) => aFold imin v r K
  | .max, _, some (v :: r) => aFold imax v r K
  | _, _, _ => False

def oneC : Value → Bool
  | .agg _ | .tuple _ => false
  | _ => true
/-- The cells of a value of a type. -/
def cellsAs (P : Program) (t : TypeId) (v : Value) (K : List Value → Prop) : Prop :=
  match isAggT P t with
  | true => match v with | .agg a => chk (Nat.beq a.toList.length (szOf P t)) (K a.toList) | _ => False
  | false => chk (Nat.beq (szOf P t) 1) (chk (oneC v) (K [v]))
def setCells : List Value → Nat → List Value → List Value
  | cs, _, [] => cs
  | cs, o, v :: vs => setCells (cs.set o v) (o + 1) vs
def aFill (P : Program) (place : Nat → Option (TypeId × Nat)) (ev : Operand → Option Value) : List (Nat × Operand) → List Value → (List Value → Prop) → Prop
  | [], cs, K => K cs
  | (i, x) :: r, cs, K => match place i with
    | none => False
    | some (t, off) => pSome (ev x) fun v => cellsAs P t v fun vs => chk (Nat.ble (off + vs.length) cs.length) (aFill P place ev r (setCells cs off vs) K)
def valCells : Value → List Value
  | .agg a => a.toList
  | v => [v]
def aBuild (P : Program) (t : TypeId) (parts : List (Nat × Operand)) (ev : Operand → Option Value) (K : Value → Prop) : Prop :=
  match zeroOf P t with
  | none => False
  | some z => match P.underlying t with
    | some (.struct fs) => chk (fs.toList.all fun f => (P.info? f.type).isSome) (aFill P (fun i => (fs[i]?).map fun f => (f.type, f.offset)) ev parts (valCells z) fun cs => K (.agg ⟨cs⟩))
    | some (.array _ e) => chk (P.info? e).isSome (aFill P (fun i => some (e, i * szOf P e)) ev parts (valCells z) fun cs => K (.agg ⟨cs⟩))
    | _ => False

/-- The entry that an iterator stands at. -/
def mentry (σ : AS) (j : Nat) (K : Value → Value → Prop) : Prop :=
  match σ j with
  | some (.iter (some m) _ seen stepped) => match seen.getLast? with
    | some st => match σ m with
      | some (.map es clock) => req (clock = stepped) <| pSome (es.find? fun e => e.born == st) fun e => K e.key e.val
      | _ => False
    | none => False
  | _ => False

/-- Operations that only look. -/
def aQ (P : Program) (o : Op) (ty : TypeId) (ev : Operand → Option Value) (σ : AS) (K : Value → Prop) : Prop :=
  match o with
  | .move x | .assign x => pSome (ev x) K
  | .pick c a b => match ev c with
    | some (.bool t) => match t with | true => pSome (ev a) K | false => pSome (ev b) K
    | _ => False
  | .nilCheck x => match ev x with
    | some (.pointer o) => pSome o fun a => K (.pointer (some a))
    | some (.func (.func f) a b) => K (.func (.func f) a b)
    | some (.iface t v) => K (.iface t v)
    | _ => False
  | .binOp op t x y _ => aBin P op t (ev x) (ev y) (match y with | .const _ => true | _ => false) σ K
  | .unOp op _ x => aUn op (ev x) K
  | .convert s d x => aConv P s d (ev x) σ K
  | .makeInterface t x => match P.underlying t with
    | some (.interface _) => False
    | some _ => pSome (ev x) fun v => K (.iface t v)
    | none => False
  | .makeFunc (.func f) a b => pSome (evs ev a.toList) fun x => pSome (evs ev b.toList) fun y => K (.func (.func f) ⟨x⟩ ⟨y⟩)
  | .slice t x lo hi mx => aSlice P σ ev t x lo hi mx K
  | .fieldAddr s x i => match fieldOf P s i, ev x with
    | some f, some (.pointer o) => match Nat.beq (szOf P f.type) 0 with | true => False | false => pSome o fun a => K (.pointer (some (a.add f.offset)))
    | _, _ => False
  | .field t x i => match fieldOf P t i, ev x with
    | some f, some (.agg a) => chk (P.underlying f.type).isSome <| aPart P f.type a.toList f.offset K
    | _, _ => False
  | .indexAddr t x i => match P.underlying t, ev x, ev i with
    | some (.slice e), some (.slice a n c), some (.int _ j) => chk (P.info? e).isSome <| req (0 ≤ j) <| req (j < n) <| pSome a fun a => req (c = szOf P e) <| K (.pointer (some (aadd a (j.toNat * szOf P e))))
    | some (.array n e), some (.pointer o), some (.int _ j) => chk (P.info? e).isSome <| req (0 ≤ j) <| req (j < n) <| pSome o fun a => K (.pointer (some (aadd a (j.toNat * szOf P e))))
    | _, _, _ => False
  | .index t x i => match P.underlying t, ev x, ev i with
    | some (.array n e), some (.agg a), some (.int _ j) => chk (P.underlying e).isSome <| req (0 ≤ j) <| req (j < n) <| aPart P e a.toList (j.toNat * szOf P e) fun v => tV (kdOf P e) v K
    | some .string, some (.string s), some (.int _ j) => req (0 ≤ j) <| req (j < s.size) <| K (.int .u8 (s.data.toList.getD j.toNat 0).toNat)
    | _, _, _ => False
  | .lookup t x k ok => aLookup P t (ev x) (ev k) ok σ K
  | .typeAssert x _ t ok => aAssert P (ev x) t ok K
  | .extract x i => pSome (ev x) fun v => tTup v fun l => pSome l[i]? fun u => tV (kdOf P ty) u K
  | .load t x => match ev x with
    | some (.pointer o) => pSome o fun a => aLoad P t a σ K
    | _ => False
  | .build t parts => aBuild P t parts.toList ev K
  | .entry x => match ev x with
    | some (.pointer (some a)) => chk (Nat.beq a.off 0) (mentry σ a.block fun k v => K (.tuple ⟨[k, v]⟩))
    | _ => False
  | .call c => match c.callee with
    | .builtin b => aBuiltin P b c.argTypes (evs ev c.args.toList) σ K
    | _ => False
  | _ => False

end Go.AI
