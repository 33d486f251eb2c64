import Derived.WalkKit
import Derived.KernelRfl
/-! The evaluator: a predicate transformer over the heap alone, computed off the code. -/
namespace Go.Eng
abbrev H := Array Obj
abbrev Env := List (Nat × Value)

def cell (h : H) (b o : Nat) : Option Value :=
  match h[b]? with
  | some (.cells c _ _) => c[o]?
  | _ => none
def wr (h : H) (b o : Nat) : Prop := ∃ c e f, h[b]? = some (.cells c e f) ∧ o < c.size ∧ ¬ (f.1 ≤ o ∧ o < f.2)
def put (h : H) (b o : Nat) (v : Value) : H := h.modify b fun
  | .cells c e f => .cells (c.setIfInBounds o v) e f
  | x => x

/-! typed looks -/
def asI (k : IntKind) (v : Value) (K : Int → Prop) : Prop := match v with | .int k' n => if k' = k then K n else False | _ => False
def asB (v : Value) (K : Bool → Prop) : Prop := match v with | .bool b => K b | _ => False
def asS (v : Value) (K : ByteArray → Prop) : Prop := match v with | .string s => K s | _ => False
def asP (v : Value) (K : Option Addr → Prop) : Prop := match v with | .pointer p => K p | _ => False
def asL (v : Value) (K : Option Addr → Nat → Nat → Prop) : Prop := match v with | .slice b l c => K b l c | _ => False
def asM (v : Value) (K : Option Nat → Prop) : Prop := match v with | .map r => K r | _ => False
def nz (p : Option Addr) (K : Nat → Nat → Prop) : Prop := match p with | some ⟨b, o, none⟩ => K b o | _ => False
def deref (v : Value) (K : Nat → Nat → Prop) : Prop := asP v fun p => nz p K
def ifB (b : Bool) (p q : Prop) : Prop := match b with | true => p | false => q
def req (p : Prop) [Decidable p] (K : Prop) : Prop := if p then K else False
def opt {α : Type} (x : Option α) (K : α → Prop) : Prop := match x with | some a => K a | none => False

inductive Sh where
  | int (k : IntKind) | bool | str | ptr | adr | blk | slice | map | any
  | fn (f : Nat) (l : List Sh)
  | agg (l : List Sh) | tuple (l : List Sh)

def cellsOf : Value → List Value
  | .agg c => c.toList
  | v => [v]
def one : Value → Bool
  | .agg _ | .tuple _ => false
  | _ => true

/-! what is handed the parts of a value of a shape -/
mutual
def Fn (R : Type) : Sh → Type
  | .int _ => Int → R
  | .bool => Bool → R
  | .str => ByteArray → R
  | .ptr => Option Addr → R
  | .adr => Nat → Nat → R
  | .blk => Nat → R
  | .slice => Option Addr → Nat → Nat → R
  | .map => Option Nat → R
  | .any => Value → R
  | .fn _ l => FnL R l
  | .agg l => FnL R l
  | .tuple l => FnL R l
def FnL (R : Type) : List Sh → Type
  | [] => R
  | s :: l => Fn (FnL R l) s
end
mutual
def cur {R : Type} : (s : Sh) → (Value → R) → Fn R s
  | .int k, K => fun n => K (.int k n)
  | .bool, K => fun b => K (.bool b)
  | .str, K => fun s => K (.string s)
  | .ptr, K => fun p => K (.pointer p)
  | .adr, K => fun b o => K (.pointer (some ⟨b, o, none⟩))
  | .blk, K => fun b => K (.pointer (some ⟨b, 0, none⟩))
  | .slice, K => fun b l c => K (.slice b l c)
  | .map, K => fun r => K (.map r)
  | .any, K => K
  | .fn f l, K => curL l fun vs => K (.func (.func f) #[] ⟨vs⟩)
  | .agg l, K => curL l fun vs => K (.agg ⟨vs⟩)
  | .tuple l, K => curL l fun vs => K (.tuple ⟨vs⟩)
def curL {R : Type} : (l : List Sh) → (List Value → R) → FnL R l
  | [], K => K []
  | s :: l, K => cur s fun v => curL l fun vs => K (v :: vs)
end
mutual
/-- a value of a shape, its parts handed on -/
def elF {R : Type} (no : R) : (s : Sh) → Value → Fn R s → R
  | .int k, v, K => match v with | .int k' n => if k' = k then K n else no | _ => no
  | .bool, v, K => match v with | .bool b => K b | _ => no
  | .str, v, K => match v with | .string s => K s | _ => no
  | .ptr, v, K => match v with | .pointer p => K p | _ => no
  | .adr, v, K => match v with | .pointer (some ⟨b, o, none⟩) => K b o | _ => no
  | .blk, v, K => match v with | .pointer (some ⟨b, 0, none⟩) => K b | _ => no
  | .slice, v, K => match v with | .slice b l c => K b l c | _ => no
  | .map, v, K => match v with | .map r => K r | _ => no
  | .any, v, K => K v
  | .fn f l, v, K => match v with | .func (.func g) ⟨[]⟩ c => if g = f then elFL no l c.toList K else no | _ => no
  | .agg l, v, K => match v with | .agg c => elFL no l c.toList K | _ => no
  | .tuple l, v, K => match v with | .tuple c => elFL no l c.toList K | _ => no
def elFL {R : Type} (no : R) : (l : List Sh) → List Value → FnL R l → R
  | [], [], K => K
  | s :: l, v :: vs, K => elF no s v (mapF s (fun k => elFL no l vs k) K)
  | _, _, _ => no
def mapF {R S : Type} : (s : Sh) → (R → S) → Fn R s → Fn S s
  | .int _, g, K => fun n => g (K n)
  | .bool, g, K => fun n => g (K n)
  | .str, g, K => fun n => g (K n)
  | .ptr, g, K => fun n => g (K n)
  | .adr, g, K => fun b o => g (K b o)
  | .blk, g, K => fun b => g (K b)
  | .slice, g, K => fun b l c => g (K b l c)
  | .map, g, K => fun n => g (K n)
  | .any, g, K => fun n => g (K n)
  | .fn _ l, g, K => mapFL l g K
  | .agg l, g, K => mapFL l g K
  | .tuple l, g, K => mapFL l g K
def mapFL {R S : Type} : (l : List Sh) → (R → S) → FnL R l → FnL S l
  | [], g, K => g K
  | s :: l, g, K => mapF s (fun k => mapFL l g k) K
end
/-- memory's parts, handed on -/
def elim (s : Sh) (v : Value) (K : Value → Prop) : Prop := elF False s v (cur s K)
def ldF (h : H) (b o : Nat) (s : Sh) (K : Fn Prop s) : Prop := opt (cell h b o) fun v => elF False s v K
def ldI (k : IntKind) (h : H) (b o : Nat) (K : Int → Prop) : Prop := opt (cell h b o) fun v => asI k v K
def ldB (h : H) (b o : Nat) (K : Bool → Prop) : Prop := opt (cell h b o) fun v => asB v K
def ldS (h : H) (b o : Nat) (K : ByteArray → Prop) : Prop := opt (cell h b o) fun v => asS v K
def ldP (h : H) (b o : Nat) (K : Option Addr → Prop) : Prop := opt (cell h b o) fun v => asP v K
def ldL (h : H) (b o : Nat) (K : Option Addr → Nat → Nat → Prop) : Prop := opt (cell h b o) fun v => asL v K
def ldM (h : H) (b o : Nat) (K : Option Nat → Prop) : Prop := opt (cell h b o) fun v => asM v K
def ldV (h : H) (b o : Nat) (K : Value → Prop) : Prop := opt (cell h b o) K
/-- a row of cells from (b, o + j) on -/
def ldRow (h : H) (b o : Nat) : Nat → (l : List Sh) → FnL Prop l → Prop
  | _, [], K => K
  | j, s :: l, K => ldF h b (o + j) s (mapF s (fun k => ldRow h b o (j + 1) l k) K)
def st (h : H) (b o : Nat) (v : Value) (K : H → Prop) : Prop := wr h b o ∧ K (put h b o v)
def stRow (h : H) (b o : Nat) : Nat → List Value → (H → Prop) → Prop
  | _, [], K => K h
  | j, v :: vs, K => ifB (one v) (st h b (o + j) v fun h => stRow h b o (j + 1) vs K) False
def stV (h : H) (b o : Nat) (v : Value) (K : H → Prop) : Prop :=
  match v with
  | .agg c => stRow h b o 0 c.toList K
  | v => ifB (one v) (st h b o v K) False
def new (h : H) (cs : List Value) (t : TypeId) (K : Nat → H → Prop) : Prop := K h.size (h.push (.cells ⟨cs⟩ t (0, 0)))
def newM (h : H) (K : Nat → H → Prop) : Prop := K h.size (h.push (.map #[] 0))

/-- The shape of a type: its one-cell kinds; a struct or an array is the row of its cells. -/
def shape (P : Program) : Nat → TypeId → Sh
  | 0, _ => .any
  | d + 1, t =>
    match P.underlying t with
    | some .bool => .bool
    | some (.int k) => .int k
    | some .string => .str
    | some (.pointer _) => .ptr
    | some (.slice _) => .slice
    | some (.map _ _) => .map
    | some (.struct fs) => .agg (fs.toList.flatMap fun f => match shape P d f.type with | .agg l => l | s => [s])
    | some (.array n e) => .agg ((List.replicate n (match shape P d e with | .agg l => l | s => [s])).flatten)
    | some (.tuple ts) => .tuple (ts.toList.map fun t => shape P d t)
    | _ => .any

/-- a variable of a type, read -/
def ldT (P : Program) (h : H) (b o : Nat) (t : TypeId) (K : Value → Prop) : Prop :=
  match P.underlying t with
  | some (.struct _) | some (.array _ _) => (match shape P 5 t with
    | .agg l => opt (P.info? t) fun i => ifB (Nat.beq l.length i.size) (ldRow h b o 0 l (curL l fun vs => K (.agg ⟨vs⟩))) False
    | _ => False)
  | some _ => ldF h b o (shape P 5 t) (cur (shape P 5 t) K)
  | none => False
def get (e : Env) (i : Nat) : Option Value :=
  match e with
  | [] => none
  | (j, v) :: r => match Nat.beq j i with | true => some v | false => get r i
def rd (e : Env) (x : Operand) (K : Value → Prop) : Prop :=
  match x with
  | .tmp t => opt (get e t) K
  | .const v => K v
  | .global g => K (.pointer (some ⟨g, 0, none⟩))
  | .func f => K (.func (.func f) #[] #[])
def rdL (e : Env) (xs : List Operand) (K : List Value → Prop) : Prop :=
  match xs with
  | [] => K []
  | x :: r => rd e x fun v => rdL e r fun vs => K (v :: vs)

/-! integers -/
def bAnd (k : IntKind) (a b : Int) : Int := k.wrap (BitVec.ofInt k.bits a &&& BitVec.ofInt k.bits b).toNat
def bOr (k : IntKind) (a b : Int) : Int := k.wrap (BitVec.ofInt k.bits a ||| BitVec.ofInt k.bits b).toNat
def bXor (k : IntKind) (a b : Int) : Int := k.wrap (BitVec.ofInt k.bits a ^^^ BitVec.ofInt k.bits b).toNat
def bAndNot (k : IntKind) (a b : Int) : Int := k.wrap (BitVec.ofInt k.bits a &&& ~~~ BitVec.ofInt k.bits b).toNat
def sShl (k : IntKind) (a b : Int) : Int := k.wrap (a * 2 ^ (min b.toNat k.bits))
def sShr (k : IntKind) (a b : Int) : Int := a.fdiv (2 ^ (min b.toNat k.bits))
def sEq (a b : ByteArray) : Bool := a.toList == b.toList
def sLt (a b : ByteArray) : Bool := Op.bytesLess a.toList b.toList
def eqV : Value → Value → Option Bool
  | .int k a, .int k' b => if k = k' then some (a == b) else none
  | .bool a, .bool b => some (a == b)
  | .string a, .string b => some (sEq a b)
  | _, _ => none
def intOp (op : BinOp) (k : IntKind) (a b : Int) (K : Value → Prop) : Prop :=
  match op with
  | .add => K (.int k (k.wrap (a + b)))
  | .sub => K (.int k (k.wrap (a - b)))
  | .mul => K (.int k (k.wrap (a * b)))
  | .quo => req (b ≠ 0) (K (.int k (k.wrap (a.tdiv b))))
  | .rem => req (b ≠ 0) (K (.int k (a.tmod b)))
  | .and => K (.int k (bAnd k a b))
  | .or => K (.int k (bOr k a b))
  | .xor => K (.int k (bXor k a b))
  | .andNot => K (.int k (bAndNot k a b))
  | .eql => K (.bool (a == b))
  | .neq => K (.bool (a != b))
  | .lss => K (.bool (decide (a < b)))
  | .leq => K (.bool (decide (a ≤ b)))
  | .gtr => K (.bool (decide (a > b)))
  | .geq => K (.bool (decide (a ≥ b)))
  | _ => False
def strOp (op : BinOp) (a b : ByteArray) (K : Value → Prop) : Prop :=
  match op with
  | .add => req (a.size + b.size ≤ 140737488355328) (K (.string (a ++ b)))
  | .eql => K (.bool (sEq a b))
  | .neq => K (.bool (!sEq a b))
  | .lss => K (.bool (sLt a b))
  | .leq => K (.bool (sLt a b || sEq a b))
  | .gtr => K (.bool (!(sLt a b || sEq a b)))
  | .geq => K (.bool (!sLt a b))
  | _ => False
/-- A struct all of whose fields are whole numbers, bools or strings; its fields, one by one. -/
def flat (P : Program) (t : TypeId) : Bool := !P.stoodInHeld t && !P.eqGuardType P.depth t
def basic (P : Program) (t : TypeId) (a b : Value) : Bool :=
  match P.underlying t, a, b with
  | some (.int _), .int _ _, .int _ _ => true
  | some .bool, .bool _, .bool _ => true
  | some .string, .string _, .string _ => true
  | _, _, _ => false
def eqFs (P : Program) (xs ys : List Value) : List Field → Option Bool
  | [] => some true
  | f :: fs => (xs[f.offset]?).bind fun a => (ys[f.offset]?).bind fun b => match (f.name != "_") && basic P f.type a b with
    | true => (eqV a b).bind fun t => (eqFs P xs ys fs).map fun u => t && u
    | false => none
def eqS (P : Program) (t : TypeId) (xs ys : List Value) (K : Bool → Prop) : Prop :=
  match P.underlying t with
  | some (.struct fs) => ifB (flat P t) (opt (eqFs P xs ys fs.toList) K) False
  | _ => False
def binK (P : Program) (op : BinOp) (t : TypeId) (x y : Value) (K : Value → Prop) : Prop :=
  match op, x, y with
  | .shl, .int k a, .int _ b => req (0 ≤ b) (K (.int k (sShl k a b)))
  | .shr, .int k a, .int _ b => req (0 ≤ b) (K (.int k (sShr k a b)))
  | op, .int k a, .int k' b => if k = k' then intOp op k a b K else False
  | op, .string a, .string b => strOp op a b K
  | .eql, .bool a, .bool b => match P.underlying t with | some .bool => K (.bool (a == b)) | _ => False
  | .neq, .bool a, .bool b => match P.underlying t with | some .bool => K (.bool (!(a == b))) | _ => False
  | .eql, .pointer p, .pointer none => match P.underlying t with | some (.pointer _) => K (.bool p.isNone) | _ => False
  | .neq, .pointer p, .pointer none => match P.underlying t with | some (.pointer _) => K (.bool (!p.isNone)) | _ => False
  | .eql, .slice b _ _, .slice none _ _ => match P.underlying t with | some (.slice _) => K (.bool b.isNone) | _ => False
  | .neq, .slice b _ _, .slice none _ _ => match P.underlying t with | some (.slice _) => K (.bool (!b.isNone)) | _ => False
  | .eql, .agg a, .agg b => eqS P t a.toList b.toList fun r => K (.bool r)
  | .neq, .agg a, .agg b => eqS P t a.toList b.toList fun r => K (.bool (!r))
  | _, _, _ => False
def unK (op : UnOp) (x : Value) (K : Value → Prop) : Prop :=
  match op, x with
  | .neg, .int k n => K (.int k (k.wrap (0 - n)))
  | .not, .bool b => K (.bool !b)
  | .xor, .int k n => K (.int k (bXor k (if k.signed then -1 else k.max) n))
  | _, _ => False

/-! places -/
def szK (P : Program) (t : TypeId) (K : Nat → Prop) : Prop := opt (P.info? t) fun i => K i.size
def zeroOf (P : Program) (t : TypeId) : Option Value := (P.info? t).bind (·.zero)
def fieldOf (P : Program) (t : TypeId) (f : Nat) (K : Nat → TypeId → Prop) : Prop :=
  match P.underlying t with
  | some (.struct fs) => opt (fs.toList[f]?) fun x => szK P x.type fun s => ifB (Nat.beq s 0) False (K x.offset x.type)
  | _ => False
def indexK (P : Program) (t : TypeId) (x i : Value) (K : Nat → Nat → Prop) : Prop :=
  match i with
  | .int _ n =>
    match P.underlying t with
    | some (.slice e) => szK P e fun s => asL x fun base len _ => req (0 ≤ n ∧ n < len) (nz base fun b o => K b (o + n.toNat * s))
    | some (.array len e) => szK P e fun s => deref x fun b o => req (0 ≤ n ∧ n < len) (K b (o + n.toNat * s))
    | _ => False
  | _ => False
def slB (a : Option Addr) (l m size : Nat) : Option Addr :=
  if m = l then a else match a with | some ⟨b, o, none⟩ => some ⟨b, o + l * size, none⟩ | a => a
def bound (x : Option Value) (d : Nat) (y : Nat) (K : Nat → Prop) : Prop :=
  match x with
  | none => K d
  | some (.int _ i) => req (0 ≤ i ∧ i ≤ y) (K i.toNat)
  | some _ => False
def plainA (a : Option Addr) : Bool := match a with | some ⟨_, _, some _⟩ => false | _ => true
def sliceK (P : Program) (t : TypeId) (x : Value) (lo hi mx : Option Value) (K : Value → Prop) : Prop :=
  match P.underlying t with
  | some .string => asS x fun s => match mx with | some _ => False | none => bound hi s.size s.size fun h => bound lo 0 h fun l => K (.string (s.extract l h))
  | some (.slice e) => ifB (mx.isNone || hi.isSome) (szK P e fun s => asL x fun a len cap => bound mx cap cap fun m => bound hi len m fun h => bound lo 0 h fun l => req (plainA a = true) (K (.slice (slB a l m s) (h - l) (m - l)))) False
  | _ => False
def fillL (pl : Nat → Option (Nat × Nat)) (cells : List Value) : List (Nat × Value) → Option (List Value)
  | [] => some cells
  | (i, v) :: rest =>
    match pl i with
    | none => none
    | some (off, size) =>
      match Nat.beq (cellsOf v).length size && Nat.ble (off + size) cells.length with
      | true => fillL pl (cells.take off ++ (cellsOf v) ++ cells.drop (off + size)) rest
      | false => none
def rdParts (e : Env) (xs : List (Nat × Operand)) (K : List (Nat × Value) → Prop) : Prop :=
  match xs with
  | [] => K []
  | (i, x) :: r => rd e x fun v => rdParts e r fun vs => K ((i, v) :: vs)
def zerosL (z : Value) (n : Nat) : List Value := (List.replicate n (cellsOf z)).flatten
def buildK (P : Program) (t : TypeId) (parts : List (Nat × Value)) (K : Value → Prop) : Prop :=
  opt (zeroOf P t) fun z =>
  match P.underlying t with
  | some (.struct fs) => ifB (fs.toList.all fun f => (P.info? f.type).isSome) (opt (fillL (fun i => (fs.toList[i]?).map fun f => (f.offset, P.cellsOf f.type)) (cellsOf z) parts) fun cs => K (.agg ⟨cs⟩)) False
  | some (.array _ e) => szK P e fun s => opt (fillL (fun i => some (i * s, s)) (cellsOf z) parts) fun cs => K (.agg ⟨cs⟩)
  | _ => False

/-! rows that are read whole -/
def cellsAt (h : H) (b o : Nat) : Nat → Option (List Value)
  | 0 => some []
  | n + 1 => (cell h b o).bind fun v => (cellsAt h b (o + 1) n).map fun vs => v :: vs
def bytesOf (s : ByteArray) : List Value := s.data.toList.map fun x => .int .u8 x.toNat
/-- the first n elements of a slice or string, as cells -/
def elemsK (h : H) (size n : Nat) (x : Value) (K : List Value → Prop) : Prop :=
  match x with
  | .slice none _ _ => K []
  | .slice (some ⟨b, o, none⟩) _ _ => opt (cellsAt h b o (n * size)) K
  | .string s => K ((bytesOf s).take n)
  | _ => False
def lenK (x : Value) (K : Nat → Prop) : Prop :=
  match x with
  | .slice _ n _ => K n
  | .string s => K s.size
  | _ => False
def appendK (P : Program) (e : TypeId) (h : H) (base : Option Addr) (len cap : Nat) (x : Value) (K : Option Addr → Nat → Nat → H → Prop) : Prop :=
  opt (P.info? e) fun i => opt i.zero fun z => req (i.size ≠ 0 ∧ (cellsOf z).length = i.size) (
  lenK x fun n => elemsK h i.size n x fun new =>
  if len + n ≤ cap then
    (match base with
     | some ⟨b, o, none⟩ => stRow h b (o + len * i.size) 0 new fun h => K base (len + n) cap h
     | none => K none (len + n) cap h
     | _ => False)
  else elemsK h i.size len (.slice base len cap) fun old =>
    req ((len + n) * i.bytes ≤ 140737488355328 ∧ len + n ≤ 4611686018427387904) (∀ c, len + n ≤ c → K (some ⟨h.size, 0, none⟩) (len + n) c (h.push (.cells ⟨old ++ new ++ zerosL z (c - (len + n))⟩ e (0, 0)))))
def copyK (P : Program) (e : TypeId) (h : H) (dst src : Value) (K : Int → H → Prop) : Prop :=
  szK P e fun s => asL dst fun base dl _ => lenK src fun sl => elemsK h s (Nat.min sl dl) src fun cs =>
  match base with
  | some ⟨b, o, none⟩ => stRow h b o 0 cs fun h => K (Nat.min sl dl) h
  | none => K (Nat.min sl dl) h
  | _ => False
def strBytesK (h : H) (e : TypeId) (s : ByteArray) (K : Option Addr → Nat → Nat → H → Prop) : Prop :=
  req (s.size ≤ 140737488355328) (∀ c, s.size ≤ c → K (some ⟨h.size, 0, none⟩) s.size c (h.push (.cells ⟨bytesOf s ++ List.replicate (c - s.size) (.int .u8 0)⟩ e (c, c + 1))))
def bytesV : List Value → Option (List UInt8)
  | [] => some []
  | .int .u8 n :: r => (bytesV r).map fun l => UInt8.ofNat n.toNat :: l
  | _ => none
def bytesStrK (h : H) (base : Option Addr) (n c : Nat) (K : ByteArray → Prop) : Prop :=
  elemsK h 1 n (.slice base n c) fun cs => opt (bytesV cs) fun l => K ⟨⟨l⟩⟩

/-! maps -/
def ldMap (h : H) (r : Option Nat) (K : Array MapEntry → Nat → Prop) : Prop :=
  match r with
  | none => K #[] 0
  | some r => match h[r]? with | some (.map es c) => K es c | _ => False
def eqK : Value → Value → Option Bool
  | .int k a, .int k' b => if k = k' then some (a == b) else none
  | .string a, .string b => some (a == b)
  | _, _ => none
def findE (k : Value) : List MapEntry → Nat → Option (Option (Nat × Value))
  | [], _ => some none
  | e :: es, i => match eqK k e.key with | some true => some (some (i, e.val)) | some false => findE k es (i + 1) | none => none
def keyOk (P : Program) (t : TypeId) (k : Value) : Bool :=
  match P.underlying t, k with
  | some (.int _), .int _ _ => true
  | some .string, .string _ => true
  | _, _ => false
def lookK (P : Program) (kt et : TypeId) (h : H) (r : Option Nat) (k : Value) (s : Sh) (K : Bool → Fn Prop s) : Prop :=
  ifB (keyOk P kt k) (ldMap h r fun es _ => opt (zeroOf P et) fun z => opt (findE k es.toList 0) fun f =>
    elF False s (match f with | some (_, v) => v | none => z) (K f.isSome)) False
def mapPut (es : Array MapEntry) (c : Nat) (k v : Value) (f : Option (Nat × Value)) : Obj :=
  match f with
  | some (i, _) => .map (es.modify i fun e => { e with key := k, val := v }) c
  | none => .map (es.push { key := k, val := v, born := c }) (c + 1)
def mapDel (es : Array MapEntry) (c : Nat) (f : Option (Nat × Value)) : Obj :=
  match f with
  | some (i, _) => .map (es.eraseIdxIfInBounds i) c
  | none => .map es c
def putMapK (P : Program) (kt : TypeId) (h : H) (m k v : Value) (K : H → Prop) : Prop :=
  ifB (keyOk P kt k) (asM m fun r => opt r fun r => match h[r]? with
    | some (.map es c) => opt (findE k es.toList 0) fun f => K (h.setIfInBounds r (mapPut es c k v f))
    | _ => False) False
def delMapK (P : Program) (kt : TypeId) (h : H) (m k : Value) (K : H → Prop) : Prop :=
  ifB (keyOk P kt k) (asM m fun r => opt r fun r => match h[r]? with
    | some (.map es c) => opt (findE k es.toList 0) fun f => K (h.setIfInBounds r (mapDel es c f))
    | _ => False) False

/-! calls -/
def callK (P : Program) (f : FuncId) (args : Array Value) (h : H) (K : Value → H → Prop) : Prop :=
  ∀ w : World, w.heap = h → Calls P f args w fun e w' => ∃ v, e = .returned v ∧ w'.os = w.os ∧ w'.tape = w.tape ∧ w'.output = w.output ∧ K v w'.heap
def retSh (P : Program) (f : FuncId) : Sh :=
  match P.funcs[f]? with
  | some fn => match fn.resultTypes.toList with
    | [t] => shape P 5 t
    | ts => .tuple (ts.map fun t => shape P 5 t)
  | none => .any
def hasBody (P : Program) (f : FuncId) : Bool :=
  match P.funcs[f]? with
  | some fn => fn.body.isSome && fn.name != "runtime.NumGoroutine"
  | none => false

def clearK (h : H) (z : Value) (base : Option Addr) (n : Nat) (K : H → Prop) : Prop :=
  match base with
  | some ⟨b, o, none⟩ => stRow h b o 0 (zerosL z n) K
  | none => K h
  | _ => False
def minL : List Int → Option Int
  | [] => none
  | [a] => some a
  | a :: l => (minL l).map fun b => if b < a then b else a
def builtinK (P : Program) (b : Builtin) (ts : List TypeId) (args : List Value) (h : H) (K : Value → H → Prop) : Prop :=
  match b, ts, args with
  | .len, [t], [x] =>
    match P.underlying t with
    | some .string => asS x fun s => K (.int .i64 s.size) h
    | some (.slice _) => asL x fun _ n _ => K (.int .i64 n) h
    | some (.map _ _) => asM x fun r => ldMap h r fun es _ => K (.int .i64 es.size) h
    | some (.array n _) => K (.int .i64 n) h
    | _ => False
  | .append, [t, u], [s, x] =>
    match P.underlying t, P.underlying u with
    | some (.slice e), some (.slice _) => asL s fun base len cap => appendK P e h base len cap x fun b l c h => K (.slice b l c) h
    | some (.slice e), some .string => asL s fun base len cap => appendK P e h base len cap x fun b l c h => K (.slice b l c) h
    | _, _ => False
  | .copy, [t, _], [d, s] => match P.underlying t with | some (.slice e) => copyK P e h d s fun n h => K (.int .i64 n) h | _ => False
  | .min, _, [.int k a, .int k' b] => if k = k' then K (.int k (if b < a then b else a)) h else False
  | .max, _, [.int k a, .int k' b] => if k = k' then K (.int k (if b > a then b else a)) h else False
  | .delete, [t, _], [m, k] => match P.underlying t with | some (.map kt _) => delMapK P kt h m k fun h => K (.tuple #[]) h | _ => False
  | .clear, [t], [x] =>
    match P.underlying t with
    | some (.slice e) => asL x fun base n _ => opt (zeroOf P e) fun z => req ((cellsOf z).length ≠ 0) (clearK h z base n fun h => K (.tuple #[]) h)
    | _ => False
  | _, _, _ => False

def convK (P : Program) (src dst : TypeId) (x : Value) (h : H) (K : Value → H → Prop) : Prop :=
  match P.underlying src, P.underlying dst, x with
  | some (.int _), some (.int k), .int _ n => K (.int k (k.wrap n)) h
  | some .string, some .string, .string s => K (.string s) h
  | some .string, some (.slice e), .string s =>
    (match P.underlying e with
     | some (.int .u8) => strBytesK h e s fun b l c h => K (.slice b l c) h
     | _ => False)
  | some (.slice e), some .string, .slice base n c =>
    (match P.underlying e with
     | some (.int .u8) => bytesStrK h base n c fun s => K (.string s) h
     | _ => False)
  | _, _, _ => False

/-- struct or array? -/
def aggD : TypeDesc → Bool
  | .struct _ | .array _ _ => true
  | _ => false
def fieldV (P : Program) (u : TypeId) (cs : Array Value) (off : Nat) (K : Value → Prop) : Prop :=
  match P.underlying u with
  | some d => ifB (aggD d) (szK P u fun s => K (.agg ⟨(cs.toList.drop off).take s⟩)) (opt (cs.toList[off]?) K)
  | none => False
def buildSliceK (P : Program) (t : TypeId) (n : Nat) (ps : List (Nat × Value)) (h : H) (K : Value → H → Prop) : Prop :=
  match P.underlying t with
  | some (.slice u) => opt (P.info? u) fun i => opt i.zero fun z => req (n * i.size ≤ 16777216 ∧ i.size ≠ 0 ∧ (cellsOf z).length = i.size) (opt (fillL (fun j => some (j * i.size, i.size)) (zerosL z n) ps) fun cs => new h cs u fun b h => K (.slice (some ⟨b, 0, none⟩) n n) h)
  | _ => False
def makeSliceK (P : Program) (t : TypeId) (l c : Value) (h : H) (K : Value → H → Prop) : Prop :=
  match P.underlying t, l, c with
  | some (.slice u), .int .i64 l, .int .i64 c => opt (P.info? u) fun i => opt i.zero fun z => req (i.size ≠ 0 ∧ (cellsOf z).length = i.size) (req (0 ≤ l ∧ l ≤ c ∧ c * i.bytes ≤ 140737488355328 ∧ c ≤ 4611686018427387904)
      (new h (zerosL z c.toNat) u fun b h => K (.slice (some ⟨b, 0, none⟩) l.toNat c.toNat) h))
  | _, _, _ => False
def makeMapK (P : Program) (t : TypeId) (h : H) (K : Value → H → Prop) : Prop :=
  match P.underlying t with
  | some (.map _ _) => newM h fun r h => K (.map (some r)) h
  | _ => False
def nilK (x : Value) (K : Value → Prop) : Prop :=
  match x with
  | .pointer p => nz p fun b o => K (.pointer (some ⟨b, o, none⟩))
  | .func (.func f) a c => K (.func (.func f) a c)
  | _ => False
def getF (P : Program) (t : TypeId) (f : Nat) (x : Value) (K : Value → Prop) : Prop :=
  fieldOf P t f fun off u => match x with
    | .agg cs => fieldV P u cs off K
    | _ => False
def strIndexK (P : Program) (t : TypeId) (x i : Value) (K : Value → Prop) : Prop :=
  match P.underlying t, x, i with
  | some .string, .string s, .int _ n => req (0 ≤ n ∧ n < s.size) (K (.int .u8 (s.data.toList.getD n.toNat 0).toNat))
  | _, _, _ => False
def lookupK (P : Program) (t : TypeId) (h : H) (m k : Value) (ok : Bool) (K : Value → Prop) : Prop :=
  match P.underlying t with
  | some (.map kt et) => asM m fun r => lookK P kt et h r k (shape P 5 et) fun t => cur _ fun v => K (match ok with | true => .tuple ⟨[v, .bool t]⟩ | false => v)
  | _ => False
def mapSetK (P : Program) (t : TypeId) (h : H) (m k v : Value) (K : H → Prop) : Prop :=
  match P.underlying t with
  | some (.map kt _) => putMapK P kt h m k v K
  | _ => False
def extractK (x : Value) (i : Nat) (K : Value → Prop) : Prop :=
  match x with
  | .tuple vs => opt (vs.toList[i]?) K
  | _ => False
def callVK (P : Program) (f : Value) (vs : List Value) (h : H) (K : Value → H → Prop) : Prop :=
  match f with
  | .func (.func g) first captured => ifB (hasBody P g) (callK P g ⟨first.toList ++ vs ++ captured.toList⟩ h fun v h => elim (retSh P g) v fun v => K v h) False
  | _ => False
def evOp (P : Program) (e : Env) (h : H) (op : Op) (K : Value → H → Prop) : Prop :=
  match op with
  | .move x => rd e x fun v => K v h
  | .assign x => rd e x fun v => K v h
  | .pick c a b => rd e c fun c => asB c fun t => ifB t (rd e a fun v => K v h) (rd e b fun v => K v h)
  | .alloc t => opt (zeroOf P t) fun z => new h (cellsOf z) t fun b h => K (.pointer (some ⟨b, 0, none⟩)) h
  | .box t x => rd e x fun v => new h (cellsOf v) t fun b h => K (.pointer (some ⟨b, 0, none⟩)) h
  | .build t parts => rdParts e parts.toList fun ps => buildK P t ps fun v => K v h
  | .buildSlice t n parts => rdParts e parts.toList fun ps => buildSliceK P t n ps h K
  | .load t a => rd e a fun a => deref a fun b o => ldT P h b o t fun v => K v h
  | .store t a x => rd e a fun a => rd e x fun x => deref a fun b o => szK P t fun s => ifB (Nat.beq (cellsOf x).length s) (stV h b o x fun h => K undef h) False
  | .nilCheck x => rd e x fun x => nilK x fun v => K v h
  | .binOp op t x y _ => rd e x fun x => rd e y fun y => binK P op t x y fun v => K v h
  | .unOp op _ x => rd e x fun x => unK op x fun v => K v h
  | .convert src dst x => rd e x fun x => convK P src dst x h K
  | .makeFunc fn first captured => rdL e first.toList fun a => rdL e captured.toList fun c => K (.func fn ⟨a⟩ ⟨c⟩) h
  | .makeMap t none => makeMapK P t h K
  | .makeSlice t l c => rd e l fun l => rd e c fun c => makeSliceK P t l c h K
  | .slice t x lo hi mx => rd e x fun x => rdL e (lo.toList ++ hi.toList ++ mx.toList) fun bs =>
    sliceK P t x (lo.bind fun _ => bs[0]?) (hi.bind fun _ => bs[lo.toList.length]?) (mx.bind fun _ => bs[lo.toList.length + hi.toList.length]?) fun v => K v h
  | .fieldAddr t x f => rd e x fun x => deref x fun b o => fieldOf P t f fun off _ => K (.pointer (some ⟨b, o + off, none⟩)) h
  | .field t x f => rd e x fun x => getF P t f x fun v => K v h
  | .indexAddr t x i => rd e x fun x => rd e i fun i => indexK P t x i fun b o => K (.pointer (some ⟨b, o, none⟩)) h
  | .index t x i => rd e x fun x => rd e i fun i => strIndexK P t x i fun v => K v h
  | .lookup t m k ok => rd e m fun m => rd e k fun k => lookupK P t h m k ok fun v => K v h
  | .mapUpdate t m k v => rd e m fun m => rd e k fun k => rd e v fun v => mapSetK P t h m k v fun h => K undef h
  | .insert t m k v => rd e m fun m => rd e k fun k => rd e v fun v => mapSetK P t h m k v fun h => K undef h
  | .extract x i => rd e x fun x => extractK x i fun v => K v h
  | .call { callee := .builtin b, args, argTypes } => rdL e args.toList fun vs => builtinK P b argTypes.toList vs h K
  | .call { callee := .value f, args, .. } => rd e f fun f => rdL e args.toList fun vs => callVK P f vs h K
  | _ => False

def putE (nt : Nat) (e : Env) (dst : Option Nat) (v : Value) (K : Env → Prop) : Prop :=
  match dst with
  | none => K e
  | some d => ifB (Nat.blt d nt) (K ((d, v) :: e)) False
def guardK (ops : List Oper) (e : Env) (g : Option (Nat × Bool)) (yes no : Env → Prop) : Prop :=
  match g with
  | none => yes e
  | some (j, want) => opt ((ops[j]?).bind (·.dst)) fun d => opt (get e d) fun v => match v with
    | .bool b => ifB b (ifB want (yes ((d, .bool true) :: e)) (no ((d, .bool true) :: e))) (ifB want (no ((d, .bool false) :: e)) (yes ((d, .bool false) :: e)))
    | _ => no e
def evOps (P : Program) (nt : Nat) (ops : List Oper) : List Oper → Env → H → (Env → H → Prop) → Prop
  | [], e, h, K => K e h
  | o :: rest, e, h, K => guardK ops e o.guard
      (fun e => evOp P e h o.op fun v h => putE nt e o.dst v fun e => evOps P nt ops rest e h K)
      (fun e => putE nt e o.dst undef fun e => evOps P nt ops rest e h K)

/-! a region that draws its order -/
/-- what only looks at its operands -/
def quietOp : Op → Bool
  | .move _ | .assign _ | .pick .. | .build .. | .nilCheck _ | .binOp .. | .unOp .. | .makeFunc .. | .slice .. | .fieldAddr .. | .field ..
  | .indexAddr .. | .index .. | .extract .. => true
  | .call { callee := .builtin .min, .. } => true
  | .call { callee := .builtin .max, .. } => true
  | _ => false
def isLen (P : Program) : Op → Bool
  | .call { callee := .builtin .len, argTypes, .. } => (match argTypes.toList with
    | [t] => (match P.underlying t with | some (.map _ _) => false | _ => true)
    | _ => false)
  | _ => false
def isLoad : Op → Bool
  | .load .. => true
  | _ => false
def bindsE (e : Edge) : Bool := Region.binds .any e
def readyI (o : Oper) (i done : Nat) : Bool := !done.testBit i && o.after.toList.all fun e => !bindsE e || done.testBit e.on
def befores : List Oper → List Nat → List Nat
  | [], acc => acc
  | o :: r, acc => befores r (acc ++ [o.after.toList.foldl (fun s e => match bindsE e with | true => s ||| 2 ^ e.on ||| acc.getD e.on 0 | false => s) 0])
def apartAll (ops : Array Oper) (i : Nat) (oi : Oper) (done : Nat) : Nat → List Oper → Bool
  | _, [] => true
  | j, oj :: r => (Nat.beq j i || done.testBit j || (oj.after.toList.any fun e => bindsE e && Nat.beq e.on i) || oi.apart ops oj) && apartAll ops i oi done (j + 1) r
def takeable (P : Program) (o : Oper) : Bool := quietOp o.op || isLoad o.op || isLen P o.op
def firstTake (P : Program) (done : Nat) : Nat → List Oper → Option (Nat × Oper)
  | _, [] => none
  | i, o :: r => match readyI o i done && takeable P o with | true => some (i, o) | false => firstTake P done (i + 1) r
def readyL (done : Nat) : Nat → List Oper → List (Nat × Oper)
  | _, [] => []
  | i, o :: r => match readyI o i done with | true => (i, o) :: readyL done (i + 1) r | false => readyL done (i + 1) r
/-- what loads have found: by which operation, where, what -/
abbrev Seen := List (Nat × Nat × Nat × List Value)
def heldRow (h : H) (b o : Nat) : Nat → List Value → Prop → Prop
  | _, [], K => K
  | j, v :: vs, K => cell h b (o + j) = some v ∧ heldRow h b o (j + 1) vs K
def held (h : H) (bf : Nat) : Seen → Prop → Prop
  | [], K => K
  | (i, b, o, vs) :: r, K => match bf.testBit i with | true => held h bf r K | false => heldRow h b o 0 vs (held h bf r K)
def lcells (P : Program) (t : TypeId) (v : Value) : List Value :=
  match P.underlying t with
  | some (.struct _) | some (.array _ _) => cellsOf v
  | _ => [v]
def filS (bf : Nat) : Seen → Seen
  | [] => []
  | x :: r => match bf.testBit x.1 with | true => filS bf r | false => x :: filS bf r
def evTake (P : Program) (e : Env) (h : H) (i : Nat) (op : Op) (S : Seen) (K : Value → Seen → Prop) : Prop :=
  match op with
  | .load t a => rd e a fun a => deref a fun b o => ldT P h b o t fun v => K v ((i, b, o, lcells P t v) :: S)
  | op => evOp P e h op fun v _ => K v S
def allL {α : Type} (F : α → Prop) : List α → Prop
  | [] => True
  | [x] => F x
  | x :: r => F x ∧ allL F r
def evAny (P : Program) (nt : Nat) (ops : Array Oper) (bf : List Nat) : Nat → Nat → Env → H → Seen → (Env → H → Prop) → Prop
  | 0, done, e, h, _, K => (match readyL done 0 ops.toList with | [] => K e h | _ => False)
  | n + 1, done, e, h, S, K =>
    match firstTake P done 0 ops.toList with
    | some (i, o) => ifB (apartAll ops i o done 0 ops.toList) (guardK ops.toList e o.guard
        (fun e => evTake P e h i o.op S fun v S => putE nt e o.dst v fun e => evAny P nt ops bf n (done ||| 2 ^ i) e h S K)
        (fun e => putE nt e o.dst undef fun e => evAny P nt ops bf n (done ||| 2 ^ i) e h S K)) False
    | none => match readyL done 0 ops.toList with
      | [] => K e h
      | l => allL (fun (i, o) => guardK ops.toList e o.guard
          (fun e => evOp P e h o.op fun v h => held h (bf.getD i 0) S (putE nt e o.dst v fun e => evAny P nt ops bf n (done ||| 2 ^ i) e h (filS (bf.getD i 0) S) K))
          (fun e => held h (bf.getD i 0) S (putE nt e o.dst undef fun e => evAny P nt ops bf n (done ||| 2 ^ i) e h (filS (bf.getD i 0) S) K))) l
def bfStep (bf : List Nat) (o : Oper) : Nat := o.after.toList.foldl (fun s e => match bindsE e with | true => s ||| 2 ^ e.on ||| bf.getD e.on 0 | false => s) 0
def bfOk (bf : List Nat) : Nat → List Oper → Bool
  | _, [] => true
  | i, o :: r => Nat.beq (bf.getD i 0) (bfStep bf o) && bfOk bf (i + 1) r
def evDraw (P : Program) (nt : Nat) (ops : Array Oper) (e : Env) (h : H) (K : Env → H → Prop) : Prop :=
  ifB (bfOk (befores ops.toList []) 0 ops.toList && Region.noSelect ops) (evAny P nt ops (befores ops.toList []) ops.toList.length 0 e h [] K) False

inductive Ex where
  | normal | exit (id : Nat) | ret
abbrev Cont := Ex → Env → H → Prop
abbrev PT := Env → H → Cont → Prop

/-! an environment's parts, handed on -/
abbrev Vars := List (Nat × Sh)
def FnV (R : Type) (l : Vars) : Type := FnL R (l.map (·.2))
def curV {R : Type} : (l : Vars) → (Env → R) → FnV R l
  | [], K => K []
  | (i, s) :: l, K => cur (R := FnV R l) s fun v => curV l fun e => K ((i, v) :: e)
def elV (e : Env) : (l : Vars) → FnV (H → Prop) l → H → Prop
  | [], K, h => K h
  | (i, s) :: l, K, h => opt (get e i) fun v => elF False s v (mapF (R := FnV (H → Prop) l) (S := Prop) s (fun k => elV e l k h) K)

def exBlock (id : Nat) (K : Cont) : Cont
  | .exit j, e, h => match Nat.beq j id with | true => K .normal e h | false => K (.exit j) e h
  | x, e, h => K x e h
def lookJ (p : List Bool) : List (List Bool × PT) → Option PT
  | [] => none
  | (q, F) :: r => match q == p with | true => some F | false => lookJ p r
/-- The code, as a transformer; where 'js' has a row for a place (the places that are followed in 'p', the last first), that one. -/
def evC (P : Program) (nt : Nat) (js : List (List Bool × PT)) : List Bool → Code → Env → H → Cont → Prop
  | _, .skip, e, h, K => K .normal e h
  | _, .region _ ops false, e, h, K => evOps P nt ops.toList ops.toList e h (K .normal)
  | _, .region _ ops true, e, h, K => evDraw P nt ops e h (K .normal)
  | p, .seq a b, e, h, K => evC P nt js (false :: p) a e h fun x e h => match x with
    | .normal => (match lookJ (true :: p) js with
      | some F => F e h K
      | none => evC P nt js (true :: p) b e h K)
    | x => K x e h
  | p, .cond c a b, e, h, K => rd e c fun c => asB c fun t => ifB t (evC P nt js (false :: p) a e h K) (evC P nt js (true :: p) b e h K)
  | p, .block id c, e, h, K => evC P nt js (false :: p) c e h (exBlock id K)
  | p, .loop _, e, h, K => (match lookJ (false :: p) js with
      | some F => F e h K
      | none => False)
  | _, .exit id, e, h, K => K (.exit id) e h
  | _, .ret, e, h, K => K .ret e h
  | _, _, _, _, _ => False
/-- the code at a place -/
def sub : Code → List Bool → Code
  | c, [] => c
  | .seq a b, d :: p => sub (match d with | false => a | true => b) p
  | .cond _ a b, d :: p => sub (match d with | false => a | true => b) p
  | .block _ c, _ :: p => sub c p
  | .loop c, _ :: p => sub c p
  | _, _ => .skip
/-- what is handed on: at the end, at each way out by a number, at a return -/
structure Outs where
  normal : Option (Σ l : Vars, FnV (H → Prop) l)
  exits : List (Nat × Σ l : Vars, FnV (H → Prop) l)
  ret : Option (Σ l : Vars, FnV (H → Prop) l)
def lookX (i : Nat) : List (Nat × Σ l : Vars, FnV (H → Prop) l) → Option (Σ l : Vars, FnV (H → Prop) l)
  | [] => none
  | (j, F) :: r => match Nat.beq j i with | true => some F | false => lookX i r
def Outs.K (o : Outs) : Cont
  | .normal, e, h => opt o.normal fun x => elV e x.1 x.2 h
  | .exit i, e, h => opt (lookX i o.exits) fun x => elV e x.1 x.2 h
  | .ret, e, h => opt o.ret fun x => elV e x.1 x.2 h
def resK (e : Env) (h : H) (P : Program) : List ResultVar → (List Value → Prop) → Prop
  | [], K => K []
  | .tmp t :: r, K => opt (get e t) fun v => resK e h P r fun vs => K (v :: vs)
  | .cell a t :: r, K => opt (get e a) fun p => deref p fun b o => ldT P h b o t fun v => resK e h P r fun vs => K (v :: vs)
def resV : List Value → Value
  | [v] => v
  | vs => .tuple ⟨vs⟩
def init : Nat → List Value → Env
  | _, [] => []
  | i, v :: vs => (i, v) :: init (i + 1) vs

/-- the outs of a piece of code, as its continuation hands them on -/
def outsOf (n : Option Vars) (xs : List (Nat × Vars)) (r : Option Vars) (K : Cont) : Outs :=
  ⟨n.map fun l => ⟨l, curV l fun e => K .normal e⟩, xs.map fun (i, l) => (i, ⟨l, curV l fun e => K (.exit i) e⟩), r.map fun l => ⟨l, curV l fun e => K .ret e⟩⟩
def mkF (l : Vars) (f : Cont → FnV (H → Prop) l) : PT := fun e h K => elV e l (f K) h
def codeOf (f : Func) : Code := match f.body with | some c => c | none => .skip
def callF (P : Program) (rs : List ResultVar) (F : PT) (args : List Value) (h : H) (K : Value → H → Prop) : Prop :=
  F (init 0 args) h fun x e h => match x with
    | .normal | .ret => resK e h P rs fun vs => K (resV vs) h
    | _ => False
end Go.Eng
