/- Own text, merged out of small ones: WxA WxB WxC WxD WxE WxF WxG WxH WxI WxJ WxJg WxK WxL: the framework, the preconditions and the contracts on which the claim rests (no conditions of its own). -/
import Derived.WalkKit
import Derived.OrdersIn
import Derived.ChangeKeysEq
import Derived.RangeFuncRecord
section
/- The framework of these proofs, part 1: a weakest precondition by recursion over the model's code, with what is known of a frame as a list of slots. Its soundness is in part 2. -/
namespace Go.Wx
open Go

abbrev Env := List (Nat × Value)

def ifB (b : Bool) (A B : Prop) : Prop := match b with | true => A | false => B

def Env.get : Env → Nat → Option Value
  | [], _ => none
  | (k, v) :: e, j => match Nat.beq k j with | true => some v | false => Env.get e j

def oev (e : Env) : Operand → Option Value
  | .tmp t => e.get t
  | .const v => some v
  | .global g => some (.pointer (some ⟨g, 0, none⟩))
  | .func f => some (.func (.func f) #[] #[])

def xev (e : Env) (x : Operand) (K : Value → Prop) : Prop := match oev e x with | some v => K v | none => False

def xevs (e : Env) : List Operand → (List Value → Prop) → Prop
  | [], K => K []
  | x :: xs, K => xev e x fun v => xevs e xs fun vs => K (v :: vs)

def opnds : Op → List Operand
  | .move x | .assign x | .box _ x | .load _ x | .nilCheck x | .unOp _ _ x | .convert _ _ x | .fieldAddr _ x _ | .field _ x _ | .extract x _ | .makeInterface _ x | .panic x => [x]
  | .pick c a b => [c, a, b]
  | .build _ ps | .buildSlice _ _ ps => ps.toList.map (·.2)
  | .store _ a v | .binOp _ _ a v _ | .makeSlice _ a v | .indexAddr _ a v | .index _ a v | .lookup _ a v _ => [a, v]
  | .makeFunc _ first captured => first.toList ++ captured.toList
  | .makeMap _ r => r.toList
  | .slice _ x l h m => x :: (l.toList ++ (h.toList ++ m.toList))
  | .mapUpdate _ m k v => [m, k, v]
  | .call c => (match c.callee with | .value f => [f] | _ => []) ++ c.args.toList
  | _ => []

/-! Shapes of values -/
inductive LK where
  | int (k : IntKind) | bool | ptr | slice | map | float (k : FloatKind) | str | any

def exL : LK → (Value → Prop) → Prop
  | .int k, K => ∃ n : Int, K (.int k n)
  | .bool, K => ∃ b : Bool, K (.bool b)
  | .ptr, K => ∃ p : Option Addr, K (.pointer p)
  | .slice, K => ∃ (a : Option Addr) (l c : Nat), K (.slice a l c)
  | .map, K => ∃ r : Option Nat, K (.map r)
  | .float k, K => ∃ n : Nat, K (.float k n)
  | .str, K => ∃ s : ByteArray, K (.string s)
  | .any, K => ∃ v : Value, K v

inductive VK where
  | leaf (l : LK)
  | agg (ls : List LK)

def exLs : List LK → (List Value → Prop) → Prop
  | [], K => K []
  | l :: ls, K => exL l fun v => exLs ls fun vs => K (v :: vs)

def exV : VK → (Value → Prop) → Prop
  | .leaf l, K => exL l K
  | .agg ls, K => exLs ls fun vs => K (.agg vs.toArray)

def exVs : List VK → (List Value → Prop) → Prop
  | [], K => K []
  | l :: ls, K => exV l fun v => exVs ls fun vs => K (v :: vs)

def lkOf : TypeDesc → LK
  | .bool => .bool
  | .int k => .int k
  | .float k => .float k
  | .string => .str
  | .pointer _ => .ptr
  | .slice _ => .slice
  | .map _ _ => .map
  | _ => .any

def leaves (P : Program) : Nat → TypeId → List LK
  | 0, _ => []
  | n + 1, t => match P.underlying t with
    | some (.struct fs) => (fs.toList.map fun f => leaves P n f.type).flatten
    | some (.array m el) => (List.replicate m (leaves P n el)).flatten
    | some d => [lkOf d]
    | none => []

def vkOf (P : Program) (t : TypeId) : VK := match P.underlying t with
  | some (.struct _) | some (.array _ _) => .agg (leaves P 9 t)
  | some d => .leaf (lkOf d)
  | none => .leaf .any

def szOf (P : Program) (t : TypeId) : Nat := ((P.info? t).map (·.size)).getD 0
def byOf (P : Program) (t : TypeId) : Nat := ((P.info? t).map (·.bytes)).getD 0
def zxOf (P : Program) (t : TypeId) : Option Value := (P.info? t).bind (·.zero)

def asB (v : Value) (K : Bool → Prop) : Prop := match v with | .bool b => K b | _ => False
def asI (v : Value) (K : IntKind → Int → Prop) : Prop := match v with | .int k n => K k n | _ => False
def nilx (p : Option Addr) (K : Addr → Prop) : Prop := match p with | some a => K a | none => False
def asA (v : Value) (K : Addr → Prop) : Prop := match v with | .pointer p => nilx p K | _ => False
def asG (v : Value) (K : Array Value → Prop) : Prop := match v with | .agg cs => K cs | _ => False
def asSl (v : Value) (K : Option Addr → Nat → Nat → Prop) : Prop := match v with | .slice a l c => K a l c | _ => False
def optx {α : Type} (o : Option α) (K : α → Prop) : Prop := match o with | some a => K a | none => False
def asM (v : Value) (K : Nat → Prop) : Prop := match v with | .map r => optx r K | _ => False

/-! Pure operations: what they yield does not hang on the world. -/
def ibin (op : BinOp) (k : IntKind) (a b : Int) (K : Value → Prop) : Prop :=
  match op with
  | .add => K (.int k (k.wrap (a + b)))
  | .sub => K (.int k (k.wrap (a - b)))
  | .mul => K (.int k (k.wrap (a * b)))
  | .quo => ifB (b == 0) False (K (.int k (k.wrap (a.tdiv b))))
  | .rem => ifB (b == 0) False (K (.int k (a.tmod b)))
  | .and => K (.int k (k.wrap (BitVec.ofInt k.bits a &&& BitVec.ofInt k.bits b).toNat))
  | .or => K (.int k (k.wrap (BitVec.ofInt k.bits a ||| BitVec.ofInt k.bits b).toNat))
  | .xor => K (.int k (k.wrap (BitVec.ofInt k.bits a ^^^ BitVec.ofInt k.bits b).toNat))
  | .andNot => K (.int k (k.wrap (BitVec.ofInt k.bits a &&& ~~~ BitVec.ofInt k.bits b).toNat))
  | .eql => K (.bool (a == b))
  | .neq => K (.bool (a != b))
  | .lss => K (.bool (decide (a < b)))
  | .leq => K (.bool (decide (a ≤ b)))
  | .gtr => K (.bool (decide (a > b)))
  | .geq => K (.bool (decide (a ≥ b)))
  | .shl => ifB (decide (b < 0)) False (K (.int k (k.wrap (a * 2 ^ min b.toNat k.bits))))
  | .shr => ifB (decide (b < 0)) False (K (.int k (a.fdiv (2 ^ min b.toNat k.bits))))

def isShift : BinOp → Bool
  | .shl | .shr => true
  | _ => false

def isAg (P : Program) (t : TypeId) : Bool := match P.underlying t with
  | some (.struct _) | some (.array _ _) => true
  | _ => false

/-- A part of an aggregate. -/
def partV (P : Program) (t : TypeId) (cs : Array Value) (off : Nat) : Option Value :=
  match isAg P t with
  | true => some (.agg ((cs.toList.drop off).take (szOf P t)).toArray)
  | false => cs.toList[off]?

def andO : Option Bool → Option Bool → Option Bool
  | some a, some b => some (a && b)
  | _, _ => none

def eqStep (q : Value → Value → Option Bool) (a b : Option Value) (r : Option Bool) : Option Bool :=
  match a, b with
  | some a, some b => andO (q a b) r
  | _, _ => none

/-- ==, of integers, bools, and structs and arrays of these. -/
def eqV (P : Program) : Nat → TypeId → Value → Value → Option Bool
  | 0, _, _, _ => none
  | n + 1, t, x, y => match P.underlying t, x, y with
    | some (.int _), .int k a, .int l b => match decide (k = l) with
      | true => some (a == b)
      | false => none
    | some .bool, .bool a, .bool b => some (a == b)
    | some (.struct fs), .agg xs, .agg ys => match P.stoodInHeld t with
      | true => none
      | false => fs.toList.foldr (fun f r => match decide (f.name ≠ "_") with
        | true => eqStep (eqV P n f.type) (partV P f.type xs f.offset) (partV P f.type ys f.offset) r
        | false => r) (some true)
    | some (.array len el), .agg xs, .agg ys => match (P.info? el).isSome with
      | true => (List.range len).foldr (fun i r => eqStep (eqV P n el) (partV P el xs (i * szOf P el)) (partV P el ys (i * szOf P el)) r) (some true)
      | false => none
    | _, _, _ => none

def binx (P : Program) (op : BinOp) (t : TypeId) (x y : Value) (K : Value → Prop) : Prop :=
  match x, y with
  | .int k a, .int l b => ifB (isShift op || decide (k = l)) (ibin op k a b K) False
  | .float k a, .float l b => ifB (decide (k = l)) (match op with
    | .quo => optx (k.format.div a b) fun r => K (.float k r)
    | .eql => K (.bool (k.format.order a b == some .eq))
    | .neq => K (.bool (k.format.order a b != some .eq))
    | _ => False) False
  | .pointer p, .pointer none => match P.underlying t with
    | some (.pointer _) => match op with
      | .eql => K (.bool p.isNone)
      | .neq => K (.bool !p.isNone)
      | _ => False
    | _ => False
  | .slice p _ _, .slice none _ _ => match P.underlying t with
    | some (.slice _) => match op with
      | .eql => K (.bool p.isNone)
      | .neq => K (.bool !p.isNone)
      | _ => False
    | _ => False
  | .func _ _ _, .nilFunc => match P.underlying t with
    | some (.func _ _ _) => match op with
      | .eql => K (.bool false)
      | .neq => K (.bool true)
      | _ => False
    | _ => False
  | .bool a, .bool b => match P.underlying t with
    | some .bool => match op with
      | .eql => K (.bool (a == b))
      | .neq => K (.bool !(a == b))
      | _ => False
    | _ => False
  | .agg xs, .agg ys => ifB (P.eqGuardType P.depth t) False (match op with
    | .eql => optx (eqV P 9 t (.agg xs) (.agg ys)) fun r => K (.bool r)
    | .neq => optx (eqV P 9 t (.agg xs) (.agg ys)) fun r => K (.bool !r)
    | _ => False)
  | _, _ => False

def unx (op : UnOp) (x : Value) (K : Value → Prop) : Prop :=
  match op, x with
  | .not, .bool b => K (.bool !b)
  | .neg, .int k n => K (.int k (k.wrap (0 - n)))
  | .xor, .int k n => K (.int k (k.wrap (BitVec.ofInt k.bits (if k.signed then -1 else k.max) ^^^ BitVec.ofInt k.bits n).toNat))
  | _, _ => False

def convx (P : Program) (src dst : TypeId) (x : Value) (K : Value → Prop) : Prop :=
  match P.underlying src, P.underlying dst, x with
  | some (.int _), some (.int k), .int _ n => K (.int k (k.wrap n))
  | some (.int _), some (.float k), .int _ n => K (.float k (k.nearest n))
  | _, _, _ => False

/-- The place of a field, as its struct's type has it: only of fields that have cells. -/
def fieldOff (P : Program) (t : TypeId) (f : Nat) : Option Nat :=
  match P.underlying t with
  | some (.struct fs) => match fs[f]? with
    | some fd => match szOf P fd.type with
      | 0 => none
      | _ => some fd.offset
    | none => none
  | _ => none

def fieldx (P : Program) (t : TypeId) (x : Value) (f : Nat) (K : Value → Prop) : Prop :=
  match P.underlying t with
  | some (.struct fs) => match fs[f]? with
    | some fd => asG x fun cs => ifB (P.underlying fd.type).isSome (optx (partV P fd.type cs fd.offset) K) False
    | none => False
  | _ => False

def idxAddrx (P : Program) (t : TypeId) (x i : Value) (K : Value → Prop) : Prop :=
  asI i fun _ n => match P.underlying t with
  | some (.slice el) => asSl x fun b len _ => nilx b fun a => (0 ≤ n ∧ n < (len : Int)) ∧ ifB (P.info? el).isSome (K (.pointer (some (a.add (n.toNat * szOf P el))))) False
  | some (.array len el) => asA x fun a => (0 ≤ n ∧ n < (len : Int)) ∧ ifB (P.info? el).isSome (K (.pointer (some (a.add (n.toNat * szOf P el))))) False
  | _ => False

/-- An element of an array of one-cell elements, by value. -/
def idxx (P : Program) (t : TypeId) (x i : Value) (K : Value → Prop) : Prop :=
  asI i fun _ n => match P.underlying t with
  | some (.array len el) => asG x fun cs => ifB (!isAg P el && decide (szOf P el = 1) && (P.underlying el).isSome) (exL (match P.underlying el with | some d => lkOf d | none => .any) fun v => (0 ≤ n ∧ n < (len : Int)) ∧ cs.toList[n.toNat]? = some v ∧ K v) False
  | _ => False

/-- A slice of a slice; of a string; high and low may be left out. -/
def slicex (P : Program) (t : TypeId) (x : Value) (lo hi : Option Value) (K : Value → Prop) : Prop :=
  match P.underlying t, x with
  | some (.slice el), .slice a len cap => ifB (P.info? el).isSome
    (match hi with | some h => asI h fun _ n => (0 ≤ n ∧ n ≤ (cap : Int)) ∧ low n.toNat el a cap | none => low len el a cap) False
  | _, _ => False
where
  low (h : Nat) (el : TypeId) (a : Option Addr) (cap : Nat) : Prop :=
    match lo with
    | some l => asI l fun _ n => (0 ≤ n ∧ n ≤ (h : Int)) ∧ K (.slice (if cap = n.toNat then a else a.map (·.add (n.toNat * szOf P el))) (h - n.toNat) (cap - n.toNat))
    | none => K (.slice (if cap = 0 then a else a.map (·.add (0 * szOf P el))) (h - 0) (cap - 0))

def maxx : Value → List Value → (Value → Prop) → Prop
  | v, [], K => K v
  | .int k a, .int _ b :: r, K => maxx (.int k (if b > a then b else a)) r K
  | _, _, _ => False
def minx : Value → List Value → (Value → Prop) → Prop
  | v, [], K => K v
  | .int k a, .int _ b :: r, K => minx (.int k (if b < a then b else a)) r K
  | _, _, _ => False

def lenx (P : Program) (t : TypeId) (x : Value) (K : Value → Prop) : Prop :=
  match P.underlying t, x with
  | some .string, .string s => K (.int .i64 s.size)
  | some (.slice _), .slice _ n _ => K (.int .i64 n)
  | some (.array n _), _ => K (.int .i64 n)
  | _, _ => False

def capx (P : Program) (t : TypeId) (x : Value) (K : Value → Prop) : Prop :=
  match P.underlying t, x with
  | some (.slice _), .slice _ _ n => K (.int .i64 n)
  | _, _ => False

def fillx (place : Nat → Option (Nat × Nat)) (cells : List Value) : List (Nat × Value) → Option (List Value)
  | [] => some cells
  | (i, v) :: rest =>
    match place i with
    | none => none
    | some (off, size) =>
      match v.cells.toList.length == size && Nat.ble (off + size) cells.length with
      | true => fillx place (cells.take off ++ (v.cells.toList ++ cells.drop (off + size))) rest
      | false => none

def buildx (P : Program) (t : TypeId) (parts : List (Nat × Value)) (K : Value → Prop) : Prop :=
  optx (zxOf P t) fun z => match P.underlying t with
  | some (.struct fs) => ifB (fs.toList.all fun f => (P.info? f.type).isSome) (optx (fillx (fun i => (fs.toList[i]?).map fun f => (f.offset, szOf P f.type)) z.cells.toList parts) fun cs => K (.agg cs.toArray)) False
  | some (.array _ el) => ifB (P.info? el).isSome (optx (fillx (fun i => some (i * szOf P el, szOf P el)) z.cells.toList parts) fun cs => K (.agg cs.toArray)) False
  | _ => False

/-- Pure operations. -/
def pvv (P : Program) (op : Op) (vs : List Value) (K : Value → Prop) : Prop :=
  match op, vs with
  | .move _, [v] => K v
  | .assign _, [v] => K v
  | .pick _ _ _, [c, a, b] => asB c fun c => ifB c (K a) (K b)
  | .nilCheck _, [v] => asA v fun a => K (.pointer (some a))
  | .binOp op t _ _ _, [x, y] => binx P op t x y K
  | .unOp op _ _, [x] => unx op x K
  | .convert src dst _, [x] => convx P src dst x K
  | .fieldAddr s _ f, [x] => asA x fun a => optx (fieldOff P s f) fun n => K (.pointer (some (a.add n)))
  | .field t _ f, [x] => fieldx P t x f K
  | .indexAddr t _ _, [x, i] => idxAddrx P t x i K
  | .index t _ _, [x, i] => idxx P t x i K
  | .extract _ i, [x] => match x with
    | .tuple us => optx us.toList[i]? K
    | _ => False
  | .slice t _ lo hi none, x :: r => match lo, hi, r with
    | none, none, [] => slicex P t x none none K
    | some _, none, [l] => slicex P t x (some l) none K
    | none, some _, [h] => slicex P t x none (some h) K
    | some _, some _, [l, h] => slicex P t x (some l) (some h) K
    | _, _, _ => False
  | .makeFunc fn first _, vs => K (.func fn (vs.take first.size).toArray (vs.drop first.size).toArray)
  | .build t ps, vs => buildx P t ((ps.toList.map (·.1)).zip vs) K
  | .call c, vs => match c.callee, c.argTypes.toList with
    | .builtin .len, t :: _ => match vs with | [x] => lenx P t x K | _ => False
    | .builtin .cap, t :: _ => match vs with | [x] => capx P t x K | _ => False
    | .builtin .max, _ => match vs with | x :: r => maxx x r K | [] => False
    | .builtin .min, _ => match vs with | x :: r => minx x r K | [] => False
    | _, _ => False
  | _, _ => False

/-! Operations that read memory and leave it as it is. -/
def ldLs (w : World) (a : Addr) : List LK → Nat → (List Value → Prop) → Prop
  | [], _, K => K []
  | l :: ls, i, K => exL l fun v => w.cell? (a.add i) = some v ∧ ldLs w a ls (i + 1) fun vs => K (v :: vs)

def ldx (P : Program) (t : TypeId) (a : Addr) (w : World) (K : Value → Prop) : Prop :=
  match vkOf P t with
  | .leaf l => exL l fun v => w.cell? a = some v ∧ K v
  | .agg ls => ifB (Nat.beq ls.length (szOf P t)) (ldLs w a ls 0 fun vs => K (.agg vs.toArray)) False

def mapGot (o : Option (Nat × Value)) (K : Nat → Value → Prop) (K0 : Prop) : Prop := match o with | some (i, v) => K i v | none => K0

def mgot (res : Option (Nat × Value)) (z : Value) : Value := match res with
  | some (_, v) => v
  | none => z

/-- The map at r, searched for an integer key. -/
def Mapped (w : World) (r : Nat) (kk : IntKind) (n : Int) (es : Array MapEntry) (c : Nat) (res : Option (Nat × Value)) : Prop :=
  w.heap[r]? = some (.map es c) ∧ Instr.findNow (.int kk) (.int kk n) es.toList 0 = some res

def looky (P : Program) (t : TypeId) (m key : Value) (ok : Bool) (w : World) (K : Value → Prop) : Prop :=
  match P.underlying t with
  | some (.map kt el) => match P.underlying kt with
    | some (.int kk) => asM m fun r => asI key fun k n => ifB (decide (k = kk)) (optx (zxOf P el) fun z => ∃ es c res, Mapped w r kk n es c res ∧
        exV (vkOf P el) fun v => v = mgot res z ∧ K (if ok then .tuple #[v, .bool res.isSome] else v)) False
    | _ => False
  | _ => False

def lookx (P : Program) (t : TypeId) (m key : Value) (ok : Bool) (w : World) (K : Value → Prop) : Prop :=
  match P.underlying t with
  | some (.map kt el) => match P.underlying kt with
    | some (.int kk) => asM m fun r => asI key fun k n => ifB (decide (k = kk)) (∃ es c res, w.heap[r]? = some (.map es c) ∧ Instr.findNow (.int kk) (.int kk n) es.toList 0 = some res ∧
        mapGot res (fun _ v => exV (vkOf P el) fun v' => v = v' ∧ K (if ok then .tuple #[v', .bool true] else v'))
          (optx (zxOf P el) fun z => K (if ok then .tuple #[z, .bool false] else z))) False
    | _ => False
  | _ => False

def lvv (P : Program) (op : Op) (vs : List Value) (w : World) (K : Value → Prop) : Prop :=
  match op, vs with
  | .load t _, [v] => asA v fun a => ifB (P.underlying t).isSome (ldx P t a w K) False
  | .lookup t _ _ ok, [m, key] => looky P t m key ok w K
  | _, _ => False

/-! Operations that may turn memory. -/
def isLeaf : Value → Bool
  | .agg _ | .tuple _ => false
  | _ => true

def stx (w : World) (a : Addr) : List Value → Nat → (World → Prop) → Prop
  | [], _, K => K w
  | v :: vs, i, K => ifB (isLeaf v) ((∃ u, w.cell? (a.add i) = some u) ∧ w.frozen? (a.add i) = false ∧ stx (w.setCell (a.add i) v) a vs (i + 1) K) False

/-- So many cells of a row of zero values. -/
def zcells (z : List Value) : Nat → List Value
  | 0 => []
  | n + 1 => z ++ zcells z n

/-- On, in this world. -/
def atW (w : World) (K : World → Prop) : Prop := K w

def newx (w : World) (cs : List Value) (t : TypeId) (K : Value → World → Prop) : Prop :=
  atW (w.alloc (.cells cs.toArray t)) fun w' => K (.pointer (some ⟨w.heap.size, 0, none⟩)) w'

def mksx (P : Program) (t : TypeId) (l c : Value) (w : World) (K : Value → World → Prop) : Prop :=
  match P.underlying t with
  | some (.slice el) => asI l fun _ l => asI c fun _ c => (0 ≤ l ∧ l ≤ c ∧ c ≤ 2 ^ 40) ∧ ifB (Nat.ble (byOf P el) 64) (optx (zxOf P el) fun z => ifB (Nat.beq z.cells.toList.length (szOf P el) && Nat.ble 1 (szOf P el))
      (K (.slice (some ⟨w.heap.size, 0, none⟩) l.toNat c.toNat) (w.alloc (.cells (zcells z.cells.toList c.toNat).toArray el))) False) False
  | _ => False

/-- The first cells of a slice. -/
def rdx (w : World) (a : Option Addr) (n : Nat) (cs : List Value) : Prop :=
  cs.length = n ∧ match a with
  | some a => ∀ i, i < n → w.cell? (a.add i) = cs[i]?
  | none => n = 0

def wrx (w : World) (a : Addr) : List Value → Nat → World
  | [], _ => w
  | v :: vs, i => wrx (w.setCell (a.add i) v) a vs (i + 1)

def canWr (w : World) (a : Addr) (n : Nat) : Prop := ∀ i, i < n → (∃ u, w.cell? (a.add i) = some u) ∧ w.frozen? (a.add i) = false

def appx (P : Program) (t : TypeId) (s x : Value) (w : World) (K : Value → World → Prop) : Prop :=
  match P.underlying t with
  | some (.slice el) => asSl s fun base sl sc => asSl x fun src n _ => optx (zxOf P el) fun z => ifB (Nat.beq z.cells.toList.length (szOf P el) && (Nat.ble 1 (byOf P el) && Nat.ble 1 (szOf P el))) (
      ∃ old new : List Value, rdx w base (sl * szOf P el) old ∧ rdx w src (n * szOf P el) new ∧ (∀ v ∈ new, isLeaf v = true) ∧ (sl + n) * byOf P el ≤ 2 ^ 40 ∧
      (sl + n ≤ sc → (match base with
          | some a => canWr w (a.add (sl * szOf P el)) (n * szOf P el) ∧ K (.slice base (sl + n) sc) (wrx w (a.add (sl * szOf P el)) new 0)
          | none => K (.slice base (sl + n) sc) w)) ∧
      (sc < sl + n → ∀ nc, sl + n ≤ nc → K (.slice (some ⟨w.heap.size, 0, none⟩) (sl + n) nc) (w.drew.alloc (.cells (old ++ (new ++ zcells z.cells.toList (nc - (sl + n)))).toArray el)))) False
  | _ => False

/-- append(s, make([]T, m)...). -/
def appzx (P : Program) (t : TypeId) (s x : Value) (w : World) (K : Value → World → Prop) : Prop :=
  match P.underlying t with
  | some (.slice el) => asSl s fun base sl sc => asI x fun _ m => optx (zxOf P el) fun z => ifB (Nat.beq z.cells.toList.length (szOf P el) && (Nat.ble 1 (byOf P el) && Nat.ble 1 (szOf P el))) (
      ∃ old : List Value, rdx w base (sl * szOf P el) old ∧ (1 ≤ m ∧ ((sl : Int) + m) * byOf P el ≤ 2 ^ 40) ∧ (∀ v ∈ z.cells.toList, isLeaf v = true) ∧
      (sl + m.toNat ≤ sc → (match base with
          | some a => canWr w (a.add (sl * szOf P el)) (m.toNat * szOf P el) ∧ K (.slice base (sl + m.toNat) sc) (wrx w (a.add (sl * szOf P el)) (zcells z.cells.toList m.toNat) 0)
          | none => K (.slice base (sl + m.toNat) sc) w)) ∧
      (sc < sl + m.toNat → ∀ nc, sl + m.toNat ≤ nc → K (.slice (some ⟨w.heap.size, 0, none⟩) (sl + m.toNat) nc) (w.drew.alloc (.cells (old ++ (zcells z.cells.toList m.toNat ++ zcells z.cells.toList (nc - (sl + m.toNat)))).toArray el)))) False
  | _ => False

def clrx (P : Program) (t : TypeId) (x : Value) (w : World) (K : Value → World → Prop) : Prop :=
  match P.underlying t with
  | some (.slice el) => asSl x fun base n _ => optx (zxOf P el) fun z => ifB (z.cells.toList.all isLeaf && (Nat.beq z.cells.toList.length (szOf P el) && Nat.ble 1 (szOf P el))) (
      (n = 0 → K (.tuple #[]) w) ∧ (n ≠ 0 → nilx base fun a => canWr w a (n * szOf P el) ∧ K (.tuple #[]) (wrx w a (zcells z.cells.toList n) 0))) False
  | _ => False

def World.putB (w : World) (r : Nat) (o : Obj) : World := { w with heap := w.heap.setIfInBounds r o }

def delx (P : Program) (t : TypeId) (m key : Value) (w : World) (K : Value → World → Prop) : Prop :=
  match P.underlying t with
  | some (.map kt _) => match P.underlying kt with
    | some (.int kk) => asM m fun r => asI key fun k n => ifB (decide (k = kk)) (∃ es c res, w.heap[r]? = some (.map es c) ∧ Instr.findNow (.int kk) (.int kk n) es.toList 0 = some res ∧
        mapGot res (fun i _ => K (.tuple #[]) (World.putB w r (.map (es.eraseIdxIfInBounds i) c))) (K (.tuple #[]) (World.putB w r (.map es c)))) False
    | _ => False
  | _ => False

def mupx (P : Program) (t : TypeId) (m key v : Value) (w : World) (K : Value → World → Prop) : Prop :=
  match P.underlying t with
  | some (.map kt _) => match P.underlying kt with
    | some (.int kk) => asM m fun r => asI key fun k n => ifB (decide (k = kk)) (∃ es c res, w.heap[r]? = some (.map es c) ∧ Instr.findNow (.int kk) (.int kk n) es.toList 0 = some res ∧
        mapGot res (fun i _ => K undef (World.putB w r (.map (es.modify i fun x => { x with key := .int kk n, val := v }) c)))
          (K undef (World.putB w r (.map (es.push { key := .int kk n, val := v, born := c }) (c + 1))))) False
    | _ => False
  | _ => False

/-! The same, with one way on. -/
/-- What append of the cells 'new' to the slice (base, sl, sc) may leave: its base, its capacity, the world. -/
def AppTo (w : World) (base : Option Addr) (sl sc n sz : Nat) (old new z : List Value) (el : TypeId) (b : Option Addr) (c : Nat) (w' : World) : Prop :=
  (sl + n ≤ sc ∧ b = base ∧ c = sc ∧ w' = match base with
    | some a => wrx w (a.add (sl * sz)) new 0
    | none => w) ∨
  (sc < sl + n ∧ sl + n ≤ c ∧ b = some ⟨w.heap.size, 0, none⟩ ∧ w' = w.drew.alloc (.cells (old ++ (new ++ zcells z (c - (sl + n)))).toArray el))

def canApp (w : World) (base : Option Addr) (sl sc n sz : Nat) : Prop := sl + n ≤ sc → match base with
  | some a => canWr w (a.add (sl * sz)) (n * sz)
  | none => True

def appy (P : Program) (t : TypeId) (s x : Value) (w : World) (K : Value → World → Prop) : Prop :=
  match P.underlying t with
  | some (.slice el) => asSl s fun base sl sc => asSl x fun src n _ => optx (zxOf P el) fun z => ifB (Nat.beq z.cells.toList.length (szOf P el) && (Nat.ble 1 (byOf P el) && Nat.ble 1 (szOf P el))) (
      ∃ old new : List Value, rdx w base (sl * szOf P el) old ∧ rdx w src (n * szOf P el) new ∧ (∀ v ∈ new, isLeaf v = true) ∧ (sl + n) * byOf P el ≤ 2 ^ 40 ∧
      canApp w base sl sc n (szOf P el) ∧ ∀ b c w', AppTo w base sl sc n (szOf P el) old new z.cells.toList el b c w' → K (.slice b (sl + n) c) w') False
  | _ => False

def appzy (P : Program) (t : TypeId) (s x : Value) (w : World) (K : Value → World → Prop) : Prop :=
  match P.underlying t with
  | some (.slice el) => asSl s fun base sl sc => asI x fun _ m => optx (zxOf P el) fun z => ifB (Nat.beq z.cells.toList.length (szOf P el) && (Nat.ble 1 (byOf P el) && (Nat.ble 1 (szOf P el) && z.cells.toList.all isLeaf))) (
      ∃ old : List Value, rdx w base (sl * szOf P el) old ∧ (1 ≤ m ∧ ((sl : Int) + m) * byOf P el ≤ 2 ^ 40) ∧
      canApp w base sl sc m.toNat (szOf P el) ∧ ∀ b c w', AppTo w base sl sc m.toNat (szOf P el) old (zcells z.cells.toList m.toNat) z.cells.toList el b c w' → K (.slice b (sl + m.toNat) c) w') False
  | _ => False

def clry (P : Program) (t : TypeId) (x : Value) (w : World) (K : Value → World → Prop) : Prop :=
  match P.underlying t with
  | some (.slice el) => asSl x fun base n _ => optx (zxOf P el) fun z => ifB (z.cells.toList.all isLeaf && (Nat.beq z.cells.toList.length (szOf P el) && Nat.ble 1 (szOf P el))) (
      (match base with
        | some a => canWr w a (n * szOf P el)
        | none => n = 0) ∧ atW (match base with
        | some a => wrx w a (zcells z.cells.toList n) 0
        | none => w) fun w' => K (.tuple #[]) w') False
  | _ => False

def mdel (es : Array MapEntry) (c : Nat) (res : Option (Nat × Value)) : Obj := .map (match res with
  | some (i, _) => es.eraseIdxIfInBounds i
  | none => es) c

def mput (es : Array MapEntry) (c : Nat) (res : Option (Nat × Value)) (k v : Value) : Obj := match res with
  | some (i, _) => .map (es.modify i fun x => { x with key := k, val := v }) c
  | none => .map (es.push { key := k, val := v, born := c }) (c + 1)

def dely (P : Program) (t : TypeId) (m key : Value) (w : World) (K : Value → World → Prop) : Prop :=
  match P.underlying t with
  | some (.map kt _) => match P.underlying kt with
    | some (.int kk) => asM m fun r => asI key fun k n => ifB (decide (k = kk)) (∃ es c res, Mapped w r kk n es c res ∧ atW (World.putB w r (mdel es c res)) fun w' => K (.tuple #[]) w') False
    | _ => False
  | _ => False

def mupy (P : Program) (t : TypeId) (m key v : Value) (w : World) (K : Value → World → Prop) : Prop :=
  match P.underlying t with
  | some (.map kt _) => match P.underlying kt with
    | some (.int kk) => asM m fun r => asI key fun k n => ifB (decide (k = kk)) (∃ es c res, Mapped w r kk n es c res ∧ atW (World.putB w r (mput es c res (.int kk n) v)) fun w' => K undef w') False
    | _ => False
  | _ => False

/-- May this function be called as one with a Go body? -/
def okCallee (P : Program) (f : FuncId) : Bool :=
  match P.funcs[f]? with
  | some fn => fn.body.isSome && !(fn.name == "runtime.NumGoroutine")
  | none => false

def resKs (P : Program) (f : FuncId) : List VK := match P.funcs[f]? with
  | some fn => fn.resultTypes.toList.map (vkOf P)
  | none => []

/-- What a call hands back, by its results' types. -/
def resx (ks : List VK) (K : Value → Prop) : Prop := match ks with
  | [k] => exV k K
  | ks => exVs ks fun vs => K (.tuple vs.toArray)

/-- A call of yield of the loop l. -/
def YieldC (P : Program) (l : Nat) (args : Array Value) (w : World) (R : Ending → World → Prop) : Prop :=
  ∃ f tmps assign body, (Instr.yield l args).run P w = .ok (.round l f tmps assign body) w ∧ RoundIn Fence.wide 0 P l f tmps assign body w R

/-- A call of a function value. -/
def CallV (P : Program) (f : Value) (args : List Value) (w : World) (R : Ending → World → Prop) : Prop :=
  match f with
  | .func (.func g) first caps => ifB (okCallee P g) (Calls P g (first.toList ++ args ++ caps.toList).toArray w R) False
  | .func (.yield l) first _ => YieldC P l (first.toList ++ args).toArray w R
  | _ => False

def CallK (K : Value → World → Prop) (ks : List VK) (e : Ending) (w : World) : Prop := resx ks fun v => e = .returned v ∧ K v w

def callx (P : Program) (f : Value) (ks : List VK) (args : List Value) (w : World) (K : Value → World → Prop) : Prop :=
  match f with
  | .func (.func g) first caps => ifB (okCallee P g) (Calls P g (first.toList ++ args ++ caps.toList).toArray w (CallK K (resKs P g))) False
  | f => CallV P f args w (CallK K ks)

/-- The results' shapes, by the type of the called operation. -/
def tyKs (P : Program) (t : TypeId) : List VK := match P.underlying t with
  | some (.tuple ts) => ts.toList.map (vkOf P)
  | _ => [vkOf P t]

def hvv (P : Program) (op : Op) (ty : TypeId) (vs : List Value) (w : World) (K : Value → World → Prop) : Prop :=
  match op, vs with
  | .alloc t, [] => optx (zxOf P t) fun z => newx w z.cells.toList t K
  | .box t _, [v] => newx w v.cells.toList t K
  | .buildSlice t len ps, vs => match P.underlying t with
    | some (.slice el) => optx (zxOf P el) fun z => optx (fillx (fun i => some (i * szOf P el, szOf P el)) (zcells z.cells.toList len) ((ps.toList.map (·.1)).zip vs)) fun cs =>
        ifB ((Nat.ble 1 len && Nat.ble (len * szOf P el) 1024) && (Nat.beq z.cells.toList.length (szOf P el) && Nat.ble 1 (szOf P el))) (atW (w.alloc (.cells cs.toArray el)) fun w' => K (.slice (some ⟨w.heap.size, 0, none⟩) len len) w') False
    | _ => False
  | .store t _ _, [a, v] => asA a fun a => ifB ((P.info? t).isSome && Nat.beq v.cells.toList.length (szOf P t)) (stx w a v.cells.toList 0 fun w' => K undef w') False
  | .makeMap _ none, [] => atW (w.alloc (.map #[] 0)) fun w' => K (.map (some w.heap.size)) w'
  | .makeSlice t _ _, [l, c] => mksx P t l c w K
  | .mapUpdate t _ _ _, [m, k, v] => mupy P t m k v w K
  | .call c, vs => match c.callee with
    | .builtin .append => match c.argTypes.toList, vs with
      | t :: u :: _, [s, x] => match P.underlying u with
        | some (.int _) => appzy P t s x w K
        | some _ => appy P t s x w K
        | none => False
      | _, _ => False
    | .builtin .clear => match c.argTypes.toList, vs with
      | t :: _, [x] => clry P t x w K
      | _, _ => False
    | .builtin .delete => match c.argTypes.toList, vs with
      | t :: _, [m, k] => dely P t m k w K
      | _, _ => False
    | .value _ => match vs with
      | f :: args => callx P f (tyKs P ty) args w K
      | [] => False
    | _ => False
  | _, _ => False

/-- 0: pure · 1: reads memory · 2: all else. -/
def opcls : Op → Nat
  | .move _ | .assign _ | .pick .. | .nilCheck _ | .binOp .. | .unOp .. | .convert .. | .fieldAddr .. | .field .. | .indexAddr .. | .index .. | .extract .. | .slice .. | .makeFunc .. | .build .. => 0
  | .load .. | .lookup .. => 1
  | .call c => match c.callee with
    | .builtin .len | .builtin .cap | .builtin .max | .builtin .min => 0
    | _ => 2
  | _ => 2

def opv (P : Program) (op : Op) (ty : TypeId) (vs : List Value) (w : World) (K : Value → World → Prop) : Prop :=
  match opcls op with
  | 0 => pvv P op vs fun v => K v w
  | 1 => lvv P op vs w fun v => K v w
  | _ => hvv P op ty vs w K

def dput (N : Nat) (dst : Option Tmp) (v : Value) (e : Env) (K : Env → Prop) : Prop :=
  match dst with
  | none => K e
  | some d => ifB (Nat.blt d N) (K ((d, v) :: e)) False

/-- One operation whose guard says yes. -/
def opE (P : Program) (N : Nat) (o : Oper) (e : Env) (w : World) (K : Env → World → Prop) : Prop :=
  xevs e (opnds o.op) fun vs => opv P o.op o.type vs w fun v w' => dput N o.dst v e fun e' => K e' w'

def dstOf (ops : List Oper) (j : Nat) : Option Nat := (ops[j]?).bind (·.dst)

def toB : Value → Option Bool
  | .bool b => some b
  | _ => none

/-- A guard's outcome. The Bool is written into the slot that was asked. -/
def guardE (ops : List Oper) (o : Oper) (e : Env) (yes no : Env → Prop) : Prop :=
  match o.guard with
  | none => yes e
  | some (j, want) => optx (dstOf ops j) fun s => optx (e.get s) fun v => match v with
    | .bool b => ifB b (ifB want (yes ((s, .bool true) :: e)) (no ((s, .bool true) :: e))) (ifB want (no ((s, .bool false) :: e)) (yes ((s, .bool false) :: e)))
    | .tuple _ => no e
    | _ => False

def stepE (P : Program) (N : Nat) (ops : List Oper) (o : Oper) (e : Env) (w : World) (K : Env → World → Prop) : Prop :=
  guardE ops o e (fun e => opE P N o e w K) (fun e => dput N o.dst undef e fun e' => K e' w)

def listE (P : Program) (N : Nat) (ops : List Oper) : List Oper → Env → World → (Env → World → Prop) → Prop
  | [], e, w, K => K e w
  | o :: r, e, w, K => stepE P N ops o e w fun e' w' => listE P N ops r e' w' K
end Go.Wx
end
section
/- The framework of these proofs, part 2: what the pure and the reading operations of part 1 say, the model's operations do. -/
namespace Go.Wx
open Go

theorem ifB_true {A B : Prop} : ifB true A B = A := rfl
theorem ifB_false {A B : Prop} : ifB false A B = B := rfl
theorem ifB_elim {b : Bool} {A B : Prop} (h : ifB b A B) : (b = true ∧ A) ∨ (b = false ∧ B) := by
  cases b
  · exact .inr ⟨rfl, h⟩
  · exact .inl ⟨rfl, h⟩
theorem ifB_left {b : Bool} {A : Prop} (h : ifB b A False) : b = true ∧ A := by
  cases b
  · exact h.elim
  · exact ⟨rfl, h⟩
theorem ifB_right {b : Bool} {A : Prop} (h : ifB b False A) : b = false ∧ A := by
  cases b
  · exact ⟨rfl, h⟩
  · exact h.elim
theorem optx_elim {α : Type} {o : Option α} {K : α → Prop} (h : optx o K) : ∃ a, o = some a ∧ K a := by
  cases o
  · exact h.elim
  · exact ⟨_, rfl, h⟩
theorem asB_elim {v : Value} {K : Bool → Prop} (h : asB v K) : ∃ b, v = .bool b ∧ K b := by
  cases v <;> first | exact h.elim | exact ⟨_, rfl, h⟩
theorem asI_elim {v : Value} {K : IntKind → Int → Prop} (h : asI v K) : ∃ k n, v = .int k n ∧ K k n := by
  cases v <;> first | exact h.elim | exact ⟨_, _, rfl, h⟩
theorem nilx_elim {p : Option Addr} {K : Addr → Prop} (h : nilx p K) : ∃ a, p = some a ∧ K a := by
  cases p <;> first | exact h.elim | exact ⟨_, rfl, h⟩
theorem asA_elim {v : Value} {K : Addr → Prop} (h : asA v K) : ∃ a, v = .pointer (some a) ∧ K a := by
  cases v <;> first | exact h.elim | skip
  obtain ⟨a, rfl, h⟩ := nilx_elim h
  exact ⟨a, rfl, h⟩
theorem asG_elim {v : Value} {K : Array Value → Prop} (h : asG v K) : ∃ cs, v = .agg cs ∧ K cs := by
  cases v <;> first | exact h.elim | exact ⟨_, rfl, h⟩
theorem asSl_elim {v : Value} {K : Option Addr → Nat → Nat → Prop} (h : asSl v K) : ∃ a l c, v = .slice a l c ∧ K a l c := by
  cases v <;> first | exact h.elim | exact ⟨_, _, _, rfl, h⟩
theorem asM_elim {v : Value} {K : Nat → Prop} (h : asM v K) : ∃ r, v = .map (some r) ∧ K r := by
  cases v <;> first | exact h.elim | skip
  rename_i r
  cases r
  · exact h.elim
  · exact ⟨_, rfl, h⟩

theorem exL_elim {l : LK} {K : Value → Prop} (h : exL l K) : ∃ v, K v := by
  cases l
  case slice => obtain ⟨a, b, c, h⟩ := h; exact ⟨_, h⟩
  all_goals (obtain ⟨a, h⟩ := h; exact ⟨_, h⟩)

theorem szOf_run {P : Program} (t : TypeId) (h : (P.info? t).isSome = true) (w : World) : (sizeOf t).run P w = .ok (szOf P t) w := by
  obtain ⟨i, hi⟩ := Option.isSome_iff_exists.1 h
  simp [sizeOf, typeInfo, szOf, hi]
theorem info_of_underlying {P : Program} {t : TypeId} {d : TypeDesc} (h : P.underlying t = some d) : (P.info? t).isSome = true := by
  unfold Program.underlying at h
  cases hi : P.info? t with
  | none => simp [hi] at h
  | some i => rfl

/-- What an operation, run in every world, comes to. -/
def Yl (P : Program) (ρ : Operand → Value) (op : Op) (v : Value) : Prop :=
  ∀ dst ty pos after guard w, (execOp ρ ⟨dst, op, ty, pos, after, guard⟩).run P w = .ok (.value v) w

theorem Yl.of {P : Program} {ρ : Operand → Value} {op : Op} {v : Value} (s : Sem Value) (he : ∀ dst ty pos after guard, execOp ρ ⟨dst, op, ty, pos, after, guard⟩ = (do pure (.value (← s))))
    (h : ∀ w, s.run P w = .ok v w) : Yl P ρ op v := fun dst ty pos after guard w => by
  rw [he, Sem.run_bind, h w]; rfl

section pure
variable {P : Program} {ρ : Operand → Value} {K : Value → Prop}

theorem ibin_sound {op : BinOp} {k l : IntKind} {a b : Int} {t : TypeId} (hk : (isShift op || decide (k = l)) = true) (h : ibin op k a b K) :
    ∃ v, K v ∧ ∀ w, (binOp op t (.int k a) (.int l b)).run P w = .ok v w := by
  have hkl : isShift op = false → k = l := fun h => by rw [h] at hk; simpa using hk
  cases op
  all_goals simp only [ibin] at h
  case quo =>
    obtain ⟨hb, h⟩ := ifB_right h
    refine ⟨_, h, fun w => ?_⟩
    have : ¬ b = 0 := by simpa using hb
    obtain rfl := hkl rfl
    simp [binOp, Op.intDiv, this]
  case rem =>
    obtain ⟨hb, h⟩ := ifB_right h
    refine ⟨_, h, fun w => ?_⟩
    have : ¬ b = 0 := by simpa using hb
    obtain rfl := hkl rfl
    simp [binOp, Op.intDiv, this]
  case shl =>
    obtain ⟨hb, h⟩ := ifB_right h
    refine ⟨_, h, fun w => ?_⟩
    have : ¬ b < 0 := by simpa using hb
    simp [binOp, Op.shift, this]
  case shr =>
    obtain ⟨hb, h⟩ := ifB_right h
    refine ⟨_, h, fun w => ?_⟩
    have : ¬ b < 0 := by simpa using hb
    simp [binOp, Op.shift, this]
  all_goals
    obtain rfl := hkl rfl
    exact ⟨_, h, fun w => by simp [binOp, Op.intArith, Op.intBits, Op.intCmp]⟩


theorem isAgg_run (t : TypeId) (h : (P.info? t).isSome = true) (hu : (P.underlying t).isSome = true) (w : World) : (isAgg t).run P w = .ok (isAg P t) w := by
  obtain ⟨d, hd⟩ := Option.isSome_iff_exists.1 hu
  have := h
  cases d <;> simp [isAgg, isAg, run_underlying hd, hd]

theorem extract_eq (cs : Array Value) (a n : Nat) : cs.extract a (a + n) = ((cs.toList.drop a).take n).toArray := by
  apply Array.ext'
  simp

theorem partV_run {t : TypeId} {cs : Array Value} {off : Nat} {v : Value} (hu : (P.underlying t).isSome = true) (h : partV P t cs off = some v) (w : World) : (part t cs off).run P w = .ok v w := by
  obtain ⟨d, hd⟩ := Option.isSome_iff_exists.1 hu
  have hi := info_of_underlying hd
  unfold partV at h
  unfold part
  rw [Sem.run_bind, isAgg_run t hi hu]
  cases hg : isAg P t with
  | true =>
    simp only [hg, Option.some.injEq] at h
    subst h
    simp only [Result.andThen_ok, if_true, Sem.run_bind, szOf_run t hi, Sem.run_pure, extract_eq]
  | false =>
    simp only [hg] at h
    rw [Array.getElem?_toList] at h
    simp [h]

theorem andO_some {a b : Option Bool} {r : Bool} (h : andO a b = some r) : ∃ p q, a = some p ∧ b = some q ∧ r = (p && q) := by
  cases a <;> cases b <;> simp [andO] at h
  exact ⟨_, _, rfl, rfl, h.symm⟩
theorem eqStep_some {q : Value → Value → Option Bool} {a b : Option Value} {r : Option Bool} {x : Bool} (h : eqStep q a b r = some x) :
    ∃ u v p s, a = some u ∧ b = some v ∧ q u v = some p ∧ r = some s ∧ x = (p && s) := by
  unfold eqStep at h
  cases a <;> cases b <;> simp only [] at h <;> try contradiction
  obtain ⟨p, s, h1, h2, h3⟩ := andO_some h
  exact ⟨_, _, p, s, rfl, rfl, h1, h2, h3⟩

theorem eqV_underlying {n : Nat} {t : TypeId} {x y : Value} {r : Bool} (h : eqV P n t x y = some r) : (P.underlying t).isSome = true := by
  cases n with
  | zero => simp [eqV] at h
  | succ n =>
    unfold eqV at h
    cases hu : P.underlying t with
    | none => simp [hu] at h
    | some d => rfl

theorem eqV_run : ∀ (n : Nat) {t : TypeId} {x y : Value} {r : Bool}, eqV P n t x y = some r → ∀ d w, (Op.equalIn (d + n) t x y).run P w = .ok r w := by
  intro n
  induction n with
  | zero => intro t x y r h; simp [eqV] at h
  | succ n ih =>
    intro t x y r h d w
    have hu0 := eqV_underlying h
    obtain ⟨ds, hu⟩ := Option.isSome_iff_exists.1 hu0
    unfold eqV at h
    rw [hu] at h
    split at h
    · rename_i k a l b he
      obtain rfl := Option.some.inj he
      split at h
      · rename_i hk
        obtain rfl : k = l := by simpa using hk
        obtain rfl := Option.some.inj h
        exact run_equalIn_int w (d + n) t k _ _ _ hu
      · contradiction
    · rename_i a b he
      obtain rfl := Option.some.inj he
      obtain rfl := Option.some.inj h
      exact run_equalIn_bool w (d + n) t _ _ hu
    · rename_i fs xs ys he
      obtain rfl := Option.some.inj he
      split at h
      · contradiction
      · rename_i hp
        have hf : P.fieldsOf t = fs := by unfold Program.fieldsOf; rw [hu]
        have := run_equalIn_struct (P := P) w (d + n) t xs ys (by rw [hf]; exact hu) hp
        rw [show d + (n + 1) = d + n + 1 from rfl, this, hf]
        clear this
        revert h r
        induction fs.toList with
        | nil => intro r h; obtain rfl := Option.some.inj h; simp [Op.eqFields]
        | cons f fs ihf =>
          intro r h
          simp only [List.foldr_cons] at h
          simp only [Op.eqFields]
          split at h
          · rename_i hn
            rw [if_pos (by simpa using hn)]
            obtain ⟨u, v, p, s, h1, h2, h3, h4, h5⟩ := eqStep_some h
            have hut := eqV_underlying h3
            simp only [Sem.run_bind, partV_run hut h1, partV_run hut h2, Result.andThen_ok, ih h3 d w]
            have hs := ihf h4
            cases p
            · simp [h5]
            · simp [h5, hs]
          · rename_i hn
            rw [if_neg (by simpa using hn)]
            exact ihf h
    · rename_i len el xs ys he
      obtain rfl := Option.some.inj he
      have hel : ∀ (is : List Nat) (r : Bool), is.foldr (fun i r => eqStep (eqV P n el) (partV P el xs (i * szOf P el)) (partV P el ys (i * szOf P el)) r) (some true) = some r →
          (Op.eqItems (d + n) el (szOf P el) xs ys is).run P w = .ok r w := by
        intro is
        induction is with
        | nil => intro r h; obtain rfl := Option.some.inj h; simp [Op.eqItems]
        | cons i is ihi =>
          intro r h
          simp only [List.foldr_cons] at h
          obtain ⟨u, v, p, s, h1, h2, h3, h4, h5⟩ := eqStep_some h
          have hut := eqV_underlying h3
          simp only [Op.eqItems, Sem.run_bind, partV_run hut h1, partV_run hut h2, Result.andThen_ok, ih h3 d w]
          have hs := ihi s h4
          cases p
          · simp [h5]
          · simp [h5, hs]
      split at h
      · rename_i hi0
        obtain ⟨i, hi⟩ := Option.isSome_iff_exists.1 hi0
        rw [show d + (n + 1) = d + n + 1 from rfl, run_equalIn_array w (d + n) xs ys hu hi]
        exact hel _ _ h
      · contradiction
    · contradiction

theorem run_op_equal {t : TypeId} {x y : Value} {r : Bool} {d : Nat} (hd : d ≤ 10000) (h : ∀ d' w, (Op.equalIn (d' + d) t x y).run P w = .ok r w) (w : World) : (Op.equal t x y).run P w = .ok r w := by
  have := h (10000 - d) w
  rwa [show 10000 - d + d = 10000 by omega] at this

theorem binx_sound {op : BinOp} {t : TypeId} {xo yo : Operand} {x y : Value} (h : binx P op t x y K) :
    ∃ v, K v ∧ ∀ w, (do eqGuard op t xo yo x y; binOp op t x y : Sem Value).run P w = .ok v w := by
  unfold binx at h
  split at h
  · obtain ⟨hk, h⟩ := ifB_left h
    obtain ⟨v, hv, hr⟩ := ibin_sound (t := t) hk h
    exact ⟨v, hv, fun w => by rw [eqGuard_at_int]; simpa using hr w⟩
  · rename_i k a l b
    have h1 := ifB_left h
    clear h
    obtain ⟨hk, h⟩ := h1
    obtain rfl : k = l := by simpa using hk
    cases op <;> try exact h.elim
    case quo =>
      obtain ⟨r, hr, h⟩ := optx_elim h
      exact ⟨_, h, fun w => by rw [eqGuard_at_float]; simp [binOp, Op.floatArith, hr]⟩
    case eql => exact ⟨_, h, fun w => by rw [eqGuard_at_float]; simp [binOp, Op.floatCmp]⟩
    case neq => exact ⟨_, h, fun w => by rw [eqGuard_at_float]; simp [binOp, Op.floatCmp]⟩
  · rename_i p
    split at h <;> try exact h.elim
    rename_i el hu
    have hr := run_op_equal (d := 1) (by omega) (fun d' w => run_equalIn_pointer_nil (P := P) w d' t p (by unfold Program.pointee; rw [hu]))
    cases op <;> try exact h.elim
    case eql => exact ⟨_, h, fun w => by rw [eqGuard_at_pointer]; simp [binOp, hr]⟩
    case neq => exact ⟨_, h, fun w => by rw [eqGuard_at_pointer]; simp [binOp, hr]⟩
  · rename_i p l c l' c'
    split at h <;> try exact h.elim
    rename_i el hu
    have hr := run_op_equal (P := P) (d := 1) (by omega) (fun d' w => show (Op.equalIn (d' + 1) t (.slice p l c) (.slice none l' c')).run P w = .ok p.isNone w by
      cases p <;> simp [Op.equalIn, run_underlying hu])
    cases op <;> try exact h.elim
    case eql => exact ⟨_, h, fun w => by rw [eqGuard_at_slice]; simp [binOp, hr]⟩
    case neq => exact ⟨_, h, fun w => by rw [eqGuard_at_slice]; simp [binOp, hr]⟩
  · rename_i f a b
    split at h <;> try exact h.elim
    rename_i q1 q2 q3 hu
    have hr := run_op_equal (P := P) (d := 1) (by omega) (fun d' w => show (Op.equalIn (d' + 1) t (.func f a b) .nilFunc).run P w = .ok false w by
      simp [Op.equalIn, run_underlying hu])
    cases op <;> try exact h.elim
    case eql => exact ⟨_, h, fun w => by rw [eqGuard_at_func]; simp [binOp, hr]⟩
    case neq => exact ⟨_, h, fun w => by rw [eqGuard_at_func]; simp [binOp, hr]⟩
  · rename_i a b
    split at h <;> try exact h.elim
    rename_i hu
    cases op <;> try exact h.elim
    case eql => exact ⟨_, h, fun w => by rw [eqGuard_at_bool]; simp [run_eql_bool w t a b hu]⟩
    case neq => exact ⟨_, h, fun w => by rw [eqGuard_at_bool]; simp [run_neq_bool w t a b hu]⟩
  · rename_i xs ys
    obtain ⟨hg, h⟩ := ifB_right h
    cases op <;> try exact h.elim
    case eql =>
      obtain ⟨r, hr, h⟩ := optx_elim h
      have he := run_op_equal (P := P) (d := 9) (by omega) (eqV_run 9 hr)
      exact ⟨_, h, fun w => by rw [Sem.run_bind, run_eqGuard_agg w _ t xo yo xs ys hg]; simp [binOp, he]⟩
    case neq =>
      obtain ⟨r, hr, h⟩ := optx_elim h
      have he := run_op_equal (P := P) (d := 9) (by omega) (eqV_run 9 hr)
      exact ⟨_, h, fun w => by rw [Sem.run_bind, run_eqGuard_agg w _ t xo yo xs ys hg]; simp [binOp, he]⟩
  · exact h.elim

theorem unx_sound {op : UnOp} {x : Value} (h : unx op x K) : ∃ v, K v ∧ ∀ w, (Op.unary op x).run P w = .ok v w := by
  unfold unx at h
  split at h
  · exact ⟨_, h, fun w => by simp [Op.unary]⟩
  · exact ⟨_, h, fun w => by simp [Op.unary, Op.intArith]⟩
  · exact ⟨_, h, fun w => by simp only [Op.unary, Op.intBits]; rfl⟩
  · exact h.elim

theorem convx_sound {src dst : TypeId} {x : Value} (h : convx P src dst x K) : ∃ v, K v ∧ ∀ w, (convert src dst x).run P w = .ok v w := by
  unfold convx at h
  split at h
  · rename_i k0 k l n hs hd
    exact ⟨_, h, fun w => by simp [convert, run_underlying hs, run_underlying hd, Conv.intToInt]⟩
  · rename_i k0 k l n hs hd
    exact ⟨_, h, fun w => by simp [convert, run_underlying hs, run_underlying hd, Conv.intToFloat]⟩
  · exact h.elim

theorem fieldx_sound {t : TypeId} {x : Value} {f : Nat} (h : fieldx P t x f K) : ∃ v, K v ∧ ∀ w, (Instr.field t x f).run P w = .ok v w := by
  unfold fieldx at h
  split at h <;> try exact h.elim
  rename_i fs hu
  split at h <;> try exact h.elim
  rename_i fd hf
  obtain ⟨cs, rfl, h⟩ := asG_elim h
  obtain ⟨hi, h⟩ := ifB_left h
  obtain ⟨v, hv, h⟩ := optx_elim h
  refine ⟨v, h, fun w => ?_⟩
  simp [Instr.field, run_underlying hu, hf, asAgg, partV_run hi hv]

theorem fieldOff_sound {t : TypeId} {f n : Nat} {a : Addr} (h : fieldOff P t f = some n) (w : World) : (Instr.fieldAt t (.pointer (some a)) f).run P w = .ok (.pointer (some (a.add n))) w := by
  unfold fieldOff at h
  split at h <;> try contradiction
  rename_i fs hu
  split at h <;> try contradiction
  rename_i fd hf
  split at h <;> try contradiction
  rename_i k hk
  obtain rfl := Option.some.inj h
  have hi : (P.info? fd.type).isSome = true := by
    cases hi : P.info? fd.type with
    | none => exact absurd (by simp [szOf, hi]) hk
    | some i => rfl
  have hk' : ¬ szOf P fd.type = 0 := hk
  simp [Instr.fieldAt, run_underlying hu, hf, Instr.sureAddr, fieldPlace, szOf_run _ hi, hk']

theorem idxAddrx_sound {t : TypeId} {x i : Value} (h : idxAddrx P t x i K) : ∃ v, K v ∧ ∀ w, (Instr.indexAt t x i).run P w = .ok v w := by
  unfold idxAddrx at h
  obtain ⟨k, n, rfl, h⟩ := asI_elim h
  split at h <;> try exact h.elim
  · rename_i el hu
    obtain ⟨b, len, cap, rfl, h⟩ := asSl_elim h
    obtain ⟨a, rfl, hr, h⟩ := nilx_elim h
    obtain ⟨hi, h⟩ := ifB_left h
    refine ⟨_, h, fun w => ?_⟩
    simp [Instr.indexAt, run_underlying hu, asIntOf, hr, szOf_run _ hi]
  · rename_i len el hu
    obtain ⟨a, rfl, hr, h⟩ := asA_elim h
    obtain ⟨hi, h⟩ := ifB_left h
    refine ⟨_, h, fun w => ?_⟩
    simp [Instr.indexAt, run_underlying hu, asIntOf, hr, szOf_run _ hi, Instr.sureAddr]

theorem idxx_sound {t : TypeId} {x i : Value} (h : idxx P t x i K) : ∃ v, K v ∧ ∀ w, (Instr.index t x i).run P w = .ok v w := by
  unfold idxx at h
  obtain ⟨k, n, rfl, h⟩ := asI_elim h
  split at h <;> try exact h.elim
  · rename_i len el hu
    obtain ⟨cs, rfl, h⟩ := asG_elim h
    obtain ⟨hc, h⟩ := ifB_left h
    simp only [Bool.and_eq_true, Bool.not_eq_true', decide_eq_true_eq] at hc
    obtain ⟨⟨hg, hs⟩, hu'⟩ := hc
    obtain ⟨v, hr, hv, hK⟩ := exL_elim h
    refine ⟨v, hK, fun w => ?_⟩
    have hp : partV P el cs (n.toNat * 1) = some v := by unfold partV; rw [hg]; simpa using hv
    have hi : (P.info? el).isSome = true := by obtain ⟨d, hd⟩ := Option.isSome_iff_exists.1 hu'; exact info_of_underlying hd
    simp [Instr.index, run_underlying hu, asIntOf, hr, szOf_run _ hi, hs, ← partV_run hu' hp w]

theorem low_sound {lo : Option Value} {el : TypeId} {a : Option Addr} {len cap h : Nat} {hi : Option Value} (hi' : (P.info? el).isSome = true) {t : TypeId} (hu : P.underlying t = some (.slice el))
    (hh : ∀ w, (match hi with | some v => Instr.sliceBound v cap .sliceAcap | none => pure len : Sem Nat).run P w = .ok h w) (hl : slicex.low P lo K h el a cap) :
    ∃ v, K v ∧ ∀ w, (Instr.slice t (.slice a len cap) lo hi none).run P w = .ok v w := by
  have hb : ∃ l : Nat, (∀ w, (match lo with | some v => Instr.sliceBound v h .sliceB | none => pure 0 : Sem Nat).run P w = .ok l w) ∧ K (.slice (if cap = l then a else a.map (·.add (l * szOf P el))) (h - l) (cap - l)) := by
    unfold slicex.low at hl
    split at hl
    · obtain ⟨k, n, rfl, hr, hl⟩ := asI_elim hl
      exact ⟨n.toNat, fun w => by simp [Instr.sliceBound, asIntOf, hr], hl⟩
    · exact ⟨0, fun w => rfl, hl⟩
  obtain ⟨l, hl1, hl2⟩ := hb
  refine ⟨_, hl2, fun w => ?_⟩
  simp only [Instr.slice, Sem.run_bind, run_underlying hu, Result.andThen_ok]
  have hm : (Instr.sliceBounds true len cap lo hi none).run P w = .ok (l, h, cap) w := by
    cases hi with
    | none =>
      obtain rfl : len = h := by have := hh w; simpa using this
      cases lo with
      | none => obtain rfl : 0 = l := by have := hl1 w; simpa using this
                rfl
      | some v => have := hl1 w; simp only [] at this; simp [Instr.sliceBounds, this]
    | some u =>
      have h2 := hh w
      simp only [] at h2
      cases lo with
      | none => obtain rfl : 0 = l := by have := hl1 w; simpa using this
                simp [Instr.sliceBounds, h2]
      | some v => have := hl1 w; simp only [] at this; simp [Instr.sliceBounds, h2, this]
  simp only [hm, Result.andThen_ok, szOf_run _ hi', Sem.run_pure]

theorem slicex_sound {t : TypeId} {x : Value} {lo hi : Option Value} (h : slicex P t x lo hi K) : ∃ v, K v ∧ ∀ w, (Instr.sliceAt t x lo hi none).run P w = .ok v w := by
  unfold slicex at h
  split at h <;> try exact h.elim
  rename_i el a len cap hu
  obtain ⟨hi', h⟩ := ifB_left h
  have hs : ∀ w, (Instr.sliceAt t (.slice a len cap) lo hi none).run P w = (Instr.slice t (.slice a len cap) lo hi none).run P w := fun w => by
    simp only [Instr.sliceAt, Sem.run_bind, run_underlying hu, Result.andThen_ok]
  simp only [hs]
  split at h
  · obtain ⟨k, n, rfl, hr, h⟩ := asI_elim h
    exact low_sound hi' hu (fun w => by simp [Instr.sliceBound, asIntOf, hr]) h
  · exact low_sound hi' hu (fun w => rfl) h

theorem maxx_sound : ∀ (r : List Value) {v : Value}, maxx v r K → ∃ u, K u ∧ ∀ w, (r.foldlM Builtin.max2 v : Sem Value).run P w = .ok u w
  | [], v, h => ⟨v, h, fun w => rfl⟩
  | y :: r, v, h => by
    cases v <;> cases y <;> try exact h.elim
    rename_i k a l b
    obtain ⟨u, hu, hr⟩ := maxx_sound r h
    exact ⟨u, hu, fun w => by simp only [List.foldlM_cons, Builtin.max2, pure_bind]; exact hr w⟩
theorem minx_sound : ∀ (r : List Value) {v : Value}, minx v r K → ∃ u, K u ∧ ∀ w, (r.foldlM Builtin.min2 v : Sem Value).run P w = .ok u w
  | [], v, h => ⟨v, h, fun w => rfl⟩
  | y :: r, v, h => by
    cases v <;> cases y <;> try exact h.elim
    rename_i k a l b
    obtain ⟨u, hu, hr⟩ := minx_sound r h
    exact ⟨u, hu, fun w => by simp only [List.foldlM_cons, Builtin.min2, pure_bind]; exact hr w⟩

theorem lenx_sound {t : TypeId} {ts : List TypeId} {x : Value} (h : lenx P t x K) : ∃ v, K v ∧ ∀ ty w, (Builtin.len_ (t :: ts).toArray ty #[x]).run P w = .ok v w := by
  unfold lenx at h
  split at h
  · rename_i s hu; exact ⟨_, h, fun _ w => by simp [Builtin.len_, run_underlying hu, goInt]⟩
  · rename_i el a n c hu; exact ⟨_, h, fun _ w => by simp [Builtin.len_, run_underlying hu, goInt]⟩
  · rename_i n el hu; exact ⟨_, h, fun _ w => by simp [Builtin.len_, run_underlying hu, goInt]⟩
  · exact h.elim
theorem capx_sound {t : TypeId} {ts : List TypeId} {x : Value} (h : capx P t x K) : ∃ v, K v ∧ ∀ ty w, (Builtin.cap_ (t :: ts).toArray ty #[x]).run P w = .ok v w := by
  unfold capx at h
  split at h
  · rename_i el a n c hu; exact ⟨_, h, fun _ w => by simp [Builtin.cap_, run_underlying hu, goInt]⟩
  · exact h.elim
end pure
end Go.Wx
end
section
/- The framework of these proofs, part 3: pure operations all together; operations that read memory; operations that turn it. -/
namespace Go.Wx
open Go

section
variable {P : Program} {ρ : Operand → Value} {K : Value → Prop}

theorem fill_list {L l : List Value} {m : Nat} {c : Value} (h : m < L.length) :
    (L.set m c).take (m + 1) ++ (l ++ (L.set m c).drop (m + 1 + l.length)) = L.take m ++ (c :: l ++ L.drop (m + (l.length + 1))) := by
  obtain ⟨A, x, R, rfl, rfl⟩ : ∃ A x R, L = A ++ x :: R ∧ A.length = m := ⟨L.take m, L[m], L.drop (m + 1), by simp, by simp; omega⟩
  rw [List.set_append_right _ _ (Nat.le_refl _), Nat.sub_self, List.set_cons_zero]
  have e1 : (A ++ c :: R).take (A.length + 1) = A ++ [c] := by rw [List.take_append, List.take_of_length_le (by omega)]; simp
  have e2 : (A ++ c :: R).drop (A.length + 1 + l.length) = R.drop l.length := by
    rw [List.drop_append]; simp [Nat.add_assoc, Nat.add_comm 1]
  have e3 : (A ++ x :: R).drop (A.length + (l.length + 1)) = R.drop l.length := by rw [List.drop_append]; simp
  rw [e1, e2, e3, List.take_left' rfl]
  simp

theorem fill_fold (off : Nat) : ∀ (l : List Value) (k : Nat) (cells : Array Value), off + k + l.length ≤ cells.size →
    (l.zipIdx k).foldl (fun (cs : Array Value) (x : Value × Nat) => cs.setIfInBounds (off + x.2) x.1) cells = (cells.toList.take (off + k) ++ (l ++ cells.toList.drop (off + k + l.length))).toArray
  | [], k, cells, _ => by simp
  | c :: l, k, cells, h => by
    simp only [List.length_cons] at h
    simp only [List.zipIdx_cons, List.foldl_cons]
    rw [fill_fold off l (k + 1) _ (by simp only [Array.size_setIfInBounds]; omega)]
    rw [Array.toList_setIfInBounds, show off + (k + 1) = off + k + 1 by omega, fill_list (by simp; omega)]
    simp only [List.length_cons]

theorem fill_eq {place : Nat → Option (Nat × Nat)} : ∀ (parts : List (Nat × Value)) {cells : Array Value} {cs : List Value}, fillx place cells.toList parts = some cs → Instr.fill place cells parts = some cs.toArray
  | [], cells, cs, h => by
    obtain rfl := Option.some.inj h
    simp [Instr.fill]
  | (i, v) :: r, cells, cs, h => by
    unfold fillx at h
    unfold Instr.fill
    cases hp : place i with
    | none => simp [hp] at h
    | some q =>
      obtain ⟨off, size⟩ := q
      simp only [hp] at h ⊢
      split at h
      · rename_i hc
        simp only [Bool.and_eq_true, beq_iff_eq, Nat.ble_eq] at hc
        obtain ⟨h1, h2⟩ := hc
        have h1' : v.cells.size = size := by simpa using h1
        have h2' : off + size ≤ cells.size := by simpa using h2
        rw [if_neg (by simp [h1']; omega)]
        have hf := fill_fold off v.cells.toList 0 cells (by simp only [h1]; omega)
        simp only [Nat.add_zero, h1] at hf
        rw [← Array.foldl_toList, Array.toList_zipIdx, hf]
        exact fill_eq r (by simpa using h)
      · contradiction

theorem zeroValue_run {t : TypeId} {z : Value} (h : zxOf P t = some z) (w : World) : (zeroValue t).run P w = .ok z w := by
  unfold zxOf at h
  cases hi : P.info? t with
  | none => simp [hi] at h
  | some i =>
    rw [hi] at h
    have hz : i.zero = some z := h
    simp [zeroValue, typeInfo, hi, hz]
theorem info_of_zx {t : TypeId} {z : Value} (h : zxOf P t = some z) : (P.info? t).isSome = true := by
  unfold zxOf at h
  cases hi : P.info? t with
  | none => simp [hi] at h
  | some i => rfl

theorem places_run (fs : List Field) (hf : fs.all (fun f => (P.info? f.type).isSome) = true) (w : World) :
    (fs.mapM fun f => do pure (f.offset, ← sizeOf f.type) : Sem (List (Nat × Nat))).run P w = .ok (fs.map fun f => (f.offset, szOf P f.type)) w := by
  induction fs with
  | nil => simp
  | cons f fs ih =>
    simp only [List.all_cons, Bool.and_eq_true] at hf
    simp only [List.mapM_cons, Sem.run_bind, szOf_run _ hf.1, Result.andThen_ok, Sem.run_pure, ih hf.2, List.map_cons]

theorem buildx_sound {t : TypeId} {parts : List (Nat × Value)} (h : buildx P t parts K) : ∃ v, K v ∧ ∀ w, (Instr.build t parts.toArray).run P w = .ok v w := by
  unfold buildx at h
  obtain ⟨z, hz, h⟩ := optx_elim h
  split at h <;> try exact h.elim
  · rename_i fs hu
    obtain ⟨hf, h⟩ := ifB_left h
    obtain ⟨cs, hcs, h⟩ := optx_elim h
    refine ⟨_, h, fun w => ?_⟩
    have hp : (fs.mapM fun (f : Field) => do pure (f.offset, ← sizeOf f.type) : Sem (Array (Nat × Nat))).run P w = .ok (fs.toList.map fun (f : Field) => (f.offset, szOf P f.type)).toArray w := by
      rw [Array.mapM_eq_mapM_toList, Sem.run_map, places_run _ hf]
      rfl
    have hfill := fill_eq parts hcs
    simp only [Instr.build, Sem.run_bind, zeroValue_run hz, Result.andThen_ok, run_underlying hu, hp]
    have : (fun x => (List.map (fun f : Field => (f.offset, szOf P f.type)) fs.toList).toArray[x]?) = (fun (i : Nat) => (fs.toList[i]?).map fun (f : Field) => (f.offset, szOf P f.type)) := by
      funext i; simp
    rw [this, hfill]
    rfl
  · rename_i n el hu
    obtain ⟨hi, h⟩ := ifB_left h
    obtain ⟨cs, hcs, h⟩ := optx_elim h
    refine ⟨_, h, fun w => ?_⟩
    have hfill := fill_eq parts hcs
    simp [Instr.build, zeroValue_run hz, run_underlying hu, szOf_run _ hi, hfill]

theorem build_parts (ps : Array (Nat × Operand)) : (ps.map fun (i, x) => (i, ρ x)) = ((ps.toList.map (·.1)).zip ((ps.toList.map (·.2)).map ρ)).toArray := by
  apply Array.ext'
  simp only [Array.toList_map]
  induction ps.toList with
  | nil => rfl
  | cons p l ih => simp [ih]

theorem slice_args {lo hi : Option Operand} {x : Operand} {vs : List Value} (h : (opnds (.slice 0 x lo hi none)).map ρ = vs) :
    ∃ r, vs = ρ x :: r ∧ r = (lo.toList ++ hi.toList).map ρ := by
  subst h
  exact ⟨_, rfl, by cases lo <;> cases hi <;> rfl⟩

theorem pvv_sound {op : Op} {vs : List Value} (h : pvv P op vs K) (hv : (opnds op).map ρ = vs) : ∃ v, K v ∧ Yl P ρ op v := by
  subst hv
  cases op <;> try exact h.elim
  case move x => exact ⟨ρ x, h, fun _ _ _ _ _ _ => rfl⟩
  case assign x => exact ⟨ρ x, h, fun _ _ _ _ _ _ => rfl⟩
  case pick c a b =>
    have h : asB (ρ c) fun c => ifB c (K (ρ a)) (K (ρ b)) := h
    obtain ⟨t, ht, h⟩ := asB_elim h
    refine ⟨if t then ρ a else ρ b, ?_, fun _ _ _ _ _ w => ?_⟩
    · cases t <;> exact h
    · simp [execOp, ht, asBool]
  case nilCheck x =>
    have h : asA (ρ x) fun a => K (.pointer (some a)) := h
    obtain ⟨a, ha, h⟩ := asA_elim h
    exact ⟨_, h, fun _ _ _ _ _ w => by simp [execOp, ha]⟩
  case binOp op t x y u =>
    have h : binx P op t (ρ x) (ρ y) K := h
    obtain ⟨v, hv, hr⟩ := binx_sound (xo := x) (yo := y) h
    exact ⟨v, hv, Yl.of _ (fun _ _ _ _ _ => rfl) hr⟩
  case unOp op t x =>
    have h : unx op (ρ x) K := h
    obtain ⟨v, hv, hr⟩ := unx_sound (P := P) h
    exact ⟨v, hv, Yl.of _ (fun _ _ _ _ _ => rfl) hr⟩
  case convert s d x =>
    have h : convx P s d (ρ x) K := h
    obtain ⟨v, hv, hr⟩ := convx_sound h
    exact ⟨v, hv, Yl.of _ (fun _ _ _ _ _ => rfl) hr⟩
  case makeFunc fn f c =>
    refine ⟨_, h, fun _ _ _ _ _ w => ?_⟩
    simp only [execOp, Instr.makeFunc, opnds]
    simp
    constructor <;> (apply Array.ext'; simp)
  case slice t x lo hi mx =>
    cases mx with
    | some m => cases lo <;> cases hi <;> exact h.elim
    | none =>
      have h : slicex P t (ρ x) (lo.map ρ) (hi.map ρ) K := by cases lo <;> cases hi <;> exact h
      obtain ⟨v, hv, hr⟩ := slicex_sound h
      exact ⟨v, hv, Yl.of _ (fun _ _ _ _ _ => rfl) hr⟩
  case fieldAddr t x f =>
    have h : asA (ρ x) fun a => optx (fieldOff P t f) fun n => K (.pointer (some (a.add n))) := h
    obtain ⟨a, ha, h⟩ := asA_elim h
    obtain ⟨n, hn, h⟩ := optx_elim h
    exact ⟨_, h, Yl.of _ (fun _ _ _ _ _ => rfl) fun w => by rw [ha]; exact fieldOff_sound hn w⟩
  case field t x f =>
    have h : fieldx P t (ρ x) f K := h
    obtain ⟨v, hv, hr⟩ := fieldx_sound h
    exact ⟨v, hv, Yl.of _ (fun _ _ _ _ _ => rfl) hr⟩
  case indexAddr t x i =>
    have h : idxAddrx P t (ρ x) (ρ i) K := h
    obtain ⟨v, hv, hr⟩ := idxAddrx_sound h
    exact ⟨v, hv, Yl.of _ (fun _ _ _ _ _ => rfl) hr⟩
  case index t x i =>
    have h : idxx P t (ρ x) (ρ i) K := h
    obtain ⟨v, hv, hr⟩ := idxx_sound h
    exact ⟨v, hv, Yl.of _ (fun _ _ _ _ _ => rfl) hr⟩
  case extract x i =>
    have h : (match ρ x with | .tuple us => optx us.toList[i]? K | _ => False) := h
    split at h <;> try exact h.elim
    rename_i us hu
    obtain ⟨v, hv, h⟩ := optx_elim h
    refine ⟨v, h, Yl.of _ (fun _ _ _ _ _ => rfl) fun w => ?_⟩
    rw [hu, Array.getElem?_toList] at *
    simp [Instr.extract, hv]
  case build t ps =>
    have h : buildx P t ((ps.toList.map (·.1)).zip ((ps.toList.map (·.2)).map ρ)) K := h
    obtain ⟨v, hv, hr⟩ := buildx_sound h
    exact ⟨v, hv, Yl.of _ (fun _ _ _ _ _ => rfl) fun w => by rw [build_parts]; exact hr w⟩
  case call c =>
    obtain ⟨callee, args, ats⟩ := c
    cases callee <;> try exact h.elim
    rename_i b
    obtain ⟨args⟩ := args
    obtain ⟨ats⟩ := ats
    have run : ∀ (s : TypeId → Sem Value) (v : Value), (∀ ty, builtin b ats.toArray ty (args.toArray.map fun | .const _ => true | _ => false) (args.toArray.map ρ) = (do pure (.value (← s ty)))) → (∀ ty w, (s ty).run P w = .ok v w) →
        Yl P ρ (.call ⟨.builtin b, args.toArray, ats.toArray⟩) v := fun s v hs hr _ ty _ _ _ w => by
      show (builtin b ats.toArray ty (args.toArray.map fun | .const _ => true | _ => false) (args.toArray.map ρ)).run P w = _
      rw [hs, Sem.run_bind, hr]
      rfl
    cases b <;> try (cases ats <;> exact h.elim)
    case len =>
      cases ats with
      | nil => exact h.elim
      | cons t ts =>
        match args, h, run with
        | [], h, _ => exact h.elim
        | [x], h, run =>
          have h : lenx P t (ρ x) K := h
          obtain ⟨v, hv, hr⟩ := lenx_sound (ts := ts) h
          exact ⟨v, hv, run (fun ty => Builtin.len_ (t :: ts).toArray ty ([x].toArray.map ρ)) v (fun ty => rfl) (by simpa using hr)⟩
        | _ :: _ :: _, h, _ => exact h.elim
    case cap =>
      cases ats with
      | nil => exact h.elim
      | cons t ts =>
        match args, h, run with
        | [], h, _ => exact h.elim
        | [x], h, run =>
          have h : capx P t (ρ x) K := h
          obtain ⟨v, hv, hr⟩ := capx_sound (ts := ts) h
          exact ⟨v, hv, run (fun ty => Builtin.cap_ (t :: ts).toArray ty ([x].toArray.map ρ)) v (fun ty => rfl) (by simpa using hr)⟩
        | _ :: _ :: _, h, _ => exact h.elim
    case max =>
      match args, h, run with
      | [], h, _ => cases ats <;> exact h.elim
      | x :: r, h, run =>
        have h : maxx (ρ x) (r.map ρ) K := by cases ats <;> exact h
        obtain ⟨v, hv, hr⟩ := maxx_sound (P := P) _ h
        exact ⟨v, hv, run (fun ty => Builtin.max_ ats.toArray ty ((x :: r).toArray.map ρ)) v (fun ty => rfl) (by simpa [Builtin.max_] using hr)⟩
    case min =>
      match args, h, run with
      | [], h, _ => cases ats <;> exact h.elim
      | x :: r, h, run =>
        have h : minx (ρ x) (r.map ρ) K := by cases ats <;> exact h
        obtain ⟨v, hv, hr⟩ := minx_sound (P := P) _ h
        exact ⟨v, hv, run (fun ty => Builtin.min_ ats.toArray ty ((x :: r).toArray.map ρ)) v (fun ty => rfl) (by simpa [Builtin.min_] using hr)⟩

/-! Operations that read memory. -/
theorem exLs_elim : ∀ {ls : List LK} {K : List Value → Prop}, exLs ls K → ∃ vs, vs.length = ls.length ∧ K vs
  | [], _, h => ⟨[], rfl, h⟩
  | l :: ls, K, h => by
    obtain ⟨v, h⟩ := exL_elim h
    obtain ⟨vs, hl, h⟩ := exLs_elim h
    exact ⟨v :: vs, by simp [hl], h⟩

theorem ldLs_elim {w : World} {a : Addr} : ∀ {ls : List LK} {i : Nat} {K : List Value → Prop}, ldLs w a ls i K →
    ∃ vs, vs.length = ls.length ∧ K vs ∧ ∀ j v, vs[j]? = some v → w.cell? (a.add (i + j)) = some v
  | [], i, K, h => ⟨[], rfl, h, fun j v hv => by simp at hv⟩
  | l :: ls, i, K, h => by
    obtain ⟨v, hv, h⟩ := exL_elim h
    obtain ⟨vs, hl, hK, hc⟩ := ldLs_elim h
    refine ⟨v :: vs, by simp [hl], hK, fun j u hu => ?_⟩
    cases j with
    | zero => simp at hu; subst hu; exact hv
    | succ j =>
      have := hc j u (by simpa using hu)
      rwa [show i + (j + 1) = i + 1 + j by omega]

theorem isAg_vk {t : TypeId} {d : TypeDesc} (hu : P.underlying t = some d) : (isAg P t = true ∧ vkOf P t = .agg (leaves P 9 t)) ∨ (isAg P t = false ∧ vkOf P t = .leaf (lkOf d)) := by
  unfold isAg vkOf
  rw [hu]
  cases d <;> first | exact .inl ⟨rfl, rfl⟩ | exact .inr ⟨rfl, rfl⟩

theorem ldx_sound {t : TypeId} {a : Addr} {w : World} (hu : (P.underlying t).isSome = true) (h : ldx P t a w K) : ∃ v, K v ∧ (Instr.loadAt t (.pointer (some a))).run P w = .ok v w := by
  obtain ⟨d, hd⟩ := Option.isSome_iff_exists.1 hu
  have hi := info_of_underlying hd
  unfold ldx at h
  rcases isAg_vk hd with ⟨hg, hk⟩ | ⟨hg, hk⟩ <;> rw [hk] at h <;> simp only [] at h
  · obtain ⟨hl, h⟩ := ifB_left h
    obtain ⟨vs, hlen, hK, hc⟩ := ldLs_elim h
    refine ⟨_, hK, ?_⟩
    have hsz : szOf P t = vs.length := by rw [hlen]; exact (by simpa using hl : (leaves P 9 t).length = szOf P t).symm
    have hr := run_loadCells_list (P := P) w a vs (fun j v hv => by have := hc j v hv; rwa [Nat.zero_add] at this)
    simp [Instr.loadAt, Instr.sureAddr, loadVar, isAgg_run t hi hu, hg, szOf_run _ hi, hsz, hr]
  · obtain ⟨v, hv, h⟩ := exL_elim h
    refine ⟨v, h, ?_⟩
    simp [Instr.loadAt, Instr.sureAddr, loadVar, isAgg_run t hi hu, hg, hv]

theorem checkKey_int {kt : TypeId} {kk k : IntKind} {n : Int} (hu : P.underlying kt = some (.int kk)) (b : Bool) (m : Nat) (w : World) : (Instr.checkKey b (m + 1) kt (.int k n)).run P w = .ok () w := by
  simp [Instr.checkKey, run_underlying hu]

theorem findKey_int {kt : TypeId} {kk : IntKind} {n : Int} {es : List MapEntry} {res : Option (Nat × Value)} (hu : P.underlying kt = some (.int kk)) (h : Instr.findNow (.int kk) (.int kk n) es 0 = some res) (w : World) :
    (Instr.findKey kt (.int kk n) es).run P w = .ok res w := by
  simp [Instr.findKey, run_underlying hu, h]

theorem getObj_map {w : World} {r : Nat} {es : Array MapEntry} {c : Nat} (h : w.heap[r]? = some (.map es c)) : (getObj r).run P w = .ok (.map es c) w := by
  simp [getObj, Sem.run, h]

theorem lookx_sound {t : TypeId} {m key : Value} {ok : Bool} {w : World} (h : lookx P t m key ok w K) : ∃ v, K v ∧ (Instr.lookup t m key ok).run P w = .ok v w := by
  unfold lookx at h
  split at h <;> try exact h.elim
  rename_i kt el hu
  split at h <;> try exact h.elim
  rename_i kk hk
  obtain ⟨r, rfl, h⟩ := asM_elim h
  obtain ⟨k, n, rfl, h⟩ := asI_elim h
  obtain ⟨hkk, h⟩ := ifB_left h
  obtain rfl : k = kk := by simpa using hkk
  obtain ⟨es, c, res, ho, hf, h⟩ := h
  have hfk := findKey_int hk hf w
  have hck := checkKey_int (k := k) (n := n) hk es.isEmpty 9999 w
  cases res with
  | none =>
    obtain ⟨z, hz, h⟩ := optx_elim h
    refine ⟨_, h, ?_⟩
    simp only [Instr.lookup, Sem.run_bind, run_underlying hu, Result.andThen_ok, getObj_map ho, Sem.run_pure, hck, hfk, zeroValue_run hz]
  | some p =>
    obtain ⟨i, v⟩ := p
    have h : exV (vkOf P el) fun v' => v = v' ∧ K (if ok then .tuple #[v', .bool true] else v') := h
    have hv : K (if ok then .tuple #[v, .bool true] else v) := by
      revert h
      generalize vkOf P el = vk
      intro h
      cases vk with
      | leaf l => obtain ⟨u, rfl, h⟩ := exL_elim h; exact h
      | agg ls => obtain ⟨us, _, hu, h⟩ := exLs_elim h; rw [hu]; exact h
    refine ⟨_, hv, ?_⟩
    simp only [Instr.lookup, Sem.run_bind, run_underlying hu, Result.andThen_ok, getObj_map ho, Sem.run_pure, hck, hfk]

theorem exV_eq {k : VK} {v : Value} {T : Value → Prop} (h : exV k fun v' => v' = v ∧ T v') : T v := by
  cases k with
  | leaf l => obtain ⟨u, hu, ht⟩ := exL_elim h; exact hu ▸ ht
  | agg ls => obtain ⟨us, _, hu, ht⟩ := exLs_elim h; exact hu ▸ ht

theorem looky_sound {t : TypeId} {m key : Value} {ok : Bool} {w : World} (h : looky P t m key ok w K) : ∃ v, K v ∧ (Instr.lookup t m key ok).run P w = .ok v w := by
  unfold looky at h
  split at h <;> try exact h.elim
  rename_i kt el hu
  split at h <;> try exact h.elim
  rename_i kk hk
  obtain ⟨r, rfl, h⟩ := asM_elim h
  obtain ⟨k, n, rfl, h⟩ := asI_elim h
  obtain ⟨hkk, h⟩ := ifB_left h
  obtain rfl : k = kk := by simpa using hkk
  obtain ⟨z, hz, h⟩ := optx_elim h
  obtain ⟨es, c, res, ⟨ho, hf⟩, h⟩ := h
  have hfk := findKey_int hk hf w
  have hck := checkKey_int (k := k) (n := n) hk es.isEmpty 9999 w
  have h := exV_eq h
  refine ⟨_, h, ?_⟩
  cases res with
  | none => simp only [Instr.lookup, Sem.run_bind, run_underlying hu, Result.andThen_ok, getObj_map ho, Sem.run_pure, hck, hfk, zeroValue_run hz]; rfl
  | some p => simp only [Instr.lookup, Sem.run_bind, run_underlying hu, Result.andThen_ok, getObj_map ho, Sem.run_pure, hck, hfk]; rfl

theorem lvv_sound {op : Op} {vs : List Value} {w : World} (h : lvv P op vs w K) (hv : (opnds op).map ρ = vs) :
    ∃ v, K v ∧ ∀ dst ty pos after guard, (execOp ρ ⟨dst, op, ty, pos, after, guard⟩).run P w = .ok (.value v) w := by
  subst hv
  cases op <;> try exact h.elim
  case load t x =>
    have h : asA (ρ x) fun a => ifB (P.underlying t).isSome (ldx P t a w K) False := h
    obtain ⟨a, ha, h⟩ := asA_elim h
    obtain ⟨hu, h⟩ := ifB_left h
    obtain ⟨v, hv, hr⟩ := ldx_sound hu h
    exact ⟨v, hv, fun _ _ _ _ _ => by simp only [execOp, ha, Sem.run_bind, hr, Result.andThen_ok, Sem.run_pure]⟩
  case lookup t m k ok =>
    have h : looky P t (ρ m) (ρ k) ok w K := h
    obtain ⟨v, hv, hr⟩ := looky_sound h
    exact ⟨v, hv, fun _ _ _ _ _ => by simp only [execOp, Sem.run_bind, hr, Result.andThen_ok, Sem.run_pure]⟩
end
end Go.Wx
end
section
/- The framework of these proofs, part 4: operations that turn memory, and calls. -/
namespace Go.Wx
open Go

/-- What an operation that has run hands on. -/
def NxP (P : Program) (K : Value → World → Prop) : Next → World → Prop
  | .value v, w => K v w
  | .skip, w => K undef w
  | .enter f args, w => Calls P f args w fun e w' => ∃ v, e = .returned v ∧ K v w'
  | .round l f tmps assign body, w => RoundIn Fence.wide 0 P l f tmps assign body w fun e w' => ∃ v, e = .returned v ∧ K v w'
  | _, _ => False

section
variable {P : Program} {ρ : Operand → Value} {K : Value → World → Prop} {w : World}

theorem stx_sound {a : Addr} : ∀ {vs : List Value} {i : Nat} {w : World} {K : World → Prop}, stx w a vs i K → ∃ w', (storeCells a vs i).run P w = .ok () w' ∧ K w'
  | [], i, w, K, h => ⟨w, rfl, h⟩
  | v :: vs, i, w, K, h => by
    obtain ⟨hl, ⟨u, hu⟩, hf, h⟩ := ifB_left h
    obtain ⟨w', hr, hK⟩ := stx_sound h
    refine ⟨w', ?_, hK⟩
    have hs : (store (a.add i) v).run P w = .ok () (w.setCell (a.add i) v) := by
      cases v <;> first | (simp [isLeaf] at hl; done) | simp [store, Sem.run, hu, hf]
    simp only [storeCells, Sem.run_bind, hs, Result.andThen_ok, hr]

theorem canWr_setCell {a b : Addr} {n : Nat} {v : Value} (h : canWr w a n) : canWr (w.setCell b v) a n := fun i hi => by
  obtain ⟨⟨u, hu⟩, hf⟩ := h i hi
  refine ⟨?_, by rw [World.frozen?_setCell]; exact hf⟩
  by_cases e : b = a.add i
  · subst e; exact ⟨v, World.cell?_setCell_same w _ v hu⟩
  · exact ⟨u, by rw [World.cell?_setCell_other w _ _ v e]; exact hu⟩

theorem wrx_sound {a : Addr} : ∀ {vs : List Value} {i : Nat} {w : World}, (∀ v ∈ vs, isLeaf v = true) → canWr w a (i + vs.length) → (storeCells a vs i).run P w = .ok () (wrx w a vs i)
  | [], i, w, _, _ => rfl
  | v :: vs, i, w, hl, hc => by
    obtain ⟨⟨u, hu⟩, hf⟩ := hc i (by simp)
    have hl0 := hl v (by simp)
    have hs : (store (a.add i) v).run P w = .ok () (w.setCell (a.add i) v) := by
      cases v <;> first | (simp [isLeaf] at hl0; done) | simp [store, Sem.run, hu, hf]
    have hr := wrx_sound (a := a) (vs := vs) (i := i + 1) (w := w.setCell (a.add i) v) (fun x hx => hl x (by simp [hx])) (canWr_setCell (by simpa [Nat.add_assoc, Nat.add_comm 1] using hc))
    simp only [storeCells, Sem.run_bind, hs, Result.andThen_ok, hr, wrx]

theorem zcells_length (z : List Value) (n : Nat) : (zcells z n).length = n * z.length := by
  induction n with
  | zero => simp [zcells]
  | succ n ih => simp [zcells, ih, Nat.succ_mul, Nat.add_comm]

theorem zcells_get (z : List Value) : ∀ (n i : Nat), i < n * z.length → (zcells z n)[i]? = z[i % z.length]?
  | 0, i, h => by simp at h
  | n + 1, i, h => by
    simp only [zcells]
    by_cases hi : i < z.length
    · rw [List.getElem?_append_left hi, Nat.mod_eq_of_lt hi]
    · rw [List.getElem?_append_right (by omega), zcells_get z n _ (by rw [Nat.succ_mul] at h; omega), Nat.mod_eq_sub_mod (a := i) (by omega)]

theorem range_cells (z : Array Value) (n : Nat) (hz : 0 < z.size ∨ n = 0) : ((Array.range (n * z.size)).map (z[· % z.size]!)) = (zcells z.toList n).toArray := by
  apply Array.ext'
  apply List.ext_getElem?
  intro i
  simp only [Array.toList_map, Array.toList_range, List.getElem?_map]
  by_cases hi : i < n * z.size
  · have hz' : 0 < z.size := by
      rcases hz with h | h
      · exact h
      · subst h; simp at hi
    rw [List.getElem?_range hi, zcells_get z.toList n i (by simpa using hi)]
    have hm : i % z.size < z.size := Nat.mod_lt _ hz'
    simp [hm, getElem!_pos]
  · rw [List.getElem?_eq_none (by simp; omega), List.getElem?_eq_none (by rw [zcells_length]; simp; omega)]
    rfl

theorem zeroCells_eq (z : Array Value) (n : Nat) (hz : 0 < z.size ∨ n = 0) : Builtin.zeroCells z n = (zcells z.toList n).toArray := range_cells z n hz

theorem mksx_sound {t : TypeId} {l c : Value} (h : mksx P t l c w K) : ∃ v w', (Instr.makeSlice t l c).run P w = .ok v w' ∧ K v w' := by
  unfold mksx at h
  split at h <;> try exact h.elim
  rename_i el hu
  replace h := asI_elim h
  obtain ⟨k, l, rfl, h⟩ := h
  replace h := asI_elim h
  obtain ⟨k', c, rfl, h⟩ := h
  obtain ⟨⟨h0, h1, h2⟩, h⟩ := h
  obtain ⟨hb, h⟩ := ifB_left h
  obtain ⟨z, hz, h⟩ := optx_elim h
  obtain ⟨hs, h⟩ := ifB_left h
  simp only [Bool.and_eq_true, Nat.ble_eq] at hs
  obtain ⟨hs, hs1⟩ := hs
  have hi := info_of_zx hz
  obtain ⟨i, hi⟩ := Option.isSome_iff_exists.1 hi
  have hz' : i.zero = some z := by unfold zxOf at hz; rw [hi] at hz; exact hz
  have hby : byOf P el = i.bytes := by simp [byOf, hi]
  have hsz : szOf P el = i.size := by simp [szOf, hi]
  have hbl : i.bytes ≤ 64 := by rw [← hby]; simpa using hb
  have hlen : z.cells.size = i.size := by rw [← hsz]; simpa using hs
  have hbc : (i.bytes : Int) * c ≤ 281474976710656 := by
    have h1 : (i.bytes : Int) ≤ 64 := by omega
    have := Int.mul_le_mul h1 h2 (by omega) (by omega)
    have e : (64 : Int) * 2 ^ 40 = 70368744177664 := by decide
    rw [e] at this
    omega
  have h240 : (2 : Int) ^ 40 = 1099511627776 := by decide
  have hr := run_make (P := P) w t el i z hu hi hz' k k' l c h0 h1 hbc (by omega)
  refine ⟨_, _, hr, ?_⟩
  rw [← hlen, show madeCells z.cells (c.toNat * z.cells.size) = (zcells z.cells.toList c.toNat).toArray from range_cells z.cells c.toNat (.inl (by omega))]
  exact h

theorem rdx_sound {a : Option Addr} {n m l c : Nat} {size : Nat} {cs : List Value} (hn : n = m * size) (h : rdx w a n cs) : (Builtin.firstCells size m (.slice a l c)).run P w = .ok cs.toArray w := by
  obtain ⟨hl, h⟩ := h
  cases a with
  | none =>
    have h : n = 0 := h
    have : cs = [] := List.eq_nil_of_length_eq_zero (by omega)
    subst this
    simp [Builtin.firstCells]
  | some a =>
    have h : ∀ i, i < n → w.cell? (a.add i) = cs[i]? := h
    exact run_firstCells_some w size m a l c cs (by omega) (fun j v hv => by
      have hj : j < n := by have := (List.getElem?_eq_some_iff.1 hv).1; omega
      rw [h j hj]; exact hv)

theorem rdx_drew {a : Option Addr} {n : Nat} {cs : List Value} (h : rdx w a n cs) : rdx w.drew a n cs := h

theorem canWr_off {a : Addr} {n : Nat} (h : canWr w a n) : canWr w a (0 + n) := by rwa [Nat.zero_add]

theorem appx_sound {t u ty : TypeId} {ts : List TypeId} {s x : Value} {d : TypeDesc} (hd : P.underlying u = some d) (hni : ∀ k, d ≠ .int k) (h : appx P t s x w K) :
    ∃ v w', (Builtin.append_ (t :: u :: ts).toArray ty #[s, x]).run P w = .ok v w' ∧ K v w' := by
  unfold appx at h
  split at h <;> try exact h.elim
  rename_i el hu
  replace h := asSl_elim h
  obtain ⟨base, sl, sc, rfl, h⟩ := h
  replace h := asSl_elim h
  obtain ⟨src, n, c, rfl, h⟩ := h
  obtain ⟨z, hz, h⟩ := optx_elim h
  obtain ⟨hs, h⟩ := ifB_left h
  simp only [Bool.and_eq_true, Nat.ble_eq] at hs
  obtain ⟨hs, hb1, hs1⟩ := hs
  obtain ⟨old, new, ho, hn, hl, hb, hfit, hgrow⟩ := h
  have hi := info_of_zx hz
  obtain ⟨i, hi⟩ := Option.isSome_iff_exists.1 hi
  have hz' : i.zero = some z := by unfold zxOf at hz; rw [hi] at hz; exact hz
  have hby : byOf P el = i.bytes := by simp [byOf, hi]
  have hsz : szOf P el = i.size := by simp [szOf, hi]
  rw [hby] at hb hb1
  rw [hsz] at ho hn hfit hs1
  have hlen : z.cells.size = i.size := by rw [← hsz]; simpa using hs
  have hf1 := rdx_sound (P := P) (l := n) (c := c) rfl hn
  have hnl : new.length = n * i.size := hn.1
  by_cases hc : sl + n ≤ sc
  · have hfit := hfit hc
    cases base with
    | none =>
      refine ⟨_, _, ?_, hfit⟩
      simp [Builtin.append_, run_underlying hu, run_underlying hd, sizeOf, typeInfo, hi, Builtin.lenOf, hc, hf1]
    | some a =>
      obtain ⟨hw, hK⟩ := hfit
      refine ⟨_, _, ?_, hK⟩
      have hst := wrx_sound (P := P) (a := a.add (sl * i.size)) (vs := new) (i := 0) (w := w) hl (by rw [hnl]; exact canWr_off hw)
      simp [Builtin.append_, run_underlying hu, run_underlying hd, sizeOf, typeInfo, hi, Builtin.lenOf, hc, hf1, hst]
  · have hcap : sl + n ≤ (Question.appendCap (sl + n) sc el).cut (w.tape w.drawn (.appendCap (sl + n) sc el)) := by
      simp only [Question.cut]; omega
    have hK := hgrow (by omega) _ hcap
    refine ⟨_, _, ?_, hK⟩
    have h240 : (2 : Nat) ^ 40 = 1099511627776 := by decide
    rw [h240] at hb
    have hsn : sl + n ≤ 1099511627776 := Nat.le_trans (Nat.le_mul_of_pos_right _ hb1) hb
    have h63 : ¬ (9223372036854775807 < (sl : Int) + (n : Int)) := by omega
    have h48 : ¬ (281474976710656 < Builtin.nextslicecap (sl + n) sc * i.bytes) := by
      have := growslice_fits (need := sl + n) (old := sc) (bytes := i.bytes) (by omega) (by omega)
      omega
    have hf0 := rdx_sound (P := P) (l := sl) (c := sc) rfl (rdx_drew ho)
    have hf1' := rdx_sound (P := P) (l := n) (c := c) rfl (rdx_drew hn)
    have hzc : ∀ m, Builtin.zeroCells z.cells m = (zcells z.cells.toList m).toArray := fun m => zeroCells_eq z.cells m (by omega)
    simp [Builtin.append_, run_underlying hu, run_underlying hd, sizeOf, typeInfo, zeroValue, hi, hz', Builtin.lenOf, hc, h63, h48, Question.forced, hf0, hf1', newRow, hzc]
end
end Go.Wx
end
section
/- The framework of these proofs, part 5: the rest of the operations that turn memory, and calls. -/
namespace Go.Wx
open Go

section
variable {P : Program} {ρ : Operand → Value} {K : Value → World → Prop} {w : World}

theorem zcells_leaf {z : List Value} {n : Nat} (h : ∀ v ∈ z, isLeaf v = true) : ∀ v ∈ zcells z n, isLeaf v = true := by
  induction n with
  | zero => intro v hv; simp [zcells] at hv
  | succ n ih =>
    intro v hv
    simp only [zcells, List.mem_append] at hv
    rcases hv with hv | hv
    · exact h v hv
    · exact ih v hv

theorem appzx_sound {t u ty : TypeId} {ts : List TypeId} {s x : Value} {k : IntKind} (hd : P.underlying u = some (.int k)) (h : appzx P t s x w K) :
    ∃ v w', (Builtin.append_ (t :: u :: ts).toArray ty #[s, x]).run P w = .ok v w' ∧ K v w' := by
  unfold appzx at h
  split at h <;> try exact h.elim
  rename_i el hu
  replace h := asSl_elim h
  obtain ⟨base, sl, sc, rfl, h⟩ := h
  replace h := asI_elim h
  obtain ⟨kk, m, rfl, h⟩ := h
  obtain ⟨z, hz, h⟩ := optx_elim h
  obtain ⟨hs, h⟩ := ifB_left h
  simp only [Bool.and_eq_true, Nat.ble_eq] at hs
  obtain ⟨hs, hb1, hs1⟩ := hs
  obtain ⟨old, ho, ⟨hm0, hb⟩, hl, hfit, hgrow⟩ := h
  have hi := info_of_zx hz
  obtain ⟨i, hi⟩ := Option.isSome_iff_exists.1 hi
  have hz' : i.zero = some z := by unfold zxOf at hz; rw [hi] at hz; exact hz
  have hby : byOf P el = i.bytes := by simp [byOf, hi]
  have hsz : szOf P el = i.size := by simp [szOf, hi]
  rw [hby] at hb hb1
  rw [hsz] at ho hfit hs1
  have hlen : z.cells.size = i.size := by rw [← hsz]; simpa using hs
  have h240 : (2 : Int) ^ 40 = 1099511627776 := by decide
  rw [h240] at hb
  have hsm : (sl : Int) + m ≤ 1099511627776 := by
    have h1 : ((sl : Int) + m) * 1 ≤ ((sl : Int) + m) * i.bytes := Int.mul_le_mul_of_nonneg_left (by omega) (by omega)
    omega
  have hmb : m * (i.bytes : Int) ≤ 1099511627776 := by
    have h1 : m * (i.bytes : Int) ≤ ((sl : Int) + m) * i.bytes := Int.mul_le_mul_of_nonneg_right (by omega) (by omega)
    omega
  have hwr : IntKind.i64.wrap m = m := by rw [IntKind.wrap_i64]; omega
  have n0 : ¬ m < 0 := by omega
  have n1 : ¬ (281474976710656 < m * (i.bytes : Int)) := by omega
  have hzc : ∀ q, Builtin.zeroCells z.cells q = (zcells z.cells.toList q).toArray := fun q => zeroCells_eq z.cells q (by omega)
  have hn : ¬ (m.toNat * i.size = 0) := fun e => by rcases Nat.mul_eq_zero.1 e with h | h <;> omega
  have hnF : (m.toNat * i.size = 0) = False := eq_false hn
  · by_cases hc : sl + m.toNat ≤ sc
    · have hfit := hfit hc
      cases base with
      | none =>
        refine ⟨_, _, ?_, hfit⟩
        simp [Builtin.append_, run_underlying hu, run_underlying hd, sizeOf, typeInfo, zeroValue, hi, hz', asInt, asIntOf, hwr, n0, n1, hc]
      | some a =>
        obtain ⟨hw, hK⟩ := hfit
        refine ⟨_, _, ?_, hK⟩
        have hst := wrx_sound (P := P) (a := a.add (sl * i.size)) (vs := zcells z.cells.toList m.toNat) (i := 0) (w := w) (zcells_leaf hl) (by rw [zcells_length, Array.length_toList, hlen]; exact canWr_off hw)
        simp [Builtin.append_, run_underlying hu, run_underlying hd, sizeOf, typeInfo, zeroValue, hi, hz', asInt, asIntOf, hwr, n0, n1, hc, hnF, hzc, hst]
    · have hcap : sl + m.toNat ≤ (Question.appendCap (sl + m.toNat) sc el).cut (w.tape w.drawn (.appendCap (sl + m.toNat) sc el)) := by
        simp only [Question.cut]; omega
      have hK := hgrow (by omega) _ hcap
      refine ⟨_, _, ?_, hK⟩
      have h63 : ¬ (9223372036854775807 < (sl : Int) + max m 0) := by omega
      have hbn : (sl + m.toNat) * i.bytes ≤ 1099511627776 := by
        have : (((sl + m.toNat) * i.bytes : Nat) : Int) ≤ 1099511627776 := by
          rw [Int.natCast_mul, Int.natCast_add, Int.toNat_of_nonneg (by omega)]; exact hb
        omega
      have h48 : ¬ (281474976710656 < Builtin.nextslicecap (sl + m.toNat) sc * i.bytes) := by
        have := growslice_fits (need := sl + m.toNat) (old := sc) (bytes := i.bytes) (by omega) (by omega)
        omega
      have hf0 := rdx_sound (P := P) (l := sl) (c := sc) rfl (rdx_drew ho)
      simp [Builtin.append_, run_underlying hu, run_underlying hd, sizeOf, typeInfo, zeroValue, hi, hz', asInt, asIntOf, hwr, n0, n1, hc, hnF, h63, h48, Question.forced, hf0, newRow, hzc]

theorem clrx_sound {t ty : TypeId} {ts : List TypeId} {x : Value} (h : clrx P t x w K) : ∃ v w', (Builtin.clear_ (t :: ts).toArray ty #[x]).run P w = .ok v w' ∧ K v w' := by
  unfold clrx at h
  split at h <;> try exact h.elim
  rename_i el hu
  replace h := asSl_elim h
  obtain ⟨base, n, c, rfl, h⟩ := h
  obtain ⟨z, hz, h⟩ := optx_elim h
  obtain ⟨hs, h⟩ := ifB_left h
  simp only [Bool.and_eq_true, Nat.ble_eq, List.all_eq_true] at hs
  obtain ⟨hl, hs, hs1⟩ := hs
  have hlen : z.cells.size = szOf P el := by simpa using hs
  by_cases hn : n = 0
  · subst hn
    refine ⟨_, _, ?_, h.1 rfl⟩
    cases base <;> simp [Builtin.clear_, run_underlying hu]
  · obtain ⟨a, rfl, hw, hK⟩ := nilx_elim (h.2 hn)
    refine ⟨_, _, ?_, hK⟩
    have hst := wrx_sound (P := P) (a := a) (vs := zcells z.cells.toList n) (i := 0) (w := w) (zcells_leaf hl) (by rw [zcells_length, Array.length_toList, hlen]; exact canWr_off hw)
    obtain ⟨m, rfl⟩ : ∃ m, n = m + 1 := ⟨n - 1, by omega⟩
    simp [Builtin.clear_, run_underlying hu, zeroValue_run hz, zeroCells_eq z.cells (m + 1) (.inl (by omega)), hst]

theorem setObj_map {r : Nat} {es : Array MapEntry} {c : Nat} (h : w.heap[r]? = some (.map es c)) (o : Obj) : (setObj r o).run P w = .ok () (World.putB w r o) := by
  simp [setObj, Sem.run, h, World.putB]

theorem delx_sound {t ty : TypeId} {ts : List TypeId} {m k : Value} (h : delx P t m k w K) : ∃ v w', (Builtin.delete_ (t :: ts).toArray ty #[m, k]).run P w = .ok v w' ∧ K v w' := by
  unfold delx at h
  split at h <;> try exact h.elim
  rename_i kt el hu
  split at h <;> try exact h.elim
  rename_i kk hk
  replace h := asM_elim h
  obtain ⟨r, rfl, h⟩ := h
  replace h := asI_elim h
  obtain ⟨k, n, rfl, h⟩ := h
  obtain ⟨hkk, h⟩ := ifB_left h
  obtain rfl : k = kk := by simpa using hkk
  obtain ⟨es, c, res, ho, hf, h⟩ := h
  have hfk := findKey_int hk hf w
  have hck := checkKey_int (k := k) (n := n) hk es.isEmpty 9999 w
  cases res with
  | none => exact ⟨_, _, by simp only [Builtin.delete_, List.getElem?_toArray, List.getElem?_cons_zero, List.getElem?_cons_succ, Sem.run_bind, run_underlying hu, Result.andThen_ok, getObj_map ho, hck, hfk, setObj_map ho, Sem.run_pure], h⟩
  | some p => exact ⟨_, _, by simp only [Builtin.delete_, List.getElem?_toArray, List.getElem?_cons_zero, List.getElem?_cons_succ, Sem.run_bind, run_underlying hu, Result.andThen_ok, getObj_map ho, hck, hfk, setObj_map ho, Sem.run_pure], h⟩

theorem findNow_key {kk : IntKind} {n : Int} : ∀ (l : List MapEntry) (i0 i : Nat) (v : Value), Instr.findNow (.int kk) (.int kk n) l i0 = some (some (i, v)) →
    ∃ j e, i = i0 + j ∧ l[j]? = some e ∧ e.key = .int kk n ∧ e.val = v
  | [], i0, i, v, h => by simp [Instr.findNow] at h
  | e :: l, i0, i, v, h => by
    unfold Instr.findNow at h
    split at h
    · rename_i hs
      simp only [Option.some.injEq, Prod.mk.injEq] at h
      obtain ⟨rfl, rfl⟩ := h
      refine ⟨0, e, by simp, by simp, ?_, rfl⟩
      unfold Instr.sameNow at hs
      split at hs <;> simp_all
    · obtain ⟨j, e', h1, h2, h3, h4⟩ := findNow_key l (i0 + 1) i v h
      exact ⟨j + 1, e', by omega, by simpa using h2, h3, h4⟩
    · contradiction

theorem mupx_sound {t : TypeId} {m k v : Value} (h : mupx P t m k v w K) : ∃ w', (Instr.mapUpdate t m k v).run P w = .ok () w' ∧ K undef w' := by
  unfold mupx at h
  split at h <;> try exact h.elim
  rename_i kt el hu
  split at h <;> try exact h.elim
  rename_i kk hk
  replace h := asM_elim h
  obtain ⟨r, rfl, h⟩ := h
  replace h := asI_elim h
  obtain ⟨k, n, rfl, h⟩ := h
  obtain ⟨hkk, h⟩ := ifB_left h
  obtain rfl : k = kk := by simpa using hkk
  obtain ⟨es, c, res, ho, hf, h⟩ := h
  have hfk := findKey_int hk hf w
  have hck := checkKey_int (k := k) (n := n) hk false 9999 w
  cases res with
  | none => exact ⟨_, by simp only [Instr.mapUpdate, Sem.run_bind, run_underlying hu, Result.andThen_ok, getObj_map ho, hck, hfk, setObj_map ho], h⟩
  | some p =>
    obtain ⟨i, u⟩ := p
    obtain ⟨j, e, h1, h2, h3, h4⟩ := findNow_key _ _ _ _ hf
    obtain rfl : i = j := by omega
    have hkey : (((es[i]?).map (·.key)).getD (.int k n)) = .int k n := by
      rw [← Array.getElem?_toList, h2]; simpa using h3
    refine ⟨_, ?_, h⟩
    simp only [Instr.mapUpdate, Sem.run_bind, run_underlying hu, Result.andThen_ok, getObj_map ho, hck, hfk, hkey]
    simp [Instr.keyThatStays, Instr.sameBits, setObj_map ho]

theorem exV_elim {k : VK} {Q : Value → Prop} (h : exV k Q) : ∃ v, Q v := by
  cases k with
  | leaf l => exact exL_elim h
  | agg ls => obtain ⟨vs, _, h⟩ := exLs_elim h; exact ⟨_, h⟩
theorem exVs_elim : ∀ {ks : List VK} {Q : List Value → Prop}, exVs ks Q → ∃ vs, Q vs
  | [], _, h => ⟨_, h⟩
  | _ :: _, _, h => by
    obtain ⟨v, h⟩ := exV_elim h
    obtain ⟨vs, h⟩ := exVs_elim h
    exact ⟨_, h⟩
theorem resx_elim {ks : List VK} {Q : Value → Prop} (h : resx ks Q) : ∃ v, Q v := by
  unfold resx at h
  split at h
  · exact exV_elim h
  · obtain ⟨vs, h⟩ := exVs_elim h; exact ⟨_, h⟩
theorem callK_elim {ks : List VK} {e : Ending} {w' : World} (h : CallK K ks e w') : ∃ v, e = .returned v ∧ K v w' := resx_elim h

theorem callFunc_run {g : FuncId} {args : Array Value} (h : okCallee P g = true) (w : World) : (callFunc g args).run P w = .ok (.enter g args) w := by
  unfold okCallee at h
  split at h
  · rename_i fn hf
    simp only [Bool.and_eq_true, Bool.not_eq_true', beq_eq_false_iff_ne, ne_eq] at h
    cases hbd : fn.body with
    | none => rw [hbd] at h; simp at h
    | some c => simp [callFunc, hf, h.2, hbd]
  · contradiction

theorem callV_sound {f : Value} {args : List Value} {w : World} {R : Ending → World → Prop} (hR : ∀ e w', R e w' → ∃ v, e = .returned v ∧ K v w') (h : CallV P f args w R) :
    ∃ nx, (do let d ← Deferred.ofValue f args.toArray; invoke d.target d.args : Sem Next).run P w = .ok nx w ∧ NxP P K nx w := by
  unfold CallV at h
  split at h
  · rename_i g first caps
    obtain ⟨hc, h⟩ := ifB_left h
    refine ⟨.enter g (first.toList ++ args ++ caps.toList).toArray, ?_, h.mono hR⟩
    simp only [Deferred.ofValue, pure_bind, invoke, callFunc_run hc]
    congr 2
    apply Array.ext'
    simp
  · rename_i l first caps
    obtain ⟨f, tmps, as, b, hy, hr⟩ := h
    refine ⟨.round l f tmps as b, ?_, hr.mono hR⟩
    simp only [Deferred.ofValue, pure_bind, invoke]
    have : (first.toList ++ args).toArray = first ++ args.toArray := by apply Array.ext'; simp
    rw [← this]
    exact hy
  · exact h.elim

theorem callx_sound {f : Value} {ks : List VK} {args : List Value} (h : callx P f ks args w K) :
    ∃ nx, (do let d ← Deferred.ofValue f args.toArray; invoke d.target d.args : Sem Next).run P w = .ok nx w ∧ NxP P K nx w := by
  unfold callx at h
  split at h
  · rename_i g first caps
    exact callV_sound (f := .func (.func g) first caps) (R := CallK K (resKs P g)) (fun _ _ => callK_elim) h
  · exact callV_sound (fun _ _ => callK_elim) h

theorem appy_appx {t : TypeId} {s x : Value} (h : appy P t s x w K) : appx P t s x w K := by
  unfold appy at h
  unfold appx
  split at h <;> try exact h.elim
  rename_i el hu
  replace h := asSl_elim h
  obtain ⟨base, sl, sc, rfl, h⟩ := h
  replace h := asSl_elim h
  obtain ⟨src, n, c, rfl, h⟩ := h
  obtain ⟨z, hz, h⟩ := optx_elim h
  obtain ⟨hb, h⟩ := ifB_left h
  obtain ⟨old, new, h1, h2, h3, h4, h5, h6⟩ := h
  simp only [asSl, optx, hz, hb, ifB]
  refine ⟨old, new, h1, h2, h3, h4, fun hc => ?_, fun hc nc hn => h6 _ _ _ (.inr ⟨hc, hn, rfl, rfl⟩)⟩
  cases base with
  | none => exact h6 _ _ _ (.inl ⟨hc, rfl, rfl, rfl⟩)
  | some a => exact ⟨h5 hc, h6 _ _ _ (.inl ⟨hc, rfl, rfl, rfl⟩)⟩

theorem appzy_appzx {t : TypeId} {s x : Value} (h : appzy P t s x w K) : appzx P t s x w K := by
  unfold appzy at h
  unfold appzx
  split at h <;> try exact h.elim
  rename_i el hu
  replace h := asSl_elim h
  obtain ⟨base, sl, sc, rfl, h⟩ := h
  replace h := asI_elim h
  obtain ⟨k, m, rfl, h⟩ := h
  obtain ⟨z, hz, h⟩ := optx_elim h
  obtain ⟨hb, h⟩ := ifB_left h
  obtain ⟨old, h1, h2, h5, h6⟩ := h
  simp only [Bool.and_eq_true] at hb
  obtain ⟨hb1, hb2, hb3, hb4⟩ := hb
  have hb : (Nat.beq z.cells.toList.length (szOf P el) && (Nat.ble 1 (byOf P el) && Nat.ble 1 (szOf P el))) = true := by simp only [hb1, hb2, hb3, Bool.and_self]
  simp only [asSl, asI, optx, hz, hb, ifB]
  refine ⟨old, h1, h2, (fun v hv => List.all_eq_true.1 hb4 v hv), fun hc => ?_, fun hc nc hn => h6 _ _ _ (.inr ⟨hc, hn, rfl, rfl⟩)⟩
  cases base with
  | none => exact h6 _ _ _ (.inl ⟨hc, rfl, rfl, rfl⟩)
  | some a => exact ⟨h5 hc, h6 _ _ _ (.inl ⟨hc, rfl, rfl, rfl⟩)⟩

theorem clry_clrx {t : TypeId} {x : Value} (h : clry P t x w K) : clrx P t x w K := by
  unfold clry at h
  unfold clrx
  split at h <;> try exact h.elim
  rename_i el hu
  replace h := asSl_elim h
  obtain ⟨base, n, c, rfl, h⟩ := h
  obtain ⟨z, hz, h⟩ := optx_elim h
  obtain ⟨hb, h⟩ := ifB_left h
  obtain ⟨h1, h2⟩ := h
  simp only [asSl, optx, hz, hb, ifB]
  constructor
  · rintro rfl
    cases base with
    | none => exact h2
    | some a => exact h2
  · intro hn
    cases base with
    | none => exact absurd h1 hn
    | some a => exact ⟨h1, h2⟩

theorem dely_delx {t : TypeId} {m k : Value} (h : dely P t m k w K) : delx P t m k w K := by
  unfold dely at h
  unfold delx
  split at h <;> try exact h.elim
  rename_i kt el hu
  split at h <;> try exact h.elim
  rename_i kk hk
  replace h := asM_elim h
  obtain ⟨r, rfl, h⟩ := h
  replace h := asI_elim h
  obtain ⟨k, n, rfl, h⟩ := h
  obtain ⟨hb, h⟩ := ifB_left h
  obtain ⟨es, c, res, ⟨h1, h2⟩, h3⟩ := h
  simp only [asM, asI, hb, ifB]
  refine ⟨es, c, res, h1, h2, ?_⟩
  cases res <;> exact h3

theorem mupy_mupx {t : TypeId} {m k v : Value} (h : mupy P t m k v w K) : mupx P t m k v w K := by
  unfold mupy at h
  unfold mupx
  split at h <;> try exact h.elim
  rename_i kt el hu
  split at h <;> try exact h.elim
  rename_i kk hk
  replace h := asM_elim h
  obtain ⟨r, rfl, h⟩ := h
  replace h := asI_elim h
  obtain ⟨k, n, rfl, h⟩ := h
  obtain ⟨hb, h⟩ := ifB_left h
  obtain ⟨es, c, res, ⟨h1, h2⟩, h3⟩ := h
  simp only [asM, asI, hb, ifB]
  refine ⟨es, c, res, h1, h2, ?_⟩
  cases res <;> exact h3

theorem hvv_sound {op : Op} {ty : TypeId} {vs : List Value} (h : hvv P op ty vs w K) (hv : (opnds op).map ρ = vs) (dst : Option Tmp) (pos : String) (after : Array Edge) (guard : Option (Nat × Bool)) :
    ∃ nx w', (execOp ρ ⟨dst, op, ty, pos, after, guard⟩).run P w = .ok nx w' ∧ NxP P K nx w' := by
  subst hv
  cases op <;> try exact h.elim
  case alloc t =>
    have h : optx (zxOf P t) fun z => newx w z.cells.toList t K := h
    obtain ⟨z, hz, h⟩ := optx_elim h
    refine ⟨.value _, _, ?_, h⟩
    simp [execOp, Instr.alloc, zeroValue_run hz, newVar, newRow]
  case box t x =>
    have h : newx w (ρ x).cells.toList t K := h
    refine ⟨.value _, _, ?_, h⟩
    simp [execOp, Instr.box, newVar, newRow]
  case buildSlice t len ps =>
    have h : (match P.underlying t with
      | some (.slice el) => optx (zxOf P el) fun z => optx (fillx (fun i => some (i * szOf P el, szOf P el)) (zcells z.cells.toList len) ((ps.toList.map (·.1)).zip ((ps.toList.map (·.2)).map ρ))) fun cs =>
        ifB ((Nat.ble 1 len && Nat.ble (len * szOf P el) 1024) && (Nat.beq z.cells.toList.length (szOf P el) && Nat.ble 1 (szOf P el))) (atW (w.alloc (.cells cs.toArray el)) fun w' => K (.slice (some ⟨w.heap.size, 0, none⟩) len len) w') False
      | _ => False) := h
    split at h <;> try exact h.elim
    rename_i el hu
    obtain ⟨z, hz, h⟩ := optx_elim h
    obtain ⟨cs, hcs, h⟩ := optx_elim h
    obtain ⟨hs, h⟩ := ifB_left h
    simp only [Bool.and_eq_true, Nat.ble_eq] at hs
    obtain ⟨⟨h0, h1⟩, h2, h3⟩ := hs
    refine ⟨.value _, _, ?_, h⟩
    have hlen : z.cells.size = szOf P el := by simpa using h2
    have hi := info_of_zx hz
    have hr : (Array.range (len * szOf P el)).map (z.cells[· % z.cells.size]!) = (zcells z.cells.toList len).toArray := by
      rw [← hlen]; exact range_cells z.cells len (.inl (by omega))
    have hfill := fill_eq (place := fun i => some (i * szOf P el, szOf P el)) (cells := (zcells z.cells.toList len).toArray) _ hcs
    have hbig : ¬ (16777216 < len * szOf P el) := by omega
    have hz0 : ¬ len * szOf P el = 0 := fun e => by rcases Nat.mul_eq_zero.1 e with h | h <;> omega
    have hzF : (len * szOf P el = 0) = False := eq_false hz0
    simp only [execOp, Sem.run_bind, Instr.buildSlice, run_underlying hu, Result.andThen_ok, szOf_run _ hi, build_parts]
    simp only [gt_iff_lt, Nat.reducePow, hbig, if_false, Sem.run_pure, Result.andThen_ok, hzF, Sem.run_bind, zeroValue_run hz, hr, hfill]
    rfl
  case store t x y =>
    have h : asA (ρ x) fun a => ifB ((P.info? t).isSome && Nat.beq (ρ y).cells.toList.length (szOf P t)) (stx w a (ρ y).cells.toList 0 fun w' => K undef w') False := h
    obtain ⟨a, ha, h⟩ := asA_elim h
    obtain ⟨hs, h⟩ := ifB_left h
    obtain ⟨w', hr, hK⟩ := stx_sound (P := P) h
    refine ⟨.skip, w', ?_, hK⟩
    simp only [Bool.and_eq_true] at hs
    obtain ⟨hi, hs⟩ := hs
    have hsz : szOf P t = (ρ y).cells.size := by
      have : (ρ y).cells.toList.length = szOf P t := by simpa using hs
      simpa using this.symm
    simp [execOp, Instr.storeAt, ha, Instr.sureAddr, storeVar, szOf_run _ hi, hsz, hr]
  case makeMap t r =>
    cases r with
    | some r => exact h.elim
    | none =>
      refine ⟨.value _, _, ?_, h⟩
      simp [execOp, Instr.makeMap]
  case makeSlice t l c =>
    have h : mksx P t (ρ l) (ρ c) w K := h
    obtain ⟨v, w', hr, hK⟩ := mksx_sound h
    exact ⟨.value v, w', by simp only [execOp, Sem.run_bind, hr, Result.andThen_ok, Sem.run_pure], hK⟩
  case mapUpdate t m k v =>
    have h : mupx P t (ρ m) (ρ k) (ρ v) w K := mupy_mupx h
    obtain ⟨w', hr, hK⟩ := mupx_sound h
    exact ⟨.skip, w', by simp only [execOp, Sem.run_bind, hr, Result.andThen_ok, Sem.run_pure], hK⟩
  case call c =>
    obtain ⟨callee, args, ats⟩ := c
    obtain ⟨args⟩ := args
    obtain ⟨ats⟩ := ats
    cases callee with
    | value f =>
      have h : callx P (ρ f) (tyKs P ty) (args.map ρ) w K := h
      obtain ⟨nx, hr, hK⟩ := callx_sound h
      refine ⟨nx, w, ?_, hK⟩
      have : (execOp ρ ⟨dst, .call ⟨.value f, args.toArray, ats.toArray⟩, ty, pos, after, guard⟩) = (do let d ← Deferred.ofValue (ρ f) (args.map ρ).toArray; invoke d.target d.args : Sem Next) := by
        simp only [execOp, resolve]
        congr 1
        simp
      rw [this, hr]
    | invoke r n => exact h.elim
    | builtin b =>
      have run : ∀ (s : Sem Value) (v : Value) (w' : World), (builtin b ats.toArray ty (args.toArray.map fun | .const _ => true | _ => false) (args.toArray.map ρ) = (do pure (.value (← s)))) → s.run P w = .ok v w' → K v w' →
          ∃ nx w', (execOp ρ ⟨dst, .call ⟨.builtin b, args.toArray, ats.toArray⟩, ty, pos, after, guard⟩).run P w = .ok nx w' ∧ NxP P K nx w' := fun s v w' hs hr hK => by
        refine ⟨.value v, w', ?_, hK⟩
        show (builtin b ats.toArray ty (args.toArray.map fun | .const _ => true | _ => false) (args.toArray.map ρ)).run P w = _
        rw [hs, Sem.run_bind, hr]
        rfl
      cases b <;> try exact h.elim
      case append =>
        match ats, args, h, run with
        | [], _, h, _ => exact h.elim
        | [_], _, h, _ => exact h.elim
        | t :: u :: ts, [], h, _ => exact h.elim
        | t :: u :: ts, [_], h, _ => exact h.elim
        | t :: u :: ts, [s, x], h, run =>
          have h : (match P.underlying u with
            | some (.int _) => appzy P t (ρ s) (ρ x) w K
            | some _ => appy P t (ρ s) (ρ x) w K
            | none => False) := h
          split at h
          · rename_i k hd
            obtain ⟨v, w', hr, hK⟩ := appzx_sound (ty := ty) (ts := ts) hd (appzy_appzx h)
            exact run (Builtin.append_ (t :: u :: ts).toArray ty ([s, x].toArray.map ρ)) v w' rfl (by simpa using hr) hK
          · rename_i d hd hni
            obtain ⟨v, w', hr, hK⟩ := appx_sound (ty := ty) (ts := ts) hni (fun k e => by subst e; exact hd k rfl) (appy_appx h)
            exact run (Builtin.append_ (t :: u :: ts).toArray ty ([s, x].toArray.map ρ)) v w' rfl (by simpa using hr) hK
          · exact h.elim
        | t :: u :: ts, _ :: _ :: _ :: _, h, _ => exact h.elim
      case clear =>
        match ats, args, h, run with
        | [], _, h, _ => exact h.elim
        | t :: ts, [], h, _ => exact h.elim
        | t :: ts, [x], h, run =>
          have h : clrx P t (ρ x) w K := clry_clrx h
          obtain ⟨v, w', hr, hK⟩ := clrx_sound (ty := ty) (ts := ts) h
          exact run (Builtin.clear_ (t :: ts).toArray ty ([x].toArray.map ρ)) v w' rfl (by simpa using hr) hK
        | t :: ts, _ :: _ :: _, h, _ => exact h.elim
      case delete =>
        match ats, args, h, run with
        | [], _, h, _ => exact h.elim
        | t :: ts, [], h, _ => exact h.elim
        | t :: ts, [_], h, _ => exact h.elim
        | t :: ts, [m, k], h, run =>
          have h : delx P t (ρ m) (ρ k) w K := dely_delx h
          obtain ⟨v, w', hr, hK⟩ := delx_sound (ty := ty) (ts := ts) h
          exact run (Builtin.delete_ (t :: ts).toArray ty ([m, k].toArray.map ρ)) v w' rfl (by simpa using hr) hK
        | t :: ts, _ :: _ :: _ :: _, h, _ => exact h.elim
end
end Go.Wx
end
section
/- The framework of these proofs, part 6: one operation in a frame of which a list of slots is known; a region in the order of the text. -/
namespace Go.Wx
open Go

structure Agr (N : Nat) (e : Env) (a : Act) : Prop where
  size : a.tmps.size = N
  get : ∀ k v, e.get k = some v → a.tmps[k]? = some v

abbrev Fr (r : Option Nat) : Fence := { Fence.wide with round := r }

theorem fr_calls {r : Option Nat} {n : Nat} {P : Program} {f : FuncId} {args : Array Value} {w : World} {R : Ending → World → Prop} (h : Calls P f args w R) : CallsIn (Fr r) n P f args w R :=
  (callsIn_wide (n := n)).2 h

theorem fr_round {r : Option Nat} {n m : Nat} {P : Program} {l : Nat} {f : FuncId} {tmps : Array Value} {assign body : Code} {w : World} {R : Ending → World → Prop}
    (h : RoundIn Fence.wide m P l f tmps assign body w R) : RoundIn (Fr r) n P l f tmps assign body w R :=
  ⟨trivial, fun c cs _ => h.2 c cs (room_wide _)⟩

/-- Of the slots outside W nothing has turned. -/
def Fwd (W : List Nat) (a a' : Act) : Prop := ∀ k, k ∉ W → a'.tmps[k]? = a.tmps[k]?
theorem Fwd.refl (W : List Nat) (a : Act) : Fwd W a a := fun _ _ => rfl
theorem Fwd.trans {W : List Nat} {a b c : Act} (h : Fwd W a b) (g : Fwd W b c) : Fwd W a c := fun k hk => (g k hk).trans (h k hk)
theorem Fwd.mono {W W' : List Nat} {a b : Act} (h : Fwd W a b) (hs : ∀ k, k ∈ W → k ∈ W') : Fwd W' a b := fun k hk => h k fun h => hk (hs k h)

section
variable {P : Program} {N : Nat} {e : Env} {a : Act}

theorem get_cons (k : Nat) (v : Value) (e : Env) (j : Nat) : Env.get ((k, v) :: e) j = if k = j then some v else e.get j := by
  rw [show Env.get ((k, v) :: e) j = (match Nat.beq k j with | true => some v | false => e.get j) from rfl]
  by_cases h : k = j
  · subst h; simp [Nat.beq_refl]
  · have : Nat.beq k j = false := by
      cases hb : Nat.beq k j with
      | false => rfl
      | true => exact absurd (Nat.eq_of_beq_eq_true hb) h
    simp [this, h]

theorem Agr.oev (h : Agr N e a) {x : Operand} {v : Value} (hx : oev e x = some v) : a.eval x = v := by
  cases x with
  | tmp t =>
    have := h.get t v hx
    simp [Act.eval, Array.getD_eq_getD_getElem?, this]
  | const c => exact Option.some.inj hx
  | global g => exact Option.some.inj hx
  | func f => exact Option.some.inj hx

theorem xev_elim {x : Operand} {K : Value → Prop} (h : xev e x K) : ∃ v, Go.Wx.oev e x = some v ∧ K v := by
  unfold xev at h
  split at h
  · rename_i v hv; exact ⟨v, hv, h⟩
  · exact h.elim

theorem xevs_elim : ∀ {xs : List Operand} {K : List Value → Prop}, xevs e xs K → ∃ vs, K vs ∧ ∀ (M : Nat) (b : Act), Agr M e b → xs.map b.eval = vs
  | [], K, h => ⟨[], h, fun _ _ _ => rfl⟩
  | x :: xs, K, h => by
    obtain ⟨v, hv, h⟩ := xev_elim h
    obtain ⟨vs, hK, hm⟩ := xevs_elim h
    exact ⟨v :: vs, hK, fun M b hb => by rw [List.map_cons, hb.oev hv, hm M b hb]⟩

theorem Agr.put (h : Agr N e a) {d : Nat} (hd : d < N) (v : Value) : Agr N ((d, v) :: e) (a.put (some d) v) := by
  refine ⟨by simp [Act.put, h.size], fun k u hk => ?_⟩
  rw [get_cons] at hk
  simp only [Act.put, Array.getElem?_setIfInBounds]
  by_cases e' : d = k
  · subst e'
    rw [if_pos rfl] at hk
    rw [if_pos rfl, if_pos (by rw [h.size]; exact hd)]
    exact hk
  · rw [if_neg e'] at hk ⊢
    exact h.get k u hk

theorem dput_sound (h : Agr N e a) {dst : Option Tmp} {v : Value} {K : Env → Prop} (hp : dput N dst v e K) : ∃ e', K e' ∧ Agr N e' (a.put dst v) := by
  cases dst with
  | none => exact ⟨e, hp, h⟩
  | some d =>
    obtain ⟨hd, hp⟩ := ifB_left hp
    exact ⟨_, hp, h.put (by simpa using hd) v⟩

theorem put_fwd {W : List Nat} {dst : Option Tmp} (hd : ∀ d, dst = some d → d ∈ W) (v : Value) : Fwd W a (a.put dst v) := fun k hk => by
  cases dst with
  | none => rfl
  | some d =>
    have : d ≠ k := fun e => hk (e ▸ hd d rfl)
    simp [Act.put, Array.getElem?_setIfInBounds_ne this]

theorem put_defers (dst : Option Tmp) (v : Value) : (a.put dst v).defers = a.defers := by cases dst <;> rfl

/-- What holds of the frame behind an operation. -/
def Behind (N : Nat) (W : List Nat) (a : Act) (K : Env → World → Prop) (a' : Act) (w' : World) : Prop :=
  Fwd W a a' ∧ a'.defers = a.defers ∧ ∃ e', Agr N e' a' ∧ K e' w'

theorem opE_sound {r : Option Nat} {n : Nat} {W : List Nat} {o : Oper} {w : World} {K : Env → World → Prop} {Q : Exit → Act → World → Prop} (ha : Agr N e a) (hW : ∀ d, o.dst = some d → d ∈ W)
    (h : opE P N o e w K) : o.wpIn (Fr r) n P a w (Behind N W a K) Q := by
  unfold opE at h
  obtain ⟨vs, h, hm⟩ := xevs_elim h
  have hvs := hm N a ha
  refine ⟨fun _ _ => trivial, ?_⟩
  have fin : ∀ v w', dput N o.dst v e (fun e' => K e' w') → Behind N W a K (a.put o.dst v) w' := fun v w' hp => by
    obtain ⟨e', hK, ha'⟩ := dput_sound ha hp
    exact ⟨put_fwd hW v, put_defers _ _, e', ha', hK⟩
  have sem : o.semAt (Fr r).round a.eval = execOp a.eval o := by
    cases r with
    | none => exact Oper.semAt_none _ _
    | some l =>
      refine Oper.semAt_some l _ o fun c hc => ?_
      rw [hc] at h
      exact h
  rw [sem]
  obtain ⟨dst, op, ty, pos, after, guard⟩ := o
  unfold opv at h
  split at h
  · obtain ⟨v, hK, hr⟩ := pvv_sound h hvs
    rw [hr]
    exact fin v w hK
  · obtain ⟨v, hK, hr⟩ := lvv_sound h hvs
    rw [hr]
    exact fin v w hK
  · obtain ⟨nx, w', hr, hK⟩ := hvv_sound h hvs dst pos after guard
    rw [hr]
    cases nx <;> try exact hK.elim
    case value v => exact fin v w' hK
    case skip => exact fin undef w' hK
    case enter f args =>
      refine ⟨(fun hd => by cases hd), fr_calls (Calls.mono hK ?_)⟩
      rintro ee w'' ⟨v, rfl, hv⟩
      exact fin v w'' hv
    case round l f tmps assign body =>
      refine ⟨(fun hd => by cases hd), fr_round (RoundIn.mono hK ?_)⟩
      rintro ee w'' ⟨v, rfl, hv⟩
      exact fin v w'' hv

theorem agr_bool (ha : Agr N e a) {s : Nat} {b : Bool} (h : e.get s = some (.bool b)) : Agr N ((s, .bool b) :: e) a :=
  ⟨ha.size, fun k v hk => by
    rw [get_cons] at hk
    by_cases e' : s = k
    · subst e'; rw [if_pos rfl] at hk; exact ha.get s v (h.trans hk)
    · rw [if_neg e'] at hk; exact ha.get k v hk⟩

theorem guardE_sound {ops : List Oper} {o : Oper} {yes no : Env → Prop} (ha : Agr N e a) (h : guardE ops o e yes no) :
    ∃ e', Agr N e' a ∧ ((Region.wanted o (yielded ops.toArray a.tmps) = true ∧ yes e') ∨ (Region.wanted o (yielded ops.toArray a.tmps) = false ∧ no e')) := by
  unfold guardE at h
  cases hg : o.guard with
  | none => rw [hg] at h; exact ⟨e, ha, .inl ⟨by simp [Region.wanted, hg], h⟩⟩
  | some jw =>
    obtain ⟨j, want⟩ := jw
    rw [hg] at h
    obtain ⟨s, hs, h⟩ := optx_elim h
    obtain ⟨v, hv, h⟩ := optx_elim h
    have ht := ha.get s v hv
    have hs' : (ops[j]?).bind (·.dst) = some s := hs
    cases v <;> try exact h.elim
    case bool b =>
      have hy : yielded ops.toArray a.tmps j = some b := by simp only [yielded, List.getElem?_toArray, hs', Option.bind_some, ht]
      have hw : Region.wanted o (yielded ops.toArray a.tmps) = (b == want) := by
        simp only [Region.wanted, hg, hy]; cases b <;> cases want <;> rfl
      rw [hw]
      cases b <;> cases want
      · exact ⟨_, agr_bool ha hv, .inl ⟨rfl, h⟩⟩
      · exact ⟨_, agr_bool ha hv, .inr ⟨rfl, h⟩⟩
      · exact ⟨_, agr_bool ha hv, .inr ⟨rfl, h⟩⟩
      · exact ⟨_, agr_bool ha hv, .inl ⟨rfl, h⟩⟩
    case tuple us =>
      have hy : yielded ops.toArray a.tmps j = none := by simp only [yielded, List.getElem?_toArray, hs', Option.bind_some, ht]
      exact ⟨e, ha, .inr ⟨by simp [Region.wanted, hg, hy], h⟩⟩

theorem stepE_sound {r : Option Nat} {n : Nat} {W : List Nat} {ops : List Oper} {o : Oper} {w : World} {K : Env → World → Prop} {Q : Exit → Act → World → Prop} (ha : Agr N e a) (hW : ∀ d, o.dst = some d → d ∈ W)
    (h : stepE P N ops o e w K) :
    if Region.wanted o (yielded ops.toArray a.tmps) = true then o.wpIn (Fr r) n P a w (Behind N W a K) Q else (∀ f, o.about P w a.eval = some f → (Fr r).fn f) ∧ Behind N W a K (a.put o.dst undef) w := by
  obtain ⟨e', ha', h⟩ := guardE_sound ha h
  rcases h with ⟨hw, h⟩ | ⟨hw, h⟩
  · rw [if_pos hw]
    exact opE_sound ha' hW h
  · rw [if_neg (by rw [hw]; decide)]
    obtain ⟨e'', hK, ha''⟩ := dput_sound ha' h
    exact ⟨fun _ _ => trivial, put_fwd hW undef, put_defers _ _, e'', ha'', hK⟩

theorem Behind.step {W : List Nat} {K : Env → World → Prop} {a' a'' : Act} {w'' : World} (h1 : Fwd W a a') (h2 : a'.defers = a.defers) (h : Behind N W a' K a'' w'') : Behind N W a K a'' w'' :=
  ⟨h1.trans h.1, h.2.1.trans h2, h.2.2⟩

theorem listE_sound {r : Option Nat} {n : Nat} {W : List Nat} {ops : List Oper} {K : Env → World → Prop} {Q : Exit → Act → World → Prop} :
    ∀ (l : List Oper) {e : Env} {a : Act} {w : World}, (∀ o ∈ l, ∀ d, o.dst = some d → d ∈ W) → Agr N e a → listE P N ops l e w K → (∀ a' w', Behind N W a K a' w' → Q .normal a' w') →
      wpListIn (Fr r) n P ops.toArray Q l a w
  | [], e, a, w, _, ha, h, hQ => hQ a w ⟨Fwd.refl _ _, rfl, e, ha, h⟩
  | o :: l, e, a, w, hW, ha, h, hQ => by
    have hs := stepE_sound (r := r) (n := n) (Q := Q) ha (hW o (by simp)) h
    unfold wpListIn
    have next : ∀ a' w', Behind N W a (fun e' w' => listE P N ops l e' w' K) a' w' → wpListIn (Fr r) n P ops.toArray Q l a' w' := fun a' w' ⟨h1, h2, e', ha', h'⟩ =>
      listE_sound l (fun o ho => hW o (by simp [ho])) ha' h' fun a'' w'' hb => hQ a'' w'' (hb.step h1 h2)
    by_cases hw : Region.wanted o (yielded ops.toArray a.tmps) = true
    · rw [if_pos hw] at hs ⊢
      exact Oper.wpIn_mono next hs
    · rw [if_neg hw] at hs ⊢
      exact ⟨hs.1, next _ _ hs.2⟩
end
end Go.Wx
end
section
/- The framework of these proofs, part 7: operations that yield one value, and what is said of a later world. -/
namespace Go.Wx
open Go

/-- Behind it all that lay lies as it lay. -/
def Ext (w w' : World) : Prop := ∀ (b : Nat) (o : Obj), w.heap[b]? = some o → w'.heap[b]? = some o
theorem Ext.refl (w : World) : Ext w w := fun _ _ h => h
theorem Ext.trans {a b c : World} (h : Ext a b) (g : Ext b c) : Ext a c := fun k o hk => g k o (h k o hk)
theorem Ext.alloc (w : World) (o : Obj) : Ext w (w.alloc o) := fun k o' hk => by
  have hlt := (Array.getElem?_eq_some_iff.1 hk).1
  rw [Go.RowKit.Below.heap_alloc w o k hlt]; exact hk
theorem Ext.drew (w : World) : Ext w w.drew := fun _ _ h => h
theorem Ext.cell {w w' : World} (h : Ext w w') {a : Addr} {v : Value} (hc : w.cell? a = some v) : w'.cell? a = some v := by
  unfold World.cell? at hc ⊢
  split at hc
  · rename_i c t f hb
    rw [h _ _ hb]
    exact hc
  · contradiction

def Pin (T : (Value → Prop) → Prop) : Prop := ∀ K, T K → ∃ v, K v ∧ ∀ K' : Value → Prop, K' v → T K'

theorem Pin.at (v : Value) : Pin (fun K => K v) := fun _ h => ⟨v, h, fun _ h => h⟩
theorem Pin.no : Pin (fun _ => False) := fun _ h => h.elim
theorem Pin.bif {b : Bool} {T U : (Value → Prop) → Prop} (hT : Pin T) (hU : Pin U) : Pin (fun K => ifB b (T K) (U K)) := by cases b; exact hU; exact hT
theorem Pin.bifL {b : Bool} {T : (Value → Prop) → Prop} (hT : Pin T) : Pin (fun K => ifB b (T K) False) := Pin.bif hT Pin.no
theorem Pin.bifR {b : Bool} {T : (Value → Prop) → Prop} (hT : Pin T) : Pin (fun K => ifB b False (T K)) := Pin.bif Pin.no hT
theorem Pin.opt {α : Type} {o : Option α} {T : α → (Value → Prop) → Prop} (hT : ∀ a, Pin (T a)) : Pin (fun K => optx o fun a => T a K) := by
  cases o
  · exact Pin.no
  · exact hT _
theorem Pin.and {C : Prop} {T : (Value → Prop) → Prop} (hT : Pin T) : Pin (fun K => C ∧ T K) := fun K ⟨hc, h⟩ => by
  obtain ⟨v, hv, hr⟩ := hT K h
  exact ⟨v, hv, fun K' h' => ⟨hc, hr K' h'⟩⟩
theorem Pin.ex {α : Type} {T : α → (Value → Prop) → Prop} (hT : ∀ a, Pin (T a)) : Pin (fun K => ∃ a, T a K) := fun K ⟨a, h⟩ => by
  obtain ⟨v, hv, hr⟩ := hT a K h
  exact ⟨v, hv, fun K' h' => ⟨a, hr K' h'⟩⟩
theorem Pin.leaf {l : LK} {T : Value → (Value → Prop) → Prop} (hT : ∀ a, Pin (T a)) : Pin (fun K => exL l fun v => T v K) := by
  cases l
  case slice => exact Pin.ex fun _ => Pin.ex fun _ => Pin.ex fun _ => hT _
  all_goals exact Pin.ex fun _ => hT _
theorem Pin.asI {v : Value} {T : IntKind → Int → (Value → Prop) → Prop} (hT : ∀ k n, Pin (T k n)) : Pin (fun K => Go.Wx.asI v fun k n => T k n K) := by
  cases v <;> first | exact Pin.no | exact hT _ _
theorem Pin.nil {p : Option Addr} {T : Addr → (Value → Prop) → Prop} (hT : ∀ a, Pin (T a)) : Pin (fun K => nilx p fun a => T a K) := by
  cases p
  · exact Pin.no
  · exact hT _
theorem Pin.asA {v : Value} {T : Addr → (Value → Prop) → Prop} (hT : ∀ a, Pin (T a)) : Pin (fun K => Go.Wx.asA v fun a => T a K) := by
  cases v <;> first | exact Pin.no | exact Pin.nil hT
theorem Pin.asB {v : Value} {T : Bool → (Value → Prop) → Prop} (hT : ∀ a, Pin (T a)) : Pin (fun K => Go.Wx.asB v fun a => T a K) := by
  cases v <;> first | exact Pin.no | exact hT _
theorem Pin.asG {v : Value} {T : Array Value → (Value → Prop) → Prop} (hT : ∀ a, Pin (T a)) : Pin (fun K => Go.Wx.asG v fun a => T a K) := by
  cases v <;> first | exact Pin.no | exact hT _
theorem Pin.asSl {v : Value} {T : Option Addr → Nat → Nat → (Value → Prop) → Prop} (hT : ∀ a b c, Pin (T a b c)) : Pin (fun K => Go.Wx.asSl v fun a b c => T a b c K) := by
  cases v <;> first | exact Pin.no | exact hT _ _ _
theorem Pin.asM {v : Value} {T : Nat → (Value → Prop) → Prop} (hT : ∀ a, Pin (T a)) : Pin (fun K => Go.Wx.asM v fun a => T a K) := by
  cases v <;> try exact Pin.no
  rename_i r
  cases r
  · exact Pin.no
  · exact hT _

section
variable {P : Program}

theorem ibin_pin (op : BinOp) (k : IntKind) (a b : Int) : Pin (ibin op k a b) := by
  cases op <;> first | exact Pin.at _ | exact Pin.bifR (Pin.at _)

theorem binx_pin (op : BinOp) (t : TypeId) (x y : Value) : Pin (binx P op t x y) := by
  unfold binx
  generalize P.underlying t = d
  cases x <;> try exact Pin.no
  case int k a =>
    cases y <;> try exact Pin.no
    exact Pin.bifL (ibin_pin _ _ _ _)
  case float k a =>
    cases y <;> try exact Pin.no
    refine Pin.bifL ?_
    cases op <;> first | exact Pin.no | exact Pin.at _ | exact Pin.opt fun _ => Pin.at _
  case pointer p =>
    cases y <;> try exact Pin.no
    rename_i q
    cases q <;> try exact Pin.no
    rcases d with _ | d
    · exact Pin.no
    cases d <;> try exact Pin.no
    cases op <;> first | exact Pin.no | exact Pin.at _
  case slice p l c =>
    cases y <;> try exact Pin.no
    rename_i q _ _
    cases q <;> try exact Pin.no
    rcases d with _ | d
    · exact Pin.no
    cases d <;> try exact Pin.no
    cases op <;> first | exact Pin.no | exact Pin.at _
  case func f a b =>
    cases y <;> try exact Pin.no
    rcases d with _ | d
    · exact Pin.no
    cases d <;> try exact Pin.no
    cases op <;> first | exact Pin.no | exact Pin.at _
  case bool a =>
    cases y <;> try exact Pin.no
    rcases d with _ | d
    · exact Pin.no
    cases d <;> try exact Pin.no
    cases op <;> first | exact Pin.no | exact Pin.at _
  case agg xs =>
    cases y <;> try exact Pin.no
    refine Pin.bifR ?_
    cases op <;> first | exact Pin.no | exact Pin.opt fun _ => Pin.at _

theorem unx_pin (op : UnOp) (x : Value) : Pin (unx op x) := by
  unfold unx
  cases op <;> cases x <;> first | exact Pin.no | exact Pin.at _

theorem convx_pin (s d : TypeId) (x : Value) : Pin (convx P s d x) := by
  unfold convx
  generalize P.underlying s = a
  generalize P.underlying d = b
  rcases a with _ | a
  · exact Pin.no
  cases a <;> try exact Pin.no
  rcases b with _ | b
  · exact Pin.no
  cases b <;> try exact Pin.no
  all_goals (cases x <;> first | exact Pin.no | exact Pin.at _)

theorem fieldx_pin (t : TypeId) (x : Value) (f : Nat) : Pin (fieldx P t x f) := by
  unfold fieldx
  generalize P.underlying t = d
  rcases d with _ | d
  · exact Pin.no
  cases d <;> try exact Pin.no
  rename_i fs
  simp only []
  generalize fs[f]? = g
  rcases g with _ | g
  · exact Pin.no
  exact Pin.asG fun _ => Pin.bifL (Pin.opt fun _ => Pin.at _)

theorem idxAddrx_pin (t : TypeId) (x i : Value) : Pin (idxAddrx P t x i) := by
  unfold idxAddrx
  refine Pin.asI fun _ n => ?_
  generalize P.underlying t = d
  rcases d with _ | d
  · exact Pin.no
  cases d <;> try exact Pin.no
  · exact Pin.asSl fun _ _ _ => Pin.nil fun _ => Pin.and (Pin.bifL (Pin.at _))
  · exact Pin.asA fun _ => Pin.and (Pin.bifL (Pin.at _))

theorem idxx_pin (t : TypeId) (x i : Value) : Pin (idxx P t x i) := by
  unfold idxx
  refine Pin.asI fun _ n => ?_
  generalize P.underlying t = d
  rcases d with _ | d
  · exact Pin.no
  cases d <;> try exact Pin.no
  exact Pin.asG fun _ => Pin.bifL (Pin.leaf fun _ => Pin.and (Pin.and (Pin.at _)))

theorem low_pin (lo : Option Value) (h : Nat) (el : TypeId) (a : Option Addr) (c : Nat) : Pin (fun K => slicex.low P lo K h el a c) := by
  unfold slicex.low
  cases lo
  · exact Pin.at _
  · exact Pin.asI fun _ _ => Pin.and (Pin.at _)

theorem slicex_pin (t : TypeId) (x : Value) (lo hi : Option Value) : Pin (slicex P t x lo hi) := by
  unfold slicex
  generalize P.underlying t = d
  rcases d with _ | d
  · exact Pin.no
  cases d <;> try exact Pin.no
  cases x <;> try exact Pin.no
  refine Pin.bifL ?_
  cases hi
  · exact low_pin _ _ _ _ _
  · exact Pin.asI fun _ _ => Pin.and (low_pin _ _ _ _ _)

theorem maxx_pin : ∀ (r : List Value) (v : Value), Pin (maxx v r)
  | [], v => Pin.at v
  | y :: r, v => by cases v <;> cases y <;> first | exact Pin.no | exact maxx_pin r _
theorem minx_pin : ∀ (r : List Value) (v : Value), Pin (minx v r)
  | [], v => Pin.at v
  | y :: r, v => by cases v <;> cases y <;> first | exact Pin.no | exact minx_pin r _

theorem lenx_pin (t : TypeId) (x : Value) : Pin (lenx P t x) := by
  unfold lenx
  generalize P.underlying t = d
  rcases d with _ | d
  · exact Pin.no
  cases d <;> cases x <;> first | exact Pin.no | exact Pin.at _
theorem capx_pin (t : TypeId) (x : Value) : Pin (capx P t x) := by
  unfold capx
  generalize P.underlying t = d
  rcases d with _ | d
  · exact Pin.no
  cases d <;> cases x <;> first | exact Pin.no | exact Pin.at _

theorem buildx_pin (t : TypeId) (ps : List (Nat × Value)) : Pin (buildx P t ps) := by
  unfold buildx
  refine Pin.opt fun z => ?_
  generalize P.underlying t = d
  rcases d with _ | d
  · exact Pin.no
  cases d <;> try exact Pin.no
  all_goals exact Pin.bifL (Pin.opt fun _ => Pin.at _)

theorem pvv_pin (op : Op) (vs : List Value) : Pin (pvv P op vs) := by
  cases op <;> try exact Pin.no
  case move => rcases vs with _ | ⟨v, _ | ⟨_, _⟩⟩ <;> first | exact Pin.no | exact Pin.at _
  case assign => rcases vs with _ | ⟨v, _ | ⟨_, _⟩⟩ <;> first | exact Pin.no | exact Pin.at _
  case pick =>
    rcases vs with _ | ⟨v, _ | ⟨a, _ | ⟨b, _ | ⟨_, _⟩⟩⟩⟩ <;> first | exact Pin.no | exact Pin.asB fun _ => Pin.bif (Pin.at _) (Pin.at _)
  case nilCheck => rcases vs with _ | ⟨v, _ | ⟨_, _⟩⟩ <;> first | exact Pin.no | exact Pin.asA fun _ => Pin.at _
  case binOp => rcases vs with _ | ⟨v, _ | ⟨a, _ | ⟨_, _⟩⟩⟩ <;> first | exact Pin.no | exact binx_pin _ _ _ _
  case unOp => rcases vs with _ | ⟨v, _ | ⟨_, _⟩⟩ <;> first | exact Pin.no | exact unx_pin _ _
  case convert => rcases vs with _ | ⟨v, _ | ⟨_, _⟩⟩ <;> first | exact Pin.no | exact convx_pin _ _ _
  case makeFunc => exact Pin.at _
  case slice t x lo hi mx =>
    rcases mx with _ | m
    · rcases vs with _ | ⟨v, _ | ⟨a, _ | ⟨b, _ | ⟨_, _⟩⟩⟩⟩ <;> cases lo <;> cases hi <;> first
        | exact Pin.no
        | exact slicex_pin (P := P) t v none none
        | exact slicex_pin (P := P) t v none (some a)
        | exact slicex_pin (P := P) t v (some a) none
        | exact slicex_pin (P := P) t v (some a) (some b)
    · rcases vs with _ | ⟨v, _ | ⟨a, _ | ⟨b, _ | ⟨_, _⟩⟩⟩⟩ <;> exact Pin.no
  case fieldAddr => rcases vs with _ | ⟨v, _ | ⟨_, _⟩⟩ <;> first | exact Pin.no | exact Pin.asA fun _ => Pin.opt fun _ => Pin.at _
  case field => rcases vs with _ | ⟨v, _ | ⟨_, _⟩⟩ <;> first | exact Pin.no | exact fieldx_pin _ _ _
  case indexAddr => rcases vs with _ | ⟨v, _ | ⟨a, _ | ⟨_, _⟩⟩⟩ <;> first | exact Pin.no | exact idxAddrx_pin _ _ _
  case index => rcases vs with _ | ⟨v, _ | ⟨a, _ | ⟨_, _⟩⟩⟩ <;> first | exact Pin.no | exact idxx_pin _ _ _
  case extract =>
    rcases vs with _ | ⟨v, _ | ⟨_, _⟩⟩ <;> try exact Pin.no
    cases v <;> first | exact Pin.no | exact Pin.opt fun _ => Pin.at _
  case build => exact buildx_pin _ _
  case call c =>
    obtain ⟨callee, args, ats⟩ := c
    obtain ⟨ats⟩ := ats
    cases callee <;> try exact Pin.no
    rename_i b
    cases b <;> try (cases ats <;> exact Pin.no)
    case len =>
      cases ats with
      | nil => exact Pin.no
      | cons t ts => rcases vs with _ | ⟨v, _ | ⟨_, _⟩⟩ <;> first | exact Pin.no | exact lenx_pin _ _
    case cap =>
      cases ats with
      | nil => exact Pin.no
      | cons t ts => rcases vs with _ | ⟨v, _ | ⟨_, _⟩⟩ <;> first | exact Pin.no | exact capx_pin _ _
    case max => cases ats <;> rcases vs with _ | ⟨v, r⟩ <;> first | exact Pin.no | exact maxx_pin _ _
    case min => cases ats <;> rcases vs with _ | ⟨v, r⟩ <;> first | exact Pin.no | exact minx_pin _ _

/-! Reading: in every later world too. -/
def PinW (w : World) (T : World → (Value → Prop) → Prop) : Prop := ∀ K, T w K → ∃ v, K v ∧ ∀ w', Ext w w' → ∀ K' : Value → Prop, K' v → T w' K'

theorem PinW.no (w : World) : PinW w (fun _ _ => False) := fun _ h => h.elim
theorem PinW.asA {w : World} {v : Value} {T : Addr → World → (Value → Prop) → Prop} (hT : ∀ a, PinW w (T a)) : PinW w (fun w' K => Go.Wx.asA v fun a => T a w' K) := by
  cases v <;> try exact PinW.no w
  rename_i p
  cases p
  · exact PinW.no w
  · exact hT _
theorem PinW.bifL {w : World} {b : Bool} {T : World → (Value → Prop) → Prop} (hT : PinW w T) : PinW w (fun w' K => ifB b (T w' K) False) := by
  cases b
  · exact PinW.no w
  · exact hT
theorem PinW.leaf {w : World} {l : LK} {T : Value → World → (Value → Prop) → Prop} (hT : ∀ v, PinW w (T v)) : PinW w (fun w' K => exL l fun v => T v w' K) := by
  intro K h
  cases l
  case slice =>
    obtain ⟨a, b, c, h⟩ := h
    obtain ⟨v, hv, hr⟩ := hT _ K h
    exact ⟨v, hv, fun w' hw K' hK => ⟨a, b, c, hr w' hw K' hK⟩⟩
  all_goals
    obtain ⟨a, h⟩ := h
    obtain ⟨v, hv, hr⟩ := hT _ K h
    exact ⟨v, hv, fun w' hw K' hK => ⟨a, hr w' hw K' hK⟩⟩

theorem ldLs_pin {w : World} {a : Addr} : ∀ (ls : List LK) (i : Nat) (f : List Value → Value), PinW w (fun w' K => ldLs w' a ls i fun vs => K (f vs))
  | [], i, f => fun K h => ⟨f [], h, fun _ _ _ h => h⟩
  | l :: ls, i, f => by
    refine PinW.leaf fun v => fun K ⟨hc, h⟩ => ?_
    obtain ⟨u, hu, hr⟩ := ldLs_pin ls (i + 1) (fun vs => f (v :: vs)) K h
    exact ⟨u, hu, fun w' hw K' hK => ⟨hw.cell hc, hr w' hw K' hK⟩⟩

theorem ldx_pin {w : World} (t : TypeId) (a : Addr) : PinW w (fun w' K => ldx P t a w' K) := by
  unfold ldx
  generalize vkOf P t = k
  cases k with
  | leaf l => exact PinW.leaf fun v => fun K ⟨hc, h⟩ => ⟨v, h, fun w' hw K' hK => ⟨hw.cell hc, hK⟩⟩
  | agg ls => exact PinW.bifL (ldLs_pin ls 0 fun vs => .agg vs.toArray)

theorem exLs_pin (ls : List LK) : ∀ {T : List Value → (Value → Prop) → Prop}, (∀ vs, Pin (T vs)) → Pin (fun K => exLs ls fun vs => T vs K) := by
  induction ls with
  | nil => exact fun hT => hT []
  | cons l ls ih => exact fun hT => Pin.leaf fun v => ih fun vs => hT (v :: vs)
theorem exV_pin (k : VK) {T : Value → (Value → Prop) → Prop} (hT : ∀ v, Pin (T v)) : Pin (fun K => exV k fun v => T v K) := by
  cases k with
  | leaf l => exact Pin.leaf hT
  | agg ls => exact exLs_pin ls fun vs => hT _

theorem looky_pin {w : World} (t : TypeId) (m k : Value) (ok : Bool) : PinW w (fun w' K => looky P t m k ok w' K) := by
  unfold looky
  generalize P.underlying t = d
  rcases d with _ | d
  · exact PinW.no w
  cases d <;> try exact PinW.no w
  rename_i kt el
  simp only []
  generalize P.underlying kt = d
  rcases d with _ | d
  · exact PinW.no w
  cases d <;> try exact PinW.no w
  rename_i kk
  cases m <;> try exact PinW.no w
  rename_i r
  cases r <;> try exact PinW.no w
  rename_i r
  cases k <;> try exact PinW.no w
  rename_i k n
  refine PinW.bifL ?_
  intro K h
  obtain ⟨z, hz, h⟩ := optx_elim h
  obtain ⟨es, c, res, ⟨ho, hf⟩, h⟩ := h
  have hp : Pin (fun K => exV (vkOf P el) fun v => v = mgot res z ∧ K (if ok then .tuple #[v, .bool res.isSome] else v)) := exV_pin _ fun _ => Pin.and (Pin.at _)
  obtain ⟨v, hv, hr⟩ := hp K h
  refine ⟨v, hv, fun w' hw K' hK => ?_⟩
  rw [hz]
  exact ⟨es, c, res, ⟨hw _ _ ho, hf⟩, hr K' hK⟩

theorem lvv_pin {w : World} (op : Op) (vs : List Value) : PinW w (fun w' K => lvv P op vs w' K) := by
  cases op <;> try exact PinW.no w
  case load => rcases vs with _ | ⟨v, _ | ⟨_, _⟩⟩ <;> first | exact PinW.no w | exact PinW.asA fun _ => PinW.bifL (ldx_pin _ _)
  case lookup => rcases vs with _ | ⟨v, _ | ⟨a, _ | ⟨_, _⟩⟩⟩ <;> first | exact PinW.no w | exact looky_pin _ _ _ _
end
end Go.Wx
end
section
/- The framework of these proofs, part 8: a region whose order Go leaves open, walked in one order for all. -/
namespace Go.Wx
open Go

section
variable {P : Program} {w : World}

theorem optx_mono {α : Type} {o : Option α} {T U : α → Prop} (h : ∀ a, T a → U a) (hh : optx o T) : optx o U := by
  cases o
  · exact hh
  · exact h _ hh
theorem ifB_mono {b : Bool} {A B A' B' : Prop} (h1 : A → A') (h2 : B → B') (hh : ifB b A B) : ifB b A' B' := by
  cases b
  · exact h2 hh
  · exact h1 hh

theorem stx_mono {a : Addr} {K K' : World → Prop} (h : ∀ w, K w → K' w) : ∀ (vs : List Value) (i : Nat) (w : World), stx w a vs i K → stx w a vs i K'
  | [], _, w, hh => h w hh
  | _ :: vs, _, _, hh => ifB_mono (fun ⟨h1, h2, h3⟩ => ⟨h1, h2, stx_mono h vs _ _ h3⟩) id hh

theorem resx_mono {ks : List VK} {T U : Value → Prop} (h : ∀ v, T v → U v) (hh : resx ks T) : resx ks U := by
  have hl : ∀ (l : LK) {T U : Value → Prop}, (∀ v, T v → U v) → exL l T → exL l U := fun l T U h hh => by
    cases l
    case slice => obtain ⟨a, b, c, hh⟩ := hh; exact ⟨a, b, c, h _ hh⟩
    all_goals (obtain ⟨a, hh⟩ := hh; exact ⟨a, h _ hh⟩)
  have hls : ∀ (ls : List LK) {T U : List Value → Prop}, (∀ v, T v → U v) → exLs ls T → exLs ls U := fun ls => by
    induction ls with
    | nil => exact fun h hh => h _ hh
    | cons l ls ih => exact fun h hh => hl l (fun v hv => ih (fun vs hvs => h _ hvs) hv) hh
  have hv : ∀ (k : VK) {T U : Value → Prop}, (∀ v, T v → U v) → exV k T → exV k U := fun k T U h hh => by
    cases k with
    | leaf l => exact hl l h hh
    | agg ls => exact hls ls (fun vs hvs => h _ hvs) hh
  have hvs : ∀ (ks : List VK) {T U : List Value → Prop}, (∀ v, T v → U v) → exVs ks T → exVs ks U := fun ks => by
    induction ks with
    | nil => exact fun h hh => h _ hh
    | cons l ls ih => exact fun h hh => hv l (fun v hv => ih (fun vs hvs => h _ hvs) hv) hh
  rcases ks with _ | ⟨k, _ | ⟨k', ks⟩⟩
  · exact h _ hh
  · exact hv k h hh
  · exact hvs (k :: k' :: ks) (T := fun vs => T (.tuple vs.toArray)) (U := fun vs => U (.tuple vs.toArray)) (fun vs hvs => h _ hvs) hh

theorem callK_mono {K K' : Value → World → Prop} (h : ∀ v w, K v w → K' v w) {ks : List VK} {e : Ending} {w : World} (hh : CallK K ks e w) : CallK K' ks e w :=
  resx_mono (fun _ ⟨h1, h2⟩ => ⟨h1, h _ _ h2⟩) hh

theorem callV_mono {f : Value} {args : List Value} {R R' : Ending → World → Prop} (h : ∀ e w, R e w → R' e w) (hh : CallV P f args w R) : CallV P f args w R' := by
  cases f <;> try exact hh.elim
  rename_i fn first caps
  cases fn <;> try exact hh.elim
  · exact ifB_mono (fun hh => Calls.mono hh h) id hh
  · obtain ⟨f, tm, as, b, hy, hr⟩ := hh
    exact ⟨f, tm, as, b, hy, hr.mono h⟩

theorem callx_mono {f : Value} {ks : List VK} {args : List Value} {K K' : Value → World → Prop} (h : ∀ v w, K v w → K' v w) (hh : callx P f ks args w K) : callx P f ks args w K' := by
  have gen : CallV P f args w (CallK K ks) → CallV P f args w (CallK K' ks) := callV_mono (fun _ _ => callK_mono h)
  cases f with
  | func fn first caps =>
    cases fn with
    | func g =>
      have hh : ifB (okCallee P g) (Calls P g (first.toList ++ args ++ caps.toList).toArray w (CallK K (resKs P g))) False := hh
      show ifB (okCallee P g) (Calls P g (first.toList ++ args ++ caps.toList).toArray w (CallK K' (resKs P g))) False
      exact ifB_mono (fun hk => Calls.mono hk fun _ _ => callK_mono h) id hh
    | _ => exact gen hh
  | _ => exact gen hh

theorem appzy_mono {t : TypeId} {s x : Value} {K K' : Value → World → Prop} (h : ∀ v w, K v w → K' v w) (hh : appzy P t s x w K) : appzy P t s x w K' := by
  unfold appzy at *
  generalize P.underlying t = d at *
  rcases d with _ | d
  · exact hh.elim
  cases d <;> try exact hh.elim
  have h0 := asSl_elim hh
  clear hh
  obtain ⟨base, sl, sc, rfl, hh⟩ := h0
  have h0 := asI_elim hh
  clear hh
  obtain ⟨k, m, rfl, hh⟩ := h0
  refine optx_mono (fun z hz => ifB_mono (fun hk => ?_) id hz) hh
  obtain ⟨old, h1, h2, h3, h4⟩ := hk
  exact ⟨old, h1, h2, h3, fun b c w' ha => h _ _ (h4 b c w' ha)⟩

theorem appy_mono {t : TypeId} {s x : Value} {K K' : Value → World → Prop} (h : ∀ v w, K v w → K' v w) (hh : appy P t s x w K) : appy P t s x w K' := by
  unfold appy at *
  generalize P.underlying t = d at *
  rcases d with _ | d
  · exact hh.elim
  cases d <;> try exact hh.elim
  have h0 := asSl_elim hh
  clear hh
  obtain ⟨base, sl, sc, rfl, hh⟩ := h0
  have h0 := asSl_elim hh
  clear hh
  obtain ⟨src, n, c, rfl, hh⟩ := h0
  refine optx_mono (fun z hz => ifB_mono (fun hk => ?_) id hz) hh
  obtain ⟨old, new, h1, h2, h3, h3', h4, h5⟩ := hk
  exact ⟨old, new, h1, h2, h3, h3', h4, fun b c w' ha => h _ _ (h5 b c w' ha)⟩

theorem hvv_mono {op : Op} {ty : TypeId} {vs : List Value} {K K' : Value → World → Prop} (h : ∀ v w, K v w → K' v w) (hh : hvv P op ty vs w K) : hvv P op ty vs w K' := by
  cases op <;> try exact hh.elim
  case alloc t => rcases vs with _ | ⟨_, _⟩ <;> first | exact hh.elim | exact optx_mono (fun z hz => h _ _ hz) hh
  case box t x => rcases vs with _ | ⟨v, _ | ⟨_, _⟩⟩ <;> first | exact hh.elim | exact h _ _ hh
  case buildSlice t len ps =>
    unfold hvv at *
    simp only [] at *
    generalize P.underlying t = d at *
    rcases d with _ | d
    · exact hh.elim
    cases d <;> try exact hh.elim
    exact optx_mono (fun z hz => optx_mono (fun cs hcs => ifB_mono (fun hk => h _ _ hk) id hcs) hz) hh
  case store t x y =>
    rcases vs with _ | ⟨a, _ | ⟨v, _ | ⟨_, _⟩⟩⟩ <;> try exact hh.elim
    have hh : asA a fun a => ifB ((P.info? t).isSome && Nat.beq v.cells.toList.length (szOf P t)) (stx w a v.cells.toList 0 fun w' => K undef w') False := hh
    obtain ⟨p, rfl, hh⟩ := asA_elim hh
    exact ifB_mono (stx_mono (fun _ hk => h _ _ hk) _ _ _) id hh
  case makeMap t r => cases r <;> rcases vs with _ | ⟨_, _⟩ <;> first | exact hh.elim | exact h _ _ hh
  case makeSlice t l c =>
    rcases vs with _ | ⟨l, _ | ⟨c, _ | ⟨_, _⟩⟩⟩ <;> try exact hh.elim
    have hh : mksx P t l c w K := hh
    show mksx P t l c w K'
    unfold mksx at *
    generalize P.underlying t = d at *
    rcases d with _ | d
    · exact hh.elim
    cases d <;> try exact hh.elim
    cases l <;> try exact hh.elim
    cases c <;> try exact hh.elim
    exact ⟨hh.1, ifB_mono (fun hk => optx_mono (fun z hz => ifB_mono (fun hk => h _ _ hk) id hz) hk) id hh.2⟩
  case mapUpdate t m k v =>
    rcases vs with _ | ⟨m, _ | ⟨k, _ | ⟨v, _ | ⟨_, _⟩⟩⟩⟩ <;> try exact hh.elim
    have hh : mupy P t m k v w K := hh
    show mupy P t m k v w K'
    unfold mupy at *
    generalize P.underlying t = d at *
    rcases d with _ | d
    · exact hh.elim
    cases d <;> try exact hh.elim
    rename_i kt el
    simp only [] at *
    generalize P.underlying kt = d at *
    rcases d with _ | d
    · exact hh.elim
    cases d <;> try exact hh.elim
    obtain ⟨r, rfl, hh⟩ := asM_elim hh
    cases k <;> try exact hh.elim
    refine ifB_mono (fun hk => ?_) id hh
    obtain ⟨es, c, res, ho, hk⟩ := hk
    exact ⟨es, c, res, ho, h _ _ hk⟩
  case call c =>
    obtain ⟨callee, args, ats⟩ := c
    obtain ⟨ats⟩ := ats
    cases callee with
    | value f =>
      rcases vs with _ | ⟨f, args⟩
      · exact hh.elim
      have hh : callx P f (tyKs P ty) args w K := hh
      exact callx_mono h hh
    | invoke r n => exact hh.elim
    | builtin b =>
      cases b <;> try exact hh.elim
      case append =>
        rcases ats with _ | ⟨t, _ | ⟨u, ts⟩⟩ <;> rcases vs with _ | ⟨s, _ | ⟨x, _ | ⟨_, _⟩⟩⟩ <;> try exact hh.elim
        have hh : (match P.underlying u with
            | some (.int _) => appzy P t s x w K
            | some _ => appy P t s x w K
            | none => False) := hh
        show (match P.underlying u with
            | some (.int _) => appzy P t s x w K'
            | some _ => appy P t s x w K'
            | none => False)
        have g1 : appzy P t s x w K → appzy P t s x w K' := appzy_mono h
        have g2 : appy P t s x w K → appy P t s x w K' := appy_mono h
        generalize P.underlying u = d at *
        rcases d with _ | d
        · exact hh.elim
        cases d <;> first | exact g1 hh | exact g2 hh
      case clear =>
        rcases ats with _ | ⟨t, ts⟩ <;> rcases vs with _ | ⟨x, _ | ⟨_, _⟩⟩ <;> try exact hh.elim
        have hh : clry P t x w K := hh
        show clry P t x w K'
        unfold clry at *
        generalize P.underlying t = d at *
        rcases d with _ | d
        · exact hh.elim
        cases d <;> try exact hh.elim
        obtain ⟨base, n, c, rfl, hh⟩ := asSl_elim hh
        exact optx_mono (fun z hz => ifB_mono (fun hk => ⟨hk.1, h _ _ hk.2⟩) id hz) hh
      case delete =>
        rcases ats with _ | ⟨t, ts⟩ <;> rcases vs with _ | ⟨m, _ | ⟨k, _ | ⟨_, _⟩⟩⟩ <;> try exact hh.elim
        have hh : dely P t m k w K := hh
        show dely P t m k w K'
        unfold dely at *
        generalize P.underlying t = d at *
        rcases d with _ | d
        · exact hh.elim
        cases d <;> try exact hh.elim
        rename_i kt el
        simp only [] at *
        generalize P.underlying kt = d at *
        rcases d with _ | d
        · exact hh.elim
        cases d <;> try exact hh.elim
        obtain ⟨r, rfl, hh⟩ := asM_elim hh
        cases k <;> try exact hh.elim
        refine ifB_mono (fun hk => ?_) id hh
        obtain ⟨es, c, res, ho, hk⟩ := hk
        exact ⟨es, c, res, ho, h _ _ hk⟩
end
end Go.Wx
end
section
/- The framework of these proofs, part 9: one order serves every order. -/
namespace Go.Wx
open Go

def Le (e e' : Env) : Prop := ∀ k v, e.get k = some v → e'.get k = some v
def Eqv (e e' : Env) : Prop := Le e e' ∧ Le e' e
theorem Le.refl (e : Env) : Le e e := fun _ _ h => h
theorem Le.trans {a b c : Env} (h : Le a b) (g : Le b c) : Le a c := fun k v hk => g k v (h k v hk)
theorem Eqv.refl (e : Env) : Eqv e e := ⟨Le.refl e, Le.refl e⟩

def putd (dst : Option Tmp) (v : Value) (e : Env) : Env := match dst with
  | none => e
  | some d => (d, v) :: e

theorem putd_le {dst : Option Tmp} {v : Value} {e e' : Env} (h : Le e e') : Le (putd dst v e) (putd dst v e') := by
  cases dst with
  | none => exact h
  | some d => intro k u hk; simp only [putd, get_cons] at *; split <;> simp_all [Le]

theorem putd_get_ne {dst : Option Tmp} {v : Value} {e : Env} {s : Nat} (h : ∀ d, dst = some d → d ≠ s) : (putd dst v e).get s = e.get s := by
  cases dst with
  | none => rfl
  | some d => simp only [putd, get_cons]; rw [if_neg (h d rfl)]

theorem putd_comm {d d' : Option Tmp} {v v' : Value} {e : Env} (h : ∀ x, d = some x → d' ≠ some x) : Le (putd d v (putd d' v' e)) (putd d' v' (putd d v e)) := by
  intro k u hk
  cases d with
  | none => exact hk
  | some x => cases d' with
    | none => exact hk
    | some y =>
      have hne : x ≠ y := fun e => h x rfl (by rw [e])
      simp only [putd, get_cons] at *
      by_cases h1 : x = k
      · rw [if_pos h1] at hk; rw [if_neg (fun e => hne (h1.trans e.symm)), if_pos h1]; exact hk
      · rw [if_neg h1] at hk; rw [if_neg h1]; exact hk

theorem bool_eqv {e : Env} {s : Nat} {b : Bool} (h : e.get s = some (.bool b)) : Eqv ((s, .bool b) :: e) e := by
  constructor
  · intro k v hk
    rw [get_cons] at hk
    by_cases h1 : s = k
    · subst h1; rw [if_pos rfl] at hk; rw [h]; exact hk
    · rw [if_neg h1] at hk; exact hk
  · intro k v hk
    rw [get_cons]
    by_cases h1 : s = k
    · subst h1; rw [if_pos rfl]; rw [h] at hk; exact hk
    · rw [if_neg h1]; exact hk

theorem putd_eqv {dst : Option Tmp} {v : Value} {e e' : Env} (h : Eqv e e') : Eqv (putd dst v e) (putd dst v e') := ⟨putd_le h.1, putd_le h.2⟩

def tmpOf : Operand → Option Nat
  | .tmp t => some t
  | _ => none

def looks (ops : List Oper) (o : Oper) : List Nat := (opnds o.op).filterMap tmpOf ++ (match o.guard with
  | some (j, _) => (dstOf ops j).toList
  | none => [])

def AgreeOn (L : List Nat) (e e' : Env) : Prop := ∀ s ∈ L, ∀ v, e.get s = some v → e'.get s = some v

section
variable {P : Program} {N : Nat} {ops : List Oper}

theorem xev_agree {e e' : Env} {x : Operand} {K : Value → Prop} (h : ∀ t, tmpOf x = some t → ∀ v, e.get t = some v → e'.get t = some v) (hh : xev e x K) : xev e' x K := by
  obtain ⟨v, hv, hK⟩ := xev_elim hh
  unfold xev
  have : oev e' x = some v := by
    cases x with
    | tmp t => exact h t rfl v hv
    | const c => exact hv
    | global g => exact hv
    | func f => exact hv
  rw [this]
  exact hK

theorem xevs_agree : ∀ {xs : List Operand} {e e' : Env} {K : List Value → Prop}, AgreeOn (xs.filterMap tmpOf) e e' → xevs e xs K → xevs e' xs K
  | [], _, _, _, _, hh => hh
  | x :: xs, e, e', K, h, hh => by
    refine xev_agree (fun t ht v hv => h t (List.mem_filterMap.2 ⟨x, by simp, ht⟩) v hv) ?_
    obtain ⟨v, hv, hK⟩ := xev_elim hh
    unfold xev
    rw [hv]
    exact xevs_agree (fun s hs => h s (by
      obtain ⟨y, hy, hys⟩ := List.mem_filterMap.1 hs
      exact List.mem_filterMap.2 ⟨y, by simp [hy], hys⟩)) hK

theorem xevs_mono : ∀ {xs : List Operand} {e : Env} {K K' : List Value → Prop}, (∀ vs, K vs → K' vs) → xevs e xs K → xevs e xs K'
  | [], _, _, _, h, hh => h _ hh
  | x :: xs, e, K, K', h, hh => by
    obtain ⟨v, hv, hK⟩ := xev_elim hh
    unfold xevs xev
    rw [hv]
    exact xevs_mono (fun vs hvs => h _ hvs) hK

theorem dput_putd {dst : Option Tmp} {v : Value} {e e' : Env} {K K' : Env → Prop} (h : K (putd dst v e) → K' (putd dst v e')) (hh : dput N dst v e K) : dput N dst v e' K' := by
  cases dst with
  | none => exact h hh
  | some d => exact ifB_mono h id hh

theorem opE_congr {o : Oper} {e e' : Env} {w : World} {K K' : Env → World → Prop} (ha : AgreeOn ((opnds o.op).filterMap tmpOf) e e')
    (hK : ∀ v w1, (opcls o.op ≤ 1 → w1 = w) → K (putd o.dst v e) w1 → K' (putd o.dst v e') w1) (h : opE P N o e w K) : opE P N o e' w K' := by
  unfold opE at *
  refine xevs_agree ha (xevs_mono (fun vs hv => ?_) h)
  unfold opv at *
  split at hv
  · obtain ⟨v, h1, h2⟩ := pvv_pin _ _ _ hv
    exact h2 _ (dput_putd (hK v w fun _ => rfl) h1)
  · obtain ⟨v, h1, h2⟩ := lvv_pin (w := w) _ _ _ hv
    exact h2 w (Ext.refl w) _ (dput_putd (hK v w fun _ => rfl) h1)
  · rename_i h0 h1
    refine hvv_mono (fun v w1 hv => dput_putd (hK v w1 fun hle => ?_) hv) hv
    exfalso
    have : opcls o.op = 0 ∨ opcls o.op = 1 := by omega
    rcases this with h | h
    · exact h0 h
    · exact h1 h

theorem looks_op {o : Oper} {e e' : Env} (ha : AgreeOn (looks ops o) e e') : AgreeOn ((opnds o.op).filterMap tmpOf) e e' := fun s hs => ha s (List.mem_append_left _ hs)

theorem agree_cons {L : List Nat} {e e' : Env} (ha : AgreeOn L e e') (s : Nat) (b : Value) : AgreeOn L ((s, b) :: e) ((s, b) :: e') := fun k hk v hv => by
  rw [get_cons] at *
  split <;> simp_all
  exact ha k hk v hv

theorem stepE_congr {o : Oper} {e e' : Env} {w : World} {K K' : Env → World → Prop} (ha : AgreeOn (looks ops o) e e')
    (hK : ∀ v w1 e1 e1', (opcls o.op ≤ 1 → w1 = w) → Eqv e1 (putd o.dst v e) → Eqv e1' (putd o.dst v e') → K e1 w1 → K' e1' w1) (h : stepE P N ops o e w K) : stepE P N ops o e' w K' := by
  unfold stepE guardE at *
  cases hg : o.guard with
  | none =>
    rw [hg] at h
    exact opE_congr (looks_op ha) (fun v w1 hw hk => hK v w1 _ _ hw (Eqv.refl _) (Eqv.refl _) hk) h
  | some jw =>
    obtain ⟨j, want⟩ := jw
    rw [hg] at h
    simp only [] at h ⊢
    obtain ⟨s, hs, h⟩ := optx_elim h
    obtain ⟨v, hv, h⟩ := optx_elim h
    have hsl : s ∈ looks ops o := by
      unfold looks
      rw [hg]
      exact List.mem_append_right _ (by simp [hs])
    have hv' := ha s hsl v hv
    rw [hs]
    show optx (e'.get s) _
    rw [hv']
    cases v <;> try exact h.elim
    case bool b =>
      have yes : opE P N o ((s, .bool b) :: e) w K → opE P N o ((s, .bool b) :: e') w K' := opE_congr (agree_cons (looks_op ha) s _) fun v w1 hw hk =>
        hK v w1 _ _ hw (putd_eqv (bool_eqv hv)) (putd_eqv (bool_eqv hv')) hk
      have no : (dput N o.dst undef ((s, .bool b) :: e) fun e' => K e' w) → (dput N o.dst undef ((s, .bool b) :: e') fun e' => K' e' w) := dput_putd fun hk =>
        hK undef w _ _ (fun _ => rfl) (putd_eqv (bool_eqv hv)) (putd_eqv (bool_eqv hv')) hk
      cases b <;> cases want
      · exact yes h
      · exact no h
      · exact no h
      · exact yes h
    case tuple us => exact dput_putd (e := e) (e' := e') (K := fun e' => K e' w) (K' := fun e' => K' e' w) (fun hk => hK undef w _ _ (fun _ => rfl) (Eqv.refl _) (Eqv.refl _) hk) h

def Up (K : Env → World → Prop) : Prop := ∀ e e' w, Le e e' → K e w → K e' w

theorem stepE_le {o : Oper} {e e' : Env} {w : World} {K K' : Env → World → Prop} (hle : Le e e') (hK : ∀ e1 e1' w1, Le e1 e1' → K e1 w1 → K' e1' w1) (h : stepE P N ops o e w K) : stepE P N ops o e' w K' :=
  stepE_congr (fun s _ => hle s) (fun _ w1 _ _ _ h1 h2 hk => hK _ _ w1 (h1.1.trans ((putd_le hle).trans h2.2)) hk) h

def evs (e : Env) : List Operand → Option (List Value)
  | [] => some []
  | x :: xs => match oev e x, evs e xs with
    | some v, some vs => some (v :: vs)
    | _, _ => none

theorem xevs_iff {e : Env} : ∀ {xs : List Operand} {K : List Value → Prop}, xevs e xs K ↔ ∃ vs, evs e xs = some vs ∧ K vs
  | [], K => ⟨fun h => ⟨[], rfl, h⟩, fun ⟨vs, h, hK⟩ => by obtain rfl := Option.some.inj h; exact hK⟩
  | x :: xs, K => by
    constructor
    · intro h
      obtain ⟨v, hv, h⟩ := xev_elim h
      obtain ⟨vs, hvs, hK⟩ := xevs_iff.1 h
      exact ⟨v :: vs, by simp [evs, hv, hvs], hK⟩
    · rintro ⟨us, h, hK⟩
      unfold evs at h
      split at h
      · rename_i v vs hv hvs
        obtain rfl := Option.some.inj h
        unfold xevs xev
        rw [hv]
        exact xevs_iff.2 ⟨vs, hvs, hK⟩
      · contradiction

theorem opE_pin {o : Oper} {e : Env} {w : World} {K : Env → World → Prop} (hc : opcls o.op ≤ 1) (h : opE P N o e w K) :
    ∃ v, K (putd o.dst v e) w ∧ ∀ e' w', (opcls o.op = 0 ∨ Ext w w') → AgreeOn ((opnds o.op).filterMap tmpOf) e e' → ∀ K' : Env → World → Prop, K' (putd o.dst v e') w' → opE P N o e' w' K' := by
  unfold opE at h
  obtain ⟨vs, hvs, hv⟩ := xevs_iff.1 h
  have fin : ∃ v, (dput N o.dst v e fun e' => K e' w) ∧ ∀ w', (opcls o.op = 0 ∨ Ext w w') → ∀ T : Value → World → Prop, T v w' → opv P o.op o.type vs w' T := by
    unfold opv at hv ⊢
    split at hv
    · rename_i h0
      obtain ⟨v, h1, h2⟩ := pvv_pin _ _ _ hv
      exact ⟨v, h1, fun w' _ T hT => h2 _ hT⟩
    · rename_i h0
      obtain ⟨v, h1, h2⟩ := lvv_pin (w := w) _ _ _ hv
      exact ⟨v, h1, fun w' hw T hT => h2 w' (hw.resolve_left (by omega)) _ hT⟩
    · rename_i h0 h1
      exfalso
      have : opcls o.op = 0 ∨ opcls o.op = 1 := by omega
      rcases this with h | h
      · exact h0 h
      · exact h1 h
  obtain ⟨v, h1, h2⟩ := fin
  have hK : K (putd o.dst v e) w := by
    cases hd : o.dst with
    | none => rw [hd] at h1; exact h1
    | some d => rw [hd] at h1; exact (ifB_left h1).2
  refine ⟨v, hK, fun e' w' hw ha K' hk => ?_⟩
  unfold opE
  refine xevs_agree ha (xevs_iff.2 ⟨vs, hvs, h2 w' hw _ ?_⟩)
  cases hd : o.dst with
  | none => rw [hd] at hk; exact hk
  | some d =>
    rw [hd] at h1 hk
    obtain ⟨hb, _⟩ := ifB_left h1
    show ifB (Nat.blt d N) _ False
    rw [hb]
    exact hk

/-- An operation that yields one value: it does so again, in another frame that agrees, in a later world. -/
theorem stepE_pin {o : Oper} {e : Env} {w : World} {K : Env → World → Prop} (hc : opcls o.op ≤ 1) (h : stepE P N ops o e w K) :
    ∃ v e1, Eqv e1 (putd o.dst v e) ∧ K e1 w ∧ ∀ e' w', (opcls o.op = 0 ∨ Ext w w') → AgreeOn (looks ops o) e e' → ∀ K' : Env → World → Prop, (∀ e1', Eqv e1' (putd o.dst v e') → K' e1' w') → stepE P N ops o e' w' K' := by
  unfold stepE guardE at h
  cases hg : o.guard with
  | none =>
    rw [hg] at h
    obtain ⟨v, h1, h2⟩ := opE_pin hc h
    refine ⟨v, _, Eqv.refl _, h1, fun e' w' hw ha K' hk => ?_⟩
    unfold stepE guardE
    rw [hg]
    exact h2 e' w' hw (looks_op ha) K' (hk _ (Eqv.refl _))
  | some jw =>
    obtain ⟨j, want⟩ := jw
    rw [hg] at h
    simp only [] at h
    obtain ⟨s, hs, h⟩ := optx_elim h
    obtain ⟨u, hu, h⟩ := optx_elim h
    have hsl : s ∈ looks ops o := by
      unfold looks
      rw [hg]
      exact List.mem_append_right _ (by simp [hs])
    have back : ∀ {e' : Env} {w' : World} {K' : Env → World → Prop}, AgreeOn (looks ops o) e e' → (optx (e'.get s) fun v => match v with
        | .bool b => ifB b (ifB want (opE P N o ((s, .bool true) :: e') w' K') (dput N o.dst undef ((s, .bool true) :: e') fun e' => K' e' w')) (ifB want (dput N o.dst undef ((s, .bool false) :: e') fun e' => K' e' w') (opE P N o ((s, .bool false) :: e') w' K'))
        | .tuple _ => dput N o.dst undef e' fun e' => K' e' w'
        | _ => False) → stepE P N ops o e' w' K' := fun _ hh => by
      unfold stepE guardE
      rw [hg]
      simp only []
      rw [hs]
      exact hh
    cases u <;> try exact h.elim
    case bool b =>
      have yes : opE P N o ((s, .bool b) :: e) w K → ∃ v e1, Eqv e1 (putd o.dst v e) ∧ K e1 w ∧ ∀ e' w', (opcls o.op = 0 ∨ Ext w w') → AgreeOn (looks ops o) e e' → ∀ K' : Env → World → Prop, (∀ e1', Eqv e1' (putd o.dst v e') → K' e1' w') → opE P N o ((s, .bool b) :: e') w' K' := fun hk => by
        obtain ⟨v, h1, h2⟩ := opE_pin hc hk
        refine ⟨v, _, putd_eqv (bool_eqv hu), h1, fun e' w' hw ha K' hk' => ?_⟩
        exact h2 _ w' hw (agree_cons (looks_op ha) s _) K' (hk' _ (putd_eqv (bool_eqv (ha s hsl _ hu))))
      have no : (dput N o.dst undef ((s, .bool b) :: e) fun e' => K e' w) → ∃ v e1, Eqv e1 (putd o.dst v e) ∧ K e1 w ∧ ∀ e' w', (opcls o.op = 0 ∨ Ext w w') → AgreeOn (looks ops o) e e' → ∀ K' : Env → World → Prop, (∀ e1', Eqv e1' (putd o.dst v e') → K' e1' w') → dput N o.dst undef ((s, .bool b) :: e') fun e' => K' e' w' := fun hk => by
        refine ⟨undef, _, putd_eqv (bool_eqv hu), ?_, fun e' w' hw ha K' hk' => ?_⟩
        · cases hd : o.dst with
          | none => rw [hd] at hk; exact hk
          | some d => rw [hd] at hk; exact (ifB_left hk).2
        · exact dput_putd (K := fun e' => K e' w) (fun _ => hk' _ (putd_eqv (bool_eqv (ha s hsl _ hu)))) hk
      have lift : ∀ (X : Env → World → (Env → World → Prop) → Prop), (∀ e' w' (K' : Env → World → Prop), e'.get s = some (.bool b) → X e' w' K' → optx (e'.get s) fun v => match v with
        | .bool b => ifB b (ifB want (opE P N o ((s, .bool true) :: e') w' K') (dput N o.dst undef ((s, .bool true) :: e') fun e' => K' e' w')) (ifB want (dput N o.dst undef ((s, .bool false) :: e') fun e' => K' e' w') (opE P N o ((s, .bool false) :: e') w' K'))
        | .tuple _ => dput N o.dst undef e' fun e' => K' e' w'
        | _ => False) →
          (∃ v e1, Eqv e1 (putd o.dst v e) ∧ K e1 w ∧ ∀ e' w', (opcls o.op = 0 ∨ Ext w w') → AgreeOn (looks ops o) e e' → ∀ K' : Env → World → Prop, (∀ e1', Eqv e1' (putd o.dst v e') → K' e1' w') → X e' w' K') →
          ∃ v e1, Eqv e1 (putd o.dst v e) ∧ K e1 w ∧ ∀ e' w', (opcls o.op = 0 ∨ Ext w w') → AgreeOn (looks ops o) e e' → ∀ K' : Env → World → Prop, (∀ e1', Eqv e1' (putd o.dst v e') → K' e1' w') → stepE P N ops o e' w' K' := fun X hX ⟨v, e1, h1, h2, h3⟩ =>
        ⟨v, e1, h1, h2, fun e' w' hw ha K' hk => back ha (hX e' w' K' (ha s hsl _ hu) (h3 e' w' hw ha K' hk))⟩
      cases b <;> cases want
      · exact lift _ (fun e' w' K' hb hx => by rw [hb]; exact hx) (yes h)
      · exact lift _ (fun e' w' K' hb hx => by rw [hb]; exact hx) (no h)
      · exact lift _ (fun e' w' K' hb hx => by rw [hb]; exact hx) (no h)
      · exact lift _ (fun e' w' K' hb hx => by rw [hb]; exact hx) (yes h)
    case tuple us =>
      have hk : dput N o.dst undef e fun e' => K e' w := h
      refine ⟨undef, _, Eqv.refl _, ?_, fun e' w' hw ha K' hk' => back ha ?_⟩
      · cases hd : o.dst with
        | none => rw [hd] at hk; exact hk
        | some d => rw [hd] at hk; exact (ifB_left hk).2
      · rw [ha s hsl _ hu]
        exact dput_putd (e := e) (e' := e') (K := fun e' => K e' w) (K' := fun e' => K' e' w') (fun _ => hk' _ (Eqv.refl _)) hk
end
end Go.Wx
end
section
/- The framework of these proofs, part 10: a region whose order is drawn. One order, in which what is light comes first, serves every order. -/
namespace Go.Wx
open Go

section
variable {P : Program} {N : Nat} {ops : List Oper}

/-- An operation; with x: it leaves what the memory held. -/
def stepX (P : Program) (N : Nat) (ops : List Oper) (x : Bool) (o : Oper) (e : Env) (w : World) (K : Env → World → Prop) : Prop :=
  stepE P N ops o e w fun e' w' => match x with
    | true => Ext w w' ∧ K e' w'
    | false => K e' w'

/-- An order; where two heavy operations may come, either of them. -/
inductive Ord where
  | done
  | op (i : Nat) (r : Ord)
  | alt (i : Nat) (a : Ord) (j : Nat) (b : Ord)

def Ord.len : Ord → Nat
  | .done => 0
  | .op _ r => r.len + 1
  | .alt _ a _ _ => a.len + 1

def drawE (P : Program) (N : Nat) (ops : List Oper) (xs : List Nat) : Ord → Env → World → (Env → World → Prop) → Prop
  | .done, e, w, K => K e w
  | .op i r, e, w, K => optx ops[i]? fun o => stepX P N ops (xs.contains i) o e w fun e' w' => drawE P N ops xs r e' w' K
  | .alt i a j b, e, w, K => (optx ops[i]? fun o => stepX P N ops (xs.contains i) o e w fun e' w' => drawE P N ops xs a e' w' K) ∧
      optx ops[j]? fun o => stepX P N ops (xs.contains j) o e w fun e' w' => drawE P N ops xs b e' w' K

theorem opE_mono {o : Oper} {e : Env} {w : World} {K K' : Env → World → Prop} (hK : ∀ e1 w1, K e1 w1 → K' e1 w1) (h : opE P N o e w K) : opE P N o e w K' :=
  opE_congr (fun _ _ _ hv => hv) (fun _ _ _ hk => hK _ _ hk) h

theorem stepE_mono {o : Oper} {e : Env} {w : World} {K K' : Env → World → Prop} (hK : ∀ e1 w1, K e1 w1 → K' e1 w1) (h : stepE P N ops o e w K) : stepE P N ops o e w K' := by
  unfold stepE guardE at *
  cases hg : o.guard with
  | none => rw [hg] at h; exact opE_mono hK h
  | some jw =>
    obtain ⟨j, want⟩ := jw
    rw [hg] at h
    simp only [] at h ⊢
    obtain ⟨s, hs, h⟩ := optx_elim h
    obtain ⟨v, hv, h⟩ := optx_elim h
    rw [hs]
    show optx (e.get s) _
    rw [hv]
    cases v <;> try exact h.elim
    case bool b =>
      cases b <;> cases want
      · exact opE_mono hK h
      · exact dput_putd (K := fun e' => K e' w) (K' := fun e' => K' e' w) (hK _ _) h
      · exact dput_putd (K := fun e' => K e' w) (K' := fun e' => K' e' w) (hK _ _) h
      · exact opE_mono hK h
    case tuple us => exact dput_putd (K := fun e' => K e' w) (K' := fun e' => K' e' w) (hK _ _) h

theorem stepX_out {x : Bool} {o : Oper} {e : Env} {w : World} {K : Env → World → Prop} (h : stepX P N ops x o e w K) : stepE P N ops o e w K :=
  stepE_mono (fun e1 w1 hk => by
    cases x with
    | true => exact (hk : Ext w w1 ∧ K e1 w1).2
    | false => exact hk) h

theorem stepX_mono {x : Bool} {o : Oper} {e : Env} {w : World} {K K' : Env → World → Prop} (hK : ∀ e1 w1, K e1 w1 → K' e1 w1) (h : stepX P N ops x o e w K) : stepX P N ops x o e w K' :=
  stepE_mono (fun e1 w1 hk => by
    cases x with
    | true => exact ⟨(hk : Ext w w1 ∧ K e1 w1).1, hK _ _ (hk : Ext w w1 ∧ K e1 w1).2⟩
    | false => exact hK _ _ hk) h

/-- Every order, in the words of the calculus. -/
def anyE (P : Program) (N : Nat) (ops : List Oper) (xs : List Nat) (K : Env → World → Prop) : Nat → Array Bool → Env → World → Prop
  | 0, l, e, w => Region.ready .any ops.toArray l = [] ∧ K e w
  | f + 1, l, e, w => (Region.ready .any ops.toArray l = [] → K e w) ∧
      ∀ i ∈ Region.ready .any ops.toArray l, ∃ o, ops[i]? = some o ∧ stepX P N ops (xs.contains i) o e w fun e' w' => anyE P N ops xs K f (l.setIfInBounds i true) e' w'

theorem anyE_sound {r : Option Nat} {n : Nat} {W : List Nat} {xs : List Nat} {K : Env → World → Prop} {Q : Exit → Act → World → Prop} (hW : ∀ o ∈ ops, ∀ d, o.dst = some d → d ∈ W) :
    ∀ (f : Nat) (l : Array Bool) {e : Env} {a : Act} {w : World}, Agr N e a → anyE P N ops xs K f l e w → (∀ a' w', Behind N W a K a' w' → Q .normal a' w') →
      wpAnyIn (Fr r) n P .any ops.toArray Q f l a w
  | 0, l, e, a, w, ha, h, hQ => ⟨h.1, hQ a w ⟨Fwd.refl _ _, rfl, e, ha, h.2⟩⟩
  | f + 1, l, e, a, w, ha, h, hQ => by
    refine ⟨fun h0 => hQ a w ⟨Fwd.refl _ _, rfl, e, ha, h.1 h0⟩, fun i hi => ?_⟩
    obtain ⟨o, ho, hs⟩ := h.2 i hi
    have hs := stepE_sound (r := r) (n := n) (Q := Q) ha (hW o (List.mem_of_getElem? ho)) (stepX_out hs)
    unfold wpOpIn
    have ho' : ops.toArray[i]? = some o := by simpa using ho
    rw [ho']
    have next : ∀ a' w', Behind N W a (fun e' w' => anyE P N ops xs K f (l.setIfInBounds i true) e' w') a' w' → wpAnyIn (Fr r) n P .any ops.toArray Q f (l.setIfInBounds i true) a' w' :=
      fun a' w' ⟨h1, h2, e', ha', h'⟩ => anyE_sound hW f _ ha' h' fun a'' w'' hb => hQ a'' w'' (hb.step h1 h2)
    simp only []
    by_cases hw : Region.wanted o (yielded ops.toArray a.tmps) = true
    · rw [if_pos hw] at hs ⊢
      exact Oper.wpIn_mono next hs
    · rw [if_neg hw] at hs ⊢
      exact ⟨hs.1, next _ _ hs.2⟩

theorem anyE_up {xs : List Nat} {K : Env → World → Prop} (hK : Up K) : ∀ (f : Nat) (l : Array Bool) {e e' : Env} {w : World}, Le e e' → anyE P N ops xs K f l e w → anyE P N ops xs K f l e' w
  | 0, _, _, _, _, hle, h => ⟨h.1, hK _ _ _ hle h.2⟩
  | f + 1, l, e, e', w, hle, h => by
    refine ⟨fun h0 => hK _ _ _ hle (h.1 h0), fun i hi => ?_⟩
    obtain ⟨o, ho, hs⟩ := h.2 i hi
    refine ⟨o, ho, stepE_le hle (fun e1 e1' w1 h1 hk => ?_) hs⟩
    cases hx : xs.contains i with
    | true => rw [hx] at hk; exact ⟨hk.1, anyE_up hK f _ h1 hk.2⟩
    | false => rw [hx] at hk; exact anyE_up hK f _ h1 hk

/-- j comes behind i, by edges that bind. -/
inductive Reach (ops : List Oper) (i : Nat) : Nat → Prop
  | one {j : Nat} {o : Oper} {g : Edge} : ops[j]? = some o → g ∈ o.after → Region.binds .any g = true → g.on = i → Reach ops i j
  | more {j k : Nat} {o : Oper} {g : Edge} : Reach ops i k → ops[j]? = some o → g ∈ o.after → Region.binds .any g = true → g.on = k → Reach ops i j

def Down (ops : List Oper) (l : Array Bool) : Prop := ∀ k o g, l.getD k false = true → ops[k]? = some o → g ∈ o.after → Region.binds .any g = true → l.getD g.on false = true

theorem getD_set (l : Array Bool) (i k : Nat) : (l.setIfInBounds i true).getD k false = true → k = i ∨ l.getD k false = true := by
  intro h
  by_cases hik : i = k
  · exact .inl hik.symm
  · rw [getD_set_ne false hik] at h; exact .inr h

theorem Down.set {l : Array Bool} {i : Nat} (h : Down ops l) (hi : i ∈ Region.ready .any ops.toArray l) : Down ops (l.setIfInBounds i true) := by
  intro k o g hk ho hg hb
  rcases getD_set l i k hk with rfl | hk
  · obtain ⟨_, o', ho', hall⟩ := mem_ready.1 hi
    have : o' = o := by simpa [ho] using ho'.symm
    exact getD_set_true (hall g (this ▸ hg) hb)
  · exact getD_set_true (h k o g hk ho hg hb)

theorem Reach.unlisted {l : Array Bool} {i j : Nat} (hd : Down ops l) (hi : l.getD i false = false) (h : Reach ops i j) : l.getD j false = false := by
  induction h with
  | one ho hg hb he =>
    rename_i j o g
    cases hj : l.getD j false with
    | false => rfl
    | true => rw [← he, hd j o g hj ho hg hb] at hi; cases hi
  | more hr ho hg hb he ih =>
    rename_i j k o g
    cases hj : l.getD j false with
    | false => rfl
    | true => rw [← he, hd j o g hj ho hg hb] at ih; cases ih

theorem getD_unlisted {l : Array Bool} {i : Nat} (h : l.getD i true = false) : l.getD i false = false := by
  rcases Nat.lt_or_ge i l.size with h' | h'
  · simp [h'] at h ⊢; exact h
  · simp [Array.getElem?_eq_none h'] at h

theorem Reach.not_ready {l : Array Bool} {i j : Nat} (hd : Down ops l) (hi : l.getD i false = false) (h : Reach ops i j) : j ∉ Region.ready .any ops.toArray l := by
  intro hj
  obtain ⟨_, o', ho', hall⟩ := mem_ready.1 hj
  cases h with
  | one ho hg hb he =>
    rename_i o g
    have : o' = o := by simpa [ho] using ho'.symm
    have := hall g (this ▸ hg) hb
    rw [he, hi] at this; cases this
  | more hr ho hg hb he =>
    rename_i k o g
    have : o' = o := by simpa [ho] using ho'.symm
    have := hall g (this ▸ hg) hb
    rw [he, hr.unlisted hd hi] at this; cases this

def clashes (d : Option Tmp) (l : List Nat) : Bool := match d with
  | none => false
  | some d => l.contains d

/-- Two operations of which the first is light: they change places. -/
def apartB (ops : List Oper) (xs : List Nat) (i j : Nat) : Bool :=
  match ops[i]?, ops[j]? with
  | some a, some b => !clashes a.dst (looks ops b) && !clashes b.dst (looks ops a) && !clashes a.dst b.dst.toList && (Nat.beq (opcls a.op) 0 || (Nat.beq (opcls a.op) 1 && (Nat.ble (opcls b.op) 1 || xs.contains j)))
  | _, _ => false

def edgesOf (o : Oper) : List Nat := (o.after.toList.filter (Region.binds .any)).map (·.on)

def memN (k : Nat) : List Nat → Bool
  | [] => false
  | a :: l => match Nat.beq a k with
    | true => true
    | false => memN k l

theorem memN_mem {k : Nat} : ∀ {l : List Nat}, memN k l = true → k ∈ l
  | [], h => by cases h
  | a :: l, h => by
    unfold memN at h
    cases hb : Nat.beq a k with
    | true => rw [Nat.eq_of_beq_eq_true hb]; simp
    | false => rw [hb] at h; exact List.mem_cons_of_mem _ (memN_mem h)

/-- The operations behind i, found in one pass. -/
def reachL (i : Nat) : List Oper → Nat → List Nat → List Nat
  | [], _, r => r
  | o :: l, j, r => match (edgesOf o).any fun k => Nat.beq k i || memN k r with
    | true => reachL i l (j + 1) (j :: r)
    | false => reachL i l (j + 1) r

def reachB (ops : List Oper) (i : Nat) (_ : Nat) : List Nat := reachL i ops 0 []

theorem reachL_sound {i : Nat} : ∀ (l : List Oper) (j : Nat) (r : List Nat), (∀ k, ops[j + k]? = l[k]?) → (∀ k ∈ r, Reach ops i k) → ∀ k ∈ reachL i l j r, Reach ops i k
  | [], _, _, _, hr => hr
  | o :: l, j, r, hl, hr => by
    have ho : ops[j]? = some o := hl 0
    have hl' : ∀ k, ops[j + 1 + k]? = l[k]? := fun k => by
      have := hl (k + 1)
      rw [List.getElem?_cons_succ] at this
      rw [← this]
      congr 1
      omega
    unfold reachL
    cases h : (edgesOf o).any fun k => Nat.beq k i || memN k r with
    | false => exact reachL_sound l (j + 1) r hl' hr
    | true =>
      refine reachL_sound l (j + 1) (j :: r) hl' fun k hk => ?_
      rcases List.mem_cons.1 hk with rfl | hk
      · obtain ⟨m, hm, hm'⟩ := List.any_eq_true.1 h
        obtain ⟨g, hg, rfl⟩ := List.mem_map.1 hm
        obtain ⟨hg, hb⟩ := List.mem_filter.1 hg
        rcases Bool.or_eq_true_iff.1 hm' with h1 | h1
        · exact .one ho (by simpa using hg) hb (Nat.eq_of_beq_eq_true h1)
        · exact .more (hr _ (memN_mem h1)) ho (by simpa using hg) hb rfl
      · exact hr k hk

theorem reachB_sound {i : Nat} (f j : Nat) (h : j ∈ reachB ops i f) : Reach ops i j :=
  reachL_sound ops 0 [] (fun k => by rw [Nat.zero_add]) (fun _ h => by cases h) j h

def light (ops : List Oper) (i : Nat) : Bool := match ops[i]? with
  | some o => Nat.ble (opcls o.op) 1
  | none => false

/-- The order p, from what is listed on: what is light comes as soon as it may, where all others are apart from it or behind it; what is heavy comes when nothing else may. -/
def okD (ops : List Oper) (xs : List Nat) : Array Bool → Ord → Bool
  | l, .done => (Region.ready .any ops.toArray l).isEmpty
  | l, .alt i a j b => (Region.ready .any ops.toArray l == [i, j]) && (Nat.beq a.len b.len && (okD ops xs (l.setIfInBounds i true) a && okD ops xs (l.setIfInBounds j true) b))
  | l, .op i p => ((Region.ready .any ops.toArray l == [i]) || (light ops i && ((Region.ready .any ops.toArray l).contains i && (let r := reachB ops i ops.length
      (List.range ops.length).all fun j => Nat.beq j i || (l.getD j true || (memN j r || apartB ops xs i j)))))) && okD ops xs (l.setIfInBounds i true) p

/-- What an operation yields, it yields in every later world and in every frame that agrees. -/
def Pinned (P : Program) (N : Nat) (ops : List Oper) (o : Oper) (v : Value) (e : Env) (w : World) : Prop :=
  ∀ e' w', (opcls o.op = 0 ∨ Ext w w') → AgreeOn (looks ops o) e e' → ∀ K' : Env → World → Prop, (∀ e1', Eqv e1' (putd o.dst v e') → K' e1' w') → stepE P N ops o e' w' K'

theorem clashes_ne {d : Option Tmp} {l : List Nat} (h : clashes d l = false) : ∀ x, d = some x → x ∉ l := by
  rintro x rfl hx
  have : l.contains x = false := h
  simp [hx] at this

theorem first {xs : List Nat} {K : Env → World → Prop} (hK : Up K) {i : Nat} {oi : Oper} {v : Value} (hi : ops[i]? = some oi) :
    ∀ (f : Nat) (l : Array Bool) (e : Env) (w : World), Down ops l → i ∈ Region.ready .any ops.toArray l →
      (∀ j, j ≠ i → l.getD j true = false → Reach ops i j ∨ apartB ops xs i j = true) → Pinned P N ops oi v e w →
      anyE P N ops xs K f (l.setIfInBounds i true) (putd oi.dst v e) w → anyE P N ops xs K (f + 1) l e w := by
  intro f
  have here : ∀ (f : Nat) (l : Array Bool) (e : Env) (w : World), Pinned P N ops oi v e w → anyE P N ops xs K f (l.setIfInBounds i true) (putd oi.dst v e) w →
      ∃ o, ops[i]? = some o ∧ stepX P N ops (xs.contains i) o e w fun e' w' => anyE P N ops xs K f (l.setIfInBounds i true) e' w' := fun f l e w hp H =>
    ⟨oi, hi, hp e w (.inr (Ext.refl w)) (fun _ _ _ h => h) _ fun e1 he1 => by
      have := anyE_up hK f _ he1.2 H
      cases hx : xs.contains i with
      | true => exact ⟨Ext.refl w, this⟩
      | false => exact this⟩
  induction f with
  | zero =>
    intro l e w _ hr _ hp H
    refine ⟨fun h => (by rw [h] at hr; cases hr), fun j hj => ?_⟩
    by_cases hji : j = i
    · subst hji; exact here 0 l e w hp H
    · have := ready_mono hj hji
      rw [H.1] at this
      cases this
  | succ f ih =>
    intro l e w hd hr hfree hp H
    refine ⟨fun h => (by rw [h] at hr; cases hr), fun j hj => ?_⟩
    by_cases hji : j = i
    · subst hji; exact here (f + 1) l e w hp H
    · obtain ⟨oj, hoj, hs⟩ := H.2 j (ready_mono hj hji)
      have hiu := getD_unlisted (mem_ready.1 hr).1
      have hap : apartB ops xs i j = true := (hfree j hji (mem_ready.1 hj).1).resolve_left fun hre => hre.not_ready hd hiu hj
      unfold apartB at hap
      rw [hi, hoj] at hap
      simp only [Bool.and_eq_true, Bool.not_eq_true'] at hap
      obtain ⟨⟨⟨h1, h2⟩, h3⟩, h4⟩ := hap
      have h1 := clashes_ne h1
      have h2 := clashes_ne h2
      have h3 := clashes_ne h3
      refine ⟨oj, hoj, stepE_congr (e := putd oi.dst v e) (fun s hs u hu => ?_) (fun u w1 e1 e1' hw1 he1 he1' hk => ?_) hs⟩
      · rw [putd_get_ne (fun d hd hds => h1 d hd (hds ▸ hs))] at hu
        exact hu
      · have hext : xs.contains j = true → Ext w w1 := fun hx => by rw [hx] at hk; exact hk.1
        have hk' : anyE P N ops xs K f ((l.setIfInBounds i true).setIfInBounds j true) e1 w1 := by
          cases hx : xs.contains j with
          | true => rw [hx] at hk; exact hk.2
          | false => rw [hx] at hk; exact hk
        have hcl : opcls oi.op = 0 ∨ Ext w w1 := by
          rcases Bool.or_eq_true_iff.1 h4 with h | h
          · exact .inl (Nat.eq_of_beq_eq_true h)
          · rcases Bool.or_eq_true_iff.1 (Bool.and_eq_true_iff.1 h).2 with h | h
            · exact .inr (by rw [hw1 (Nat.le_of_ble_eq_true h)]; exact Ext.refl w)
            · exact .inr (hext h)
        have hag : AgreeOn (looks ops oi) e e1' := fun s hs u' hu => by
          refine he1'.2 s u' ?_
          rw [putd_get_ne (fun d hd hds => h2 d hd (hds ▸ hs))]
          exact hu
        have hfin : anyE P N ops xs K (f + 1) (l.setIfInBounds j true) e1' w1 := by
          refine ih (l.setIfInBounds j true) e1' w1 (hd.set hj) (ready_mono hr (Ne.symm hji)) (fun k hki hun => hfree k hki ?_) ?_ ?_
          · by_cases hjk : j = k
            · subst hjk; exact (mem_ready.1 hj).1
            · rw [getD_set_ne true hjk] at hun; exact hun
          · intro e' w' hc ha K' hK'
            refine hp e' w' ?_ (fun s hs u' hu => ha s hs u' (hag s hs u' hu)) K' hK'
            rcases hc with hc | hc
            · exact .inl hc
            · exact hcl.imp id fun h => h.trans hc
          · rw [Array.setIfInBounds_comm _ _ hji]
            refine anyE_up hK f _ ?_ hk'
            refine he1.1.trans ((putd_comm (fun x hx hy => ?_)).trans (putd_le he1'.2))
            exact h3 x hy (by simp [hx])
        cases hx : xs.contains j with
        | true => exact ⟨hext hx, hfin⟩
        | false => exact hfin

theorem okD_sound {xs : List Nat} {K : Env → World → Prop} (hK : Up K) : ∀ (p : Ord) (l : Array Bool) (e : Env) (w : World), l.size = ops.length → Down ops l → okD ops xs l p = true → drawE P N ops xs p e w K →
    anyE P N ops xs K p.len l e w
  | .done, l, e, w, _, _, hok, h => by
    unfold okD at hok
    exact ⟨by simpa using hok, h⟩
  | .alt i a j b, l, e, w, hz, hd, hok, h => by
    unfold okD at hok
    simp only [Bool.and_eq_true] at hok
    obtain ⟨h1, h2, h3, h4⟩ := hok
    have h1 : Region.ready .any ops.toArray l = [i, j] := by simpa using h1
    have h2 := Nat.eq_of_beq_eq_true h2
    obtain ⟨ha, hb⟩ := h
    refine ⟨fun h0 => (by rw [h0] at h1; cases h1), fun k hk => ?_⟩
    rw [h1] at hk
    rcases List.mem_cons.1 hk with rfl | hk
    · obtain ⟨oi, hi, ha⟩ := optx_elim ha
      exact ⟨oi, hi, stepX_mono (fun e1 w1 hk => okD_sound hK a _ e1 w1 (by simpa using hz) (hd.set (by rw [h1]; simp)) h3 hk) ha⟩
    · obtain rfl := List.mem_singleton.1 hk
      obtain ⟨oi, hi, hb⟩ := optx_elim hb
      refine ⟨oi, hi, stepX_mono (fun e1 w1 hk => ?_) hb⟩
      have := okD_sound hK b _ e1 w1 (by simpa using hz) (hd.set (by rw [h1]; simp)) h4 hk
      rw [h2]
      exact this
  | .op i p, l, e, w, hz, hd, hok, h => by
    unfold okD at hok
    obtain ⟨h1, h2⟩ := Bool.and_eq_true_iff.1 hok
    obtain ⟨oi, hi, h⟩ := optx_elim h
    rcases Bool.or_eq_true_iff.1 h1 with h1 | h1
    · have h1 : Region.ready .any ops.toArray l = [i] := by simpa using h1
      refine ⟨fun h0 => (by rw [h0] at h1; cases h1), fun j hj => ?_⟩
      rw [h1] at hj
      obtain rfl := List.mem_singleton.1 hj
      refine ⟨oi, hi, stepX_mono (fun e1 w1 hk => ?_) h⟩
      exact okD_sound hK p _ e1 w1 (by simpa using hz) (hd.set (by rw [h1]; simp)) h2 hk
    · obtain ⟨hl, h1⟩ := Bool.and_eq_true_iff.1 h1
      obtain ⟨hr, h1⟩ := Bool.and_eq_true_iff.1 h1
      have hr : i ∈ Region.ready .any ops.toArray l := by simpa using hr
      have hc : opcls oi.op ≤ 1 := by
        unfold light at hl
        rw [hi] at hl
        exact Nat.le_of_ble_eq_true hl
      obtain ⟨v, e1, he1, hk, hp⟩ := stepE_pin hc h
      have hk' : drawE P N ops xs p e1 w K := by
        cases hx : xs.contains i with
        | true => rw [hx] at hk; exact hk.2
        | false => rw [hx] at hk; exact hk
      refine first hK hi p.len l e w hd hr (fun j hji hju => ?_) hp (anyE_up hK _ _ he1.1 (okD_sound hK p _ e1 w (by simpa using hz) (hd.set hr) h2 hk'))
      by_cases hjl : j < ops.length
      · have := List.all_eq_true.1 h1 j (List.mem_range.2 hjl)
        simp only [Bool.or_eq_true] at this
        rcases this with h | h | h | h
        · exact absurd (Nat.eq_of_beq_eq_true h) hji
        · rw [hju] at h; cases h
        · exact .inl (reachB_sound _ _ (memN_mem h))
        · exact .inr h
      · have : l.size ≤ j := by omega
        simp [Array.getElem?_eq_none this] at hju

/-- A region whose order is drawn, in the words of these texts. K is taken to all frames that know more. -/
theorem draw_sound {r : Option Nat} {n : Nat} {W : List Nat} {xs : List Nat} {p : Ord} {id : Nat} {e : Env} {a : Act} {w : World} {K : Env → World → Prop} {Q : Exit → Act → World → Prop} (hm : P.follows .mixedOrders = true)
    (hW : ∀ o ∈ ops, ∀ d, o.dst = some d → d ∈ W) (ha : Agr N e a) (hl : p.len = ops.length) (hok : okD ops xs (Array.replicate ops.length false) p = true)
    (h : drawE P N ops xs p e w.drew K) (hQ : ∀ a' w', Behind N W a K a' w' → Q .normal a' w') : (Code.region id ops.toArray true).wpIn (Fr r) n P Q a w := by
  refine wpIn_region_any hm ?_
  have hK : Up fun e w => ∃ e0, Le e0 e ∧ K e0 w := fun e e' w hle ⟨e0, h0, hk⟩ => ⟨e0, h0.trans hle, hk⟩
  have hd : Down ops (Array.replicate ops.length false) := fun k o g hk => by
    have : (Array.replicate ops.length false).getD k false = false := by
      simp only [Array.getD_eq_getD_getElem?, Array.getElem?_replicate]
      split <;> rfl
    rw [this] at hk; cases hk
  have mono : ∀ (p : Ord) (e : Env) (w : World), drawE P N ops xs p e w K → drawE P N ops xs p e w fun e w => ∃ e0, Le e0 e ∧ K e0 w := by
    intro p
    induction p with
    | done => intro e w h; exact ⟨e, Le.refl e, h⟩
    | op i p ih =>
      intro e w h
      obtain ⟨o, ho, h⟩ := optx_elim h
      unfold drawE
      rw [ho]
      exact stepX_mono (fun e1 w1 hk => ih e1 w1 hk) h
    | alt i a j b iha ihb =>
      intro e w h
      obtain ⟨h1, h2⟩ := h
      obtain ⟨o, ho, h1⟩ := optx_elim h1
      obtain ⟨o', ho', h2⟩ := optx_elim h2
      unfold drawE
      rw [ho, ho']
      exact ⟨stepX_mono (fun e1 w1 hk => iha e1 w1 hk) h1, stepX_mono (fun e1 w1 hk => ihb e1 w1 hk) h2⟩
  have := okD_sound hK p _ e w.drew (by simp) hd hok (mono p e _ h)
  rw [hl] at this
  refine anyE_sound hW _ _ ha this fun a' w' ⟨h1, h2, e', ha', e0, h0, hk⟩ => hQ a' w' ⟨h1, h2, e0, ⟨ha'.size, fun k v hv => ha'.get k v (h0 k v hv)⟩, hk⟩
end
end Go.Wx
end
section
/- The framework of these proofs, part 10b: a region whose order is drawn, some of whose calls turn blocks that nothing else of it reads. -/
namespace Go.Wx
open Go

/-- What w held, but for the blocks of G, w' holds. -/
def ExtG (G : Nat → Prop) (w w' : World) : Prop := ∀ (b : Nat) (o : Obj), ¬ G b → w.heap[b]? = some o → w'.heap[b]? = some o
theorem ExtG.refl (G : Nat → Prop) (w : World) : ExtG G w w := fun _ _ _ h => h
theorem ExtG.trans {G : Nat → Prop} {a b c : World} (h : ExtG G a b) (g : ExtG G b c) : ExtG G a c := fun k o hG hk => g k o hG (h k o hG hk)

/-- A load reads outside G. -/
def rdOK (G : Nat → Prop) : Op → List Value → Prop
  | .load _ _, [.pointer (some a)] => ¬ G a.block
  | .lookup .., _ => False
  | _, _ => True
def rdE (G : Nat → Prop) (o : Oper) (e : Env) : Prop := match Nat.beq (opcls o.op) 1 with
  | true => match o.guard with
    | none => xevs e (opnds o.op) (rdOK G o.op)
    | some _ => False
  | false => True

section
variable {P : Program} {N : Nat} {ops : List Oper}
theorem cell_eqG {G : Nat → Prop} {w w' : World} (h : ExtG G w w') {a : Addr} (ha : ¬ G a.block) {v : Value} (hv : w.cell? a = some v) : w'.cell? a = some v := by
  unfold World.cell? at hv ⊢
  cases ho : w.heap[a.block]? with
  | none => simp [ho] at hv
  | some o => rw [h _ _ ha ho]; rw [ho] at hv; exact hv

theorem exL_monoG {l : LK} {T T' : Value → Prop} (h : ∀ v, T v → T' v) (hh : exL l T) : exL l T' := by
  cases l with
  | slice => obtain ⟨a, b, c, hh⟩ := hh; exact ⟨a, b, c, h _ hh⟩
  | _ => obtain ⟨n, hh⟩ := hh; exact ⟨n, h _ hh⟩
theorem ldLsG {G : Nat → Prop} {w w' : World} (hw : ExtG G w w') {a : Addr} (ha : ¬ G a.block) : ∀ (ls : List LK) (i : Nat) (K : List Value → Prop), ldLs w a ls i K → ldLs w' a ls i K
  | [], _, _, h => h
  | l :: ls, i, K, h => exL_monoG (fun v ⟨h1, h2⟩ => ⟨cell_eqG hw (a := a.add i) (by unfold Addr.add; first | exact ha | (split <;> exact ha)) h1, ldLsG hw ha ls (i + 1) _ h2⟩) h
theorem ldxG {G : Nat → Prop} {w w' : World} (hw : ExtG G w w') {t : TypeId} {a : Addr} (ha : ¬ G a.block) {T : Value → Prop} (h : ldx P t a w T) : ldx P t a w' T := by
  unfold ldx at h ⊢
  generalize vkOf P t = k at h ⊢
  cases k with
  | leaf l => exact exL_monoG (fun v ⟨h1, h2⟩ => ⟨cell_eqG hw ha h1, h2⟩) h
  | agg ls => exact ifB_mono (fun hh => ldLsG hw ha ls 0 _ hh) id h
theorem lvv_pinG {G : Nat → Prop} {w : World} (op : Op) (vs : List Value) {K : Value → Prop} (hr : rdOK G op vs) (h : lvv P op vs w K) : ∃ v, K v ∧ ∀ w', ExtG G w w' → ∀ T : Value → Prop, T v → lvv P op vs w' T := by
  obtain ⟨v, h1, h2⟩ := lvv_pin (w := w) op vs K h
  refine ⟨v, h1, fun w' hw T hT => ?_⟩
  have h0 := h2 w (Ext.refl w) T hT
  cases op <;> try exact h0.elim
  case load t _ =>
    rcases vs with _ | ⟨x, _ | ⟨_, _⟩⟩ <;> try exact h0.elim
    cases x <;> try exact h0.elim
    case pointer p =>
      cases p with
      | none => exact h0.elim
      | some a => exact ifB_mono (fun hh => ldxG hw hr hh) id h0
  case lookup => exact hr.elim

theorem opE_pinG {G : Nat → Prop} {o : Oper} {e : Env} {w : World} {K : Env → World → Prop} (hc : opcls o.op ≤ 1) (hg : opcls o.op = 1 → xevs e (opnds o.op) (rdOK G o.op)) (h : opE P N o e w K) :
    ∃ v, K (putd o.dst v e) w ∧ ∀ e' w', (opcls o.op = 0 ∨ ExtG G w w') → AgreeOn ((opnds o.op).filterMap tmpOf) e e' → ∀ K' : Env → World → Prop, K' (putd o.dst v e') w' → opE P N o e' w' K' := by
  unfold opE at h
  obtain ⟨vs, hvs, hv⟩ := xevs_iff.1 h
  have fin : ∃ v, (dput N o.dst v e fun e' => K e' w) ∧ ∀ w', (opcls o.op = 0 ∨ ExtG G w w') → ∀ T : Value → World → Prop, T v w' → opv P o.op o.type vs w' T := by
    unfold opv at hv ⊢
    split at hv
    · rename_i h0
      obtain ⟨v, h1, h2⟩ := pvv_pin _ _ _ hv
      exact ⟨v, h1, fun w' _ T hT => h2 _ hT⟩
    · rename_i h0
      obtain ⟨us, hus, hrd⟩ := xevs_iff.1 (hg h0)
      rw [hvs] at hus
      cases hus
      obtain ⟨v, h1, h2⟩ := lvv_pinG (w := w) _ _ hrd hv
      exact ⟨v, h1, fun w' hw T hT => h2 w' (hw.resolve_left (by omega)) _ hT⟩
    · rename_i h0 h1
      exfalso
      have : opcls o.op = 0 ∨ opcls o.op = 1 := by omega
      rcases this with h | h
      · exact h0 h
      · exact h1 h
  obtain ⟨v, h1, h2⟩ := fin
  have hK : K (putd o.dst v e) w := by
    cases hd : o.dst with
    | none => rw [hd] at h1; exact h1
    | some d => rw [hd] at h1; exact (ifB_left h1).2
  refine ⟨v, hK, fun e' w' hw ha K' hk => ?_⟩
  unfold opE
  refine xevs_agree ha (xevs_iff.2 ⟨vs, hvs, h2 w' hw _ ?_⟩)
  cases hd : o.dst with
  | none => rw [hd] at hk; exact hk
  | some d =>
    rw [hd] at h1 hk
    obtain ⟨hb, _⟩ := ifB_left h1
    show ifB (Nat.blt d N) _ False
    rw [hb]
    exact hk

theorem stepE_pinG {G : Nat → Prop} {o : Oper} {e : Env} {w : World} {K : Env → World → Prop} (hc : opcls o.op ≤ 1) (hr : rdE G o e) (h : stepE P N ops o e w K) :
    ∃ v e1, Eqv e1 (putd o.dst v e) ∧ K e1 w ∧ ∀ e' w', (opcls o.op = 0 ∨ ExtG G w w') → AgreeOn (looks ops o) e e' → ∀ K' : Env → World → Prop, (∀ e1', Eqv e1' (putd o.dst v e') → K' e1' w') → stepE P N ops o e' w' K' := by
  by_cases h1 : opcls o.op = 1
  · unfold rdE at hr
    rw [h1] at hr
    cases hg : o.guard with
    | some _ => rw [hg] at hr; exact (show False from hr).elim
    | none =>
      rw [hg] at hr
      unfold stepE guardE at h
      rw [hg] at h
      obtain ⟨v, h1, h2⟩ := opE_pinG hc (fun _ => hr) h
      refine ⟨v, _, Eqv.refl _, h1, fun e' w' hw ha K' hk => ?_⟩
      unfold stepE guardE
      rw [hg]
      exact h2 e' w' hw (looks_op ha) K' (hk _ (Eqv.refl _))
  · have h0 : opcls o.op = 0 := by omega
    obtain ⟨v, e1, g1, g2, g3⟩ := stepE_pin hc h
    exact ⟨v, e1, g1, g2, fun e' w' _ => g3 e' w' (.inl h0)⟩

/-- A load reads outside G, and X. -/
def rdAnd (G : Nat → Prop) (o : Oper) (e : Env) (X : Prop) : Prop := match Nat.beq (opcls o.op) 1 with
  | true => (match o.guard with
    | none => xevs e (opnds o.op) (rdOK G o.op)
    | some _ => False) ∧ X
  | false => X
theorem rdAnd_iff {G : Nat → Prop} {o : Oper} {e : Env} {X : Prop} : rdAnd G o e X ↔ rdE G o e ∧ X := by
  unfold rdAnd rdE
  cases Nat.beq (opcls o.op) 1 with
  | true => exact Iff.rfl
  | false => exact ⟨fun hx => ⟨trivial, hx⟩, fun hx => hx.2⟩

/-- An operation; with x: it leaves what the memory held, but for G's blocks. -/
def stepXG (G : Nat → Prop) (P : Program) (N : Nat) (ops : List Oper) (x : Bool) (o : Oper) (e : Env) (w : World) (K : Env → World → Prop) : Prop :=
  stepE P N ops o e w fun e' w' => match x with
    | true => ExtG G w w' ∧ K e' w'
    | false => K e' w'
def drawG (G : Nat → Prop) (P : Program) (N : Nat) (ops : List Oper) (xs : List Nat) : Ord → Env → World → (Env → World → Prop) → Prop
  | .done, e, w, K => K e w
  | .op i r, e, w, K => optx ops[i]? fun o => rdAnd G o e (stepXG G P N ops (xs.contains i) o e w fun e' w' => drawG G P N ops xs r e' w' K)
  | .alt i a j b, e, w, K => (optx ops[i]? fun o => stepXG G P N ops (xs.contains i) o e w fun e' w' => drawG G P N ops xs a e' w' K) ∧
      optx ops[j]? fun o => stepXG G P N ops (xs.contains j) o e w fun e' w' => drawG G P N ops xs b e' w' K

section
variable {G : Nat → Prop}
theorem stepXG_out {x : Bool} {o : Oper} {e : Env} {w : World} {K : Env → World → Prop} (h : stepXG G P N ops x o e w K) : stepE P N ops o e w K :=
  stepE_mono (fun e1 w1 hk => by
    cases x with
    | true => exact (hk : ExtG G w w1 ∧ K e1 w1).2
    | false => exact hk) h

theorem stepXG_mono {x : Bool} {o : Oper} {e : Env} {w : World} {K K' : Env → World → Prop} (hK : ∀ e1 w1, K e1 w1 → K' e1 w1) (h : stepXG G P N ops x o e w K) : stepXG G P N ops x o e w K' :=
  stepE_mono (fun e1 w1 hk => by
    cases x with
    | true => exact ⟨(hk : ExtG G w w1 ∧ K e1 w1).1, hK _ _ (hk : ExtG G w w1 ∧ K e1 w1).2⟩
    | false => exact hK _ _ hk) h

/-- Every order, in the words of the calculus. -/
def anyG (G : Nat → Prop) (P : Program) (N : Nat) (ops : List Oper) (xs : List Nat) (K : Env → World → Prop) : Nat → Array Bool → Env → World → Prop
  | 0, l, e, w => Region.ready .any ops.toArray l = [] ∧ K e w
  | f + 1, l, e, w => (Region.ready .any ops.toArray l = [] → K e w) ∧
      ∀ i ∈ Region.ready .any ops.toArray l, ∃ o, ops[i]? = some o ∧ stepXG G P N ops (xs.contains i) o e w fun e' w' => anyG G P N ops xs K f (l.setIfInBounds i true) e' w'

theorem anyG_sound {r : Option Nat} {n : Nat} {W : List Nat} {xs : List Nat} {K : Env → World → Prop} {Q : Exit → Act → World → Prop} (hW : ∀ o ∈ ops, ∀ d, o.dst = some d → d ∈ W) :
    ∀ (f : Nat) (l : Array Bool) {e : Env} {a : Act} {w : World}, Agr N e a → anyG G P N ops xs K f l e w → (∀ a' w', Behind N W a K a' w' → Q .normal a' w') →
      wpAnyIn (Fr r) n P .any ops.toArray Q f l a w
  | 0, l, e, a, w, ha, h, hQ => ⟨h.1, hQ a w ⟨Fwd.refl _ _, rfl, e, ha, h.2⟩⟩
  | f + 1, l, e, a, w, ha, h, hQ => by
    refine ⟨fun h0 => hQ a w ⟨Fwd.refl _ _, rfl, e, ha, h.1 h0⟩, fun i hi => ?_⟩
    obtain ⟨o, ho, hs⟩ := h.2 i hi
    have hs := stepE_sound (r := r) (n := n) (Q := Q) ha (hW o (List.mem_of_getElem? ho)) (stepXG_out hs)
    unfold wpOpIn
    have ho' : ops.toArray[i]? = some o := by simpa using ho
    rw [ho']
    have next : ∀ a' w', Behind N W a (fun e' w' => anyG G P N ops xs K f (l.setIfInBounds i true) e' w') a' w' → wpAnyIn (Fr r) n P .any ops.toArray Q f (l.setIfInBounds i true) a' w' :=
      fun a' w' ⟨h1, h2, e', ha', h'⟩ => anyG_sound hW f _ ha' h' fun a'' w'' hb => hQ a'' w'' (hb.step h1 h2)
    simp only []
    by_cases hw : Region.wanted o (yielded ops.toArray a.tmps) = true
    · rw [if_pos hw] at hs ⊢
      exact Oper.wpIn_mono next hs
    · rw [if_neg hw] at hs ⊢
      exact ⟨hs.1, next _ _ hs.2⟩

theorem anyG_up {xs : List Nat} {K : Env → World → Prop} (hK : Up K) : ∀ (f : Nat) (l : Array Bool) {e e' : Env} {w : World}, Le e e' → anyG G P N ops xs K f l e w → anyG G P N ops xs K f l e' w
  | 0, _, _, _, _, hle, h => ⟨h.1, hK _ _ _ hle h.2⟩
  | f + 1, l, e, e', w, hle, h => by
    refine ⟨fun h0 => hK _ _ _ hle (h.1 h0), fun i hi => ?_⟩
    obtain ⟨o, ho, hs⟩ := h.2 i hi
    refine ⟨o, ho, stepE_le hle (fun e1 e1' w1 h1 hk => ?_) hs⟩
    cases hx : xs.contains i with
    | true => rw [hx] at hk; exact ⟨hk.1, anyG_up hK f _ h1 hk.2⟩
    | false => rw [hx] at hk; exact anyG_up hK f _ h1 hk

/-- What an operation yields, it yields in every later world and in every frame that agrees. -/
def PinnedG (G : Nat → Prop) (P : Program) (N : Nat) (ops : List Oper) (o : Oper) (v : Value) (e : Env) (w : World) : Prop :=
  ∀ e' w', (opcls o.op = 0 ∨ ExtG G w w') → AgreeOn (looks ops o) e e' → ∀ K' : Env → World → Prop, (∀ e1', Eqv e1' (putd o.dst v e') → K' e1' w') → stepE P N ops o e' w' K'

theorem firstG {xs : List Nat} {K : Env → World → Prop} (hK : Up K) {i : Nat} {oi : Oper} {v : Value} (hi : ops[i]? = some oi) :
    ∀ (f : Nat) (l : Array Bool) (e : Env) (w : World), Down ops l → i ∈ Region.ready .any ops.toArray l →
      (∀ j, j ≠ i → l.getD j true = false → Reach ops i j ∨ apartB ops xs i j = true) → PinnedG G P N ops oi v e w →
      anyG G P N ops xs K f (l.setIfInBounds i true) (putd oi.dst v e) w → anyG G P N ops xs K (f + 1) l e w := by
  intro f
  have here : ∀ (f : Nat) (l : Array Bool) (e : Env) (w : World), PinnedG G P N ops oi v e w → anyG G P N ops xs K f (l.setIfInBounds i true) (putd oi.dst v e) w →
      ∃ o, ops[i]? = some o ∧ stepXG G P N ops (xs.contains i) o e w fun e' w' => anyG G P N ops xs K f (l.setIfInBounds i true) e' w' := fun f l e w hp H =>
    ⟨oi, hi, hp e w (.inr (ExtG.refl G w)) (fun _ _ _ h => h) _ fun e1 he1 => by
      have := anyG_up hK f _ he1.2 H
      cases hx : xs.contains i with
      | true => exact ⟨ExtG.refl G w, this⟩
      | false => exact this⟩
  induction f with
  | zero =>
    intro l e w _ hr _ hp H
    refine ⟨fun h => (by rw [h] at hr; cases hr), fun j hj => ?_⟩
    by_cases hji : j = i
    · subst hji; exact here 0 l e w hp H
    · have := ready_mono hj hji
      rw [H.1] at this
      cases this
  | succ f ih =>
    intro l e w hd hr hfree hp H
    refine ⟨fun h => (by rw [h] at hr; cases hr), fun j hj => ?_⟩
    by_cases hji : j = i
    · subst hji; exact here (f + 1) l e w hp H
    · obtain ⟨oj, hoj, hs⟩ := H.2 j (ready_mono hj hji)
      have hiu := getD_unlisted (mem_ready.1 hr).1
      have hap : apartB ops xs i j = true := (hfree j hji (mem_ready.1 hj).1).resolve_left fun hre => hre.not_ready hd hiu hj
      unfold apartB at hap
      rw [hi, hoj] at hap
      simp only [Bool.and_eq_true, Bool.not_eq_true'] at hap
      obtain ⟨⟨⟨h1, h2⟩, h3⟩, h4⟩ := hap
      have h1 := clashes_ne h1
      have h2 := clashes_ne h2
      have h3 := clashes_ne h3
      refine ⟨oj, hoj, stepE_congr (e := putd oi.dst v e) (fun s hs u hu => ?_) (fun u w1 e1 e1' hw1 he1 he1' hk => ?_) hs⟩
      · rw [putd_get_ne (fun d hd hds => h1 d hd (hds ▸ hs))] at hu
        exact hu
      · have hext : xs.contains j = true → ExtG G w w1 := fun hx => by rw [hx] at hk; exact hk.1
        have hk' : anyG G P N ops xs K f ((l.setIfInBounds i true).setIfInBounds j true) e1 w1 := by
          cases hx : xs.contains j with
          | true => rw [hx] at hk; exact hk.2
          | false => rw [hx] at hk; exact hk
        have hcl : opcls oi.op = 0 ∨ ExtG G w w1 := by
          rcases Bool.or_eq_true_iff.1 h4 with h | h
          · exact .inl (Nat.eq_of_beq_eq_true h)
          · rcases Bool.or_eq_true_iff.1 (Bool.and_eq_true_iff.1 h).2 with h | h
            · exact .inr (by rw [hw1 (Nat.le_of_ble_eq_true h)]; exact ExtG.refl G w)
            · exact .inr (hext h)
        have hag : AgreeOn (looks ops oi) e e1' := fun s hs u' hu => by
          refine he1'.2 s u' ?_
          rw [putd_get_ne (fun d hd hds => h2 d hd (hds ▸ hs))]
          exact hu
        have hfin : anyG G P N ops xs K (f + 1) (l.setIfInBounds j true) e1' w1 := by
          refine ih (l.setIfInBounds j true) e1' w1 (hd.set hj) (ready_mono hr (Ne.symm hji)) (fun k hki hun => hfree k hki ?_) ?_ ?_
          · by_cases hjk : j = k
            · subst hjk; exact (mem_ready.1 hj).1
            · rw [getD_set_ne true hjk] at hun; exact hun
          · intro e' w' hc ha K' hK'
            refine hp e' w' ?_ (fun s hs u' hu => ha s hs u' (hag s hs u' hu)) K' hK'
            rcases hc with hc | hc
            · exact .inl hc
            · exact hcl.imp id fun h => h.trans hc
          · rw [Array.setIfInBounds_comm _ _ hji]
            refine anyG_up hK f _ ?_ hk'
            refine he1.1.trans ((putd_comm (fun x hx hy => ?_)).trans (putd_le he1'.2))
            exact h3 x hy (by simp [hx])
        cases hx : xs.contains j with
        | true => exact ⟨hext hx, hfin⟩
        | false => exact hfin

theorem okG_sound {xs : List Nat} {K : Env → World → Prop} (hK : Up K) : ∀ (p : Ord) (l : Array Bool) (e : Env) (w : World), l.size = ops.length → Down ops l → okD ops xs l p = true → drawG G P N ops xs p e w K →
    anyG G P N ops xs K p.len l e w
  | .done, l, e, w, _, _, hok, h => by
    unfold okD at hok
    exact ⟨by simpa using hok, h⟩
  | .alt i a j b, l, e, w, hz, hd, hok, h => by
    unfold okD at hok
    simp only [Bool.and_eq_true] at hok
    obtain ⟨h1, h2, h3, h4⟩ := hok
    have h1 : Region.ready .any ops.toArray l = [i, j] := by simpa using h1
    have h2 := Nat.eq_of_beq_eq_true h2
    obtain ⟨ha, hb⟩ := h
    refine ⟨fun h0 => (by rw [h0] at h1; cases h1), fun k hk => ?_⟩
    rw [h1] at hk
    rcases List.mem_cons.1 hk with rfl | hk
    · obtain ⟨oi, hi, ha⟩ := optx_elim ha
      exact ⟨oi, hi, stepXG_mono (fun e1 w1 hk => okG_sound hK a _ e1 w1 (by simpa using hz) (hd.set (by rw [h1]; simp)) h3 hk) ha⟩
    · obtain rfl := List.mem_singleton.1 hk
      obtain ⟨oi, hi, hb⟩ := optx_elim hb
      refine ⟨oi, hi, stepXG_mono (fun e1 w1 hk => ?_) hb⟩
      have := okG_sound hK b _ e1 w1 (by simpa using hz) (hd.set (by rw [h1]; simp)) h4 hk
      rw [h2]
      exact this
  | .op i p, l, e, w, hz, hd, hok, h => by
    unfold okD at hok
    obtain ⟨h1, h2⟩ := Bool.and_eq_true_iff.1 hok
    obtain ⟨oi, hi, h⟩ := optx_elim h
    obtain ⟨hrd, h⟩ := rdAnd_iff.1 h
    rcases Bool.or_eq_true_iff.1 h1 with h1 | h1
    · have h1 : Region.ready .any ops.toArray l = [i] := by simpa using h1
      refine ⟨fun h0 => (by rw [h0] at h1; cases h1), fun j hj => ?_⟩
      rw [h1] at hj
      obtain rfl := List.mem_singleton.1 hj
      refine ⟨oi, hi, stepXG_mono (fun e1 w1 hk => ?_) h⟩
      exact okG_sound hK p _ e1 w1 (by simpa using hz) (hd.set (by rw [h1]; simp)) h2 hk
    · obtain ⟨hl, h1⟩ := Bool.and_eq_true_iff.1 h1
      obtain ⟨hr, h1⟩ := Bool.and_eq_true_iff.1 h1
      have hr : i ∈ Region.ready .any ops.toArray l := by simpa using hr
      have hc : opcls oi.op ≤ 1 := by
        unfold light at hl
        rw [hi] at hl
        exact Nat.le_of_ble_eq_true hl
      obtain ⟨v, e1, he1, hk, hp⟩ := stepE_pinG hc hrd h
      have hk' : drawG G P N ops xs p e1 w K := by
        cases hx : xs.contains i with
        | true => rw [hx] at hk; exact hk.2
        | false => rw [hx] at hk; exact hk
      refine firstG hK hi p.len l e w hd hr (fun j hji hju => ?_) hp (anyG_up hK _ _ he1.1 (okG_sound hK p _ e1 w (by simpa using hz) (hd.set hr) h2 hk'))
      by_cases hjl : j < ops.length
      · have := List.all_eq_true.1 h1 j (List.mem_range.2 hjl)
        simp only [Bool.or_eq_true] at this
        rcases this with h | h | h | h
        · exact absurd (Nat.eq_of_beq_eq_true h) hji
        · rw [hju] at h; cases h
        · exact .inl (reachB_sound _ _ (memN_mem h))
        · exact .inr h
      · have : l.size ≤ j := by omega
        simp [Array.getElem?_eq_none this] at hju

/-- A region whose order is drawn, in the words of these texts. K is taken to all frames that know more. -/
theorem drawG_sound {r : Option Nat} {n : Nat} {W : List Nat} {xs : List Nat} {p : Ord} {id : Nat} {e : Env} {a : Act} {w : World} {K : Env → World → Prop} {Q : Exit → Act → World → Prop} (hm : P.follows .mixedOrders = true)
    (hW : ∀ o ∈ ops, ∀ d, o.dst = some d → d ∈ W) (ha : Agr N e a) (hl : p.len = ops.length) (hok : okD ops xs (Array.replicate ops.length false) p = true)
    (h : drawG G P N ops xs p e w.drew K) (hQ : ∀ a' w', Behind N W a K a' w' → Q .normal a' w') : (Code.region id ops.toArray true).wpIn (Fr r) n P Q a w := by
  refine wpIn_region_any hm ?_
  have hK : Up fun e w => ∃ e0, Le e0 e ∧ K e0 w := fun e e' w hle ⟨e0, h0, hk⟩ => ⟨e0, h0.trans hle, hk⟩
  have hd : Down ops (Array.replicate ops.length false) := fun k o g hk => by
    have : (Array.replicate ops.length false).getD k false = false := by
      simp only [Array.getD_eq_getD_getElem?, Array.getElem?_replicate]
      split <;> rfl
    rw [this] at hk; cases hk
  have mono : ∀ (p : Ord) (e : Env) (w : World), drawG G P N ops xs p e w K → drawG G P N ops xs p e w fun e w => ∃ e0, Le e0 e ∧ K e0 w := by
    intro p
    induction p with
    | done => intro e w h; exact ⟨e, Le.refl e, h⟩
    | op i p ih =>
      intro e w h
      obtain ⟨o, ho, h⟩ := optx_elim h
      unfold drawG
      rw [ho]
      exact rdAnd_iff.2 ⟨(rdAnd_iff.1 h).1, stepXG_mono (fun e1 w1 hk => ih e1 w1 hk) (rdAnd_iff.1 h).2⟩
    | alt i a j b iha ihb =>
      intro e w h
      obtain ⟨h1, h2⟩ := h
      obtain ⟨o, ho, h1⟩ := optx_elim h1
      obtain ⟨o', ho', h2⟩ := optx_elim h2
      unfold drawG
      rw [ho, ho']
      exact ⟨stepXG_mono (fun e1 w1 hk => iha e1 w1 hk) h1, stepXG_mono (fun e1 w1 hk => ihb e1 w1 hk) h2⟩
  have := okG_sound hK p _ e w.drew (by simp) hd hok (mono p e _ h)
  rw [hl] at this
  refine anyG_sound hW _ _ ha this fun a' w' ⟨h1, h2, e', ha', e0, h0, hk⟩ => hQ a' w' ⟨h1, h2, e0, ⟨ha'.size, fun k v hv => ha'.get k v (h0 k v hv)⟩, hk⟩
end
end
end Go.Wx
end
section
/- The framework of these proofs, part 11: the weakest precondition of a function's whole code, by recursion over it. -/
namespace Go.Wx
open Go

/-! What a loop carries -/
inductive SK where
  | int (k : IntKind) | bool | ptr | slice | map | row (n : Nat) | any

/-- So many integers. -/
@[reducible] def RT : Nat → Type
  | 0 => Unit
  | n + 1 => Int × RT n

def rowL : (n : Nat) → RT n → List Value
  | 0, _ => []
  | n + 1, s => .int .i64 s.1 :: rowL n s.2

def asRow : (n : Nat) → List Value → (RT n → Prop) → Prop
  | 0, vs, K => match vs with
    | [] => K ()
    | _ => False
  | n + 1, vs, K => match vs with
    | v :: vs => asI v fun k i => ifB (decide (k = .i64)) (asRow n vs fun s => K (i, s)) False
    | [] => False

@[reducible] def SK.T : SK → Type
  | .int _ => Int
  | .bool => Bool
  | .ptr => Option Addr
  | .slice => Option Addr × Nat × Nat
  | .map => Option Nat
  | .row n => RT n
  | .any => Value

def SK.v : (k : SK) → k.T → Value
  | .int k, n => .int k n
  | .bool, b => .bool b
  | .ptr, p => .pointer p
  | .slice, s => .slice s.1 s.2.1 s.2.2
  | .map, r => .map r
  | .row n, s => .agg (rowL n s).toArray
  | .any, v => v

@[reducible] def ST : List (Nat × SK) → Type
  | [] => Unit
  | (_, k) :: r => k.T × ST r

def ents : (cs : List (Nat × SK)) → ST cs → Env → Env
  | [], _, e => e
  | (t, k) :: r, s, e => (t, k.v s.1) :: ents r s.2 e

def asK : (k : SK) → Value → (k.T → Prop) → Prop
  | .int k, v, K => asI v fun k' n => ifB (decide (k' = k)) (K n) False
  | .bool, v, K => asB v K
  | .ptr, v, K => match v with
    | .pointer p => K p
    | _ => False
  | .slice, v, K => asSl v fun a l c => K (a, l, c)
  | .map, v, K => match v with
    | .map r => K r
    | _ => False
  | .row n, v, K => match v with
    | .agg cs => asRow n cs.toList K
    | _ => False
  | .any, v, K => K v

def extr : (cs : List (Nat × SK)) → Env → (ST cs → Prop) → Prop
  | [], _, K => K ()
  | (t, k) :: r, e, K => optx (e.get t) fun v => asK k v fun x => extr r e fun s => K (x, s)

def sargs : (cs : List (Nat × SK)) → ST cs → List Value
  | [], _ => []
  | (_, k) :: r, s => k.v s.1 :: sargs r s.2

def keep (W : List Nat) : Env → Env
  | [] => []
  | (k, v) :: e => match W.contains k with
    | true => keep W e
    | false => (k, v) :: keep W e

/-- A loop: an invariant and a measure are to be given. -/
def LoopX (α : Type) (body : α → World → (α → World → Prop) → Prop) (s : α) (w : World) : Prop :=
  ∃ (I : α → World → Prop) (μ : α → World → Nat), I s w ∧ ∀ s w, I s w → body s w fun s' w' => I s' w' ∧ μ s' w' < μ s w

/-- Two ways come together: what holds there is to be given. -/
def JoinX (α : Type) (one : (α → World → Prop) → Prop) (two : α → World → Prop) : Prop :=
  ∃ J : α → World → Prop, (∀ s w, J s w → two s w) ∧ one J

def recOf (rc : Loop) (st : LoopState) (pe : Option Code) : Obj := .loop { rc with state := st, pending := pe }

def RoundPost (l : Nat) (rc : Loop) (R : Ending → World → Prop) : Exit → World → Prop
  | .normal, w => w.heap[l]? = some (recOf rc .busy none) ∧ R (.returned (.bool true)) (w.putObj l (recOf rc .ready none))
  | .ret, w => w.heap[l]? = some (recOf rc .busy none) ∧ R (.returned (.bool false)) (w.putObj l (recOf rc .done (some .ret)))
  | .exit id, w => w.heap[l]? = some (recOf rc .busy none) ∧ R (.returned (.bool false)) (w.putObj l (recOf rc .done (some (.exit id))))
  | _, _ => False

/-- The ways out of a piece of code that it does not catch itself. -/
def waysOut : Code → List Code
  | .seq a b | .cond _ a b => waysOut a ++ waysOut b
  | .block id c => (waysOut c).filter fun x => match x with
    | .exit j => !Nat.beq j id
    | _ => true
  | .loop c => waysOut c
  | .exit id => [.exit id]
  | .ret => [.ret]
  | _ => []

def exOf : Code → Exit
  | .exit id => .exit id
  | _ => .ret

def sameC : Code → Code → Bool
  | .exit i, .exit j => Nat.beq i j
  | .ret, .ret => true
  | _, _ => false

def nubC : List Code → List Code
  | [] => []
  | c :: r => match (nubC r).any (sameC c) with
    | true => nubC r
    | false => c :: nubC r

def isOut : Code → Bool
  | .exit _ | .ret => true
  | _ => false

/-- One of these jumps is pending. -/
def orL (T : Code → (World → Prop) → Prop) : List (Code × (World → Prop)) → Prop
  | [] => False
  | [c] => T c.1 c.2
  | c :: r => T c.1 c.2 ∨ orL T r

def CallF (P : Program) (f : Value) (args : List Value) (w : World) (R : Ending → World → Prop) : Prop :=
  match f with
  | .func (.func g) first caps => ifB (okCallee P g) (Calls P g (first.toList ++ args ++ caps.toList).toArray w R) False
  | _ => False

/-- A range over a function: behind it, the record's block is one above the block of its deferred calls. -/
def RangeX (α : Type) (P : Program) (g : Value) (as : α → List Value) (round : Nat → Loop → α → World → (Exit → World → Prop) → Prop) (w : World) (js : List (Code × (World → Prop))) (Q : World → Prop) : Prop :=
  ∀ rc : Loop, rc.state = .ready → rc.pending = none → rc.defers = w.heap.size →
    (∀ s W R, W.heap[w.heap.size + 1]? = some (.loop rc) → round (w.heap.size + 1) rc s W (RoundPost (w.heap.size + 1) rc R) →
      CallV P (.func (.yield (w.heap.size + 1)) #[] #[]) (as s) W R) →
    CallF P g [.func (.yield (w.heap.size + 1)) #[] #[]] ((w.alloc (.deferred (some []))).alloc (.loop rc)) fun en W => (∃ v, en = .returned v) ∧
      ((W.heap[w.heap.size + 1]? = some (.loop rc) ∧ Q (W.putObj (w.heap.size + 1) (recOf rc .exhausted none))) ∨
       orL (fun j Q => W.heap[w.heap.size + 1]? = some (recOf rc .done (some j)) ∧ Q (W.putObj (w.heap.size + 1) (recOf rc .exhausted (some j)))) js)

structure An where
  draws : List (Nat × (Ord × List Nat))
  loops : List (Nat × List (Nat × SK))
  joins : List (Nat × List (Nat × SK))

def fnd {β : Type} : List (Nat × β) → Nat → Option β
  | [], _ => none
  | (k, v) :: r, p => match Nat.beq k p with
    | true => some v
    | false => fnd r p

def hasRF : Code → Bool
  | .seq a b | .cond _ a b => hasRF a || hasRF b
  | .block _ c | .loop c | .scope c => hasRF c
  | .rangeFunc .. => true
  | _ => false

def writes : Code → List Nat
  | .region _ ops _ => ops.toList.filterMap (·.dst)
  | .seq a b | .cond _ a b => writes a ++ writes b
  | .block _ c | .loop c | .scope c => writes c
  | _ => []

abbrev QX := Exit → Env → List Nat → World → Prop

def thenX (K : Env → List Nat → World → Prop) (Q : QX) : QX
  | .normal, e, ms, w => K e ms w
  | ex, e, ms, w => Q ex e ms w

def inBX (id : Nat) (Q : QX) : QX
  | .exit j, e, ms, w => match Nat.beq j id with
    | true => Q .normal e ms w
    | false => Q (.exit j) e ms w
  | ex, e, ms, w => Q ex e ms w

def condE (c : Operand) (e : Env) (yes no : Env → Prop) : Prop := match c with
  | .tmp s => optx (e.get s) fun v => asB v fun t => ifB t (yes ((s, .bool true) :: e)) (no ((s, .bool false) :: e))
  | .const v => asB v fun t => ifB t (yes e) (no e)
  | _ => False

def wpx (P : Program) (N : Nat) (A : An) (rd : Bool) : Code → Nat → Env → List Nat → World → QX → Prop
  | .skip, _, e, ms, w, Q => Q .normal e ms w
  | .label _, _, e, ms, w, Q => Q .normal e ms w
  | .exit id, _, e, ms, w, Q => Q (.exit id) e ms w
  | .ret, _, e, ms, w, Q => Q .ret e ms w
  | .region _ ops d, p, e, ms, w, Q => match d with
    | false => listE P N ops.toList ops.toList e w fun e' w' => Q .normal e' ms w'
    | true => optx (fnd A.draws p) fun o => ifB (P.follows .mixedOrders && (Nat.beq o.1.len ops.toList.length && okD ops.toList o.2 (Array.replicate ops.toList.length false) o.1))
        (match memN 1000 o.2 with
          | false => drawE P N ops.toList o.2 o.1 e w.drew fun e' w' => Q .normal e' ms w'
          | true => ∃ G : Nat → Prop, drawG G P N ops.toList o.2 o.1 e w.drew fun e' w' => Q .normal e' ms w') False
  | .seq a b, p, e, ms, w, Q => match fnd A.joins p with
    | none => wpx P N A rd a (2 * p) e ms w (thenX (fun e' ms' w' => wpx P N A rd b (2 * p + 1) e' ms' w' Q) Q)
    | some cs => ifB (hasRF a) (JoinX (ST cs × List Nat) (fun K => wpx P N A rd a (2 * p) e ms w (thenX (fun e' ms' w' => extr cs e' fun s => K (s, ms') w') Q))
        (fun s w' => wpx P N A rd b (2 * p + 1) (ents cs s.1 (keep (writes a) e)) s.2 w' Q)) (JoinX (ST cs) (fun K => wpx P N A rd a (2 * p) e ms w (thenX (fun e' _ w' => extr cs e' fun s => K s w') Q))
        (fun s w' => wpx P N A rd b (2 * p + 1) (ents cs s (keep (writes a) e)) ms w' Q))
  | .cond c a b, p, e, ms, w, Q => condE c e (fun e => wpx P N A rd a (2 * p) e ms w Q) (fun e => wpx P N A rd b (2 * p + 1) e ms w Q)
  | .block id c, p, e, ms, w, Q => wpx P N A rd c (2 * p) e ms w (inBX id Q)
  | .loop c, p, e, ms, w, Q => optx (fnd A.loops p) fun cs => extr cs e fun s0 => ifB (hasRF c)
      (LoopX (ST cs × List Nat) (fun s w K => wpx P N A rd c (2 * p) (ents cs s.1 (keep (writes c) e)) s.2 w (thenX (fun e' ms' w' => extr cs e' fun s' => K (s', ms') w') Q)) (s0, ms) w)
      (LoopX (ST cs) (fun s w K => wpx P N A rd c (2 * p) (ents cs s (keep (writes c) e)) ms w (thenX (fun e' _ w' => extr cs e' fun s' => K s' w') Q)) s0 w)
  | .rangeFunc g ps as body, p, e, ms, w, Q => ifB rd False (xev e g fun g => optx (fnd A.loops p) fun cs => ifB (decide (cs.map (·.1) = ps.toList) && (decide (ps.toList.Nodup) && ((!hasRF as) && ps.toList.all fun t => Nat.blt t N)))
      (RangeX (ST cs) P g (sargs cs) (fun l rc s w K => wpx P N A true as (2 * p) (ents cs s e) [] w (thenX (fun e' _ w' => w'.heap[l]? = some (.loop rc) ∧ atW (w'.putObj l (recOf rc .busy none)) fun w' => wpx P N A true body (2 * p + 1) e' [] w' fun ex _ _ w' => K ex w') fun _ _ _ _ => False)) w (((nubC (waysOut body)).filter isOut).map fun j => (j, fun w' => Q (exOf j) e (w.heap.size :: ms) w'))
        fun w' => Q .normal e (w.heap.size :: ms) w') False)
  | _, _, _, _, _, _ => False

def takeMs : List Nat → World → (World → Prop) → Prop
  | [], w, K => K w
  | D :: ms, w, K => w.heap[D]? = some (.deferred (some [])) ∧ takeMs ms (w.putObj D (.deferred none)) K

def resV (P : Program) (e : Env) (w : World) : List ResultVar → (List Value → Prop) → Prop
  | [], K => K []
  | .tmp t :: r, K => optx (e.get t) fun v => resV P e w r fun vs => K (v :: vs)
  | .cell a t :: r, K => optx (e.get a) fun v => asA v fun ad => ifB (P.underlying t).isSome (ldx P t ad w fun v => resV P e w r fun vs => K (v :: vs)) False

def oneV : List Value → Value
  | [v] => v
  | vs => .tuple vs.toArray

def bodyQ (P : Program) (fn : Func) (R : Value → World → Prop) : QX
  | .normal, e, ms, w => takeMs ms w fun w' => resV P e w' fn.results.toList fun vs => R (oneV vs) w'
  | .ret, e, ms, w => takeMs ms w fun w' => resV P e w' fn.results.toList fun vs => R (oneV vs) w'
  | _, _, _, _ => False

def numb : Nat → List Value → Env
  | _, [] => []
  | k, v :: vs => (k, v) :: numb (k + 1) vs

/-- The whole of a function. -/
def funX (P : Program) (f : FuncId) (A : An) (args : List Value) (w : World) (R : Value → World → Prop) : Prop :=
  optx P.funcs[f]? fun fn => optx fn.body fun c => ifB (Nat.ble args.length fn.ntmps) (wpx P fn.ntmps A false c 1 (numb 0 args) [] w (bodyQ P fn R)) False
end Go.Wx
end
section
/- The framework of these proofs, part 12: soundness of part 11. -/
namespace Go.Wx
open Go

abbrev mark (D : Nat) : Deferred := { target := .collected D, args := #[] }

section
variable {P : Program} {N : Nat}

theorem asRow_elim : ∀ {n : Nat} {vs : List Value} {K : RT n → Prop}, asRow n vs K → ∃ s, vs = rowL n s ∧ K s
  | 0, [], K, h => ⟨(), rfl, h⟩
  | 0, _ :: _, _, h => h.elim
  | n + 1, [], _, h => h.elim
  | n + 1, v :: vs, K, h => by
    obtain ⟨k, i, hv, h⟩ := asI_elim h
    obtain ⟨hk, h⟩ := ifB_left h
    have hk : k = .i64 := of_decide_eq_true hk
    obtain ⟨s, hs, h⟩ := asRow_elim h
    exact ⟨(i, s), by rw [hv, hs, hk]; rfl, h⟩

theorem asK_elim {k : SK} {v : Value} {K : k.T → Prop} (h : asK k v K) : ∃ x, v = k.v x ∧ K x := by
  cases k with
  | int k =>
    obtain ⟨k', n, rfl, h⟩ := asI_elim h
    obtain ⟨hk, h⟩ := ifB_left h
    obtain rfl := of_decide_eq_true hk
    exact ⟨n, rfl, h⟩
  | bool =>
    obtain ⟨b, rfl, h⟩ := asB_elim h
    exact ⟨b, rfl, h⟩
  | ptr => cases v <;> first | exact h.elim | exact ⟨_, rfl, h⟩
  | slice =>
    obtain ⟨a, l, c, rfl, h⟩ := asSl_elim h
    exact ⟨(a, l, c), rfl, h⟩
  | map => cases v <;> first | exact h.elim | exact ⟨_, rfl, h⟩
  | row n =>
    cases v <;> try exact h.elim
    rename_i cs
    obtain ⟨s, hs, h⟩ := asRow_elim (show asRow n cs.toList K from h)
    exact ⟨s, by show Value.agg cs = Value.agg (rowL n s).toArray; rw [← hs], h⟩
  | any => exact ⟨v, rfl, h⟩

theorem keep_get {W : List Nat} : ∀ {e : Env} {k : Nat} {v : Value}, (keep W e).get k = some v → k ∉ W ∧ e.get k = some v
  | [], _, _, h => by cases h
  | (j, u) :: e, k, v, h => by
    unfold keep at h
    split at h
    · rename_i hj
      obtain ⟨h1, h2⟩ := keep_get h
      refine ⟨h1, ?_⟩
      rw [get_cons, if_neg]
      · exact h2
      · rintro rfl
        exact h1 (by simpa using hj)
    · rename_i hj
      rw [get_cons] at h
      by_cases hjk : j = k
      · subst hjk
        rw [if_pos rfl] at h
        refine ⟨by simpa using hj, ?_⟩
        rw [get_cons, if_pos rfl]; exact h
      · rw [if_neg hjk] at h
        obtain ⟨h1, h2⟩ := keep_get h
        refine ⟨h1, ?_⟩
        rw [get_cons, if_neg hjk]; exact h2

theorem Agr.keep {W : List Nat} {e : Env} {a a' : Act} (ha : Agr N e a) (hz : a'.tmps.size = N) (hf : Fwd W a a') : Agr N (keep W e) a' :=
  ⟨hz, fun k v hk => by
    obtain ⟨h1, h2⟩ := keep_get hk
    rw [hf k h1]
    exact ha.get k v h2⟩

theorem extr_elim {e' : Env} {a' : Act} (ha : Agr N e' a') : ∀ {cs : List (Nat × SK)} {K : ST cs → Prop}, extr cs e' K → ∃ s, K s ∧ ∀ e, Agr N e a' → Agr N (ents cs s e) a'
  | [], K, h => ⟨(), h, fun _ he => he⟩
  | (t, k) :: r, K, h => by
    obtain ⟨v, hv, h⟩ := optx_elim h
    obtain ⟨x, rfl, h1⟩ := asK_elim h
    obtain ⟨s, hK, hs⟩ := extr_elim ha h1
    refine ⟨(x, s), hK, fun e he => ⟨ha.size, fun j u hj => ?_⟩⟩
    have hj : Env.get ((t, k.v x) :: ents r s e) j = some u := hj
    rw [get_cons] at hj
    by_cases htj : t = j
    · subst htj
      rw [if_pos rfl] at hj
      exact ha.get t u (hv.trans hj)
    · rw [if_neg htj] at hj
      exact (hs e he).get j u hj

/-- What holds behind a piece of code. -/
def PostX (W : List Nat) (rf : Bool) (N : Nat) (a : Act) (Q : QX) (ex : Exit) (a' : Act) (w' : World) : Prop :=
  Fwd W a a' ∧ (rf = false → a'.defers = a.defers) ∧ ∃ e' ms', Agr N e' a' ∧ a'.defers = ms'.map mark ∧ Q ex e' ms' w'

theorem PostX.from {W W' : List Nat} {rf rf' : Bool} {a a1 : Act} {Q : QX} {ex : Exit} {a' : Act} {w' : World} (h : PostX W rf N a1 Q ex a' w') (hf : Fwd W' a a1) (hd : rf' = false → a1.defers = a.defers)
    (hW : ∀ k, k ∈ W → k ∈ W') (hr : rf' = false → rf = false) : PostX W' rf' N a Q ex a' w' :=
  ⟨hf.trans (h.1.mono hW), fun h0 => (h.2.1 (hr h0)).trans (hd h0), h.2.2⟩

theorem behind_post {W : List Nat} {rf : Bool} {a : Act} {ms : List Nat} {Q : QX} {a' : Act} {w' : World} (hd : a.defers = ms.map mark) (h : Behind N W a (fun e' w' => Q .normal e' ms w') a' w') : PostX W rf N a Q .normal a' w' :=
  ⟨h.1, fun _ => h.2.1, let ⟨e', he, hk⟩ := h.2.2; ⟨e', ms, he, h.2.1.trans hd, hk⟩⟩

theorem Agr.bool {e : Env} {a : Act} (ha : Agr N e a) {s : Nat} {b : Bool} (h : e.get s = some (.bool b)) : Agr N ((s, .bool b) :: e) a := agr_bool ha h

theorem condE_elim {c : Operand} {e : Env} {a : Act} {yes no : Env → Prop} (ha : Agr N e a) (h : condE c e yes no) : ∃ t e', a.eval c = .bool t ∧ Agr N e' a ∧ ((t = true ∧ yes e') ∨ (t = false ∧ no e')) := by
  unfold condE at h
  split at h
  · rename_i s
    obtain ⟨v, hv, h⟩ := optx_elim h
    obtain ⟨t, rfl, h⟩ := asB_elim h
    have he : a.eval (.tmp s) = .bool t := ha.oev (x := .tmp s) hv
    refine ⟨t, (s, .bool t) :: e, he, ha.bool hv, ?_⟩
    cases t
    · exact .inr ⟨rfl, h⟩
    · exact .inl ⟨rfl, h⟩
  · rename_i v
    obtain ⟨t, rfl, h⟩ := asB_elim h
    refine ⟨t, e, rfl, ha, ?_⟩
    cases t
    · exact .inr ⟨rfl, h⟩
    · exact .inl ⟨rfl, h⟩
  · exact h.elim

/-- Yield's parameters, laid from the first on: the state's entries are what lies there, if no slot comes twice. -/
theorem params_agr : ∀ (cs : List (Nat × SK)) (s : ST cs) (e : Env) (ts : Array Value), ts.size = N → (cs.map (·.1)).Nodup → (∀ t ∈ cs.map (·.1), t < N) → (∀ k v, e.get k = some v → ts[k]? = some v) →
    (((cs.map (·.1)).zip (sargs cs s)).foldl (fun tmps (t, v) => tmps.setIfInBounds t v) ts).size = N ∧
    ∀ k v, (ents cs s e).get k = some v → (((cs.map (·.1)).zip (sargs cs s)).foldl (fun tmps (t, v) => tmps.setIfInBounds t v) ts)[k]? = some v
  | [], s, e, ts, hz, _, _, h => ⟨hz, h⟩
  | (t, k) :: r, s, e, ts, hz, hn, ht, h => by
    have hn' := List.nodup_cons.1 (by simpa using hn : (t :: r.map (·.1)).Nodup)
    have ht0 : t < N := ht t (by simp)
    have far : ∀ (l : List (Nat × Value)) (ts : Array Value) (j : Nat), j ∉ l.map (·.1) → (l.foldl (fun tmps (t, v) => tmps.setIfInBounds t v) ts)[j]? = ts[j]? := by
      intro l
      induction l with
      | nil => intro ts j _; rfl
      | cons x l ih =>
        intro ts j hj
        simp only [List.map_cons, List.mem_cons, not_or] at hj
        show (l.foldl _ (ts.setIfInBounds x.1 x.2))[j]? = _
        rw [ih _ _ hj.2, Array.getElem?_setIfInBounds_ne (Ne.symm hj.1)]
    obtain ⟨h1, h2⟩ := params_agr r s.2 ((t, k.v s.1) :: e) (ts.setIfInBounds t (k.v s.1)) (by simpa using hz) hn'.2 (fun u hu => ht u (by simp at hu ⊢; exact .inr hu)) (fun j v hj => by
      rw [get_cons] at hj
      by_cases htj : t = j
      · subst htj
        rw [if_pos rfl] at hj
        obtain rfl := Option.some.inj hj
        simp [hz, ht0]
      · rw [if_neg htj] at hj
        rw [Array.getElem?_setIfInBounds_ne htj]
        exact h j v hj)
    refine ⟨h1, fun j v hj => ?_⟩
    have hj : Env.get ((t, k.v s.1) :: ents r s.2 e) j = some v := hj
    have go : Env.get (ents r s.2 ((t, k.v s.1) :: e)) j = some v := by
      have : ∀ (r : List (Nat × SK)) (s : ST r) (e : Env), t ∉ r.map (·.1) → ∀ u, Env.get ((t, u) :: ents r s e) j = Env.get (ents r s ((t, u) :: e)) j := by
        intro r
        induction r with
        | nil => intro s e _ u; rfl
        | cons x r ih =>
          obtain ⟨t', k'⟩ := x
          intro s e hx u
          simp only [List.map_cons, List.mem_cons, not_or] at hx
          have ih := ih s.2 e hx.2 u
          show Env.get ((t, u) :: (t', k'.v s.1) :: ents r s.2 e) j = Env.get ((t', k'.v s.1) :: ents r s.2 ((t, u) :: e)) j
          rw [get_cons, get_cons, get_cons]
          by_cases h1 : t = j
          · have : t' ≠ j := fun h2 => hx.1 (h1.trans h2.symm)
            rw [if_pos h1, if_neg this, ← ih, get_cons, if_pos h1]
          · rw [if_neg h1]
            by_cases h2 : t' = j
            · rw [if_pos h2, if_pos h2]
            · rw [if_neg h2, if_neg h2, ← ih, get_cons, if_neg h1]
      rw [← this r s.2 e hn'.1]
      exact hj
    exact h2 j v go

theorem zip_swap : ∀ (l : List Nat) (vs : List Value) (ts : Array Value), (l.toArray.zip vs.toArray).foldl (fun tmps (t, a) => tmps.setIfInBounds t a) ts = (l.zip vs).foldl (fun tmps (t, v) => tmps.setIfInBounds t v) ts := by
  intro l vs ts
  simp

theorem sargs_length : ∀ (cs : List (Nat × SK)) (s : ST cs), (sargs cs s).length = cs.length
  | [], _ => rfl
  | (_, _) :: r, s => by simp [sargs, sargs_length r s.2]

theorem orL_elim {T : Code → (World → Prop) → Prop} : ∀ {l : List (Code × (World → Prop))}, orL T l → ∃ j ∈ l, T j.1 j.2
  | [], h => h.elim
  | [c], h => ⟨c, by simp, h⟩
  | c :: d :: r, h => by
    rcases h with h | h
    · exact ⟨c, by simp, h⟩
    · obtain ⟨j, hj, h⟩ := orL_elim (l := d :: r) h
      exact ⟨j, List.mem_cons_of_mem _ hj, h⟩

theorem wpx_sound {A : An} : ∀ (c : Code) {rd : Bool} {p : Nat} {e : Env} {ms : List Nat} {w : World} {Q : QX} {a : Act} {r : Option Nat} {n : Nat}, (rd = false → r = none) → Agr N e a → a.defers = ms.map mark →
    wpx P N A rd c p e ms w Q → c.wpIn (Fr r) n P (PostX (writes c) (hasRF c) N a Q) a w
  | .skip, _, _, e, ms, _, _, _, _, _, _, ha, hd, h => wpIn_skip ⟨Fwd.refl _ _, fun _ => rfl, e, ms, ha, hd, h⟩
  | .label _, _, _, e, ms, _, _, _, _, _, _, ha, hd, h => wpIn_label ⟨Fwd.refl _ _, fun _ => rfl, e, ms, ha, hd, h⟩
  | .exit id, _, _, e, ms, _, _, _, _, _, _, ha, hd, h => wpIn_exit ⟨Fwd.refl _ _, fun _ => rfl, e, ms, ha, hd, h⟩
  | .ret, _, _, e, ms, _, _, _, _, _, _, ha, hd, h => wpIn_ret ⟨Fwd.refl _ _, fun _ => rfl, e, ms, ha, hd, h⟩
  | .goto _, _, _, _, _, _, _, _, _, _, _, _, _, h => h.elim
  | .refuse _, _, _, _, _, _, _, _, _, _, _, _, _, h => h.elim
  | .scope _, _, _, _, _, _, _, _, _, _, _, _, _, h => h.elim
  | .region id ops d, rd, p, e, ms, w, Q, a, r, n, _, ha, hd, h => by
    have hW : ∀ o ∈ ops.toList, ∀ d, o.dst = some d → d ∈ ops.toList.filterMap (·.dst) := fun o ho d hd => List.mem_filterMap.2 ⟨o, ho, hd⟩
    unfold wpx at h
    cases d with
    | false =>
      refine wpIn_region_list ?_
      have := listE_sound (r := r) (n := n) (Q := PostX (writes (.region id ops false)) (hasRF (.region id ops false)) N a Q) ops.toList hW ha h fun a' w' hb => behind_post hd hb
      simpa using this
    | true =>
      obtain ⟨o, _, h⟩ := optx_elim h
      obtain ⟨hc, h⟩ := ifB_left h
      simp only [Bool.and_eq_true] at hc
      obtain ⟨hm, hl, hok⟩ := hc
      cases h1000 : memN 1000 o.2 with
      | false =>
        rw [h1000] at h
        have := draw_sound (r := r) (n := n) (id := id) (Q := PostX (writes (.region id ops true)) (hasRF (.region id ops true)) N a Q) hm hW ha (Nat.eq_of_beq_eq_true hl) hok h fun a' w' hb => behind_post hd hb
        simpa using this
      | true =>
        rw [h1000] at h
        obtain ⟨G, h⟩ := h
        have := drawG_sound (r := r) (n := n) (id := id) (Q := PostX (writes (.region id ops true)) (hasRF (.region id ops true)) N a Q) hm hW ha (Nat.eq_of_beq_eq_true hl) hok h fun a' w' hb => behind_post hd hb
        simpa using this
  | .seq x y, rd, p, e, ms, w, Q, a, r, n, hr, ha, hd, h => by
    unfold wpx at h
    refine wpIn_seq ?_
    split at h
    · refine wpIn_mono (wpx_sound x (n := n) hr ha hd h) ?_
      rintro ex a1 w1 ⟨hf, hdd, e1, ms1, ha1, hd1, hq⟩
      cases ex with
      | normal => exact wpIn_mono (wpx_sound y hr ha1 hd1 hq) fun ex a2 w2 h2 => h2.from (hf.mono fun k hk => List.mem_append_left _ hk) (fun h0 => hdd (Bool.or_eq_false_iff.1 h0).1) (fun k hk => List.mem_append_right _ hk) fun h0 => (Bool.or_eq_false_iff.1 h0).2
      | exit j => exact ⟨hf.mono fun k hk => List.mem_append_left _ hk, fun h0 => hdd (Bool.or_eq_false_iff.1 h0).1, e1, ms1, ha1, hd1, hq⟩
      | goto j => exact ⟨hf.mono fun k hk => List.mem_append_left _ hk, fun h0 => hdd (Bool.or_eq_false_iff.1 h0).1, e1, ms1, ha1, hd1, hq⟩
      | ret => exact ⟨hf.mono fun k hk => List.mem_append_left _ hk, fun h0 => hdd (Bool.or_eq_false_iff.1 h0).1, e1, ms1, ha1, hd1, hq⟩
      | panic j => exact ⟨hf.mono fun k hk => List.mem_append_left _ hk, fun h0 => hdd (Bool.or_eq_false_iff.1 h0).1, e1, ms1, ha1, hd1, hq⟩
      | outgrown => exact ⟨hf.mono fun k hk => List.mem_append_left _ hk, fun h0 => hdd (Bool.or_eq_false_iff.1 h0).1, e1, ms1, ha1, hd1, hq⟩
    · rename_i cs _
      have go : ∀ (J : ST cs × List Nat → World → Prop), (∀ s w, J s w → wpx P N A rd y (2 * p + 1) (ents cs s.1 (keep (writes x) e)) s.2 w Q) → ∀ (T : ST cs → List Nat → World → Prop),
          (∀ s ms' w, (hasRF x = false → ms' = ms) → T s ms' w → J (s, ms') w) → wpx P N A rd x (2 * p) e ms w (thenX (fun e' ms' w' => extr cs e' fun s => T s ms' w') Q) →
          x.wpIn (Fr r) n P (Exit.then (y.wpIn (Fr r) n P (PostX (writes (.seq x y)) (hasRF (.seq x y)) N a Q)) (PostX (writes (.seq x y)) (hasRF (.seq x y)) N a Q)) a w := by
        intro J hJ T hT h
        refine wpIn_mono (wpx_sound x (n := n) hr ha hd h) ?_
        rintro ex a1 w1 ⟨hf, hdd, e1, ms1, ha1, hd1, hq⟩
        cases ex with
        | normal =>
          obtain ⟨s, hs, hsa⟩ := extr_elim ha1 hq
          have hms : hasRF x = false → ms1 = ms := fun h => by
            have : ms1.map mark = ms.map mark := by rw [← hd1, ← hd]; exact hdd h
            exact List.map_inj_right (fun x y hxy => by injection hxy with h1; injection h1) |>.1 this
          exact wpIn_mono (wpx_sound y hr (hsa _ (ha.keep ha1.size hf)) hd1 (hJ _ _ (hT s ms1 w1 hms hs))) fun ex a2 w2 h2 => h2.from (hf.mono fun k hk => List.mem_append_left _ hk) (fun h0 => hdd (Bool.or_eq_false_iff.1 h0).1) (fun k hk => List.mem_append_right _ hk) fun h0 => (Bool.or_eq_false_iff.1 h0).2
        | exit j => exact ⟨hf.mono fun k hk => List.mem_append_left _ hk, fun h0 => hdd (Bool.or_eq_false_iff.1 h0).1, e1, ms1, ha1, hd1, hq⟩
        | goto j => exact ⟨hf.mono fun k hk => List.mem_append_left _ hk, fun h0 => hdd (Bool.or_eq_false_iff.1 h0).1, e1, ms1, ha1, hd1, hq⟩
        | ret => exact ⟨hf.mono fun k hk => List.mem_append_left _ hk, fun h0 => hdd (Bool.or_eq_false_iff.1 h0).1, e1, ms1, ha1, hd1, hq⟩
        | panic j => exact ⟨hf.mono fun k hk => List.mem_append_left _ hk, fun h0 => hdd (Bool.or_eq_false_iff.1 h0).1, e1, ms1, ha1, hd1, hq⟩
        | outgrown => exact ⟨hf.mono fun k hk => List.mem_append_left _ hk, fun h0 => hdd (Bool.or_eq_false_iff.1 h0).1, e1, ms1, ha1, hd1, hq⟩
      cases hrf : hasRF x with
      | true =>
        simp only [hrf, ifB] at h
        obtain ⟨J, hJ, h⟩ := h
        exact go J hJ (fun s ms' w => J (s, ms') w) (fun _ _ _ _ h => h) h
      | false =>
        simp only [hrf, ifB] at h
        obtain ⟨J, hJ, h⟩ := h
        exact go (fun s w => s.2 = ms ∧ J s.1 w) (fun s w h => by obtain ⟨s, ms'⟩ := s; obtain ⟨h1, h2⟩ := h; cases h1; exact hJ s w h2) (fun s _ w => J s w) (fun s ms' w h1 h2 => ⟨h1 hrf, h2⟩) h
  | .cond c x y, rd, p, e, ms, w, Q, a, r, n, hr, ha, hd, h => by
    unfold wpx at h
    obtain ⟨t, e', hc, ha', h⟩ := condE_elim ha h
    rcases h with ⟨rfl, h⟩ | ⟨rfl, h⟩
    · exact wpIn_cond_true hc (wpIn_mono (wpx_sound x hr ha' hd h) fun ex a2 w2 h2 => h2.from (Fwd.refl _ _) (fun _ => rfl) (fun k hk => List.mem_append_left _ hk) fun h0 => (Bool.or_eq_false_iff.1 h0).1)
    · exact wpIn_cond_false hc (wpIn_mono (wpx_sound y hr ha' hd h) fun ex a2 w2 h2 => h2.from (Fwd.refl _ _) (fun _ => rfl) (fun k hk => List.mem_append_right _ hk) fun h0 => (Bool.or_eq_false_iff.1 h0).2)
  | .block id x, rd, p, e, ms, w, Q, a, r, n, hr, ha, hd, h => by
    unfold wpx at h
    refine wpIn_block (wpIn_mono (wpx_sound x (n := n) hr ha hd h) ?_)
    rintro ex a1 w1 ⟨hf, hdd, e1, ms1, ha1, hd1, hq⟩
    cases ex with
    | normal => exact ⟨hf, hdd, e1, ms1, ha1, hd1, hq⟩
    | exit j =>
      have hq : (match Nat.beq j id with
        | true => Q .normal e1 ms1 w1
        | false => Q (.exit j) e1 ms1 w1) := hq
      by_cases hj : j = id
      · rw [show Nat.beq j id = true from by rw [hj]; exact Nat.beq_refl id] at hq
        simp only [Exit.inBlock, hj, if_true]
        exact ⟨hf, hdd, e1, ms1, ha1, hd1, hq⟩
      · rw [show Nat.beq j id = false from by
          cases hb : Nat.beq j id with
          | false => rfl
          | true => exact absurd (Nat.eq_of_beq_eq_true hb) hj] at hq
        simp only [Exit.inBlock, hj, if_false]
        exact ⟨hf, hdd, e1, ms1, ha1, hd1, hq⟩
    | goto j => exact ⟨hf, hdd, e1, ms1, ha1, hd1, hq⟩
    | ret => exact ⟨hf, hdd, e1, ms1, ha1, hd1, hq⟩
    | panic j => exact ⟨hf, hdd, e1, ms1, ha1, hd1, hq⟩
    | outgrown => exact ⟨hf, hdd, e1, ms1, ha1, hd1, hq⟩
  | .loop c, rd, p, e, ms, w, Q, a, r, n, hr, ha, hd, h => by
    unfold wpx at h
    obtain ⟨cs, _, h⟩ := optx_elim h
    obtain ⟨s0, h, hs0⟩ := extr_elim ha h
    -- the rule, once for both
    have rule : ∀ (I : ST cs × List Nat → World → Prop) (μ : ST cs × List Nat → World → Nat) (T : ST cs × List Nat → World → ST cs → List Nat → World → Prop), (hasRF c = false → ∀ s w, I s w → s.2 = ms) → I (s0, ms) w →
        (∀ s w, I s w → wpx P N A rd c (2 * p) (ents cs s.1 (keep (writes c) e)) s.2 w (thenX (fun e' ms' w' => extr cs e' fun s' => T s w s' ms' w') Q)) →
        (∀ s w s' ms' w', I s w → (hasRF c = false → ms' = s.2) → T s w s' ms' w' → I (s', ms') w' ∧ μ (s', ms') w' < μ s w) →
        (Code.loop c).wpIn (Fr r) n P (PostX (writes (.loop c)) (hasRF (.loop c)) N a Q) a w := by
      intro I μ T hms h0 hI hT b k cs' hro hb hroom
      have key : ∀ j s a1 w1, μ s w1 = j → I s w1 → Fwd (writes c) a a1 → a1.tmps.size = N → a1.defers = s.2.map mark → Agr N (ents cs s.1 (keep (writes c) e)) a1 →
          ∃ ex a' w', PostX (writes (.loop c)) (hasRF (.loop c)) N a Q ex a' w' ∧ ArrivesIn (Machine.fenced P (Fr r)) P (lone (b.atR a1 (.code c :: .inLoop c :: k)) cs' w1) b k cs' ex a' w' := by
        intro j
        induction j using Nat.strongRecOn with
        | _ j ih =>
          intro s a1 w1 hn hs hf hz hdf hag
          obtain ⟨ex, a2, w2, hq, harr⟩ := wpx_sound c (n := n) hr hag hdf (hI s w1 hs) b (.inLoop c :: k) cs' hro hb hroom
          obtain ⟨hf2, hd2, e2, ms2, ha2, hdf2, hq⟩ := hq
          have hdd : hasRF c = false → a1.defers = a.defers := fun h => by rw [hdf, hd, hms h s w1 hs]
          cases ex with
          | normal =>
            obtain ⟨s', hTT, hsa⟩ := extr_elim ha2 hq
            obtain ⟨hI', hlt⟩ := hT s w1 s' ms2 w2 hs (fun h => by
              have : ms2.map mark = s.2.map mark := by rw [← hdf2, ← hdf]; exact hd2 h
              exact List.map_inj_right (fun x y hxy => by injection hxy with h1; injection h1) |>.1 this) hTT
            have hf' := hf.trans hf2
            obtain ⟨e3, a3, w3, hq3, harr3⟩ := ih (μ (s', ms2) w2) (hn ▸ hlt) (s', ms2) a2 w2 rfl hI' hf' ha2.size hdf2 (hsa _ (ha.keep ha2.size hf'))
            exact ⟨e3, a3, w3, hq3, .of_steps (StepsIn.trans harr (.one (fenced_calm hb hroom rfl) stepR_inLoop)) harr3⟩
          | exit id => exact ⟨_, a2, w2, PostX.from (rf := hasRF c) ⟨hf2, hd2, e2, ms2, ha2, hdf2, hq⟩ hf hdd (fun _ h => h) (fun h => h), .pass (x := .inLoop c) rfl (fun _ _ => .inl (by simp)) harr⟩
          | goto l => exact ⟨_, a2, w2, PostX.from (rf := hasRF c) ⟨hf2, hd2, e2, ms2, ha2, hdf2, hq⟩ hf hdd (fun _ h => h) (fun h => h), .pass (x := .inLoop c) rfl (fun _ _ => .inl (by simp)) harr⟩
          | ret => exact ⟨_, a2, w2, PostX.from (rf := hasRF c) ⟨hf2, hd2, e2, ms2, ha2, hdf2, hq⟩ hf hdd (fun _ h => h) (fun h => h), .pass (x := .inLoop c) rfl (fun _ _ => .inl (by simp)) harr⟩
          | panic ch => exact ⟨_, a2, w2, PostX.from (rf := hasRF c) ⟨hf2, hd2, e2, ms2, ha2, hdf2, hq⟩ hf hdd (fun _ h => h) (fun h => h), .pass (x := .inLoop c) rfl (fun _ _ => .inl (by simp)) harr⟩
          | outgrown => exact ⟨_, a2, w2, PostX.from (rf := hasRF c) ⟨hf2, hd2, e2, ms2, ha2, hdf2, hq⟩ hf hdd (fun _ h => h) (fun h => h), .pass (x := .inLoop c) rfl (fun _ _ => .inl (by simp)) harr⟩
      obtain ⟨ex, a', w', hq, harr⟩ := key _ (s0, ms) a w rfl h0 (Fwd.refl _ _) ha.size hd (hs0 _ (ha.keep ha.size (Fwd.refl _ _)))
      exact ⟨ex, a', w', hq, .of_steps (.one (fenced_calm hb hroom rfl) stepR_loop) harr⟩
    cases hrf : hasRF c with
    | true =>
      simp only [hrf, ifB] at h
      obtain ⟨I, μ, h0, hI⟩ := h
      exact rule I μ (fun s w s' ms' w' => I (s', ms') w' ∧ μ (s', ms') w' < μ s w) (fun h => by rw [hrf] at h; cases h) h0 hI fun _ _ _ _ _ _ _ h => h
    | false =>
      simp only [hrf, ifB] at h
      obtain ⟨I, μ, h0, hI⟩ := h
      refine rule (fun s w => s.2 = ms ∧ I s.1 w) (fun s w => μ s.1 w) (fun s w s' _ w' => I s' w' ∧ μ s' w' < μ s.1 w) (fun _ s w h => h.1) ⟨rfl, h0⟩ ?_ ?_
      · rintro ⟨s, ms'⟩ w1 ⟨rfl, hs⟩
        exact hI s w1 hs
      · rintro s w1 s' ms' w2 ⟨h1, _⟩ hm ⟨h3, h4⟩
        exact ⟨⟨(hm hrf).trans h1, h3⟩, h4⟩
  | .rangeFunc g ps as body, rd, p, e, ms, w, Q, a, r, n, hr, ha, hd, h => by
    unfold wpx at h
    obtain ⟨hrd, h⟩ := ifB_right h
    obtain rfl := hr hrd
    obtain ⟨gv, hg, h⟩ := xev_elim h
    obtain ⟨cs, _, h⟩ := optx_elim h
    obtain ⟨hc, h⟩ := ifB_left h
    simp only [Bool.and_eq_true, decide_eq_true_eq] at hc
    obtain ⟨hps, hnd, hras, hlt⟩ := hc
    refine wpIn_rangeFunc fun fn hfn => ?_
    have hx := h { state := .ready, pending := none, fn := fn, tmps := a.tmps, params := ps, assign := as, body := body, defers := w.heap.size } rfl rfl rfl ?yield
    case yield =>
      intro s W R hW hround
      have hsz : ((#[] : Array Value).toList ++ sargs cs s).toArray.size = ps.size := by
        have : cs.length = ps.size := by
          have := congrArg List.length hps
          simpa using this
        simp [sargs_length, this]
      refine ⟨fn, _, as, body, run_yield hW hsz, ?_⟩
      refine roundIn_of_wpIn (F := Fence.wide) trivial ?_
      have hpa := params_agr (N := N) cs s e a.tmps ha.size (by rw [hps]; exact hnd) (fun t ht => by
        rw [hps] at ht
        have := List.all_eq_true.1 hlt t ht
        simpa using this) ha.get
      have htm : (ps.zip ((#[] : Array Value).toList ++ sargs cs s).toArray).foldl (fun tmps (t, a) => tmps.setIfInBounds t a) a.tmps = ((cs.map (·.1)).zip (sargs cs s)).foldl (fun tmps (t, v) => tmps.setIfInBounds t v) a.tmps := by
        rw [hps]
        have : ps = ps.toList.toArray := by simp
        rw [this]
        exact zip_swap _ _ _
      refine wpIn_mono (wpx_sound as (r := some (w.heap.size + 1)) (n := 0) (rd := true) (fun h => by cases h) (a := { tmps := _, defers := [] }) (ms := []) ⟨by rw [htm]; exact hpa.1, fun k v hk => by rw [htm]; exact hpa.2 k v hk⟩ rfl hround) ?_
      rintro ex a1 w1 ⟨_, hdd, e1, ms1, ha1, hd1, hq⟩
      cases ex with
      | normal =>
        obtain ⟨hW1, hq⟩ := hq
        refine ⟨_, run_beginRound hW1 rfl, ?_⟩
        refine wpIn_mono (wpx_sound body (r := some (w.heap.size + 1)) (n := 0) (rd := true) (fun h => by cases h) ha1 (ms := []) ?_ hq) ?_
        · exact hdd (by simpa using hras)
        · rintro ex a2 w2 ⟨_, _, e2, ms2, ha2, hd2, hq⟩
          cases ex with
          | normal => exact ⟨_, _, run_endRound none hq.1, hq.2⟩
          | ret => exact ⟨_, _, run_endRound (some .ret) hq.1, hq.2⟩
          | exit j => exact ⟨_, _, run_endRound (some (.exit j)) hq.1, hq.2⟩
          | goto j => exact hq.elim
          | panic j => exact hq.elim
          | outgrown => exact hq.elim
      | exit j => exact hq.elim
      | goto j => exact hq.elim
      | ret => exact hq.elim
      | panic j => exact hq.elim
      | outgrown => exact hq.elim
    have hfin : ∀ W, (W.heap[w.heap.size + 1]? = some (.loop { state := .ready, pending := none, fn := fn, tmps := a.tmps, params := ps, assign := as, body := body, defers := w.heap.size }) ∧
          Q .normal e (w.heap.size :: ms) (W.putObj (w.heap.size + 1) (recOf { state := .ready, pending := none, fn := fn, tmps := a.tmps, params := ps, assign := as, body := body, defers := w.heap.size } .exhausted none))) ∨
        (∃ j, isOut j = true ∧ W.heap[w.heap.size + 1]? = some (recOf { state := .ready, pending := none, fn := fn, tmps := a.tmps, params := ps, assign := as, body := body, defers := w.heap.size } .done (some j)) ∧
          Q (exOf j) e (w.heap.size :: ms) (W.putObj (w.heap.size + 1) (recOf { state := .ready, pending := none, fn := fn, tmps := a.tmps, params := ps, assign := as, body := body, defers := w.heap.size } .exhausted (some j)))) →
        ∀ v, rangePost (Fr none) n P (w.heap.size + 1) (PostX (writes (.rangeFunc g ps as body)) (hasRF (.rangeFunc g ps as body)) N a Q) { a with defers := [mark w.heap.size] ++ a.defers } (.returned v) W := by
      intro W hW v
      have post : ∀ ex w', Q ex e (w.heap.size :: ms) w' → PostX (writes (.rangeFunc g ps as body)) (hasRF (.rangeFunc g ps as body)) N a Q ex { a with defers := [mark w.heap.size] ++ a.defers } w' := fun ex w' hq =>
        ⟨fun _ _ => rfl, (fun h => by cases h), e, w.heap.size :: ms, ⟨ha.size, ha.get⟩, by simp [hd], hq⟩
      rcases hW with ⟨h1, h2⟩ | ⟨j, hj, h1, h2⟩
      · exact ⟨_, _, run_endLoop h1 (by simp), post _ _ h2⟩
      · refine ⟨_, _, run_endLoop h1 (by simp), ?_⟩
        cases j <;> try cases hj
        case ret.refl => exact wpIn_ret (post _ _ h2)
        case exit.refl id => exact wpIn_exit (post _ _ h2)
    have hcf : ∀ {args : List Value} {w1 : World} {R : Ending → World → Prop}, CallF P gv args w1 R → ∃ f first caps, gv = .func (.func f) first caps ∧ okCallee P f = true ∧ Calls P f (first.toList ++ args ++ caps.toList).toArray w1 R := by
      intro args w1 R hx
      unfold CallF at hx
      split at hx
      · obtain ⟨hok, hx⟩ := ifB_left hx
        exact ⟨_, _, _, rfl, hok, hx⟩
      · exact hx.elim
    obtain ⟨f, first, caps, rfl, hok, hx⟩ := hcf hx
    · clear h
      have hev : a.eval g = .func (.func f) first caps := ha.oev hg
      refine ⟨_, _, ((w.alloc (.deferred (some []))).alloc (.loop { state := .ready, pending := none, fn := fn, tmps := a.tmps, params := ps, assign := as, body := body, defers := w.heap.size })), { target := .fn (.func f) caps, args := first ++ #[.func (.yield (w.heap.size + 1)) #[] #[]] }, ((w.alloc (.deferred (some []))).alloc (.loop { state := .ready, pending := none, fn := fn, tmps := a.tmps, params := ps, assign := as, body := body, defers := w.heap.size })), f, (first ++ #[.func (.yield (w.heap.size + 1)) #[] #[]]) ++ caps, ((w.alloc (.deferred (some []))).alloc (.loop { state := .ready, pending := none, fn := fn, tmps := a.tmps, params := ps, assign := as, body := body, defers := w.heap.size })), run_enterLoop_outer fn a.tmps ps as body, ?_, fun _ _ => trivial, ?_, (fun h => by cases h), ?_⟩
      · simp only [resolve, hev, Deferred.ofValue]
        rw [show Array.map a.eval #[Operand.const (.func (.yield (w.heap.size + 1)) #[] #[])] = #[.func (.yield (w.heap.size + 1)) #[] #[]] from by simp [Act.eval]]
        rfl
      · exact callFunc_run hok _
      · have : (first.toList ++ [Value.func (.yield (w.heap.size + 1)) #[] #[]] ++ caps.toList).toArray = (first ++ #[.func (.yield (w.heap.size + 1)) #[] #[]]) ++ caps := by
          apply Array.ext'; simp
        rw [this] at hx
        refine (fr_calls hx).mono ?_
        rintro en W ⟨⟨v, rfl⟩, hW⟩
        refine hfin W (hW.imp id fun h => ?_) v
        obtain ⟨j, hj, h1, h2⟩ := orL_elim h
        obtain ⟨i, hi, hij⟩ := List.mem_map.1 hj
        subst hij
        exact ⟨i, (List.mem_filter.1 hi).2, h1, h2⟩

theorem takeMs_leaves {fn : Func} {ts : Array Value} {R : Ending → World → Prop} {K : World → Prop} (hK : ∀ w, K w → ∃ v, (results fn ts).run P w = .ok v w ∧ R (.returned v) w) :
    ∀ (ms : List Nat) (w : World), takeMs ms w K → LeavesInM Fence.wide 0 P fn ts R (ms.map mark) .returning w
  | [], w, h => hK w h
  | D :: ms, w, h => ⟨by simp, .inl ⟨D, _, rfl, run_takeDeferred h.1, takeMs_leaves hK ms _ h.2⟩⟩

def resG (ts : Array Value) : ResultVar → Sem Value
  | .tmp t => pure (ts.getD t undef)
  | .cell c t => asAddr (ts.getD c undef) >>= fun a => loadVar t a

theorem results_eq (fn : Func) (ts : Array Value) : results fn ts = (fn.results.mapM (resG ts) >>= fun vs => pure (if h : vs.size = 1 then vs[0] else .tuple vs)) := rfl

theorem resV_elim {e : Env} {a : Act} {w : World} (ha : Agr N e a) : ∀ {rs : List ResultVar} {K : List Value → Prop}, resV P e w rs K →
    ∃ vs, K vs ∧ (rs.mapM (resG a.tmps)).run P w = .ok vs w
  | [], K, h => ⟨[], h, rfl⟩
  | .tmp t :: r, K, h => by
    obtain ⟨v, hv, h⟩ := optx_elim h
    obtain ⟨vs, hK, hr⟩ := resV_elim ha h
    refine ⟨v :: vs, hK, ?_⟩
    have : a.tmps.getD t undef = v := by
      have := ha.get t v hv
      simp [Array.getD_eq_getD_getElem?, this]
    have h1 : (resG a.tmps (.tmp t)).run P w = .ok v w := by rw [← this]; rfl
    simp only [List.mapM_cons, h1, hr, Sem.run_bind, Sem.run_pure, Result.andThen]
  | .cell c t :: r, K, h => by
    obtain ⟨v, hv, h⟩ := optx_elim h
    obtain ⟨ad, rfl, h⟩ := asA_elim h
    obtain ⟨hu, h⟩ := ifB_left h
    obtain ⟨x, h, hl⟩ := ldx_sound hu h
    obtain ⟨vs, hK, hr⟩ := resV_elim ha h
    refine ⟨x :: vs, hK, ?_⟩
    have : a.tmps.getD c undef = .pointer (some ad) := by
      have := ha.get c _ hv
      simp [Array.getD_eq_getD_getElem?, this]
    have hl : (loadVar t ad).run P w = .ok x w := hl
    have h1 : (resG a.tmps (.cell c t)).run P w = .ok x w := by
      show (asAddr (a.tmps.getD c undef) >>= fun a => loadVar t a).run P w = .ok x w
      rw [this]
      exact hl
    simp only [List.mapM_cons, h1, hr, Sem.run_bind, Sem.run_pure, Result.andThen]

theorem numb_get : ∀ (vs : List Value) (k j : Nat) (v : Value), (numb k vs).get j = some v → k ≤ j ∧ vs[j - k]? = some v
  | [], _, _, _, h => by cases h
  | u :: vs, k, j, v, h => by
    have h : Env.get ((k, u) :: numb (k + 1) vs) j = some v := h
    rw [get_cons] at h
    by_cases hk : k = j
    · subst hk
      rw [if_pos rfl] at h
      exact ⟨Nat.le_refl _, by simpa using h⟩
    · rw [if_neg hk] at h
      obtain ⟨h1, h2⟩ := numb_get vs (k + 1) j v h
      refine ⟨by omega, ?_⟩
      have : j - k = (j - (k + 1)) + 1 := by omega
      rw [this, List.getElem?_cons_succ]
      exact h2

/-- A function's contract, out of what is asked of its whole code. -/
theorem funX_sound {f : FuncId} {A : An} {args : List Value} {w : World} {R : Value → World → Prop} (h : funX P f A args w R) : Calls P f args.toArray w fun e w' => ∃ v, e = .returned v ∧ R v w' := by
  obtain ⟨fn, hf, h⟩ := optx_elim h
  obtain ⟨c, hb, h⟩ := optx_elim h
  obtain ⟨hn, h⟩ := ifB_left h
  have hn := Nat.le_of_ble_eq_true hn
  refine (callsIn_wide (n := 0)).1 (callsIn_of_wp_marks hf hb trivial ?_)
  have ha : Agr fn.ntmps (numb 0 args) { tmps := args.toArray ++ Array.replicate (fn.ntmps - args.toArray.size) undef, defers := [] } := by
    refine ⟨by simp; omega, fun k v hk => ?_⟩
    obtain ⟨_, hk⟩ := numb_get args 0 k v hk
    simp only [Nat.sub_zero] at hk
    have hlt : k < args.length := by
      rcases Nat.lt_or_ge k args.length with h | h
      · exact h
      · rw [List.getElem?_eq_none h] at hk; cases hk
    rw [Array.getElem?_append_left (by simpa using hlt)]
    simpa using hk
  refine wpIn_mono (wpx_sound c (r := none) (n := 0) (fun _ => rfl) ha (ms := []) rfl h) ?_
  rintro ex a' w' ⟨_, _, e', ms', ha', hd', hq⟩
  have fin : takeMs ms' w' (fun w'' => resV P e' w'' fn.results.toList fun vs => R (oneV vs) w'') → LeavesInM Fence.wide 0 P fn a'.tmps (fun e w' => ∃ v, e = .returned v ∧ R v w') a'.defers .returning w' := fun h => by
    rw [hd']
    refine takeMs_leaves (fun w'' h => ?_) ms' w' h
    obtain ⟨vs, hK, hr⟩ := resV_elim ha' h
    refine ⟨oneV vs, ?_, oneV vs, rfl, hK⟩
    rw [results_eq, Array.mapM_eq_mapM_toList]
    simp only [Sem.run_bind, Sem.run_map, hr, Sem.run_pure, Result.andThen]
    match vs with
    | [] => rfl
    | [v] => rfl
    | v :: u :: r => rfl
  cases ex with
  | normal => exact fin hq
  | ret => exact fin hq
  | exit j => exact hq.elim
  | goto j => exact hq.elim
  | panic j => exact hq.elim
  | outgrown => exact hq.elim
end
end Go.Wx
end
