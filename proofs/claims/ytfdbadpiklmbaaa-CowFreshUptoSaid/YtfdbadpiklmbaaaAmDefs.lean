/- AM: an abstract machine over the model: a heap of numbered objects, and what each operation does to it, as plain functions. No tape, no order, no capacity. Nothing here speaks of one program. -/
import Derived.Calls
import Derived.Orders
import Derived.LoopN
set_option linter.unusedSimpArgs false
set_option linter.unusedVariables false
set_option linter.unnecessarySimpa false
set_option maxRecDepth 100000
namespace Go.AM

/-- Whether an object may be written: read only; its own whole block; a row that may have room behind it (elements of sz cells). -/
inductive Md where
  | ro | rw | tail (sz : Nat)
  deriving DecidableEq

inductive AObj where
  | dead
  | cells (c : List Value) (md : Md)
  | map (es : List MapEntry) (clock : Nat)

def AObj.alive : AObj → Bool
  | .dead => false
  | _ => true

/-- Alive, and not read only. -/
def AObj.own : AObj → Bool
  | .dead => false
  | .cells _ .ro => false
  | _ => true

structure AHeap where
  objs : List AObj

namespace AHeap
def next (h : AHeap) : Nat := h.objs.length
def get (h : AHeap) (i : Nat) : AObj := h.objs.getD i .dead
def push (h : AHeap) (o : AObj) : AHeap := ⟨h.objs ++ [o]⟩
def set (h : AHeap) (i : Nat) (o : AObj) : AHeap := ⟨h.objs.set i o⟩
def empty : AHeap := ⟨[]⟩

@[simp] theorem next_push (h : AHeap) (o : AObj) : (h.push o).next = h.next + 1 := by simp [next, push]
@[simp] theorem next_set (h : AHeap) (i : Nat) (o : AObj) : (h.set i o).next = h.next := by simp [next, set]
@[simp] theorem get_push_self (h : AHeap) (o : AObj) : (h.push o).get h.next = o := by simp [get, push, next, List.getD]
theorem get_push_lt (h : AHeap) (o : AObj) {i : Nat} (hi : i < h.next) : (h.push o).get i = h.get i := by
  simp only [next] at hi; simp [get, push, List.getD, List.getElem?_append_left hi]
theorem get_push_ne (h : AHeap) (o : AObj) {i : Nat} (hi : i ≠ h.next) : (h.push o).get i = h.get i := by
  simp only [next] at hi
  rcases Nat.lt_or_ge i h.objs.length with h1 | h1
  · exact get_push_lt h o h1
  · simp [get, push, List.getD, List.getElem?_eq_none (show (h.objs ++ [o]).length ≤ i by simp; omega), List.getElem?_eq_none h1]
theorem get_ge (h : AHeap) {i : Nat} (hi : h.next ≤ i) : h.get i = .dead := by
  simp only [next] at hi; simp [get, List.getD, List.getElem?_eq_none hi]
theorem get_set_self (h : AHeap) (o : AObj) {i : Nat} (hi : i < h.next) : (h.set i o).get i = o := by
  simp only [next] at hi; simp [get, set, List.getD, hi]
@[simp] theorem get_set_ne (h : AHeap) (o : AObj) {i j : Nat} (hij : i ≠ j) : (h.set i o).get j = h.get j := by
  simp [get, set, List.getD, List.getElem?_set_ne hij]
theorem lt_of_alive (h : AHeap) {i : Nat} (hi : h.get i ≠ .dead) : i < h.next := by
  rcases Nat.lt_or_ge i h.next with h1 | h1
  · exact h1
  · exact absurd (get_ge h h1) hi
/-- What was there is there as it was. -/
def quiet (h h' : AHeap) : Prop := h.next ≤ h'.next ∧ ∀ i, i < h.next → h'.get i = h.get i
theorem quiet.refl (h : AHeap) : quiet h h := ⟨Nat.le_refl _, fun _ _ => rfl⟩
theorem quiet.trans {a b c : AHeap} (h : quiet a b) (k : quiet b c) : quiet a c :=
  ⟨Nat.le_trans h.1 k.1, fun i hi => (k.2 i (Nat.lt_of_lt_of_le hi h.1)).trans (h.2 i hi)⟩
theorem quiet.push (h : AHeap) (o : AObj) : quiet h (h.push o) := ⟨by simp, fun i hi => get_push_lt h o hi⟩
end AHeap

/-- Not an aggregate: what one cell holds. -/
def one : Value → Bool
  | .agg _ | .tuple _ => false
  | _ => true

/-- Values in which no address stands. -/
def plainV : Nat → Value → Bool
  | _, .bool _ | _, .int _ _ | _, .float _ _ | _, .complex _ _ _ | _, .string _ | _, .pointer none | _, .slice none 0 0 | _, .map none | _, .nilFunc | _, .nilIface => true
  | n + 1, .agg cs => cs.all (plainV n)
  | n + 1, .tuple cs => cs.all (plainV n)
  | n + 1, .iface _ v => plainV n v
  | n + 1, .func _ f c => f.all (plainV n) && c.all (plainV n)
  | _, _ => false

def putCells : List Value → Nat → List Value → List Value
  | c, _, [] => c
  | c, off, v :: vs => putCells (c.set off v) (off + 1) vs

theorem length_putCells (vs : List Value) : ∀ (c : List Value) (off : Nat), (putCells c off vs).length = c.length := by
  induction vs with
  | nil => intro c off; rfl
  | cons v vs ih => intro c off; simp [putCells, ih]

section
variable (P : Program)

def aggT (t : TypeId) : Option Bool :=
  (P.underlying t).map fun | .struct _ => true | .array _ _ => true | _ => false

def zeroT (t : TypeId) : Option Value := (P.info? t).bind (·.zero)

def aload (t : TypeId) (h : AHeap) (id off : Nat) : Option Value :=
  match h.get id with
  | .cells c _ =>
    match aggT P t with
    | some true => if off + P.cellsOf t ≤ c.length then some (.agg ((c.drop off).take (P.cellsOf t)).toArray) else none
    | some false => c[off]?
    | none => none
  | _ => none

def astore (t : TypeId) (v : Value) (h : AHeap) (id off : Nat) : Option AHeap :=
  match h.get id with
  | .cells c md =>
    if md ≠ .ro ∧ (P.info? t).isSome = true ∧ v.cells.size = P.cellsOf t ∧ off + v.cells.size ≤ c.length ∧ v.cells.toList.all one = true then
      some (h.set id (.cells (putCells c off v.cells.toList) md))
    else none
  | _ => none

/-- Fields of a struct, one behind the other: are they equal? -/
def aeqFields (eqf : TypeId → Value → Value → Option Bool) (part : TypeId → Nat → Array Value → Option Value) (xs ys : Array Value) : List Field → Option Bool
  | [] => some true
  | f :: fs =>
    if f.name ≠ "_" then
      match part f.type f.offset xs, part f.type f.offset ys with
      | some a, some b =>
        match eqf f.type a b with
        | some true => aeqFields eqf part xs ys fs
        | some false => some false
        | none => none
      | _, _ => none
    else aeqFields eqf part xs ys fs

def apart (t : TypeId) (off : Nat) (cs : Array Value) : Option Value :=
  match aggT P t with
  | some true => if (P.info? t).isSome = true then some (.agg (cs.extract off (off + P.cellsOf t))) else none
  | some false => cs[off]?
  | none => none

def aeq (h : AHeap) : Nat → TypeId → Value → Value → Option Bool
  | 0, _, _, _ => none
  | d + 1, t, x, y =>
    match P.underlying t, x, y with
    | some .bool, .bool a, .bool b => some (a == b)
    | some (.int _), .int k a, .int k' b => if k = k' then some (a == b) else none
    | some .string, .string a, .string b => some (a == b)
    | some (.pointer _), .pointer none, .pointer b => some b.isNone
    | some (.pointer _), .pointer (some _), .pointer none => some false
    | some (.pointer e), .pointer (some a), .pointer (some b) =>
      if P.cellsOf e = 0 ∨ (P.info? e).isSome = false ∨ a.spot ≠ none ∨ b.spot ≠ none then none
      else if a.block = b.block then some (decide (a.off = b.off))
      else match h.get a.block, h.get b.block with
        | .cells _ .rw, .cells _ .rw => some false
        | _, _ => none
    | some (.struct fs), .agg xs, .agg ys => if P.stoodInHeld t = true then none else aeqFields (aeq h d) (apart P) xs ys fs.toList
    | some (.slice _), .slice none _ _, .slice b _ _ => some b.isNone
    | some (.slice _), .slice (some _) _ _, .slice none _ _ => some false
    | some (.map _ _), .map none, .map b => some b.isNone
    | some (.map _ _), .map (some _), .map none => some false
    | some (.func _ _ _), .nilFunc, .nilFunc => some true
    | some (.func _ _ _), .nilFunc, .func _ _ _ => some false
    | some (.func _ _ _), .func _ _ _, .nilFunc => some false
    | _, _, _ => none

/-- '==' on values that are neither two numbers nor two strings. -/
def aequal (h : AHeap) (t : TypeId) (x y : Value) : Option Bool :=
  match x, y with
  | .agg _, .agg _ => if P.eqGuardType P.depth t = true then none else aeq P h 9 t x y
  | .nilIface, .nilIface => none
  | _, _ => aeq P h 9 t x y

def aint (op : BinOp) (k : IntKind) (a b : Int) : Option Value :=
  match op with
  | .add => some (.int k (k.wrap (a + b)))
  | .sub => some (.int k (k.wrap (a - b)))
  | .mul => some (.int k (k.wrap (a * b)))
  | .quo => if b = 0 then none else some (.int k (k.wrap (a.tdiv b)))
  | .rem => if b = 0 then none else some (.int k (a.tmod b))
  | .and => some (.int k (k.wrap (BitVec.ofInt k.bits a &&& BitVec.ofInt k.bits b).toNat))
  | .or => some (.int k (k.wrap (BitVec.ofInt k.bits a ||| BitVec.ofInt k.bits b).toNat))
  | .xor => some (.int k (k.wrap (BitVec.ofInt k.bits a ^^^ BitVec.ofInt k.bits b).toNat))
  | .andNot => some (.int k (k.wrap (BitVec.ofInt k.bits a &&& ~~~BitVec.ofInt k.bits b).toNat))
  | .eql => some (.bool (a == b))
  | .neq => some (.bool (a != b))
  | .lss => some (.bool (decide (a < b)))
  | .leq => some (.bool (decide (a ≤ b)))
  | .gtr => some (.bool (decide (a > b)))
  | .geq => some (.bool (decide (a ≥ b)))
  | _ => none

def ashift (op : BinOp) (k : IntKind) (a b : Int) : Option Value :=
  if b < 0 then none else
  match op with
  | .shl => some (.int k (k.wrap (a * 2 ^ (min b.toNat k.bits))))
  | .shr => some (.int k (a.fdiv (2 ^ (min b.toNat k.bits))))
  | _ => none

def astr (op : BinOp) (x y : ByteArray) : Option Value :=
  match op with
  | .add => if ((x.size + y.size : Nat) : Int) > IntKind.i64.max then none else some (.string (x ++ y))
  | .eql => some (.bool (x.data.toList == y.data.toList))
  | .neq => some (.bool (!(x.data.toList == y.data.toList)))
  | _ => none

def abin (h : AHeap) (op : BinOp) (t : TypeId) (x y : Value) : Option Value :=
  match x, y with
  | .int k a, .int k' b =>
    match op with
    | .shl => ashift .shl k a b
    | .shr => ashift .shr k a b
    | op => if k = k' then aint op k a b else none
  | .string a, .string b => astr op a b
  | x, y =>
    match op with
    | .eql => (aequal P h t x y).map .bool
    | .neq => (aequal P h t x y).map fun b => .bool (!b)
    | _ => none

def aun (op : UnOp) (x : Value) : Option Value :=
  match op, x with
  | .not, .bool b => some (.bool (!b))
  | .neg, .int k n => some (.int k (k.wrap (0 - n)))
  | .xor, .int k n => some (.int k (k.wrap (BitVec.ofInt k.bits (if k.signed then -1 else k.max) ^^^ BitVec.ofInt k.bits n).toNat))
  | _, _ => none

/-- The cells of a slice, so many elements of so many cells. -/
def acells (h : AHeap) (sz n : Nat) : Value → Option (List Value)
  | .slice none _ _ => if n = 0 then some [] else none
  | .slice (some a) _ _ =>
    if n * sz = 0 then some [] else
    match h.get a.block with
    | .cells c _ => if a.off + n * sz ≤ c.length then some ((c.drop a.off).take (n * sz)) else none
    | _ => none
  | .string s => if sz = 1 then some ((s.data.toList.take n).map fun b => .int .u8 b.toNat) else none
  | _ => none

def alen : Value → Option Nat
  | .slice _ n _ => some n
  | .string s => some s.size
  | _ => none

def bytesOfCells : List Value → ByteArray → Option ByteArray
  | [], acc => some acc
  | .int .u8 n :: r, acc => bytesOfCells r (acc.push (UInt8.ofNat n.toNat))
  | _, _ => none

def aconv (h : AHeap) (s d : TypeId) (x : Value) : Option (Value × AHeap) :=
  match P.underlying s, P.underlying d, x with
  | some _, some (.int k), .int _ n => some (.int k (k.wrap n), h)
  | some _, some .string, .string s => some (.string s, h)
  | some (.slice e), some .string, .slice a n c =>
    match P.underlying e with
    | some (.int .u8) =>
      match acells h 1 n (.slice a n c) with
      | some cs => (bytesOfCells cs .empty).map fun b => (.string b, h)
      | none => none
    | _ => none
  | some .string, some (.slice e), .string s =>
    match P.underlying e with
    | some (.int .u8) =>
      some (.slice (some ⟨h.next, 0, some 1⟩) s.size s.size, h.push (.cells (s.data.toList.map fun b => .int .u8 b.toNat) (.tail 1)))
    | _ => none
  | some (.slice _), some (.slice e), .slice (some a) n c =>
    match P.underlying e with
    | some (.int .u8) =>
      match h.get a.block with
      | .cells cs .rw => if s = d ∧ a.spot = none ∧ a.off = 0 ∧ n = cs.length ∧ c = cs.length ∧ 0 < n then some (.slice (some ⟨h.next, 0, some 1⟩) n n, (h.set a.block .dead).push (.cells cs (.tail 1))) else none
      | _ => none
    | _ => none
  | _, _, _ => none

def azeros (zero : List Value) (n : Nat) : List Value := (List.range n).map fun i => zero.getD (i % zero.length) undef

def amake (h : AHeap) (t : TypeId) (l c : Value) : Option (Value × AHeap) :=
  match P.underlying t, l, c with
  | some (.slice e), .int _ l, .int _ c =>
    match P.info? e with
    | some i =>
      match i.zero with
      | some z =>
        if 0 ≤ l ∧ l ≤ c ∧ (i.bytes : Int) * c ≤ 2 ^ 48 ∧ c ≤ 2 ^ 48 ∧ z.cells.size = i.size ∧ plainV 3 z = true ∧ z.cells.toList.all one = true then
          some (.slice (some ⟨h.next, 0, none⟩) l.toNat c.toNat, h.push (.cells (azeros z.cells.toList (c.toNat * i.size)) .rw))
        else none
      | none => none
    | none => none
  | _, _, _ => none

/-- The parts of a literal laid into cells. -/
def afill (place : Nat → Option (Nat × Nat)) (cells : List Value) : List (Nat × Value) → Option (List Value)
  | [] => some cells
  | (i, v) :: rest =>
    match place i with
    | none => none
    | some (off, size) =>
      if v.cells.size ≠ size ∨ off + v.cells.size > cells.length then none
      else afill place (putCells cells off v.cells.toList) rest

def places : List Field → Option (List (Nat × Nat))
  | [] => some []
  | f :: fs =>
    match P.info? f.type, places fs with
    | some i, some r => some ((f.offset, i.size) :: r)
    | _, _ => none

def abuild (t : TypeId) (parts : List (Nat × Value)) : Option Value :=
  match zeroT P t, P.underlying t with
  | some z, some (.struct fs) =>
    if plainV 3 z = true then
      match places P fs.toList with
      | some pl => (afill (pl[·]?) z.cells.toList parts).map fun c => .agg c.toArray
      | none => none
    else none
  | some z, some (.array _ e) =>
    if plainV 3 z = true then
      match P.info? e with
      | some i => (afill (fun k => some (k * i.size, i.size)) z.cells.toList parts).map fun c => .agg c.toArray
      | none => none
    else none
  | _, _ => none

def abuildSlice (h : AHeap) (t : TypeId) (len : Nat) (parts : List (Nat × Value)) : Option (Value × AHeap) :=
  match P.underlying t with
  | some (.slice e) =>
    match P.info? e with
    | some i =>
      match i.zero with
      | some z =>
        if len * i.size ≤ 2 ^ 24 ∧ z.cells.size = i.size ∧ plainV 3 z = true then
          (afill (fun k => some (k * i.size, i.size)) (azeros z.cells.toList (len * i.size)) parts).map fun c =>
            (.slice (some ⟨h.next, 0, none⟩) len len, h.push (.cells c .rw))
        else none
      | none => none
    | none => none
  | _ => none

def intOf? : Value → Option Int
  | .int _ n => some n
  | _ => none

/-- 'x[lo:hi:mx]'. -/
def aslice (t : TypeId) (x : Value) (lo hi mx : Option (Option Int)) : Option Value :=
  match P.underlying t, x with
  | some .string, .string s =>
    match mx with
    | some _ => none
    | none =>
      match (match hi with | none => some (s.size : Int) | some v => v), (match lo with | none => some 0 | some v => v) with
      | some h, some l => if 0 ≤ l ∧ l ≤ h ∧ h ≤ s.size then some (.string (s.extract l.toNat h.toNat)) else none
      | _, _ => none
  | some (.slice e), .slice a len cap =>
    match P.info? e with
    | none => none
    | some i =>
    match (match hi with | none => some (len : Int) | some v => v), (match lo with | none => some 0 | some v => v), mx with
    | some h, some l, none =>
      match a with
      | none => if 0 ≤ l ∧ l ≤ h ∧ h ≤ 0 ∧ cap = 0 then some (.slice none 0 0) else none
      | some ad =>
        match ad.spot with
        | none => if 0 ≤ l ∧ l ≤ h ∧ h ≤ cap then some (.slice (some (if cap = l.toNat then ad else ⟨ad.block, ad.off + l.toNat * i.size, none⟩)) (h.toNat - l.toNat) (cap - l.toNat)) else none
        | some sz => if sz = i.size ∧ 0 ≤ l ∧ l ≤ h ∧ h ≤ cap then some (.slice (some ⟨ad.block, ad.off + l.toNat * i.size, some sz⟩) (h.toNat - l.toNat) (cap - l.toNat)) else none
    | some h, some l, some (some m) =>
      match hi, a with
      | some _, some ad =>
        match ad.spot with
        | none => if 0 ≤ l ∧ l ≤ h ∧ h ≤ m ∧ m ≤ cap then some (.slice (some (if m.toNat = l.toNat then ad else ⟨ad.block, ad.off + l.toNat * i.size, none⟩)) (h.toNat - l.toNat) (m.toNat - l.toNat)) else none
        | some _ => if 0 ≤ l ∧ l ≤ h ∧ h ≤ m ∧ m ≤ cap ∧ l < m then some (.slice (some ⟨ad.block, ad.off + l.toNat * i.size, none⟩) (h.toNat - l.toNat) (m.toNat - l.toNat)) else none
      | _, _ => none
    | _, _, _ => none
  | _, _ => none

def afieldAddr (s : TypeId) (x : Value) (f : Nat) : Option Value :=
  match P.underlying s, x with
  | some (.struct fs), .pointer (some a) =>
    match fs[f]? with
    | some fd => if (P.info? fd.type).isSome = true ∧ P.cellsOf fd.type ≠ 0 ∧ a.spot = none then some (.pointer (some ⟨a.block, a.off + fd.offset, none⟩)) else none
    | none => none
  | _, _ => none

def afield (s : TypeId) (x : Value) (f : Nat) : Option Value :=
  match P.underlying s, x with
  | some (.struct fs), .agg cs =>
    match fs[f]? with
    | some fd => apart P fd.type fd.offset cs
    | none => none
  | _, _ => none

def aindexAddr (t : TypeId) (x i : Value) : Option Value :=
  match P.underlying t, x, i with
  | some (.slice e), .slice (some a) len _, .int _ i =>
    match P.info? e with
    | some inf => if 0 ≤ i ∧ i < len then some (.pointer (some ⟨a.block, a.off + i.toNat * inf.size, none⟩)) else none
    | none => none
  | some (.array n e), .pointer (some a), .int _ i =>
    match P.info? e with
    | some inf => if a.spot = none ∧ 0 ≤ i ∧ i < n then some (.pointer (some ⟨a.block, a.off + i.toNat * inf.size, none⟩)) else none
    | none => none
  | _, _, _ => none

def aindex (t : TypeId) (x i : Value) : Option Value :=
  match P.underlying t, x, i with
  | some (.array n e), .agg cs, .int _ i =>
    match P.info? e with
    | some inf => if 0 ≤ i ∧ i < n then apart P e (i.toNat * inf.size) cs else none
    | none => none
  | some .string, .string s, .int _ i => if 0 ≤ i then (s[i.toNat]?).map fun b => .int .u8 b.toNat else none
  | _, _, _ => none

/-- Keys that are whole numbers. -/
def afind (k : IntKind) (n : Int) : List MapEntry → Nat → Option (Option (Nat × Value))
  | [], _ => some none
  | e :: es, i =>
    match e.key with
    | .int k' m => if k = k' then (if n = m then some (some (i, e.val)) else afind k n es (i + 1)) else none
    | _ => none

def alookup (h : AHeap) (t : TypeId) (m ix : Value) (ok : Bool) : Option Value :=
  match P.underlying t, ix with
  | some (.map kt et), .int k n =>
    match P.underlying kt with
    | some (.int _) =>
      match zeroT P et with
      | some z =>
        if plainV 3 z = true then
          match (match m with | .map none => some [] | .map (some r) => (match h.get r with | .map es _ => some es | _ => none) | _ => none) with
          | some es =>
            match afind k n es 0 with
            | some (some (_, v)) => some (if ok then .tuple #[v, .bool true] else v)
            | some none => some (if ok then .tuple #[z, .bool false] else z)
            | none => none
          | none => none
        else none
      | none => none
    | _ => none
  | _, _ => none

def amapUpdate (h : AHeap) (t : TypeId) (m ix v : Value) : Option AHeap :=
  match P.underlying t, m, ix with
  | some (.map kt _), .map (some r), .int k n =>
    match P.underlying kt with
    | some (.int _) =>
      match h.get r with
      | .map es clock =>
        match afind k n es 0 with
        | some (some (i, _)) => some (h.set r (.map (es.modify i fun e => { e with key := .int k n, val := v }) clock))
        | some none => some (h.set r (.map (es ++ [{ key := .int k n, val := v, born := clock }]) (clock + 1)))
        | none => none
      | _ => none
    | _ => none
  | _, _, _ => none

/-- Keys that are pointers. -/
def afindP (h : AHeap) (kt : TypeId) (k : Value) : List MapEntry → Nat → Option (Option (Nat × Value))
  | [], _ => some none
  | e :: es, i =>
    match aequal P h kt k e.key with
    | some true => some (some (i, e.val))
    | some false => afindP h kt k es (i + 1)
    | none => none
def alookupP (h : AHeap) (t : TypeId) (m : Value) (a : Option Addr) (ok : Bool) : Option Value :=
  match P.underlying t with
  | some (.map kt et) =>
    match P.underlying kt with
    | some (.pointer _) =>
      match zeroT P et with
      | some z =>
        if plainV 3 z = true then
          match m with
          | .map (some r) =>
            match h.get r with
            | .map es _ =>
              match afindP P h kt (.pointer a) es 0 with
              | some (some (_, v)) => some (if ok then .tuple #[v, .bool true] else v)
              | some none => some (if ok then .tuple #[z, .bool false] else z)
              | none => none
            | _ => none
          | _ => none
        else none
      | none => none
    | _ => none
  | _ => none
def amapUpdateP (h : AHeap) (t : TypeId) (m : Value) (a : Option Addr) (v : Value) : Option AHeap :=
  match P.underlying t with
  | some (.map kt _) =>
    match P.underlying kt with
    | some (.pointer _) =>
      match m with
      | .map (some r) =>
        match h.get r with
        | .map es clock =>
          match afindP P h kt (.pointer a) es 0 with
          | some (some (i, _)) => some (h.set r (.map (es.modify i fun e => { e with key := .pointer a, val := v }) clock))
          | some none => some (h.set r (.map (es ++ [{ key := .pointer a, val := v, born := clock }]) (clock + 1)))
          | none => none
        | _ => none
      | _ => none
    | _ => none
  | _ => none
def alookupK (h : AHeap) (t : TypeId) (m ix : Value) (ok : Bool) : Option Value :=
  match ix with
  | .pointer a => alookupP P h t m a ok
  | _ => alookup P h t m ix ok
def amapUpdateK (h : AHeap) (t : TypeId) (m ix v : Value) : Option AHeap :=
  match ix with
  | .pointer a => amapUpdateP P h t m a v
  | _ => amapUpdate P h t m ix v

/-- 'append(s, x...)', elements of sz cells and so many bytes. -/
def aappend (h : AHeap) (sz bytes : Nat) (s : Value) (n : Nat) (news : List Value) : Option (Value × AHeap) :=
  match s with
  | .slice none 0 0 =>
    if n = 0 then some (s, h)
    else if n * bytes ≤ 140737488355328 ∧ n ≤ 4611686018427387904 then some (.slice (some ⟨h.next, 0, some sz⟩) n n, h.push (.cells news (.tail sz))) else none
  | .slice (some a) len cap =>
    match a.spot with
    | none =>
      if len + n ≤ cap then
        if n = 0 then some (s, h) else
        match h.get a.block with
        | .cells c md =>
          if md ≠ .ro ∧ a.off + (len + n) * sz ≤ c.length then
            some (.slice (some a) (len + n) cap, h.set a.block (.cells (putCells c (a.off + len * sz) news) md))
          else none
        | _ => none
      else if (len + n) * bytes ≤ 140737488355328 ∧ len + n ≤ 4611686018427387904 then
        match acells h sz len s with
        | some old => some (.slice (some ⟨h.next, 0, some sz⟩) (len + n) (len + n), h.push (.cells (old ++ news) (.tail sz)))
        | none => none
      else none
    | some sz₀ =>
      if n = 0 then some (s, h)
      else if len + n ≤ cap then
        match h.get a.block with
        | .cells c md =>
          if md ≠ .ro ∧ a.off + (len + n) * sz ≤ c.length then
            some (.slice (some a) (len + n) cap, h.set a.block (.cells (putCells c (a.off + len * sz) news) md))
          else none
        | _ => none
      else if (len + n) * bytes ≤ 140737488355328 ∧ len + n ≤ 4611686018427387904 then
        match h.get a.block with
        | .cells c (.tail sz') =>
          if sz' = sz ∧ sz₀ = sz ∧ a.off + len * sz ≤ c.length then
            some (.slice (some ⟨h.next, 0, some sz⟩) (len + n) (len + n), (h.set a.block .dead).push (.cells ((c.drop a.off).take (len * sz) ++ news) (.tail sz)))
          else none
        | _ => none
      else none
  | _ => none

def aappendB (h : AHeap) (ats : Array TypeId) (s x : Value) : Option (Value × AHeap) :=
  match ats.toList with
  | [st, xt] =>
    match P.underlying st, P.underlying xt with
    | some (.slice e), some xd =>
      match xd with
      | .int _ =>
        match s, x, P.info? e with
        | .slice none 0 0, .int .i64 n, some i =>
          match i.zero with
          | some z => if 0 < n ∧ n * i.bytes ≤ 140737488355328 ∧ n ≤ 4611686018427387904 ∧ z.cells.size = i.size ∧ plainV 3 z = true ∧ z.cells.toList.all one = true ∧ 0 < i.size ∧ 0 < i.bytes then
              some (.slice (some ⟨h.next, 0, some i.size⟩) n.toNat n.toNat, h.push (.cells (azeros z.cells.toList (n.toNat * i.size)) (.tail i.size))) else none
          | none => none
        | _, _, _ => none
      | _ =>
      match P.info? e with
      | some i =>
        match i.zero, alen x with
        | some z, some n =>
          match acells h i.size n x with
          | some news => if z.cells.size = i.size ∧ plainV 3 z = true ∧ news.all one = true ∧ z.cells.toList.all one = true ∧ 0 < i.size ∧ 0 < i.bytes then aappend h i.size i.bytes s n news else none
          | none => none
        | _, _ => none
      | none => none
    | _, _ => none
  | _ => none

def acopy (h : AHeap) (ats : Array TypeId) (d s : Value) : Option (Value × AHeap) :=
  match ats[0]?, d with
  | some dt, .slice base dlen _ =>
    match P.underlying dt with
    | some (.slice e) =>
      match P.info? e, alen s with
      | some i, some sl =>
        match acells h i.size (Nat.min sl dlen) s with
        | some cs =>
          match base with
          | none => some (.int .i64 (Nat.min sl dlen : Nat), h)
          | some a =>
            if Nat.min sl dlen * i.size = 0 then some (.int .i64 (Nat.min sl dlen : Nat), h) else
            match h.get a.block with
            | .cells c md => if md ≠ .ro ∧ a.off + cs.length ≤ c.length ∧ cs.all one = true then some (.int .i64 (Nat.min sl dlen : Nat), h.set a.block (.cells (putCells c a.off cs) md)) else none
            | _ => none
        | none => none
      | _, _ => none
    | _ => none
  | _, _ => none

def aclear (h : AHeap) (ats : Array TypeId) (x : Value) : Option (Value × AHeap) :=
  match ats[0]?, x with
  | some t, .slice base n _ =>
    match P.underlying t with
    | some (.slice e) =>
      if n = 0 then some (.tuple #[], h) else
      match base, zeroT P e with
      | some a, some z =>
        match h.get a.block with
        | .cells c md => if md ≠ .ro ∧ plainV 3 z = true ∧ z.cells.toList.all one = true ∧ a.off + n * z.cells.size ≤ c.length then some (.tuple #[], h.set a.block (.cells (putCells c a.off (azeros z.cells.toList (n * z.cells.size))) md)) else none
        | _ => none
      | _, _ => none
    | _ => none
  | _, _ => none

/-- 'delete(m, k)', keys that are numbers. -/
def adelete (h : AHeap) (ats : Array TypeId) (m ix : Value) : Option (Value × AHeap) :=
  match ats[0]?, m, ix with
  | some t, .map (some r), .int k n =>
    match P.underlying t with
    | some (.map kt _) =>
      match P.underlying kt with
      | some (.int _) =>
        match h.get r with
        | .map es clock =>
          match afind k n es 0 with
          | some (some (i, _)) => some (.tuple #[], h.set r (.map (es.eraseIdx i) clock))
          | some none => some (.tuple #[], h.set r (.map es clock))
          | none => none
        | _ => none
      | _ => none
    | _ => none
  | _, _, _ => none

def minmax (mx : Bool) : Value → Value → Option Value
  | .int k x, .int k' y => if k = k' then some (.int k (if mx then (if y > x then y else x) else (if y < x then y else x))) else none
  | _, _ => none

def aminmax (mx : Bool) : List Value → Option Value
  | [] => none
  | .int k x :: rest => rest.foldlM (minmax mx) (.int k x)
  | _ => none

def alenB (h : AHeap) (ats : Array TypeId) (x : Value) : Option Value :=
  match ats[0]? with
  | some t =>
    match P.underlying t, x with
    | some .string, .string s => some (.int .i64 s.size)
    | some (.slice _), .slice _ n _ => some (.int .i64 n)
    | some (.array n _), _ => some (.int .i64 n)
    | some (.map _ _), .map none => some (.int .i64 0)
    | some (.map _ _), .map (some r) =>
      match h.get r with
      | .map es _ => some (.int .i64 es.length)
      | _ => none
    | _, _ => none
  | none => none

def acapB (ats : Array TypeId) (x : Value) : Option Value :=
  match ats[0]? with
  | some t =>
    match P.underlying t, x with
    | some (.slice _), .slice none 0 0 => some (.int .i64 0)
    | some (.slice _), .slice (some a) _ c => match a.spot with | none => some (.int .i64 c) | some _ => none
    | _, _ => none
  | none => none

def abuiltin (h : AHeap) (b : Builtin) (ats : Array TypeId) (args : Array Value) : Option (Value × AHeap) :=
  match b, args.toList with
  | .len, [x] => (alenB P h ats x).map (·, h)
  | .cap, [x] => (acapB P ats x).map (·, h)
  | .append, [s, x] => aappendB P h ats s x
  | .copy, [d, s] => acopy P h ats d s
  | .clear, [x] => aclear P h ats x
  | .delete, [m, k] => adelete P h ats m k
  | .min, l => (aminmax false l).map (·, h)
  | .max, l => (aminmax true l).map (·, h)
  | _, _ => none

/-- What an operation yields and leaves, all operations but the calls of Go functions. -/
def aop (ρ : Operand → Value) (h : AHeap) : Op → Option (Value × AHeap)
  | .move x | .assign x => some (ρ x, h)
  | .pick c a b => match ρ c with | .bool t => some (if t then ρ a else ρ b, h) | _ => none
  | .alloc t => match zeroT P t with | some z => if plainV 3 z = true then some (.pointer (some ⟨h.next, 0, none⟩), h.push (.cells z.cells.toList .rw)) else none | none => none
  | .box _ x => some (.pointer (some ⟨h.next, 0, none⟩), h.push (.cells (ρ x).cells.toList .rw))
  | .build t parts => (abuild P t (parts.toList.map fun p => (p.1, ρ p.2))).map (·, h)
  | .buildSlice t len parts => abuildSlice P h t len (parts.toList.map fun p => (p.1, ρ p.2))
  | .load t x => match ρ x with | .pointer (some ⟨id, off, none⟩) => (aload P t h id off).map (·, h) | _ => none
  | .store t x v => match ρ x with | .pointer (some ⟨id, off, none⟩) => (astore P t (ρ v) h id off).map (undef, ·) | _ => none
  | .nilCheck x => match ρ x with | .pointer (some a) => some (.pointer (some a), h) | _ => none
  | .binOp op t x y _ => (abin P h op t (ρ x) (ρ y)).map (·, h)
  | .unOp op _ x => (aun op (ρ x)).map (·, h)
  | .convert s d x => aconv P h s d (ρ x)
  | .makeFunc fn first cap => match fn with | .func f => some (.func (.func f) (first.map ρ) (cap.map ρ), h) | _ => none
  | .makeInterface t x => match P.underlying t with | some (.interface _) => none | some _ => some (.iface t (ρ x), h) | none => none
  | .makeMap t r => match r with | none => if (P.underlying t).isSome = true then some (.map (some h.next), h.push (.map [] 0)) else none | some _ => none
  | .makeSlice t l c => amake P h t (ρ l) (ρ c)
  | .slice t x lo hi mx => (aslice P t (ρ x) (lo.map fun v => intOf? (ρ v)) (hi.map fun v => intOf? (ρ v)) (mx.map fun v => intOf? (ρ v))).map (·, h)
  | .fieldAddr s x f => (afieldAddr P s (ρ x) f).map (·, h)
  | .field s x f => (afield P s (ρ x) f).map (·, h)
  | .indexAddr t x i => (aindexAddr P t (ρ x) (ρ i)).map (·, h)
  | .index t x i => (aindex P t (ρ x) (ρ i)).map (·, h)
  | .lookup t m i ok => (alookupK P h t (ρ m) (ρ i) ok).map (·, h)
  | .mapUpdate t m k v => (amapUpdateK P h t (ρ m) (ρ k) (ρ v)).map (undef, ·)
  | .extract x i => match ρ x with | .tuple vs => (vs[i]?).map (·, h) | _ => none
  | .call c => match c.callee with | .builtin b => abuiltin P h b c.argTypes (c.args.map ρ) | _ => none
  | _ => none

/-- The number under which a call of a loop's body goes. -/
def yid (l : Nat) : FuncId := 18446744073709551616 + l
theorem yid_lt {l : Nat} (h : yid l < 18446744073709551616) : False := absurd h (Nat.not_lt.2 (Nat.le_add_right _ _))
theorem yid_inj {l l' : Nat} (h : yid l' = yid l) : l' = l := Nat.add_left_cancel h

/-- A call of a Go function: which one, and its arguments. -/
def acall? (ρ : Operand → Value) : Op → Option (Option (FuncId × Array Value))
  | .call c =>
    match c.callee with
    | .value f =>
      match ρ f with
      | .func (.func g) first captured => if g < 18446744073709551616 then some (some (g, first ++ c.args.map ρ ++ captured)) else some none
      | .func (.yield l) first _ => some (some (yid l, first ++ c.args.map ρ))
      | _ => some none
    | .invoke _ _ => some none
    | .builtin _ => none
  | _ => none

end

/-- The object to which a pointer points. -/
def vblk : Value → Option Nat
  | .pointer (some a) => some a.block
  | _ => none
/-- Where a slot is written. -/
def defs (ops : Array Oper) (t : Tmp) : List Nat := (List.range ops.size).filter fun k => (ops[k]?).bind (·.dst) == some t
/-- The slot from which an address comes, that the region does not write. -/
def rootOf (ops : Array Oper) : Nat → Nat → Tmp → Option Tmp
  | 0, _, _ => none
  | n + 1, r, t =>
    match defs ops t with
    | [] => some t
    | [d] =>
      if d < r then
        match ops[d]? with
        | some o =>
          match o.op with
          | .fieldAddr _ (.tmp u) _ => rootOf ops n d u
          | .move (.tmp u) => rootOf ops n d u
          | .nilCheck (.tmp u) => rootOf ops n d u
          | _ => none
        | none => none
      else none
    | _ => none
/-- A load, and the slot from which its address comes. -/
def lookBase (ops : Array Oper) (k : Nat) : Option Tmp :=
  match ops[k]? with
  | some o =>
    match o.op with
    | .load _ (.tmp t) => rootOf ops 4 k t
    | _ => none
  | none => none
/-- A store, and the slot from which its address comes. -/
def storeBase (ops : Array Oper) (k : Nat) : Option Tmp :=
  match ops[k]? with
  | some o =>
    match o.op with
    | .store _ (.tmp t) _ => rootOf ops 4 k t
    | _ => none
  | none => none
/-- More behind a slice that the region has made. -/
def freshApp (ops : Array Oper) (k : Nat) : Bool :=
  match ops[k]? with
  | some o =>
    match o.op with
    | .call c =>
      match c.callee, (c.args[0]? : Option Operand) with
      | .builtin .append, some (.tmp t) =>
        match defs ops t with
        | [d] =>
          decide (d < k) && (match ops[d]? with
          | some o' =>
            match o'.op with
            | .call c' => (match c'.callee with | .builtin .append => true | _ => false) && (match (c'.args[0]? : Option Operand) with | some (.const (.slice none 0 0)) => true | _ => false)
            | _ => false
          | none => false)
        | _ => false
      | _, _ => false
    | _ => false
  | none => false
/-- What is loaded stands apart from what is stored. -/
def apartS (ops : Array Oper) (ρ : Nat → Value) : Prop := ∀ k t i s, lookBase ops k = some t → storeBase ops i = some s → ∀ x, vblk (ρ t) = some x → vblk (ρ s) ≠ some x
/-- What is loaded in the region stands as it stood. -/
def keepsA (ops : Array Oper) (ρ : Nat → Value) (h h' : AHeap) : Prop := ∀ k t, lookBase ops k = some t → ∀ x, vblk (ρ t) = some x → h'.get x = h.get x

/-- What calls come to. -/
abbrev CallRel := FuncId → Array Value → AHeap → Value → AHeap → Prop

/-- The kinds of operations: pure (of the slots alone); reads, or makes; writes; a call. -/
inductive Kind where
  | pure | read | write | call
  deriving DecidableEq

/-- append to nil: it makes, and turns nothing. -/
def appNil (c : Call) : Bool := match (c.args[0]? : Option Operand) with | some (.const (.slice none 0 0)) => true | _ => false

def kindOf : Op → Kind
  | .move _ | .assign _ | .pick .. | .build .. | .nilCheck _ | .fieldAddr .. | .field .. | .indexAddr .. | .index .. | .slice .. | .unOp .. | .makeInterface .. | .makeFunc .. | .extract .. => .pure
  | .binOp .eql .. | .binOp .neq .. => .read
  | .binOp .. => .pure
  | .convert s d _ => if s = d then .write else .read
  | .load .. | .alloc _ | .box .. | .buildSlice .. | .makeMap .. | .makeSlice .. | .lookup .. => .read
  | .call c =>
    match c.callee with
    | .builtin .len => .read
    | .builtin .cap | .builtin .min | .builtin .max => .pure
    | .builtin .append => if appNil c then .read else .write
    | .builtin _ => .write
    | _ => .call
  | _ => .write

def opKind (ops : Array Oper) (i : Nat) : Kind := ((ops[i]?).map fun o => kindOf o.op).getD .write

/-- Does the lower one stand ahead of the higher one in every order? -/
def ordered (b : Array Nat) (j k : Nat) : Bool := (b.getD (max j k) 0).testBit (min j k)

/-- Every other operation that is not pure stands ahead of it or behind it. -/
def isolated (ops : Array Oper) (b : Array Nat) (i : Nat) : Bool :=
  (List.range ops.size).all fun k => k == i || opKind ops k == .pure || ordered b i k

def chkOf (ops : Array Oper) (b : Array Nat) (i : Nat) : Bool := opKind ops i == .call && !isolated ops b i

/-- A call that stands beside loads alone. -/
def hardOf (ops : Array Oper) (b : Array Nat) (i : Nat) : Bool := opKind ops i == .call && (List.range ops.size).all fun k => k == i || opKind ops k == .pure || (lookBase ops k).isSome || ordered b i k

/-- The operations of a region, in the order of the text. chk: the calls that must leave what was there as it was. -/
def wpA (P : Program) (C : CallRel) (ops : Array Oper) (chk : Nat → Bool) (K : Act → AHeap → Prop) : Nat → List Oper → Act → AHeap → Prop
  | _, [], a, h => K a h
  | i, o :: rest, a, h =>
    if Region.wanted o (yielded ops a.tmps) = true then
      match acall? a.eval o.op with
      | some (some (g, args)) => ∃ v h', C g args h v h' ∧ (chk i = true → h.quiet h' ∨ (hardOf ops (Region.before ops) i = true ∧ keepsA ops (fun t => a.tmps.getD t undef) h h')) ∧ wpA P C ops chk K (i + 1) rest (a.put o.dst v) h'
      | some none => False
      | none =>
        match aop P a.eval h o.op with
        | some (v, h') => wpA P C ops chk K (i + 1) rest (a.put o.dst v) h'
        | none => False
    else wpA P C ops chk K (i + 1) rest (a.put o.dst undef) h

/-- May the region be done in the order of the text? -/
def drawOK (ops : Array Oper) (b : Array Nat) : Bool :=
  Region.noSelect ops &&
  (List.range ops.size).all fun k => ((ops[k]?).map fun o => o.after.all fun e => !Region.binds .any e || decide (e.on < k)).getD false && (List.range k).all fun j =>
    ordered b j k ||
      (match ops[j]?, ops[k]? with
       | some x, some y => x.apart ops y
       | _, _ => false) &&
      (opKind ops j != .write || opKind ops k == .pure) && (opKind ops k != .write || opKind ops j == .pure) &&
      (opKind ops j != .call || opKind ops k == .pure || chkOf ops b j) && (opKind ops k != .call || opKind ops j == .pure || chkOf ops b k)

/-- The same, where stores stand beside loads of what is apart from them. -/
def drawOKH (ops : Array Oper) (b : Array Nat) : Bool :=
  Region.noSelect ops &&
  (List.range ops.size).all fun k => ((ops[k]?).map fun o => o.after.all fun e => !Region.binds .any e || decide (e.on < k)).getD false && (List.range k).all fun j =>
    ordered b j k ||
      (match ops[j]?, ops[k]? with
       | some x, some y => x.apart ops y
       | _, _ => false) &&
      (opKind ops j != .write || opKind ops k == .pure || (((storeBase ops j).isSome || freshApp ops j) && (lookBase ops k).isSome)) && (opKind ops k != .write || opKind ops j == .pure || (((storeBase ops k).isSome || freshApp ops k) && (lookBase ops j).isSome)) &&
      (opKind ops j != .call || opKind ops k == .pure || chkOf ops b j) && (opKind ops k != .call || opKind ops j == .pure || chkOf ops b k)
/-- The order of the text will do, of what stands in the slots. -/
def okDraw (ops : Array Oper) (ρ : Nat → Value) : Prop := drawOK ops (Region.before ops) = true ∨ (drawOKH ops (Region.before ops) = true ∧ apartS ops ρ)

/-- No variable of the package, no address among the constants. -/
def okOpd : Operand → Bool
  | .tmp _ => true
  | .const v => plainV 3 v
  | .func _ => true
  | .global _ => false

def okOps (ops : Array Oper) : Bool := ops.toList.all fun o => o.op.operands.toList.all okOpd

def notDefer (o : Oper) : Bool := match o.op with | .defer _ => false | _ => true

def okCode : Code → Bool
  | .region _ ops _ => ops.toList.all notDefer && okOps ops
  | .seq x y => okCode x && okCode y
  | .cond c x y => okOpd c && okCode x && okCode y
  | .block _ c => okCode c
  | .loop c => okCode c
  | _ => true

/-- How a piece of code ends. -/
inductive AExit where
  | normal | exit (id : Nat) | ret

def AExit.toExit : AExit → Exit
  | .normal => .normal
  | .exit id => .exit id
  | .ret => .ret

def roundsA (W : (AExit → Act → AHeap → Prop) → Act → AHeap → Prop) (Q : AExit → Act → AHeap → Prop) : Nat → Act → AHeap → Prop
  | 0, _, _ => False
  | n + 1, a, h => W (fun e a h => match e with | .normal => roundsA W Q n a h | e => Q e a h) a h

end Go.AM
