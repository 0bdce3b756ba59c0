/- The abstract machine's operations. -/
import Derived.Test.YtjdemlagmamlbaaM2
import GoSem.Dispatch
namespace Go.Proofs.Ytjdemlagmamlbaa

def scEq : Sc → AV → AV → Option Bool
  | .int, .int k a, .int k' b => if k = k' then some (a == b) else none
  | .bool, .bool a, .bool b => some (a == b)
  | .str, .str a, .str b => some (a == b)
  | _, _, _ => none

def eqFlat : List Sc → List AV → List AV → Option Bool
  | [], [], [] => some true
  | s :: ss, a :: as, b :: bs => match scEq s a b with
    | some true => eqFlat ss as bs
    | r => r
  | _, _, _ => none

/-- is a value of a kind that is compared with nil alone nil? -/
def nilOf : EqK → AV → Option Bool
  | .ptr, .nilptr => some true
  | .ptr, .ptr _ _ => some false
  | .slice, .nilsl => some true
  | .slice, .esl => some false
  | .slice, .sl _ _ _ _ => some false
  | .slice, .ssl _ _ _ _ => some false
  | .map, .nilmap => some true
  | .map, .map _ => some false
  | .func, .nilfunc => some true
  | .func, .func _ _ _ => some false
  | _, _ => none

def nilEq : Option Bool → Option Bool → Option Bool
  | some true, some y => some y
  | some false, some true => some false
  | _, _ => none

def avEq : EqK → AV → AV → Option Bool
  | .scal s, a, b => scEq s a b
  | .flat l, .agg a, .agg b => eqFlat l a b
  | .flat _, _, _ => none
  | .bytes len, .bytes m x, .bytes n y => if m = len ∧ n = len then some (x % 2 ^ (8 * len) == y % 2 ^ (8 * len)) else none
  | .bytes _, _, _ => none
  | k, a, b => nilEq (nilOf k a) (nilOf k b)

/-- packed bytes, as a string -/
def packStr (l n : Nat) : ByteArray := ⟨((List.range l).map fun i => UInt8.ofNat (byteAt n i)).toArray⟩

def fills (parts : List (Nat × Nat)) (args : List AV) (d : Dat) : Option Dat :=
  match parts, args with
  | [], [] => some d
  | (off, size) :: ps, a :: as => if a.dat.len = size ∧ 0 < size then (d.put off a.dat).bind (fills ps as) else none
  | _, _ => none

def Dat.agg : Dat → AV
  | .vals cs => .agg cs
  | .bytes l n => .bytes l n

def AV.isAgg : AV → Bool
  | .agg _ => true
  | .bytes _ _ => true
  | _ => false

/-- a part of an aggregate -/
def Dat.part (d : Dat) (off size : Nat) (agg : Bool) : Option AV := if agg then d.sub off size else d.get off

/-- a new row -/
def newRow' (h : AHeap) (elem es : Nat) (soft : Bool) (d : Dat) : Option AHeap :=
  if 0 < es then some (h.new (.row elem es soft false d)) else none

def binInt (op : BinOp) (k : IntKind) (a : Int) (k' : IntKind) (b : Int) : Option AV :=
  match op with
  | .shl => if b < 0 then none else some (.int k (k.wrap (a * 2 ^ (Nat.min b.toNat k.bits))))
  | .shr => if b < 0 then none else some (.int k (a.fdiv (2 ^ (Nat.min b.toNat k.bits))))
  | op => if k ≠ k' then none else match op with
    | .add => some (.int k (k.wrap (a + b)))
    | .sub => some (.int k (k.wrap (a - b)))
    | .mul => some (.int k (k.wrap (a * b)))
    | .quo => if b = 0 then none else some (.int k (k.wrap (a.tdiv b)))
    | .rem => if b = 0 then none else some (.int k (a.tmod b))
    | .and => some (.int k (k.wrap (BitVec.ofInt k.bits a &&& BitVec.ofInt k.bits b).toNat))
    | .or => some (.int k (k.wrap (BitVec.ofInt k.bits a ||| BitVec.ofInt k.bits b).toNat))
    | .xor => some (.int k (k.wrap (BitVec.ofInt k.bits a ^^^ BitVec.ofInt k.bits b).toNat))
    | .andNot => some (.int k (k.wrap (BitVec.ofInt k.bits a &&& ~~~(BitVec.ofInt k.bits b)).toNat))
    | .eql => some (.bool (a == b))
    | .neq => some (.bool (a != b))
    | .lss => some (.bool (a < b))
    | .leq => some (.bool (a ≤ b))
    | .gtr => some (.bool (a > b))
    | .geq => some (.bool (a ≥ b))
    | _ => none

/-- Bounds of a slice expression: low, high, max out of the operands that are there. -/
def bounds3 (len cap : Nat) (lo hi mx : Bool) (args : List AV) : Option (Nat × Nat × Nat) :=
  match lo, hi, mx with
  | false, false, false => match args with
    | [] => some (0, len, cap)
    | _ => none
  | true, false, false => match args with
    | [.int _ l] => if 0 ≤ l ∧ l ≤ len then some (l.toNat, len, cap) else none
    | _ => none
  | false, true, false => match args with
    | [.int _ r] => if 0 ≤ r ∧ r ≤ cap then some (0, r.toNat, cap) else none
    | _ => none
  | true, true, false => match args with
    | [.int _ l, .int _ r] => if 0 ≤ l ∧ l ≤ r ∧ r ≤ cap then some (l.toNat, r.toNat, cap) else none
    | _ => none
  | false, true, true => match args with
    | [.int _ r, .int _ m] => if 0 ≤ r ∧ r ≤ m ∧ m ≤ cap then some (0, r.toNat, m.toNat) else none
    | _ => none
  | true, true, true => match args with
    | [.int _ l, .int _ r, .int _ m] => if 0 ≤ l ∧ l ≤ r ∧ r ≤ m ∧ m ≤ cap then some (l.toNat, r.toNat, m.toNat) else none
    | _ => none
  | _, _, _ => none

/-- the cells of a slice's elements -/
def sliceDat (h : AHeap) (es : Nat) (v : AV) : Option Dat :=
  match v with
  | .nilsl => some (.vals [])
  | .esl => some (.vals [])
  | .sl id off len _ => match h.get id with
    | some (.row _ _ _ _ d) => d.take off (len * es)
    | _ => none
  | .ssl id idx es' len => match h.get id with
    | some (.row _ _ _ _ d) => if es' = es then d.take (idx * es) (len * es) else none
    | _ => none
  | _ => none

def sliceLen : AV → Option Nat
  | .nilsl => some 0
  | .esl => some 0
  | .sl _ _ len _ => some len
  | .ssl _ _ _ len => some len
  | _ => none

def findE (k : EqK) (key : AV) : List (AV × AV × Nat) → Option (Option Nat)
  | [] => some none
  | (x, _, _) :: es => match avEq k key x with
    | some true => some (some 0)
    | some false => (findE k key es).map (Option.map (· + 1))
    | none => none

/-- append's source: its cells and its length -/
def appendTo (h : AHeap) (elem es bytes : Nat) (s : AV) (new : Dat) (k : Nat) : Option (AV × AHeap) :=
  if k = 0 then (match s with
    | .sl _ _ len cap => if len ≤ cap then some (s, h) else none
    | .ssl _ _ _ _ => some (s, h)
    | .nilsl => some (s, h)
    | .esl => some (s, h)
    | _ => none)
  else match s with
  | .nilsl =>
    if k * bytes ≤ 2 ^ 40 ∧ k ≤ 2 ^ 40 ∧ new.len = k * es then (newRow' h elem es true new).map fun h' => (.ssl h.next 0 es k, h') else none
  | .sl id off len cap =>
    match h.get id with
    | some (.row elem' es' soft ro d) =>
      if len + k ≤ cap then
        if ro then none else (d.put (off + len * es) new).map fun d' => (.sl id off (len + k) cap, h.put id (.row elem' es' soft ro d'))
      else if (len + k) * bytes ≤ 2 ^ 40 ∧ len + k ≤ 2 ^ 40 ∧ new.len = k * es then
        (d.take off (len * es)).bind fun old => (old.app new).bind fun all =>
          (newRow' h elem es true all).map fun h' => (.ssl h.next 0 es (len + k), h')
      else none
    | _ => none
  | .ssl id idx es' len =>
    match h.get id with
    | some (.row elem' es'' true false d) =>
      if es' = es ∧ es'' = es ∧ elem' = elem ∧ 0 < es then
        if (idx + len + k) * es ≤ d.len then
          (d.put ((idx + len) * es) new).map fun d' => (.ssl id idx es (len + k), h.put id (.row elem' es'' true false d'))
        else if (idx + len) * es = d.len ∧ (len + k) * bytes ≤ 2 ^ 40 ∧ len + k ≤ 2 ^ 40 ∧ new.len = k * es then
          (d.take (idx * es) (len * es)).bind fun old => (old.app new).bind fun all =>
            (newRow' (h.kill id) elem es true all).map fun h' => (.ssl h.next 0 es (len + k), h')
        else none
      else none
    | _ => none
  | _ => none

def aop (o : AOp) (args : List AV) (h : AHeap) : Option (AV × AHeap) :=
  match o with
  | .mv => match args with
    | [x] => some (x, h)
    | _ => none
  | .pick => match args with
    | [.bool c, a, b] => some (if c then a else b, h)
    | _ => none
  | .alloc elem es z => match args with
    | [] => if z.len = es then (newRow' h elem es false z).map fun h' => (.ptr h.next 0, h') else none
    | _ => none
  | .box elem es => match args with
    | [x] => if x.dat.len = es ∧ 0 < es then (newRow' h elem es false x.dat).map fun h' => (.ptr h.next 0, h') else none
    | _ => none
  | .build z parts => (fills parts args z.dat).map fun d => (d.agg, h)
  | .bslice elem es len z parts =>
    (fills (parts.map fun i => (i * es, es)) args (z.rep len)).bind fun d =>
      if d.len = len * es then (newRow' h elem es false d).map fun h' => (.sl h.next 0 len len, h') else none
  | .load1 => match args with
    | [.ptr id off] => match h.get id with
      | some (.row _ _ _ _ d) => (d.get off).map (·, h)
      | _ => none
    | _ => none
  | .loadn n => match args with
    | [.ptr id off] => match h.get id with
      | some (.row _ _ _ _ d) => (d.sub off n).map (·, h)
      | _ => none
    | _ => none
  | .store n => match args with
    | [.ptr id off, v] => match h.get id with
      | some (.row e es soft false d) => if v.dat.len = n ∧ 0 < n then (d.put off v.dat).map fun d' => (.tuple [], h.put id (.row e es soft false d')) else none
      | _ => none
    | _ => none
  | .nilCheck => match args with
    | [x] => match x with
      | .ptr _ _ => some (x, h)
      | .func _ _ _ => some (x, h)
      | _ => none
    | _ => none
  | .bin op => match args with
    | [.int k a, .int k' b] => (binInt op k a k' b).map (·, h)
    | _ => none
  | .eqv neg k => match args with
    | [a, b] => (avEq k a b).map fun r => (.bool (if neg then !r else r), h)
    | _ => none
  | .un u => match u, args with
    | .neg, [.int k n] => some (.int k (k.wrap (0 - n)), h)
    | .not, [.bool b] => some (.bool !b, h)
    | _, _ => none
  | .conv k => match args with
    | [.int _ n] => some (.int k (k.wrap n), h)
    | _ => none
  | .tostr => match args with
    | [x] => match sliceDat h 1 x with
      | some (.bytes l n) => some (.str (packStr l n), h)
      | some (.vals []) => some (.str ByteArray.empty, h)
      | _ => none
    | _ => none
  | .sl2arr n => match args with
    | [.sl id off len _] => if n ≤ len then some (.ptr id off, h) else none
    | [.ssl id idx es len] => if n ≤ len then some (.ptr id (idx * es), h) else none
    | _ => none
  | .mkfunc f nf => some (.func f (args.take nf) (args.drop nf), h)
  | .mkmap => some (.map h.next, h.new (.map [] 0))
  | .mkslice elem es bytes z => match args with
    | [.int _ l, .int _ c] =>
      if 0 ≤ l ∧ l ≤ c ∧ c * bytes ≤ 2 ^ 40 ∧ c ≤ 2 ^ 40 ∧ z.len = es ∧ (z.rep c.toNat).len = c.toNat * es then
        (newRow' h elem es false (z.rep c.toNat)).map fun h' => (.sl h.next 0 l.toNat c.toNat, h')
      else none
    | _ => none
  | .slice es lo hi mx => match args with
    | x :: args => match x with
      | .nilsl => (bounds3 0 0 lo hi mx args).map fun _ => (.nilsl, h)
      | .esl => if mx then none else (bounds3 0 0 lo hi mx args).map fun _ => (.esl, h)
      | .sl id off len cap => (bounds3 len cap lo hi mx args).map fun (l, r, m) => (.sl id (if m = l then off else off + l * es) (r - l) (m - l), h)
      | .ssl id idx es' len =>
        if es' = es then (match mx with
          | false => (bounds3 len len lo hi false args).bind fun (l, r, _) => if l < len ∨ l = 0 then some (.ssl id (idx + l) es (r - l), h) else some (.esl, h)
          | true => (bounds3 len len lo hi true args).map fun (l, r, m) => (.sl id (if m = l then idx * es else (idx + l) * es) (r - l) (m - l), h))
        else none
      | _ => none
    | _ => none
  | .slicea n es lo hi mx => match args with
    | .ptr id off :: args =>
      (bounds3 n n lo hi mx args).map fun (l, r, m) => (.sl id (if m = l then off else off + l * es) (r - l) (m - l), h)
    | _ => none
  | .fieldAddr o => match args with
    | [.ptr id off] => some (.ptr id (off + o), h)
    | _ => none
  | .field off size agg => match args with
    | [x] => if x.isAgg then (x.dat.part off size agg).map (·, h) else none
    | _ => none
  | .indexa len es => match args with
    | [.ptr id off, .int _ i] => if 0 ≤ i ∧ i < len then some (.ptr id (off + i.toNat * es), h) else none
    | _ => none
  | .indexs es => match args with
    | [.sl id off len _, .int _ i] => if 0 ≤ i ∧ i < len then some (.ptr id (off + i.toNat * es), h) else none
    | [.ssl id idx es' len, .int _ i] => if 0 ≤ i ∧ i < len ∧ es' = es then some (.ptr id ((idx + i.toNat) * es), h) else none
    | _ => none
  | .indexv len es agg => match args with
    | [x, .int _ i] =>
      if 0 ≤ i ∧ i < len ∧ x.isAgg then (x.dat.part (i.toNat * es) es agg).map (·, h) else none
    | _ => none
  | .lookup k z ok => match args with
    | [m, key] => if (avEq k key key).isSome = false then none else
      let back (v : AV) (is : Bool) : AV := if ok then .tuple [v, .bool is] else v
      match m with
      | .nilmap => some (back z false, h)
      | .map id => match h.get id with
        | some (.map es _) => match findE k key es with
          | some (some i) => (es[i]?).map fun e => (back e.2.1 true, h)
          | some none => some (back z false, h)
          | none => none
        | _ => none
      | _ => none
    | _ => none
  | .mapput k => match args with
    | [.map id, key, v] => if (avEq k key key).isSome = false then none else match h.get id with
      | some (.map es clock) => (match findE k key es with
        | some (some i) => some (.tuple [], h.put id (.map (es.modify i fun e => (key, v, e.2.2)) clock))
        | some none => some (.tuple [], h.put id (.map (es ++ [(key, v, clock)]) (clock + 1)))
        | none => none)
      | _ => none
    | _ => none
  | .extract i => match args with
    | [.tuple vs] => (vs[i]?).map (·, h)
    | _ => none
  | .lens => match args with
    | [x] => (sliceLen x).map fun n => (.int .i64 n, h)
    | _ => none
  | .lenc n => match args with
    | [_] => some (.int .i64 n, h)
    | _ => none
  | .lenstr => match args with
    | [.str s] => some (.int .i64 s.size, h)
    | _ => none
  | .lenm => match args with
    | [.nilmap] => some (.int .i64 0, h)
    | [.map id] => match h.get id with
      | some (.map es _) => some (.int .i64 es.length, h)
      | _ => none
    | _ => none
  | .append elem es bytes _ => match args with
    | [s, x] => match sliceLen x, sliceDat h es x with
      | some k, some new => appendTo h elem es bytes s new k
      | _, _ => none
    | _ => none
  | .appendz elem es bytes z => match args with
    | [s, .int _ n] =>
      if 0 ≤ n ∧ n * bytes ≤ 2 ^ 40 ∧ n ≤ 2 ^ 40 ∧ (z.rep n.toNat).len = n.toNat * es then appendTo h elem es bytes s (z.rep n.toNat) n.toNat else none
    | _ => none
  | .copy es => match args with
    | [a, b] => match sliceLen a, sliceLen b with
      | some m, some n => if Nat.min n m = 0 then some (.int .i64 0, h) else
        (match sliceDat h es b, a with
        | some d, .sl id off _ _ => (d.take 0 (Nat.min n m * es)).bind fun src => match h.get id with
          | some (.row e es' soft false t) => (t.put off src).map fun t' => (.int .i64 (Nat.min n m), h.put id (.row e es' soft false t'))
          | _ => none
        | some d, .ssl id idx es'' _ => (d.take 0 (Nat.min n m * es)).bind fun src => match h.get id with
          | some (.row e es' soft false t) => if es'' = es then (t.put (idx * es) src).map fun t' => (.int .i64 (Nat.min n m), h.put id (.row e es' soft false t')) else none
          | _ => none
        | _, _ => none)
      | _, _ => none
    | _ => none
  | .delete k => match args with
    | [m, key] => if (avEq k key key).isSome = false then none else match m with
      | .nilmap => some (.tuple [], h)
      | .map id => match h.get id with
        | some (.map es clock) => (match findE k key es with
          | some (some i) => some (.tuple [], h.put id (.map (es.eraseIdx i) clock))
          | some none => some (.tuple [], h)
          | none => none)
        | _ => none
      | _ => none
    | _ => none
  | .cap => match args with
    | [.nilsl] => some (.int .i64 0, h)
    | [.sl _ _ _ cap] => some (.int .i64 cap, h)
    | _ => none
  | .clear es z => match args with
    | [.nilsl] => some (.tuple [], h)
    | [.esl] => some (.tuple [], h)
    | [.sl id off len _] => if len = 0 then some (.tuple [], h) else match h.get id with
      | some (.row e es' soft false t) => if (z.rep len).len = len * es then (t.put off (z.rep len)).map fun t' => (.tuple [], h.put id (.row e es' soft false t')) else none
      | _ => none
    | [.ssl id idx es'' len] => if len = 0 then some (.tuple [], h) else match h.get id with
      | some (.row e es' soft false t) => if es'' = es ∧ (z.rep len).len = len * es then (t.put (idx * es) (z.rep len)).map fun t' => (.tuple [], h.put id (.row e es' soft false t')) else none
      | _ => none
    | _ => none
  | .range => match args with
    | [.nilmap] => some (.ptr h.next 0, h.new (.iter none 0 [] 0))
    | [.map id] => match h.get id with
      | some (.map _ clock) => some (.ptr h.next 0, h.new (.iter (some id) clock [] clock))
      | _ => none
    | _ => none
  | .entry => match args with
    | [.ptr id 0] => match h.get id with
      | some (.iter (some m) _ seen stepped) => match h.get m with
        | some (.map es clock) => match seen.getLast? with
          | some stamp => if clock = stepped then (es.find? fun e => e.2.2 == stamp).map fun e => (.tuple [e.1, e.2.1], h) else none
          | none => none
        | _ => none
      | _ => none
    | _ => none
  | .min => match args with
    | [.int k a, .int _ b] => some (.int k (if b < a then b else a), h)
    | _ => none
  | .max => match args with
    | [.int k a, .int _ b] => some (.int k (if b > a then b else a), h)
    | _ => none
  | _ => none

/-- the next step of a loop over a map, whatever the order -/
def nextW (args : List AV) (h : AHeap) (Q : AV → AHeap → Prop) : Prop :=
  match args with
  | [.ptr id 0] => match h.get id with
    | some (.iter none _ _ _) => Q (.tuple [.bool false]) h
    | some (.iter (some m) since seen last) => match h.get m with
      | some (.map es clock) => (seen = [] ∨ es = [] ∨ ∃ e, e ∈ es ∧ e.2.2 < last) ∧
        (∀ e, e ∈ es → e.2.2 ∉ seen → Q (.tuple [.bool true, e.1, e.2.1]) (h.put id (.iter (some m) since (seen ++ [e.2.2]) clock))) ∧
        ((∀ e, e ∈ es → e.2.2 < since → e.2.2 ∈ seen) → Q (.tuple [.bool false]) h)
      | _ => False
    | _ => False
  | _ => False

end Go.Proofs.Ytjdemlagmamlbaa
