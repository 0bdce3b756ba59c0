/- The abstract machine: values, rows, the abstract heap (a trie), bytes packed in a number. Own text; it speaks of no program. -/
import Derived.Control
import Derived.Calls
import Derived.KernelRfl
import Derived.Laws.Sem
namespace Go.Proofs.Ytjdemlagmamlbaa

/-- A value of the abstract machine. 'id' is the number of an abstract object. -/
inductive AV where
  | bool (b : Bool)
  | int (k : IntKind) (n : Int)
  | str (s : ByteArray)
  | ptr (id off : Nat)
  | nilptr
  | sl (id off len cap : Nat)
  | ssl (id idx es len : Nat)
  | nilsl
  | esl
  | map (id : Nat)
  | nilmap
  | func (f : Nat) (first captured : List AV)
  | yield (l : Nat)
  | nilfunc
  | agg (cs : List AV)
  | bytes (len n : Nat)
  | tuple (vs : List AV)
  | junk

/-- Where an abstract object lies: its block, its first cell's offset, how many elements the block has room for from there. -/
structure Loc where
  block : Nat
  off : Nat
  cap : Nat

abbrev Mu := Nat → Option Loc

/-- byte i of a packed row -/
def byteAt (n i : Nat) : Nat := (n >>> (8 * i)) % 256
/-- len bytes from off on -/
def bsub (n off len : Nat) : Nat := (n >>> (8 * off)) % 2 ^ (8 * len)
/-- len bytes from off on are those of v -/
def bput (n off len v : Nat) : Nat :=
  (n >>> (8 * (off + len))) <<< (8 * (off + len)) ||| (v % 2 ^ (8 * len)) <<< (8 * off) ||| n % 2 ^ (8 * off)

mutual
def VR (μ : Mu) : AV → Value → Prop
  | .bool b, v => v = .bool b
  | .int k n, v => v = .int k n
  | .str s, v => v = .string s
  | .ptr id off, v => ∃ l, μ id = some l ∧ v = .pointer (some ⟨l.block, l.off + off, none⟩)
  | .nilptr, v => v = .pointer none
  | .sl id off len cap, v => ∃ l, μ id = some l ∧ v = .slice (some ⟨l.block, l.off + off, none⟩) len cap
  | .ssl id idx es len, v => ∃ l, μ id = some l ∧ idx + len ≤ l.cap ∧ v = .slice (some ⟨l.block, l.off + idx * es, none⟩) len (l.cap - idx)
  | .nilsl, v => v = .slice none 0 0
  | .esl, v => ∃ a c, v = .slice (some a) 0 c
  | .map id, v => ∃ l, μ id = some l ∧ v = .map (some l.block)
  | .nilmap, v => v = .map none
  | .func f first captured, v => ∃ a b, VRL μ first a ∧ VRL μ captured b ∧ v = .func (.func f) a.toArray b.toArray
  | .yield l, v => ∃ m, μ l = some m ∧ v = .func (.yield m.block) #[] #[]
  | .nilfunc, v => v = .nilFunc
  | .agg cs, v => ∃ a, VRL μ cs a ∧ (∀ x, x ∈ a → x.oneCell' = true) ∧ v = .agg a.toArray
  | .bytes len n, v => v = .agg ((List.range len).map fun i => Value.int .u8 (byteAt n i)).toArray
  | .tuple vs, v => ∃ a, VRL μ vs a ∧ v = .tuple a.toArray
  | .junk, _ => True
def VRL (μ : Mu) : List AV → List Value → Prop
  | [], l => l = []
  | v :: vs, l => ∃ c cs, l = c :: cs ∧ VR μ v c ∧ VRL μ vs cs
end

def Ext (μ μ' : Mu) : Prop := ∀ id l, μ id = some l → μ' id = some l
theorem Ext.refl (μ : Mu) : Ext μ μ := fun _ _ h => h
theorem Ext.trans {a b c : Mu} (h : Ext a b) (k : Ext b c) : Ext a c := fun i l e => k i l (h i l e)

mutual
theorem VR.ext {μ μ' : Mu} (h : Ext μ μ') : ∀ (v : AV) (c : Value), VR μ v c → VR μ' v c
  | .bool _, _, e | .int _ _, _, e | .str _, _, e | .nilptr, _, e | .nilsl, _, e | .esl, _, e | .nilmap, _, e | .nilfunc, _, e | .bytes _ _, _, e => by simpa [VR] using e
  | .ptr id off, c, e => by
    simp only [VR] at e ⊢; obtain ⟨l, a, b⟩ := e; exact ⟨l, h _ _ a, b⟩
  | .sl id off len cap, c, e => by
    simp only [VR] at e ⊢; obtain ⟨l, a, b⟩ := e; exact ⟨l, h _ _ a, b⟩
  | .ssl id idx es len, c, e => by
    simp only [VR] at e ⊢; obtain ⟨l, a, b⟩ := e; exact ⟨l, h _ _ a, b⟩
  | .map id, c, e => by
    simp only [VR] at e ⊢; obtain ⟨l, a, b⟩ := e; exact ⟨l, h _ _ a, b⟩
  | .yield l, c, e => by
    simp only [VR] at e ⊢; obtain ⟨l, a, b⟩ := e; exact ⟨l, h _ _ a, b⟩
  | .func f x y, c, e => by
    simp only [VR] at e ⊢; obtain ⟨a, b, p, q, r⟩ := e
    exact ⟨a, b, VRL.ext h x a p, VRL.ext h y b q, r⟩
  | .agg cs, c, e => by
    simp only [VR] at e ⊢; obtain ⟨a, p, q, r⟩ := e; exact ⟨a, VRL.ext h cs a p, q, r⟩
  | .tuple cs, c, e => by
    simp only [VR] at e ⊢; obtain ⟨a, p, r⟩ := e; exact ⟨a, VRL.ext h cs a p, r⟩
  | .junk, _, _ => by simp [VR]
theorem VRL.ext {μ μ' : Mu} (h : Ext μ μ') : ∀ (v : List AV) (c : List Value), VRL μ v c → VRL μ' v c
  | [], _, e => by simpa [VRL] using e
  | v :: vs, c, e => by
    simp only [VRL] at e ⊢; obtain ⟨x, xs, r, p, q⟩ := e
    exact ⟨x, xs, r, VR.ext h v x p, VRL.ext h vs xs q⟩
end

theorem VRL.length {μ : Mu} : ∀ {v : List AV} {c : List Value}, VRL μ v c → c.length = v.length
  | [], _, e => by simp only [VRL] at e; simp [e]
  | v :: vs, c, e => by
    simp only [VRL] at e; obtain ⟨x, xs, rfl, _, q⟩ := e; simp [VRL.length q]

theorem VRL.get {μ : Mu} : ∀ {v : List AV} {c : List Value} (_ : VRL μ v c) (i : Nat) (x : AV), v[i]? = some x → ∃ y, c[i]? = some y ∧ VR μ x y
  | [], _, _, i, x, h => by simp at h
  | v :: vs, c, e, i, x, h => by
    simp only [VRL] at e; obtain ⟨y, ys, rfl, p, q⟩ := e
    cases i with
    | zero => simp at h; subst h; exact ⟨y, by simp, p⟩
    | succ i => simp at h; obtain ⟨z, hz, r⟩ := VRL.get q i x h; exact ⟨z, by simpa using hz, r⟩

theorem VRL.of_get {μ : Mu} : ∀ {v : List AV} {c : List Value}, c.length = v.length → (∀ (i : Nat) (x : AV), v[i]? = some x → ∃ y, c[i]? = some y ∧ VR μ x y) → VRL μ v c
  | [], c, hl, _ => by simp only [VRL]; exact List.length_eq_zero_iff.1 (by simpa using hl)
  | v :: vs, [], hl, _ => by simp at hl
  | v :: vs, y :: ys, hl, h => by
    simp only [VRL]
    refine ⟨y, ys, rfl, ?_, VRL.of_get (by simpa using hl) fun i x e => ?_⟩
    · obtain ⟨z, hz, r⟩ := h 0 v (by simp); simp at hz; subst hz; exact r
    · obtain ⟨z, hz, r⟩ := h (i + 1) x (by simpa using e); exact ⟨z, by simpa using hz, r⟩

theorem VRL.append {μ : Mu} {a b : List AV} {x y : List Value} (h : VRL μ a x) (k : VRL μ b y) : VRL μ (a ++ b) (x ++ y) := by
  induction a generalizing x with
  | nil => simp only [VRL] at h; subst h; simpa using k
  | cons v vs ih =>
    simp only [VRL] at h; obtain ⟨c, cs, rfl, p, q⟩ := h
    simp only [List.cons_append, VRL]; exact ⟨c, cs ++ y, rfl, p, ih q⟩

/-- The cells of a row: values, or packed bytes. -/
inductive Dat where
  | vals (cs : List AV)
  | bytes (len n : Nat)

def Dat.len : Dat → Nat
  | .vals cs => cs.length
  | .bytes len _ => len

def Dat.get (d : Dat) (i : Nat) : Option AV :=
  match d with
  | .vals cs => cs[i]?
  | .bytes len n => if i < len then some (.int .u8 (byteAt n i)) else none

/-- the cells of a value -/
def AV.dat : AV → Dat
  | .agg cs => .vals cs
  | .bytes len n => .bytes len n
  | .tuple _ => .vals []
  | .junk => .vals []
  | v => .vals [v]

/-- the value that a run of cells is, as an aggregate -/
def Dat.sub (d : Dat) (off len : Nat) : Option AV :=
  match d with
  | .vals cs => if off + len ≤ cs.length then some (.agg ((cs.drop off).take len)) else none
  | .bytes l n => if off + len ≤ l then some (.bytes len (bsub n off len)) else none

/-- a run of cells is another one -/
def Dat.put (d : Dat) (off : Nat) (v : Dat) : Option Dat :=
  match d, v with
  | .vals cs, .vals vs => if off + vs.length ≤ cs.length then some (.vals (cs.take off ++ vs ++ cs.drop (off + vs.length))) else none
  | .bytes l n, .bytes m v => if off + m ≤ l then some (.bytes l (bput n off m v)) else none
  | .bytes l n, .vals [.int .u8 b] => if off < l ∧ 0 ≤ b ∧ b < 256 then some (.bytes l (bput n off 1 b.toNat)) else none
  | _, _ => none

def Dat.take (d : Dat) (off len : Nat) : Option Dat :=
  match d with
  | .vals cs => if off + len ≤ cs.length then some (.vals ((cs.drop off).take len)) else none
  | .bytes l n => if off + len ≤ l then some (.bytes len (bsub n off len)) else none

def Dat.app (d e : Dat) : Option Dat :=
  match d, e with
  | .vals cs, .vals vs => some (.vals (cs ++ vs))
  | .bytes l n, .bytes m v => some (.bytes (l + m) (bput (bsub n 0 l) l m v))
  | .bytes l n, .vals [.int .u8 b] => if 0 ≤ b ∧ b < 256 then some (.bytes (l + 1) (bput (bsub n 0 l) l 1 b.toNat)) else none
  | .vals [], .bytes m v => some (.bytes m v)
  | .bytes l n, .vals [] => some (.bytes l n)
  | _, _ => none

def Dat.rep (z : Dat) : Nat → Dat
  | n => match z with
    | .vals cs => .vals (List.replicate n cs).flatten
    | .bytes l v => if v = 0 then .bytes (n * l) 0 else .vals []

inductive Sc where
  | int | bool | str

inductive EqK where
  | scal (s : Sc)
  | flat (l : List Sc)
  | bytes (len : Nat)
  | ptr | slice | map | func

/-- An operation, its types looked up. -/
inductive AOp where
  | mv
  | pick
  | alloc (elem es : Nat) (z : Dat)
  | box (elem es : Nat)
  | build (z : AV) (parts : List (Nat × Nat))
  | bslice (elem es len : Nat) (z : Dat) (parts : List Nat)
  | load1
  | loadn (n : Nat)
  | store (n : Nat)
  | nilCheck
  | bin (op : BinOp)
  | eqv (neg : Bool) (k : EqK)
  | un (op : UnOp)
  | conv (k : IntKind)
  | tostr
  | sl2arr (n : Nat)
  | mkfunc (f nfirst : Nat)
  | mkmap
  | mkslice (elem es bytes : Nat) (z : Dat)
  | slice (es : Nat) (lo hi mx : Bool)
  | slicea (n es : Nat) (lo hi mx : Bool)
  | fieldAddr (off : Nat)
  | field (off size : Nat) (agg : Bool)
  | indexa (len es : Nat)
  | indexs (es : Nat)
  | indexv (len es : Nat) (agg : Bool)
  | indexstr
  | lookup (k : EqK) (z : AV) (ok : Bool)
  | mapput (k : EqK)
  | extract (i : Nat)
  | lens | lenm | lenc (n : Nat) | lenstr | cap
  | append (elem es bytes : Nat) (z : Dat)
  | appendz (elem es bytes : Nat) (z : Dat)
  | copy (es : Nat)
  | delete (k : EqK)
  | clear (es : Nat) (z : Dat)
  | min | max
  | range | next | entry
  | callv
  | defer
  | bad

inductive Opd where
  | tmp (t : Nat)
  | lit (v : AV)

structure AIn where
  dst : Option Nat
  op : AOp
  args : List Opd
  guard : Option (Nat × Bool)

inductive AExit where
  | normal
  | exit (id : Nat)
  | ret

/-- an instruction of a region whose order is open: its number, itself, what is looked at again behind it -/
structure DI where
  j : Nat
  i : AIn
  rs : List (Nat × AIn)
  /-- it writes what one ahead of it reads or writes -/
  fin : Bool

inductive ACode where
  | skip
  | region (ops : List AIn)
  | seq (a b : ACode)
  | cond (c : Opd) (a b : ACode)
  | block (id : Nat) (b : ACode)
  | loop (b : ACode)
  /-- a loop over a function: its value, the parameters of a round, what is assigned, the body -/
  | rfun (f : Opd) (ps : List Nat) (asg body : ACode)
  | exit (id : Nat)
  | ret
  /-- a region whose order is open: for each order of what makes or writes something, its instructions, each with what is looked at again behind it -/
  | draw (alts : List (List DI))
  | bad

def AV.notJunk : AV → Option AV
  | .junk => none
  | v => some v

/-- An abstract object. -/
inductive AObj where
  /-- a row of cells: its element's type, how many cells an element has, may the block have more room than is known, may it not be written, the cells -/
  | row (elem es : Nat) (soft ro : Bool) (d : Dat)
  /-- a map: its entries, each with its stamp; the next stamp -/
  | map (es : List (AV × AV × Nat)) (clock : Nat)
  /-- an iterator over a map: the map, the stamp from which on entries are new, the stamps that it has told, the stamp at its last step -/
  | iter (m : Option Nat) (since : Nat) (seen : List Nat) (stepped : Nat)
  /-- a loop over a function: its state, what it broke off for, the frame's slots, a round's parameters, what is assigned, the body -/
  | loop (state : LoopState) (jump : Option AExit) (tmps : List AV) (ps : List Nat) (asg body : ACode)

/-- The trie that holds the objects. -/
inductive Tr where
  | leaf
  | node (l : Tr) (v : Option AObj) (r : Tr)

def Tr.get : Tr → Nat → Option AObj
  | .leaf, _ => none
  | .node l v r, n => if n = 0 then v else if n % 2 = 1 then l.get (n / 2) else r.get (n / 2 - 1)

def Tr.put : Nat → Tr → Nat → Option AObj → Tr
  | 0, t, _, _ => t
  | f + 1, .leaf, n, o =>
    if n = 0 then .node .leaf o .leaf
    else if n % 2 = 1 then .node (Tr.put f .leaf (n / 2) o) none .leaf else .node .leaf none (Tr.put f .leaf (n / 2 - 1) o)
  | f + 1, .node l v r, n, o =>
    if n = 0 then .node l o r
    else if n % 2 = 1 then .node (Tr.put f l (n / 2) o) v r else .node l v (Tr.put f r (n / 2 - 1) o)

theorem Tr.get_put_same : ∀ (f : Nat) (t : Tr) (n : Nat) (o : Option AObj), n + 1 < 2 ^ f → (Tr.put f t n o).get n = o
  | 0, t, n, o, h => by simp at h
  | f + 1, t, n, o, h => by
    rw [Nat.pow_succ] at h
    cases t with
    | leaf =>
      simp only [Tr.put]
      by_cases h0 : n = 0
      · simp [h0, Tr.get]
      · by_cases h1 : n % 2 = 1
        · simp only [h0, h1, if_true, if_false, Tr.get]; exact Tr.get_put_same f _ _ _ (by omega)
        · simp only [h0, h1, if_false, Tr.get]; exact Tr.get_put_same f _ _ _ (by omega)
    | node l v r =>
      simp only [Tr.put]
      by_cases h0 : n = 0
      · simp [h0, Tr.get]
      · by_cases h1 : n % 2 = 1
        · simp only [h0, h1, if_true, if_false, Tr.get]; exact Tr.get_put_same f _ _ _ (by omega)
        · simp only [h0, h1, if_false, Tr.get]; exact Tr.get_put_same f _ _ _ (by omega)

theorem Tr.get_put_ne : ∀ (f : Nat) (t : Tr) (n m : Nat) (o : Option AObj), n ≠ m → (Tr.put f t n o).get m = t.get m
  | 0, t, n, m, o, h => rfl
  | f + 1, t, n, m, o, h => by
    cases t with
    | leaf =>
      simp only [Tr.put]
      by_cases h0 : n = 0
      · subst h0
        have : m ≠ 0 := fun e => h e.symm
        simp only [if_true, Tr.get, this, if_false]
        split <;> rfl
      · by_cases h1 : n % 2 = 1
        · simp only [h0, h1, if_true, if_false, Tr.get]
          split
          · rfl
          · split
            · rw [Tr.get_put_ne f _ _ _ _ (by omega)]; rfl
            · rfl
        · simp only [h0, h1, if_false, Tr.get]
          split
          · rfl
          · split
            · rfl
            · rw [Tr.get_put_ne f _ _ _ _ (by omega)]; rfl
    | node l v r =>
      simp only [Tr.put]
      by_cases h0 : n = 0
      · subst h0
        have : m ≠ 0 := fun e => h e.symm
        simp only [if_true, Tr.get, this, if_false]
      · by_cases h1 : n % 2 = 1
        · simp only [h0, h1, if_true, if_false, Tr.get]
          split
          · rfl
          · split
            · exact Tr.get_put_ne f _ _ _ _ (by omega)
            · rfl
        · simp only [h0, h1, if_false, Tr.get]
          split
          · rfl
          · split
            · rfl
            · exact Tr.get_put_ne f _ _ _ _ (by omega)

/-- The abstract heap: the next object's number; the objects. -/
structure AHeap where
  next : Nat
  objs : Tr

theorem two_pow_gt (n : Nat) : n + 1 < 2 ^ (n + 2) := by
  have := Nat.lt_two_pow_self (n := n)
  rw [Nat.pow_succ, Nat.pow_succ]; omega
def AHeap.get (h : AHeap) (id : Nat) : Option AObj := h.objs.get id
def AHeap.put (h : AHeap) (id : Nat) (o : AObj) : AHeap := { h with objs := h.objs.put (id + 2) id (some o) }
def AHeap.kill (h : AHeap) (id : Nat) : AHeap := { h with objs := h.objs.put (id + 2) id none }
def AHeap.new (h : AHeap) (o : AObj) : AHeap := { h with next := h.next + 1, objs := h.objs.put (h.next + 2) h.next (some o) }

theorem AHeap.get_put_same (h : AHeap) (id : Nat) (o : AObj) : (h.put id o).get id = some o :=
  Tr.get_put_same _ _ _ _ (two_pow_gt _)
theorem AHeap.get_put_ne (h : AHeap) {id j : Nat} (o : AObj) (hn : id ≠ j) : (h.put id o).get j = h.get j :=
  Tr.get_put_ne _ _ _ _ _ hn
theorem AHeap.get_kill_same (h : AHeap) (id : Nat) : (h.kill id).get id = none :=
  Tr.get_put_same _ _ _ _ (two_pow_gt _)
theorem AHeap.get_kill_ne (h : AHeap) {id j : Nat} (hn : id ≠ j) : (h.kill id).get j = h.get j :=
  Tr.get_put_ne _ _ _ _ _ hn
theorem AHeap.get_new_same (h : AHeap) (o : AObj) : (h.new o).get h.next = some o :=
  Tr.get_put_same _ _ _ _ (two_pow_gt _)
theorem AHeap.get_new_ne (h : AHeap) {j : Nat} (o : AObj) (hn : h.next ≠ j) : (h.new o).get j = h.get j :=
  Tr.get_put_ne _ _ _ _ _ hn

end Go.Proofs.Ytjdemlagmamlbaa
