/- BY PROGRAM (wip/tool/shake.py): own texts, one behind the other, without what is not needed. -/
import Derived.Control
import Derived.Calls
import Derived.KernelRfl
import Derived.Laws.Sem
import Derived.Laws.Cells
import Derived.Laws.World
import GoSem.Dispatch
import Derived.Laws.StructEq
import Derived.IntWalk
import Derived.WideKeyRuns
import Derived.Laws.BytesArg

namespace Go.Proofs.YtlkfclgkinaibaaGreat
inductive AV where
  | bool (b : Bool)
  | int (k : IntKind) (n : Int)
  | str (s : ByteArray)
  | ptr (id off : Nat)
  | nilptr
  | sl (id off len cap : Nat)
  | ssl (id idx es len : Nat)
  | nilsl
  | esl
  | map (id : Nat)
  | nilmap
  | func (f : Nat) (first captured : List AV)
  | yield (l : Nat)
  | nilfunc
  | agg (cs : List AV)
  | bytes (len n : Nat)
  | tuple (vs : List AV)
  | junk
mutual
def AV.eqb : AV → AV → Bool
  | .bool a, .bool b => a == b
  | .int k a, .int k' b => decide (k = k') && a == b
  | .str a, .str b => decide (a = b)
  | .ptr a b, .ptr c d => a == c && b == d
  | .nilptr, .nilptr => true
  | .sl a b c d, .sl a' b' c' d' => a == a' && b == b' && c == c' && d == d'
  | .ssl a b c d, .ssl a' b' c' d' => a == a' && b == b' && c == c' && d == d'
  | .nilsl, .nilsl => true
  | .esl, .esl => true
  | .map a, .map b => a == b
  | .nilmap, .nilmap => true
  | .func f a b, .func f' a' b' => f == f' && AV.eqbL a a' && AV.eqbL b b'
  | .nilfunc, .nilfunc => true
  | .yield a, .yield b => a == b
  | .agg a, .agg b => AV.eqbL a b
  | .bytes l n, .bytes l' n' => l == l' && n == n'
  | .tuple a, .tuple b => AV.eqbL a b
  | .junk, .junk => true
  | _, _ => false
def AV.eqbL : List AV → List AV → Bool
  | [], [] => true
  | a :: as, b :: bs => AV.eqb a b && AV.eqbL as bs
  | _, _ => false
end
mutual
theorem AV.eqb_eq : ∀ (a b : AV), AV.eqb a b = true → a = b := by
  intro a b h
  cases a <;> cases b <;> simp only [AV.eqb, Bool.and_eq_true, beq_iff_eq, decide_eq_true_eq, Bool.false_eq_true] at h <;> first
    | rfl
    | (subst h; rfl)
    | (obtain ⟨rfl, rfl⟩ := h; rfl)
    | (obtain ⟨⟨⟨rfl, rfl⟩, rfl⟩, rfl⟩ := h; rfl)
    | (obtain ⟨⟨rfl, h1⟩, h2⟩ := h; rw [AV.eqbL_eq _ _ h1, AV.eqbL_eq _ _ h2])
    | (rw [AV.eqbL_eq _ _ h])
theorem AV.eqbL_eq : ∀ (a b : List AV), AV.eqbL a b = true → a = b := by
  intro a b h
  cases a with
  | nil => cases b with
    | nil => rfl
    | cons => simp [AV.eqbL] at h
  | cons x xs => cases b with
    | nil => simp [AV.eqbL] at h
    | cons y ys =>
      simp only [AV.eqbL, Bool.and_eq_true] at h
      rw [AV.eqb_eq _ _ h.1, AV.eqbL_eq _ _ h.2]
end
mutual
theorem AV.eqb_self : ∀ (a : AV), AV.eqb a a = true := by
  intro a
  cases a with
  | func f a b => simp only [AV.eqb, beq_self_eq_true, AV.eqbL_self a, AV.eqbL_self b, Bool.and_self]
  | agg a => simp only [AV.eqb, AV.eqbL_self a]
  | tuple a => simp only [AV.eqb, AV.eqbL_self a]
  | _ => simp [AV.eqb]
theorem AV.eqbL_self : ∀ (a : List AV), AV.eqbL a a = true := by
  intro a
  cases a with
  | nil => rfl
  | cons x xs => simp only [AV.eqbL, AV.eqb_self x, AV.eqbL_self xs, Bool.and_self]
end
instance : DecidableEq AV := fun a b =>
  if h : AV.eqb a b = true then isTrue (AV.eqb_eq a b h) else isFalse fun e => h (e ▸ AV.eqb_self a)
structure Loc where
  block : Nat
  off : Nat
  cap : Nat
abbrev Mu := Nat → Option Loc
def byteAt (n i : Nat) : Nat := (n >>> (8 * i)) % 256
def bsub (n off len : Nat) : Nat := (n >>> (8 * off)) % 2 ^ (8 * len)
def bput (n off len v : Nat) : Nat :=
  (n >>> (8 * (off + len))) <<< (8 * (off + len)) ||| (v % 2 ^ (8 * len)) <<< (8 * off) ||| n % 2 ^ (8 * off)
mutual
def VR (μ : Mu) : AV → Value → Prop
  | .bool b, v => v = .bool b
  | .int k n, v => v = .int k n
  | .str s, v => v = .string s
  | .ptr id off, v => ∃ l, μ id = some l ∧ v = .pointer (some ⟨l.block, l.off + off, none⟩)
  | .nilptr, v => v = .pointer none
  | .sl id off len cap, v => ∃ l, μ id = some l ∧ v = .slice (some ⟨l.block, l.off + off, none⟩) len cap
  | .ssl id idx es len, v => ∃ l, μ id = some l ∧ idx + len ≤ l.cap ∧ v = .slice (some ⟨l.block, l.off + idx * es, none⟩) len (l.cap - idx)
  | .nilsl, v => v = .slice none 0 0
  | .esl, v => ∃ a c, v = .slice (some a) 0 c
  | .map id, v => ∃ l, μ id = some l ∧ v = .map (some l.block)
  | .nilmap, v => v = .map none
  | .func f first captured, v => ∃ a b, VRL μ first a ∧ VRL μ captured b ∧ v = .func (.func f) a.toArray b.toArray
  | .yield l, v => ∃ m, μ l = some m ∧ v = .func (.yield m.block) #[] #[]
  | .nilfunc, v => v = .nilFunc
  | .agg cs, v => ∃ a, VRL μ cs a ∧ (∀ x, x ∈ a → x.oneCell' = true) ∧ v = .agg a.toArray
  | .bytes len n, v => v = .agg ((List.range len).map fun i => Value.int .u8 (byteAt n i)).toArray
  | .tuple vs, v => ∃ a, VRL μ vs a ∧ v = .tuple a.toArray
  | .junk, _ => True
def VRL (μ : Mu) : List AV → List Value → Prop
  | [], l => l = []
  | v :: vs, l => ∃ c cs, l = c :: cs ∧ VR μ v c ∧ VRL μ vs cs
end
def Ext (μ μ' : Mu) : Prop := ∀ id l, μ id = some l → μ' id = some l
theorem Ext.refl (μ : Mu) : Ext μ μ := fun _ _ h => h
theorem Ext.trans {a b c : Mu} (h : Ext a b) (k : Ext b c) : Ext a c := fun i l e => k i l (h i l e)
mutual
theorem VR.ext {μ μ' : Mu} (h : Ext μ μ') : ∀ (v : AV) (c : Value), VR μ v c → VR μ' v c
  | .bool _, _, e | .int _ _, _, e | .str _, _, e | .nilptr, _, e | .nilsl, _, e | .esl, _, e | .nilmap, _, e | .nilfunc, _, e | .bytes _ _, _, e => by simpa [VR] using e
  | .ptr id off, c, e => by
    simp only [VR] at e ⊢; obtain ⟨l, a, b⟩ := e; exact ⟨l, h _ _ a, b⟩
  | .sl id off len cap, c, e => by
    simp only [VR] at e ⊢; obtain ⟨l, a, b⟩ := e; exact ⟨l, h _ _ a, b⟩
  | .ssl id idx es len, c, e => by
    simp only [VR] at e ⊢; obtain ⟨l, a, b⟩ := e; exact ⟨l, h _ _ a, b⟩
  | .map id, c, e => by
    simp only [VR] at e ⊢; obtain ⟨l, a, b⟩ := e; exact ⟨l, h _ _ a, b⟩
  | .yield l, c, e => by
    simp only [VR] at e ⊢; obtain ⟨l, a, b⟩ := e; exact ⟨l, h _ _ a, b⟩
  | .func f x y, c, e => by
    simp only [VR] at e ⊢; obtain ⟨a, b, p, q, r⟩ := e
    exact ⟨a, b, VRL.ext h x a p, VRL.ext h y b q, r⟩
  | .agg cs, c, e => by
    simp only [VR] at e ⊢; obtain ⟨a, p, q, r⟩ := e; exact ⟨a, VRL.ext h cs a p, q, r⟩
  | .tuple cs, c, e => by
    simp only [VR] at e ⊢; obtain ⟨a, p, r⟩ := e; exact ⟨a, VRL.ext h cs a p, r⟩
  | .junk, _, _ => by simp [VR]
theorem VRL.ext {μ μ' : Mu} (h : Ext μ μ') : ∀ (v : List AV) (c : List Value), VRL μ v c → VRL μ' v c
  | [], _, e => by simpa [VRL] using e
  | v :: vs, c, e => by
    simp only [VRL] at e ⊢; obtain ⟨x, xs, r, p, q⟩ := e
    exact ⟨x, xs, r, VR.ext h v x p, VRL.ext h vs xs q⟩
end
theorem VRL.length {μ : Mu} : ∀ {v : List AV} {c : List Value}, VRL μ v c → c.length = v.length
  | [], _, e => by simp only [VRL] at e; simp [e]
  | v :: vs, c, e => by
    simp only [VRL] at e; obtain ⟨x, xs, rfl, _, q⟩ := e; simp [VRL.length q]
theorem VRL.get {μ : Mu} : ∀ {v : List AV} {c : List Value} (_ : VRL μ v c) (i : Nat) (x : AV), v[i]? = some x → ∃ y, c[i]? = some y ∧ VR μ x y
  | [], _, _, i, x, h => by simp at h
  | v :: vs, c, e, i, x, h => by
    simp only [VRL] at e; obtain ⟨y, ys, rfl, p, q⟩ := e
    cases i with
    | zero => simp at h; subst h; exact ⟨y, by simp, p⟩
    | succ i => simp at h; obtain ⟨z, hz, r⟩ := VRL.get q i x h; exact ⟨z, by simpa using hz, r⟩
theorem VRL.of_get {μ : Mu} : ∀ {v : List AV} {c : List Value}, c.length = v.length → (∀ (i : Nat) (x : AV), v[i]? = some x → ∃ y, c[i]? = some y ∧ VR μ x y) → VRL μ v c
  | [], c, hl, _ => by simp only [VRL]; exact List.length_eq_zero_iff.1 (by simpa using hl)
  | v :: vs, [], hl, _ => by simp at hl
  | v :: vs, y :: ys, hl, h => by
    simp only [VRL]
    refine ⟨y, ys, rfl, ?_, VRL.of_get (by simpa using hl) fun i x e => ?_⟩
    · obtain ⟨z, hz, r⟩ := h 0 v (by simp); simp at hz; subst hz; exact r
    · obtain ⟨z, hz, r⟩ := h (i + 1) x (by simpa using e); exact ⟨z, by simpa using hz, r⟩
theorem VRL.append {μ : Mu} {a b : List AV} {x y : List Value} (h : VRL μ a x) (k : VRL μ b y) : VRL μ (a ++ b) (x ++ y) := by
  induction a generalizing x with
  | nil => simp only [VRL] at h; subst h; simpa using k
  | cons v vs ih =>
    simp only [VRL] at h; obtain ⟨c, cs, rfl, p, q⟩ := h
    simp only [List.cons_append, VRL]; exact ⟨c, cs ++ y, rfl, p, ih q⟩
inductive Dat where
  | vals (cs : List AV)
  | bytes (len n : Nat)

  deriving DecidableEq
def Dat.len : Dat → Nat
  | .vals cs => cs.length
  | .bytes len _ => len
def Dat.get (d : Dat) (i : Nat) : Option AV :=
  match d with
  | .vals cs => cs[i]?
  | .bytes len n => if i < len then some (.int .u8 (byteAt n i)) else none
def AV.dat : AV → Dat
  | .agg cs => .vals cs
  | .bytes len n => .bytes len n
  | .tuple _ => .vals []
  | .junk => .vals []
  | v => .vals [v]
def Dat.sub (d : Dat) (off len : Nat) : Option AV :=
  match d with
  | .vals cs => if off + len ≤ cs.length then some (.agg ((cs.drop off).take len)) else none
  | .bytes l n => if off + len ≤ l then some (.bytes len (bsub n off len)) else none
def Dat.put (d : Dat) (off : Nat) (v : Dat) : Option Dat :=
  match d, v with
  | .vals cs, .vals vs => if off + vs.length ≤ cs.length then some (.vals (cs.take off ++ vs ++ cs.drop (off + vs.length))) else none
  | .bytes l n, .bytes m v => if off + m ≤ l then some (.bytes l (bput n off m v)) else none
  | .bytes l n, .vals [.int .u8 b] => if off < l ∧ 0 ≤ b ∧ b < 256 then some (.bytes l (bput n off 1 b.toNat)) else none
  | _, _ => none
def Dat.take (d : Dat) (off len : Nat) : Option Dat :=
  match d with
  | .vals cs => if off + len ≤ cs.length then some (.vals ((cs.drop off).take len)) else none
  | .bytes l n => if off + len ≤ l then some (.bytes len (bsub n off len)) else none
def Dat.app (d e : Dat) : Option Dat :=
  match d, e with
  | .vals cs, .vals vs => some (.vals (cs ++ vs))
  | .bytes l n, .bytes m v => some (.bytes (l + m) (bput (bsub n 0 l) l m v))
  | .bytes l n, .vals [.int .u8 b] => if 0 ≤ b ∧ b < 256 then some (.bytes (l + 1) (bput (bsub n 0 l) l 1 b.toNat)) else none
  | .vals [], .bytes m v => some (.bytes m v)
  | .bytes l n, .vals [] => some (.bytes l n)
  | _, _ => none
def Dat.rep (z : Dat) : Nat → Dat
  | n => match z with
    | .vals cs => .vals (List.replicate n cs).flatten
    | .bytes l v => if v = 0 then .bytes (n * l) 0 else .vals []
inductive Sc where
  | int | bool | str
  deriving DecidableEq
inductive EqK where
  | scal (s : Sc)
  | flat (l : List Sc)
  | bytes (len : Nat)
  | ptr | slice | map | func
  deriving DecidableEq
inductive AOp where
  | mv
  | pick
  | alloc (elem es : Nat) (z : Dat)
  | box (elem es : Nat)
  | build (z : AV) (parts : List (Nat × Nat))
  | bslice (elem es len : Nat) (z : Dat) (parts : List Nat)
  | load1
  | loadn (n : Nat)
  | store (n : Nat)
  | nilCheck
  | bin (op : BinOp)
  | eqv (neg : Bool) (k : EqK)
  | un (op : UnOp)
  | conv (k : IntKind)
  | tostr
  | sl2arr (n : Nat)
  | mkfunc (f nfirst : Nat)
  | mkmap
  | mkslice (elem es bytes : Nat) (z : Dat)
  | slice (es : Nat) (lo hi mx : Bool)
  | slicea (n es : Nat) (lo hi mx : Bool)
  | fieldAddr (off : Nat)
  | field (off size : Nat) (agg : Bool)
  | indexa (len es : Nat)
  | indexs (es : Nat)
  | indexv (len es : Nat) (agg : Bool)
  | indexstr
  | lookup (k : EqK) (z : AV) (ok : Bool)
  | mapput (k : EqK)
  | extract (i : Nat)
  | lens | lenm | lenc (n : Nat) | lenstr | cap
  | append (elem es bytes : Nat) (z : Dat)
  | appendz (elem es bytes : Nat) (z : Dat)
  | copy (es : Nat)
  | delete (k : EqK)
  | clear (es : Nat) (z : Dat)
  | min | max
  | range | next | entry
  | callv
  | defer
  | bad
  deriving DecidableEq
inductive Opd where
  | tmp (t : Nat)
  | lit (v : AV)
  deriving DecidableEq
structure AIn where
  dst : Option Nat
  op : AOp
  args : List Opd
  guard : Option (Nat × Bool)
  deriving DecidableEq
inductive AExit where
  | normal
  | exit (id : Nat)
  | ret
  deriving DecidableEq
structure DI where
  j : Nat
  i : AIn
  rs : List (Nat × AIn)
  fin : Bool
  deriving DecidableEq
inductive ACode where
  | skip
  | region (ops : List AIn)
  | seq (a b : ACode)
  | cond (c : Opd) (a b : ACode)
  | block (id : Nat) (b : ACode)
  | loop (b : ACode)
  | rfun (f : Opd) (ps : List Nat) (asg body : ACode)
  | exit (id : Nat)
  | ret
  | draw (alts : List (List DI))
  | bad
  deriving DecidableEq
def AV.notJunk : AV → Option AV
  | .junk => none
  | v => some v
inductive AObj where
  | row (elem es : Nat) (soft ro : Bool) (d : Dat)
  | map (es : List (AV × AV × Nat)) (clock : Nat)
  | iter (m : Option Nat) (since : Nat) (seen : List Nat) (stepped : Nat)
  | loop (state : LoopState) (jump : Option AExit) (tmps : List AV) (ps : List Nat) (asg body : ACode)
  deriving DecidableEq
inductive Tr where
  | leaf
  | node (l : Tr) (v : Option AObj) (r : Tr)
def Tr.get : Tr → Nat → Option AObj
  | .leaf, _ => none
  | .node l v r, n => if n = 0 then v else if n % 2 = 1 then l.get (n / 2) else r.get (n / 2 - 1)
def Tr.put : Nat → Tr → Nat → Option AObj → Tr
  | 0, t, _, _ => t
  | f + 1, .leaf, n, o =>
    if n = 0 then .node .leaf o .leaf
    else if n % 2 = 1 then .node (Tr.put f .leaf (n / 2) o) none .leaf else .node .leaf none (Tr.put f .leaf (n / 2 - 1) o)
  | f + 1, .node l v r, n, o =>
    if n = 0 then .node l o r
    else if n % 2 = 1 then .node (Tr.put f l (n / 2) o) v r else .node l v (Tr.put f r (n / 2 - 1) o)
theorem Tr.get_put_same : ∀ (f : Nat) (t : Tr) (n : Nat) (o : Option AObj), n + 1 < 2 ^ f → (Tr.put f t n o).get n = o
  | 0, t, n, o, h => by simp at h
  | f + 1, t, n, o, h => by
    rw [Nat.pow_succ] at h
    cases t with
    | leaf =>
      simp only [Tr.put]
      by_cases h0 : n = 0
      · simp [h0, Tr.get]
      · by_cases h1 : n % 2 = 1
        · simp only [h0, h1, if_true, if_false, Tr.get]; exact Tr.get_put_same f _ _ _ (by omega)
        · simp only [h0, h1, if_false, Tr.get]; exact Tr.get_put_same f _ _ _ (by omega)
    | node l v r =>
      simp only [Tr.put]
      by_cases h0 : n = 0
      · simp [h0, Tr.get]
      · by_cases h1 : n % 2 = 1
        · simp only [h0, h1, if_true, if_false, Tr.get]; exact Tr.get_put_same f _ _ _ (by omega)
        · simp only [h0, h1, if_false, Tr.get]; exact Tr.get_put_same f _ _ _ (by omega)
theorem Tr.get_put_ne : ∀ (f : Nat) (t : Tr) (n m : Nat) (o : Option AObj), n ≠ m → (Tr.put f t n o).get m = t.get m
  | 0, t, n, m, o, h => rfl
  | f + 1, t, n, m, o, h => by
    cases t with
    | leaf =>
      simp only [Tr.put]
      by_cases h0 : n = 0
      · subst h0
        have : m ≠ 0 := fun e => h e.symm
        simp only [if_true, Tr.get, this, if_false]
        split <;> rfl
      · by_cases h1 : n % 2 = 1
        · simp only [h0, h1, if_true, if_false, Tr.get]
          split
          · rfl
          · split
            · rw [Tr.get_put_ne f _ _ _ _ (by omega)]; rfl
            · rfl
        · simp only [h0, h1, if_false, Tr.get]
          split
          · rfl
          · split
            · rfl
            · rw [Tr.get_put_ne f _ _ _ _ (by omega)]; rfl
    | node l v r =>
      simp only [Tr.put]
      by_cases h0 : n = 0
      · subst h0
        have : m ≠ 0 := fun e => h e.symm
        simp only [if_true, Tr.get, this, if_false]
      · by_cases h1 : n % 2 = 1
        · simp only [h0, h1, if_true, if_false, Tr.get]
          split
          · rfl
          · split
            · exact Tr.get_put_ne f _ _ _ _ (by omega)
            · rfl
        · simp only [h0, h1, if_false, Tr.get]
          split
          · rfl
          · split
            · rfl
            · exact Tr.get_put_ne f _ _ _ _ (by omega)
structure AHeap where
  next : Nat
  objs : Tr
theorem two_pow_gt (n : Nat) : n + 1 < 2 ^ (n + 2) := by
  have := Nat.lt_two_pow_self (n := n)
  rw [Nat.pow_succ, Nat.pow_succ]; omega
def AHeap.get (h : AHeap) (id : Nat) : Option AObj := h.objs.get id
def AHeap.put (h : AHeap) (id : Nat) (o : AObj) : AHeap := { h with objs := h.objs.put (id + 2) id (some o) }
def AHeap.kill (h : AHeap) (id : Nat) : AHeap := { h with objs := h.objs.put (id + 2) id none }
def AHeap.new (h : AHeap) (o : AObj) : AHeap := { h with next := h.next + 1, objs := h.objs.put (h.next + 2) h.next (some o) }
theorem AHeap.get_put_same (h : AHeap) (id : Nat) (o : AObj) : (h.put id o).get id = some o :=
  Tr.get_put_same _ _ _ _ (two_pow_gt _)
theorem AHeap.get_put_ne (h : AHeap) {id j : Nat} (o : AObj) (hn : id ≠ j) : (h.put id o).get j = h.get j :=
  Tr.get_put_ne _ _ _ _ _ hn
theorem AHeap.get_kill_same (h : AHeap) (id : Nat) : (h.kill id).get id = none :=
  Tr.get_put_same _ _ _ _ (two_pow_gt _)
theorem AHeap.get_kill_ne (h : AHeap) {id j : Nat} (hn : id ≠ j) : (h.kill id).get j = h.get j :=
  Tr.get_put_ne _ _ _ _ _ hn
theorem AHeap.get_new_same (h : AHeap) (o : AObj) : (h.new o).get h.next = some o :=
  Tr.get_put_same _ _ _ _ (two_pow_gt _)
theorem AHeap.get_new_ne (h : AHeap) {j : Nat} (o : AObj) (hn : h.next ≠ j) : (h.new o).get j = h.get j :=
  Tr.get_put_ne _ _ _ _ _ hn
end Go.Proofs.YtlkfclgkinaibaaGreat

namespace Go.Proofs.YtlkfclgkinaibaaGreat
theorem byteAt_testBit (n i j : Nat) : (byteAt n i).testBit j = (decide (j < 8) && n.testBit (8 * i + j)) := by
  unfold byteAt
  rw [show (256 : Nat) = 2 ^ 8 from rfl, Nat.testBit_mod_two_pow, Nat.testBit_shiftRight]
theorem bput_testBit (n off m v k : Nat) : (bput n off m v).testBit k =
    if k < 8 * off then n.testBit k else if k < 8 * (off + m) then v.testBit (k - 8 * off) else n.testBit k := by
  unfold bput
  rw [Nat.testBit_or, Nat.testBit_or, Nat.testBit_shiftLeft, Nat.testBit_shiftLeft, Nat.testBit_shiftRight, Nat.testBit_mod_two_pow, Nat.testBit_mod_two_pow]
  by_cases h1 : k < 8 * off
  · have h2 : ¬ k ≥ 8 * (off + m) := by omega
    have h3 : ¬ k ≥ 8 * off := by omega
    simp only [h1, h2, h3, decide_false, decide_true, Bool.false_and, Bool.true_and, Bool.false_or, if_true]
  · by_cases h2 : k < 8 * (off + m)
    · have h3 : ¬ k ≥ 8 * (off + m) := by omega
      have h4 : k ≥ 8 * off := by omega
      have h5 : k - 8 * off < 8 * m := by omega
      simp only [h1, h2, h3, h4, h5, decide_false, decide_true, Bool.false_and, Bool.true_and, Bool.false_or, Bool.or_false, if_true, if_false]
    · have h3 : k ≥ 8 * (off + m) := by omega
      have h5 : ¬ k - 8 * off < 8 * m := by omega
      have h4 : k ≥ 8 * off := by omega
      have h6 : 8 * (off + m) + (k - 8 * (off + m)) = k := by omega
      simp only [h1, h2, h3, h4, h5, h6, decide_false, decide_true, Bool.false_and, Bool.true_and, Bool.and_false, Bool.or_false, if_false]
theorem byteAt_bput (n off m v i : Nat) : byteAt (bput n off m v) i = if off ≤ i ∧ i < off + m then byteAt v (i - off) else byteAt n i := by
  apply Nat.eq_of_testBit_eq
  intro j
  by_cases h : off ≤ i ∧ i < off + m
  · rw [if_pos h, byteAt_testBit, byteAt_testBit, bput_testBit]
    by_cases hj : j < 8
    · rw [if_neg (by omega), if_pos (by omega)]
      congr 2; omega
    · simp [hj]
  · rw [if_neg h, byteAt_testBit, byteAt_testBit, bput_testBit]
    by_cases hj : j < 8
    · by_cases h1 : i < off
      · rw [if_pos (by omega)]
      · rw [if_neg (by omega), if_neg (by omega)]
    · simp [hj]
theorem byteAt_bsub (n off len i : Nat) (h : i < len) : byteAt (bsub n off len) i = byteAt n (off + i) := by
  apply Nat.eq_of_testBit_eq
  intro j
  rw [byteAt_testBit, byteAt_testBit]
  unfold bsub
  rw [Nat.testBit_mod_two_pow, Nat.testBit_shiftRight]
  by_cases hj : j < 8
  · have : 8 * i + j < 8 * len := by omega
    simp only [hj, this, decide_true, Bool.true_and]
    congr 1; omega
  · simp [hj]
theorem byteAt_small (b : Nat) (h : b < 256) : byteAt b 0 = b := by
  unfold byteAt; simp; omega
theorem byteAt_zero (i : Nat) : byteAt 0 i = 0 := by unfold byteAt; simp
theorem bytes_ext (a b len : Nat) (h : ∀ i, i < len → byteAt a i = byteAt b i) : a % 2 ^ (8 * len) = b % 2 ^ (8 * len) := by
  apply Nat.eq_of_testBit_eq
  intro k
  rw [Nat.testBit_mod_two_pow, Nat.testBit_mod_two_pow]
  by_cases hk : k < 8 * len
  · have := h (k / 8) (by omega)
    have h2 := congrArg (fun n => n.testBit (k % 8)) this
    simp only [byteAt_testBit] at h2
    have h3 : k % 8 < 8 := Nat.mod_lt _ (by decide)
    have h4 : 8 * (k / 8) + k % 8 = k := by omega
    simpa [hk, h3, h4] using h2
  · simp [hk]
theorem bytes_eq_of_mod {a b len : Nat} (h : a % 2 ^ (8 * len) = b % 2 ^ (8 * len)) (i : Nat) (hi : i < len) : byteAt a i = byteAt b i := by
  apply Nat.eq_of_testBit_eq
  intro j
  rw [byteAt_testBit, byteAt_testBit]
  by_cases hj : j < 8
  · have h2 := congrArg (fun n => n.testBit (8 * i + j)) h
    simp only [Nat.testBit_mod_two_pow] at h2
    have : 8 * i + j < 8 * len := by omega
    simpa [this, hj] using h2
  · simp [hj]
theorem Dat.get_lt {d : Dat} {i : Nat} {v : AV} (h : d.get i = some v) : i < d.len := by
  cases d with
  | vals cs =>
    simp only [Dat.get] at h
    rcases Nat.lt_or_ge i cs.length with g | g
    · exact g
    · rw [List.getElem?_eq_none g] at h; cases h
  | bytes l n =>
    simp only [Dat.get] at h
    split at h
    · assumption
    · cases h
theorem Dat.get_of_lt {d : Dat} {i : Nat} (h : i < d.len) : ∃ v, d.get i = some v := by
  cases d with
  | vals cs => exact ⟨cs[i]'h, by simp only [Dat.get]; exact List.getElem?_eq_getElem h⟩
  | bytes l n => exact ⟨_, by simp only [Dat.get]; exact if_pos h⟩
theorem Dat.put_len {d e d' : Dat} {off : Nat} (h : d.put off e = some d') : d'.len = d.len ∧ off + e.len ≤ d.len := by
  unfold Dat.put at h
  split at h
  · split at h
    · cases h
      simp only [Dat.len, List.length_append, List.length_take, List.length_drop]; omega
    · cases h
  · split at h
    · rename_i hle; cases h; exact ⟨rfl, hle⟩
    · cases h
  · split at h
    · rename_i hle; cases h; exact ⟨rfl, hle.1⟩
    · cases h
  · cases h
theorem Dat.get_put_in {d e d' : Dat} {off : Nat} (h : d.put off e = some d') (i : Nat) (hi : off ≤ i ∧ i < off + e.len) : d'.get i = e.get (i - off) := by
  unfold Dat.put at h
  split at h
  · rename_i cs vs
    simp only [Dat.len] at hi
    split at h
    · rename_i hle
      cases h
      simp only [Dat.get]
      rw [List.append_assoc, List.getElem?_append_right (by simp; omega), List.getElem?_append_left (by simp; omega)]
      congr 1; simp; omega
    · cases h
  · rename_i l n m v
    simp only [Dat.len] at hi
    split at h
    · cases h
      simp only [Dat.get]
      rw [if_pos (by omega), byteAt_bput, if_pos hi, if_pos (by omega)]
    · cases h
  · rename_i l n b
    simp only [Dat.len, List.length_cons, List.length_nil] at hi
    split at h
    · rename_i hb
      cases h
      simp only [Dat.get]
      have e : i - off = 0 := by omega
      rw [if_pos (by omega), byteAt_bput, if_pos (by omega), e, byteAt_small _ (by omega)]
      simp; omega
    · cases h
  · cases h
theorem Dat.get_put_out {d e d' : Dat} {off : Nat} (h : d.put off e = some d') (i : Nat) (hi : ¬ (off ≤ i ∧ i < off + e.len)) : d'.get i = d.get i := by
  unfold Dat.put at h
  split at h
  · rename_i cs vs
    simp only [Dat.len] at hi
    split at h
    · rename_i hle
      cases h
      simp only [Dat.get]
      by_cases h1 : i < off
      · rw [List.append_assoc, List.getElem?_append_left (by simp; omega), List.getElem?_take]
        simp [h1]
      · rw [List.getElem?_append_right (by simp; omega), List.getElem?_drop]
        congr 1; simp; omega
    · cases h
  · rename_i l n m v
    simp only [Dat.len] at hi
    split at h
    · cases h
      simp only [Dat.get]
      rw [byteAt_bput, if_neg hi]
    · cases h
  · rename_i l n b
    simp only [Dat.len, List.length_cons, List.length_nil] at hi
    split at h
    · rename_i hb
      cases h
      simp only [Dat.get]
      rw [byteAt_bput, if_neg hi]
    · cases h
  · cases h
theorem Dat.take_spec {d e : Dat} {off len : Nat} (h : d.take off len = some e) : e.len = len ∧ off + len ≤ d.len ∧ ∀ i, i < len → e.get i = d.get (off + i) := by
  unfold Dat.take at h
  split at h
  · split at h
    · rename_i hle
      cases h
      refine ⟨by simp only [Dat.len, List.length_take, List.length_drop]; omega, hle, fun i hi => ?_⟩
      simp only [Dat.get, List.getElem?_take, hi, if_true, List.getElem?_drop]
    · cases h
  · split at h
    · rename_i hle
      cases h
      refine ⟨rfl, hle, fun i hi => ?_⟩
      simp only [Dat.get]
      rw [if_pos hi, if_pos (by omega), byteAt_bsub _ _ _ _ hi]
    · cases h
theorem Dat.app_len {d e f : Dat} (h : d.app e = some f) : f.len = d.len + e.len := by
  unfold Dat.app at h
  split at h
  · cases h; simp [Dat.len]
  · cases h; rfl
  · split at h
    · cases h; simp [Dat.len]
    · cases h
  · cases h; simp [Dat.len]
  · cases h; simp [Dat.len]
  · cases h
theorem Dat.app_left {d e f : Dat} (h : d.app e = some f) (i : Nat) (hi : i < d.len) : f.get i = d.get i := by
  unfold Dat.app at h
  split at h
  · cases h
    simp only [Dat.len] at hi
    simp only [Dat.get]
    exact List.getElem?_append_left hi
  · rename_i l n m v
    cases h
    simp only [Dat.len] at hi
    simp only [Dat.get]
    rw [if_pos (by omega), if_pos hi, byteAt_bput, if_neg (by omega), byteAt_bsub _ _ _ _ hi]; simp
  · rename_i l n b
    simp only [Dat.len] at hi
    split at h
    · cases h
      simp only [Dat.get]
      rw [if_pos (by omega), if_pos hi, byteAt_bput, if_neg (by omega), byteAt_bsub _ _ _ _ hi]; simp
    · cases h
  · simp [Dat.len] at hi
  · cases h; rfl
  · cases h
theorem Dat.app_right {d e f : Dat} (h : d.app e = some f) (i : Nat) (hi : d.len ≤ i) : f.get i = e.get (i - d.len) := by
  unfold Dat.app at h
  split at h
  · cases h
    simp only [Dat.len] at hi
    simp only [Dat.get, Dat.len]
    exact List.getElem?_append_right hi
  · rename_i l n m v
    cases h
    simp only [Dat.len] at hi
    show (if i < l + m then some (AV.int .u8 (byteAt (bput (bsub n 0 l) l m v) i)) else none) = (if i - l < m then some (AV.int .u8 (byteAt v (i - l))) else none)
    by_cases h2 : i < l + m
    · rw [if_pos h2, if_pos (by omega), byteAt_bput, if_pos (by omega)]
    · rw [if_neg h2, if_neg (by omega)]
  · rename_i l n b
    simp only [Dat.len] at hi
    split at h
    · rename_i hb
      cases h
      simp only [Dat.get, Dat.len]
      by_cases h2 : i < l + 1
      · have e : i - l = 0 := by omega
        rw [if_pos h2, byteAt_bput, if_pos (by omega), e, byteAt_small _ (by omega)]
        simp; omega
      · rw [if_neg h2]
        have e : ∃ k, i - l = k + 1 := ⟨i - l - 1, by omega⟩
        obtain ⟨k, e⟩ := e
        rw [e]; simp
    · cases h
  · cases h; simp [Dat.len]
  · rename_i l n
    cases h
    simp only [Dat.len] at hi
    simp only [Dat.get]
    rw [if_neg (by omega)]; simp
  · cases h
theorem Dat.rep_spec (z : Dat) (n : Nat) (hz : (z.rep n).len = n * z.len) (i : Nat) (hi : i < n * z.len) : (z.rep n).get i = z.get (i % z.len) := by
  cases z with
  | vals cs =>
    simp only [Dat.rep, Dat.get, Dat.len] at *
    clear hz
    induction n generalizing i with
    | zero => omega
    | succ n ih =>
      rw [List.replicate_succ, List.flatten_cons]
      have hc : 0 < cs.length := by
        rcases Nat.eq_zero_or_pos cs.length with h | h
        · rw [h] at hi; omega
        · exact h
      by_cases h1 : i < cs.length
      · rw [List.getElem?_append_left h1, Nat.mod_eq_of_lt h1]
      · rw [List.getElem?_append_right (by omega), ih (i - cs.length) (by rw [Nat.succ_mul] at hi; omega)]
        congr 1
        exact (Nat.mod_eq_sub_mod (by omega)).symm
  | bytes l v =>
    simp only [Dat.rep, Dat.len] at *
    by_cases hv : v = 0
    · simp only [hv, if_true, Dat.get, byteAt_zero]
      rw [if_pos hi, if_pos (Nat.mod_lt _ (by
        rcases Nat.eq_zero_or_pos l with h | h
        · rw [h] at hi; omega
        · exact h))]
    · simp only [hv, if_false, List.length_nil] at hz
      omega
end Go.Proofs.YtlkfclgkinaibaaGreat

namespace Go.Proofs.YtlkfclgkinaibaaGreat
def AObj.rw : AObj → Bool
  | .row _ _ _ ro _ => !ro
  | _ => true
def RowR (μ : Mu) (w : World) (l : Loc) (elem es : Nat) (soft ro : Bool) (d : Dat) : Prop :=
  ∃ c fr, w.heap[l.block]? = some (.cells c elem fr) ∧ (∀ (i : Nat) (v : AV), d.get i = some v → ∃ cv, c[l.off + i]? = some cv ∧ VR μ v cv ∧ cv.oneCell' = true) ∧
    (ro = false → fr = (0, 0) ∧ c.size = l.off + l.cap * es ∧ d.len ≤ l.cap * es ∧ (soft = false → d.len = l.cap * es ∧ l.off = 0))
def EntR (μ : Mu) : List (AV × AV × Nat) → List MapEntry → Prop
  | [], l => l = []
  | (k, v, b) :: es, l => ∃ c cs, l = c :: cs ∧ VR μ k c.key ∧ VR μ v c.val ∧ c.born = b ∧ EntR μ es cs
def EnvR (μ : Mu) (e : List AV) (tmps : Array Value) : Prop :=
  e.length ≤ tmps.size ∧ ∀ (i : Nat) (v : AV), (e[i]?).bind AV.notJunk = some v → ∃ c, tmps[i]? = some c ∧ VR μ v c
theorem notJunk_some {v x : AV} (h : v.notJunk = some x) : v = x := by cases v <;> simp_all [AV.notJunk]
theorem EnvR.ext {μ μ' : Mu} {e : List AV} {t : Array Value} (h : EnvR μ e t) (hx : Ext μ μ') : EnvR μ' e t :=
  ⟨h.1, fun i v hv => by obtain ⟨c, p, q⟩ := h.2 i v hv; exact ⟨c, p, VR.ext hx _ _ q⟩⟩
abbrev Lam := Code → ACode → Prop
def AExit.code : AExit → Code
  | .normal => .skip
  | .exit id => .exit id
  | .ret => .ret
def ObjR (Λ : Lam) (μ : Mu) (w : World) (l : Loc) : AObj → Prop
  | .row elem es soft ro d => RowR μ w l elem es soft ro d
  | .map es clock => ∃ cs : List MapEntry, w.heap[l.block]? = some (.map cs.toArray clock) ∧ EntR μ es cs
  | .iter m since seen stepped => l.off = 0 ∧ ∃ r, w.heap[l.block]? = some (.mapIter r since seen.toArray stepped) ∧
      (match m with | none => r = none | some id => ∃ k, μ id = some k ∧ r = some k.block)
  | .loop st j tmps ps asg body => ∃ r : Go.Loop, w.heap[l.block]? = some (.loop r) ∧ r.state = st ∧ r.pending = j.map AExit.code ∧ EnvR μ tmps r.tmps ∧ r.params.toList = ps ∧ Λ r.assign asg ∧ Λ r.body body
structure Rel (Λ : Lam) (μ : Mu) (h : AHeap) (w : World) : Prop where
  obj : ∀ id o, h.get id = some o → ∃ l, μ id = some l ∧ ObjR Λ μ w l o
  inj : ∀ i j oi oj li lj, h.get i = some oi → h.get j = some oj → i ≠ j → oi.rw = true → μ i = some li → μ j = some lj → li.block ≠ lj.block
  dom : ∀ id l, μ id = some l → id < h.next ∧ l.block < w.heap.size
structure Step (μ : Mu) (h : AHeap) (w : World) (μ' : Mu) (h' : AHeap) (w' : World) : Prop where
  ext : Ext μ μ'
  next : h.next ≤ h'.next
  low : ∀ id, id < h.next → μ' id = μ id
  os : w'.os = w.os
  tape : w'.tape = w.tape
  output : w'.output = w.output
  size : w.heap.size ≤ w'.heap.size
  frame : ∀ b, b < w.heap.size → (∀ id o l, h.get id = some o → o.rw = true → μ id = some l → l.block ≠ b) → w'.heap[b]? = w.heap[b]?
  own : ∀ id o l, h'.get id = some o → o.rw = true → μ' id = some l →
    w.heap.size ≤ l.block ∨ ∃ id0 o0 l0, h.get id0 = some o0 ∧ o0.rw = true ∧ μ id0 = some l0 ∧ l0.block = l.block
  any : ∀ id o l, h'.get id = some o → μ' id = some l → w.heap.size ≤ l.block ∨ ∃ id0 o0 l0, h.get id0 = some o0 ∧ μ id0 = some l0 ∧ l0.block = l.block
theorem Step.refl (μ : Mu) (h : AHeap) (w : World) : Step μ h w μ h w :=
  ⟨Ext.refl μ, Nat.le_refl _, fun _ _ => rfl, rfl, rfl, rfl, Nat.le_refl _, fun _ _ _ => rfl, fun id o l a b c => .inr ⟨id, o, l, a, b, c, rfl⟩, fun id o l a c => .inr ⟨id, o, l, a, c, rfl⟩⟩
theorem Step.trans {μ₁ h₁ w₁ μ₂ h₂ w₂ μ₃ h₃ w₃} (a : Step μ₁ h₁ w₁ μ₂ h₂ w₂) (b : Step μ₂ h₂ w₂ μ₃ h₃ w₃) : Step μ₁ h₁ w₁ μ₃ h₃ w₃ := by
  refine ⟨a.ext.trans b.ext, Nat.le_trans a.next b.next, fun id hid => ?_, b.os.trans a.os, b.tape.trans a.tape, b.output.trans a.output, Nat.le_trans a.size b.size, fun k hk hf => ?_, fun id o l ho hr hm => ?_, fun id o l ho hm => ?_⟩
  · rw [b.low id (Nat.lt_of_lt_of_le hid a.next), a.low id hid]
  · rw [b.frame k (Nat.lt_of_lt_of_le hk a.size) ?_, a.frame k hk hf]
    intro id o l ho hr hm e
    rcases a.own id o l ho hr hm with h | ⟨i0, o0, l0, p, q, r, s⟩
    · omega
    · exact hf i0 o0 l0 p q r (s.trans e)
  · rcases b.own id o l ho hr hm with h | ⟨i0, o0, l0, p, q, r, s⟩
    · exact .inl (Nat.le_trans a.size h)
    · rcases a.own i0 o0 l0 p q r with h' | ⟨i1, o1, l1, p', q', r', s'⟩
      · exact .inl (s ▸ h')
      · exact .inr ⟨i1, o1, l1, p', q', r', s'.trans s⟩
  · rcases b.any id o l ho hm with h | ⟨i0, o0, l0, p, r, s⟩
    · exact .inl (Nat.le_trans a.size h)
    · rcases a.any i0 o0 l0 p r with h' | ⟨i1, o1, l1, p', r', s'⟩
      · exact .inl (s ▸ h')
      · exact .inr ⟨i1, o1, l1, p', r', s'.trans s⟩
variable {Λ : Lam}
theorem Rel.drew {μ h w} (r : Rel Λ μ h w) (n : Nat) : Rel Λ μ h { w with drawn := n } :=
  ⟨fun id o e => by
    obtain ⟨l, hl, ho⟩ := r.obj id o e
    refine ⟨l, hl, ?_⟩
    cases o <;> exact ho, r.inj, r.dom⟩
theorem Step.drew (μ : Mu) (h : AHeap) (w : World) (n : Nat) : Step μ h w μ h { w with drawn := n } :=
  ⟨Ext.refl μ, Nat.le_refl _, fun _ _ => rfl, rfl, rfl, rfl, Nat.le_refl _, fun _ _ _ => rfl, fun id o l a b c => .inr ⟨id, o, l, a, b, c, rfl⟩, fun id o l a c => .inr ⟨id, o, l, a, c, rfl⟩⟩
theorem EntR.ext {μ μ' : Mu} (h : Ext μ μ') : ∀ (a : List (AV × AV × Nat)) (b : List MapEntry), EntR μ a b → EntR μ' a b
  | [], _, e => e
  | (k, v, b) :: es, l, e => by
    obtain ⟨c, cs, r, p, q, s, t⟩ := e
    exact ⟨c, cs, r, VR.ext h _ _ p, VR.ext h _ _ q, s, EntR.ext h es cs t⟩
theorem RowR.ext {μ μ' : Mu} (h : Ext μ μ') {w w' : World} {l elem es soft ro d} (e : RowR μ w l elem es soft ro d) (hb : w'.heap[l.block]? = w.heap[l.block]?) :
    RowR μ' w' l elem es soft ro d := by
  obtain ⟨c, fr, p, q, r⟩ := e
  refine ⟨c, fr, hb.trans p, fun i v hv => ?_, r⟩
  obtain ⟨cv, a, b, d⟩ := q i v hv
  exact ⟨cv, a, VR.ext h _ _ b, d⟩
theorem ObjR.ext {μ μ' : Mu} (h : Ext μ μ') {w w' : World} {l : Loc} {o : AObj} (e : ObjR Λ μ w l o) (hb : w'.heap[l.block]? = w.heap[l.block]?) : ObjR Λ μ' w' l o := by
  cases o with
  | row elem es soft ro d => exact RowR.ext h e hb
  | map es clock => obtain ⟨cs, p, q⟩ := e; exact ⟨cs, hb.trans p, EntR.ext h _ _ q⟩
  | iter m since seen stepped =>
    obtain ⟨hoff, r, p, q⟩ := e
    refine ⟨hoff, r, hb.trans p, ?_⟩
    cases m with
    | none => exact q
    | some id => obtain ⟨k, a, b⟩ := q; exact ⟨k, h _ _ a, b⟩
  | loop st j tmps ps asg body =>
    obtain ⟨r, p, q1, q2, q3, q4, q5⟩ := e
    exact ⟨r, hb.trans p, q1, q2, q3.ext h, q4, q5⟩
def Mu.with (μ : Mu) (id : Nat) (l : Loc) : Mu := fun i => if i = id then some l else μ i
theorem Mu.with_same (μ : Mu) (id : Nat) (l : Loc) : μ.with id l id = some l := by simp [Mu.with]
theorem Mu.with_ne (μ : Mu) {id i : Nat} (l : Loc) (h : i ≠ id) : μ.with id l i = μ i := by simp [Mu.with, h]
theorem Ext.with {μ : Mu} {id : Nat} (l : Loc) (h : μ id = none) : Ext μ (μ.with id l) := by
  intro i k e
  by_cases hi : i = id
  · subst hi; rw [h] at e; cases e
  · rw [Mu.with_ne _ _ hi]; exact e
theorem heap_push_lt {w : World} {o : Obj} {b : Nat} (h : b < w.heap.size) : (w.heap.push o)[b]? = w.heap[b]? := by
  rw [Array.getElem?_push, if_neg (by omega)]
theorem Rel.new {μ h w} (r : Rel Λ μ h w) (o : AObj) (obj : Obj) (l : Loc) (hl : l.block = w.heap.size)
    (ho : ∀ μ', Ext μ μ' → ObjR Λ μ' { w with heap := w.heap.push obj } l o) :
    Rel Λ (μ.with h.next l) (h.new o) { w with heap := w.heap.push obj } ∧ Step μ h w (μ.with h.next l) (h.new o) { w with heap := w.heap.push obj } := by
  have hno : μ h.next = none := by
    cases e : μ h.next with
    | none => rfl
    | some k => have := (r.dom _ _ e).1; omega
  have hext : Ext μ (μ.with h.next l) := Ext.with l hno
  have hget : ∀ i, i ≠ h.next → (h.new o).get i = h.get i := fun i hi => AHeap.get_new_ne h o (fun e => hi e.symm)
  refine ⟨⟨fun id o' e => ?_, fun i j oi oj li lj hi hj hne hrw hli hlj => ?_, fun id k e => ?_⟩, ⟨hext, by simp [AHeap.new], fun id hid => Mu.with_ne _ _ (by omega), rfl, rfl, rfl, by simp, fun b hb _ => heap_push_lt hb, fun id o' k e hrw hk => ?_, fun id o' k e hk => ?_⟩⟩
  · by_cases hid : id = h.next
    · subst hid
      rw [AHeap.get_new_same h o] at e
      cases e
      exact ⟨l, Mu.with_same _ _ _, ho _ hext⟩
    · rw [hget id hid] at e
      obtain ⟨k, hk, hok⟩ := r.obj id o' e
      refine ⟨k, by rw [Mu.with_ne _ _ hid]; exact hk, ObjR.ext hext hok ?_⟩
      exact heap_push_lt (r.dom _ _ hk).2
  · by_cases hi' : i = h.next
    · subst hi'
      rw [Mu.with_same] at hli; cases hli
      rw [Mu.with_ne _ _ (fun e => hne e.symm)] at hlj
      have := (r.dom _ _ hlj).2
      omega
    · rw [hget i hi'] at hi
      rw [Mu.with_ne _ _ hi'] at hli
      by_cases hj' : j = h.next
      · subst hj'
        rw [Mu.with_same] at hlj; cases hlj
        have := (r.dom _ _ hli).2
        omega
      · rw [hget j hj'] at hj
        rw [Mu.with_ne _ _ hj'] at hlj
        exact r.inj i j oi oj li lj hi hj hne hrw hli hlj
  · by_cases hid : id = h.next
    · subst hid
      rw [Mu.with_same] at e; cases e
      simp [AHeap.new, hl]
    · rw [Mu.with_ne _ _ hid] at e
      have := r.dom _ _ e
      simp only [AHeap.new, Array.size_push]
      omega
  · by_cases hid : id = h.next
    · subst hid
      rw [Mu.with_same] at hk; cases hk
      exact .inl (by omega)
    · rw [hget id hid] at e
      rw [Mu.with_ne _ _ hid] at hk
      exact .inr ⟨id, o', k, e, hrw, hk, rfl⟩
  · by_cases hid : id = h.next
    · subst hid
      rw [Mu.with_same] at hk; cases hk
      exact .inl (by omega)
    · rw [hget id hid] at e
      rw [Mu.with_ne _ _ hid] at hk
      exact .inr ⟨id, o', k, e, hk, rfl⟩
theorem Rel.put {μ h w} (r : Rel Λ μ h w) {id : Nat} {o o' : AObj} {l : Loc} {w' : World} (hid : h.get id = some o) (hrw : o.rw = true) (hl : μ id = some l)
    (hos : w'.os = w.os) (htape : w'.tape = w.tape) (hout : w'.output = w.output) (hsz : w'.heap.size = w.heap.size)
    (hfr : ∀ b, b ≠ l.block → w'.heap[b]? = w.heap[b]?) (ho : ObjR Λ μ w' l o') :
    Rel Λ μ (h.put id o') w' ∧ Step μ h w μ (h.put id o') w' := by
  refine ⟨⟨fun i oi e => ?_, fun i j oi oj li lj hi hj hne hr hli hlj => ?_, fun i k e => ?_⟩, ⟨Ext.refl μ, Nat.le_refl _, fun _ _ => rfl, hos, htape, hout, by omega, fun b hb hf => ?_, fun i oi k e hr hk => ?_, fun i oi k e hk => ?_⟩⟩
  · by_cases hi : i = id
    · subst hi
      rw [AHeap.get_put_same h i o'] at e; cases e
      exact ⟨l, hl, ho⟩
    · rw [AHeap.get_put_ne h o' (fun e => hi e.symm)] at e
      obtain ⟨k, hk, hok⟩ := r.obj i oi e
      exact ⟨k, hk, ObjR.ext (Ext.refl μ) hok (hfr _ (fun e' => r.inj id i o oi l k hid e (fun e => hi e.symm) hrw hl hk e'.symm))⟩
  · by_cases hi' : i = id
    · subst hi'
      rw [hl] at hli; cases hli
      rw [AHeap.get_put_ne h o' hne] at hj
      exact r.inj i j o oj l lj hid hj hne hrw hl hlj
    · rw [AHeap.get_put_ne h o' (fun e => hi' e.symm)] at hi
      by_cases hj' : j = id
      · subst hj'
        exact r.inj i j oi o li lj hi hid hne hr hli hlj
      · rw [AHeap.get_put_ne h o' (fun e => hj' e.symm)] at hj
        exact r.inj i j oi oj li lj hi hj hne hr hli hlj
  · have := r.dom i k e; exact ⟨this.1, by omega⟩
  · exact hfr b (fun e => hf id o l hid hrw hl e.symm)
  · by_cases hi : i = id
    · subst hi
      rw [hl] at hk; cases hk
      exact .inr ⟨i, o, l, hid, hrw, hl, rfl⟩
    · rw [AHeap.get_put_ne h o' (fun e => hi e.symm)] at e
      exact .inr ⟨i, oi, k, e, hr, hk, rfl⟩
  · by_cases hi : i = id
    · subst hi
      rw [hl] at hk; cases hk
      exact .inr ⟨i, o, l, hid, hl, rfl⟩
    · rw [AHeap.get_put_ne h o' (fun e => hi e.symm)] at e
      exact .inr ⟨i, oi, k, e, hk, rfl⟩
theorem Rel.kill {μ h w} (r : Rel Λ μ h w) {id : Nat} {o₀ : AObj} (h₀ : h.get id = some o₀) : Rel Λ μ (h.kill id) w ∧ Step μ h w μ (h.kill id) w := by
  have key : ∀ i o, (h.kill id).get i = some o → h.get i = some o := by
    intro i o e
    by_cases hi : i = id
    · subst hi; rw [AHeap.get_kill_same h i] at e; cases e
    · rwa [AHeap.get_kill_ne h (fun e => hi e.symm)] at e
  exact ⟨⟨fun i o e => r.obj i o (key i o e), fun i j oi oj li lj hi hj => r.inj i j oi oj li lj (key i oi hi) (key j oj hj), r.dom⟩,
    ⟨Ext.refl μ, Nat.le_refl _, fun _ _ => rfl, rfl, rfl, rfl, Nat.le_refl _, fun _ _ _ => rfl, fun i o l e hr hl => .inr ⟨i, o, l, key i o e, hr, hl, rfl⟩, fun i o l e hl => .inr ⟨i, o, l, key i o e, hl, rfl⟩⟩⟩
theorem Rel.lt {μ h w} (r : Rel Λ μ h w) {id o} (e : h.get id = some o) : id < h.next := by
  obtain ⟨l, hl, _⟩ := r.obj id o e
  exact (r.dom id l hl).1
structure Less (a b : AHeap) : Prop where
  get : ∀ id o, a.get id = some o → b.get id = some o
  next : b.next ≤ a.next
theorem Less.refl (h : AHeap) : Less h h := ⟨fun _ _ x => x, Nat.le_refl _⟩
theorem Less.trans {a b c : AHeap} (x : Less a b) (y : Less b c) : Less a c := ⟨fun id o e => y.get id o (x.get id o e), Nat.le_trans y.next x.next⟩
theorem Less.rel {Λ : Lam} {μ : Mu} {a b : AHeap} {w : World} (x : Less a b) (r : Rel Λ μ b w) : Rel Λ μ a w :=
  ⟨fun id o e => r.obj id o (x.get id o e), fun i j oi oj li lj e1 e2 => r.inj i j oi oj li lj (x.get i oi e1) (x.get j oj e2), fun id l e => ⟨Nat.lt_of_lt_of_le (r.dom id l e).1 x.next, (r.dom id l e).2⟩⟩
theorem Less.step {μ μ' : Mu} {h a b : AHeap} {w w' : World} (x : Less a b) (s : Step μ h w μ' b w') : Step μ h w μ' a w' :=
  ⟨s.ext, Nat.le_trans s.next x.next, s.low, s.os, s.tape, s.output, s.size, s.frame, fun id o l e => s.own id o l (x.get id o e), fun id o l e => s.any id o l (x.get id o e)⟩
end Go.Proofs.YtlkfclgkinaibaaGreat

namespace Go.Proofs.YtlkfclgkinaibaaGreat
def scEq : Sc → AV → AV → Option Bool
  | .int, .int k a, .int k' b => if k = k' then some (a == b) else none
  | .bool, .bool a, .bool b => some (a == b)
  | .str, .str a, .str b => some (a == b)
  | _, _, _ => none
def eqFlat : List Sc → List AV → List AV → Option Bool
  | [], [], [] => some true
  | s :: ss, a :: as, b :: bs => match scEq s a b with
    | some true => eqFlat ss as bs
    | r => r
  | _, _, _ => none
def nilOf : EqK → AV → Option Bool
  | .ptr, .nilptr => some true
  | .ptr, .ptr _ _ => some false
  | .slice, .nilsl => some true
  | .slice, .esl => some false
  | .slice, .sl _ _ _ _ => some false
  | .slice, .ssl _ _ _ _ => some false
  | .map, .nilmap => some true
  | .map, .map _ => some false
  | .func, .nilfunc => some true
  | .func, .func _ _ _ => some false
  | _, _ => none
def nilEq : Option Bool → Option Bool → Option Bool
  | some true, some y => some y
  | some false, some true => some false
  | _, _ => none
def avEq : EqK → AV → AV → Option Bool
  | .scal s, a, b => scEq s a b
  | .flat l, .agg a, .agg b => eqFlat l a b
  | .flat _, _, _ => none
  | .bytes len, .bytes m x, .bytes n y => if m = len ∧ n = len then some (x % 2 ^ (8 * len) == y % 2 ^ (8 * len)) else none
  | .bytes _, _, _ => none
  | k, a, b => nilEq (nilOf k a) (nilOf k b)
def packStr (l n : Nat) : ByteArray := ⟨((List.range l).map fun i => UInt8.ofNat (byteAt n i)).toArray⟩
def fills (parts : List (Nat × Nat)) (args : List AV) (d : Dat) : Option Dat :=
  match parts, args with
  | [], [] => some d
  | (off, size) :: ps, a :: as => if a.dat.len = size ∧ 0 < size then (d.put off a.dat).bind (fills ps as) else none
  | _, _ => none
def Dat.agg : Dat → AV
  | .vals cs => .agg cs
  | .bytes l n => .bytes l n
def AV.isAgg : AV → Bool
  | .agg _ => true
  | .bytes _ _ => true
  | _ => false
def Dat.part (d : Dat) (off size : Nat) (agg : Bool) : Option AV := if agg then d.sub off size else d.get off
def newRow' (h : AHeap) (elem es : Nat) (soft : Bool) (d : Dat) : Option AHeap :=
  if 0 < es then some (h.new (.row elem es soft false d)) else none
def binInt (op : BinOp) (k : IntKind) (a : Int) (k' : IntKind) (b : Int) : Option AV :=
  match op with
  | .shl => if b < 0 then none else some (.int k (k.wrap (a * 2 ^ (Nat.min b.toNat k.bits))))
  | .shr => if b < 0 then none else some (.int k (a.fdiv (2 ^ (Nat.min b.toNat k.bits))))
  | op => if k ≠ k' then none else match op with
    | .add => some (.int k (k.wrap (a + b)))
    | .sub => some (.int k (k.wrap (a - b)))
    | .mul => some (.int k (k.wrap (a * b)))
    | .quo => if b = 0 then none else some (.int k (k.wrap (a.tdiv b)))
    | .rem => if b = 0 then none else some (.int k (a.tmod b))
    | .and => some (.int k (k.wrap (BitVec.ofInt k.bits a &&& BitVec.ofInt k.bits b).toNat))
    | .or => some (.int k (k.wrap (BitVec.ofInt k.bits a ||| BitVec.ofInt k.bits b).toNat))
    | .xor => some (.int k (k.wrap (BitVec.ofInt k.bits a ^^^ BitVec.ofInt k.bits b).toNat))
    | .andNot => some (.int k (k.wrap (BitVec.ofInt k.bits a &&& ~~~(BitVec.ofInt k.bits b)).toNat))
    | .eql => some (.bool (a == b))
    | .neq => some (.bool (a != b))
    | .lss => some (.bool (a < b))
    | .leq => some (.bool (a ≤ b))
    | .gtr => some (.bool (a > b))
    | .geq => some (.bool (a ≥ b))
    | _ => none
def bounds3 (len cap : Nat) (lo hi mx : Bool) (args : List AV) : Option (Nat × Nat × Nat) :=
  match lo, hi, mx with
  | false, false, false => match args with
    | [] => some (0, len, cap)
    | _ => none
  | true, false, false => match args with
    | [.int _ l] => if 0 ≤ l ∧ l ≤ len then some (l.toNat, len, cap) else none
    | _ => none
  | false, true, false => match args with
    | [.int _ r] => if 0 ≤ r ∧ r ≤ cap then some (0, r.toNat, cap) else none
    | _ => none
  | true, true, false => match args with
    | [.int _ l, .int _ r] => if 0 ≤ l ∧ l ≤ r ∧ r ≤ cap then some (l.toNat, r.toNat, cap) else none
    | _ => none
  | false, true, true => match args with
    | [.int _ r, .int _ m] => if 0 ≤ r ∧ r ≤ m ∧ m ≤ cap then some (0, r.toNat, m.toNat) else none
    | _ => none
  | true, true, true => match args with
    | [.int _ l, .int _ r, .int _ m] => if 0 ≤ l ∧ l ≤ r ∧ r ≤ m ∧ m ≤ cap then some (l.toNat, r.toNat, m.toNat) else none
    | _ => none
  | _, _, _ => none
def sliceDat (h : AHeap) (es : Nat) (v : AV) : Option Dat :=
  match v with
  | .nilsl => some (.vals [])
  | .esl => some (.vals [])
  | .sl id off len _ => match h.get id with
    | some (.row _ _ _ _ d) => d.take off (len * es)
    | _ => none
  | .ssl id idx es' len => match h.get id with
    | some (.row _ _ _ _ d) => if es' = es then d.take (idx * es) (len * es) else none
    | _ => none
  | _ => none
def sliceLen : AV → Option Nat
  | .nilsl => some 0
  | .esl => some 0
  | .sl _ _ len _ => some len
  | .ssl _ _ _ len => some len
  | _ => none
def findE (k : EqK) (key : AV) : List (AV × AV × Nat) → Option (Option Nat)
  | [] => some none
  | (x, _, _) :: es => match avEq k key x with
    | some true => some (some 0)
    | some false => (findE k key es).map (Option.map (· + 1))
    | none => none
def appendTo (h : AHeap) (elem es bytes : Nat) (s : AV) (new : Dat) (k : Nat) : Option (AV × AHeap) :=
  if k = 0 then (match s with
    | .sl _ _ len cap => if len ≤ cap then some (s, h) else none
    | .ssl _ _ _ _ => some (s, h)
    | .nilsl => some (s, h)
    | .esl => some (s, h)
    | _ => none)
  else match s with
  | .nilsl =>
    if k * bytes ≤ 2 ^ 40 ∧ k ≤ 2 ^ 40 ∧ new.len = k * es then (newRow' h elem es true new).map fun h' => (.ssl h.next 0 es k, h') else none
  | .sl id off len cap =>
    match h.get id with
    | some (.row elem' es' soft ro d) =>
      if len + k ≤ cap then
        if ro then none else (d.put (off + len * es) new).map fun d' => (.sl id off (len + k) cap, h.put id (.row elem' es' soft ro d'))
      else if (len + k) * bytes ≤ 2 ^ 40 ∧ len + k ≤ 2 ^ 40 ∧ new.len = k * es then
        (d.take off (len * es)).bind fun old => (old.app new).bind fun all =>
          (newRow' h elem es true all).map fun h' => (.ssl h.next 0 es (len + k), h')
      else none
    | _ => none
  | .ssl id idx es' len =>
    match h.get id with
    | some (.row elem' es'' true false d) =>
      if es' = es ∧ es'' = es ∧ elem' = elem ∧ 0 < es then
        if (idx + len + k) * es ≤ d.len then
          (d.put ((idx + len) * es) new).map fun d' => (.ssl id idx es (len + k), h.put id (.row elem' es'' true false d'))
        else if (idx + len) * es = d.len ∧ (len + k) * bytes ≤ 2 ^ 40 ∧ len + k ≤ 2 ^ 40 ∧ new.len = k * es then
          (d.take (idx * es) (len * es)).bind fun old => (old.app new).bind fun all =>
            (newRow' (h.kill id) elem es true all).map fun h' => (.ssl h.next 0 es (len + k), h')
        else none
      else none
    | _ => none
  | _ => none
def aop (o : AOp) (args : List AV) (h : AHeap) : Option (AV × AHeap) :=
  match o with
  | .mv => match args with
    | [x] => some (x, h)
    | _ => none
  | .pick => match args with
    | [.bool c, a, b] => some (if c then a else b, h)
    | _ => none
  | .alloc elem es z => match args with
    | [] => if z.len = es then (newRow' h elem es false z).map fun h' => (.ptr h.next 0, h') else none
    | _ => none
  | .box elem es => match args with
    | [x] => if x.dat.len = es ∧ 0 < es then (newRow' h elem es false x.dat).map fun h' => (.ptr h.next 0, h') else none
    | _ => none
  | .build z parts => (fills parts args z.dat).map fun d => (d.agg, h)
  | .bslice elem es len z parts =>
    (fills (parts.map fun i => (i * es, es)) args (z.rep len)).bind fun d =>
      if d.len = len * es then (newRow' h elem es false d).map fun h' => (.sl h.next 0 len len, h') else none
  | .load1 => match args with
    | [.ptr id off] => match h.get id with
      | some (.row _ _ _ _ d) => (d.get off).map (·, h)
      | _ => none
    | _ => none
  | .loadn n => match args with
    | [.ptr id off] => match h.get id with
      | some (.row _ _ _ _ d) => (d.sub off n).map (·, h)
      | _ => none
    | _ => none
  | .store n => match args with
    | [.ptr id off, v] => match h.get id with
      | some (.row e es soft false d) => if v.dat.len = n ∧ 0 < n then (d.put off v.dat).map fun d' => (.tuple [], h.put id (.row e es soft false d')) else none
      | _ => none
    | _ => none
  | .nilCheck => match args with
    | [x] => match x with
      | .ptr _ _ => some (x, h)
      | .func _ _ _ => some (x, h)
      | _ => none
    | _ => none
  | .bin op => match args with
    | [.int k a, .int k' b] => (binInt op k a k' b).map (·, h)
    | _ => none
  | .eqv neg k => match args with
    | [a, b] => (avEq k a b).map fun r => (.bool (if neg then !r else r), h)
    | _ => none
  | .un u => match u, args with
    | .neg, [.int k n] => some (.int k (k.wrap (0 - n)), h)
    | .not, [.bool b] => some (.bool !b, h)
    | _, _ => none
  | .conv k => match args with
    | [.int _ n] => some (.int k (k.wrap n), h)
    | _ => none
  | .tostr => match args with
    | [x] => match sliceDat h 1 x with
      | some (.bytes l n) => some (.str (packStr l n), h)
      | some (.vals []) => some (.str ByteArray.empty, h)
      | _ => none
    | _ => none
  | .sl2arr n => match args with
    | [.sl id off len _] => if n ≤ len then some (.ptr id off, h) else none
    | [.ssl id idx es len] => if n ≤ len then some (.ptr id (idx * es), h) else none
    | _ => none
  | .mkfunc f nf => some (.func f (args.take nf) (args.drop nf), h)
  | .mkmap => some (.map h.next, h.new (.map [] 0))
  | .mkslice elem es bytes z => match args with
    | [.int _ l, .int _ c] =>
      if 0 ≤ l ∧ l ≤ c ∧ c * bytes ≤ 2 ^ 40 ∧ c ≤ 2 ^ 40 ∧ z.len = es ∧ (z.rep c.toNat).len = c.toNat * es then
        (newRow' h elem es false (z.rep c.toNat)).map fun h' => (.sl h.next 0 l.toNat c.toNat, h')
      else none
    | _ => none
  | .slice es lo hi mx => match args with
    | x :: args => match x with
      | .nilsl => (bounds3 0 0 lo hi mx args).map fun _ => (.nilsl, h)
      | .esl => if mx then none else (bounds3 0 0 lo hi mx args).map fun _ => (.esl, h)
      | .sl id off len cap => (bounds3 len cap lo hi mx args).map fun (l, r, m) => (.sl id (if m = l then off else off + l * es) (r - l) (m - l), h)
      | .ssl id idx es' len =>
        if es' = es then (match mx with
          | false => (bounds3 len len lo hi false args).bind fun (l, r, _) => if l < len ∨ l = 0 then some (.ssl id (idx + l) es (r - l), h) else some (.esl, h)
          | true => (bounds3 len len lo hi true args).map fun (l, r, m) => (.sl id (if m = l then idx * es else (idx + l) * es) (r - l) (m - l), h))
        else none
      | _ => none
    | _ => none
  | .slicea n es lo hi mx => match args with
    | .ptr id off :: args =>
      (bounds3 n n lo hi mx args).map fun (l, r, m) => (.sl id (if m = l then off else off + l * es) (r - l) (m - l), h)
    | _ => none
  | .fieldAddr o => match args with
    | [.ptr id off] => some (.ptr id (off + o), h)
    | _ => none
  | .field off size agg => match args with
    | [x] => if x.isAgg then (x.dat.part off size agg).map (·, h) else none
    | _ => none
  | .indexa len es => match args with
    | [.ptr id off, .int _ i] => if 0 ≤ i ∧ i < len then some (.ptr id (off + i.toNat * es), h) else none
    | _ => none
  | .indexs es => match args with
    | [.sl id off len _, .int _ i] => if 0 ≤ i ∧ i < len then some (.ptr id (off + i.toNat * es), h) else none
    | [.ssl id idx es' len, .int _ i] => if 0 ≤ i ∧ i < len ∧ es' = es then some (.ptr id ((idx + i.toNat) * es), h) else none
    | _ => none
  | .indexv len es agg => match args with
    | [x, .int _ i] =>
      if 0 ≤ i ∧ i < len ∧ x.isAgg then (x.dat.part (i.toNat * es) es agg).map (·, h) else none
    | _ => none
  | .indexstr => match args with
    | [.str s, .int _ i] => if 0 ≤ i then (s[i.toNat]?).map fun b => (.int .u8 b.toNat, h) else none
    | _ => none
  | .lookup k z ok => match args with
    | [m, key] => if (avEq k key key).isSome = false then none else
      let back (v : AV) (is : Bool) : AV := if ok then .tuple [v, .bool is] else v
      match m with
      | .nilmap => some (back z false, h)
      | .map id => match h.get id with
        | some (.map es _) => match findE k key es with
          | some (some i) => (es[i]?).map fun e => (back e.2.1 true, h)
          | some none => some (back z false, h)
          | none => none
        | _ => none
      | _ => none
    | _ => none
  | .mapput k => match args with
    | [.map id, key, v] => if (avEq k key key).isSome = false then none else match h.get id with
      | some (.map es clock) => (match findE k key es with
        | some (some i) => some (.tuple [], h.put id (.map (es.modify i fun e => (key, v, e.2.2)) clock))
        | some none => some (.tuple [], h.put id (.map (es ++ [(key, v, clock)]) (clock + 1)))
        | none => none)
      | _ => none
    | _ => none
  | .extract i => match args with
    | [.tuple vs] => (vs[i]?).map (·, h)
    | _ => none
  | .lens => match args with
    | [x] => (sliceLen x).map fun n => (.int .i64 n, h)
    | _ => none
  | .lenc n => match args with
    | [_] => some (.int .i64 n, h)
    | _ => none
  | .lenstr => match args with
    | [.str s] => some (.int .i64 s.size, h)
    | _ => none
  | .lenm => match args with
    | [.nilmap] => some (.int .i64 0, h)
    | [.map id] => match h.get id with
      | some (.map es _) => some (.int .i64 es.length, h)
      | _ => none
    | _ => none
  | .append elem es bytes _ => match args with
    | [s, x] => match sliceLen x, sliceDat h es x with
      | some k, some new => appendTo h elem es bytes s new k
      | _, _ => none
    | _ => none
  | .appendz elem es bytes z => match args with
    | [s, .int _ n] =>
      if 0 ≤ n ∧ n * bytes ≤ 2 ^ 40 ∧ n ≤ 2 ^ 40 ∧ (z.rep n.toNat).len = n.toNat * es then appendTo h elem es bytes s (z.rep n.toNat) n.toNat else none
    | _ => none
  | .copy es => match args with
    | [a, b] => match sliceLen a, sliceLen b with
      | some m, some n => if Nat.min n m = 0 then some (.int .i64 0, h) else
        (match sliceDat h es b, a with
        | some d, .sl id off _ _ => (d.take 0 (Nat.min n m * es)).bind fun src => match h.get id with
          | some (.row e es' soft false t) => (t.put off src).map fun t' => (.int .i64 (Nat.min n m), h.put id (.row e es' soft false t'))
          | _ => none
        | some d, .ssl id idx es'' _ => (d.take 0 (Nat.min n m * es)).bind fun src => match h.get id with
          | some (.row e es' soft false t) => if es'' = es then (t.put (idx * es) src).map fun t' => (.int .i64 (Nat.min n m), h.put id (.row e es' soft false t')) else none
          | _ => none
        | _, _ => none)
      | _, _ => none
    | _ => none
  | .delete k => match args with
    | [m, key] => if (avEq k key key).isSome = false then none else match m with
      | .nilmap => some (.tuple [], h)
      | .map id => match h.get id with
        | some (.map es clock) => (match findE k key es with
          | some (some i) => some (.tuple [], h.put id (.map (es.eraseIdx i) clock))
          | some none => some (.tuple [], h)
          | none => none)
        | _ => none
      | _ => none
    | _ => none
  | .cap => match args with
    | [.nilsl] => some (.int .i64 0, h)
    | [.sl _ _ _ cap] => some (.int .i64 cap, h)
    | _ => none
  | .clear es z => match args with
    | [.nilsl] => some (.tuple [], h)
    | [.esl] => some (.tuple [], h)
    | [.sl id off len _] => if len = 0 then some (.tuple [], h) else match h.get id with
      | some (.row e es' soft false t) => if (z.rep len).len = len * es then (t.put off (z.rep len)).map fun t' => (.tuple [], h.put id (.row e es' soft false t')) else none
      | _ => none
    | [.ssl id idx es'' len] => if len = 0 then some (.tuple [], h) else match h.get id with
      | some (.row e es' soft false t) => if es'' = es ∧ (z.rep len).len = len * es then (t.put (idx * es) (z.rep len)).map fun t' => (.tuple [], h.put id (.row e es' soft false t')) else none
      | _ => none
    | _ => none
  | .range => match args with
    | [.nilmap] => some (.ptr h.next 0, h.new (.iter none 0 [] 0))
    | [.map id] => match h.get id with
      | some (.map _ clock) => some (.ptr h.next 0, h.new (.iter (some id) clock [] clock))
      | _ => none
    | _ => none
  | .entry => match args with
    | [.ptr id 0] => match h.get id with
      | some (.iter (some m) _ seen stepped) => match h.get m with
        | some (.map es clock) => match seen.getLast? with
          | some stamp => if clock = stepped then (es.find? fun e => e.2.2 == stamp).map fun e => (.tuple [e.1, e.2.1], h) else none
          | none => none
        | _ => none
      | _ => none
    | _ => none
  | .min => match args with
    | [.int k a, .int _ b] => some (.int k (if b < a then b else a), h)
    | _ => none
  | .max => match args with
    | [.int k a, .int _ b] => some (.int k (if b > a then b else a), h)
    | _ => none
  | _ => none
def nextW (args : List AV) (h : AHeap) (Q : AV → AHeap → Prop) : Prop :=
  match args with
  | [.ptr id 0] => match h.get id with
    | some (.iter none _ _ _) => Q (.tuple [.bool false]) h
    | some (.iter (some m) since seen last) => match h.get m with
      | some (.map es clock) => (seen = [] ∨ es = [] ∨ ∃ e, e ∈ es ∧ e.2.2 < last) ∧
        (∀ e, e ∈ es → e.2.2 ∉ seen → Q (.tuple [.bool true, e.1, e.2.1]) (h.put id (.iter (some m) since (seen ++ [e.2.2]) clock))) ∧
        ((∀ e, e ∈ es → e.2.2 < since → e.2.2 ∈ seen) → Q (.tuple [.bool false]) h)
      | _ => False
    | _ => False
  | _ => False
end Go.Proofs.YtlkfclgkinaibaaGreat

namespace Go.Proofs.YtlkfclgkinaibaaGreat
def DatC (μ : Mu) (d : Dat) (l : List Value) : Prop :=
  l.length = d.len ∧ ∀ (i : Nat) (x : AV), d.get i = some x → ∃ c, l[i]? = some c ∧ VR μ x c ∧ c.oneCell' = true
theorem DatC.ext {μ μ' : Mu} (h : Ext μ μ') {d : Dat} {l : List Value} (e : DatC μ d l) : DatC μ' d l :=
  ⟨e.1, fun i x hx => by obtain ⟨c, a, b, o⟩ := e.2 i x hx; exact ⟨c, a, VR.ext h _ _ b, o⟩⟩
theorem DatC.cells {μ : Mu} {d : Dat} {l : List Value} (e : DatC μ d l) : ∀ x, x ∈ l → x.oneCell' = true := by
  intro x hx
  obtain ⟨i, hi, rfl⟩ := List.getElem_of_mem hx
  obtain ⟨v, hv⟩ := Dat.get_of_lt (d := d) (i := i) (by rw [← e.1]; exact hi)
  obtain ⟨c, a, _, o⟩ := e.2 i v hv
  rw [List.getElem?_eq_getElem hi] at a
  cases a; exact o
def AV.isVal : AV → Bool
  | .tuple _ => false
  | .junk => false
  | _ => true
theorem DatC.bytes (μ : Mu) (len n : Nat) : DatC μ (.bytes len n) ((List.range len).map fun i => Value.int .u8 (byteAt n i)) := by
  refine ⟨by simp [Dat.len], fun i x hx => ?_⟩
  have hi := Dat.get_lt hx
  simp only [Dat.len] at hi
  simp only [Dat.get] at hx
  rw [if_pos hi] at hx
  cases hx
  exact ⟨.int .u8 (byteAt n i), by simp [hi], by simp [VR], rfl⟩
theorem VR.dat {μ : Mu} {v : AV} {cv : Value} (h : VR μ v cv) (hv : v.isVal = true) : DatC μ v.dat cv.cells.toList := by
  have one : ∀ (x : AV) (c : Value), VR μ x c → c.oneCell' = true → DatC μ (.vals [x]) [c] := by
    intro x c hx hc
    refine ⟨rfl, fun i y hy => ?_⟩
    cases i with
    | zero => simp [Dat.get] at hy; subst hy; exact ⟨c, by simp, hx, hc⟩
    | succ i => simp [Dat.get] at hy
  cases v with
  | agg cs =>
    simp only [VR] at h; obtain ⟨a, p, q, rfl⟩ := h
    refine ⟨by simpa [AV.dat, Dat.len, Value.cells] using VRL.length p, fun i x hx => ?_⟩
    simp only [AV.dat, Dat.get] at hx
    obtain ⟨y, hy, r⟩ := VRL.get p i x hx
    exact ⟨y, by simpa [Value.cells] using hy, r, q y (List.mem_of_getElem? hy)⟩
  | bytes len n =>
    simp only [VR] at h; subst h
    exact DatC.bytes μ len n
  | tuple vs => simp [AV.isVal] at hv
  | junk => simp [AV.isVal] at hv
  | bool b => have h' := h; simp only [VR] at h'; subst h'; exact one _ _ h rfl
  | int k n => have h' := h; simp only [VR] at h'; subst h'; exact one _ _ h rfl
  | str s => have h' := h; simp only [VR] at h'; subst h'; exact one _ _ h rfl
  | ptr id off => have h' := h; simp only [VR] at h'; obtain ⟨l, _, rfl⟩ := h'; exact one _ _ h rfl
  | nilptr => have h' := h; simp only [VR] at h'; subst h'; exact one _ _ h rfl
  | sl id off len cap => have h' := h; simp only [VR] at h'; obtain ⟨l, _, rfl⟩ := h'; exact one _ _ h rfl
  | ssl id idx es len => have h' := h; simp only [VR] at h'; obtain ⟨l, _, _, rfl⟩ := h'; exact one _ _ h rfl
  | nilsl => have h' := h; simp only [VR] at h'; subst h'; exact one _ _ h rfl
  | esl => have h' := h; simp only [VR] at h'; obtain ⟨a, c, rfl⟩ := h'; exact one _ _ h rfl
  | map id => have h' := h; simp only [VR] at h'; obtain ⟨l, _, rfl⟩ := h'; exact one _ _ h rfl
  | nilmap => have h' := h; simp only [VR] at h'; subst h'; exact one _ _ h rfl
  | func f a b => have h' := h; simp only [VR] at h'; obtain ⟨_, _, _, _, rfl⟩ := h'; exact one _ _ h rfl
  | yield l => have h' := h; simp only [VR] at h'; obtain ⟨m, _, rfl⟩ := h'; exact one _ _ h rfl
  | nilfunc => have h' := h; simp only [VR] at h'; subst h'; exact one _ _ h rfl
theorem DatC.agg {μ : Mu} {d : Dat} {l : List Value} (e : DatC μ d l) : VR μ d.agg (.agg l.toArray) := by
  cases d with
  | vals cs =>
    simp only [Dat.agg, VR]
    refine ⟨l, VRL.of_get e.1 fun i x hx => ?_, e.cells, rfl⟩
    obtain ⟨c, a, b, _⟩ := e.2 i x hx
    exact ⟨c, a, b⟩
  | bytes len n =>
    simp only [Dat.agg, VR]
    congr 2
    apply List.ext_getElem?
    intro i
    by_cases hi : i < len
    · obtain ⟨c, a, b, _⟩ := e.2 i (.int .u8 (byteAt n i)) (by simp only [Dat.get]; exact if_pos hi)
      simp only [VR] at b; subst b
      simp [a, hi]
    · have : l.length = len := e.1
      rw [List.getElem?_eq_none (by omega), List.getElem?_eq_none (by simp; omega)]
theorem DatC.take {μ : Mu} {d e : Dat} {l : List Value} (h : DatC μ d l) {off len : Nat} (ht : d.take off len = some e) : DatC μ e ((l.drop off).take len) := by
  obtain ⟨h1, h2, h3⟩ := Dat.take_spec ht
  refine ⟨by simp only [List.length_take, List.length_drop]; have := h.1; omega, fun i x hx => ?_⟩
  have hi : i < len := h1 ▸ Dat.get_lt hx
  rw [h3 i hi] at hx
  obtain ⟨c, a, b⟩ := h.2 _ _ hx
  exact ⟨c, by simp only [List.getElem?_take, hi, if_true, List.getElem?_drop]; exact a, b⟩
theorem Dat.sub_take {d : Dat} {off len : Nat} {v : AV} (h : d.sub off len = some v) : ∃ e, d.take off len = some e ∧ v = e.agg := by
  unfold Dat.sub at h
  unfold Dat.take
  split at h
  · split at h
    · cases h; exact ⟨_, by rw [if_pos ‹_›], rfl⟩
    · cases h
  · split at h
    · cases h; exact ⟨_, by rw [if_pos ‹_›], rfl⟩
    · cases h
theorem DatC.app {μ : Mu} {d e f : Dat} {l m : List Value} (h : DatC μ d l) (k : DatC μ e m) (ha : d.app e = some f) : DatC μ f (l ++ m) := by
  refine ⟨by rw [Dat.app_len ha, List.length_append, h.1, k.1], fun i x hx => ?_⟩
  by_cases hi : i < d.len
  · rw [Dat.app_left ha i hi] at hx
    obtain ⟨c, a, b⟩ := h.2 _ _ hx
    exact ⟨c, by rw [List.getElem?_append_left (by rw [h.1]; exact hi)]; exact a, b⟩
  · rw [Dat.app_right ha i (by omega)] at hx
    obtain ⟨c, a, b⟩ := k.2 _ _ hx
    exact ⟨c, by rw [List.getElem?_append_right (by rw [h.1]; omega), h.1]; exact a, b⟩
theorem cell_at {w : World} {b off : Nat} {c : Array Value} {e : TypeId} {fr : Nat × Nat} (h : w.heap[b]? = some (.cells c e fr)) : w.cell? ⟨b, off, none⟩ = c[off]? := by
  simp [World.cell?, h]
theorem frozen_at {w : World} {b off : Nat} {c : Array Value} {e : TypeId} (h : w.heap[b]? = some (.cells c e (0, 0))) : w.frozen? ⟨b, off, none⟩ = false := by
  simp [World.frozen?, h]
theorem add_at (b off n : Nat) : (⟨b, off, none⟩ : Addr).add n = ⟨b, off + n, none⟩ := by
  unfold Addr.add
  split
  · rename_i h; simp [h]
  · rfl
theorem heap_setCell {w : World} {b off : Nat} {c : Array Value} {e : TypeId} {fr : Nat × Nat} (v : Value) (h : w.heap[b]? = some (.cells c e fr)) :
    (w.setCell ⟨b, off, none⟩ v).heap[b]? = some (.cells (c.setIfInBounds off v) e fr) ∧ (∀ b', b' ≠ b → (w.setCell ⟨b, off, none⟩ v).heap[b']? = w.heap[b']?) := by
  constructor
  · simp [World.setCell, Array.getElem?_modify, h]
  · intro b' hb
    simp only [World.setCell, Array.getElem?_modify]
    rw [if_neg (fun e => hb e.symm)]
structure Only (b : Nat) (w w' : World) : Prop where
  os : w'.os = w.os
  tape : w'.tape = w.tape
  output : w'.output = w.output
  size : w'.heap.size = w.heap.size
  rest : ∀ b', b' ≠ b → w'.heap[b']? = w.heap[b']?
theorem Only.refl (b : Nat) (w : World) : Only b w w := ⟨rfl, rfl, rfl, rfl, fun _ _ => rfl⟩
theorem Only.trans {b : Nat} {x y z : World} (h : Only b x y) (k : Only b y z) : Only b x z :=
  ⟨k.os.trans h.os, k.tape.trans h.tape, k.output.trans h.output, k.size.trans h.size, fun b' hb => (k.rest b' hb).trans (h.rest b' hb)⟩
theorem Only.setCell {b off : Nat} (w : World) (v : Value) : Only b w (w.setCell ⟨b, off, none⟩ v) :=
  ⟨rfl, rfl, rfl, by simp [World.setCell], fun b' hb => by
    simp only [World.setCell, Array.getElem?_modify]
    rw [if_neg (fun e => hb e.symm)]⟩
theorem run_storeCells (P : Program) (b off : Nat) (e : TypeId) : ∀ (vs : List Value) (i : Nat) (w : World) (c : Array Value), w.heap[b]? = some (.cells c e (0, 0)) →
    (∀ v, v ∈ vs → v.oneCell' = true) → off + i + vs.length ≤ c.size →
    ∃ (w' : World) (c' : Array Value), (storeCells ⟨b, off, none⟩ vs i).run P w = .ok () w' ∧ w'.heap[b]? = some (.cells c' e (0, 0)) ∧ c'.size = c.size ∧
      (∀ k, c'[k]? = if off + i ≤ k ∧ k < off + i + vs.length then vs[k - (off + i)]? else c[k]?) ∧ Only b w w'
  | [], i, w, c, hb, _, _ => ⟨w, c, by simp [storeCells], hb, rfl, fun k => by rw [if_neg (by simp)], Only.refl b w⟩
  | v :: vs, i, w, c, hb, hv, hle => by
    simp only [List.length_cons] at hle
    have hc : w.cell? ⟨b, off + i, none⟩ = some (c[off + i]'(by omega)) := by rw [cell_at hb]; exact Array.getElem?_eq_getElem (by omega)
    have hf := frozen_at (off := off + i) hb
    have hone := hv v (by simp)
    obtain ⟨h1, h2⟩ := heap_setCell (off := off + i) v hb
    obtain ⟨w', c', r1, r2, r3, r4, r5⟩ := run_storeCells P b off e vs (i + 1) (w.setCell ⟨b, off + i, none⟩ v) (c.setIfInBounds (off + i) v) h1 (fun x hx => hv x (by simp [hx])) (by simp; omega)
    refine ⟨w', c', ?_, r2, by simpa using r3, fun k => ?_, (Only.setCell w v).trans r5⟩
    · simp only [storeCells, Sem.run_bind, add_at, run_store P w _ v .plain hone, hc, hf]
      exact r1
    · rw [r4 k]
      simp only [List.length_cons]
      by_cases h1 : off + (i + 1) ≤ k ∧ k < off + (i + 1) + vs.length
      · rw [if_pos h1, if_pos (by omega)]
        have : k - (off + i) = (k - (off + (i + 1))) + 1 := by omega
        rw [this]; simp
      · rw [if_neg h1, Array.getElem?_setIfInBounds]
        by_cases h2 : off + i = k
        · rw [if_pos h2, if_pos (by omega), if_pos (by omega)]
          have : k - (off + i) = 0 := by omega
          rw [this]; simp
        · rw [if_neg h2, if_neg (by omega)]
theorem run_loadRow (P : Program) {w : World} {b off n : Nat} {e : TypeId} {c : Array Value} {fr : Nat × Nat} (h : w.heap[b]? = some (.cells c e fr)) (hle : off + n ≤ c.size) :
    (loadCells ⟨b, off, none⟩ n).run P w = .ok ((c.toList.drop off).take n).toArray w := by
  have hl : ((c.toList.drop off).take n).length = n := by simp; omega
  have := run_loadCells_list (P := P) w ⟨b, off, none⟩ ((c.toList.drop off).take n) (fun j v hj => by
    rw [add_at, cell_at h]
    have hlt : j < n := by
      have := (List.getElem?_eq_some_iff.1 hj).1
      omega
    simp only [List.getElem?_take, hlt, if_true, List.getElem?_drop] at hj
    simpa using hj)
  rw [hl] at this
  exact this
end Go.Proofs.YtlkfclgkinaibaaGreat

namespace Go.Proofs.YtlkfclgkinaibaaGreat
def reifS : Value → Option AV
  | .bool b => some (.bool b)
  | .int k n => some (.int k n)
  | .string s => some (.str s)
  | .pointer none => some .nilptr
  | .slice none 0 0 => some .nilsl
  | .map none => some .nilmap
  | .nilFunc => some .nilfunc
  | _ => none
def reifL : List Value → Option (List AV)
  | [] => some []
  | v :: vs => match reifS v, reifL vs with
    | some a, some as => some (a :: as)
    | _, _ => none
def zeroU8 : List Value → Bool
  | [] => true
  | .int .u8 n :: vs => n == 0 && zeroU8 vs
  | _ => false
def reif : Value → Option AV
  | .agg cs => if zeroU8 cs.toList && decide (0 < cs.size) then some (.bytes cs.size 0) else (reifL cs.toList).map .agg
  | .tuple vs => if vs.size = 0 then some (.tuple []) else none
  | v => reifS v
theorem reifS_ok {μ : Mu} {v : Value} {a : AV} (h : reifS v = some a) : VR μ a v ∧ v.oneCell' = true ∧ a.isVal = true := by
  unfold reifS at h
  split at h <;> first | (cases h; exact ⟨by simp [VR], rfl, rfl⟩) | cases h
theorem reifL_ok {μ : Mu} : ∀ {l : List Value} {a : List AV}, reifL l = some a → VRL μ a l ∧ ∀ x, x ∈ l → x.oneCell' = true
  | [], a, h => by simp only [reifL] at h; cases h; exact ⟨by simp [VRL], by simp⟩
  | v :: vs, a, h => by
    simp only [reifL] at h
    split at h
    · rename_i x xs h1 h2
      cases h
      obtain ⟨p, q, _⟩ := reifS_ok (μ := μ) h1
      obtain ⟨r, s⟩ := reifL_ok (μ := μ) h2
      refine ⟨by simp only [VRL]; exact ⟨v, vs, rfl, p, r⟩, fun y hy => ?_⟩
      rcases List.mem_cons.1 hy with rfl | hy
      · exact q
      · exact s y hy
    · cases h
theorem zeroU8_ok : ∀ {l : List Value}, zeroU8 l = true → l = (List.range l.length).map fun i => Value.int .u8 (byteAt 0 i)
  | [], _ => by simp
  | v :: vs, h => by
    unfold zeroU8 at h
    split at h
    · rename_i heq; cases heq
    · rename_i n ws heq
      cases heq
      simp only [Bool.and_eq_true, beq_iff_eq] at h
      obtain ⟨rfl, h⟩ := h
      rw [List.length_cons, List.range_succ_eq_map, List.map_cons, List.map_map]
      congr 1
      have ih := zeroU8_ok h
      conv => lhs; rw [ih]
      apply List.map_congr_left
      intro i _
      simp [byteAt_zero]
    · cases h
theorem reif_ok {μ : Mu} {v : Value} {a : AV} (h : reif v = some a) : VR μ a v := by
  unfold reif at h
  split at h
  · rename_i cs
    split at h
    · rename_i hc
      cases h
      simp only [Bool.and_eq_true] at hc
      have := zeroU8_ok hc.1
      simp only [VR]
      congr 1
      apply Array.ext'
      simpa using this
    · cases hr : reifL cs.toList with
      | none => rw [hr] at h; cases h
      | some l =>
        rw [hr] at h; cases h
        obtain ⟨p, q⟩ := reifL_ok (μ := μ) hr
        simp only [VR]
        exact ⟨_, p, q, by simp⟩
  · rename_i vs
    split at h
    · rename_i hs
      cases h
      simp only [VR, VRL]
      exact ⟨[], rfl, by rw [Array.eq_empty_of_size_eq_zero hs]⟩
    · cases h
  · exact (reifS_ok h).1
def sizeT (P : Program) (t : TypeId) : Option Nat := (P.info? t).map (·.size)
def bytesT (P : Program) (t : TypeId) : Option Nat := (P.info? t).map (·.bytes)
def isAggT (P : Program) (t : TypeId) : Option Bool :=
  match P.underlying t with
  | some (.struct _) => some true
  | some (.array _ _) => some true
  | some _ => some false
  | none => none
def zeroA (P : Program) (t : TypeId) : Option AV :=
  match P.info? t with
  | some i => i.zero.bind reif
  | none => none
def zeroD (P : Program) (t : TypeId) : Option Dat :=
  match zeroA P t with
  | some (.int .u8 n) => if n = 0 then some (.bytes 1 0) else none
  | some (.tuple _) => none
  | some .junk => none
  | some v => some v.dat
  | none => none
theorem run_und {P : Program} {t : TypeId} {d : TypeDesc} (h : P.underlying t = some d) (w : World) : (underlying t).run P w = .ok d w := by
  simp [underlying, h]
theorem run_info {P : Program} {t : TypeId} {i : TypeInfo} (h : P.info? t = some i) (w : World) : (typeInfo t).run P w = .ok i w := by
  simp [typeInfo, h]
theorem run_size {P : Program} {t : TypeId} {n : Nat} (h : sizeT P t = some n) (w : World) : (sizeOf t).run P w = .ok n w := by
  unfold sizeT at h
  cases hi : P.info? t with
  | none => rw [hi] at h; cases h
  | some i => rw [hi] at h; cases h; simp [sizeOf, run_info hi]
theorem run_isAgg {P : Program} {t : TypeId} {b : Bool} (h : isAggT P t = some b) (w : World) : (isAgg t).run P w = .ok b w := by
  unfold isAggT at h
  cases hu : P.underlying t with
  | none => rw [hu] at h; cases h
  | some d =>
    rw [hu] at h
    simp only [isAgg, Sem.run_bind, run_und hu, Result.andThen_ok]
    cases d <;> simp_all
theorem zeroA_ok {P : Program} {t : TypeId} {a : AV} (h : zeroA P t = some a) : ∃ i v, P.info? t = some i ∧ i.zero = some v ∧ reif v = some a := by
  unfold zeroA at h
  cases hi : P.info? t with
  | none => rw [hi] at h; cases h
  | some i =>
    rw [hi] at h
    cases hz : i.zero with
    | none => simp [hz] at h
    | some v => exact ⟨i, v, rfl, hz, by simpa [hz] using h⟩
theorem run_zero {P : Program} {t : TypeId} {i : TypeInfo} {v : Value} (h : P.info? t = some i) (hz : i.zero = some v) (w : World) : (zeroValue t).run P w = .ok v w := by
  simp [zeroValue, run_info h, hz]
theorem zeroD_ok {P : Program} {t : TypeId} {z : Dat} (h : zeroD P t = some z) (μ : Mu) : ∃ i v, P.info? t = some i ∧ i.zero = some v ∧ DatC μ z v.cells.toList := by
  unfold zeroD at h
  cases ha : zeroA P t with
  | none => rw [ha] at h; cases h
  | some a =>
    obtain ⟨i, v, hi, hz, hr⟩ := zeroA_ok ha
    have hv := reif_ok (μ := μ) hr
    refine ⟨i, v, hi, hz, ?_⟩
    rw [ha] at h
    by_cases h8 : ∃ n, a = .int .u8 n
    · obtain ⟨n, rfl⟩ := h8
      simp only at h
      split at h
      · rename_i h0
        cases h
        subst h0
        simp only [VR] at hv; subst hv
        simpa [Value.cells, byteAt_zero] using DatC.bytes μ 1 0
      · cases h
    · by_cases ht : ∃ vs, a = .tuple vs
      · obtain ⟨vs, rfl⟩ := ht; cases h
      · by_cases hj : a = .junk
        · subst hj; cases h
        have hz' : some a.dat = some z := by
          rw [← h]
          split
          · rename_i n heq; exact absurd ⟨n, Option.some.inj heq⟩ h8
          · rename_i vs heq; exact absurd ⟨vs, Option.some.inj heq⟩ ht
          · rename_i heq; exact absurd (Option.some.inj heq) hj
          · rename_i heq; cases heq; rfl
          · rename_i heq; cases heq
        cases hz'
        refine VR.dat hv ?_
        cases a with
        | tuple vs => exact absurd ⟨vs, rfl⟩ ht
        | junk => exact absurd rfl hj
        | _ => rfl
def scT (P : Program) (t : TypeId) : Option Sc :=
  match P.underlying t with
  | some (.int _) => some .int
  | some .bool => some .bool
  | some .string => some .str
  | _ => none
def flatT (P : Program) : List Field → Nat → Option (List Sc)
  | [], _ => some []
  | f :: fs, k => if f.offset = k ∧ f.name ≠ "_" then match scT P f.type, flatT P fs (k + 1) with
      | some s, some ss => some (s :: ss)
      | _, _ => none
    else none
def eqT (P : Program) (t : TypeId) : Option EqK :=
  match P.underlying t with
  | some (.int _) => some (.scal .int)
  | some .bool => some (.scal .bool)
  | some .string => some (.scal .str)
  | some (.pointer _) => some .ptr
  | some (.slice _) => some .slice
  | some (.map _ _) => some .map
  | some (.func _ _ _) => some .func
  | some (.struct fs) => if P.stoodInHeld t || P.eqGuardType P.depth t then none else (flatT P fs.toList 0).map .flat
  | some (.array n e) => if P.eqGuardType P.depth t then none else match P.underlying e, sizeT P e with
    | some (.int .u8), some 1 => some (.bytes n)
    | _, _ => none
  | _ => none
def keyT (P : Program) (t : TypeId) : Option EqK :=
  match eqT P t with
  | some (.scal s) => some (.scal s)
  | some (.flat l) => some (.flat l)
  | _ => none
def partsT (P : Program) (fs : Array Field) : List Nat → Option (List (Nat × Nat))
  | [] => some []
  | i :: is => match fs[i]? with
    | some f => match sizeT P f.type, partsT P fs is with
      | some n, some ps => some ((f.offset, n) :: ps)
      | _, _ => none
    | none => none
def sizesT (P : Program) : List Field → Bool
  | [] => true
  | f :: fs => (sizeT P f.type).isSome && sizesT P fs
def trOp (P : Program) (o : Op) : AOp :=
  match o with
  | .move _ => .mv
  | .assign _ => .mv
  | .pick _ _ _ => .pick
  | .alloc e => match zeroD P e, sizeT P e with
    | some z, some n => .alloc e n z
    | _, _ => .bad
  | .box e _ => match sizeT P e with
    | some n => .box e n
    | none => .bad
  | .build t ps => match zeroA P t, P.underlying t with
    | some z, some (.struct fs) => if sizesT P fs.toList && z.isVal then match partsT P fs (ps.toList.map (·.1)) with
        | some pl => .build z pl
        | none => .bad
      else .bad
    | some z, some (.array _ e) => match sizeT P e with
      | some n => if z.isVal then .build z (ps.toList.map fun p => (p.1 * n, n)) else .bad
      | none => .bad
    | _, _ => .bad
  | .buildSlice t len ps => match P.underlying t with
    | some (.slice e) => match zeroD P e, sizeT P e with
      | some z, some n => if len * n ≤ 2 ^ 24 ∧ z.len = n ∧ 0 < n then .bslice e n len z (ps.toList.map (·.1)) else .bad
      | _, _ => .bad
    | _ => .bad
  | .load t _ => match isAggT P t, sizeT P t with
    | some true, some n => .loadn n
    | some false, _ => .load1
    | _, _ => .bad
  | .store t _ _ => match sizeT P t with
    | some n => .store n
    | none => .bad
  | .nilCheck _ => .nilCheck
  | .binOp op t _ _ _ => match op with
    | .eql => match P.underlying t with
      | some (.int _) => .bin .eql
      | _ => match eqT P t with
        | some k => .eqv false k
        | none => .bad
    | .neq => match P.underlying t with
      | some (.int _) => .bin .neq
      | _ => match eqT P t with
        | some k => .eqv true k
        | none => .bad
    | op => .bin op
  | .unOp op _ _ => .un op
  | .convert s d _ => match P.underlying s, P.underlying d with
    | some _, some (.int k) => .conv k
    | some (.slice e), some .string => match P.underlying e with
      | some (.int .u8) => .tostr
      | _ => .bad
    | _, _ => .bad
  | .sliceToArrayPointer t _ => match P.underlying t with
    | some (.array n _) => .sl2arr n
    | _ => .bad
  | .makeFunc (.func f) first _ => .mkfunc f first.size
  | .makeMap _ none => .mkmap
  | .makeSlice t _ _ => match P.underlying t with
    | some (.slice e) => match zeroD P e, sizeT P e, bytesT P e with
      | some z, some n, some b => .mkslice e n b z
      | _, _, _ => .bad
    | _ => .bad
  | .slice t _ lo hi mx => match P.underlying t with
    | some (.slice e) => match sizeT P e with
      | some n => .slice n lo.isSome hi.isSome mx.isSome
      | none => .bad
    | some (.array k e) => match sizeT P e with
      | some n => .slicea k n lo.isSome hi.isSome mx.isSome
      | none => .bad
    | _ => .bad
  | .fieldAddr s _ f => match P.underlying s with
    | some (.struct fs) => match fs[f]? with
      | some f => match sizeT P f.type with
        | some n => if n = 0 then .bad else .fieldAddr f.offset
        | none => .bad
      | none => .bad
    | _ => .bad
  | .field t _ f => match P.underlying t with
    | some (.struct fs) => match fs[f]? with
      | some f => match sizeT P f.type, isAggT P f.type with
        | some n, some b => .field f.offset n b
        | _, _ => .bad
      | none => .bad
    | _ => .bad
  | .indexAddr t _ _ => match P.underlying t with
    | some (.array n e) => match sizeT P e with
      | some k => .indexa n k
      | none => .bad
    | some (.slice e) => match sizeT P e with
      | some k => .indexs k
      | none => .bad
    | _ => .bad
  | .index t _ _ => match P.underlying t with
    | some (.array n e) => match sizeT P e, isAggT P e with
      | some k, some b => .indexv n k b
      | _, _ => .bad
    | some .string => .indexstr
    | _ => .bad
  | .lookup t _ _ ok => match P.underlying t with
    | some (.map k e) => match keyT P k, zeroA P e with
      | some q, some z => .lookup q z ok
      | _, _ => .bad
    | _ => .bad
  | .mapUpdate t _ _ _ => match P.underlying t with
    | some (.map k _) => match keyT P k with
      | some q => .mapput q
      | none => .bad
    | _ => .bad
  | .extract _ i => .extract i
  | .call c => match c.callee with
    | .value _ => .callv
    | .invoke _ _ => .bad
    | .builtin b => match b, (c.argTypes[0]?).bind P.underlying with
      | .len, some (.slice _) => .lens
      | .len, some (.map _ _) => .lenm
      | .len, some (.array n _) => .lenc n
      | .cap, some (.slice _) => .cap
      | .append, some (.slice e) => match sizeT P e, bytesT P e, zeroD P e, (c.argTypes[1]?).bind P.underlying with
        | some n, some b, some z, some (.int _) => if z.len = n ∧ 0 < n then .appendz e n b z else .bad
        | some n, some b, some z, some (.slice _) => if z.len = n ∧ 0 < n then .append e n b z else .bad
        | _, _, _, _ => .bad
      | .copy, some (.slice e) => match sizeT P e with
        | some n => .copy n
        | none => .bad
      | .delete, some (.map k _) => match keyT P k with
        | some q => .delete q
        | none => .bad
      | .clear, some (.slice e) => match sizeT P e, zeroD P e with
        | some n, some z => if z.len = n ∧ 0 < n then .clear n z else .bad
        | _, _ => .bad
      | .min, some (.int _) => .min
      | .max, some (.int _) => .max
      | _, _ => .bad
  | .defer c => match c.callee with
    | .value _ => .defer
    | _ => .bad
  | .range t _ => match P.underlying t with
    | some (.map _ _) => .range
    | _ => .bad
  | .next _ false => .next
  | .entry _ => .entry
  | _ => .bad
end Go.Proofs.YtlkfclgkinaibaaGreat

namespace Go.Proofs.YtlkfclgkinaibaaGreat
variable {Λ : Lam}
def OpS (Λ : Lam) (P : Program) (s : Sem Next) (μ : Mu) (h : AHeap) (w : World) (r : AV) (h' : AHeap) : Prop :=
  ∃ μ' w' cv, (s.run P w = .ok (.value cv) w' ∨ (cv = undef ∧ s.run P w = .ok .skip w')) ∧ VR μ' r cv ∧ Rel Λ μ' h' w' ∧ Step μ h w μ' h' w'
theorem OpS.pure {P : Program} {s : Sem Next} {μ h w r cv} (hr : Rel Λ μ h w) (e : s.run P w = .ok (.value cv) w) (v : VR μ r cv) : OpS Λ P s μ h w r h :=
  ⟨μ, w, cv, .inl e, v, hr, Step.refl μ h w⟩
theorem VRL.one {μ : Mu} {x : AV} {l : List Value} (h : VRL μ [x] l) : ∃ a, l = [a] ∧ VR μ x a := by
  simp only [VRL] at h; obtain ⟨c, cs, rfl, p, rfl⟩ := h; exact ⟨c, rfl, p⟩
theorem VRL.two {μ : Mu} {x y : AV} {l : List Value} (h : VRL μ [x, y] l) : ∃ a b, l = [a, b] ∧ VR μ x a ∧ VR μ y b := by
  simp only [VRL] at h; obtain ⟨c, cs, rfl, p, d, ds, rfl, q, rfl⟩ := h; exact ⟨c, d, rfl, p, q⟩
theorem VRL.three {μ : Mu} {x y z : AV} {l : List Value} (h : VRL μ [x, y, z] l) : ∃ a b c, l = [a, b, c] ∧ VR μ x a ∧ VR μ y b ∧ VR μ z c := by
  simp only [VRL] at h; obtain ⟨c, cs, rfl, p, d, ds, rfl, q, e, es, rfl, r, rfl⟩ := h; exact ⟨c, d, e, rfl, p, q, r⟩
theorem VR.int {μ : Mu} {k n v} (h : VR μ (.int k n) v) : v = .int k n := by simpa [VR] using h
theorem VR.bool {μ : Mu} {b v} (h : VR μ (.bool b) v) : v = .bool b := by simpa [VR] using h
theorem bin_sound {P : Program} {op : BinOp} {t : TypeId} {k k' : IntKind} {a b : Int} {r : AV} (h : binInt op k a k' b = some r) (w : World) (μ : Mu) :
    ∃ cv, (binOp op t (.int k a) (.int k' b)).run P w = .ok cv w ∧ VR μ r cv := by
  unfold binInt at h
  split at h
  · split at h
    · cases h
    · rename_i hb
      cases h
      refine ⟨.int k (k.wrap (a * 2 ^ (Nat.min b.toNat k.bits))), ?_, by simp [VR]⟩
      have : Min.min b.toNat k.bits = Nat.min b.toNat k.bits := rfl
      simp only [binOp, Op.shift, hb, if_false, this]
      rfl
  · split at h
    · cases h
    · rename_i hb
      cases h
      refine ⟨.int k (a.fdiv (2 ^ (Nat.min b.toNat k.bits))), ?_, by simp [VR]⟩
      have : Min.min b.toNat k.bits = Nat.min b.toNat k.bits := rfl
      simp only [binOp, Op.shift, hb, if_false, this]
      rfl
  · split at h
    · cases h
    · rename_i hk
      have hk : k = k' := by simpa using hk
      subst hk
      split at h <;> first
        | (cases h; done)
        | (cases h; simp [binOp, Op.intArith, Op.intBits, Op.intCmp, VR]; done)
        | (split at h
           · cases h
           · rename_i h0; cases h; simp [binOp, Op.intDiv, h0, VR]; done)
theorem scEq_ok {μ : Mu} {s : Sc} {a b : AV} {x y : Value} {r : Bool} (h : scEq s a b = some r) (ha : VR μ a x) (hb : VR μ b y) {P : Program} {t : TypeId} (ht : scT P t = some s) (d : Nat) (w : World) :
    (Op.equalIn (d + 1) t x y).run P w = .ok r w := by
  unfold scT at ht
  unfold scEq at h
  split at h
  · simp only [VR] at ha hb; subst ha hb
    split at h
    · rename_i hk; cases h; subst hk
      split at ht <;> cases ht
      rename_i k0 hu
      simp [Op.equalIn, run_und hu]
    · cases h
  · simp only [VR] at ha hb; subst ha hb
    cases h
    split at ht <;> cases ht
    rename_i hu
    simp [Op.equalIn, run_und hu]
  · simp only [VR] at ha hb; subst ha hb
    cases h
    split at ht <;> cases ht
    rename_i hu
    simp [Op.equalIn, run_und hu]
  · cases h
theorem part_scalar {P : Program} {t : TypeId} {s : Sc} (ht : scT P t = some s) (cs : Array Value) (off : Nat) (v : Value) (hv : cs[off]? = some v) (w : World) : (part t cs off).run P w = .ok v w := by
  have : isAggT P t = some false := by
    unfold scT at ht; unfold isAggT
    split at ht <;> cases ht <;> rename_i hu <;> simp [hu]
  simp [part, run_isAgg this, hv]
theorem eqFlat_ok {P : Program} {μ : Mu} (d : Nat) : ∀ {fs : List Field} {k : Nat} {ss : List Sc} {as bs : List AV} {r : Bool} {xs ys : Array Value}, flatT P fs k = some ss → eqFlat ss as bs = some r →
    (∀ (i : Nat) (x : AV), as[i]? = some x → ∃ c, xs[k + i]? = some c ∧ VR μ x c) → (∀ (i : Nat) (x : AV), bs[i]? = some x → ∃ c, ys[k + i]? = some c ∧ VR μ x c) → ∀ w,
    (Op.eqFields (d + 1) xs ys fs).run P w = .ok r w
  | [], k, ss, as, bs, r, xs, ys, hf, he, _, _, w => by
    simp only [flatT] at hf; cases hf
    cases as with
    | nil => cases bs with
      | nil => simp only [eqFlat] at he; cases he; simp [Op.eqFields]
      | cons => simp [eqFlat] at he
    | cons => simp [eqFlat] at he
  | f :: fs, k, ss, as, bs, r, xs, ys, hf, he, ha, hb, w => by
    simp only [flatT] at hf
    split at hf
    · rename_i hk
      split at hf
      · rename_i s ss' h1 h2
        cases hf
        cases as with
        | nil => simp [eqFlat] at he
        | cons a as => cases bs with
          | nil => simp [eqFlat] at he
          | cons b bs =>
            simp only [eqFlat] at he
            obtain ⟨x, hx, vx⟩ := ha 0 a (by simp)
            obtain ⟨y, hy, vy⟩ := hb 0 b (by simp)
            simp only [Nat.add_zero] at hx hy
            have p1 := part_scalar h1 xs f.offset x (by rw [hk.1]; exact hx) w
            have p2 := part_scalar h1 ys f.offset y (by rw [hk.1]; exact hy) w
            simp only [Op.eqFields, hk.2, ne_eq, not_false_eq_true, if_true, Sem.run_bind, p1, p2, Result.andThen_ok]
            split at he
            · rename_i hs
              rw [scEq_ok hs vx vy h1]
              simp only [Result.andThen_ok, Bool.not_true, Bool.false_eq_true, if_false]
              refine eqFlat_ok (μ := μ) d h2 he (fun i z hz => ?_) (fun i z hz => ?_) w
              · obtain ⟨c, p, q⟩ := ha (i + 1) z (by simpa using hz)
                exact ⟨c, by rw [show k + 1 + i = k + (i + 1) by omega]; exact p, q⟩
              · obtain ⟨c, p, q⟩ := hb (i + 1) z (by simpa using hz)
                exact ⟨c, by rw [show k + 1 + i = k + (i + 1) by omega]; exact p, q⟩
            · rename_i hs
              cases hr : scEq s a b with
              | none => rw [hr] at he; cases he
              | some q =>
                rw [hr] at he; cases he
                cases r with
                | true => exact absurd hr hs
                | false =>
                  rw [scEq_ok hr vx vy h1]
                  simp
      · cases hf
    · cases hf
theorem forIn_bytes {P : Program} (d : Nat) (e : TypeId) (k8 : IntKind) (he : P.underlying e = some (.int k8)) (hs : sizeT P e = some 1) (xs ys : Array Value) (x y : Nat) (w : World) : ∀ (l : List Nat),
    (∀ i, i ∈ l → xs[i]? = some (.int .u8 (byteAt x i)) ∧ ys[i]? = some (.int .u8 (byteAt y i))) →
    (forIn (m := Sem) l ((none, ()) : Option Bool × Unit) fun i _ => do
      if (!(← Op.equalIn (d + 1) e (← part e xs (i * 1)) (← part e ys (i * 1)))) = true then pure (ForInStep.done (some false, ())) else do pure PUnit.unit; pure (ForInStep.yield (none, ()))).run P w =
      .ok (if ∀ i, i ∈ l → byteAt x i = byteAt y i then (none, ()) else (some false, ())) w
  | [], _ => by simp
  | i :: l, h => by
    obtain ⟨h1, h2⟩ := h i (by simp)
    have hsc : scT P e = some .int := by simp [scT, he]
    have p1 := part_scalar hsc xs (i * 1) _ (by rw [Nat.mul_one]; exact h1) w
    have p2 := part_scalar hsc ys (i * 1) _ (by rw [Nat.mul_one]; exact h2) w
    have ih := forIn_bytes d e k8 he hs xs ys x y w l (fun j hj => h j (by simp [hj]))
    simp only [List.forIn_cons, Sem.run_bind, p1, p2, Result.andThen_ok, run_equalIn_int w d e .u8 k8 _ _ he]
    by_cases hb : byteAt x i = byteAt y i
    · simp only [hb, beq_self_eq_true, Bool.not_true, Bool.false_eq_true, if_false, Sem.run_pure, Result.andThen_ok]
      rw [ih]
      simp [hb]
    · have hb' : (((byteAt x i : Nat) : Int) == ((byteAt y i : Nat) : Int)) = false := by
        rw [beq_eq_false_iff_ne]; omega
      simp [hb, hb']
def NilV : EqK → Bool → Value → Prop
  | .ptr, true, v => v = .pointer none
  | .ptr, false, v => ∃ a, v = .pointer (some a)
  | .slice, true, v => v = .slice none 0 0
  | .slice, false, v => ∃ a n c, v = .slice (some a) n c
  | .map, true, v => v = .map none
  | .map, false, v => ∃ r, v = .map (some r)
  | .func, true, v => v = .nilFunc
  | .func, false, v => ∃ f a b, v = .func f a b
  | _, _, _ => False
theorem nilOf_ok {μ : Mu} {k : EqK} {a : AV} {x : Value} {r : Bool} (h : nilOf k a = some r) (ha : VR μ a x) : NilV k r x := by
  unfold nilOf at h
  split at h <;> first
    | (cases h; simp only [VR] at ha; exact ha)
    | (cases h; simp only [VR] at ha; obtain ⟨l, _, rfl⟩ := ha; exact ⟨_, rfl⟩)
    | (cases h; simp only [VR] at ha; obtain ⟨l, _, rfl⟩ := ha; exact ⟨_, _, _, rfl⟩)
    | (cases h; simp only [VR] at ha; obtain ⟨l, c, rfl⟩ := ha; exact ⟨_, _, _, rfl⟩)
    | (cases h; simp only [VR] at ha; obtain ⟨l, _, _, rfl⟩ := ha; exact ⟨_, _, _, rfl⟩)
    | (cases h; simp only [VR] at ha; obtain ⟨_, _, _, _, rfl⟩ := ha; exact ⟨_, _, _, rfl⟩)
    | cases h
theorem nilEq_cases {p q : Option Bool} {r : Bool} (h : nilEq p q = some r) : (p = some true ∧ q = some r) ∨ (p = some false ∧ q = some true ∧ r = false) := by
  unfold nilEq at h
  split at h
  · exact .inl ⟨rfl, h⟩
  · cases h; exact .inr ⟨rfl, rfl, rfl⟩
  · cases h
theorem nil_ok {P : Program} {k : EqK} {x y : Value} {p q : Bool} {t : TypeId} (ht : (k = .ptr ∧ ∃ e, P.underlying t = some (.pointer e)) ∨ (k = .slice ∧ ∃ e, P.underlying t = some (.slice e)) ∨ (k = .map ∧ ∃ e f, P.underlying t = some (.map e f)) ∨ (k = .func ∧ ∃ e f g, P.underlying t = some (.func e f g)))
    (hx : NilV k p x) (hy : NilV k q y) (hpq : p = true ∨ q = true) (d : Nat) (w : World) : (Op.equalIn (d + 1) t x y).run P w = .ok (p && q) w := by
  rcases ht with ⟨rfl, e, hu⟩ | ⟨rfl, e, hu⟩ | ⟨rfl, e, f, hu⟩ | ⟨rfl, e, f, g, hu⟩
  · cases p <;> cases q <;> simp only [NilV] at hx hy
    · simp at hpq
    · obtain ⟨a, rfl⟩ := hx; subst hy; simp [Op.equalIn, run_und hu]
    · obtain ⟨a, rfl⟩ := hy; subst hx; simp [Op.equalIn, run_und hu]
    · subst hx hy; simp [Op.equalIn, run_und hu]
  · cases p <;> cases q <;> simp only [NilV] at hx hy
    · simp at hpq
    · obtain ⟨a, n, c, rfl⟩ := hx; subst hy; simp [Op.equalIn, run_und hu]
    · obtain ⟨a, n, c, rfl⟩ := hy; subst hx; simp [Op.equalIn, run_und hu]
    · subst hx hy; simp [Op.equalIn, run_und hu]
  · cases p <;> cases q <;> simp only [NilV] at hx hy
    · simp at hpq
    · obtain ⟨a, rfl⟩ := hx; subst hy; simp [Op.equalIn, run_und hu]
    · obtain ⟨a, rfl⟩ := hy; subst hx; simp [Op.equalIn, run_und hu]
    · subst hx hy; simp [Op.equalIn, run_und hu]
  · cases p <;> cases q <;> simp only [NilV] at hx hy
    · simp at hpq
    · obtain ⟨a, n, c, rfl⟩ := hx; subst hy; simp [Op.equalIn, run_und hu]
    · obtain ⟨a, n, c, rfl⟩ := hy; subst hx; simp [Op.equalIn, run_und hu]
    · subst hx hy; simp [Op.equalIn, run_und hu]
theorem nilEq_ok {P : Program} {μ : Mu} {k : EqK} {a b : AV} {x y : Value} {r : Bool} {t : TypeId} (ht : (k = .ptr ∧ ∃ e, P.underlying t = some (.pointer e)) ∨ (k = .slice ∧ ∃ e, P.underlying t = some (.slice e)) ∨ (k = .map ∧ ∃ e f, P.underlying t = some (.map e f)) ∨ (k = .func ∧ ∃ e f g, P.underlying t = some (.func e f g)))
    (h : nilEq (nilOf k a) (nilOf k b) = some r) (ha : VR μ a x) (hb : VR μ b y) (d : Nat) (w : World) : (Op.equalIn (d + 1) t x y).run P w = .ok r w := by
  rcases nilEq_cases h with ⟨h1, h2⟩ | ⟨h1, h2, rfl⟩
  · rw [nil_ok ht (nilOf_ok h1 ha) (nilOf_ok h2 hb) (.inl rfl)]; simp
  · rw [nil_ok ht (nilOf_ok h1 ha) (nilOf_ok h2 hb) (.inr rfl)]; simp
theorem avEq_ok {P : Program} {μ : Mu} {k : EqK} {a b : AV} {x y : Value} {r : Bool} {t : TypeId} (h : avEq k a b = some r) (ht : eqT P t = some k) (ha : VR μ a x) (hb : VR μ b y) (d : Nat) (w : World) :
    (Op.equalIn (d + 2) t x y).run P w = .ok r w := by
  unfold eqT at ht
  split at ht
  · rename_i k8 hu; cases ht
    exact scEq_ok h ha hb (by simp [scT, hu]) (d + 1) w
  · rename_i hu; cases ht
    exact scEq_ok h ha hb (by simp [scT, hu]) (d + 1) w
  · rename_i hu; cases ht
    exact scEq_ok h ha hb (by simp [scT, hu]) (d + 1) w
  · rename_i e hu; cases ht
    exact nilEq_ok (.inl ⟨rfl, e, hu⟩) h ha hb (d + 1) w
  · rename_i e hu; cases ht
    exact nilEq_ok (.inr (.inl ⟨rfl, e, hu⟩)) h ha hb (d + 1) w
  · rename_i e f hu; cases ht
    exact nilEq_ok (.inr (.inr (.inl ⟨rfl, e, f, hu⟩))) h ha hb (d + 1) w
  · rename_i e f g hu; cases ht
    exact nilEq_ok (.inr (.inr (.inr ⟨rfl, e, f, g, hu⟩))) h ha hb (d + 1) w
  · rename_i fs hu
    split at ht
    · cases ht
    · rename_i hno
      simp only [Bool.or_eq_true, not_or, Bool.not_eq_true] at hno
      cases hf : flatT P fs.toList 0 with
      | none => rw [hf] at ht; cases ht
      | some l =>
        rw [hf] at ht; cases ht
        cases a with
        | agg as => cases b with
          | agg bs =>
            simp only [avEq] at h
            simp only [VR] at ha hb
            obtain ⟨xs, p, _, rfl⟩ := ha
            obtain ⟨ys, q, _, rfl⟩ := hb
            have hfo : P.fieldsOf t = fs := by simp [Program.fieldsOf, hu]
            rw [run_equalIn_struct w (d + 1) t _ _ (by rw [hfo]; exact hu) hno.1, hfo]
            refine eqFlat_ok (μ := μ) d hf h (fun i z hz => ?_) (fun i z hz => ?_) w
            · obtain ⟨c, p', q'⟩ := VRL.get p i z hz; exact ⟨c, by simpa using p', q'⟩
            · obtain ⟨c, p', q'⟩ := VRL.get q i z hz; exact ⟨c, by simpa using p', q'⟩
          | _ => simp [avEq] at h
        | _ => simp [avEq] at h
  · rename_i n e hu
    split at ht
    · cases ht
    · split at ht
      · rename_i hne he hs
        cases ht
        cases a with
        | bytes m x0 => cases b with
          | bytes m' y0 =>
            simp only [avEq] at h
            split at h
            · rename_i hm
              obtain ⟨rfl, rfl⟩ := hm
              cases h
              simp only [VR] at ha hb
              subst ha hb
              have key2 : ∀ d', d' = d + 1 → (Op.equalIn (d' + 1) t (.agg ((List.range m').map fun i => Value.int .u8 (byteAt x0 i)).toArray) (.agg ((List.range m').map fun i => Value.int .u8 (byteAt y0 i)).toArray)).run P w = .ok (x0 % 2 ^ (8 * m') == y0 % 2 ^ (8 * m')) w := ?_
              · exact key2 _ rfl
              intro d' hd'
              simp only [Op.equalIn, Sem.run_bind, run_und hu, Result.andThen_ok, run_size hs]
              have key := forIn_bytes (P := P) d e .u8 he hs ((List.range m').map fun i => Value.int .u8 (byteAt x0 i)).toArray ((List.range m').map fun i => Value.int .u8 (byteAt y0 i)).toArray x0 y0 w (List.range m')
                (fun i hi => by have := List.mem_range.1 hi; simp [this])
              simp only [Std.Legacy.Range.forIn_eq_forIn_range', Std.Legacy.Range.size]
              rw [show (m' - 0 + 1 - 1) / 1 = m' by omega, ← List.range_eq_range', hd', key]
              by_cases heq : ∀ i, i ∈ List.range m' → byteAt x0 i = byteAt y0 i
              · rw [if_pos heq]
                simp only [Result.andThen_ok, Sem.run_pure]
                have := bytes_ext x0 y0 m' (fun i hi => heq i (List.mem_range.2 hi))
                rw [this]; simp
              · rw [if_neg heq]
                simp only [Result.andThen_ok, Sem.run_pure]
                have hne : (x0 % 2 ^ (8 * m') == y0 % 2 ^ (8 * m')) = false := by
                  rw [beq_eq_false_iff_ne]
                  intro h
                  exact heq fun i hi => bytes_eq_of_mod h i (List.mem_range.1 hi)
                rw [hne]
            · cases h
          | _ => simp [avEq] at h
        | _ => simp [avEq] at h
      · cases ht
  · cases ht
end Go.Proofs.YtlkfclgkinaibaaGreat

namespace Go.Proofs.YtlkfclgkinaibaaGreat
variable {Λ : Lam}
theorem Rel.row {μ h w} (r : Rel Λ μ h w) {id e es soft ro d} (hg : h.get id = some (.row e es soft ro d)) :
    ∃ l, μ id = some l ∧ RowR μ w l e es soft ro d := r.obj id _ hg
theorem RowR.get {μ : Mu} {w : World} {l : Loc} {e es : Nat} {soft ro : Bool} {d : Dat} (h : RowR μ w l e es soft ro d) {i : Nat} {v : AV} (hv : d.get i = some v) :
    ∃ cv, w.cell? ⟨l.block, l.off + i, none⟩ = some cv ∧ VR μ v cv ∧ cv.oneCell' = true := by
  obtain ⟨c, fr, p, q, _⟩ := h
  obtain ⟨cv, a, b, o⟩ := q i v hv
  exact ⟨cv, by rw [cell_at p]; exact a, b, o⟩
theorem RowR.take {μ : Mu} {w : World} {l : Loc} {e es : Nat} {soft ro : Bool} {d s : Dat} (h : RowR μ w l e es soft ro d) {off n : Nat} (ht : d.take off n = some s) (P : Program) :
    ∃ cs : List Value, (∀ w' : World, w'.heap = w.heap → (loadCells ⟨l.block, l.off + off, none⟩ n).run P w' = .ok cs.toArray w') ∧ DatC μ s cs := by
  obtain ⟨t1, t2, t3⟩ := Dat.take_spec ht
  rcases Nat.eq_zero_or_pos n with h0 | h0
  · subst h0
    refine ⟨[], fun w' _ => by simp [loadCells, loadCellsFrom], by simp [t1], fun i x hx => ?_⟩
    have := Dat.get_lt hx
    omega
  · obtain ⟨c, fr, p, q, _⟩ := h
    have hlen : l.off + off + n ≤ c.size := by
      obtain ⟨v, hv⟩ := Dat.get_of_lt (d := d) (i := off + n - 1) (by omega)
      obtain ⟨cv, a, _⟩ := q _ _ hv
      have := (Array.getElem?_eq_some_iff.1 a).1
      omega
    refine ⟨_, fun w' hw' => run_loadRow P (by rw [hw']; exact p) hlen, by simp; omega, fun i x hx => ?_⟩
    have hi : i < n := t1 ▸ Dat.get_lt hx
    rw [t3 i hi] at hx
    obtain ⟨cv, a, b⟩ := q _ _ hx
    refine ⟨cv, ?_, b⟩
    simp only [List.getElem?_take, hi, if_true, List.getElem?_drop]
    rw [← a]; simp [Nat.add_assoc]
theorem boundOk {P : Program} {w : World} {k : IntKind} {i : Int} {y : Nat} {code : BoundsCode} (h0 : 0 ≤ i) (h1 : i ≤ y) : (Instr.sliceBound (.int k i) y code).run P w = .ok i.toNat w := by
  simp [Instr.sliceBound, asIntOf, h0, h1]
def optVals (lo hi mx : Option Value) : List Value := lo.toList ++ hi.toList ++ mx.toList
theorem bounds_ok {P : Program} {μ : Mu} {isSlice : Bool} {len cap : Nat} {lo hi mx : Option Value} {args : List AV} {l r m : Nat} (h : bounds3 len cap lo.isSome hi.isSome mx.isSome args = some (l, r, m))
    (ha : VRL μ args (optVals lo hi mx)) (w : World) : (Instr.sliceBounds isSlice len cap lo hi mx).run P w = .ok (l, r, m) w := by
  cases lo <;> cases hi <;> cases mx <;> simp only [Option.isSome_none, Option.isSome_some, bounds3, optVals, Option.toList_none, Option.toList_some, List.nil_append, List.append_nil, List.cons_append] at h ha
  · split at h
    · cases h
      simp [Instr.sliceBounds]
    · cases h
  · cases h
  · split at h
    · split at h
      · rename_i hc
        cases h
        obtain ⟨a, e, v⟩ := VRL.one ha
        cases e; rw [VR.int v]
        simp [Instr.sliceBounds, boundOk (P := P) (w := w) hc.1 hc.2]
      · cases h
    · cases h
  · split at h
    · split at h
      · rename_i hc
        cases h
        obtain ⟨a, b, e, v, u⟩ := VRL.two ha
        cases e; rw [VR.int v, VR.int u]
        simp [Instr.sliceBounds, boundOk (P := P) (w := w) (show (0 : Int) ≤ _ by omega) hc.2.2]
        rw [boundOk hc.1 (by omega)]; simp
      · cases h
    · cases h
  · split at h
    · split at h
      · rename_i hc
        cases h
        obtain ⟨a, e, v⟩ := VRL.one ha
        cases e; rw [VR.int v]
        simp [Instr.sliceBounds, boundOk (P := P) (w := w) hc.1 hc.2]
      · cases h
    · cases h
  · cases h
  · split at h
    · split at h
      · rename_i hc
        cases h
        obtain ⟨a, b, e, v, u⟩ := VRL.two ha
        cases e; rw [VR.int v, VR.int u]
        simp [Instr.sliceBounds, boundOk (P := P) (w := w) (show (0 : Int) ≤ _ by omega) hc.2.2]
        rw [boundOk hc.1 (by omega)]; simp
      · cases h
    · cases h
  · split at h
    · split at h
      · rename_i hc
        cases h
        obtain ⟨a, b, c, e, v, u, t⟩ := VRL.three ha
        cases e; rw [VR.int v, VR.int u, VR.int t]
        simp [Instr.sliceBounds, boundOk (P := P) (w := w) (show (0 : Int) ≤ _ by omega) hc.2.2.2]
        rw [boundOk (by omega) (by omega)]; simp
        rw [boundOk hc.1 (by omega)]; simp
      · cases h
    · cases h
end Go.Proofs.YtlkfclgkinaibaaGreat

namespace Go.Proofs.YtlkfclgkinaibaaGreat
variable {Λ : Lam}
section
variable {P : Program} {o : Oper} {ρ : Operand → Value} {μ : Mu} {h h' : AHeap} {w : World} {args : List AV} {r : AV}
theorem opS_val {s : Sem Value} {w' : World} {μ' : Mu} {cv : Value} (e : s.run P w = .ok cv w') (v : VR μ' r cv) (hr : Rel Λ μ' h' w') (st : Step μ h w μ' h' w') :
    OpS Λ P (do pure (Next.value (← s))) μ h w r h' :=
  ⟨μ', w', cv, .inl (by simp [e]), v, hr, st⟩
theorem opS_pval {s : Sem Value} {cv : Value} (hr : Rel Λ μ h w) (e : s.run P w = .ok cv w) (v : VR μ r cv) : OpS Λ P (do pure (Next.value (← s))) μ h w r h :=
  opS_val e v hr (Step.refl μ h w)
theorem op_mv {x : Operand} (ho : o.op = .move x ∨ o.op = .assign x) (e : aop .mv args h = some (r, h')) (ha : VRL μ args [ρ x]) (hr : Rel Λ μ h w) : OpS Λ P (execOp ρ o) μ h w r h' := by
  simp only [aop] at e
  split at e
  · cases e
    obtain ⟨a, e, v⟩ := VRL.one ha
    cases e
    rcases ho with ho | ho <;> exact OpS.pure hr (by simp [execOp, ho]) v
  · cases e
theorem op_pick {c x y : Operand} (ho : o.op = .pick c x y) (e : aop .pick args h = some (r, h')) (ha : VRL μ args [ρ c, ρ x, ρ y]) (hr : Rel Λ μ h w) : OpS Λ P (execOp ρ o) μ h w r h' := by
  simp only [aop] at e
  split at e
  · rename_i b a1 a2
    cases e
    obtain ⟨a, a', a'', e, v, v', v''⟩ := VRL.three ha
    simp only [List.cons.injEq, and_true] at e
    obtain ⟨e1, e2, e3⟩ := e
    rw [← e1] at v; rw [← e2] at v'; rw [← e3] at v''
    have hc := VR.bool v
    cases b
    · exact OpS.pure hr (cv := ρ y) (by simp [execOp, ho, asBool, hc]) v''
    · exact OpS.pure hr (cv := ρ x) (by simp [execOp, ho, asBool, hc]) v'
  · cases e
theorem op_nilCheck {x : Operand} (ho : o.op = .nilCheck x) (e : aop .nilCheck args h = some (r, h')) (ha : VRL μ args [ρ x]) (hr : Rel Λ μ h w) : OpS Λ P (execOp ρ o) μ h w r h' := by
  simp only [aop] at e
  split at e
  · obtain ⟨a, e', v⟩ := VRL.one ha
    cases e'
    split at e
    · cases e
      have v' := v
      simp only [VR] at v; obtain ⟨l, _, hx⟩ := v
      exact OpS.pure hr (cv := ρ x) (by simp [execOp, ho, hx]) v'
    · cases e
      have v' := v
      simp only [VR] at v; obtain ⟨p, q, _, _, hx⟩ := v
      exact OpS.pure hr (cv := ρ x) (by simp [execOp, ho, hx]) v'
    · cases e
  · cases e
theorem run_eqGuard_int {op : BinOp} {t : TypeId} {x y : Operand} {k k' : IntKind} {a b : Int} (w : World) : (eqGuard op t x y (.int k a) (.int k' b)).run P w = .ok () w := by
  cases op <;> simp [eqGuard]
theorem op_bin {op : BinOp} {t u : TypeId} {x y : Operand} (ho : o.op = .binOp op t x y u) (e : aop (.bin op) args h = some (r, h')) (ha : VRL μ args [ρ x, ρ y]) (hr : Rel Λ μ h w) : OpS Λ P (execOp ρ o) μ h w r h' := by
  simp only [aop] at e
  split at e
  · rename_i k a k' b
    cases hb : binInt op k a k' b with
    | none => rw [hb] at e; cases e
    | some r0 =>
      rw [hb] at e; cases e
      obtain ⟨c, d, e, v1, v2⟩ := VRL.two ha
      simp only [List.cons.injEq, and_true] at e
      obtain ⟨e1, e2⟩ := e
      obtain ⟨cv, hrun, hv⟩ := bin_sound (P := P) (t := t) hb w μ
      simp only [execOp, ho]
      refine opS_pval hr (cv := cv) ?_ hv
      rw [e1, e2, VR.int v1, VR.int v2]
      simp only [Sem.run_bind, run_eqGuard_int, Result.andThen_ok, hrun]
  · cases e
def EqV (k : EqK) (q : Bool) (x y : Value) : Prop :=
  match k with
  | .scal .int => ∃ i n m, x = .int i n ∧ y = .int i m ∧ q = (n == m)
  | .scal .bool => ∃ a b, x = .bool a ∧ y = .bool b ∧ q = (a == b)
  | .scal .str => ∃ a b, x = .string a ∧ y = .string b ∧ q = (a == b)
  | .flat _ => ∃ a b, x = .agg a ∧ y = .agg b
  | .bytes _ => ∃ a b, x = .agg a ∧ y = .agg b
  | .ptr => (∃ a b, x = .pointer a ∧ y = .pointer b ∧ (a = none ∨ b = none))
  | .slice => ∃ a n c b m d, x = .slice a n c ∧ y = .slice b m d
  | .map => ∃ a b, x = .map a ∧ y = .map b
  | .func => (x = .nilFunc ∨ ∃ f a b, x = .func f a b) ∧ (y = .nilFunc ∨ ∃ f a b, y = .func f a b)
theorem NilV.ptr {q : Bool} {x : Value} (h : NilV .ptr q x) : ∃ a, x = .pointer a ∧ (q = true → a = none) := by
  cases q
  · obtain ⟨a, rfl⟩ := h; exact ⟨some a, rfl, by simp⟩
  · exact ⟨none, h, fun _ => rfl⟩
theorem NilV.slice {q : Bool} {x : Value} (h : NilV .slice q x) : ∃ a n c, x = .slice a n c := by
  cases q
  · obtain ⟨a, n, c, rfl⟩ := h; exact ⟨some a, n, c, rfl⟩
  · exact ⟨none, 0, 0, h⟩
theorem NilV.map {q : Bool} {x : Value} (h : NilV .map q x) : ∃ a, x = .map a := by
  cases q
  · obtain ⟨a, rfl⟩ := h; exact ⟨some a, rfl⟩
  · exact ⟨none, h⟩
theorem NilV.func {q : Bool} {x : Value} (h : NilV .func q x) : x = .nilFunc ∨ ∃ f a b, x = .func f a b := by
  cases q
  · exact .inr h
  · exact .inl h
theorem scEq_inv {s : Sc} {a b : AV} {q : Bool} (h : scEq s a b = some q) :
    (s = .int ∧ ∃ k n m, a = .int k n ∧ b = .int k m ∧ q = (n == m)) ∨ (s = .bool ∧ ∃ n m, a = .bool n ∧ b = .bool m ∧ q = (n == m)) ∨ (s = .str ∧ ∃ n m, a = .str n ∧ b = .str m ∧ q = (n == m)) := by
  unfold scEq at h
  split at h
  · split at h
    · rename_i hk; subst hk; cases h; exact .inl ⟨rfl, _, _, _, rfl, rfl, rfl⟩
    · cases h
  · cases h; exact .inr (.inl ⟨rfl, _, _, rfl, rfl, rfl⟩)
  · cases h; exact .inr (.inr ⟨rfl, _, _, rfl, rfl, rfl⟩)
  · cases h
theorem avEq_kind {k : EqK} {a b : AV} {x y : Value} {q : Bool} (h : avEq k a b = some q) (ha : VR μ a x) (hb : VR μ b y) : EqV k q x y := by
  cases k with
  | scal s =>
    rcases scEq_inv (show scEq s a b = some q from h) with ⟨rfl, k, n, m, rfl, rfl, rfl⟩ | ⟨rfl, n, m, rfl, rfl, rfl⟩ | ⟨rfl, n, m, rfl, rfl, rfl⟩
    · exact ⟨k, n, m, VR.int ha, VR.int hb, rfl⟩
    · exact ⟨n, m, VR.bool ha, VR.bool hb, rfl⟩
    · exact ⟨n, m, by simpa [VR] using ha, by simpa [VR] using hb, rfl⟩
  | flat l =>
    cases a with
    | agg as => cases b with
      | agg bs =>
        simp only [VR] at ha hb
        obtain ⟨xs, _, _, rfl⟩ := ha
        obtain ⟨ys, _, _, rfl⟩ := hb
        exact ⟨_, _, rfl, rfl⟩
      | _ => simp [avEq] at h
    | _ => simp [avEq] at h
  | bytes l =>
    cases a with
    | bytes m x0 => cases b with
      | bytes m' y0 =>
        simp only [VR] at ha hb
        exact ⟨_, _, ha, hb⟩
      | _ => simp [avEq] at h
    | _ => simp [avEq] at h
  | ptr =>
    rcases nilEq_cases (show nilEq (nilOf .ptr a) (nilOf .ptr b) = some q from h) with ⟨h1, h2⟩ | ⟨h1, h2, _⟩
    all_goals
      obtain ⟨p, rfl, hp⟩ := (nilOf_ok h1 ha).ptr
      obtain ⟨p', rfl, hp'⟩ := (nilOf_ok h2 hb).ptr
    · exact ⟨p, p', rfl, rfl, .inl (hp rfl)⟩
    · exact ⟨p, p', rfl, rfl, .inr (hp' rfl)⟩
  | slice =>
    rcases nilEq_cases (show nilEq (nilOf .slice a) (nilOf .slice b) = some q from h) with ⟨h1, h2⟩ | ⟨h1, h2, _⟩
    all_goals
      obtain ⟨p, n, c, rfl⟩ := (nilOf_ok h1 ha).slice
      obtain ⟨p', n', c', rfl⟩ := (nilOf_ok h2 hb).slice
      exact ⟨p, n, c, p', n', c', rfl, rfl⟩
  | map =>
    rcases nilEq_cases (show nilEq (nilOf .map a) (nilOf .map b) = some q from h) with ⟨h1, h2⟩ | ⟨h1, h2, _⟩
    all_goals
      obtain ⟨p, rfl⟩ := (nilOf_ok h1 ha).map
      obtain ⟨p', rfl⟩ := (nilOf_ok h2 hb).map
      exact ⟨p, p', rfl, rfl⟩
  | func =>
    rcases nilEq_cases (show nilEq (nilOf .func a) (nilOf .func b) = some q from h) with ⟨h1, h2⟩ | ⟨h1, h2, _⟩
    all_goals exact ⟨(nilOf_ok h1 ha).func, (nilOf_ok h2 hb).func⟩
theorem eqT_guard {t : TypeId} {k : EqK} (ht : eqT P t = some k) (hk : (∃ l, k = .flat l) ∨ ∃ n, k = .bytes n) : P.eqGuardType P.depth t = false := by
  unfold eqT at ht
  split at ht
  all_goals first
    | (cases ht; rcases hk with ⟨l, hk⟩ | ⟨n, hk⟩ <;> cases hk; done)
    | skip
  · split at ht
    · cases ht
    · rename_i hno
      simp only [Bool.or_eq_true, not_or, Bool.not_eq_true] at hno
      exact hno.2
  · split at ht
    · cases ht
    · rename_i hno
      simpa using hno
  · cases ht
theorem eq_guard {t : TypeId} {k : EqK} {q : Bool} {x y : Value} (ht : eqT P t = some k) (hk : EqV k q x y) (op : BinOp) (xo yo : Operand) (w : World) :
    (eqGuard op t xo yo x y).run P w = .ok () w := by
  cases k with
  | scal s =>
    cases s
    · obtain ⟨i, n, m, rfl, rfl, _⟩ := hk; cases op <;> simp [eqGuard]
    · obtain ⟨n, m, rfl, rfl, _⟩ := hk; cases op <;> simp [eqGuard]
    · obtain ⟨n, m, rfl, rfl, _⟩ := hk; cases op <;> simp [eqGuard]
  | flat l => obtain ⟨a, b, rfl, rfl⟩ := hk; exact run_eqGuard_agg w op t xo yo a b (eqT_guard ht (.inl ⟨l, rfl⟩))
  | bytes l => obtain ⟨a, b, rfl, rfl⟩ := hk; exact run_eqGuard_agg w op t xo yo a b (eqT_guard ht (.inr ⟨l, rfl⟩))
  | ptr => obtain ⟨a, b, rfl, rfl, _⟩ := hk; cases op <;> simp [eqGuard]
  | slice => obtain ⟨a, n, c, b, m, d, rfl, rfl⟩ := hk; cases op <;> simp [eqGuard]
  | map => obtain ⟨a, b, rfl, rfl⟩ := hk; cases op <;> simp [eqGuard]
  | func => obtain ⟨hx | ⟨f, a, b, hx⟩, hy | ⟨g, c, d, hy⟩⟩ := hk <;> subst hx hy <;> cases op <;> simp [eqGuard]
theorem binOp_eq {t : TypeId} {k : EqK} {a b : AV} {x y : Value} {q : Bool} (he : avEq k a b = some q) (ht : eqT P t = some k) (ha : VR μ a x) (hb : VR μ b y) (neg : Bool) (w : World) :
    (binOp (if neg then .neq else .eql) t x y).run P w = .ok (.bool (if neg then !q else q)) w := by
  have hq : (Op.equal t x y).run P w = .ok q w := avEq_ok he ht ha hb 9998 w
  have hk := avEq_kind he ha hb
  cases k with
  | scal s =>
    cases s
    · obtain ⟨i, n, m, rfl, rfl, rfl⟩ := hk
      cases neg
      · simp [binOp, Op.intCmp]
      · simp [binOp, Op.intCmp]; rfl
    · obtain ⟨n, m, rfl, rfl, rfl⟩ := hk
      cases neg <;> simp [binOp, hq]
    · obtain ⟨n, m, rfl, rfl, rfl⟩ := hk
      cases neg
      · simp [binOp, Op.stringOp, beq_toListBytes]
      · simp [binOp, Op.stringOp, beq_toListBytes]
  | flat l => obtain ⟨a, b, rfl, rfl⟩ := hk; cases neg <;> simp [binOp, hq]
  | bytes l => obtain ⟨a, b, rfl, rfl⟩ := hk; cases neg <;> simp [binOp, hq]
  | ptr => obtain ⟨a, b, rfl, rfl, _⟩ := hk; cases neg <;> simp [binOp, hq]
  | slice => obtain ⟨a, n, c, b, m, d, rfl, rfl⟩ := hk; cases neg <;> simp [binOp, hq]
  | map => obtain ⟨a, b, rfl, rfl⟩ := hk; cases neg <;> simp [binOp, hq]
  | func => obtain ⟨hx | ⟨f, a, b, hx⟩, hy | ⟨g, c, d, hy⟩⟩ := hk <;> subst hx hy <;> cases neg <;> simp [binOp, hq]
theorem op_eqv {t u : TypeId} {x y : Operand} {neg : Bool} {k : EqK} (ho : o.op = .binOp (if neg then .neq else .eql) t x y u) (ht : eqT P t = some k) (e : aop (.eqv neg k) args h = some (r, h')) (ha : VRL μ args [ρ x, ρ y]) (hr : Rel Λ μ h w) :
    OpS Λ P (execOp ρ o) μ h w r h' := by
  simp only [aop] at e
  split at e
  · rename_i a b
    cases hb : avEq k a b with
    | none => rw [hb] at e; cases e
    | some q =>
      rw [hb] at e; cases e
      obtain ⟨c, d, e, v1, v2⟩ := VRL.two ha
      simp only [List.cons.injEq, and_true] at e
      obtain ⟨e1, e2⟩ := e
      rw [← e1] at v1; rw [← e2] at v2
      simp only [execOp, ho]
      refine opS_pval hr (cv := .bool (if neg then !q else q)) ?_ (by simp [VR])
      simp only [Sem.run_bind, eq_guard ht (avEq_kind hb v1 v2), Result.andThen_ok, binOp_eq hb ht v1 v2]
  · cases e
theorem op_un {u : UnOp} {t : TypeId} {x : Operand} (ho : o.op = .unOp u t x) (e : aop (.un u) args h = some (r, h')) (ha : VRL μ args [ρ x]) (hr : Rel Λ μ h w) : OpS Λ P (execOp ρ o) μ h w r h' := by
  simp only [aop] at e
  split at e
  · cases e
    obtain ⟨a, e, v⟩ := VRL.one ha
    cases e
    simp only [execOp, ho]
    exact opS_pval hr (by rw [VR.int v]; simp [Op.unary, Op.intArith]; rfl) (by simp [VR])
  · cases e
    obtain ⟨a, e, v⟩ := VRL.one ha
    cases e
    simp only [execOp, ho]
    exact opS_pval hr (by rw [VR.bool v]; simp [Op.unary]; rfl) (by simp [VR])
  · cases e
theorem op_conv {s d : TypeId} {x : Operand} {k : IntKind} {ds : TypeDesc} (ho : o.op = .convert s d x) (hs : P.underlying s = some ds) (hd : P.underlying d = some (.int k)) (e : aop (.conv k) args h = some (r, h')) (ha : VRL μ args [ρ x]) (hr : Rel Λ μ h w) :
    OpS Λ P (execOp ρ o) μ h w r h' := by
  simp only [aop] at e
  split at e
  · cases e
    obtain ⟨a, e, v⟩ := VRL.one ha
    cases e
    simp only [execOp, ho]
    refine opS_pval hr (cv := .int k _) ?_ (by simp [VR]; rfl)
    rw [VR.int v]
    simp only [convert, Sem.run_bind, run_und hs, run_und hd, Result.andThen_ok]
    cases ds <;> rfl
  · cases e
theorem op_sl2arr {t e' : TypeId} {x : Operand} {n : Nat} (ho : o.op = .sliceToArrayPointer t x) (ht : P.underlying t = some (.array n e')) (e : aop (.sl2arr n) args h = some (r, h')) (ha : VRL μ args [ρ x]) (hr : Rel Λ μ h w) :
    OpS Λ P (execOp ρ o) μ h w r h' := by
  simp only [aop] at e
  split at e
  · split at e
    · rename_i id off len cap hle
      cases e
      obtain ⟨a, e, v⟩ := VRL.one ha
      cases e
      simp only [VR] at v; obtain ⟨l, hl, hx⟩ := v
      simp only [execOp, ho]
      refine opS_pval hr (cv := .pointer (some ⟨l.block, l.off + off, none⟩)) ?_ (by simp only [VR]; exact ⟨l, hl, rfl⟩)
      rw [hx]; simp [Instr.arrayAt, run_und ht]; omega
    · cases e
  · split at e
    · rename_i id idx es len hle
      cases e
      obtain ⟨a, e, v⟩ := VRL.one ha
      cases e
      simp only [VR] at v; obtain ⟨l, hl, _, hx⟩ := v
      simp only [execOp, ho]
      refine opS_pval hr (cv := .pointer (some ⟨l.block, l.off + idx * es, none⟩)) ?_ (by simp only [VR]; exact ⟨l, hl, rfl⟩)
      rw [hx]; simp [Instr.arrayAt, run_und ht]; omega
    · cases e
  · cases e
theorem VRL.take {v : List AV} {c : List Value} (hv : VRL μ v c) (n : Nat) : VRL μ (v.take n) (c.take n) := by
  induction v generalizing c n with
  | nil => simp only [VRL] at hv; subst hv; simp [VRL]
  | cons a as ih =>
    simp only [VRL] at hv; obtain ⟨x, xs, rfl, p, q⟩ := hv
    cases n with
    | zero => simp [VRL]
    | succ n => simp only [List.take_succ_cons, VRL]; exact ⟨x, _, rfl, p, ih q n⟩
theorem VRL.drop {v : List AV} {c : List Value} (hv : VRL μ v c) (n : Nat) : VRL μ (v.drop n) (c.drop n) := by
  induction v generalizing c n with
  | nil => simp only [VRL] at hv; subst hv; simp [VRL]
  | cons a as ih =>
    cases n with
    | zero => simpa using hv
    | succ n => simp only [VRL] at hv; obtain ⟨x, xs, rfl, p, q⟩ := hv; simpa using ih q n
theorem op_mkfunc {f : FuncId} {first captured : Array Operand} (ho : o.op = .makeFunc (.func f) first captured) (e : aop (.mkfunc f first.size) args h = some (r, h')) (ha : VRL μ args ((first ++ captured).toList.map ρ)) (hr : Rel Λ μ h w) :
    OpS Λ P (execOp ρ o) μ h w r h' := by
  simp only [aop] at e
  cases e
  simp only [execOp, ho]
  refine opS_pval hr (cv := .func (.func f) (first.map ρ) (captured.map ρ)) (by simp [Instr.makeFunc]) ?_
  simp only [VR]
  rw [Array.toList_append, List.map_append] at ha
  refine ⟨_, _, VRL.take ha first.size, VRL.drop ha first.size, ?_⟩
  have h1 : (first.toList.map ρ).length = first.size := by simp
  rw [← h1, List.take_left, List.drop_left]
  congr 1 <;> (apply Array.ext'; simp)
theorem op_extract {x : Operand} {i : Nat} (ho : o.op = .extract x i) (e : aop (.extract i) args h = some (r, h')) (ha : VRL μ args [ρ x]) (hr : Rel Λ μ h w) : OpS Λ P (execOp ρ o) μ h w r h' := by
  simp only [aop] at e
  split at e
  · rename_i vs
    cases hi : vs[i]? with
    | none => rw [hi] at e; cases e
    | some y =>
      rw [hi] at e; cases e
      obtain ⟨a, e, v⟩ := VRL.one ha
      cases e
      simp only [VR] at v; obtain ⟨l, hl, hx⟩ := v
      obtain ⟨c, hc, hv⟩ := VRL.get hl i _ hi
      simp only [execOp, ho]
      refine opS_pval hr (cv := c) ?_ hv
      rw [hx]; simp [Instr.extract, hc]
  · cases e
theorem op_fieldAddr {s : TypeId} {x : Operand} {f n : Nat} {fs : Array Field} {fd : Field} (ho : o.op = .fieldAddr s x f) (hs : P.underlying s = some (.struct fs)) (hf : fs[f]? = some fd) (hn : sizeT P fd.type = some n) (h0 : n ≠ 0)
    (e : aop (.fieldAddr fd.offset) args h = some (r, h')) (ha : VRL μ args [ρ x]) (hr : Rel Λ μ h w) : OpS Λ P (execOp ρ o) μ h w r h' := by
  simp only [aop] at e
  split at e
  · rename_i id off
    cases e
    obtain ⟨a, e, v⟩ := VRL.one ha
    cases e
    simp only [VR] at v; obtain ⟨l, hl, hx⟩ := v
    simp only [execOp, ho]
    refine opS_pval hr (cv := .pointer (some ⟨l.block, l.off + (off + fd.offset), none⟩)) ?_ (by simp only [VR]; exact ⟨l, hl, rfl⟩)
    rw [hx]
    simp [Instr.fieldAt, run_und hs, hf, Instr.sureAddr, fieldPlace, run_size hn, h0, add_at, Nat.add_assoc]
  · cases e
theorem run_part {t : TypeId} {d : Dat} {cs : Array Value} (hd : DatC μ d cs.toList) {off n : Nat} {agg : Bool} {v : AV} (hn : sizeT P t = some n) (hb : isAggT P t = some agg) (hv : d.part off n agg = some v) (w : World) :
    ∃ cv, (part t cs off).run P w = .ok cv w ∧ VR μ v cv := by
  unfold Dat.part at hv
  cases agg
  · simp only [Bool.false_eq_true, if_false] at hv
    obtain ⟨c, p, q, _⟩ := hd.2 _ _ hv
    exact ⟨c, by simp [part, run_isAgg hb, show cs[off]? = some c by simpa using p], q⟩
  · simp only [if_true] at hv
    obtain ⟨s, hs, rfl⟩ := Dat.sub_take hv
    have hc := hd.take hs
    refine ⟨.agg ((cs.toList.drop off).take n).toArray, ?_, hc.agg⟩
    simp only [part, Sem.run_bind, run_isAgg hb, Result.andThen_ok, if_true, run_size hn, Sem.run_pure]
    congr 2
    apply Array.ext'
    simp [List.take_drop]
theorem aggC {x : AV} {c : Value} (hx : x.isAgg = true) (v : VR μ x c) : ∃ cs : Array Value, c = .agg cs ∧ DatC μ x.dat cs.toList := by
  have hd := VR.dat v (by cases x <;> simp_all [AV.isAgg, AV.isVal])
  cases x with
  | agg l => simp only [VR] at v; obtain ⟨a, _, _, rfl⟩ := v; exact ⟨_, rfl, by simpa [Value.cells] using hd⟩
  | bytes l n => simp only [VR] at v; subst v; exact ⟨_, rfl, by simpa [Value.cells] using hd⟩
  | _ => simp [AV.isAgg] at hx
theorem op_field {t : TypeId} {x : Operand} {f n : Nat} {b : Bool} {fs : Array Field} {fd : Field} (ho : o.op = .field t x f) (hs : P.underlying t = some (.struct fs)) (hf : fs[f]? = some fd) (hn : sizeT P fd.type = some n) (hb : isAggT P fd.type = some b)
    (e : aop (.field fd.offset n b) args h = some (r, h')) (ha : VRL μ args [ρ x]) (hr : Rel Λ μ h w) : OpS Λ P (execOp ρ o) μ h w r h' := by
  simp only [aop] at e
  split at e
  · rename_i x0
    split at e
    · rename_i hagg
      cases hx : x0.dat.part fd.offset n b with
      | none => rw [hx] at e; cases e
      | some y =>
        rw [hx] at e; cases e
        obtain ⟨a, e, v⟩ := VRL.one ha
        cases e
        obtain ⟨cs, hc, hd⟩ := aggC hagg v
        obtain ⟨cv, p, q⟩ := run_part hd hn hb hx w
        simp only [execOp, ho]
        refine opS_pval hr (cv := cv) ?_ q
        rw [hc]; simp [Instr.field, run_und hs, hf, asAgg, p]
    · cases e
  · cases e
theorem op_indexv {t el : TypeId} {x i : Operand} {n len : Nat} {b : Bool} (ho : o.op = .index t x i) (hs : P.underlying t = some (.array len el)) (hn : sizeT P el = some n) (hb : isAggT P el = some b)
    (e : aop (.indexv len n b) args h = some (r, h')) (ha : VRL μ args [ρ x, ρ i]) (hr : Rel Λ μ h w) : OpS Λ P (execOp ρ o) μ h w r h' := by
  simp only [aop] at e
  split at e
  · rename_i x0 k j
    split at e
    · rename_i hc
      cases hx : x0.dat.part (j.toNat * n) n b with
      | none => rw [hx] at e; cases e
      | some y =>
        rw [hx] at e; cases e
        obtain ⟨a, a', e, v, v'⟩ := VRL.two ha
        simp only [List.cons.injEq, and_true] at e
        obtain ⟨e1, e2⟩ := e
        rw [← e1] at v; rw [← e2] at v'
        obtain ⟨cs, hcs, hd⟩ := aggC hc.2.2 v
        obtain ⟨cv, p, q⟩ := run_part hd hn hb hx w
        simp only [execOp, ho]
        refine opS_pval hr (cv := cv) ?_ q
        rw [hcs, VR.int v']
        have hlt : j < (len : Int) := hc.2.1
        simp [Instr.index, asIntOf, run_und hs, hc.1, hlt, run_size hn, p]
    · cases e
  · cases e
theorem op_indexstr {t : TypeId} {x i : Operand} (ho : o.op = .index t x i) (hs : P.underlying t = some .string)
    (e : aop .indexstr args h = some (r, h')) (ha : VRL μ args [ρ x, ρ i]) (hr : Rel Λ μ h w) : OpS Λ P (execOp ρ o) μ h w r h' := by
  simp only [aop] at e
  split at e
  · rename_i s k j
    split at e
    · rename_i hc
      cases hx : s[j.toNat]? with
      | none => rw [hx] at e; cases e
      | some y =>
        rw [hx] at e; cases e
        obtain ⟨a, a', e, v, v'⟩ := VRL.two ha
        simp only [List.cons.injEq, and_true] at e
        obtain ⟨e1, e2⟩ := e
        rw [← e1] at v; rw [← e2] at v'
        simp only [execOp, ho]
        refine opS_pval hr (cv := .int .u8 y.toNat) ?_ (by simp [VR])
        simp only [VR] at v
        rw [v, VR.int v']
        simp [Instr.index, asIntOf, run_und hs, hc, hx]
    · cases e
  · cases e
theorem op_indexa {t el : TypeId} {x i : Operand} {n len : Nat} (ho : o.op = .indexAddr t x i) (hs : P.underlying t = some (.array len el)) (hn : sizeT P el = some n)
    (e : aop (.indexa len n) args h = some (r, h')) (ha : VRL μ args [ρ x, ρ i]) (hr : Rel Λ μ h w) : OpS Λ P (execOp ρ o) μ h w r h' := by
  simp only [aop] at e
  split at e
  · rename_i id off k j
    split at e
    · rename_i hc
      cases e
      obtain ⟨a, a', e, v, v'⟩ := VRL.two ha
      simp only [List.cons.injEq, and_true] at e
      obtain ⟨e1, e2⟩ := e
      rw [← e1] at v; rw [← e2] at v'
      simp only [VR] at v; obtain ⟨l, hl, hx⟩ := v
      simp only [execOp, ho]
      refine opS_pval hr (cv := .pointer (some ⟨l.block, l.off + (off + j.toNat * n), none⟩)) ?_ (by simp only [VR]; exact ⟨l, hl, rfl⟩)
      have hlt : j < (len : Int) := hc.2
      rw [hx, VR.int v']
      simp [Instr.indexAt, asIntOf, run_und hs, Instr.sureAddr, hc.1, hlt, run_size hn, add_at, Nat.add_assoc]
    · cases e
  · cases e
theorem op_indexs {t el : TypeId} {x i : Operand} {n : Nat} (ho : o.op = .indexAddr t x i) (hs : P.underlying t = some (.slice el)) (hn : sizeT P el = some n)
    (e : aop (.indexs n) args h = some (r, h')) (ha : VRL μ args [ρ x, ρ i]) (hr : Rel Λ μ h w) : OpS Λ P (execOp ρ o) μ h w r h' := by
  simp only [aop] at e
  split at e
  · rename_i id off len cap k j
    split at e
    · rename_i hc
      cases e
      obtain ⟨a, a', e, v, v'⟩ := VRL.two ha
      simp only [List.cons.injEq, and_true] at e
      obtain ⟨e1, e2⟩ := e
      rw [← e1] at v; rw [← e2] at v'
      simp only [VR] at v; obtain ⟨l, hl, hx⟩ := v
      simp only [execOp, ho]
      refine opS_pval hr (cv := .pointer (some ⟨l.block, l.off + (off + j.toNat * n), none⟩)) ?_ (by simp only [VR]; exact ⟨l, hl, rfl⟩)
      have hlt : j < (len : Int) := hc.2
      rw [hx, VR.int v']
      simp [Instr.indexAt, asIntOf, run_und hs, hc.1, hlt, run_size hn, add_at, Nat.add_assoc]
    · cases e
  · rename_i id idx es len k j
    split at e
    · rename_i hc
      cases e
      obtain ⟨a, a', e, v, v'⟩ := VRL.two ha
      simp only [List.cons.injEq, and_true] at e
      obtain ⟨e1, e2⟩ := e
      rw [← e1] at v; rw [← e2] at v'
      simp only [VR] at v; obtain ⟨l, hl, _, hx⟩ := v
      simp only [execOp, ho]
      refine opS_pval hr (cv := .pointer (some ⟨l.block, l.off + (idx + j.toNat) * n, none⟩)) ?_ (by simp only [VR]; exact ⟨l, hl, rfl⟩)
      have hlt : j < (len : Int) := hc.2.1
      rw [hx, VR.int v', hc.2.2]
      simp [Instr.indexAt, asIntOf, run_und hs, hc.1, hlt, run_size hn, add_at, Nat.add_assoc, Nat.add_mul]
    · cases e
  · cases e
theorem op_load1 {t : TypeId} {x : Operand} (ho : o.op = .load t x) (hb : isAggT P t = some false) (e : aop .load1 args h = some (r, h')) (ha : VRL μ args [ρ x]) (hr : Rel Λ μ h w) : OpS Λ P (execOp ρ o) μ h w r h' := by
  simp only [aop] at e
  split at e
  · rename_i id off
    split at e
    · rename_i e0 es soft ro d hg
      cases hd : d.get off with
      | none => rw [hd] at e; cases e
      | some y =>
        rw [hd] at e; cases e
        obtain ⟨a, e, v⟩ := VRL.one ha
        cases e
        simp only [VR] at v; obtain ⟨l, hl, hx⟩ := v
        obtain ⟨l', hl', hrow⟩ := hr.row hg
        rw [hl] at hl'; cases hl'
        obtain ⟨cv, p, q, _⟩ := hrow.get hd
        simp only [execOp, ho]
        refine opS_pval hr (cv := cv) ?_ q
        rw [hx]; simp [Instr.loadAt, Instr.sureAddr, loadVar, run_isAgg hb, p]
    · cases e
  · cases e
theorem op_loadn {t : TypeId} {x : Operand} {n : Nat} (ho : o.op = .load t x) (hb : isAggT P t = some true) (hn : sizeT P t = some n) (e : aop (.loadn n) args h = some (r, h')) (ha : VRL μ args [ρ x]) (hr : Rel Λ μ h w) : OpS Λ P (execOp ρ o) μ h w r h' := by
  simp only [aop] at e
  split at e
  · rename_i id off
    split at e
    · rename_i e0 es soft ro d hg
      cases hd : d.sub off n with
      | none => rw [hd] at e; cases e
      | some y =>
        rw [hd] at e; cases e
        obtain ⟨a, e, v⟩ := VRL.one ha
        cases e
        simp only [VR] at v; obtain ⟨l, hl, hx⟩ := v
        obtain ⟨l', hl', hrow⟩ := hr.row hg
        rw [hl] at hl'; cases hl'
        obtain ⟨s, hs, rfl⟩ := Dat.sub_take hd
        obtain ⟨cs, p, q⟩ := hrow.take hs P
        simp only [execOp, ho]
        refine opS_pval hr (cv := .agg cs.toArray) ?_ q.agg
        rw [hx]; simp [Instr.loadAt, Instr.sureAddr, loadVar, run_isAgg hb, run_size hn, p w rfl]
    · cases e
  · cases e
end
end Go.Proofs.YtlkfclgkinaibaaGreat

namespace Go.Proofs.YtlkfclgkinaibaaGreat
variable {Λ : Lam}
theorem bounds3_inv {len cap : Nat} {lo hi mx : Bool} {args : List AV} {l r m : Nat} (h : bounds3 len cap lo hi mx args = some (l, r, m)) (hle : len ≤ cap) : l ≤ r ∧ r ≤ cap ∧ m ≤ cap := by
  cases lo <;> cases hi <;> cases mx <;> simp only [bounds3] at h <;> (repeat' split at h) <;> first
    | (simp only [Option.some.injEq, Prod.mk.injEq] at h; obtain ⟨rfl, rfl, rfl⟩ := h; omega)
    | cases h
theorem bounds3_mono {len cap : Nat} {lo hi mx : Bool} {args : List AV} {l r m : Nat} (h : bounds3 len len lo hi mx args = some (l, r, m)) (hle : len ≤ cap) :
    bounds3 len cap lo hi mx args = some (l, r, if mx then m else cap) ∧ l ≤ r ∧ r ≤ len := by
  cases lo <;> cases hi <;> cases mx <;> simp only [bounds3] at h ⊢ <;> (repeat' split at h) <;> first
    | (simp only [Option.some.injEq, Prod.mk.injEq] at h; obtain ⟨rfl, rfl, rfl⟩ := h; refine ⟨?_, by omega, by omega⟩; first | rfl | (rw [if_pos (by omega)]; rfl))
    | cases h
section
variable {P : Program} {o : Oper} {ρ : Operand → Value} {μ : Mu} {h h' : AHeap} {w : World} {args : List AV} {r : AV}
theorem optOps (lo hi mx : Option Operand) : ((lo.toArray ++ hi.toArray ++ mx.toArray).toList.map ρ) = optVals (lo.map ρ) (hi.map ρ) (mx.map ρ) := by
  cases lo <;> cases hi <;> cases mx <;> simp [optVals]
theorem sliceAt_slice {t el : TypeId} (ht : P.underlying t = some (.slice el)) {x : Value} {lo hi mx : Option Value} (w : World) :
    (Instr.sliceAt t x lo hi mx).run P w = (Instr.slice t x lo hi mx).run P w := by
  simp [Instr.sliceAt, run_und ht]
theorem op_slice {t el : TypeId} {x : Operand} {lo hi mx : Option Operand} {n : Nat} (ho : o.op = .slice t x lo hi mx) (ht : P.underlying t = some (.slice el)) (hn : sizeT P el = some n)
    (e : aop (.slice n lo.isSome hi.isSome mx.isSome) args h = some (r, h')) (ha : VRL μ args (ρ x :: optVals (lo.map ρ) (hi.map ρ) (mx.map ρ))) (hr : Rel Λ μ h w) : OpS Λ P (execOp ρ o) μ h w r h' := by
  simp only [aop] at e
  split at e
  · rename_i x0 rest
    simp only [VRL] at ha
    obtain ⟨c, cs, hc, v, vs⟩ := ha
    simp only [List.cons.injEq] at hc
    obtain ⟨hc1, hc2⟩ := hc
    rw [← hc1] at v; rw [← hc2] at vs
    have hlo : lo.isSome = (lo.map ρ).isSome := by cases lo <;> rfl
    have hhi : hi.isSome = (hi.map ρ).isSome := by cases hi <;> rfl
    have hmx : mx.isSome = (mx.map ρ).isSome := by cases mx <;> rfl
    rw [hlo, hhi, hmx] at e
    split at e
    · cases hb : bounds3 0 0 (lo.map ρ).isSome (hi.map ρ).isSome (mx.map ρ).isSome rest with
      | none => rw [hb] at e; cases e
      | some b =>
        obtain ⟨l, r0, m⟩ := b
        rw [hb] at e; cases e
        have hrun := bounds_ok (P := P) (isSlice := true) hb vs w
        simp only [VR] at v
        simp only [execOp, ho]
        refine opS_pval hr (cv := .slice none 0 0) ?_ (by simp [VR])
        have hm : m = 0 ∧ r0 = 0 ∧ l = 0 := by have := bounds3_inv hb (Nat.le_refl _); omega
        obtain ⟨rfl, rfl, rfl⟩ := hm
        rw [v, sliceAt_slice ht]
        simp [Instr.slice, run_und ht, hrun, run_size hn]
    · split at e
      · cases e
      · rename_i hnm
        cases hb : bounds3 0 0 (lo.map ρ).isSome (hi.map ρ).isSome (mx.map ρ).isSome rest with
        | none => rw [hb] at e; cases e
        | some b =>
          obtain ⟨l, r0, m⟩ := b
          rw [hb] at e; cases e
          simp only [VR] at v
          obtain ⟨a, c0, v⟩ := v
          have hnm : (mx.map ρ).isSome = false := by simpa using hnm
          have hmx0 : mx.map ρ = none := by simpa using hnm
          obtain ⟨hb2, hlr, hrl⟩ := bounds3_mono hb (Nat.zero_le c0)
          have hl0 : l = 0 ∧ r0 = 0 := by omega
          obtain ⟨rfl, rfl⟩ := hl0
          rw [hnm] at hb2
          simp only [Bool.false_eq_true, if_false] at hb2
          rw [← hnm] at hb2
          have hrun := bounds_ok (P := P) (isSlice := true) hb2 vs w
          simp only [execOp, ho]
          refine opS_pval hr (cv := .slice (some a) 0 c0) ?_ (by simp only [VR]; exact ⟨a, c0, rfl⟩)
          rw [v, sliceAt_slice ht]
          simp [Instr.slice, run_und ht, hrun, run_size hn, Addr.add]
    · rename_i id off len cap
      cases hb : bounds3 len cap (lo.map ρ).isSome (hi.map ρ).isSome (mx.map ρ).isSome rest with
      | none => rw [hb] at e; cases e
      | some b =>
        obtain ⟨l, r0, m⟩ := b
        rw [hb] at e; cases e
        have hrun := bounds_ok (P := P) (isSlice := true) hb vs w
        simp only [VR] at v
        obtain ⟨k, hk, v⟩ := v
        simp only [execOp, ho]
        refine opS_pval hr (cv := .slice (some ⟨k.block, k.off + (if m = l then off else off + l * n), none⟩) (r0 - l) (m - l)) ?_ (by simp only [VR]; exact ⟨k, hk, rfl⟩)
        rw [v, sliceAt_slice ht]
        simp only [Instr.slice, Sem.run_bind, run_und ht, Result.andThen_ok, hrun, run_size hn, Sem.run_pure]
        by_cases hml : m = l <;> simp [hml, add_at, Nat.add_assoc]
    · rename_i id idx es' len
      split at e
      · rename_i hes
        have hes := hes.symm
        subst hes
        simp only [VR] at v
        obtain ⟨k, hk, hcap, v⟩ := v
        split at e
        · rename_i hnm
          cases hb : bounds3 len len (lo.map ρ).isSome (hi.map ρ).isSome false rest with
          | none => rw [hb] at e; cases e
          | some b =>
            obtain ⟨l, r0, m⟩ := b
            rw [hb] at e
            simp only [Option.bind_some] at e
            obtain ⟨hb2, hlr, hrl⟩ := bounds3_mono hb (cap := k.cap - idx) (by omega)
            simp only [Bool.false_eq_true, if_false] at hb2
            rw [← hnm] at hb2
            have hrun := bounds_ok (P := P) (isSlice := true) hb2 vs w
            simp only [execOp, ho]
            split at e
            · rename_i hll
              cases e
              refine opS_pval hr (cv := .slice (some ⟨k.block, k.off + (idx + l) * n, none⟩) (r0 - l) (k.cap - (idx + l))) ?_ (by simp only [VR]; exact ⟨k, hk, by omega, rfl⟩)
              rw [v, sliceAt_slice ht]
              simp only [Instr.slice, Sem.run_bind, run_und ht, Result.andThen_ok, hrun, run_size hn, Sem.run_pure]
              have hcc : k.cap - idx - l = k.cap - (idx + l) := by omega
              by_cases hml : k.cap - idx = l
              · have hl0 : l = 0 := by omega
                subst hl0
                simp [hml]
              · simp [hml, add_at, hcc, Nat.add_mul, Nat.add_assoc]
            · rename_i hll
              cases e
              have hr0 : r0 = l := by omega
              subst hr0
              refine opS_pval hr (cv := .slice (some (if k.cap - idx = r0 then ⟨k.block, k.off + idx * n, none⟩ else (⟨k.block, k.off + idx * n, none⟩ : Addr).add (r0 * n))) 0 (k.cap - idx - r0)) ?_ (by simp only [VR]; exact ⟨_, _, rfl⟩)
              rw [v, sliceAt_slice ht]
              simp only [Instr.slice, Sem.run_bind, run_und ht, Result.andThen_ok, hrun, run_size hn, Sem.run_pure]
              by_cases hml : k.cap - idx = r0 <;> simp [hml]
        · rename_i hmm
          cases hb : bounds3 len len (lo.map ρ).isSome (hi.map ρ).isSome true rest with
          | none => rw [hb] at e; cases e
          | some b =>
            obtain ⟨l, r0, m⟩ := b
            rw [hb] at e; cases e
            obtain ⟨hb2, hlr, hrl⟩ := bounds3_mono hb (cap := k.cap - idx) (by omega)
            simp only [if_true] at hb2
            rw [← hmm] at hb2
            have hrun := bounds_ok (P := P) (isSlice := true) hb2 vs w
            simp only [execOp, ho]
            refine opS_pval hr (cv := .slice (some ⟨k.block, k.off + (if m = l then idx * n else (idx + l) * n), none⟩) (r0 - l) (m - l)) ?_ (by simp only [VR]; exact ⟨k, hk, rfl⟩)
            rw [v, sliceAt_slice ht]
            simp only [Instr.slice, Sem.run_bind, run_und ht, Result.andThen_ok, hrun, run_size hn, Sem.run_pure]
            by_cases hml : m = l <;> simp [hml, add_at, Nat.add_assoc, Nat.add_mul]
      · cases e
    · cases e
  · cases e
theorem op_slicea {t el : TypeId} {x : Operand} {lo hi mx : Option Operand} {n k : Nat} (ho : o.op = .slice t x lo hi mx) (ht : P.underlying t = some (.array k el)) (hn : sizeT P el = some n)
    (e : aop (.slicea k n lo.isSome hi.isSome mx.isSome) args h = some (r, h')) (ha : VRL μ args (ρ x :: optVals (lo.map ρ) (hi.map ρ) (mx.map ρ))) (hr : Rel Λ μ h w) : OpS Λ P (execOp ρ o) μ h w r h' := by
  simp only [aop] at e
  split at e
  · rename_i id off rest
    simp only [VRL] at ha
    obtain ⟨c, cs, hc, v, vs⟩ := ha
    simp only [List.cons.injEq] at hc
    obtain ⟨hc1, hc2⟩ := hc
    rw [← hc1] at v; rw [← hc2] at vs
    have hlo : lo.isSome = (lo.map ρ).isSome := by cases lo <;> rfl
    have hhi : hi.isSome = (hi.map ρ).isSome := by cases hi <;> rfl
    have hmx : mx.isSome = (mx.map ρ).isSome := by cases mx <;> rfl
    rw [hlo, hhi, hmx] at e
    cases hb : bounds3 k k (lo.map ρ).isSome (hi.map ρ).isSome (mx.map ρ).isSome rest with
    | none => rw [hb] at e; cases e
    | some b =>
      obtain ⟨l, r0, m⟩ := b
      rw [hb] at e; cases e
      have hrun := bounds_ok (P := P) (isSlice := false) hb vs w
      simp only [VR] at v
      obtain ⟨q, hq, v⟩ := v
      simp only [execOp, ho]
      refine opS_pval hr (cv := .slice (some ⟨q.block, q.off + (if m = l then off else off + l * n), none⟩) (r0 - l) (m - l)) ?_ (by simp only [VR]; exact ⟨q, hq, rfl⟩)
      rw [v]
      simp only [Instr.sliceAt, Sem.run_bind, run_und ht, Result.andThen_ok, Instr.sureAddr, hrun, run_size hn, Sem.run_pure]
      by_cases hml : m = l <;> simp [hml, add_at, Nat.add_assoc]
  · cases e
theorem sliceLen_ok {x : AV} {c : Value} {n : Nat} (hx : sliceLen x = some n) (v : VR μ x c) : ∃ a k, c = .slice a n k := by
  cases x <;> simp only [sliceLen] at hx <;> try cases hx
  · simp only [VR] at v; obtain ⟨l, _, rfl⟩ := v; exact ⟨_, _, rfl⟩
  · simp only [VR] at v; obtain ⟨l, _, _, rfl⟩ := v; exact ⟨_, _, rfl⟩
  · simp only [VR] at v; subst v; exact ⟨_, _, rfl⟩
  · simp only [VR] at v; obtain ⟨a, k, rfl⟩ := v; exact ⟨_, _, rfl⟩
theorem exec_builtin {c : Call} {b : Builtin} (ho : o.op = .call c) (hb : c.callee = .builtin b) {s : Sem Value} {cv : Value} {w' : World}
    (hs : ∀ cs, builtin b c.argTypes o.type cs (c.args.map ρ) = (do pure (Next.value (← s)))) (e : s.run P w = .ok cv w') :
    (execOp ρ o).run P w = .ok (.value cv) w' := by
  simp only [execOp, ho, resolve, hb, Sem.run_bind, Sem.run_pure, Result.andThen_ok, invoke]
  rw [hs]
  simp [e]
theorem opS_builtin {c : Call} {b : Builtin} (ho : o.op = .call c) (hb : c.callee = .builtin b) {s : Sem Value} {cv : Value}
    (hs : ∀ cs, builtin b c.argTypes o.type cs (c.args.map ρ) = (do pure (Next.value (← s)))) (hr : Rel Λ μ h w) (e : s.run P w = .ok cv w) (v : VR μ r cv) : OpS Λ P (execOp ρ o) μ h w r h :=
  OpS.pure hr (exec_builtin ho hb hs e) v
theorem args_one {c : Call} {a : Value} (h : c.args.toList.map ρ = [a]) : c.args.map ρ = #[a] := by apply Array.ext'; simpa using h
theorem args_two {c : Call} {a b : Value} (h : c.args.toList.map ρ = [a, b]) : c.args.map ρ = #[a, b] := by apply Array.ext'; simpa using h
theorem op_lens {c : Call} {t el : TypeId} (ho : o.op = .call c) (hb : c.callee = .builtin .len) (h0 : c.argTypes[0]? = some t) (ht : P.underlying t = some (.slice el)) (e : aop .lens args h = some (r, h')) (ha : VRL μ args (c.args.toList.map ρ)) (hr : Rel Λ μ h w) :
    OpS Λ P (execOp ρ o) μ h w r h' := by
  simp only [aop] at e
  split at e
  · rename_i x
    cases hx : sliceLen x with
    | none => rw [hx] at e; cases e
    | some n =>
      rw [hx] at e; cases e
      obtain ⟨a, ea, v⟩ := VRL.one ha
      obtain ⟨a', k, rfl⟩ := sliceLen_ok hx v
      refine opS_builtin (cv := goInt n) ho hb (fun _ => rfl) hr ?_ (by simp [VR, goInt])
      rw [args_one ea]
      simp [Builtin.len_, h0, run_und ht]
  · cases e
theorem op_cap {c : Call} {t el : TypeId} (ho : o.op = .call c) (hb : c.callee = .builtin .cap) (h0 : c.argTypes[0]? = some t) (ht : P.underlying t = some (.slice el)) (e : aop .cap args h = some (r, h')) (ha : VRL μ args (c.args.toList.map ρ)) (hr : Rel Λ μ h w) :
    OpS Λ P (execOp ρ o) μ h w r h' := by
  simp only [aop] at e
  split at e
  · cases e
    obtain ⟨a, ea, v⟩ := VRL.one ha
    simp only [VR] at v; subst v
    refine opS_builtin (cv := goInt 0) ho hb (fun _ => rfl) hr ?_ (by simp [VR, goInt])
    rw [args_one ea]
    simp [Builtin.cap_, h0, run_und ht]
  · rename_i cap
    cases e
    obtain ⟨a, ea, v⟩ := VRL.one ha
    simp only [VR] at v; obtain ⟨l, _, rfl⟩ := v
    refine opS_builtin (cv := goInt cap) ho hb (fun _ => rfl) hr ?_ (by simp [VR, goInt])
    rw [args_one ea]
    simp [Builtin.cap_, h0, run_und ht]
  · cases e
theorem op_lenc {c : Call} {t el : TypeId} {n : Nat} (ho : o.op = .call c) (hb : c.callee = .builtin .len) (h0 : c.argTypes[0]? = some t) (ht : P.underlying t = some (.array n el)) (e : aop (.lenc n) args h = some (r, h')) (ha : VRL μ args (c.args.toList.map ρ)) (hr : Rel Λ μ h w) :
    OpS Λ P (execOp ρ o) μ h w r h' := by
  simp only [aop] at e
  split at e
  · cases e
    obtain ⟨a, ea, v⟩ := VRL.one ha
    refine opS_builtin (cv := goInt n) ho hb (fun _ => rfl) hr ?_ (by simp [VR, goInt])
    rw [args_one ea]
    simp [Builtin.len_, h0, run_und ht]
  · cases e
theorem EntR.length {μ : Mu} : ∀ {es : List (AV × AV × Nat)} {cs : List MapEntry}, EntR μ es cs → cs.length = es.length
  | [], cs, h => by simp only [EntR] at h; simp [h]
  | (k, v, b) :: es, cs, h => by obtain ⟨c, l, rfl, _, _, _, t⟩ := h; simp [EntR.length t]
theorem Rel.map {id es clock} (hr : Rel Λ μ h w) (hg : h.get id = some (.map es clock)) : ∃ l cs, μ id = some l ∧ w.heap[l.block]? = some (.map cs clock) ∧ EntR μ es cs.toList := by
  obtain ⟨l, hl, cs, p, q⟩ := hr.obj id _ hg
  exact ⟨l, cs.toArray, hl, p, by simpa using q⟩
theorem run_getMap {b : Nat} {cs : Array MapEntry} {clock : Nat} (hb : w.heap[b]? = some (.map cs clock)) : (getObj b).run P w = .ok (.map cs clock) w := by
  simp [getObj, Sem.run, hb]
theorem op_lenm {c : Call} {t k el : TypeId} (ho : o.op = .call c) (hb : c.callee = .builtin .len) (h0 : c.argTypes[0]? = some t) (ht : P.underlying t = some (.map k el)) (e : aop .lenm args h = some (r, h')) (ha : VRL μ args (c.args.toList.map ρ)) (hr : Rel Λ μ h w) :
    OpS Λ P (execOp ρ o) μ h w r h' := by
  simp only [aop] at e
  split at e
  · cases e
    obtain ⟨a, ea, v⟩ := VRL.one ha
    simp only [VR] at v; subst v
    refine opS_builtin (cv := goInt 0) ho hb (fun _ => rfl) hr ?_ (by simp [VR, goInt])
    rw [args_one ea]
    simp [Builtin.len_, h0, run_und ht]
  · split at e
    · rename_i id es clock hg
      cases e
      obtain ⟨a, ea, v⟩ := VRL.one ha
      obtain ⟨l, cs, hl, p, q⟩ := hr.map hg
      simp only [VR] at v; obtain ⟨l', hl', rfl⟩ := v
      rw [hl] at hl'; cases hl'
      refine opS_builtin (cv := goInt es.length) ho hb (fun _ => rfl) hr ?_ (by simp [VR, goInt])
      rw [args_one ea]
      have := EntR.length q
      simp only [Array.length_toList] at this
      simp [Builtin.len_, h0, run_und ht, run_getMap p, this]
    · cases e
  · cases e
theorem op_min {c : Call} (ho : o.op = .call c) (hb : c.callee = .builtin .min) (e : aop .min args h = some (r, h')) (ha : VRL μ args (c.args.toList.map ρ)) (hr : Rel Λ μ h w) : OpS Λ P (execOp ρ o) μ h w r h' := by
  simp only [aop] at e
  split at e
  · rename_i k a k' b
    cases e
    obtain ⟨x, y, ea, v, v'⟩ := VRL.two ha
    refine opS_builtin (cv := .int k (if b < a then b else a)) ho hb (fun _ => rfl) hr ?_ (by simp [VR])
    rw [args_two ea, VR.int v, VR.int v']
    simp [Builtin.min_, Builtin.min2]
  · cases e
theorem op_max {c : Call} (ho : o.op = .call c) (hb : c.callee = .builtin .max) (e : aop .max args h = some (r, h')) (ha : VRL μ args (c.args.toList.map ρ)) (hr : Rel Λ μ h w) : OpS Λ P (execOp ρ o) μ h w r h' := by
  simp only [aop] at e
  split at e
  · rename_i k a k' b
    cases e
    obtain ⟨x, y, ea, v, v'⟩ := VRL.two ha
    refine opS_builtin (cv := .int k (if b > a then b else a)) ho hb (fun _ => rfl) hr ?_ (by simp [VR])
    rw [args_two ea, VR.int v, VR.int v']
    simp [Builtin.max_, Builtin.max2]
  · cases e
end
end Go.Proofs.YtlkfclgkinaibaaGreat

namespace Go.Proofs.YtlkfclgkinaibaaGreat
variable {Λ : Lam}
section
variable {P : Program} {o : Oper} {ρ : Operand → Value} {μ : Mu} {h h' : AHeap} {w : World} {args : List AV} {r : AV}
def DatP (μ : Mu) (d : Dat) (l : List Value) : Prop :=
  ∀ (i : Nat) (x : AV), d.get i = some x → ∃ c, l[i]? = some c ∧ VR μ x c ∧ c.oneCell' = true
theorem DatC.pre {d : Dat} {l : List Value} (hd : DatC μ d l) (m : List Value) : DatP μ d (l ++ m) := fun i x hx => by
  obtain ⟨c, p, q⟩ := hd.2 i x hx
  exact ⟨c, by rw [List.getElem?_append_left (by rw [hd.1]; exact Dat.get_lt hx)]; exact p, q⟩
theorem new_row {elem es : Nat} {soft : Bool} {d : Dat} {cells : Array Value} (hr : Rel Λ μ h w) (hn : newRow' h elem es soft d = some h') (hd : DatP μ d cells.toList) (cap : Nat) (hsz : cells.size = cap * es) (hlen : d.len ≤ cap * es) (hs : soft = false → d.len = cap * es) :
    (newRow elem cells).run P w = .ok ⟨w.heap.size, 0, none⟩ { w with heap := w.heap.push (.cells cells elem) } ∧
    Rel Λ (μ.with h.next ⟨w.heap.size, 0, cap⟩) h' { w with heap := w.heap.push (.cells cells elem) } ∧ Step μ h w (μ.with h.next ⟨w.heap.size, 0, cap⟩) h' { w with heap := w.heap.push (.cells cells elem) } := by
  refine ⟨by simp [newRow], ?_⟩
  unfold newRow' at hn
  split at hn
  · cases hn
    refine hr.new _ _ _ rfl fun μ' hext => ?_
    refine ⟨cells, (0, 0), by simp, fun i v hv => ?_, fun _ => ⟨rfl, by simpa using hsz, hlen, fun e => ⟨hs e, rfl⟩⟩⟩
    obtain ⟨c, p, q, s⟩ := hd i v hv
    exact ⟨c, by simpa using p, VR.ext hext _ _ q, s⟩
  · cases hn
theorem newRow_with {elem es : Nat} {soft : Bool} {d : Dat} (hn : newRow' h elem es soft d = some h') : h' = h.new (.row elem es soft false d) := by
  unfold newRow' at hn
  split at hn
  · cases hn; rfl
  · cases hn
theorem put_row {id e es soft d d' ed} {l : Loc} {off : Nat} {vs : List Value} (hr : Rel Λ μ h w) (hg : h.get id = some (.row e es soft false d)) (hl : μ id = some l) (hp : d.put off ed = some d') (hd : DatC μ ed vs) :
    ∃ w', (storeCells ⟨l.block, l.off + off, none⟩ vs).run P w = .ok () w' ∧ Rel Λ μ (h.put id (.row e es soft false d')) w' ∧ Step μ h w μ (h.put id (.row e es soft false d')) w' := by
  obtain ⟨l', hl', c, fr, p, q, t⟩ := hr.row hg
  rw [hl] at hl'; cases hl'
  obtain ⟨rfl, t2, t3, t4⟩ := t rfl
  obtain ⟨u1, u2⟩ := Dat.put_len hp
  obtain ⟨w', c', r1, r2, r3, r4, r5⟩ := run_storeCells P l.block (l.off + off) e vs 0 w c p hd.cells (by rw [hd.1]; omega)
  refine ⟨w', r1, ?_⟩
  refine hr.put hg rfl hl r5.os r5.tape r5.output r5.size r5.rest ?_
  refine ⟨c', (0, 0), r2, fun i v hv => ?_, fun _ => ⟨rfl, by rw [r3]; exact t2, by omega, fun hs => by rw [u1]; exact t4 hs⟩⟩
  by_cases hi : off ≤ i ∧ i < off + ed.len
  · rw [Dat.get_put_in hp i hi] at hv
    obtain ⟨x, a, b⟩ := hd.2 _ _ hv
    refine ⟨x, ?_, b⟩
    rw [r4, if_pos (by rw [hd.1]; omega), ← a]
    congr 1; omega
  · rw [Dat.get_put_out hp i hi] at hv
    obtain ⟨x, a, b⟩ := q i v hv
    refine ⟨x, ?_, b⟩
    rw [r4, if_neg (by rw [hd.1]; omega)]
    exact a
theorem op_alloc {t : TypeId} {z : Dat} {n : Nat} (ho : o.op = .alloc t) (hz : zeroD P t = some z) (e : aop (.alloc t n z) args h = some (r, h')) (hr : Rel Λ μ h w) : OpS Λ P (execOp ρ o) μ h w r h' := by
  simp only [aop] at e
  split at e
  · split at e
    · rename_i hlen
      cases hn : newRow' h t n false z with
      | none => rw [hn] at e; cases e
      | some h1 =>
        rw [hn] at e; cases e
        obtain ⟨i, v, hi, hv, hd⟩ := zeroD_ok hz μ
        have hsz : v.cells.size = 1 * n := by have := hd.1; rw [Array.length_toList] at this; omega
        obtain ⟨p, q, s⟩ := new_row (P := P) hr hn (by simpa using hd.pre []) 1 hsz (by omega) (fun _ => by omega)
        simp only [execOp, ho]
        refine opS_val (cv := .pointer (some ⟨w.heap.size, 0, none⟩)) ?_ (by simp only [VR]; exact ⟨_, Mu.with_same _ _ _, rfl⟩) q s
        simp only [Instr.alloc, Sem.run_bind, run_zero hi hv, Result.andThen_ok, newVar, p, Sem.run_pure]
    · cases e
  · cases e
theorem op_box {t : TypeId} {x : Operand} {n : Nat} (ho : o.op = .box t x) (e : aop (.box t n) args h = some (r, h')) (ha : VRL μ args [ρ x]) (hr : Rel Λ μ h w) : OpS Λ P (execOp ρ o) μ h w r h' := by
  simp only [aop] at e
  split at e
  · rename_i x0
    split at e
    · rename_i hlen
      cases hn : newRow' h t n false x0.dat with
      | none => rw [hn] at e; cases e
      | some h1 =>
        rw [hn] at e; cases e
        obtain ⟨a, ea, v⟩ := VRL.one ha
        cases ea
        have hval : x0.isVal = true := by
          cases x0 <;> first | rfl | (simp [AV.dat, Dat.len] at hlen; omega)
        have hd := VR.dat v hval
        have hsz : (ρ x).cells.size = 1 * n := by have := hd.1; rw [Array.length_toList] at this; omega
        obtain ⟨p, q, s⟩ := new_row (P := P) hr hn (by simpa using hd.pre []) 1 hsz (by omega) (fun _ => by omega)
        simp only [execOp, ho]
        refine opS_val (cv := .pointer (some ⟨w.heap.size, 0, none⟩)) ?_ (by simp only [VR]; exact ⟨_, Mu.with_same _ _ _, rfl⟩) q s
        simp only [Instr.box, Sem.run_bind, newVar, p, Result.andThen_ok, Sem.run_pure]
    · cases e
  · cases e
theorem op_store {t : TypeId} {x y : Operand} {n : Nat} (ho : o.op = .store t x y) (hn : sizeT P t = some n) (e : aop (.store n) args h = some (r, h')) (ha : VRL μ args [ρ x, ρ y]) (hr : Rel Λ μ h w) : OpS Λ P (execOp ρ o) μ h w r h' := by
  simp only [aop] at e
  split at e
  · rename_i id off v
    split at e
    · rename_i e0 es soft d hg
      split at e
      · rename_i hc
        cases hp : d.put off v.dat with
        | none => rw [hp] at e; cases e
        | some d' =>
          rw [hp] at e; cases e
          obtain ⟨a, b, ea, v1, v2⟩ := VRL.two ha
          simp only [List.cons.injEq, and_true] at ea
          obtain ⟨e1, e2⟩ := ea
          rw [← e1] at v1; rw [← e2] at v2
          have hval : v.isVal = true := by
            cases v <;> first | rfl | (simp [AV.dat, Dat.len] at hc; omega)
          have hd := VR.dat v2 hval
          simp only [VR] at v1; obtain ⟨l, hl, hx⟩ := v1
          obtain ⟨w', p, q, s⟩ := put_row (P := P) hr hg hl hp hd
          refine ⟨μ, w', undef, .inr ⟨rfl, ?_⟩, by simp only [VR, VRL]; exact ⟨[], rfl, rfl⟩, q, s⟩
          have hsz : (ρ y).cells.size = n := by have := hd.1; rw [Array.length_toList] at this; omega
          simp only [execOp, ho, Instr.storeAt, hx, Instr.sureAddr, Sem.run_bind, Sem.run_pure, Result.andThen_ok, storeVar, run_size hn, hsz, ne_eq, not_true_eq_false, if_false, p]
      · cases e
    · cases e
  · cases e
theorem op_mkmap {t : TypeId} (ho : o.op = .makeMap t none) (e : aop .mkmap args h = some (r, h')) (hr : Rel Λ μ h w) : OpS Λ P (execOp ρ o) μ h w r h' := by
  simp only [aop] at e
  cases e
  obtain ⟨q, s⟩ := hr.new (.map [] 0) (.map #[] 0) ⟨w.heap.size, 0, 0⟩ rfl (fun μ' _ => ⟨[], by simp, by simp [EntR]⟩)
  simp only [execOp, ho]
  refine opS_val (cv := .map (some w.heap.size)) ?_ (by simp only [VR]; exact ⟨_, Mu.with_same _ _ _, rfl⟩) q s
  simp [Instr.makeMap]
theorem rep_cells {z : Dat} {zs : Array Value} (hz : DatC μ z zs.toList) (n : Nat) (hl : (z.rep n).len = n * z.len) :
    DatC μ (z.rep n) ((Array.range (n * zs.size)).map (zs[· % zs.size]!)).toList := by
  have hzl : zs.size = z.len := by have := hz.1; rwa [Array.length_toList] at this
  refine ⟨by simp [hl, hzl], fun i x hx => ?_⟩
  have hi : i < n * z.len := by rw [← hl]; exact Dat.get_lt hx
  rw [Dat.rep_spec z n hl i hi] at hx
  obtain ⟨c, p, q⟩ := hz.2 _ _ hx
  refine ⟨c, ?_, q⟩
  have hzp : 0 < z.len := by
    rcases Nat.eq_zero_or_pos z.len with h0 | h0
    · rw [h0] at hi; omega
    · exact h0
  have hm : i % z.len < zs.size := by rw [hzl]; exact Nat.mod_lt _ hzp
  have hi2 : i < n * zs.size := by rw [hzl]; exact hi
  rw [Array.getElem?_toList]
  simp only [Array.getElem?_map, Array.getElem?_range, hi2, if_true, Option.map_some]
  rw [← hzl] at p
  rw [Array.getElem?_toList] at p
  have hm' : i % zs.size < zs.size := by rw [hzl] at hm ⊢; exact hm
  rw [Array.getElem?_eq_getElem hm'] at p
  rw [getElem!_pos zs (i % zs.size) hm']
  exact p
theorem fold_set (off : Nat) : ∀ (l : List Value) (s : Nat) (cells : Array Value), off + s + l.length ≤ cells.size →
    ((l.zipIdx s).foldl (fun cs (p : Value × Nat) => cs.setIfInBounds (off + p.2) p.1) cells).size = cells.size ∧
    ∀ k, ((l.zipIdx s).foldl (fun cs (p : Value × Nat) => cs.setIfInBounds (off + p.2) p.1) cells)[k]? = if off + s ≤ k ∧ k < off + s + l.length then l[k - (off + s)]? else cells[k]?
  | [], s, cells, _ => ⟨by simp, fun k => by rw [if_neg (by simp)]; simp⟩
  | v :: l, s, cells, h => by
    simp only [List.length_cons] at h
    obtain ⟨p, q⟩ := fold_set off l (s + 1) (cells.setIfInBounds (off + s) v) (by simp; omega)
    simp only [List.zipIdx_cons, List.foldl_cons]
    refine ⟨by rw [p]; simp, fun k => ?_⟩
    rw [q k]
    simp only [List.length_cons]
    by_cases h1 : off + (s + 1) ≤ k ∧ k < off + (s + 1) + l.length
    · rw [if_pos h1, if_pos (by omega), show k - (off + s) = (k - (off + (s + 1))) + 1 by omega]; simp
    · rw [if_neg h1, Array.getElem?_setIfInBounds]
      by_cases h2 : off + s = k
      · rw [if_pos h2, if_pos (by omega), if_pos (by omega), show k - (off + s) = 0 by omega]; simp
      · rw [if_neg h2, if_neg (by omega)]
theorem fold_datC {d d' e : Dat} {off : Nat} {cells vs : Array Value} (hp : d.put off e = some d') (hd : DatC μ d cells.toList) (he : DatC μ e vs.toList) :
    DatC μ d' (vs.zipIdx.foldl (fun cs (c, j) => cs.setIfInBounds (off + j) c) cells).toList := by
  obtain ⟨u1, u2⟩ := Dat.put_len hp
  have hcs : cells.size = d.len := by have := hd.1; rwa [Array.length_toList] at this
  have hvs : vs.toList.length = e.len := he.1
  obtain ⟨p, q⟩ := fold_set off vs.toList 0 cells (by omega)
  have e1 : (vs.zipIdx.foldl (fun cs (c, j) => cs.setIfInBounds (off + j) c) cells) = (vs.toList.zipIdx 0).foldl (fun cs (p : Value × Nat) => cs.setIfInBounds (off + p.2) p.1) cells := by
    rw [← Array.foldl_toList]
    simp
  rw [e1]
  refine ⟨by rw [Array.length_toList, p, hcs, u1], fun i x hx => ?_⟩
  rw [Array.getElem?_toList, q i]
  by_cases hi : off ≤ i ∧ i < off + e.len
  · rw [Dat.get_put_in hp i hi] at hx
    obtain ⟨c, a, b⟩ := he.2 _ _ hx
    exact ⟨c, by rw [if_pos (by omega)]; exact a, b⟩
  · rw [Dat.get_put_out hp i hi] at hx
    obtain ⟨c, a, b⟩ := hd.2 _ _ hx
    exact ⟨c, by rw [if_neg (by omega), ← Array.getElem?_toList]; exact a, b⟩
theorem fills_ok {place : Nat → Option (Nat × Nat)} : ∀ {pl : List (Nat × Nat)} {ix : List Nat} {as : List AV} {vs : List Value} {d d' : Dat} {cells : Array Value},
    fills pl as d = some d' → VRL μ as vs → (ix.map place = pl.map some) → DatC μ d cells.toList →
    ∃ cells', Instr.fill place cells (ix.zip vs) = some cells' ∧ DatC μ d' cells'.toList
  | [], ix, as, vs, d, d', cells, hf, hv, hi, hd => by
    cases as with
    | nil =>
      simp only [fills] at hf; cases hf
      have : ix = [] := by simpa using hi
      subst this
      exact ⟨cells, by simp [Instr.fill], hd⟩
    | cons => simp [fills] at hf
  | (off, size) :: pl, ix, as, vs, d, d', cells, hf, hv, hi, hd => by
    cases as with
    | nil => simp [fills] at hf
    | cons a as =>
      cases ix with
      | nil => simp at hi
      | cons j ix =>
        simp only [List.map_cons, List.cons.injEq] at hi
        obtain ⟨hj, hi⟩ := hi
        simp only [VRL] at hv
        obtain ⟨x, xs, rfl, hx, hxs⟩ := hv
        simp only [fills] at hf
        split at hf
        · rename_i hlen
          cases hp : d.put off a.dat with
          | none => rw [hp] at hf; cases hf
          | some d1 =>
            rw [hp] at hf
            simp only [Option.bind_some] at hf
            have hval : a.isVal = true := by
              cases a <;> first | rfl | (simp [AV.dat, Dat.len] at hlen; omega)
            have hda := VR.dat hx hval
            have hsz : x.cells.size = size := by have := hda.1; rw [Array.length_toList] at this; omega
            obtain ⟨u1, u2⟩ := Dat.put_len hp
            have hcs : cells.size = d.len := by have := hd.1; rwa [Array.length_toList] at this
            have hd1 : DatC μ d1 (x.cells.zipIdx.foldl (fun cs (c, j) => cs.setIfInBounds (off + j) c) cells).toList := fold_datC hp hd hda
            obtain ⟨cells', p, q⟩ := fills_ok hf hxs hi hd1
            refine ⟨cells', ?_, q⟩
            simp only [List.zip_cons_cons, Instr.fill, hj]
            rw [if_neg (by simp [hsz]; omega)]
            exact p
        · cases hf
theorem zip_parts (ps : Array (Nat × Operand)) : (ps.toList.map (·.1)).zip ((ps.toList.map (·.2)).map ρ) = (ps.map fun (i, x) => (i, ρ x)).toList := by
  rw [Array.toList_map]
  induction ps.toList with
  | nil => rfl
  | cons p l ih => simp only [List.map_cons, List.zip_cons_cons, ih]
theorem op_bslice {t el : TypeId} {len n : Nat} {z : Dat} {ps : Array (Nat × Operand)} (ho : o.op = .buildSlice t len ps) (ht : P.underlying t = some (.slice el)) (hz : zeroD P el = some z) (hn : sizeT P el = some n) (hlim : len * n ≤ 2 ^ 24) (hzn : z.len = n) (hn0 : 0 < n)
    (e : aop (.bslice el n len z (ps.toList.map (·.1))) args h = some (r, h')) (ha : VRL μ args ((ps.toList.map (·.2)).map ρ)) (hr : Rel Λ μ h w) : OpS Λ P (execOp ρ o) μ h w r h' := by
  simp only [aop] at e
  cases hf : fills ((ps.toList.map (·.1)).map fun i => (i * n, n)) args (z.rep len) with
  | none => rw [hf] at e; cases e
  | some d =>
    rw [hf] at e
    simp only [Option.bind_some] at e
    split at e
    · rename_i hlen
      cases hnr : newRow' h el n false d with
      | none => rw [hnr] at e; cases e
      | some h1 =>
        rw [hnr] at e; cases e
        obtain ⟨i, v, hi, hv, hd⟩ := zeroD_ok hz μ
        have hvs : v.cells.size = n := by have := hd.1; rw [Array.length_toList] at this; omega
        have hrl : (z.rep len).len = len * z.len := by
          have : ∀ (pl : List (Nat × Nat)) (as : List AV) (a b : Dat), fills pl as a = some b → b.len = a.len := by
            intro pl
            induction pl with
            | nil => intro as a b hh; cases as with
              | nil => simp only [fills] at hh; cases hh; rfl
              | cons => simp [fills] at hh
            | cons p pl ih => intro as a b hh; cases as with
              | nil => simp [fills] at hh
              | cons x as =>
                simp only [fills] at hh
                split at hh
                · cases hp : a.put p.1 x.dat with
                  | none => rw [hp] at hh; cases hh
                  | some c =>
                    rw [hp] at hh
                    rw [ih as c b hh, (Dat.put_len hp).1]
                · cases hh
          rw [← this _ _ _ _ hf, hlen, hzn]
        have hcells := rep_cells hd len hrl
        obtain ⟨cells', q1, q2⟩ := fills_ok (ix := ps.toList.map (·.1)) (place := fun i => some (i * n, n)) hf ha (by simp only [List.map_map]; rfl) hcells
        have hsz : cells'.size = len * n := by have := q2.1; rw [Array.length_toList] at this; omega
        obtain ⟨p, q, s⟩ := new_row (P := P) hr hnr (by simpa using q2.pre []) len hsz (by omega) (fun _ => by omega)
        simp only [execOp, ho]
        refine opS_val (cv := .slice (some ⟨w.heap.size, 0, none⟩) len len) ?_ (by simp only [VR]; exact ⟨_, Mu.with_same _ _ _, rfl⟩) q s
        rw [zip_parts] at q1
        have hno : ¬ len * n > 2 ^ 24 := by omega
        simp only [Instr.buildSlice, Sem.run_bind, run_und ht, Result.andThen_ok, run_size hn, hno, if_false]
        by_cases h0 : len * n = 0
        · have hl0 : len = 0 := by
            rcases Nat.eq_zero_or_pos len with h1 | h1
            · exact h1
            · have := Nat.mul_pos h1 hn0; omega
          subst hl0
          have q3 : Instr.fill (fun i => some (i * n, n)) ((Array.range (0 * n)).map fun x => (#[] : Array Value)[x % (#[] : Array Value).size]!) (ps.map fun (i, x) => (i, ρ x)).toList = some cells' := by
            rw [← q1]; congr 1; simp
          simp only [Nat.zero_mul, if_true] at q3 ⊢
          simp only [Sem.run_bind, q3, Result.andThen_ok, p, Sem.run_pure]
        · rw [hvs] at q1
          simp only [h0, if_false, Sem.run_bind, run_zero hi hv, Result.andThen_ok, Sem.run_pure, hvs, q1, p]
    · cases e
end
end Go.Proofs.YtlkfclgkinaibaaGreat

namespace Go.Proofs.YtlkfclgkinaibaaGreat
variable {Λ : Lam}
section
variable {P : Program} {o : Oper} {ρ : Operand → Value} {μ : Mu} {h h' : AHeap} {w : World} {args : List AV} {r : AV}
theorem run_sizes {α : Type} (w : World) (g : Nat → Nat → α) : ∀ (fs : List Field), sizesT P fs = true → (fs.mapM fun f => (do pure (g f.offset (← sizeOf f.type)) : Sem α)).run P w = .ok (fs.map fun f => g f.offset ((sizeT P f.type).getD 0)) w
  | [], _ => by simp
  | f :: fs, hs => by
    simp only [sizesT, Bool.and_eq_true] at hs
    obtain ⟨n, hn⟩ := Option.isSome_iff_exists.1 hs.1
    have ih := run_sizes w g fs hs.2
    rw [List.mapM_cons]
    simp only [Sem.run_bind, run_size hn, Result.andThen_ok, Sem.run_pure, ih, List.map_cons, hn, Option.getD_some]
theorem parts_place {fs : Array Field} : ∀ {ix : List Nat} {pl : List (Nat × Nat)}, partsT P fs ix = some pl →
    ix.map (fun i => (fs.map fun f => (f.offset, (sizeT P f.type).getD 0))[i]?) = pl.map some
  | [], pl, h => by simp only [partsT] at h; cases h; rfl
  | i :: ix, pl, h => by
    simp only [partsT] at h
    split at h
    · rename_i f hf
      split at h
      · rename_i n ps h1 h2
        cases h
        rw [List.map_cons, parts_place h2]
        simp only [List.map_cons, Array.getElem?_map, hf, Option.map_some, h1, Option.getD_some]
      · cases h
    · cases h
theorem zero_val {t : TypeId} {z : AV} (hz : zeroA P t = some z) (hv : z.isVal = true) (μ : Mu) : ∃ i v, P.info? t = some i ∧ i.zero = some v ∧ DatC μ z.dat v.cells.toList := by
  obtain ⟨i, v, hi, hv', hr⟩ := zeroA_ok hz
  exact ⟨i, v, hi, hv', VR.dat (reif_ok hr) hv⟩
theorem op_build {t : TypeId} {fs : Array Field} {z : AV} {pl : List (Nat × Nat)} {ps : Array (Nat × Operand)} (ho : o.op = .build t ps) (ht : P.underlying t = some (.struct fs)) (hz : zeroA P t = some z) (hzv : z.isVal = true) (hs : sizesT P fs.toList = true) (hpl : partsT P fs (ps.toList.map (·.1)) = some pl)
    (e : aop (.build z pl) args h = some (r, h')) (ha : VRL μ args ((ps.toList.map (·.2)).map ρ)) (hr : Rel Λ μ h w) : OpS Λ P (execOp ρ o) μ h w r h' := by
  simp only [aop] at e
  cases hf : fills pl args z.dat with
  | none => rw [hf] at e; cases e
  | some d =>
    rw [hf] at e; cases e
    obtain ⟨i, v, hi, hv, hd⟩ := zero_val hz hzv μ
    obtain ⟨cells', q1, q2⟩ := fills_ok (ix := ps.toList.map (·.1)) (place := fun i => (fs.map fun f => (f.offset, (sizeT P f.type).getD 0))[i]?) hf ha (parts_place hpl) hd
    simp only [execOp, ho]
    refine opS_pval hr (cv := .agg cells') ?_ (by simpa using q2.agg)
    rw [zip_parts] at q1
    simp only [Instr.build, Sem.run_bind, run_zero hi hv, Result.andThen_ok, run_und ht]
    rw [Array.mapM_eq_mapM_toList, Sem.run_map, run_sizes w (fun a b => (a, b)) _ hs]
    have e1 : (List.map (fun f => (f.offset, (sizeT P f.type).getD 0)) fs.toList).toArray = fs.map fun f => (f.offset, (sizeT P f.type).getD 0) := by apply Array.ext'; simp
    simp only [Result.andThen_ok, e1, q1, Sem.run_pure]
theorem op_builda {t el : TypeId} {len n : Nat} {z : AV} {ps : Array (Nat × Operand)} (ho : o.op = .build t ps) (ht : P.underlying t = some (.array len el)) (hz : zeroA P t = some z) (hzv : z.isVal = true) (hn : sizeT P el = some n)
    (e : aop (.build z (ps.toList.map fun p => (p.1 * n, n))) args h = some (r, h')) (ha : VRL μ args ((ps.toList.map (·.2)).map ρ)) (hr : Rel Λ μ h w) : OpS Λ P (execOp ρ o) μ h w r h' := by
  simp only [aop] at e
  cases hf : fills (ps.toList.map fun p => (p.1 * n, n)) args z.dat with
  | none => rw [hf] at e; cases e
  | some d =>
    rw [hf] at e; cases e
    obtain ⟨i, v, hi, hv, hd⟩ := zero_val hz hzv μ
    obtain ⟨cells', q1, q2⟩ := fills_ok (ix := ps.toList.map (·.1)) (place := fun i => some (i * n, n)) hf ha (by simp only [List.map_map]; rfl) hd
    simp only [execOp, ho]
    refine opS_pval hr (cv := .agg cells') ?_ (by simpa using q2.agg)
    rw [zip_parts] at q1
    simp only [Instr.build, Sem.run_bind, run_zero hi hv, Result.andThen_ok, run_und ht, run_size hn, q1, Sem.run_pure]
theorem i64_small {n : Int} (h0 : 0 ≤ n) (h1 : n ≤ 2 ^ 40) : IntKind.i64.wrap n = n := by
  rw [IntKind.wrap_i64]; omega
theorem op_mkslice {t el : TypeId} {a b : Operand} {n by' : Nat} {z : Dat} (ho : o.op = .makeSlice t a b) (ht : P.underlying t = some (.slice el)) (hz : zeroD P el = some z) (hn : sizeT P el = some n) (hby : bytesT P el = some by')
    (e : aop (.mkslice el n by' z) args h = some (r, h')) (ha : VRL μ args [ρ a, ρ b]) (hr : Rel Λ μ h w) : OpS Λ P (execOp ρ o) μ h w r h' := by
  simp only [aop] at e
  split at e
  · rename_i k l k' c
    split at e
    · rename_i hc
      obtain ⟨c1, c2, c3, c4, c5, c6⟩ := hc
      cases hnr : newRow' h el n false (z.rep c.toNat) with
      | none => rw [hnr] at e; cases e
      | some h1 =>
        rw [hnr] at e; cases e
        obtain ⟨x, y, ea, v1, v2⟩ := VRL.two ha
        simp only [List.cons.injEq, and_true] at ea
        obtain ⟨e1, e2⟩ := ea
        obtain ⟨i, v, hi, hv, hd⟩ := zeroD_ok hz μ
        have hvs : v.cells.size = n := by have := hd.1; rw [Array.length_toList] at this; omega
        have hcells := rep_cells hd c.toNat (by rw [c6, c5])
        have hsz : ((Array.range (c.toNat * v.cells.size)).map (v.cells[· % v.cells.size]!)).size = c.toNat * n := by simp [hvs]
        obtain ⟨p, q, s⟩ := new_row (P := P) hr hnr (by simpa using hcells.pre []) c.toNat hsz (by omega) (fun _ => c6)
        have hbi : ∃ ti, P.info? el = some ti ∧ ti.bytes = by' := by
          unfold bytesT at hby
          cases hti : P.info? el with
          | none => rw [hti] at hby; cases hby
          | some ti => rw [hti] at hby; cases hby; exact ⟨ti, rfl, rfl⟩
        obtain ⟨ti, hti, htb⟩ := hbi
        simp only [execOp, ho]
        refine opS_val (cv := .slice (some ⟨w.heap.size, 0, none⟩) l.toNat c.toNat) ?_ (by simp only [VR]; exact ⟨_, Mu.with_same _ _ _, rfl⟩) q s
        rw [e1, e2, VR.int v1, VR.int v2]
        have hl64 : IntKind.i64.wrap l = l := i64_small c1 (by omega)
        have hc64 : IntKind.i64.wrap c = c := i64_small (by omega) c4
        simp only [Instr.makeSlice, Sem.run_bind, run_und ht, Result.andThen_ok, asInt, asIntOf, Sem.run_pure, run_info hti, htb, hl64, hc64]
        have hcn : ¬ c < 0 := by omega
        have hln : ¬ l < 0 := by omega
        have hbig : ¬ ((by' : Int) * c > 2 ^ 48) := by rw [Int.mul_comm]; omega
        have hlc : ¬ l > c := by omega
        simp only [hcn, hln, hbig, hlc, decide_false, Bool.or_false, Bool.false_eq_true, if_false, Sem.run_bind, run_askRoom, Result.andThen_ok, run_size hn]
        by_cases h0 : c.toNat * n = 0
        · rw [hvs] at p
          have e3 : ((Array.range (c.toNat * v.cells.size)).map (v.cells[· % v.cells.size]!)) = (Array.range (c.toNat * n)).map ((#[] : Array Value)[· % (#[] : Array Value).size]!) := by
            apply Array.ext'
            rw [hvs, h0]; simp
          rw [hvs] at e3
          rw [e3] at p
          simp only [if_pos h0, Sem.run_pure, Result.andThen_ok, p, Sem.run_bind, hvs, e3]
        · rw [hvs] at p
          simp only [h0, if_false, Sem.run_bind, run_zero hi hv, Result.andThen_ok, Sem.run_pure, hvs, p]
    · cases e
  · cases e
theorem keyT_cases {t : TypeId} {k : EqK} (h : keyT P t = some k) : eqT P t = some k ∧ ((∃ s, k = .scal s) ∨ ∃ l, k = .flat l) := by
  unfold keyT at h
  split at h
  · rename_i s hs; cases h; exact ⟨hs, .inl ⟨s, rfl⟩⟩
  · rename_i s hs; cases h; exact ⟨hs, .inr ⟨s, rfl⟩⟩
  · cases h
theorem eqT_scal {t : TypeId} {s : Sc} (h : eqT P t = some (.scal s)) : scT P t = some s := by
  unfold eqT at h
  split at h
  all_goals first
    | (rename_i hu; cases h; simp [scT, hu]; done)
    | (split at h <;> first | cases h | skip)
    | cases h
  · rename_i fs _ _
    cases hf : flatT P fs.toList 0 with
    | none => rw [hf] at h; cases h
    | some l => rw [hf] at h; cases h
  · split at h <;> cases h
theorem eqT_flat {t : TypeId} {l : List Sc} (h : eqT P t = some (.flat l)) : ∃ fs, P.underlying t = some (.struct fs) ∧ flatT P fs.toList 0 = some l := by
  unfold eqT at h
  split at h
  all_goals first
    | (cases h; done)
    | skip
  · rename_i fs hu
    split at h
    · cases h
    · cases hf : flatT P fs.toList 0 with
      | none => rw [hf] at h; cases h
      | some l' => rw [hf] at h; cases h; exact ⟨fs, hu, hf⟩
  · split at h
    · cases h
    · split at h <;> cases h
theorem checkKey_scal {t : TypeId} {s : Sc} {a b : AV} {q : Bool} {x : Value} (ht : scT P t = some s) (he : scEq s a b = some q) (ha : VR μ a x) (em : Bool) (n : Nat) (w : World) : (Instr.checkKey em (n + 1) t x).run P w = .ok () w := by
  rcases scEq_inv he with ⟨rfl, k, n', m, rfl, rfl, rfl⟩ | ⟨rfl, n', m, rfl, rfl, rfl⟩ | ⟨rfl, n', m, rfl, rfl, rfl⟩
  all_goals
    unfold scT at ht
    split at ht <;> cases ht
    rename_i hu
    simp only [VR] at ha; subst ha
    simp [Instr.checkKey, run_und hu]
theorem checkKey_fields {em : Bool} {n : Nat} {xs : Array Value} : ∀ {fs : List Field} {k : Nat} {ss : List Sc} {as : List AV} {q : Bool}, flatT P fs k = some ss → eqFlat ss as as = some q →
    (∀ (i : Nat) (x : AV), as[i]? = some x → ∃ c, xs[k + i]? = some c ∧ VR μ x c) → ∀ w,
    (forIn (m := Sem) fs PUnit.unit fun f _ => do
      if f.name ≠ "_" then do
        Instr.checkKey em (n + 1) f.type (← part f.type xs f.offset)
        pure (ForInStep.yield PUnit.unit)
      else pure (ForInStep.yield PUnit.unit)).run P w = .ok PUnit.unit w
  | [], k, ss, as, q, hf, he, ha, w => by simp
  | f :: fs, k, ss, as, q, hf, he, ha, w => by
    simp only [flatT] at hf
    split at hf
    · rename_i hk
      split at hf
      · rename_i s ss' h1 h2
        cases hf
        cases as with
        | nil => simp [eqFlat] at he
        | cons a as =>
          simp only [eqFlat] at he
          obtain ⟨x, hx, vx⟩ := ha 0 a (by simp)
          simp only [Nat.add_zero] at hx
          have p1 := part_scalar h1 xs f.offset x (by rw [hk.1]; exact hx) w
          cases hs : scEq s a a with
          | none => rw [hs] at he; cases he
          | some q' =>
            have p2 := checkKey_scal h1 hs vx em n w
            have hq' : q' = true := by
              rcases scEq_inv hs with ⟨_, _, _, _, rfl, e2, rfl⟩ | ⟨_, _, _, rfl, e2, rfl⟩ | ⟨_, _, _, rfl, e2, rfl⟩ <;> cases e2 <;> first | (simp; done) | (rw [beq_toListBytes]; simp)
            subst hq'
            rw [hs] at he
            simp only at he
            have ih := checkKey_fields (em := em) (n := n) (xs := xs) h2 he (fun i z hz => by
              obtain ⟨c, p, q⟩ := ha (i + 1) z (by simpa using hz)
              exact ⟨c, by rw [show k + 1 + i = k + (i + 1) by omega]; exact p, q⟩) w
            simp only [List.forIn_cons, hk.2, ne_eq, not_false_eq_true, if_true, Sem.run_bind, p1, p2, Result.andThen_ok, Sem.run_pure]
            exact ih
      · cases hf
    · cases hf
theorem checkKey_ok {k : EqK} {a : AV} {x : Value} {t : TypeId} (hk : (avEq k a a).isSome = true) (ht : keyT P t = some k) (ha : VR μ a x) (em : Bool) (n : Nat) (w : World) : (Instr.checkKey em (n + 2) t x).run P w = .ok () w := by
  obtain ⟨q, hq⟩ := Option.isSome_iff_exists.1 hk
  obtain ⟨he, ⟨s, rfl⟩ | ⟨l, rfl⟩⟩ := keyT_cases ht
  · exact checkKey_scal (eqT_scal he) hq ha em (n + 1) w
  · obtain ⟨fs, hu, hf⟩ := eqT_flat he
    cases a with
    | agg as =>
      simp only [avEq] at hq
      simp only [VR] at ha
      obtain ⟨xs, p, _, rfl⟩ := ha
      have := checkKey_fields (P := P) (em := em) (n := n) (xs := xs.toArray) hf hq (fun i z hz => by
        obtain ⟨c, p', q'⟩ := VRL.get p i z hz; exact ⟨c, by simpa using p', q'⟩) w
      have key : ∀ n', n' = n + 1 → (Instr.checkKey em (n' + 1) t (.agg xs.toArray)).run P w = .ok () w := by
        intro n' hn'
        simp only [Instr.checkKey, Sem.run_bind, run_und hu, Result.andThen_ok]
        rw [← Array.forIn_toList, hn', this]
        rfl
      exact key _ rfl
    | _ => simp [avEq] at hq
theorem findNow_ok {t : TypeId} {s : Sc} {key : AV} {x : Value} {d : TypeDesc} (hu : P.underlying t = some d) (ht : scT P t = some s) (hx : VR μ key x) : ∀ {es : List (AV × AV × Nat)} {cs : List MapEntry} {ri : Option Nat}, findE (.scal s) key es = some ri → EntR μ es cs → ∀ (i : Nat),
    Instr.findNow d x cs i = some (ri.bind fun j => (cs[j]?).map fun e => (i + j, e.val))
  | [], cs, ri, hf, he, i => by
    simp only [findE] at hf; cases hf
    simp only [EntR] at he; subst he
    simp [Instr.findNow]
  | (k, v, b) :: es, cs, ri, hf, he, i => by
    obtain ⟨c, cs', rfl, hk, hv, hb, he'⟩ := he
    simp only [findE] at hf
    have hsame : ∀ q, avEq (.scal s) key k = some q → Instr.sameNow d x c.key = some q := by
      intro q hq
      rcases scEq_inv (show scEq s key k = some q from hq) with ⟨rfl, k0, n, m, rfl, rfl, rfl⟩ | ⟨rfl, n, m, rfl, rfl, rfl⟩ | ⟨rfl, n, m, rfl, rfl, rfl⟩
      all_goals
        unfold scT at ht
        rw [hu] at ht
        split at ht <;> cases ht
        rename_i heq
        cases heq
        simp only [VR] at hx hk
        subst hx
        simp [hk, Instr.sameNow]
    split at hf
    · rename_i heq
      cases hf
      simp [Instr.findNow, hsame _ heq]
    · rename_i heq
      cases hf2 : findE (.scal s) key es with
      | none => rw [hf2] at hf; cases hf
      | some ri' =>
        rw [hf2] at hf; cases hf
        simp only [Instr.findNow, hsame _ heq]
        rw [findNow_ok hu ht hx hf2 he' (i + 1)]
        cases ri' with
        | none => rfl
        | some j => simp [Nat.add_assoc, Nat.add_comm 1 j]
    · cases hf
theorem findAsking_ok {t : TypeId} {k : EqK} {key : AV} {x : Value} (ht : eqT P t = some k) (hx : VR μ key x) (w : World) : ∀ {es : List (AV × AV × Nat)} {cs : List MapEntry} {ri : Option Nat}, findE k key es = some ri → EntR μ es cs → ∀ (i : Nat),
    (Instr.findAsking t x cs i).run P w = .ok (ri.bind fun j => (cs[j]?).map fun e => (i + j, e.val)) w
  | [], cs, ri, hf, he, i => by
    simp only [findE] at hf; cases hf
    simp only [EntR] at he; subst he
    simp [Instr.findAsking]
  | (k0, v, b) :: es, cs, ri, hf, he, i => by
    obtain ⟨c, cs', rfl, hk, hv, hb, he'⟩ := he
    simp only [findE] at hf
    have hq : ∀ q, avEq k key k0 = some q → (Op.equal t x c.key).run P w = .ok q w := fun q h => avEq_ok h ht hx hk 9998 w
    split at hf
    · rename_i heq
      cases hf
      simp [Instr.findAsking, hq _ heq]
    · rename_i heq
      cases hf2 : findE k key es with
      | none => rw [hf2] at hf; cases hf
      | some ri' =>
        rw [hf2] at hf; cases hf
        simp only [Instr.findAsking, Sem.run_bind, hq _ heq, Result.andThen_ok, Bool.false_eq_true, if_false]
        rw [findAsking_ok ht hx w hf2 he' (i + 1)]
        cases ri' with
        | none => rfl
        | some j => simp [Nat.add_assoc, Nat.add_comm 1 j]
    · cases hf
theorem findKey_ok {t : TypeId} {k : EqK} {key : AV} {x : Value} {es : List (AV × AV × Nat)} {cs : List MapEntry} {ri : Option Nat} (ht : keyT P t = some k) (hx : VR μ key x) (hf : findE k key es = some ri) (he : EntR μ es cs) (w : World) :
    (Instr.findKey t x cs).run P w = .ok (ri.bind fun j => (cs[j]?).map fun e => (j, e.val)) w := by
  obtain ⟨hk, ⟨s, rfl⟩ | ⟨l, rfl⟩⟩ := keyT_cases ht
  · have hs := eqT_scal hk
    obtain ⟨d, hu⟩ : ∃ d, P.underlying t = some d := by
      unfold scT at hs
      split at hs <;> first | exact ⟨_, ‹_›⟩ | cases hs
    simp only [Instr.findKey, Sem.run_bind, run_und hu, Result.andThen_ok, findNow_ok hu hs hx hf he 0, Nat.zero_add, Sem.run_pure]
  · obtain ⟨fs, hu, _⟩ := eqT_flat hk
    rw [run_findKey_eq w (by rw [hu])]
    simpa using findAsking_ok hk hx w hf he 0
theorem findE_lt {k : EqK} {key : AV} : ∀ {es : List (AV × AV × Nat)} {i : Nat}, findE k key es = some (some i) → ∃ k0 v b, es[i]? = some (k0, v, b) ∧ avEq k key k0 = some true
  | [], i, h => by simp [findE] at h
  | (k0, v, b) :: es, i, h => by
    simp only [findE] at h
    split at h
    · rename_i heq; cases h; exact ⟨k0, v, b, by simp, heq⟩
    · cases hf : findE k key es with
      | none => rw [hf] at h; cases h
      | some ri =>
        rw [hf] at h
        cases ri with
        | none => cases h
        | some j =>
          cases h
          obtain ⟨a, b', c, p, q⟩ := findE_lt hf
          exact ⟨a, b', c, by simpa using p, q⟩
    · cases h
theorem EntR.get : ∀ {es : List (AV × AV × Nat)} {cs : List MapEntry}, EntR μ es cs → ∀ (i : Nat) (k v : AV) (b : Nat), es[i]? = some (k, v, b) → ∃ c, cs[i]? = some c ∧ VR μ k c.key ∧ VR μ v c.val ∧ c.born = b
  | [], cs, h, i, k, v, b, e => by simp at e
  | (k0, v0, b0) :: es, cs, h, i, k, v, b, e => by
    obtain ⟨c, cs', rfl, p, q, r, t⟩ := h
    cases i with
    | zero => simp at e; obtain ⟨rfl, rfl, rfl⟩ := e; exact ⟨c, by simp, p, q, r⟩
    | succ i =>
      simp at e
      obtain ⟨c', a, b'⟩ := EntR.get t i k v b e
      exact ⟨c', by simpa using a, b'⟩
theorem op_lookup {t k el : TypeId} {x i : Operand} {ok : Bool} {kk : EqK} {z : AV} (ho : o.op = .lookup t x i ok) (ht : P.underlying t = some (.map k el)) (hk : keyT P k = some kk) (hz : zeroA P el = some z)
    (e : aop (.lookup kk z ok) args h = some (r, h')) (ha : VRL μ args [ρ x, ρ i]) (hr : Rel Λ μ h w) : OpS Λ P (execOp ρ o) μ h w r h' := by
  simp only [aop] at e
  split at e
  · rename_i m key
    split at e
    · cases e
    · rename_i hfit
      have hfit : (avEq kk key key).isSome = true := by cases hq : avEq kk key key <;> simp_all
      obtain ⟨a, b, ea, v1, v2⟩ := VRL.two ha
      simp only [List.cons.injEq, and_true] at ea
      obtain ⟨e1, e2⟩ := ea
      rw [← e1] at v1; rw [← e2] at v2
      obtain ⟨ti, zv, hi, hzv, hre⟩ := zeroA_ok hz
      have hzr : VR μ z zv := reif_ok hre
      have back : ∀ (cv : Value) (av : AV) (is : Bool), VR μ av cv → VR μ (if ok then .tuple [av, .bool is] else av) (if ok then .tuple #[cv, .bool is] else cv) := by
        intro cv av is hv
        cases ok
        · simpa using hv
        · simp only [if_true, VR, VRL]; exact ⟨[cv, .bool is], ⟨cv, _, rfl, hv, _, _, rfl, rfl, rfl⟩, rfl⟩
      split at e
      · cases e
        simp only [VR] at v1
        simp only [execOp, ho]
        refine opS_pval hr (cv := if ok then .tuple #[zv, .bool false] else zv) ?_ (back _ _ _ hzr)
        rw [v1]
        have hck : ∀ em, (Instr.checkKey em 10000 k (ρ i)).run P w = .ok () w := fun em => checkKey_ok hfit hk v2 em 9998 w
        have hfk : (Instr.findKey k (ρ i) []).run P w = .ok none w := by
          have := findKey_ok (ri := none) (es := []) (cs := []) hk v2 (by simp [findE]) (by simp [EntR]) w
          simpa using this
        simp only [Instr.lookup, Sem.run_bind, run_und ht, Result.andThen_ok, Sem.run_pure, hck, hfk, run_zero hi hzv]
      · rename_i id
        split at e
        · rename_i es clock hg
          obtain ⟨l, cs, hl, p, q⟩ := hr.map hg
          simp only [VR] at v1; obtain ⟨l', hl', hx⟩ := v1
          rw [hl] at hl'; cases hl'
          have hck : ∀ em, (Instr.checkKey em 10000 k (ρ i)).run P w = .ok () w := fun em => checkKey_ok hfit hk v2 em 9998 w
          split at e
          · rename_i j hfj
            have hfk := findKey_ok hk v2 hfj q w
            obtain ⟨k0, v0, b0, hget, _⟩ := findE_lt hfj
            obtain ⟨c, hc, _, hv, _⟩ := EntR.get q j k0 v0 b0 hget
            rw [hget] at e; cases e
            simp only [Option.bind_some, hc, Option.map_some] at hfk
            simp only [execOp, ho]
            refine opS_pval hr (cv := if ok then .tuple #[c.val, .bool true] else c.val) ?_ (back _ _ _ hv)
            rw [hx]
            simp only [Instr.lookup, Sem.run_bind, run_und ht, Result.andThen_ok, run_getMap p, Sem.run_pure, hck, hfk]
          · rename_i hfj
            cases e
            have hfk := findKey_ok hk v2 hfj q w
            simp only [Option.bind_none] at hfk
            simp only [execOp, ho]
            refine opS_pval hr (cv := if ok then .tuple #[zv, .bool false] else zv) ?_ (back _ _ _ hzr)
            rw [hx]
            simp only [Instr.lookup, Sem.run_bind, run_und ht, Result.andThen_ok, run_getMap p, Sem.run_pure, hck, hfk, run_zero hi hzv]
          · cases e
        · cases e
      · cases e
  · cases e
end
end Go.Proofs.YtlkfclgkinaibaaGreat

namespace Go.Proofs.YtlkfclgkinaibaaGreat
variable {Λ : Lam}
section
variable {P : Program} {o : Oper} {ρ : Operand → Value} {μ : Mu} {h h' : AHeap} {w : World} {args : List AV} {r : AV}
theorem EntR.modify : ∀ {es : List (AV × AV × Nat)} {cs : List MapEntry} {i : Nat} {key v : AV} {x y : Value}, EntR μ es cs → VR μ key x → VR μ v y →
    EntR μ (es.modify i fun e => (key, v, e.2.2)) (cs.modify i fun e => { e with key := x, val := y })
  | [], cs, i, key, v, x, y, h, _, _ => by simp only [EntR] at h; subst h; simp [EntR]
  | (k0, v0, b0) :: es, cs, i, key, v, x, y, h, hk, hv => by
    obtain ⟨c, cs', rfl, p, q, r, t⟩ := h
    cases i with
    | zero => simp only [List.modify_zero_cons, EntR]; exact ⟨_, _, rfl, hk, hv, r, t⟩
    | succ i => simp only [List.modify_succ_cons, EntR]; exact ⟨_, _, rfl, p, q, r, EntR.modify t hk hv⟩
theorem EntR.append : ∀ {es es' : List (AV × AV × Nat)} {cs cs' : List MapEntry}, EntR μ es cs → EntR μ es' cs' → EntR μ (es ++ es') (cs ++ cs')
  | [], es', cs, cs', h, h' => by simp only [EntR] at h; subst h; simpa using h'
  | (k0, v0, b0) :: es, es', cs, cs', h, h' => by
    obtain ⟨c, l, rfl, p, q, r, t⟩ := h
    exact ⟨c, l ++ cs', rfl, p, q, r, EntR.append t h'⟩
theorem EntR.eraseIdx : ∀ {es : List (AV × AV × Nat)} {cs : List MapEntry} {i : Nat}, EntR μ es cs → EntR μ (es.eraseIdx i) (cs.eraseIdx i)
  | [], cs, i, h => by simp only [EntR] at h; subst h; simp [EntR]
  | (k0, v0, b0) :: es, cs, i, h => by
    obtain ⟨c, l, rfl, p, q, r, t⟩ := h
    cases i with
    | zero => simpa using t
    | succ i => exact ⟨c, l.eraseIdx i, by simp, p, q, r, EntR.eraseIdx t⟩
theorem put_map {id es clock es' clock'} {l : Loc} {cs : List MapEntry} (hr : Rel Λ μ h w) (hg : h.get id = some (.map es clock)) (hl : μ id = some l) (he : EntR μ es' cs) :
    (setObj l.block (.map cs.toArray clock')).run P w = .ok () { w with heap := w.heap.setIfInBounds l.block (.map cs.toArray clock') } ∧
    Rel Λ μ (h.put id (.map es' clock')) { w with heap := w.heap.setIfInBounds l.block (.map cs.toArray clock') } ∧ Step μ h w μ (h.put id (.map es' clock')) { w with heap := w.heap.setIfInBounds l.block (.map cs.toArray clock') } := by
  obtain ⟨l', cs0, hl', p, q⟩ := hr.map hg
  rw [hl] at hl'; cases hl'
  have hlt : l.block < w.heap.size := (hr.dom _ _ hl).2
  refine ⟨by simp [setObj, Sem.run, p], ?_⟩
  refine hr.put hg rfl hl rfl rfl rfl (by simp) (fun b hb => ?_) ⟨cs, ?_, he⟩
  · simp only [Array.getElem?_setIfInBounds]
    rw [if_neg (fun e => hb e.symm)]
  · simp [hlt]
theorem sc_same {s : Sc} {a b : AV} {x y : Value} (he : scEq s a b = some true) (ha : VR μ a x) (hb : VR μ b y) (n : Nat) : Instr.sameBits n y x = true := by
  rcases scEq_inv he with ⟨_, k, p, q, rfl, rfl, e⟩ | ⟨_, p, q, rfl, rfl, e⟩ | ⟨_, p, q, rfl, rfl, e⟩
  · rw [VR.int ha, VR.int hb]
    have : p = q := by simpa using e.symm
    cases n <;> simp [Instr.sameBits, this]
  · rw [VR.bool ha, VR.bool hb]
    have : p = q := by simpa using e.symm
    cases n <;> simp [Instr.sameBits, this]
  · simp only [VR] at ha hb; subst ha hb
    have e2 : (p == q) = true := e.symm
    have e3 : (q == p) = true := by
      rw [beq_toListBytes] at e2 ⊢
      have : p.toList = q.toList := by simpa using e2
      simp [this]
    cases n <;> simp [Instr.sameBits, e3]
theorem sameBits_flat : ∀ {ss : List Sc} {as bs : List AV} {xs ys : List Value}, eqFlat ss as bs = some true → VRL μ as xs → VRL μ bs ys → ∀ n,
    ys.length = xs.length ∧ ((ys.zip xs).all fun (x, y) => Instr.sameBits n x y) = true
  | [], as, bs, xs, ys, he, ha, hb, n => by
    cases as with
    | nil => cases bs with
      | nil => simp only [VRL] at ha hb; subst ha hb; simp
      | cons => simp [eqFlat] at he
    | cons => simp [eqFlat] at he
  | s :: ss, as, bs, xs, ys, he, ha, hb, n => by
    cases as with
    | nil => simp [eqFlat] at he
    | cons a as => cases bs with
      | nil => simp [eqFlat] at he
      | cons b bs =>
        simp only [eqFlat] at he
        simp only [VRL] at ha hb
        obtain ⟨x, xs', rfl, hx, hxs⟩ := ha
        obtain ⟨y, ys', rfl, hy, hys⟩ := hb
        split at he
        · rename_i hs
          obtain ⟨ih1, ih2⟩ := sameBits_flat he hxs hys n
          have hxy := sc_same hs hx hy n
          refine ⟨by simp [ih1], ?_⟩
          rw [List.zip_cons_cons, List.all_cons]
          simp only [hxy, Bool.true_and]
          exact ih2
        · rename_i hs
          rw [he] at hs; simp at hs
theorem keyStays {k : EqK} {a b : AV} {x y : Value} {t : TypeId} (ht : keyT P t = some k) (he : avEq k a b = some true) (ha : VR μ a x) (hb : VR μ b y) (w : World) : (Instr.keyThatStays y x).run P w = .ok x w := by
  have : Instr.sameBits 10000 y x = true := by
    obtain ⟨_, ⟨s, rfl⟩ | ⟨l, rfl⟩⟩ := keyT_cases ht
    · exact sc_same he ha hb 10000
    · cases a with
      | agg as => cases b with
        | agg bs =>
          simp only [avEq] at he
          simp only [VR] at ha hb
          obtain ⟨xs, p, _, rfl⟩ := ha
          obtain ⟨ys, q, _, rfl⟩ := hb
          obtain ⟨h1, h2⟩ := sameBits_flat he p q 9999
          have hsz : (ys.toArray.size == xs.toArray.size) = true := by simpa using h1
          show (ys.toArray.size == xs.toArray.size && (ys.toArray.toList.zip xs.toArray.toList).all fun (x, y) => Instr.sameBits 9999 x y) = true
          rw [hsz, Bool.true_and]
          exact h2
        | _ => simp [avEq] at he
      | _ => simp [avEq] at he
  simp [Instr.keyThatStays, this]
theorem op_mapput {t k el : TypeId} {m i x : Operand} {kk : EqK} (ho : o.op = .mapUpdate t m i x) (ht : P.underlying t = some (.map k el)) (hk : keyT P k = some kk)
    (e : aop (.mapput kk) args h = some (r, h')) (ha : VRL μ args [ρ m, ρ i, ρ x]) (hr : Rel Λ μ h w) : OpS Λ P (execOp ρ o) μ h w r h' := by
  simp only [aop] at e
  split at e
  · rename_i id key v
    split at e
    · cases e
    · rename_i hfit
      have hfit : (avEq kk key key).isSome = true := by cases hq : avEq kk key key <;> simp_all
      obtain ⟨a, b, c0, ea, v1, v2, v3⟩ := VRL.three ha
      simp only [List.cons.injEq, and_true] at ea
      obtain ⟨e1, e2, e3⟩ := ea
      rw [← e1] at v1; rw [← e2] at v2; rw [← e3] at v3
      have hck : ∀ em, (Instr.checkKey em 10000 k (ρ i)).run P w = .ok () w := fun em => checkKey_ok hfit hk v2 em 9998 w
      split at e
      · rename_i es clock hg
        obtain ⟨l, cs, hl, p, q⟩ := hr.map hg
        simp only [VR] at v1; obtain ⟨l', hl', hx⟩ := v1
        rw [hl] at hl'; cases hl'
        split at e
        · rename_i j hfj
          cases e
          have hfk := findKey_ok hk v2 hfj q w
          obtain ⟨k0, v0, b0, hget, heq⟩ := findE_lt hfj
          obtain ⟨c, hc, hkc, hv, _⟩ := EntR.get q j k0 v0 b0 hget
          simp only [Option.bind_some, hc, Option.map_some] at hfk
          have hst := keyStays hk heq v2 hkc w
          obtain ⟨s1, s2, s3⟩ := put_map (P := P) (clock' := clock) hr hg hl (EntR.modify (i := j) q v2 v3)
          refine ⟨μ, _, undef, .inr ⟨rfl, ?_⟩, by simp only [VR, VRL]; exact ⟨[], rfl, rfl⟩, s2, s3⟩
          have hc' : cs[j]? = some c := by simpa using hc
          have harr : cs.modify j (fun e => { e with key := ρ i, val := ρ x }) = (cs.toList.modify j fun e => { e with key := ρ i, val := ρ x }).toArray := by
            apply Array.ext'; simp [Array.toList_modify]
          simp only [execOp, ho, Instr.mapUpdate, hx, Sem.run_bind, run_und ht, Result.andThen_ok, run_getMap p, hck, hfk, hc', Option.map_some, Option.getD_some, hst, harr, s1, Sem.run_pure]
        · rename_i hfj
          cases e
          have hfk := findKey_ok hk v2 hfj q w
          simp only [Option.bind_none] at hfk
          have hnew : EntR μ (es ++ [(key, v, clock)]) (cs.toList ++ [{ key := ρ i, val := ρ x, born := clock }]) := EntR.append q ⟨_, [], rfl, v2, v3, rfl, rfl⟩
          obtain ⟨s1, s2, s3⟩ := put_map (P := P) (clock' := clock + 1) hr hg hl hnew
          refine ⟨μ, _, undef, .inr ⟨rfl, ?_⟩, by simp only [VR, VRL]; exact ⟨[], rfl, rfl⟩, s2, s3⟩
          have harr : cs.push ({ key := ρ i, val := ρ x, born := clock } : MapEntry) = (cs.toList ++ [({ key := ρ i, val := ρ x, born := clock } : MapEntry)]).toArray := by
            apply Array.ext'; simp
          simp only [execOp, ho, Instr.mapUpdate, hx, Sem.run_bind, run_und ht, Result.andThen_ok, run_getMap p, hck, hfk, harr, s1, Sem.run_pure]
        · cases e
      · cases e
  · cases e
theorem op_delete {c : Call} {t k el : TypeId} {kk : EqK} (ho : o.op = .call c) (hb : c.callee = .builtin .delete) (h0 : c.argTypes[0]? = some t) (ht : P.underlying t = some (.map k el)) (hk : keyT P k = some kk)
    (e : aop (.delete kk) args h = some (r, h')) (ha : VRL μ args (c.args.toList.map ρ)) (hr : Rel Λ μ h w) : OpS Λ P (execOp ρ o) μ h w r h' := by
  simp only [aop] at e
  split at e
  · rename_i m key
    split at e
    · cases e
    · rename_i hfit
      have hfit : (avEq kk key key).isSome = true := by cases hq : avEq kk key key <;> simp_all
      obtain ⟨a, b, ea, v1, v2⟩ := VRL.two ha
      have hck : ∀ em, (Instr.checkKey em 10000 k b).run P w = .ok () w := fun em => checkKey_ok hfit hk v2 em 9998 w
      have hun : VR μ (.tuple []) (.tuple #[]) := by simp only [VR, VRL]; exact ⟨[], rfl, rfl⟩
      split at e
      · cases e
        simp only [VR] at v1; subst v1
        refine opS_builtin (cv := .tuple #[]) ho hb (fun _ => rfl) hr ?_ hun
        rw [args_two ea]
        simp [Builtin.delete_, h0, run_und ht, hck]
      · rename_i id
        split at e
        · rename_i es clock hg
          obtain ⟨l, cs, hl, p, q⟩ := hr.map hg
          simp only [VR] at v1; obtain ⟨l', hl', rfl⟩ := v1
          rw [hl] at hl'; cases hl'
          split at e
          · rename_i j hfj
            cases e
            have hfk := findKey_ok hk v2 hfj q w
            obtain ⟨k0, v0, b0, hget, heq⟩ := findE_lt hfj
            obtain ⟨c1, hc, hkc, hv, _⟩ := EntR.get q j k0 v0 b0 hget
            simp only [Option.bind_some, hc, Option.map_some] at hfk
            obtain ⟨s1, s2, s3⟩ := put_map (P := P) (clock' := clock) hr hg hl (EntR.eraseIdx (i := j) q)
            have harr : cs.eraseIdxIfInBounds j = (cs.toList.eraseIdx j).toArray := by
              apply Array.ext'; simp [Array.toList_eraseIdxIfInBounds]
            refine ⟨μ, _, .tuple #[], .inl (exec_builtin ho hb (fun _ => rfl) ?_), hun, s2, s3⟩
            rw [args_two ea]
            simp only [Builtin.delete_, h0]
            simp [run_und ht, hck, run_getMap p, hfk, harr, s1]
          · rename_i hfj
            cases e
            have hfk := findKey_ok hk v2 hfj q w
            simp only [Option.bind_none] at hfk
            have hsame : (setObj l.block (.map cs clock)).run P w = .ok () w := by
              simp only [setObj, Sem.run, p]
              congr 1
              have : w.heap.setIfInBounds l.block (.map cs clock) = w.heap := by
                apply Array.ext_getElem?
                intro i
                rw [Array.getElem?_setIfInBounds]
                by_cases hi : l.block = i
                · subst hi
                  rw [if_pos rfl, if_pos (hr.dom _ _ hl).2, p]
                · rw [if_neg hi]
              rw [this]
            refine opS_builtin (cv := .tuple #[]) ho hb (fun _ => rfl) hr ?_ hun
            rw [args_two ea]
            simp only [Builtin.delete_, h0]
            simp [run_und ht, hck, run_getMap p, hfk, hsame]
          · cases e
        · cases e
      · cases e
  · cases e
theorem take_some {d : Dat} {off n : Nat} (h : off + n ≤ d.len) : ∃ e, d.take off n = some e := by
  cases d with
  | vals l => exact ⟨_, by simp only [Dat.take]; exact if_pos h⟩
  | bytes l v => exact ⟨_, by simp only [Dat.take]; exact if_pos h⟩
theorem DatC.congr {d e : Dat} {l : List Value} (h : DatC μ d l) (hl : e.len = d.len) (hg : ∀ i, i < d.len → e.get i = d.get i) : DatC μ e l :=
  ⟨by rw [hl]; exact h.1, fun i x hx => h.2 i x (by rw [← hg i (by rw [← hl]; exact Dat.get_lt hx)]; exact hx)⟩
theorem sliceDat_ok {es : Nat} {v : AV} {d src : Dat} {n m : Nat} {c : Value} (hr : Rel Λ μ h w) (hd : sliceDat h es v = some d) (hn : sliceLen v = some n) (hv : VR μ v c) (hm : m ≤ n) (hs : d.take 0 (m * es) = some src) :
    ∃ cs : List Value, (∀ w' : World, w'.heap = w.heap → (Builtin.firstCells es m c).run P w' = .ok cs.toArray w') ∧ DatC μ src cs := by
  obtain ⟨s1, s2, s3⟩ := Dat.take_spec hs
  have row : ∀ {id e0 es0 soft ro d0 off k n'} {l : Loc}, h.get id = some (.row e0 es0 soft ro d0) → μ id = some l → d0.take off n' = some d →
      ∃ cs : List Value, (∀ w' : World, w'.heap = w.heap → (Builtin.firstCells es m (.slice (some ⟨l.block, l.off + off, none⟩) n k)).run P w' = .ok cs.toArray w') ∧ DatC μ src cs := by
    intro id e0 es0 soft ro d0 off k n' l hg hl ht
    obtain ⟨l', hl', hrow⟩ := hr.row hg
    rw [hl] at hl'; cases hl'
    obtain ⟨t1, t2, t3⟩ := Dat.take_spec ht
    obtain ⟨e, he⟩ := take_some (d := d0) (off := off) (n := m * es) (by omega)
    obtain ⟨u1, u2, u3⟩ := Dat.take_spec he
    obtain ⟨cs, p, q⟩ := hrow.take he P
    refine ⟨cs, fun w' hw' => by simp only [Builtin.firstCells]; exact p w' hw', q.congr (by rw [s1, u1]) fun i hi => ?_⟩
    rw [u1] at hi
    rw [s3 i hi, u3 i hi, t3 (0 + i) (by omega)]
    congr 1; omega
  unfold sliceDat at hd
  split at hd
  · cases hd
    simp only [sliceLen] at hn; cases hn
    simp only [VR] at hv; subst hv
    have : m = 0 := by omega
    subst this
    refine ⟨[], fun w' _ => by simp [Builtin.firstCells], by simp [s1], fun i x hx => ?_⟩
    have := Dat.get_lt hx; omega
  · cases hd
    simp only [sliceLen] at hn; cases hn
    simp only [VR] at hv; obtain ⟨a, k, rfl⟩ := hv
    have : m = 0 := by omega
    subst this
    refine ⟨[], fun w' _ => by simp [Builtin.firstCells, loadCells, loadCellsFrom], by simp [s1], fun i x hx => ?_⟩
    have := Dat.get_lt hx; omega
  · simp only [sliceLen] at hn; cases hn
    split at hd
    · rename_i hg
      simp only [VR] at hv; obtain ⟨l, hl, rfl⟩ := hv
      exact row hg hl hd
    · cases hd
  · simp only [sliceLen] at hn; cases hn
    split at hd
    · rename_i hg
      split at hd
      · rename_i hes
        have hes := hes.symm
        subst hes
        simp only [VR] at hv; obtain ⟨l, hl, _, rfl⟩ := hv
        exact row hg hl hd
      · cases hd
    · cases hd
  · cases hd
theorem take_whole {d : Dat} : ∃ e, d.take 0 d.len = some e ∧ e.len = d.len ∧ ∀ i, i < d.len → e.get i = d.get i := by
  obtain ⟨e, he⟩ := take_some (d := d) (off := 0) (n := d.len) (by omega)
  obtain ⟨u1, _, u3⟩ := Dat.take_spec he
  exact ⟨e, he, u1, fun i hi => by rw [u3 i hi, Nat.zero_add]⟩
theorem sliceDat_len {es : Nat} {v : AV} {d : Dat} {n : Nat} (hd : sliceDat h es v = some d) (hn : sliceLen v = some n) : d.len = n * es := by
  unfold sliceDat at hd
  split at hd
  · cases hd; simp only [sliceLen] at hn; cases hn; simp [Dat.len]
  · cases hd; simp only [sliceLen] at hn; cases hn; simp [Dat.len]
  · simp only [sliceLen] at hn; cases hn
    split at hd
    · exact (Dat.take_spec hd).1
    · cases hd
  · simp only [sliceLen] at hn; cases hn
    split at hd
    · split at hd
      · exact (Dat.take_spec hd).1
      · cases hd
    · cases hd
  · cases hd
theorem sliceDat_all {es : Nat} {v : AV} {d : Dat} {n : Nat} {c : Value} (hr : Rel Λ μ h w) (hd : sliceDat h es v = some d) (hn : sliceLen v = some n) (hv : VR μ v c) :
    ∃ cs : List Value, (∀ w' : World, w'.heap = w.heap → (Builtin.firstCells es n c).run P w' = .ok cs.toArray w') ∧ DatC μ d cs := by
  have hl := sliceDat_len hd hn
  obtain ⟨e, he, h1, h2⟩ := take_whole (d := d)
  rw [hl] at he
  obtain ⟨cs, p, q⟩ := sliceDat_ok (P := P) hr hd hn hv (Nat.le_refl n) he
  exact ⟨cs, p, q.congr h1.symm (fun i hi => (h2 i (by rw [← h1]; exact hi)).symm)⟩
theorem op_copy {c : Call} {t el : TypeId} {es : Nat} (ho : o.op = .call c) (hb : c.callee = .builtin .copy) (h0 : c.argTypes[0]? = some t) (ht : P.underlying t = some (.slice el)) (hn : sizeT P el = some es)
    (e : aop (.copy es) args h = some (r, h')) (ha : VRL μ args (c.args.toList.map ρ)) (hr : Rel Λ μ h w) : OpS Λ P (execOp ρ o) μ h w r h' := by
  simp only [aop] at e
  split at e
  · rename_i a b
    obtain ⟨x, y, ea, v1, v2⟩ := VRL.two ha
    split at e
    · rename_i m n hm hk
      obtain ⟨a1, c1, rfl⟩ := sliceLen_ok hm v1
      obtain ⟨a2, c2, rfl⟩ := sliceLen_ok hk v2
      have hmin : Nat.min n m = Min.min n m := rfl
      split at e
      · rename_i h0m
        cases e
        refine opS_builtin (cv := goInt 0) ho hb (fun _ => rfl) hr ?_ (by simp [VR, goInt])
        rw [args_two ea]
        simp only [Builtin.copy_, h0]
        have hf : (Builtin.firstCells es 0 (.slice a2 n c2)).run P w = .ok #[] w := by cases a2 <;> simp [Builtin.firstCells, loadCells, loadCellsFrom]
        simp only [List.getElem?_toArray, List.getElem?_cons_zero, List.getElem?_cons_succ]
        simp only [Sem.run_bind, run_und ht, Result.andThen_ok, Builtin.lenOf, Sem.run_pure, run_size hn, h0m, hf]
        cases a1 <;> simp [storeCells, goInt]
      · rename_i h0m
        have fin : ∀ {id e0 es0 soft t0 t1 src} {off k1 : Nat} {l : Loc} {d : Dat}, sliceDat h es b = some d → d.take 0 (Nat.min n m * es) = some src → h.get id = some (.row e0 es0 soft false t0) → t0.put off src = some t1 → μ id = some l →
            c.args.toList.map ρ = [.slice (some ⟨l.block, l.off + off, none⟩) m k1, .slice a2 n c2] → OpS Λ P (execOp ρ o) μ h w (.int .i64 (Nat.min n m)) (h.put id (.row e0 es0 soft false t1)) := by
          intro id e0 es0 soft t0 t1 src off k1 l d hd hs hg hp hl ea
          obtain ⟨cs, p, q⟩ := sliceDat_ok (P := P) hr hd hk v2 (Nat.min_le_left n m) hs
          obtain ⟨w', p1, q1, s1⟩ := put_row (P := P) hr hg hl hp q
          refine ⟨μ, w', goInt (Nat.min n m), .inl (exec_builtin ho hb (fun _ => rfl) ?_), by simp [VR, goInt], q1, s1⟩
          rw [args_two ea]
          simp only [Builtin.copy_, h0]
          simp only [List.getElem?_toArray, List.getElem?_cons_zero, List.getElem?_cons_succ]
          simp only [Sem.run_bind, run_und ht, Result.andThen_ok, Builtin.lenOf, Sem.run_pure, run_size hn, p w rfl, p1]
        split at e
        · rename_i ax d id off k0 k1 hd
          cases hs : d.take 0 (Nat.min n m * es) with
          | none => rw [hs] at e; cases e
          | some src =>
            rw [hs] at e
            simp only [Option.bind_some] at e
            split at e
            · rename_i e0 es0 soft t0 hg
              cases hp : t0.put off src with
              | none => rw [hp] at e; cases e
              | some t1 =>
                rw [hp] at e; cases e
                simp only [VR] at v1; obtain ⟨l, hl, hx⟩ := v1
                rw [hx] at ea
                simp only [sliceLen] at hm; cases hm
                exact fin hd hs hg hp hl ea
            · cases e
        · rename_i ax d id idx es2 k0 hd
          cases hs : d.take 0 (Nat.min n m * es) with
          | none => rw [hs] at e; cases e
          | some src =>
            rw [hs] at e
            simp only [Option.bind_some] at e
            split at e
            · rename_i e0 es0 soft t0 hg
              split at e
              · rename_i hes
                cases hp : t0.put (idx * es) src with
                | none => rw [hp] at e; cases e
                | some t1 =>
                  rw [hp] at e; cases e
                  simp only [VR] at v1; obtain ⟨l, hl, _, hx⟩ := v1
                  rw [hx, hes] at ea
                  simp only [sliceLen] at hm; cases hm
                  exact fin hd hs hg hp hl ea
              · cases e
            · cases e
        · cases e
    · cases e
  · cases e
end
end Go.Proofs.YtlkfclgkinaibaaGreat

namespace Go.Proofs.YtlkfclgkinaibaaGreat
variable {Λ : Lam}
section
variable {P : Program} {o : Oper} {ρ : Operand → Value} {μ : Mu} {h h' : AHeap} {w : World} {args : List AV} {r : AV}
theorem Rel.move (hr : Rel Λ μ h w) {id : Nat} {o o' : AObj} {l l' : Loc} {w' : World} (hid : h.get id = some o) (hrw : o.rw = true) (hl : μ id = some l) (hl' : l'.block = l.block)
    (hw : Only l.block w w') (ho : ∀ μ', Ext μ μ' → ObjR Λ μ' w' l' o') :
    Rel Λ (μ.with h.next l') ((h.kill id).new o') w' ∧ Step μ h w (μ.with h.next l') ((h.kill id).new o') w' := by
  have hno : μ h.next = none := by
    cases e : μ h.next with
    | none => rfl
    | some k => have := (hr.dom _ _ e).1; omega
  have hext : Ext μ (μ.with h.next l') := Ext.with l' hno
  have hidn : id < h.next := (hr.dom _ _ hl).1
  have hlb := (hr.dom _ _ hl).2
  have hget : ∀ i, i ≠ h.next → i ≠ id → ((h.kill id).new o').get i = h.get i := fun i hi hj => by
    rw [AHeap.get_new_ne _ _ (show (h.kill id).next ≠ i from fun e => hi e.symm), AHeap.get_kill_ne h (fun e => hj e.symm)]
  have hgid : ((h.kill id).new o').get id = none := by
    rw [AHeap.get_new_ne _ _ (show (h.kill id).next ≠ id from fun e => by have : h.next = id := e; omega), AHeap.get_kill_same h id]
  have hgn : ((h.kill id).new o').get h.next = some o' := AHeap.get_new_same (h.kill id) o'
  refine ⟨⟨fun i oi e => ?_, fun i j oi oj li lj hi hj hne hrwi hli hlj => ?_, fun i k e => ?_⟩,
    ⟨hext, by simp [AHeap.new, AHeap.kill], fun i hi => Mu.with_ne _ _ (by omega), hw.os, hw.tape, hw.output, by rw [hw.size]; exact Nat.le_refl _, fun b _ hf => hw.rest b (fun e => hf id o l hid hrw hl e.symm), fun i oi k e hrwi hk => ?_, fun i oi k e hk => ?_⟩⟩
  · by_cases h1 : i = h.next
    · subst h1
      rw [hgn] at e; cases e
      exact ⟨l', Mu.with_same _ _ _, ho _ hext⟩
    · by_cases h2 : i = id
      · subst h2; rw [hgid] at e; cases e
      · rw [hget i h1 h2] at e
        obtain ⟨k, hk, hok⟩ := hr.obj i oi e
        refine ⟨k, by rw [Mu.with_ne _ _ h1]; exact hk, ObjR.ext hext hok (hw.rest _ fun e' => ?_)⟩
        exact hr.inj id i o oi l k hid e (fun e => h2 e.symm) hrw hl hk e'.symm
  · have hjid : j ≠ id := fun e => by subst e; rw [hgid] at hj; cases hj
    have hiid : i ≠ id := fun e => by subst e; rw [hgid] at hi; cases hi
    by_cases h1 : i = h.next
    · subst h1
      rw [Mu.with_same] at hli; cases hli
      rw [Mu.with_ne _ _ (fun e => hne e.symm)] at hlj
      rw [hget j (fun e => hne e.symm) hjid] at hj
      rw [hl']
      exact hr.inj id j o oj l lj hid hj (fun e => hjid e.symm) hrw hl hlj
    · rw [hget i h1 hiid] at hi
      rw [Mu.with_ne _ _ h1] at hli
      by_cases h2 : j = h.next
      · subst h2
        rw [Mu.with_same] at hlj; cases hlj
        rw [hl']
        exact hr.inj i id oi o li l hi hid hiid hrwi hli hl
      · rw [hget j h2 hjid] at hj
        rw [Mu.with_ne _ _ h2] at hlj
        exact hr.inj i j oi oj li lj hi hj hne hrwi hli hlj
  · by_cases h1 : i = h.next
    · subst h1
      rw [Mu.with_same] at e; cases e
      simp only [AHeap.new, AHeap.kill, hl', hw.size]
      omega
    · rw [Mu.with_ne _ _ h1] at e
      have := hr.dom _ _ e
      simp only [AHeap.new, AHeap.kill, hw.size]
      omega
  · by_cases h1 : i = h.next
    · subst h1
      rw [Mu.with_same] at hk; cases hk
      exact .inr ⟨id, o, l, hid, hrw, hl, hl'.symm⟩
    · have h2 : i ≠ id := fun e' => by subst e'; rw [hgid] at e; cases e
      rw [hget i h1 h2] at e
      rw [Mu.with_ne _ _ h1] at hk
      exact .inr ⟨i, oi, k, e, hrwi, hk, rfl⟩
  · by_cases h1 : i = h.next
    · subst h1
      rw [Mu.with_same] at hk; cases hk
      exact .inr ⟨id, o, l, hid, hl, hl'.symm⟩
    · have h2 : i ≠ id := fun e' => by subst e'; rw [hgid] at e; cases e
      rw [hget i h1 h2] at e
      rw [Mu.with_ne _ _ h1] at hk
      exact .inr ⟨i, oi, k, e, hk, rfl⟩
theorem growBy_le (n : Nat) : ∀ (rounds c : Nat), c ≤ n + (n + 768) / 4 → Builtin.growBy n rounds c ≤ n + (n + 768) / 4
  | 0, c, h => h
  | k + 1, c, h => by
    simp only [Builtin.growBy]
    split
    · exact h
    · exact growBy_le n k _ (by omega)
theorem next_le {need old : Nat} (h : old < need) : Builtin.nextslicecap need old ≤ 2 * need + 192 := by
  unfold Builtin.nextslicecap
  split
  · omega
  · split
    · omega
    · have := growBy_le need 4 old (by omega); omega
theorem next_room {need old b : Nat} (h : old < need) (hb : need * b ≤ 2 ^ 40) : ¬ Builtin.nextslicecap need old * b > 2 ^ 48 := by
  have h1 := next_le h
  have h2 : Builtin.nextslicecap need old * b ≤ (2 * need + 192) * b := Nat.mul_le_mul_right b h1
  have h3 : b ≤ need * b := Nat.le_mul_of_pos_left b (by omega)
  rw [Nat.add_mul, Nat.mul_assoc] at h2
  omega
def appTail (elem size bytes : Nat) (base : Option Addr) (sLen sCap n : Nat) (appended : Sem (Array Value)) : Sem Value := do
  let need := sLen + n
  if need ≤ sCap then
    let new ← appended
    if let some a := base then storeCells (a.add (sLen * size)) new.toList
    pure (.slice base need sCap)
  else
    let newCap ← choose (.appendCap need sCap elem)
    askRoom (newCap * bytes)
    let old ← Builtin.firstCells size sLen (.slice base sLen sCap)
    let new ← appended
    let rest := Builtin.zeroCells (← zeroValue elem).cells (newCap - need)
    pure (.slice (some (← newRow elem (old ++ new ++ rest))) need newCap)
theorem app_new {elem es bytes : Nat} {d new all : Dat} {base : Option Addr} {sLen sCap k : Nat} {appended : Sem (Array Value)} {cs old : List Value} {i : TypeInfo} {zv : Value} {h₀ : AHeap} {h1 : AHeap}
    (hr : Rel Λ μ h w) (hn : newRow' h₀ elem es true all = some h1) (hnext : h₀.next = h.next) (hkill : ∀ μ' w', Rel Λ μ' h w' → Rel Λ μ' h₀ w' ∧ Step μ' h w' μ' h₀ w')
    (hi : P.info? elem = some i) (hz : i.zero = some zv) (hzs : zv.cells.size = es) (hgt : ¬ sLen + k ≤ sCap)
    (hold : ∀ d', (Builtin.firstCells es sLen (.slice base sLen sCap)).run P { w with drawn := d' } = .ok old.toArray { w with drawn := d' }) (hod : DatC μ d old) (hdl : d.len = sLen * es)
    (happ : ∀ d', appended.run P { w with drawn := d' } = .ok cs.toArray { w with drawn := d' }) (hcs : DatC μ new cs) (hnl : new.len = k * es) (hall : d.app new = some all) :
    ∃ μ' w' cv, (appTail elem es bytes base sLen sCap k appended).run P w = .ok cv w' ∧ VR μ' (.ssl h.next 0 es (sLen + k)) cv ∧ Rel Λ μ' h1 w' ∧ Step μ h w μ' h1 w' := by
  obtain ⟨newCap, hcap, hch⟩ : ∃ newCap, sLen + k ≤ newCap ∧ (choose (.appendCap (sLen + k) sCap elem)).run P w = .ok newCap { w with drawn := w.drawn + 1 } := by
    refine ⟨_, ?_, by simp only [run_choose, Question.forced, Bool.false_eq_true, if_false]; rfl⟩
    simp only [Question.cut]; omega
  obtain ⟨wd, hwd⟩ : ∃ wd : World, wd = { w with drawn := w.drawn + 1 } := ⟨_, rfl⟩
  have hrd : Rel Λ μ h wd := by rw [hwd]; exact hr.drew _
  have hsd : Step μ h w μ h wd := by rw [hwd]; exact Step.drew _ _ _ _
  obtain ⟨hr0, hs0⟩ := hkill μ wd hrd
  have hda := hod.app hcs hall
  have hal : all.len = (sLen + k) * es := by rw [Dat.app_len hall, hdl, hnl, Nat.add_mul]
  have hzc : (Builtin.zeroCells zv.cells (newCap - (sLen + k))).size = (newCap - (sLen + k)) * es := by simp [Builtin.zeroCells, hzs]
  have hsz : (old.toArray ++ cs.toArray ++ Builtin.zeroCells zv.cells (newCap - (sLen + k))).size = newCap * es := by
    have h1 := hod.1
    have h2 := hcs.1
    simp only [Array.size_append, List.size_toArray, hzc, h1, h2, hdl, hnl]
    rw [← Nat.add_mul, ← Nat.add_mul]
    congr 1; omega
  have hle : (sLen + k) * es ≤ newCap * es := Nat.mul_le_mul_right es hcap
  have hdp : DatP μ all (old.toArray ++ cs.toArray ++ Builtin.zeroCells zv.cells (newCap - (sLen + k))).toList := by
    have := hda.pre (Builtin.zeroCells zv.cells (newCap - (sLen + k))).toList
    simpa using this
  obtain ⟨p, q, s⟩ := new_row (P := P) hr0 hn hdp newCap hsz (by omega) (by simp)
  rw [hnext] at q s
  refine ⟨_, _, .slice (some ⟨wd.heap.size, 0, none⟩) (sLen + k) newCap, ?_, by simp only [VR]; exact ⟨_, Mu.with_same _ _ _, by show 0 + (sLen + k) ≤ newCap; omega, by simp⟩, q, hsd.trans (hs0.trans s)⟩
  have hold' := hold (w.drawn + 1)
  have happ' := happ (w.drawn + 1)
  rw [← hwd] at hold' happ' hch
  simp only [appTail, hgt, if_false, Sem.run_bind, hch, Result.andThen_ok, run_askRoom, hold', happ', run_zero hi hz, p, Sem.run_pure]
theorem app_in {elem es bytes : Nat} {base : Option Addr} {a : Addr} {sLen sCap k : Nat} {appended : Sem (Array Value)} {cs : List Value} {w' : World} (hle : sLen + k ≤ sCap) (hb : base = some a) (happ : appended.run P w = .ok cs.toArray w)
    (hst : (storeCells (a.add (sLen * es)) cs).run P w = .ok () w') : (appTail elem es bytes base sLen sCap k appended).run P w = .ok (.slice base (sLen + k) sCap) w' := by
  subst hb
  simp only [appTail, hle, if_true, Sem.run_bind, happ, Result.andThen_ok, hst, Sem.run_pure]
theorem append_core {elem es bytes : Nat} {s : AV} {new : Dat} {base : Option Addr} {sLen sCap k : Nat} {appended : Sem (Array Value)} {cs : List Value} {i : TypeInfo} {zv : Value}
    (hr : Rel Λ μ h w) (e : appendTo h elem es bytes s new k = some (r, h')) (v : VR μ s (.slice base sLen sCap)) (hi : P.info? elem = some i) (hz : i.zero = some zv) (hzs : zv.cells.size = es)
    (happ : ∀ d', appended.run P { w with drawn := d' } = .ok cs.toArray { w with drawn := d' }) (hcs : DatC μ new cs) (hnl : new.len = k * es) :
    (∃ μ' w' cv, (appTail elem es bytes base sLen sCap k appended).run P w = .ok cv w' ∧ VR μ' r cv ∧ Rel Λ μ' h' w' ∧ Step μ h w μ' h' w') ∧ (sLen + k ≤ sCap ∨ ((sLen + k) * bytes ≤ 2 ^ 40 ∧ sLen + k ≤ 2 ^ 40)) := by
  have happ0 : appended.run P w = .ok cs.toArray w := happ w.drawn
  unfold appendTo at e
  split at e
  · rename_i hk
    subst hk
    have hc0 : cs = [] := List.length_eq_zero_iff.1 (by rw [hcs.1, hnl]; simp)
    subst hc0
    have fin : sLen ≤ sCap → r = s → h' = h → (∃ μ' w' cv, (appTail elem es bytes base sLen sCap 0 appended).run P w = .ok cv w' ∧ VR μ' r cv ∧ Rel Λ μ' h' w' ∧ Step μ h w μ' h' w') ∧ (sLen + 0 ≤ sCap ∨ ((sLen + 0) * bytes ≤ 2 ^ 40 ∧ sLen + 0 ≤ 2 ^ 40)) := by
      intro hle e1 e2
      subst e1 e2
      refine ⟨⟨μ, w, _, ?_, v, hr, Step.refl μ _ w⟩, .inl (by omega)⟩
      cases base with
      | none => simp only [appTail, Nat.add_zero, hle, if_true, Sem.run_bind, happ0, Result.andThen_ok, Sem.run_pure]
      | some a => exact app_in (by omega) rfl happ0 (by simp [storeCells])
    split at e
    · split at e
      · cases e
        rename_i hle
        simp only [VR] at v; obtain ⟨l, _, hv⟩ := v
        cases hv
        exact fin hle rfl rfl
      · cases e
    · cases e
      simp only [VR] at v; obtain ⟨l, _, hle, hv⟩ := v; cases hv
      exact fin (by omega) rfl rfl
    · cases e
      simp only [VR] at v; cases v
      exact fin (by omega) rfl rfl
    · cases e
      simp only [VR] at v; obtain ⟨a, c, hv⟩ := v; cases hv
      exact fin (by omega) rfl rfl
    · cases e
  · rename_i hk
    split at e
    · split at e
      · rename_i hc
        cases hn : newRow' h elem es true new with
        | none => rw [hn] at e; cases e
        | some h1 =>
          rw [hn] at e; cases e
          simp only [VR] at v; cases v
          refine ⟨?_, .inr (by simpa using ⟨hc.1, hc.2.1⟩)⟩
          have := app_new (P := P) (d := .vals []) (new := new) (all := new) (base := none) (sLen := 0) (sCap := 0) (k := k) (bytes := bytes) (old := []) hr hn rfl (fun μ' w' hr' => ⟨hr', Step.refl _ _ _⟩) hi hz hzs (by omega) (fun d' => by simp [Builtin.firstCells]) ⟨rfl, fun i x hx => by simp [Dat.get] at hx⟩ (by simp [Dat.len]) happ hcs hnl (by cases new <;> simp [Dat.app])
          simpa using this
      · cases e
    · rename_i id off len cap
      split at e
      · rename_i e0 es0 soft ro d hg
        simp only [VR] at v; obtain ⟨l, hl, hv⟩ := v
        cases hv
        split at e
        · rename_i hle
          split at e
          · cases e
          · rename_i hro
            have hro : ro = false := by simpa using hro
            subst hro
            cases hp : d.put (off + sLen * es) new with
            | none => rw [hp] at e; cases e
            | some d' =>
              rw [hp] at e; cases e
              obtain ⟨w', p, q, st⟩ := put_row (P := P) hr hg hl hp hcs
              refine ⟨⟨μ, w', _, app_in hle rfl happ0 ?_, by simp only [VR]; exact ⟨l, hl, rfl⟩, q, st⟩, .inl hle⟩
              rw [add_at, Nat.add_assoc]; exact p
        · rename_i hgt
          split at e
          · rename_i hc
            cases ht : d.take off (sLen * es) with
            | none => rw [ht] at e; cases e
            | some od =>
              rw [ht] at e
              simp only [Option.bind_some] at e
              cases ha : od.app new with
              | none => rw [ha] at e; cases e
              | some all =>
                rw [ha] at e
                simp only [Option.bind_some] at e
                cases hn : newRow' h elem es true all with
                | none => rw [hn] at e; cases e
                | some h1 =>
                  rw [hn] at e; cases e
                  refine ⟨?_, .inr ⟨hc.1, hc.2.1⟩⟩
                  obtain ⟨l', hl', hrow⟩ := hr.row hg
                  rw [hl] at hl'; cases hl'
                  obtain ⟨cs0, p0, q0⟩ := hrow.take ht P
                  exact app_new (P := P) hr hn rfl (fun μ' w' hr' => ⟨hr', Step.refl _ _ _⟩) hi hz hzs hgt (fun d' => by simp only [Builtin.firstCells]; exact p0 _ rfl) q0 (Dat.take_spec ht).1 happ hcs hnl ha
          · cases e
      · cases e
    · rename_i id idx es' len
      split at e
      · rename_i e0 es0 d hg
        split at e
        · rename_i hes
          obtain ⟨k1, k2, k3, hes0⟩ := hes
          have k1 := k1.symm; have k2 := k2.symm; have k3 := k3.symm
          subst k1 k2 k3
          simp only [VR] at v; obtain ⟨l, hl, hcap, hv⟩ := v
          cases hv
          obtain ⟨l', hl', hrow⟩ := hr.row hg
          rw [hl] at hl'; cases hl'
          split at e
          · rename_i hle
            cases hp : d.put ((idx + sLen) * es) new with
            | none => rw [hp] at e; cases e
            | some d' =>
              rw [hp] at e; cases e
              obtain ⟨w', p, q, st⟩ := put_row (P := P) hr hg hl hp hcs
              have hdl : d.len ≤ l.cap * es := (hrow.choose_spec.choose_spec.2.2 rfl).2.2.1
              have hfit : idx + sLen + k ≤ l.cap := by
                have h1 : (idx + sLen + k) * es ≤ l.cap * es := Nat.le_trans hle hdl
                exact Nat.le_of_mul_le_mul_right h1 hes0
              refine ⟨⟨μ, w', _, app_in (by omega) rfl happ0 ?_, by simp only [VR]; exact ⟨l, hl, by omega, rfl⟩, q, st⟩, .inl (by omega)⟩
              rw [add_at]
              have : l.off + idx * es + sLen * es = l.off + (idx + sLen) * es := by rw [Nat.add_mul]; omega
              rw [this]; exact p
          · split at e
            · rename_i hc
              obtain ⟨hend, hb40, hk40, hnl'⟩ := hc
              cases ht : d.take (idx * es) (sLen * es) with
              | none => rw [ht] at e; cases e
              | some od =>
                rw [ht] at e
                simp only [Option.bind_some] at e
                cases ha : od.app new with
                | none => rw [ha] at e; cases e
                | some all =>
                  rw [ha] at e
                  simp only [Option.bind_some] at e
                  cases hn : newRow' (h.kill id) elem es true all with
                  | none => rw [hn] at e; cases e
                  | some h1 =>
                    rw [hn] at e; cases e
                    refine ⟨?_, .inr ⟨hb40, hk40⟩⟩
                    obtain ⟨cs0, p0, q0⟩ := hrow.take ht P
                    by_cases hfits : sLen + k ≤ l.cap - idx
                    · have hnx := newRow_with hn
                      obtain ⟨c, fr, pb, pc, pr⟩ := hrow
                      obtain ⟨rfl, hsz, hdl, _⟩ := pr rfl
                      obtain ⟨t1, t2, t3⟩ := Dat.take_spec ht
                      have hcapm : (idx + sLen + k) * es ≤ l.cap * es := Nat.mul_le_mul_right es (by omega)
                      have hexp : (idx + sLen + k) * es = idx * es + sLen * es + k * es := by rw [Nat.add_mul, Nat.add_mul]
                      obtain ⟨w', c', r1, r2, r3, r4, r5⟩ := run_storeCells P l.block (l.off + (idx * es + sLen * es)) elem cs 0 w c pb hcs.cells (by rw [hcs.1, hnl]; omega)
                      have hmv := hr.move (o' := .row elem es true false all) (l' := ⟨l.block, l.off + idx * es, l.cap - idx⟩) hg rfl hl rfl r5 (fun μ' hext => by
                        refine ⟨c', (0, 0), r2, fun i x hx => ?_, fun _ => ⟨rfl, ?_, ?_, by simp⟩⟩
                        · have hi' : i < od.len + new.len := by rw [← Dat.app_len ha]; exact Dat.get_lt hx
                          by_cases hio : i < od.len
                          · rw [Dat.app_left ha i hio, t3 i (by omega)] at hx
                            obtain ⟨y, a1, a2, a3⟩ := pc _ _ hx
                            refine ⟨y, ?_, VR.ext hext _ _ a2, a3⟩
                            rw [r4, if_neg (by simp only; omega), ← a1]
                            congr 1; simp only; omega
                          · rw [Dat.app_right ha i (by omega)] at hx
                            obtain ⟨y, a1, a2, a3⟩ := hcs.2 _ _ hx
                            refine ⟨y, ?_, VR.ext hext _ _ a2, a3⟩
                            rw [r4, if_pos (by rw [hcs.1]; simp only; omega), ← a1]
                            congr 1; simp only; omega
                        · rw [r3, hsz]; simp only; rw [Nat.sub_mul]; have : idx * es ≤ l.cap * es := Nat.mul_le_mul_right es (by omega); omega
                        · rw [Dat.app_len ha, t1, hnl]; simp only; rw [Nat.sub_mul]; omega)
                      rw [hnx]
                      refine ⟨_, w', _, app_in hfits rfl happ0 ?_, by simp only [VR]; exact ⟨_, Mu.with_same _ _ _, by show 0 + (sLen + k) ≤ l.cap - idx; omega, by simp⟩, hmv.1, hmv.2⟩
                      rw [add_at, Nat.add_assoc]; exact r1
                    · refine app_new (P := P) hr hn rfl (fun μ' w' hr' => hr'.kill hg) hi hz hzs hfits (fun d' => by simp only [Builtin.firstCells]; exact p0 _ rfl) q0 (Dat.take_spec ht).1 happ hcs hnl ha
            · cases e
        · cases e
      · cases e
    · cases e
end
end Go.Proofs.YtlkfclgkinaibaaGreat

namespace Go.Proofs.YtlkfclgkinaibaaGreat
variable {Λ : Lam}
section
variable {P : Program} {o : Oper} {ρ : Operand → Value} {μ : Mu} {h h' : AHeap} {w : World} {args : List AV} {r : AV}
theorem op_range {t k el : TypeId} {x : Operand} (ho : o.op = .range t x) (ht : P.underlying t = some (.map k el)) (e : aop .range args h = some (r, h')) (ha : VRL μ args [ρ x]) (hr : Rel Λ μ h w) : OpS Λ P (execOp ρ o) μ h w r h' := by
  simp only [aop] at e
  split at e
  · cases e
    obtain ⟨a, ea, v⟩ := VRL.one ha
    simp only [List.cons.injEq, and_true] at ea
    rw [← ea] at v
    simp only [VR] at v
    obtain ⟨q, s⟩ := hr.new (.iter none 0 [] 0) (.mapIter none 0 #[] 0) ⟨w.heap.size, 0, 0⟩ rfl (fun μ' _ => ⟨rfl, none, by simp, rfl⟩)
    simp only [execOp, ho]
    refine opS_val (cv := .pointer (some ⟨w.heap.size, 0, none⟩)) ?_ (by simp only [VR]; exact ⟨_, Mu.with_same _ _ _, rfl⟩) q s
    simp [Instr.range, run_und ht, v]
  · rename_i id
    split at e
    · rename_i es clock hg
      cases e
      obtain ⟨a, ea, v⟩ := VRL.one ha
      simp only [List.cons.injEq, and_true] at ea
      rw [← ea] at v
      simp only [VR] at v
      obtain ⟨l', hl', hx⟩ := v
      obtain ⟨l, cs, hl, p, _⟩ := hr.map hg
      obtain rfl : l' = l := Option.some.inj (hl'.symm.trans hl)
      obtain ⟨q, s⟩ := hr.new (.iter (some id) clock [] clock) (.mapIter (some l'.block) clock #[] clock) ⟨w.heap.size, 0, 0⟩ rfl (fun μ' hx => ⟨rfl, some l'.block, by simp, l', hx _ _ hl, rfl⟩)
      simp only [execOp, ho]
      refine opS_val (cv := .pointer (some ⟨w.heap.size, 0, none⟩)) ?_ (by simp only [VR]; exact ⟨_, Mu.with_same _ _ _, rfl⟩) q s
      rw [hx]
      simp [Instr.range, run_und ht, run_getMap p]
    · cases e
  · cases e
theorem EntR.mem {μ : Mu} : ∀ {es : List (AV × AV × Nat)} {cs : List MapEntry}, EntR μ es cs → (∀ c, c ∈ cs → ∃ e, e ∈ es ∧ VR μ e.1 c.key ∧ VR μ e.2.1 c.val ∧ c.born = e.2.2) ∧ (∀ e, e ∈ es → ∃ c, c ∈ cs ∧ VR μ e.1 c.key ∧ VR μ e.2.1 c.val ∧ c.born = e.2.2) ∧ (es = [] ↔ cs = [])
  | [], cs, h => by simp only [EntR] at h; subst h; simp
  | (k, v, b) :: es, cs, h => by
    simp only [EntR] at h
    obtain ⟨c, cs', rfl, h1, h2, h3, h4⟩ := h
    obtain ⟨m1, m2, _⟩ := EntR.mem h4
    refine ⟨fun c' hc => ?_, fun e he => ?_, by simp⟩
    · rcases List.mem_cons.1 hc with rfl | hc
      · exact ⟨_, List.mem_cons_self, h1, h2, h3⟩
      · obtain ⟨e, he, q⟩ := m1 c' hc; exact ⟨e, List.mem_cons_of_mem _ he, q⟩
    · rcases List.mem_cons.1 he with rfl | he
      · exact ⟨_, List.mem_cons_self, h1, h2, h3⟩
      · obtain ⟨c', hc, q⟩ := m2 e he; exact ⟨c', List.mem_cons_of_mem _ hc, q⟩
theorem choose_mapNext {n : Nat} (hn : 0 < n) (w : World) : ∃ k w', (choose (.mapNext n)).run P w = .ok k w' ∧ k < n ∧ ∃ d, w' = { w with drawn := d } := by
  by_cases h1 : n ≤ 1
  · exact ⟨0, w, by simp [choose, Sem.run, Question.forced, h1], hn, w.drawn, rfl⟩
  · exact ⟨w.tape w.drawn (.mapNext n) % n, { w with drawn := w.drawn + 1 }, by simp [choose, Sem.run, Question.forced, Question.cut, h1], Nat.mod_lt _ hn, _, rfl⟩
theorem op_entry {x : Operand} (ho : o.op = .entry x) (e : aop .entry args h = some (r, h')) (ha : VRL μ args [ρ x]) (hr : Rel Λ μ h w) : OpS Λ P (execOp ρ o) μ h w r h' := by
  simp only [aop] at e
  split at e
  · rename_i id
    split at e
    · rename_i m since seen stepped hg
      split at e
      · rename_i es clock hm
        split at e
        · rename_i stamp hst
          split at e
          · rename_i hcl
            cases hf : es.find? (fun e => e.2.2 == stamp) with
            | none => rw [hf] at e; cases e
            | some x0 =>
              rw [hf] at e
              cases e
              obtain ⟨a, ea, v⟩ := VRL.one ha
              simp only [List.cons.injEq, and_true] at ea
              rw [← ea] at v
              simp only [VR] at v
              obtain ⟨l', hl', hx⟩ := v
              obtain ⟨l, hl, hob⟩ := hr.obj _ _ hg
              obtain rfl : l = l' := Option.some.inj (hl.symm.trans hl')
              obtain ⟨hoff, r0, hit, k, hk, hrk⟩ := hob
              obtain ⟨lm, cs, hlm, pm, qm⟩ := hr.map hm
              obtain rfl : k = lm := Option.some.inj (hk.symm.trans hlm)
              subst hrk
              have hfind : ∀ {es : List (AV × AV × Nat)} {cs : List MapEntry}, EntR μ es cs → es.find? (fun e => e.2.2 == stamp) = some x0 → ∃ c, cs.find? (·.born == stamp) = some c ∧ VR μ x0.1 c.key ∧ VR μ x0.2.1 c.val := by
                intro es
                induction es with
                | nil => intro cs _ h; cases h
                | cons y ys ih =>
                  intro cs hE h
                  obtain ⟨k0, v0, b0⟩ := y
                  simp only [EntR] at hE
                  obtain ⟨c, cs', rfl, h1, h2, h3, h4⟩ := hE
                  rw [List.find?_cons] at h ⊢
                  simp only [h3] at h ⊢
                  cases hb : (b0 == stamp) with
                  | true => rw [hb] at h; cases h; exact ⟨c, rfl, h1, h2⟩
                  | false => rw [hb] at h; exact ih h4 h
              obtain ⟨c, hc, hc1, hc2⟩ := hfind qm hf
              simp only [execOp, ho]
              refine opS_pval hr (cv := .tuple #[c.key, c.val]) ?_ (by simp only [VR, VRL]; exact ⟨[c.key, c.val], ⟨_, _, rfl, hc1, _, _, rfl, hc2, rfl⟩, rfl⟩)
              rw [hx]
              have hgo : (getObj l.block).run P w = .ok (.mapIter (some k.block) since seen.toArray stepped) w := by simp [getObj, Sem.run, hit]
              have hgm : (getObj k.block).run P w = .ok (.map cs clock) w := by simp [getObj, Sem.run, pm]
              have hb : seen.toArray.back? = some stamp := by simpa using hst
              simp only [Instr.entry, hoff, Nat.add_zero]
              simp only [Sem.run_bind, hgo, Result.andThen_ok, hb, hgm, hcl, bne_self_eq_false, Bool.false_eq_true, if_false, ← Array.find?_toList, hc, Sem.run_pure]
          · cases e
        · cases e
      · cases e
    · cases e
  · cases e
theorem op_next {x : Operand} {Q : AV → AHeap → Prop} (ho : o.op = .next x false) (hq : nextW args h Q) (ha : VRL μ args [ρ x]) (hr : Rel Λ μ h w) : ∃ r h', Q r h' ∧ OpS Λ P (execOp ρ o) μ h w r h' := by
  unfold nextW at hq
  split at hq
  · rename_i id
    obtain ⟨a, ea, v⟩ := VRL.one ha
    simp only [List.cons.injEq, and_true] at ea
    rw [← ea] at v
    simp only [VR] at v
    obtain ⟨l, hl, hx⟩ := v
    split at hq
    · rename_i s1 s2 s3 hg
      obtain ⟨l', hl', hob⟩ := hr.obj _ _ hg
      obtain rfl : l = l' := Option.some.inj (hl.symm.trans hl')
      obtain ⟨hoff, r0, hit, hr0⟩ := hob
      subst hr0
      refine ⟨_, _, hq, ?_⟩
      simp only [execOp, ho]
      refine opS_pval hr (cv := .tuple #[.bool false]) ?_ (by simp only [VR, VRL]; exact ⟨[.bool false], ⟨_, _, rfl, rfl, rfl⟩, rfl⟩)
      have hgo : (getObj l.block).run P w = .ok (.mapIter none s1 s2.toArray s3) w := by simp [getObj, Sem.run, hit]
      rw [hx]
      simp only [Instr.next, hoff, Nat.add_zero, Sem.run_bind, hgo, Result.andThen_ok, Sem.run_pure]
    · rename_i m since seen last hg
      split at hq
      · rename_i es clock hm
        obtain ⟨q1, q2, q3⟩ := hq
        obtain ⟨l', hl', hob⟩ := hr.obj _ _ hg
        obtain rfl : l = l' := Option.some.inj (hl.symm.trans hl')
        obtain ⟨hoff, r0, hit, k, hk, hrk⟩ := hob
        subst hrk
        obtain ⟨lm, cs, hlm, pm, qm⟩ := hr.map hm
        obtain rfl : k = lm := Option.some.inj (hk.symm.trans hlm)
        obtain ⟨m1, m2, m3⟩ := qm.mem
        have hgo : (getObj l.block).run P w = .ok (.mapIter (some k.block) since seen.toArray last) w := by simp [getObj, Sem.run, hit]
        have hgm : (getObj k.block).run P w = .ok (.map cs clock) w := by simp [getObj, Sem.run, pm]
        have hcond : (!seen.toArray.isEmpty && !cs.isEmpty && cs.all (fun e => decide (e.born ≥ last))) = false := by
          cases hb : (!seen.toArray.isEmpty && !cs.isEmpty && cs.all (fun e => decide (e.born ≥ last))) with
          | false => rfl
          | true =>
            exfalso
            simp only [Bool.and_eq_true, Bool.not_eq_true', Array.isEmpty_eq_false_iff, ← Array.all_toList, List.all_eq_true, decide_eq_true_eq] at hb
            obtain ⟨⟨b1, b2⟩, b3⟩ := hb
            rcases q1 with h1 | h1 | ⟨e0, h1, h2⟩
            · exact b1 (by rw [h1])
            · exact b2 (Array.toList_eq_nil_iff.1 (m3.1 h1))
            · obtain ⟨c, hc, _, _, hcb⟩ := m2 e0 h1
              have := b3 c hc
              omega
        generalize hcand : (if ((cs.filter fun e => !seen.toArray.contains e.born).filter (fun e => decide (e.born < since))).isEmpty = true then (#[none] : Array (Option MapEntry)) else #[]) ++ (((cs.filter fun e => !seen.toArray.contains e.born).filter (fun e => decide (e.born < since))) ++ ((cs.filter fun e => !seen.toArray.contains e.born).filter (fun e => decide (e.born ≥ since)))).map some = cand
        have hmem : ∀ c, c ∈ cand → (∀ e, c = some e → e ∈ cs.toList ∧ e.born ∉ seen) ∧ (c = none → ∀ e, e ∈ cs.toList → e.born < since → e.born ∈ seen) := by
          intro c hc
          rw [← hcand, Array.mem_append] at hc
          rcases hc with hc | hc
          · split at hc
            · rename_i hemp
              simp only [List.mem_toArray, List.mem_singleton] at hc
              subst hc
              refine ⟨fun e he => (by cases he), fun _ e he hlt => ?_⟩
              rw [Array.isEmpty_iff, Array.filter_eq_empty_iff] at hemp
              apply Classical.byContradiction
              intro hn
              have := hemp e (by simp [Array.mem_toList_iff.1 he, hn])
              simp [hlt] at this
            · simp at hc
          · simp only [Array.mem_map, Array.mem_append, Array.mem_filter] at hc
            obtain ⟨e, he, rfl⟩ := hc
            refine ⟨fun e' he' => ?_, fun he' => (by cases he')⟩
            cases he'
            rcases he with ⟨⟨h1, h2⟩, _⟩ | ⟨⟨h1, h2⟩, _⟩ <;> exact ⟨Array.mem_toList_iff.2 h1, by simpa using h2⟩
        have hpos : 0 < cand.size := by
          rw [← hcand, Array.size_append]
          split
          · simp; omega
          · rename_i hemp
            have : ((cs.filter fun e => !seen.toArray.contains e.born).filter (fun e => decide (e.born < since))) ≠ #[] := by
              intro e; apply hemp; rw [e]; rfl
            have := Array.size_pos_iff.2 this
            simp only [Array.size_map, Array.size_append]
            omega
        obtain ⟨n, w', hch, hn, d, rfl⟩ := choose_mapNext (P := P) hpos w
        have hget : cand[n]? = some cand[n] := by simp [hn]
        obtain ⟨c1, c2⟩ := hmem cand[n] (Array.getElem_mem hn)
        have hr' : Rel Λ μ h { w with drawn := d } := hr.drew d
        have st0 : Step μ h w μ h { w with drawn := d } := Step.drew μ h w d
        cases hcn : cand[n] with
        | none =>
          refine ⟨_, _, q3 (fun e he hlt => ?_), μ, { w with drawn := d }, .tuple #[.bool false], .inl ?_, by simp only [VR, VRL]; exact ⟨[.bool false], ⟨_, _, rfl, rfl, rfl⟩, rfl⟩, hr', st0⟩
          · obtain ⟨c, hc, _, _, hcb⟩ := m2 e he
            rw [← hcb]; exact c2 hcn c hc (by omega)
          · rw [hcn] at hget
            simp only [execOp, ho, hx]
            simp only [Instr.next, hoff, Nat.add_zero, Sem.run_bind, hgo, Result.andThen_ok, hgm, hcond, Bool.false_eq_true, if_false, hcand, hch, hget, Sem.run_pure]
        | some e0 =>
          obtain ⟨d1, d2⟩ := c1 e0 hcn
          obtain ⟨e1, he1, v1, v2, hb⟩ := m1 e0 d1
          have hlt : l.block < w.heap.size := (hr.dom _ _ hl).2
          have hput := Rel.put (w' := { w with drawn := d, heap := w.heap.setIfInBounds l.block (.mapIter (some k.block) since (seen.toArray.push e0.born) clock) }) hr' hg rfl hl rfl rfl rfl (by simp) (fun b hb => by simp [Ne.symm hb])
            (o' := .iter (some m) since (seen ++ [e1.2.2]) clock) ⟨hoff, some k.block, by simp [hlt, hb], k, hk, rfl⟩
          refine ⟨_, _, q2 e1 he1 (by rw [← hb]; exact d2), μ, _, .tuple #[.bool true, e0.key, e0.val], .inl ?_, by simp only [VR, VRL]; exact ⟨[.bool true, e0.key, e0.val], ⟨_, _, rfl, rfl, _, _, rfl, v1, _, _, rfl, v2, rfl⟩, rfl⟩, hput.1, st0.trans hput.2⟩
          rw [hcn] at hget
          simp only [execOp, ho, hx]
          simp only [Instr.next, hoff, Nat.add_zero, Sem.run_bind, hgo, Result.andThen_ok, hgm, hcond, Bool.false_eq_true, if_false, hcand, hch, hget, Sem.run_pure]
          simp [setObj, Sem.run, hit]
      · exact hq.elim
    · exact hq.elim
  · exact hq.elim
end
end Go.Proofs.YtlkfclgkinaibaaGreat

namespace Go.Proofs.YtlkfclgkinaibaaGreat
variable {Λ : Lam}
section
variable {P : Program} {o : Oper} {ρ : Operand → Value} {μ : Mu} {h h' : AHeap} {w : World} {args : List AV} {r : AV}
theorem bytesT_ok {t : TypeId} {b : Nat} (hb : bytesT P t = some b) : ∃ i, P.info? t = some i ∧ i.bytes = b := by
  unfold bytesT at hb
  cases hti : P.info? t with
  | none => rw [hti] at hb; cases hb
  | some ti => rw [hti] at hb; cases hb; exact ⟨ti, rfl, rfl⟩
theorem op_append {c : Call} {t t1 el el1 : TypeId} {n b : Nat} {z : Dat} (ho : o.op = .call c) (hb : c.callee = .builtin .append) (h0 : c.argTypes[0]? = some t) (ht : P.underlying t = some (.slice el)) (h1 : c.argTypes[1]? = some t1) (ht1 : P.underlying t1 = some (.slice el1))
    (hn : sizeT P el = some n) (hby : bytesT P el = some b) (hz : zeroD P el = some z) (hzn : z.len = n)
    (e : aop (.append el n b z) args h = some (r, h')) (ha : VRL μ args (c.args.toList.map ρ)) (hr : Rel Λ μ h w) : OpS Λ P (execOp ρ o) μ h w r h' := by
  simp only [aop] at e
  split at e
  · rename_i s x
    split at e
    · rename_i k new hk hnew
      obtain ⟨a1, a2, ea, v1, v2⟩ := VRL.two ha
      obtain ⟨xa, xc, rfl⟩ := sliceLen_ok hk v2
      obtain ⟨i, zv, hi, hzv, hd⟩ := zeroD_ok hz μ
      have hzs : zv.cells.size = n := by have := hd.1; rw [Array.length_toList] at this; omega
      obtain ⟨i', hi', hib⟩ := bytesT_ok hby
      rw [hi] at hi'; cases hi'
      obtain ⟨cs, p, q⟩ := sliceDat_all (P := P) hr hnew hk v2
      have hsl : ∃ base sLen sCap, a1 = .slice base sLen sCap := by
        unfold appendTo at e
        split at e
        · split at e
          · simp only [VR] at v1; obtain ⟨l, _, rfl⟩ := v1; exact ⟨_, _, _, rfl⟩
          · simp only [VR] at v1; obtain ⟨l, _, _, rfl⟩ := v1; exact ⟨_, _, _, rfl⟩
          · simp only [VR] at v1; exact ⟨_, _, _, v1⟩
          · simp only [VR] at v1; obtain ⟨a, c, rfl⟩ := v1; exact ⟨_, _, _, rfl⟩
          · cases e
        · split at e
          · simp only [VR] at v1; exact ⟨_, _, _, v1⟩
          · simp only [VR] at v1; obtain ⟨l, _, rfl⟩ := v1; exact ⟨_, _, _, rfl⟩
          · simp only [VR] at v1; obtain ⟨l, _, _, rfl⟩ := v1; exact ⟨_, _, _, rfl⟩
          · cases e
      obtain ⟨base, sLen, sCap, rfl⟩ := hsl
      obtain ⟨⟨μ', w', cv, r1, r2, r3, r4⟩, hroom⟩ := append_core (P := P) (appended := Builtin.firstCells n k (.slice xa k xc)) hr e v1 hi hzv hzs (fun d' => p _ rfl) q (sliceDat_len hnew hk)
      refine ⟨μ', w', cv, .inl (exec_builtin ho hb (fun _ => rfl) ?_), r2, r3, r4⟩
      rw [args_two ea]
      simp only [Builtin.append_, h0, h1]
      simp only [List.getElem?_toArray, List.getElem?_cons_zero, List.getElem?_cons_succ]
      simp only [Sem.run_bind, run_und ht, run_und ht1, Result.andThen_ok, Builtin.lenOf, Sem.run_pure, run_size hn, Bool.false_eq_true, if_false, Bool.not_false, if_true]
      rw [← r1]
      unfold appTail
      simp only
      by_cases hle : sLen + k ≤ sCap
      · simp only [hle, if_true]
        rfl
      · have hrm := hroom.resolve_left hle
        have hnx := next_room (need := sLen + k) (old := sCap) (b := b) (by omega) hrm.1
        have hmx : ¬ (((sLen + k : Nat) : Int) > IntKind.i64.max ∧ (False ∨ b = 0)) := by
          intro hh
          have : IntKind.i64.max = 9223372036854775807 := by decide
          omega
        simp only [hle, if_false, Sem.run_bind, run_info hi, Result.andThen_ok, hib, hmx, hnx]
    · cases e
  · cases e
theorem op_appendz {c : Call} {t t1 el : TypeId} {k1 : IntKind} {n b : Nat} {z : Dat} (ho : o.op = .call c) (hb : c.callee = .builtin .append) (h0 : c.argTypes[0]? = some t) (ht : P.underlying t = some (.slice el)) (h1 : c.argTypes[1]? = some t1) (ht1 : P.underlying t1 = some (.int k1))
    (hn : sizeT P el = some n) (hby : bytesT P el = some b) (hz : zeroD P el = some z) (hzn : z.len = n)
    (e : aop (.appendz el n b z) args h = some (r, h')) (ha : VRL μ args (c.args.toList.map ρ)) (hr : Rel Λ μ h w) : OpS Λ P (execOp ρ o) μ h w r h' := by
  simp only [aop] at e
  split at e
  · rename_i s kk m
    split at e
    · rename_i hc
      obtain ⟨c1, c2, c3, c4⟩ := hc
      obtain ⟨a1, a2, ea, v1, v2⟩ := VRL.two ha
      have hv2 := VR.int v2
      subst hv2
      obtain ⟨i, zv, hi, hzv, hd⟩ := zeroD_ok hz μ
      have hzs : zv.cells.size = n := by have := hd.1; rw [Array.length_toList] at this; omega
      obtain ⟨i', hi', hib⟩ := bytesT_ok hby
      rw [hi] at hi'; cases hi'
      have hcells := rep_cells hd m.toNat (by rw [c4, hzn])
      have hsl : ∃ base sLen sCap, a1 = .slice base sLen sCap := by
        unfold appendTo at e
        split at e
        · split at e
          · simp only [VR] at v1; obtain ⟨l, _, rfl⟩ := v1; exact ⟨_, _, _, rfl⟩
          · simp only [VR] at v1; obtain ⟨l, _, _, rfl⟩ := v1; exact ⟨_, _, _, rfl⟩
          · simp only [VR] at v1; exact ⟨_, _, _, v1⟩
          · simp only [VR] at v1; obtain ⟨a, c, rfl⟩ := v1; exact ⟨_, _, _, rfl⟩
          · cases e
        · split at e
          · simp only [VR] at v1; exact ⟨_, _, _, v1⟩
          · simp only [VR] at v1; obtain ⟨l, _, rfl⟩ := v1; exact ⟨_, _, _, rfl⟩
          · simp only [VR] at v1; obtain ⟨l, _, _, rfl⟩ := v1; exact ⟨_, _, _, rfl⟩
          · cases e
      obtain ⟨base, sLen, sCap, rfl⟩ := hsl
      have happ : ∀ d', (if m.toNat * n = 0 then pure #[] else do pure (Builtin.zeroCells (← zeroValue el).cells m.toNat) : Sem (Array Value)).run P { w with drawn := d' } = .ok (((Array.range (m.toNat * zv.cells.size)).map (zv.cells[· % zv.cells.size]!)).toList).toArray { w with drawn := d' } := by
        intro d'
        by_cases hz0 : m.toNat * n = 0
        · rw [if_pos hz0, hzs, hz0]; simp
        · rw [if_neg hz0]
          simp only [Sem.run_bind, run_zero hi hzv, Result.andThen_ok, Builtin.zeroCells, Sem.run_pure]
      obtain ⟨⟨μ', w', cv, r1, r2, r3, r4⟩, hroom⟩ := append_core (P := P) hr e v1 hi hzv hzs happ hcells c4
      refine ⟨μ', w', cv, .inl (exec_builtin ho hb (fun _ => rfl) ?_), r2, r3, r4⟩
      rw [args_two ea]
      simp only [Builtin.append_, h0, h1]
      simp only [List.getElem?_toArray, List.getElem?_cons_zero, List.getElem?_cons_succ]
      have h64 : IntKind.i64.wrap m = m := i64_small c1 c3
      have hml : ¬ m < 0 := by omega
      have hbig : ¬ (m * (b : Int) > 2 ^ 48) := by omega
      simp only [Sem.run_bind, run_und ht, run_und ht1, Result.andThen_ok, asInt, asIntOf, Sem.run_pure, run_size hn, run_info hi, hib, if_true, h64, hml, hbig, if_false, Bool.not_true, Bool.false_eq_true]
      rw [← r1]
      unfold appTail
      simp only
      by_cases hle : sLen + m.toNat ≤ sCap
      · simp only [hle, if_true]
        rfl
      · have hrm := hroom.resolve_left hle
        have hnx := next_room (need := sLen + m.toNat) (old := sCap) (b := b) (by omega) hrm.1
        have hmx : ¬ (((sLen + m.toNat : Nat) : Int) > IntKind.i64.max ∧ (True ∨ b = 0)) := by
          intro hh
          have : IntKind.i64.max = 9223372036854775807 := by decide
          omega
        simp only [hle, if_false, Sem.run_bind, run_info hi, Result.andThen_ok, hib, hmx, hnx]
    · cases e
  · cases e
theorem zeroCells_eq {zs : Array Value} (n : Nat) : Builtin.zeroCells zs n = (Array.range (n * zs.size)).map (zs[· % zs.size]!) := rfl
theorem op_clear {c : Call} {t el : TypeId} {n : Nat} {z : Dat} (ho : o.op = .call c) (hb : c.callee = .builtin .clear) (h0 : c.argTypes[0]? = some t) (ht : P.underlying t = some (.slice el))
    (hz : zeroD P el = some z) (hzn : z.len = n) (e : aop (.clear n z) args h = some (r, h')) (ha : VRL μ args (c.args.toList.map ρ)) (hr : Rel Λ μ h w) : OpS Λ P (execOp ρ o) μ h w r h' := by
  have hun : ∀ μ : Mu, VR μ (.tuple []) (.tuple #[]) := fun μ => by simp only [VR, VRL]; exact ⟨[], rfl, rfl⟩
  obtain ⟨i, zv, hi, hzv, hd⟩ := zeroD_ok hz μ
  have none' : ∀ {a m k}, m = 0 ∨ a = none → c.args.toList.map ρ = [Value.slice a m k] → r = .tuple [] → h' = h → OpS Λ P (execOp ρ o) μ h w r h' := by
    intro a m k hm ea e1 e2
    subst e1 e2
    refine opS_builtin (cv := .tuple #[]) ho hb (fun _ => rfl) hr ?_ (hun μ)
    have : c.args.map ρ = #[Value.slice a m k] := by apply Array.ext'; simpa using ea
    rw [this]
    simp only [Builtin.clear_, h0]
    rcases hm with rfl | rfl
    · cases a <;> simp [run_und ht]
    · cases m <;> simp [run_und ht]
  have fin : ∀ {id e0 es0 soft t0 t1} {off len k : Nat} {l : Loc}, len ≠ 0 → h.get id = some (.row e0 es0 soft false t0) → (z.rep len).len = len * n → t0.put off (z.rep len) = some t1 → μ id = some l →
      c.args.toList.map ρ = [Value.slice (some ⟨l.block, l.off + off, none⟩) len k] → OpS Λ P (execOp ρ o) μ h w (.tuple []) (h.put id (.row e0 es0 soft false t1)) := by
    intro id e0 es0 soft t0 t1 off len k l hlen hg hrl hp hl ea
    have hcells := rep_cells hd len (by rw [hrl, hzn])
    obtain ⟨w', p, q, st⟩ := put_row (P := P) hr hg hl hp hcells
    refine ⟨μ, w', .tuple #[], .inl (exec_builtin ho hb (fun _ => rfl) ?_), hun μ, q, st⟩
    have : c.args.map ρ = #[Value.slice (some ⟨l.block, l.off + off, none⟩) len k] := by apply Array.ext'; simpa using ea
    rw [this]
    simp only [Builtin.clear_, h0]
    simp only [List.getElem?_toArray, List.getElem?_cons_zero]
    obtain ⟨len', rfl⟩ : ∃ j, len = j + 1 := ⟨len - 1, by omega⟩
    simp only [Sem.run_bind, run_und ht, Result.andThen_ok, run_zero hi hzv, zeroCells_eq, p, Sem.run_pure]
  simp only [aop] at e
  split at e
  · cases e
    obtain ⟨a, ea, v⟩ := VRL.one ha
    simp only [VR] at v; subst v
    exact none' (.inl rfl) ea rfl rfl
  · cases e
    obtain ⟨a, ea, v⟩ := VRL.one ha
    simp only [VR] at v; obtain ⟨x, k, rfl⟩ := v
    exact none' (.inl rfl) ea rfl rfl
  · rename_i id off len cap
    obtain ⟨a, ea, v⟩ := VRL.one ha
    simp only [VR] at v; obtain ⟨l, hl, rfl⟩ := v
    split at e
    · rename_i h0; cases e; exact none' (.inl h0) ea rfl rfl
    · rename_i h0
      split at e
      · rename_i e0 es0 soft t0 hg
        split at e
        · rename_i hrl
          cases hp : t0.put off (z.rep len) with
          | none => rw [hp] at e; cases e
          | some t1 => rw [hp] at e; cases e; exact fin h0 hg hrl hp hl ea
        · cases e
      · cases e
  · rename_i id idx es2 len
    obtain ⟨a, ea, v⟩ := VRL.one ha
    simp only [VR] at v; obtain ⟨l, hl, _, rfl⟩ := v
    split at e
    · rename_i h0; cases e; exact none' (.inl h0) ea rfl rfl
    · rename_i h0
      split at e
      · rename_i e0 es0 soft t0 hg
        split at e
        · rename_i hrl
          cases hp : t0.put (idx * n) (z.rep len) with
          | none => rw [hp] at e; cases e
          | some t1 =>
            rw [hp] at e; cases e
            rw [hrl.1] at ea
            exact fin h0 hg hrl.2 hp hl ea
        · cases e
      · cases e
  · cases e
theorem packStr_eq (l n : Nat) : (strOfNums ((List.range l).map fun i => (byteAt n i : Int))) = packStr l n := by
  unfold strOfNums packStr
  congr 2
  rw [List.map_map]
  rfl
theorem op_tostr {s d el : TypeId} {x : Operand} (ho : o.op = .convert s d x) (hs : P.underlying s = some (.slice el)) (hel : P.underlying el = some (.int .u8)) (hd : P.underlying d = some .string)
    (e : aop .tostr args h = some (r, h')) (ha : VRL μ args [ρ x]) (hr : Rel Λ μ h w) : OpS Λ P (execOp ρ o) μ h w r h' := by
  simp only [aop] at e
  split at e
  · rename_i y
    obtain ⟨a, ea, v⟩ := VRL.one ha
    cases ea
    have key : ∀ {n : Nat} {dd : Dat} {b : ByteArray}, sliceDat h 1 y = some dd → sliceLen y = some n → (∀ cs : List Value, DatC μ dd cs → ∃ ns : List Int, cs = ns.map (Value.int .u8) ∧ strOfNums ns = b) → r = .str b → h' = h → OpS Λ P (execOp ρ o) μ h w r h' := by
      intro n dd b h1 h2 h3 h4 h5
      subst h4; subst h5
      obtain ⟨cs, p, q⟩ := sliceDat_all (P := P) hr h1 h2 v
      obtain ⟨ns, rfl, hb⟩ := h3 cs q
      obtain ⟨a1, c1, hx⟩ := sliceLen_ok h2 v
      simp only [execOp, ho]
      refine opS_pval hr (cv := .string b) ?_ (by simp [VR])
      rw [hx, run_convert_bytes_string w s d el a1 n c1 hs hel hd]
      have p' := p w rfl
      rw [hx] at p'
      cases a1 with
      | none =>
        simp only [Builtin.firstCells, Sem.run_pure, Result.ok.injEq, and_true] at p'
        have : ns = [] := by
          have := congrArg Array.size p'
          simpa using this.symm
        subst this
        rw [← hb]
        simp [Conv.bytesToString, strOfNums]
        rfl
      | some a1 =>
        simp only [Builtin.firstCells, Nat.mul_one] at p'
        rw [run_bytesToString w a1 n c1 ns p', foldl_push_bytes, ← hb]
        simp [strOfNums, ByteArray.empty, ByteArray.emptyWithCapacity]
        rfl
    have hlen : ∀ {dd}, sliceDat h 1 y = some dd → ∃ n, sliceLen y = some n := by
      intro dd hd
      unfold sliceDat at hd
      split at hd <;> first | (cases hd; done) | exact ⟨_, rfl⟩
    split at e
    · rename_i l n hsd
      cases e
      obtain ⟨k, hk⟩ := hlen hsd
      refine key hsd hk (fun cs hcs => ⟨(List.range l).map fun i => (byteAt n i : Int), ?_, packStr_eq l n⟩) rfl rfl
      apply List.ext_getElem?
      intro i
      have hl := hcs.1
      simp only [Dat.len] at hl
      by_cases hi : i < l
      · obtain ⟨c, h1, h2, _⟩ := hcs.2 i (.int .u8 (byteAt n i)) (by simp [Dat.get, hi])
        rw [h1]
        simp only [VR] at h2
        subst h2
        simp [hi]
      · rw [List.getElem?_eq_none (by omega), List.getElem?_eq_none (by simpa using hi)]
    · rename_i hsd
      cases e
      obtain ⟨k, hk⟩ := hlen hsd
      refine key hsd hk (fun cs hcs => ⟨[], ?_, rfl⟩) rfl rfl
      have := hcs.1
      simp only [Dat.len, List.length_nil] at this
      exact List.length_eq_zero_iff.1 this
    · cases e
  · cases e
theorem op_sound (e : aop (trOp P o.op) args h = some (r, h')) (ha : VRL μ args (o.op.operands.toList.map ρ)) (hr : Rel Λ μ h w) : OpS Λ P (execOp ρ o) μ h w r h' := by
  cases ho : o.op with
  | move x => rw [ho] at e ha; exact op_mv (.inl ho) e (by simpa [Op.operands] using ha) hr
  | assign x => rw [ho] at e ha; exact op_mv (.inr ho) e (by simpa [Op.operands] using ha) hr
  | pick c x y => rw [ho] at e ha; exact op_pick ho e (by simpa [Op.operands] using ha) hr
  | alloc t =>
    rw [ho] at e ha
    simp only [trOp] at e
    split at e
    · rename_i z n hz hn; exact op_alloc ho hz e hr
    · simp [aop] at e
  | box t x =>
    rw [ho] at e ha
    simp only [trOp] at e
    split at e
    · exact op_box ho e (by simpa [Op.operands] using ha) hr
    · simp [aop] at e
  | build t ps =>
    rw [ho] at e ha
    simp only [trOp] at e
    have ha' : VRL μ args ((ps.toList.map (·.2)).map ρ) := by simpa [Op.operands] using ha
    split at e
    · rename_i z fs hz ht
      split at e
      · rename_i hc
        simp only [Bool.and_eq_true] at hc
        split at e
        · rename_i pl hpl; exact op_build ho ht hz hc.2 hc.1 hpl e ha' hr
        · simp [aop] at e
      · simp [aop] at e
    · rename_i z len el hz ht
      split at e
      · rename_i n hn
        split at e
        · rename_i hv; exact op_builda ho ht hz hv hn e ha' hr
        · simp [aop] at e
      · simp [aop] at e
    · simp [aop] at e
  | buildSlice t len ps =>
    rw [ho] at e ha
    simp only [trOp] at e
    have ha' : VRL μ args ((ps.toList.map (·.2)).map ρ) := by simpa [Op.operands] using ha
    split at e
    · rename_i el ht
      split at e
      · rename_i z n hz hn
        split at e
        · rename_i hc; exact op_bslice ho ht hz hn hc.1 hc.2.1 hc.2.2 e ha' hr
        · simp [aop] at e
      · simp [aop] at e
    · simp [aop] at e
  | load t x =>
    rw [ho] at e ha
    simp only [trOp] at e
    have ha' : VRL μ args [ρ x] := by simpa [Op.operands] using ha
    split at e
    · rename_i n hb hn; exact op_loadn ho hb hn e ha' hr
    · rename_i hb; exact op_load1 ho hb e ha' hr
    · simp [aop] at e
  | store t x y =>
    rw [ho] at e ha
    simp only [trOp] at e
    split at e
    · rename_i n hn; exact op_store ho hn e (by simpa [Op.operands] using ha) hr
    · simp [aop] at e
  | nilCheck x => rw [ho] at e ha; exact op_nilCheck ho e (by simpa [Op.operands] using ha) hr
  | binOp op t x y u =>
    rw [ho] at e ha
    have ha' : VRL μ args [ρ x, ρ y] := by simpa [Op.operands] using ha
    cases op <;> simp only [trOp] at e
    case eql =>
      split at e
      · exact op_bin ho e ha' hr
      · split at e
        · rename_i k hk; exact op_eqv (neg := false) (by simpa using ho) hk e ha' hr
        · simp [aop] at e
    case neq =>
      split at e
      · exact op_bin ho e ha' hr
      · split at e
        · rename_i k hk; exact op_eqv (neg := true) (by simpa using ho) hk e ha' hr
        · simp [aop] at e
    all_goals exact op_bin ho e ha' hr
  | unOp u t x => rw [ho] at e ha; exact op_un ho e (by simpa [Op.operands] using ha) hr
  | convert s d x =>
    rw [ho] at e ha
    simp only [trOp] at e
    split at e
    · rename_i ds k hs hd; exact op_conv ho hs hd e (by simpa [Op.operands] using ha) hr
    · rename_i el hs hd
      split at e
      · rename_i he; exact op_tostr ho hs he hd e (by simpa [Op.operands] using ha) hr
      · simp [aop] at e
    · simp [aop] at e
  | sliceToArrayPointer t x =>
    rw [ho] at e ha
    simp only [trOp] at e
    split at e
    · rename_i n el ht; exact op_sl2arr ho ht e (by simpa [Op.operands] using ha) hr
    · simp [aop] at e
  | makeFunc fn first captured =>
    rw [ho] at e ha
    cases fn with
    | func f => simp only [trOp] at e; exact op_mkfunc ho e (by simpa [Op.operands] using ha) hr
    | _ => simp [trOp, aop] at e
  | makeMap t rs =>
    rw [ho] at e ha
    cases rs with
    | none => simp only [trOp] at e; exact op_mkmap ho e hr
    | some _ => simp [trOp, aop] at e
  | makeSlice t a b =>
    rw [ho] at e ha
    simp only [trOp] at e
    split at e
    · rename_i el ht
      split at e
      · rename_i z n by' hz hn hby; exact op_mkslice ho ht hz hn hby e (by simpa [Op.operands] using ha) hr
      · simp [aop] at e
    · simp [aop] at e
  | slice t x lo hi mx =>
    rw [ho] at e ha
    simp only [trOp] at e
    have ha' : VRL μ args (ρ x :: optVals (lo.map ρ) (hi.map ρ) (mx.map ρ)) := by
      rw [← optOps]
      simpa [Op.operands] using ha
    split at e
    · rename_i el ht
      split at e
      · rename_i n hn; exact op_slice ho ht hn e ha' hr
      · simp [aop] at e
    · rename_i k el ht
      split at e
      · rename_i n hn; exact op_slicea ho ht hn e ha' hr
      · simp [aop] at e
    · simp [aop] at e
  | fieldAddr s x f =>
    rw [ho] at e ha
    simp only [trOp] at e
    split at e
    · rename_i fs ht
      split at e
      · rename_i fd hf
        split at e
        · rename_i n hn
          split at e
          · simp [aop] at e
          · rename_i h0; exact op_fieldAddr ho ht hf hn h0 e (by simpa [Op.operands] using ha) hr
        · simp [aop] at e
      · simp [aop] at e
    · simp [aop] at e
  | field t x f =>
    rw [ho] at e ha
    simp only [trOp] at e
    split at e
    · rename_i fs ht
      split at e
      · rename_i fd hf
        split at e
        · rename_i n b hn hb; exact op_field ho ht hf hn hb e (by simpa [Op.operands] using ha) hr
        · simp [aop] at e
      · simp [aop] at e
    · simp [aop] at e
  | indexAddr t x i =>
    rw [ho] at e ha
    simp only [trOp] at e
    split at e
    · rename_i n el ht
      split at e
      · rename_i k hk; exact op_indexa ho ht hk e (by simpa [Op.operands] using ha) hr
      · simp [aop] at e
    · rename_i el ht
      split at e
      · rename_i k hk; exact op_indexs ho ht hk e (by simpa [Op.operands] using ha) hr
      · simp [aop] at e
    · simp [aop] at e
  | index t x i =>
    rw [ho] at e ha
    simp only [trOp] at e
    split at e
    · rename_i n el ht
      split at e
      · rename_i k b hk hb; exact op_indexv ho ht hk hb e (by simpa [Op.operands] using ha) hr
      · simp [aop] at e
    · rename_i ht; exact op_indexstr ho ht e (by simpa [Op.operands] using ha) hr
    · simp [aop] at e
  | lookup t x i ok =>
    rw [ho] at e ha
    simp only [trOp] at e
    split at e
    · rename_i k el ht
      split at e
      · rename_i q z hk hz; exact op_lookup ho ht hk hz e (by simpa [Op.operands] using ha) hr
      · simp [aop] at e
    · simp [aop] at e
  | mapUpdate t m i x =>
    rw [ho] at e ha
    simp only [trOp] at e
    split at e
    · rename_i k el ht
      split at e
      · rename_i q hk; exact op_mapput ho ht hk e (by simpa [Op.operands] using ha) hr
      · simp [aop] at e
    · simp [aop] at e
  | extract x i => rw [ho] at e ha; exact op_extract ho e (by simpa [Op.operands] using ha) hr
  | call c =>
    rw [ho] at e ha
    cases hc : c.callee with
    | value f => simp [trOp, hc, aop] at e
    | invoke _ _ => simp [trOp, hc, aop] at e
    | builtin b =>
      have ha' : VRL μ args (c.args.toList.map ρ) := by simpa [Op.operands, Call.operands, hc] using ha
      have argT : ∀ {i : Nat} {d : TypeDesc}, (c.argTypes[i]?).bind P.underlying = some d → ∃ t, c.argTypes[i]? = some t ∧ P.underlying t = some d := by
        intro i d hd
        cases hi : c.argTypes[i]? with
        | none => rw [hi] at hd; cases hd
        | some t => rw [hi] at hd; exact ⟨t, rfl, hd⟩
      simp only [trOp, hc] at e
      split at e
      · rename_i el hd; obtain ⟨t, h1, h2⟩ := argT hd; exact op_lens ho hc h1 h2 e ha' hr
      · rename_i k el hd; obtain ⟨t, h1, h2⟩ := argT hd; exact op_lenm ho hc h1 h2 e ha' hr
      · rename_i n el hd; obtain ⟨t, h1, h2⟩ := argT hd; exact op_lenc ho hc h1 h2 e ha' hr
      · rename_i el hd; obtain ⟨t, h1, h2⟩ := argT hd; exact op_cap ho hc h1 h2 e ha' hr
      · rename_i el hd
        obtain ⟨t, h1, h2⟩ := argT hd
        split at e
        · rename_i n b z k hn hby hz hd1
          obtain ⟨t1, h3, h4⟩ := argT hd1
          split at e
          · rename_i hh; exact op_appendz ho hc h1 h2 h3 h4 hn hby hz hh.1 e ha' hr
          · simp [aop] at e
        · rename_i n b z k hn hby hz hd1
          obtain ⟨t1, h3, h4⟩ := argT hd1
          split at e
          · rename_i hh; exact op_append ho hc h1 h2 h3 h4 hn hby hz hh.1 e ha' hr
          · simp [aop] at e
        · simp [aop] at e
      · rename_i el hd
        obtain ⟨t, h1, h2⟩ := argT hd
        split at e
        · rename_i n hn; exact op_copy ho hc h1 h2 hn e ha' hr
        · simp [aop] at e
      · rename_i k el hd
        obtain ⟨t, h1, h2⟩ := argT hd
        split at e
        · rename_i q hk; exact op_delete ho hc h1 h2 hk e ha' hr
        · simp [aop] at e
      · rename_i el hd
        obtain ⟨t, h1, h2⟩ := argT hd
        split at e
        · rename_i n z hn hz
          split at e
          · rename_i hh; exact op_clear ho hc h1 h2 hz hh.1 e ha' hr
          · simp [aop] at e
        · simp [aop] at e
      · exact op_min ho hc e ha' hr
      · exact op_max ho hc e ha' hr
      · simp [aop] at e
  | defer c =>
    rw [ho] at e
    cases hc : c.callee <;> simp [trOp, hc, aop] at e
  | range t x =>
    rw [ho] at e ha
    simp only [trOp] at e
    split at e
    · rename_i k el ht; exact op_range ho ht e (by simpa [Op.operands] using ha) hr
    · simp [aop] at e
  | entry x => rw [ho] at e ha; exact op_entry ho e (by simpa [Op.operands] using ha) hr
  | next x b => rw [ho] at e; cases b <;> simp [trOp, aop] at e
  | _ => rw [ho] at e; simp [trOp, aop] at e
end
end Go.Proofs.YtlkfclgkinaibaaGreat
