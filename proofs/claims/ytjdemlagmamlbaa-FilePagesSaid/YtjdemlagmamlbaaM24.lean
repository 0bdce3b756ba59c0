/- The walk over the abstract machine's code, its slots as a list of those that are known. -/
import Derived.Test.YtjdemlagmamlbaaM23
namespace Go.Proofs.Ytjdemlagmamlbaa

/- short words for the printed code -/
abbrev T (t : Nat) : Opd := .tmp t
abbrev N (n : Int) : Opd := .lit (.int .i64 n)
abbrev F (f : Nat) : Opd := .lit (.func f [] [])
abbrev I (d : Nat) (o : AOp) (l : List Opd) : AIn := ⟨some d, o, l, none⟩
abbrev J (o : AOp) (l : List Opd) : AIn := ⟨none, o, l, none⟩
abbrev IG (d : Nat) (o : AOp) (l : List Opd) (s : Nat) (b : Bool) : AIn := ⟨some d, o, l, some (s, b)⟩
abbrev JG (o : AOp) (l : List Opd) (s : Nat) (b : Bool) : AIn := ⟨none, o, l, some (s, b)⟩

abbrev Env := List (Nat × AV)

def look : Env → Nat → Option AV
  | [], _ => none
  | (k, v) :: s, n => match Nat.beq k n with
    | true => some v
    | false => look s n

/-- the slots are as is known -/
def Cov (s : Env) (e : List AV) : Prop := ∀ t v, look s t = some v → e[t]? = some v ∧ v.notJunk = some v

def evalS (s : Env) : Opd → Option AV
  | .tmp t => look s t
  | .lit v => some v

def evalLS (s : Env) : List Opd → Option (List AV)
  | [] => some []
  | x :: xs => match evalS s x, evalLS s xs with
    | some v, some vs => some (v :: vs)
    | _, _ => none

def wantS (s : Env) (g : Option (Nat × Bool)) : Option Bool :=
  match g with
  | none => some true
  | some (slot, want) => match look s slot with
    | some (.bool b) => some (b == want)
    | some (.tuple _) => some false
    | _ => none

theorem look_cons {k n : Nat} {v : AV} {s : Env} : look ((k, v) :: s) n = if k = n then some v else look s n := by
  simp only [look]
  cases h : Nat.beq k n with
  | true => rw [if_pos (Nat.eq_of_beq_eq_true h)]
  | false => rw [if_neg (Nat.ne_of_beq_eq_false h)]

theorem Cov.eval {s : Env} {e : List AV} (h : Cov s e) {o : Opd} {v : AV} (hv : evalS s o = some v) : o.eval e = some v := by
  cases o with
  | tmp t => obtain ⟨h1, h2⟩ := h t v hv; simp only [Opd.eval, h1, Option.bind_some, h2]
  | lit x => exact hv

theorem Cov.evalL {s : Env} {e : List AV} (h : Cov s e) : ∀ {os : List Opd} {vs : List AV}, evalLS s os = some vs → evalL e os = some vs
  | [], vs, hv => hv
  | o :: os, vs, hv => by
    simp only [evalLS] at hv
    split at hv
    · rename_i v vs' h1 h2
      cases hv
      simp only [Go.Proofs.Ytjdemlagmamlbaa.evalL, h.eval h1, Cov.evalL h h2]
    · cases hv

theorem Cov.want {s : Env} {e : List AV} (h : Cov s e) {g : Option (Nat × Bool)} {b : Bool} (hv : wantS s g = some b) : wantedA e g = some b := by
  unfold wantS at hv
  unfold wantedA
  split at hv
  · exact hv
  · split at hv
    · rename_i b' hl; simp only [(h _ _ hl).1]; exact hv
    · rename_i hl; simp only [(h _ _ hl).1]; exact hv
    · cases hv

theorem Cov.set {s : Env} {e : List AV} (h : Cov s e) {d : Nat} {v : AV} (hd : d < e.length) (hj : v.notJunk = some v) : Cov ((d, v) :: s) (e.set d v) := by
  intro t x hx
  rw [look_cons] at hx
  rw [List.getElem?_set]
  split at hx
  · rename_i e1; subst e1; cases hx
    rw [if_pos rfl, if_pos hd]
    exact ⟨rfl, hj⟩
  · rename_i e1
    rw [if_neg e1]
    exact h t x hx

/-- known slots that are among others -/
def Sub : Env → Env → Prop
  | [], _ => True
  | (t, v) :: s', s => look s t = some v ∧ Sub s' s

theorem Sub.look : ∀ {s' s : Env}, Sub s' s → ∀ t v, look s' t = some v → look s t = some v
  | [], _, _, t, v, h => by cases h
  | (k, x) :: s', s, hs, t, v, h => by
    rw [look_cons] at h
    split at h
    · rename_i e; subst e; cases h; exact hs.1
    · exact Sub.look hs.2 t v h

theorem Cov.sub {s s' : Env} {e : List AV} (h : Cov s e) (hs : Sub s' s) : Cov s' e := fun t v hl => h t v (hs.look t v hl)

theorem blt_of {a b : Nat} (h : Nat.blt a b = true) : a < b := by rwa [Nat.blt_eq] at h

/-- an operation that is no call -/
def isCall : AOp → Bool
  | .callv => true
  | .next => true
  | _ => false

/-- an operation's answer -/
structure Does (op : AOp) (vs : List AV) (h : AHeap) (v : AV) (h1 : AHeap) : Prop where
  nc : isCall op = false
  run : aop op vs h = some (v, h1)

theorem Does.do {C : SemW} {op : AOp} {vs : List AV} {h h1 : AHeap} {v : AV} (d : Does op vs h v h1) {Q : AV → AHeap → Prop} (q : Q v h1) : doOpW C op vs h Q := by
  obtain ⟨n, r⟩ := d
  unfold doOpW
  split
  · cases n
  · cases n
  · rw [r]; exact q

section
variable {C : SemW} {ro : Option Nat} {N : Nat}

/-- instructions, walked -/
structure WI (C : SemW) (is : List AIn) (N : Nat) (s : Env) (h : AHeap) (Q : Env → AHeap → Prop) : Prop where
  run : ∀ e, e.length = N → Cov s e → runInsW C is e h fun e' h' => ∃ s', e'.length = N ∧ Cov s' e' ∧ Q s' h'

structure WD (C : SemW) (ds : List DI) (N : Nat) (s : Env) (h : AHeap) (Q : Env → AHeap → Prop) : Prop where
  run : ∀ e, e.length = N → Cov s e → runDrawW C ds e h fun e' h' => ∃ s', e'.length = N ∧ Cov s' e' ∧ Q s' h'

/-- code, walked -/
structure WC (C : SemW) (ro : Option Nat) (c : ACode) (N : Nat) (s : Env) (h : AHeap) (Q : AExit → Env → AHeap → Prop) : Prop where
  run : ∀ e, e.length = N → Cov s e → execW C ro c e h fun x e' h' => ∃ s', e'.length = N ∧ Cov s' e' ∧ Q x s' h'

theorem wi_nil {s : Env} {h : AHeap} {Q : Env → AHeap → Prop} (k : Q s h) : WI C [] N s h Q := .mk fun _ hl hc => ⟨s, hl, hc, k⟩
theorem wd_nil {s : Env} {h : AHeap} {Q : Env → AHeap → Prop} (k : Q s h) : WD C [] N s h Q := .mk fun _ hl hc => ⟨s, hl, hc, k⟩

theorem runIn_eff {d : Option Nat} {op : AOp} {os : List Opd} {g : Option (Nat × Bool)} {s : Env} {e : List AV} {h : AHeap} {vs : List AV} {K : List AV → AHeap → Prop} (hc : Cov s e) (hw : wantS s g = some true) (ha : evalLS s os = some vs) (ho : doOpW C op vs h fun v h' => K (setDst e d v) h') :
    runInW C ⟨d, op, os, g⟩ e h K := by
  simp only [runInW, hc.want hw, hc.evalL ha]
  exact ho

theorem runIn_skip {d : Option Nat} {op : AOp} {os : List Opd} {g : Option (Nat × Bool)} {s : Env} {e : List AV} {h : AHeap} {K : List AV → AHeap → Prop} (hc : Cov s e) (hw : wantS s g = some false) (k : K (setDst e d (.tuple [])) h) :
    runInW C ⟨d, op, os, g⟩ e h K := by
  simp only [runInW, hc.want hw]
  exact k

/-- what is looked at again tells the same -/
def Again (s : Env) (h : AHeap) : List (Nat × AIn) → Prop
  | [] => True
  | (_, ⟨d, op, os, g⟩) :: rs => (wantS s g = some false ∨ (wantS s g = some true ∧ ∃ vs v h', evalLS s os = some vs ∧ aop op vs h = some (v, h') ∧ (∀ t, d = some t → look s t = some v) ∧ AV.same v v = true)) ∧ Again s h rs

theorem again_ok {s : Env} {e : List AV} {h : AHeap} (hc : Cov s e) : ∀ {rs : List (Nat × AIn)}, Again s h rs → rs.all (fun r => again r.2 e h) = true
  | [], _ => rfl
  | (j, ⟨d, op, os, g⟩) :: rs, hr => by
    obtain ⟨h1, h2⟩ := hr
    rw [List.all_cons, again_ok hc h2, Bool.and_true]
    rcases h1 with h1 | ⟨h1, vs, v, h', h3, h4, h5, h6⟩
    · simp only [again, hc.want h1]
    · simp only [again, hc.want h1, hc.evalL h3, h4]
      cases d with
      | none => rfl
      | some t => simp only [(hc t v (h5 t rfl)).1, h6]

section ops
variable {d j : Nat} {op : AOp} {os : List Opd} {g : Option (Nat × Bool)} {rs : List (Nat × AIn)} {fin : Bool} {is : List AIn} {ds : List DI} {s : Env} {h h1 : AHeap} {vs : List AV} {v : AV} {Q : Env → AHeap → Prop}

theorem wi_op (hw : wantS s g = some true) (ha : evalLS s os = some vs) (ho : Does op vs h v h1)
    (hj : v.notJunk = some v) (hd : Nat.blt d N = true) (k : WI C is N ((d, v) :: s) h1 Q) : WI C (⟨some d, op, os, g⟩ :: is) N s h Q := .mk fun e hl hc =>
  runIn_eff hc hw ha (ho.do (k.run _ (by simpa [setDst] using hl) (hc.set (by rw [hl]; exact blt_of hd) hj)))

theorem wi_op0 (hw : wantS s g = some true) (ha : evalLS s os = some vs) (ho : Does op vs h v h1)
    (k : WI C is N s h1 Q) : WI C (⟨none, op, os, g⟩ :: is) N s h Q := .mk fun _ hl hc =>
  runIn_eff hc hw ha (ho.do (k.run _ hl hc))

theorem wi_skip (hw : wantS s g = some false) (hd : Nat.blt d N = true) (k : WI C is N ((d, .tuple []) :: s) h Q) : WI C (⟨some d, op, os, g⟩ :: is) N s h Q := .mk fun e hl hc =>
  runIn_skip hc hw (k.run _ (by simpa [setDst] using hl) (hc.set (by rw [hl]; exact blt_of hd) rfl))

theorem wi_skip0 (hw : wantS s g = some false) (k : WI C is N s h Q) : WI C (⟨none, op, os, g⟩ :: is) N s h Q := .mk fun _ hl hc =>
  runIn_skip hc hw (k.run _ hl hc)

theorem wd_op (hw : wantS s g = some true) (ha : evalLS s os = some vs)
    (ho : Does op vs h v h1) (hj : v.notJunk = some v) (hd : Nat.blt d N = true) (hr : Again ((d, v) :: s) h1 rs) (k : WD C ds N ((d, v) :: s) h1 Q) : WD C (⟨j, ⟨some d, op, os, g⟩, rs, fin⟩ :: ds) N s h Q := .mk fun e hl hc => by
  have hc' := hc.set (v := v) (d := d) (by rw [hl]; exact blt_of hd) hj
  exact runIn_eff hc hw ha (ho.do ⟨again_ok hc' hr, k.run _ (by simpa [setDst] using hl) hc'⟩)

theorem wd_op0 (hw : wantS s g = some true) (ha : evalLS s os = some vs)
    (ho : Does op vs h v h1) (hr : Again s h1 rs) (k : WD C ds N s h1 Q) : WD C (⟨j, ⟨none, op, os, g⟩, rs, fin⟩ :: ds) N s h Q := .mk fun _ hl hc =>
  runIn_eff hc hw ha (ho.do ⟨again_ok hc hr, k.run _ hl hc⟩)

theorem wd_skip (hw : wantS s g = some false)
    (hd : Nat.blt d N = true) (hr : Again ((d, .tuple []) :: s) h rs) (k : WD C ds N ((d, .tuple []) :: s) h Q) : WD C (⟨j, ⟨some d, op, os, g⟩, rs, fin⟩ :: ds) N s h Q := .mk fun e hl hc => by
  have hc' := hc.set (v := .tuple []) (d := d) (by rw [hl]; exact blt_of hd) rfl
  exact runIn_skip hc hw ⟨again_ok hc' hr, k.run _ (by simpa [setDst] using hl) hc'⟩

theorem wd_skip0 (hw : wantS s g = some false)
    (hr : Again s h rs) (k : WD C ds N s h Q) : WD C (⟨j, ⟨none, op, os, g⟩, rs, fin⟩ :: ds) N s h Q := .mk fun _ hl hc =>
  runIn_skip hc hw ⟨again_ok hc hr, k.run _ hl hc⟩

end ops

/-- how an instruction goes on: with an answer, in a heap -/
structure Eff (C : SemW) (op : AOp) (vs : List AV) (h : AHeap) (K : AV → AHeap → Prop) : Prop where
  run : doOpW C op vs h K

section effs
variable {d j : Nat} {op : AOp} {os : List Opd} {g : Option (Nat × Bool)} {rs : List (Nat × AIn)} {fin : Bool} {is : List AIn} {ds : List DI} {s : Env} {h : AHeap} {vs : List AV} {Q : Env → AHeap → Prop} {K : AV → AHeap → Prop}

theorem wi_eff (hM : MonoW C) (hw : wantS s g = some true) (ha : evalLS s os = some vs) (ho : Eff C op vs h K) (hd : Nat.blt d N = true)
    (k : ∀ v h1, K v h1 → v.notJunk = some v ∧ WI C is N ((d, v) :: s) h1 Q) : WI C (⟨some d, op, os, g⟩ :: is) N s h Q := .mk fun e hl hc =>
  runIn_eff hc hw ha (doOpW_mono (fun _ _ _ _ x => x) hM (fun v h1 q => (k v h1 q).2.run _ (by simpa [setDst] using hl) (hc.set (by rw [hl]; exact blt_of hd) (k v h1 q).1)) ho.run)

theorem wi_eff0 (hM : MonoW C) (hw : wantS s g = some true) (ha : evalLS s os = some vs) (ho : Eff C op vs h K)
    (k : ∀ v h1, K v h1 → WI C is N s h1 Q) : WI C (⟨none, op, os, g⟩ :: is) N s h Q := .mk fun _ hl hc =>
  runIn_eff hc hw ha (doOpW_mono (fun _ _ _ _ x => x) hM (fun v h1 q => (k v h1 q).run _ hl hc) ho.run)

theorem wd_eff (hM : MonoW C) (hw : wantS s g = some true) (ha : evalLS s os = some vs) (ho : Eff C op vs h K) (hd : Nat.blt d N = true)
    (k : ∀ v h1, K v h1 → v.notJunk = some v ∧ Again ((d, v) :: s) h1 rs ∧ WD C ds N ((d, v) :: s) h1 Q) : WD C (⟨j, ⟨some d, op, os, g⟩, rs, fin⟩ :: ds) N s h Q := .mk fun e hl hc =>
  runIn_eff hc hw ha (doOpW_mono (fun _ _ _ _ x => x) hM (fun v h1 q => by
    obtain ⟨k1, k2, k3⟩ := k v h1 q
    have hc' := hc.set (v := v) (d := d) (by rw [hl]; exact blt_of hd) k1
    exact ⟨again_ok hc' k2, k3.run _ (by simpa [setDst] using hl) hc'⟩) ho.run)

theorem wd_eff0 (hM : MonoW C) (hw : wantS s g = some true) (ha : evalLS s os = some vs) (ho : Eff C op vs h K)
    (k : ∀ v h1, K v h1 → Again s h1 rs ∧ WD C ds N s h1 Q) : WD C (⟨j, ⟨none, op, os, g⟩, rs, fin⟩ :: ds) N s h Q := .mk fun _ hl hc =>
  runIn_eff hc hw ha (doOpW_mono (fun _ _ _ _ x => x) hM (fun v h1 q => ⟨again_ok hc (k v h1 q).1, (k v h1 q).2.run _ hl hc⟩) ho.run)

end effs

/-- a call, by what is known of the function -/
theorem e_call {f : Nat} {first captured rest args : List AV} {Ps L R : List Chunk} {post : AV → List Chunk → Prop} {h : AHeap} (hM : MonoW C) (hs : Spec C (.f f) args Ps post) (ha : first ++ rest ++ captured = args) (st : St h L) (hp : Pick L Ps R) :
    Eff C .callv (.func f first captured :: rest) h fun v h' => ∃ Rs, post v Rs ∧ St h' (Rs ++ R) := .mk (by
  subst ha
  exact hM _ _ _ _ _ (fun _ _ x => x) (hs h R (st.pick hp)))

/-- a round of a loop, by what is known of it -/
theorem e_yield {l : Nat} {rest : List AV} {K : AV → AHeap → Prop} {h : AHeap} (hy : C (.y l) rest h K) : Eff C .callv (.yield l :: rest) h K := .mk hy

section heap
variable {h : AHeap} {L R : List Chunk}

theorem d_load1 {id off e es : Nat} {soft ro : Bool} {d : Dat} {v : AV} (hg : h.get id = some (.row e es soft ro d)) (hd : d.get off = some v) : Does .load1 [.ptr id off] h v h :=
  ⟨rfl, by simp only [aop, hg, hd, Option.map_some]⟩
theorem d_loadn {id off e es n : Nat} {soft ro : Bool} {d : Dat} {v : AV} (hg : h.get id = some (.row e es soft ro d)) (hd : d.sub off n = some v) : Does (.loadn n) [.ptr id off] h v h :=
  ⟨rfl, by simp only [aop, hg, hd, Option.map_some]⟩
theorem e_store {id off e es n : Nat} {soft : Bool} {d d' : Dat} {v : AV} (st : St h L) (t : Take L (.pt id (.row e es soft false d)) R) (hn : v.dat.len = n) (h0 : Nat.blt 0 n = true) (hd : d.put off v.dat = some d') :
    Eff C (.store n) [.ptr id off, v] h fun x h' => x = .tuple [] ∧ St h' (.pt id (.row e es soft false d') :: R) := .mk (by
  have hlt := blt_of h0
  refine Does.do (v := .tuple []) (h1 := h.put id (.row e es soft false d')) ⟨rfl, ?_⟩ ⟨rfl, (st.take t).put _⟩
  simp only [aop, st.get' t]
  rw [if_pos ⟨hn, hlt⟩, hd]
  rfl)
theorem e_alloc {e es : Nat} {z : Dat} (st : St h L) (hz : z.len = es) (h0 : Nat.blt 0 es = true) :
    Eff C (.alloc e es z) [] h fun x h' => ∃ id, x = .ptr id 0 ∧ St h' (.pt id (.row e es false false z) :: L) := .mk (by
  refine Does.do (v := .ptr h.next 0) (h1 := h.new (.row e es false false z)) ⟨rfl, ?_⟩ ⟨h.next, rfl, st.new _⟩
  simp only [aop, newRow']
  rw [if_pos hz, if_pos (blt_of h0)]
  rfl)
theorem e_box {e es : Nat} {v : AV} (st : St h L) (hz : v.dat.len = es) (h0 : Nat.blt 0 es = true) :
    Eff C (.box e es) [v] h fun x h' => ∃ id, x = .ptr id 0 ∧ St h' (.pt id (.row e es false false v.dat) :: L) := .mk (by
  refine Does.do (v := .ptr h.next 0) (h1 := h.new (.row e es false false v.dat)) ⟨rfl, ?_⟩ ⟨h.next, rfl, st.new _⟩
  have hlt := blt_of h0
  simp only [aop, newRow']
  rw [if_pos ⟨hz, hlt⟩, if_pos hlt]
  rfl)
theorem e_mkmap (st : St h L) : Eff C .mkmap [] h fun x h' => ∃ id, x = .map id ∧ St h' (.pt id (.map [] 0) :: L) := .mk
  (Does.do (v := .map h.next) (h1 := h.new (.map [] 0)) ⟨rfl, rfl⟩ ⟨h.next, rfl, st.new _⟩)
theorem e_mkslice {e es b : Nat} {z d : Dat} {l c : Int} (st : St h L) (h1 : 0 ≤ l) (h2 : l ≤ c) (h3 : c * b ≤ 2 ^ 40) (h4 : c ≤ 2 ^ 40) (hz : z.len = es) (hd : z.rep c.toNat = d) (hl : d.len = c.toNat * es) (h0 : Nat.blt 0 es = true) {k k' : IntKind} :
    Eff C (.mkslice e es b z) [.int k l, .int k' c] h fun x h' => ∃ id, x = .sl id 0 l.toNat c.toNat ∧ St h' (.pt id (.row e es false false d) :: L) := .mk (by
  subst hd
  refine Does.do (v := .sl h.next 0 l.toNat c.toNat) (h1 := h.new (.row e es false false (z.rep c.toNat))) ⟨rfl, ?_⟩ ⟨h.next, rfl, st.new _⟩
  simp only [aop, newRow']
  rw [if_pos ⟨h1, h2, h3, h4, hz, hl⟩, if_pos (blt_of h0)]
  rfl)
theorem e_bslice {e es len : Nat} {z d : Dat} {parts : List Nat} {args : List AV} (st : St h L) (hf : fills (parts.map fun i => (i * es, es)) args (z.rep len) = some d) (hl : d.len = len * es) (h0 : Nat.blt 0 es = true) :
    Eff C (.bslice e es len z parts) args h fun x h' => ∃ id, x = .sl id 0 len len ∧ St h' (.pt id (.row e es false false d) :: L) := .mk (by
  refine Does.do (v := .sl h.next 0 len len) (h1 := h.new (.row e es false false d)) ⟨rfl, ?_⟩ ⟨h.next, rfl, st.new _⟩
  simp only [aop, newRow', hf, Option.bind_some]
  rw [if_pos hl, if_pos (blt_of h0)]
  rfl)

end heap

/- guards and branches -/
theorem want_tt {s : Env} {t : Nat} {q : Bool} (h : look s t = some (.bool q)) (hq : q = true) : wantS s (some (t, true)) = some true := by subst hq; simp only [wantS, h]; rfl
theorem want_tf {s : Env} {t : Nat} {q : Bool} (h : look s t = some (.bool q)) (hq : q = false) : wantS s (some (t, true)) = some false := by subst hq; simp only [wantS, h]; rfl
theorem want_ft {s : Env} {t : Nat} {q : Bool} (h : look s t = some (.bool q)) (hq : q = true) : wantS s (some (t, false)) = some false := by subst hq; simp only [wantS, h]; rfl
theorem want_ff {s : Env} {t : Nat} {q : Bool} (h : look s t = some (.bool q)) (hq : q = false) : wantS s (some (t, false)) = some true := by subst hq; simp only [wantS, h]; rfl
theorem d_t {p : Prop} [Decidable p] (h : p) : decide p = true := decide_eq_true h
theorem d_f {p : Prop} [Decidable p] (h : ¬ p) : decide p = false := decide_eq_false h
theorem nd_t {p : Prop} [Decidable p] (h : ¬ p) : (!decide p) = true := by rw [decide_eq_false h]; rfl
theorem nd_f {p : Prop} [Decidable p] (h : p) : (!decide p) = false := by rw [decide_eq_true h]; rfl
theorem q_t {a b : Int} (h : a = b) : (a == b) = true := by simp [h]
theorem q_f {a b : Int} (h : a ≠ b) : (a == b) = false := by simp [h]
theorem nq_t {a b : Int} (h : a ≠ b) : (a != b) = true := by simp [h]
theorem nq_f {a b : Int} (h : a = b) : (a != b) = false := by simp [h]

section codes
variable {s : Env} {h : AHeap} {Q : AExit → Env → AHeap → Prop}

def seqQ (K : Env → AHeap → Prop) (Q : AExit → Env → AHeap → Prop) : AExit → Env → AHeap → Prop
  | .normal => K
  | .exit i => Q (.exit i)
  | .ret => Q .ret

def blockQ (id : Nat) (Q : AExit → Env → AHeap → Prop) : AExit → Env → AHeap → Prop
  | .normal => Q .normal
  | .exit i => match Nat.beq i id with
    | true => Q .normal
    | false => Q (.exit i)
  | .ret => Q .ret

theorem wc_skip (k : Q .normal s h) : WC C ro .skip N s h Q := .mk fun _ hl hc => ⟨s, hl, hc, k⟩
theorem wc_ret (k : Q .ret s h) : WC C ro .ret N s h Q := .mk fun _ hl hc => ⟨s, hl, hc, k⟩
theorem wc_exit {id : Nat} (k : Q (.exit id) s h) : WC C ro (.exit id) N s h Q := .mk fun _ hl hc => ⟨s, hl, hc, k⟩
theorem wc_region {ops : List AIn} (k : WI C ops N s h (Q .normal)) : WC C ro (.region ops) N s h Q := .mk fun e hl hc => k.run e hl hc
theorem wc_draw {alts : List (List DI)} (k : ∀ ds, ds ∈ alts → WD C ds N s h (Q .normal)) : WC C ro (.draw alts) N s h Q := .mk fun e hl hc ds hd => (k ds hd).run e hl hc
theorem wc_draw1 {ds : List DI} (k : WD C ds N s h (Q .normal)) : WC C ro (.draw [ds]) N s h Q := wc_draw fun _ hd => by rw [List.mem_singleton.1 hd]; exact k
theorem wc_draw2 {ds ds' : List DI} (k : WD C ds N s h (Q .normal)) (k' : WD C ds' N s h (Q .normal)) : WC C ro (.draw [ds, ds']) N s h Q := wc_draw fun _ hd => by
  rcases List.mem_cons.1 hd with rfl | hd
  · exact k
  · rw [List.mem_singleton.1 hd]; exact k'
theorem wc_then {o : Opd} {a b : ACode} {q : Bool} (ho : evalS s o = some (.bool q)) (hq : q = true) (k : WC C ro a N s h Q) : WC C ro (.cond o a b) N s h Q := .mk fun e hl hc => by
  subst hq; simp only [execW, hc.eval ho]; exact k.run e hl hc
theorem wc_else {o : Opd} {a b : ACode} {q : Bool} (ho : evalS s o = some (.bool q)) (hq : q = false) (k : WC C ro b N s h Q) : WC C ro (.cond o a b) N s h Q := .mk fun e hl hc => by
  subst hq; simp only [execW, hc.eval ho]; exact k.run e hl hc
theorem wc_cond {o : Opd} {a b : ACode} {q : Bool} (ho : evalS s o = some (.bool q)) (k : q = true → WC C ro a N s h Q) (k' : q = false → WC C ro b N s h Q) : WC C ro (.cond o a b) N s h Q := by
  cases q with
  | true => exact wc_then ho rfl (k rfl)
  | false => exact wc_else ho rfl (k' rfl)

variable (hM : MonoW C)
include hM

theorem wc_seq {a b : ACode} (k : WC C ro a N s h (seqQ (fun s' h' => WC C ro b N s' h' Q) Q)) : WC C ro (.seq a b) N s h Q := .mk fun e hl hc => by
  simp only [execW]
  refine execW_mono (fun _ _ _ _ x => x) hM (fun x e' h' q => ?_) (k.run e hl hc)
  obtain ⟨s', p1, p2, p3⟩ := q
  cases x with
  | normal => exact p3.run e' p1 p2
  | exit i => exact ⟨s', p1, p2, p3⟩
  | ret => exact ⟨s', p1, p2, p3⟩

theorem wc_block {id : Nat} {b : ACode} (k : WC C ro b N s h (blockQ id Q)) : WC C ro (.block id b) N s h Q := .mk fun e hl hc => by
  simp only [execW]
  refine execW_mono (fun _ _ _ _ x => x) hM (fun x e' h' q => ?_) (k.run e hl hc)
  obtain ⟨s', p1, p2, p3⟩ := q
  cases x with
  | normal => exact ⟨s', p1, p2, p3⟩
  | exit i =>
    simp only [blockQ] at p3
    cases hb : Nat.beq i id with
    | true =>
      rw [hb] at p3
      simp only [Nat.eq_of_beq_eq_true hb, if_true]
      exact ⟨s', p1, p2, p3⟩
    | false =>
      rw [hb] at p3
      simp only [Nat.ne_of_beq_eq_false hb, if_false]
      exact ⟨s', p1, p2, p3⟩
  | ret => exact ⟨s', p1, p2, p3⟩

theorem WC.mono {Q' : AExit → Env → AHeap → Prop} {c : ACode} (k : WC C ro c N s h Q) (hq : ∀ x s h, Q x s h → Q' x s h) : WC C ro c N s h Q' := .mk fun e hl hc =>
  execW_mono (fun _ _ _ _ x => x) hM (fun _ _ _ ⟨s', p1, p2, p3⟩ => ⟨s', p1, p2, hq _ _ _ p3⟩) (k.run e hl hc)

omit hM in
theorem WC.sub {s' : Env} {c : ACode} (hs : Sub s' s) (k : WC C ro c N s' h Q) : WC C ro c N s h Q := .mk fun e hl hc => k.run e hl (hc.sub hs)

/-- A LOOP: a state, the slots and the parts of the heap by it, and what gets less. -/
theorem wc_loop {σ : Type} {b : ACode} (E : σ → Env) (G : σ → List Chunk) (φ : σ → Prop) (m : σ → Nat) (x0 : σ) (hm : m x0 < rounds) (hs : Sub (E x0) s) (st : St h (G x0)) (h0 : φ x0)
    (hb : ∀ x h, φ x → St h (G x) → WC C ro b N (E x) h (seqQ (fun s' h' => ∃ y, m y < m x ∧ φ y ∧ Sub (E y) s' ∧ St h' (G y)) Q)) : WC C ro (.loop b) N s h Q := by
  have key : ∀ (n : Nat) (x : σ) (h : AHeap), m x < n → φ x → St h (G x) → ∀ e, e.length = N → Cov (E x) e → iterW (execW C ro b) n e h fun x e' h' => ∃ s', e'.length = N ∧ Cov s' e' ∧ Q x s' h' := by
    intro n
    induction n with
    | zero => intro x h hx; omega
    | succ n ih =>
      intro x h hx hφ st e hl hc
      refine execW_mono (fun _ _ _ _ x => x) hM (fun y e' h' q => ?_) ((hb x h hφ st).run e hl hc)
      obtain ⟨s', p1, p2, p3⟩ := q
      cases y with
      | normal =>
        obtain ⟨y, hy, hφ', hsub, st'⟩ := p3
        exact ih y h' (by omega) hφ' st' e' p1 (p2.sub hsub)
      | exit i => exact ⟨s', p1, p2, p3⟩
      | ret => exact ⟨s', p1, p2, p3⟩
  exact .mk fun e hl hc => key rounds x0 h hm h0 st e hl (hc.sub hs)

end codes

/-- what a function returns -/
def resS (s : Env) (h : AHeap) : List ARes → Option (List AV)
  | [] => some []
  | .tmp t :: rs => match look s t, resS s h rs with
    | some v, some vs => some (v :: vs)
    | _, _ => none
  | .cell t o :: rs => match look s t with
    | some a => match aop o [a] h, resS s h rs with
      | some (v, _), some vs => some (v :: vs)
      | _, _ => none
    | none => none

theorem Cov.res {s : Env} {h : AHeap} {e : List AV} (hc : Cov s e) : ∀ {rs : List ARes} {vs : List AV}, resS s h rs = some vs → resA e h rs = some vs
  | [], vs, hv => hv
  | .tmp t :: rs, vs, hv => by
    simp only [resS] at hv
    split at hv
    · rename_i v vs' h1 h2
      cases hv
      simp only [resA, hc.eval (o := .tmp t) h1, Cov.res hc h2]
    · cases hv
  | .cell t o :: rs, vs, hv => by
    simp only [resS] at hv
    split at hv
    · rename_i a h1
      split at hv
      · rename_i v h0 vs' h2 h3
        cases hv
        simp only [resA, hc.eval (o := .tmp t) h1, h2, Cov.res hc h3]
      · cases hv
    · cases hv

def argS : Nat → List AV → Env
  | _, [] => []
  | i, a :: l => (i, a) :: argS (i + 1) l

/-- a function's end -/
def fnQ (rs : List ARes) (G : AV → AHeap → Prop) : AExit → Env → AHeap → Prop
  | .normal => fun s h => ∃ vs, resS s h rs = some vs ∧ G (retA vs) h
  | .exit _ => fun _ _ => False
  | .ret => fun s h => ∃ vs, resS s h rs = some vs ∧ G (retA vs) h

def NoJunk : List AV → Prop
  | [] => True
  | a :: l => a.notJunk = some a ∧ NoJunk l

theorem argS_look : ∀ (l : List AV) (i t : Nat) (v : AV), NoJunk l → look (argS i l) t = some v → i ≤ t ∧ l[t - i]? = some v ∧ v.notJunk = some v
  | [], i, t, v, _, h => by cases h
  | a :: l, i, t, v, hj, h => by
    simp only [argS] at h
    rw [look_cons] at h
    split at h
    · rename_i e; subst e; cases h
      exact ⟨Nat.le_refl _, by simp, hj.1⟩
    · obtain ⟨h1, h2, h3⟩ := argS_look l (i + 1) t v hj.2 h
      refine ⟨by omega, ?_, h3⟩
      rw [show t - i = (t - (i + 1)) + 1 by omega, List.getElem?_cons_succ]
      exact h2


theorem call_walk {f : AFn} {l : List AV} {h : AHeap} {G : AV → AHeap → Prop} (hM : MonoW C) (hj : NoJunk l) (hl : Nat.ble l.length f.ntmps = true) (k : WC C none f.body f.ntmps (argS 0 l) h (fnQ f.res G)) : callW C f l h G := by
  have hle := Nat.le_of_ble_eq_true hl
  refine execW_mono (fun _ _ _ _ x => x) hM (fun x e' h' q => ?_) (k.run (l ++ List.replicate (f.ntmps - l.length) .junk) (by simp; omega) (fun t v ht => by
    obtain ⟨_, h2, h3⟩ := argS_look l 0 t v hj ht
    rw [Nat.sub_zero] at h2
    exact ⟨by rw [List.getElem?_append_left (List.getElem?_eq_some_iff.1 h2).1]; exact h2, h3⟩))
  obtain ⟨s', p1, p2, p3⟩ := q
  cases x with
  | normal =>
    obtain ⟨vs, h1, h2⟩ := p3
    simp only [p2.res h1]
    exact h2
  | exit i => exact p3.elim
  | ret =>
    obtain ⟨vs, h1, h2⟩ := p3
    simp only [p2.res h1]
    exact h2

/-- a function's contract, by a walk over its code -/
theorem spec_walk {n : Nat} {f : AFn} {args : List AV} {Ps : List Chunk} {post : AV → List Chunk → Prop} (hM : MonoW C) (u : ∀ args h Q, callW C f args h Q → C (.f n) args h Q) (hj : NoJunk args) (hl : Nat.ble args.length f.ntmps = true)
    (k : ∀ h F, St h (Ps ++ F) → WC C none f.body f.ntmps (argS 0 args) h (fnQ f.res fun v h' => ∃ Rs, post v Rs ∧ St h' (Rs ++ F))) : Spec C (.f n) args Ps post :=
  fun h F st => u _ _ _ (call_walk hM hj hl (k h F st))

end
end Go.Proofs.Ytjdemlagmamlbaa
