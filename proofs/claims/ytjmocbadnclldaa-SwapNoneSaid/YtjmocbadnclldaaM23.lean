/- A walk over the abstract machine's code, its slots as a list of those that are known. -/
import Derived.Test.YtjmocbadnclldaaM22
namespace Go.Proofs.Ytjmocbadnclldaa

abbrev Env := List (Nat × AV)

def look : Env → Nat → Option AV
  | [], _ => none
  | (k, v) :: s, n => match Nat.beq k n with
    | true => some v
    | false => look s n

/-- the slots are as is known -/
def Cov (s : Env) (e : List AV) : Prop := ∀ t v, look s t = some v → e[t]? = some v ∧ v.notJunk = some v

def evalS (s : Env) : Opd → Option AV
  | .tmp t => look s t
  | .lit v => some v

def evalLS (s : Env) : List Opd → Option (List AV)
  | [] => some []
  | x :: xs => match evalS s x, evalLS s xs with
    | some v, some vs => some (v :: vs)
    | _, _ => none

def wantS (s : Env) (g : Option (Nat × Bool)) : Option Bool :=
  match g with
  | none => some true
  | some (slot, want) => match look s slot with
    | some (.bool b) => some (b == want)
    | some (.tuple _) => some false
    | _ => none

theorem look_cons {k n : Nat} {v : AV} {s : Env} : look ((k, v) :: s) n = if k = n then some v else look s n := by
  simp only [look]
  cases h : Nat.beq k n with
  | true => rw [if_pos (Nat.eq_of_beq_eq_true h)]
  | false => rw [if_neg (Nat.ne_of_beq_eq_false h)]

theorem Cov.eval {s : Env} {e : List AV} (h : Cov s e) {o : Opd} {v : AV} (hv : evalS s o = some v) : o.eval e = some v := by
  cases o with
  | tmp t => obtain ⟨h1, h2⟩ := h t v hv; simp only [Opd.eval, h1, Option.bind_some, h2]
  | lit x => exact hv

theorem Cov.evalL {s : Env} {e : List AV} (h : Cov s e) : ∀ {os : List Opd} {vs : List AV}, evalLS s os = some vs → evalL e os = some vs
  | [], vs, hv => hv
  | o :: os, vs, hv => by
    simp only [evalLS] at hv
    split at hv
    · rename_i v vs' h1 h2
      cases hv
      simp only [Go.Proofs.Ytjmocbadnclldaa.evalL, h.eval h1, Cov.evalL h h2]
    · cases hv

theorem Cov.want {s : Env} {e : List AV} (h : Cov s e) {g : Option (Nat × Bool)} {b : Bool} (hv : wantS s g = some b) : wantedA e g = some b := by
  unfold wantS at hv
  unfold wantedA
  split at hv
  · exact hv
  · split at hv
    · rename_i b' hl; simp only [(h _ _ hl).1]; exact hv
    · rename_i hl; simp only [(h _ _ hl).1]; exact hv
    · cases hv

theorem Cov.set {s : Env} {e : List AV} (h : Cov s e) {d : Nat} {v : AV} (hd : d < e.length) (hj : v.notJunk = some v) : Cov ((d, v) :: s) (e.set d v) := by
  intro t x hx
  rw [look_cons] at hx
  rw [List.getElem?_set]
  split at hx
  · rename_i e1; subst e1; cases hx
    rw [if_pos rfl, if_pos hd]
    exact ⟨rfl, hj⟩
  · rename_i e1
    rw [if_neg e1]
    exact h t x hx

/-- known slots that are among others -/
def Sub : Env → Env → Prop
  | [], _ => True
  | (t, v) :: s', s => look s t = some v ∧ Sub s' s

theorem Sub.look : ∀ {s' s : Env}, Sub s' s → ∀ t v, look s' t = some v → look s t = some v
  | [], _, _, t, v, h => by cases h
  | (k, x) :: s', s, hs, t, v, h => by
    rw [look_cons] at h
    split at h
    · rename_i e; subst e; cases h; exact hs.1
    · exact Sub.look hs.2 t v h

theorem Cov.sub {s s' : Env} {e : List AV} (h : Cov s e) (hs : Sub s' s) : Cov s' e := fun t v hl => h t v (hs.look t v hl)

def maskS (M : List Bool) (s : Env) : Env := s.filter fun p => M.getD p.1 true

theorem keepM_at : ∀ (M : List Bool) (e : List AV) (t : Nat) (v : AV), M.getD t true = true → e[t]? = some v → (keepM M e)[t]? = some v
  | [], e, t, v, _, h => by cases e <;> exact h
  | b :: M, [], t, v, _, h => by simp at h
  | b :: M, x :: e, t, v, hm, h => by
    cases t with
    | zero =>
      simp only [List.getD_cons_zero] at hm
      subst hm
      simpa [keepM] using h
    | succ t =>
      simp only [List.getD_cons_succ] at hm
      simp only [List.getElem?_cons_succ] at h
      cases b <;> simp only [keepM, List.getElem?_cons_succ] <;> exact keepM_at M e t v hm h

theorem look_mask {M : List Bool} : ∀ {s : Env} {t : Nat} {v : AV}, look (maskS M s) t = some v → M.getD t true = true ∧ look s t = some v
  | [], t, v, h => by cases h
  | (k, x) :: s, t, v, h => by
    unfold maskS at h
    rw [List.filter_cons] at h
    split at h
    · rename_i hk
      rw [look_cons] at h ⊢
      split at h
      · rename_i e; subst e; exact ⟨hk, by rw [if_pos rfl]; exact h⟩
      · rename_i e
        obtain ⟨h1, h2⟩ := look_mask (M := M) (s := s) h
        exact ⟨h1, by rw [if_neg e]; exact h2⟩
    · rename_i hk
      obtain ⟨h1, h2⟩ := look_mask (M := M) (s := s) h
      refine ⟨h1, ?_⟩
      rw [look_cons]
      split
      · rename_i e; subst e; exact absurd h1 hk
      · exact h2

theorem Cov.mask {s : Env} {e : List AV} (h : Cov s e) (M : List Bool) : Cov (maskS M s) (keepM M e) := fun t v hl => by
  obtain ⟨h1, h2⟩ := look_mask hl
  obtain ⟨h3, h4⟩ := h t v h2
  exact ⟨keepM_at M e t v h1 h3, h4⟩

theorem blt_of {a b : Nat} (h : Nat.blt a b = true) : a < b := by rwa [Nat.blt_eq] at h

section
variable {C : Sem1} {N : Nat}

/-- an operation's answer -/
structure Does (C : Sem1) (op : AOp) (vs : List AV) (h : AHeap) (v : AV) (h1 : AHeap) : Prop where
  run : doOp C op vs h = some (v, h1)

/-- instructions, walked -/
structure WI (C : Sem1) (is : List AIn) (N : Nat) (s : Env) (h : AHeap) (Q : Env → AHeap → Prop) : Prop where
  run : ∀ e, e.length = N → Cov s e → ∃ e' h' s', runIns C is e h = some (e', h') ∧ e'.length = N ∧ Cov s' e' ∧ Q s' h'

structure WD (C : Sem1) (ds : List DI) (N : Nat) (s : Env) (h : AHeap) (Q : Env → AHeap → Prop) : Prop where
  run : ∀ e, e.length = N → Cov s e → ∃ e' h' s', runDraw C ds e h = some (e', h') ∧ e'.length = N ∧ Cov s' e' ∧ Q s' h'

/-- code, walked -/
structure WC (C : Sem1) (c : ACode) (N : Nat) (s : Env) (h : AHeap) (Q : AExit → Env → AHeap → Prop) : Prop where
  run : ∀ e, e.length = N → Cov s e → ∃ x e' h' s', exec C c e h = some (x, e', h') ∧ e'.length = N ∧ Cov s' e' ∧ Q x s' h'

/-- a loop, walked -/
structure WL (C : Sem1) (c : ACode) (M : List Bool) (n N : Nat) (s : Env) (h : AHeap) (Q : AExit → Env → AHeap → Prop) : Prop where
  run : ∀ e, e.length = N → Cov s e → ∃ x e' h' s', iterN (exec C c) M n e h = some (x, e', h') ∧ e'.length = N ∧ Cov s' e' ∧ Q x s' h'

theorem wi_nil {s : Env} {h : AHeap} {Q : Env → AHeap → Prop} (k : Q s h) : WI C [] N s h Q := .mk fun e hl hc => ⟨e, h, s, rfl, hl, hc, k⟩

theorem runIn_op {d : Option Nat} {op : AOp} {os : List Opd} {g : Option (Nat × Bool)} {s : Env} {e : List AV} {h h1 : AHeap} {vs : List AV} {v : AV} (hc : Cov s e) (hw : wantS s g = some true) (ha : evalLS s os = some vs) (ho : doOp C op vs h = some (v, h1)) :
    runIn C ⟨d, op, os, g⟩ e h = some (setDst e d v, h1) := by
  simp only [runIn, hc.want hw, hc.evalL ha, ho]

theorem runIn_skip {d : Option Nat} {op : AOp} {os : List Opd} {g : Option (Nat × Bool)} {s : Env} {e : List AV} {h : AHeap} (hc : Cov s e) (hw : wantS s g = some false) :
    runIn C ⟨d, op, os, g⟩ e h = some (setDst e d (.tuple []), h) := by
  simp only [runIn, hc.want hw]

theorem wi_op {d : Nat} {op : AOp} {os : List Opd} {g : Option (Nat × Bool)} {is : List AIn} {s : Env} {h h1 : AHeap} {vs : List AV} {v : AV} {Q : Env → AHeap → Prop} (hw : wantS s g = some true) (ha : evalLS s os = some vs) (ho : Does C op vs h v h1)
    (hj : v.notJunk = some v) (hd : Nat.blt d N = true) (k : WI C is N ((d, v) :: s) h1 Q) : WI C (⟨some d, op, os, g⟩ :: is) N s h Q := .mk fun e hl hc => by
  have hd' : d < e.length := by rw [hl]; exact blt_of hd
  obtain ⟨e', h', s', r, p⟩ := k.run (e.set d v) (by simpa using hl) (hc.set hd' hj)
  exact ⟨e', h', s', by simp only [runIns, runIn_op hc hw ha ho.run, setDst]; exact r, p⟩

theorem wi_op0 {op : AOp} {os : List Opd} {g : Option (Nat × Bool)} {is : List AIn} {s : Env} {h h1 : AHeap} {vs : List AV} {v : AV} {Q : Env → AHeap → Prop} (hw : wantS s g = some true) (ha : evalLS s os = some vs) (ho : Does C op vs h v h1)
    (k : WI C is N s h1 Q) : WI C (⟨none, op, os, g⟩ :: is) N s h Q := .mk fun e hl hc => by
  obtain ⟨e', h', s', r, p⟩ := k.run e hl hc
  exact ⟨e', h', s', by simp only [runIns, runIn_op hc hw ha ho.run, setDst]; exact r, p⟩

theorem wi_skip {d : Nat} {op : AOp} {os : List Opd} {g : Option (Nat × Bool)} {is : List AIn} {s : Env} {h : AHeap} {Q : Env → AHeap → Prop} (hw : wantS s g = some false)
    (hd : Nat.blt d N = true) (k : WI C is N ((d, .tuple []) :: s) h Q) : WI C (⟨some d, op, os, g⟩ :: is) N s h Q := .mk fun e hl hc => by
  have hd' : d < e.length := by rw [hl]; exact blt_of hd
  obtain ⟨e', h', s', r, p⟩ := k.run (e.set d (.tuple [])) (by simpa using hl) (hc.set hd' rfl)
  exact ⟨e', h', s', by simp only [runIns, runIn_skip hc hw, setDst]; exact r, p⟩

theorem wi_skip0 {op : AOp} {os : List Opd} {g : Option (Nat × Bool)} {is : List AIn} {s : Env} {h : AHeap} {Q : Env → AHeap → Prop} (hw : wantS s g = some false)
    (k : WI C is N s h Q) : WI C (⟨none, op, os, g⟩ :: is) N s h Q := .mk fun e hl hc => by
  obtain ⟨e', h', s', r, p⟩ := k.run e hl hc
  exact ⟨e', h', s', by simp only [runIns, runIn_skip hc hw, setDst]; exact r, p⟩

/-- what is looked at again tells the same -/
def Again (s : Env) (h : AHeap) : List (Nat × AIn) → Prop
  | [] => True
  | (_, ⟨d, op, os, g⟩) :: rs => (wantS s g = some false ∨ (wantS s g = some true ∧ ∃ vs v h', evalLS s os = some vs ∧ aop op vs h = some (v, h') ∧ (∀ t, d = some t → look s t = some v) ∧ AV.same v v = true)) ∧ Again s h rs

theorem again_ok {s : Env} {e : List AV} {h : AHeap} (hc : Cov s e) : ∀ {rs : List (Nat × AIn)}, Again s h rs → rs.all (fun r => again r.2 e h) = true
  | [], _ => rfl
  | (j, ⟨d, op, os, g⟩) :: rs, hr => by
    obtain ⟨h1, h2⟩ := hr
    rw [List.all_cons, again_ok hc h2, Bool.and_true]
    rcases h1 with h1 | ⟨h1, vs, v, h', h3, h4, h5, h6⟩
    · simp only [again, hc.want h1]
    · simp only [again, hc.want h1, hc.evalL h3, h4]
      cases d with
      | none => rfl
      | some t => simp only [(hc t v (h5 t rfl)).1, h6]

theorem wd_nil {s : Env} {h : AHeap} {Q : Env → AHeap → Prop} (k : Q s h) : WD C [] N s h Q := .mk fun e hl hc => ⟨e, h, s, rfl, hl, hc, k⟩

theorem wd_op {j d : Nat} {op : AOp} {os : List Opd} {g : Option (Nat × Bool)} {rs : List (Nat × AIn)} {ds : List DI} {s : Env} {h h1 : AHeap} {vs : List AV} {v : AV} {Q : Env → AHeap → Prop} (hw : wantS s g = some true) (ha : evalLS s os = some vs)
    (ho : Does C op vs h v h1) (hj : v.notJunk = some v) (hd : Nat.blt d N = true) (hr : Again ((d, v) :: s) h1 rs) (k : WD C ds N ((d, v) :: s) h1 Q) : WD C (⟨j, ⟨some d, op, os, g⟩, rs⟩ :: ds) N s h Q := .mk fun e hl hc => by
  have hd' : d < e.length := by rw [hl]; exact blt_of hd
  have hc' := hc.set hd' hj
  obtain ⟨e', h', s', r, p⟩ := k.run (e.set d v) (by simpa using hl) hc'
  exact ⟨e', h', s', by simp only [runDraw, runIn_op hc hw ha ho.run, setDst, again_ok hc' hr, if_true]; exact r, p⟩

theorem wd_op0 {j : Nat} {op : AOp} {os : List Opd} {g : Option (Nat × Bool)} {rs : List (Nat × AIn)} {ds : List DI} {s : Env} {h h1 : AHeap} {vs : List AV} {v : AV} {Q : Env → AHeap → Prop} (hw : wantS s g = some true) (ha : evalLS s os = some vs)
    (ho : Does C op vs h v h1) (hr : Again s h1 rs) (k : WD C ds N s h1 Q) : WD C (⟨j, ⟨none, op, os, g⟩, rs⟩ :: ds) N s h Q := .mk fun e hl hc => by
  obtain ⟨e', h', s', r, p⟩ := k.run e hl hc
  exact ⟨e', h', s', by simp only [runDraw, runIn_op hc hw ha ho.run, setDst, again_ok hc hr, if_true]; exact r, p⟩

theorem wd_skip {j d : Nat} {op : AOp} {os : List Opd} {g : Option (Nat × Bool)} {rs : List (Nat × AIn)} {ds : List DI} {s : Env} {h : AHeap} {Q : Env → AHeap → Prop} (hw : wantS s g = some false)
    (hd : Nat.blt d N = true) (hr : Again ((d, .tuple []) :: s) h rs) (k : WD C ds N ((d, .tuple []) :: s) h Q) : WD C (⟨j, ⟨some d, op, os, g⟩, rs⟩ :: ds) N s h Q := .mk fun e hl hc => by
  have hd' : d < e.length := by rw [hl]; exact blt_of hd
  have hc' := hc.set (v := .tuple []) hd' rfl
  obtain ⟨e', h', s', r, p⟩ := k.run (e.set d (.tuple [])) (by simpa using hl) hc'
  exact ⟨e', h', s', by simp only [runDraw, runIn_skip hc hw, setDst, again_ok hc' hr, if_true]; exact r, p⟩

theorem wd_skip0 {j : Nat} {op : AOp} {os : List Opd} {g : Option (Nat × Bool)} {rs : List (Nat × AIn)} {ds : List DI} {s : Env} {h : AHeap} {Q : Env → AHeap → Prop} (hw : wantS s g = some false)
    (hr : Again s h rs) (k : WD C ds N s h Q) : WD C (⟨j, ⟨none, op, os, g⟩, rs⟩ :: ds) N s h Q := .mk fun e hl hc => by
  obtain ⟨e', h', s', r, p⟩ := k.run e hl hc
  exact ⟨e', h', s', by simp only [runDraw, runIn_skip hc hw, setDst, again_ok hc hr, if_true]; exact r, p⟩

variable {s : Env} {h : AHeap} {Q : AExit → Env → AHeap → Prop}

def seqQ (K : Env → AHeap → Prop) (Q : AExit → Env → AHeap → Prop) : AExit → Env → AHeap → Prop
  | .normal => K
  | .exit i => Q (.exit i)
  | .ret => Q .ret

def blockQ (id : Nat) (Q : AExit → Env → AHeap → Prop) : AExit → Env → AHeap → Prop
  | .normal => Q .normal
  | .exit i => match Nat.beq i id with
    | true => Q .normal
    | false => Q (.exit i)
  | .ret => Q .ret

theorem wc_skip (k : Q .normal s h) : WC C .skip N s h Q := .mk fun e hl hc => ⟨.normal, e, h, s, rfl, hl, hc, k⟩
theorem wc_ret (k : Q .ret s h) : WC C .ret N s h Q := .mk fun e hl hc => ⟨.ret, e, h, s, rfl, hl, hc, k⟩
theorem wc_exit {id : Nat} (k : Q (.exit id) s h) : WC C (.exit id) N s h Q := .mk fun e hl hc => ⟨.exit id, e, h, s, rfl, hl, hc, k⟩
theorem wc_region {ops : List AIn} (k : WI C ops N s h (Q .normal)) : WC C (.region ops) N s h Q := .mk fun e hl hc => by
  obtain ⟨e', h', s', r, p⟩ := k.run e hl hc
  exact ⟨.normal, e', h', s', by simp only [exec, r], p⟩
theorem wc_draw {ds : List DI} (k : WD C ds N s h (Q .normal)) : WC C (.draw ds) N s h Q := .mk fun e hl hc => by
  obtain ⟨e', h', s', r, p⟩ := k.run e hl hc
  exact ⟨.normal, e', h', s', by simp only [exec, r], p⟩
theorem wc_seq {a b : ACode} (k : WC C a N s h (seqQ (fun s' h' => WC C b N s' h' Q) Q)) : WC C (.seq a b) N s h Q := .mk fun e hl hc => by
  obtain ⟨x, e', h', s', r, p1, p2, p3⟩ := k.run e hl hc
  cases x with
  | normal =>
    obtain ⟨x2, e2, h2, s2, r2, q⟩ := p3.run e' p1 p2
    exact ⟨x2, e2, h2, s2, by simp only [exec, r]; exact r2, q⟩
  | exit i => exact ⟨.exit i, e', h', s', by simp only [exec, r], p1, p2, p3⟩
  | ret => exact ⟨.ret, e', h', s', by simp only [exec, r], p1, p2, p3⟩
theorem wc_then {o : Opd} {a b : ACode} (ho : evalS s o = some (.bool true)) (k : WC C a N s h Q) : WC C (.cond o a b) N s h Q := .mk fun e hl hc => by
  obtain ⟨x, e', h', s', r, p⟩ := k.run e hl hc
  exact ⟨x, e', h', s', by simp only [exec, hc.eval ho]; exact r, p⟩
theorem wc_else {o : Opd} {a b : ACode} (ho : evalS s o = some (.bool false)) (k : WC C b N s h Q) : WC C (.cond o a b) N s h Q := .mk fun e hl hc => by
  obtain ⟨x, e', h', s', r, p⟩ := k.run e hl hc
  exact ⟨x, e', h', s', by simp only [exec, hc.eval ho]; exact r, p⟩
theorem wc_cond {o : Opd} {a b : ACode} {q : Bool} (ho : evalS s o = some (.bool q)) (k : q = true → WC C a N s h Q) (k' : q = false → WC C b N s h Q) : WC C (.cond o a b) N s h Q := by
  cases q with
  | true => exact wc_then ho (k rfl)
  | false => exact wc_else ho (k' rfl)
theorem wc_block {id : Nat} {b : ACode} (k : WC C b N s h (blockQ id Q)) : WC C (.block id b) N s h Q := .mk fun e hl hc => by
  obtain ⟨x, e', h', s', r, p1, p2, p3⟩ := k.run e hl hc
  cases x with
  | normal => exact ⟨.normal, e', h', s', by simp only [exec, r], p1, p2, p3⟩
  | exit i =>
    simp only [blockQ] at p3
    cases hb : Nat.beq i id with
    | true =>
      rw [hb] at p3
      exact ⟨.normal, e', h', s', by simp only [exec, r, if_pos (Nat.eq_of_beq_eq_true hb)], p1, p2, p3⟩
    | false =>
      rw [hb] at p3
      exact ⟨.exit i, e', h', s', by simp only [exec, r, if_neg (Nat.ne_of_beq_eq_false hb)], p1, p2, p3⟩
  | ret => exact ⟨.ret, e', h', s', by simp only [exec, r], p1, p2, p3⟩
theorem wc_loop {M : List Bool} {b : ACode} (k : WL C b M rounds N s h Q) : WC C (.loop M b) N s h Q := .mk fun e hl hc => k.run e hl hc
theorem wl_step {M : List Bool} {b : ACode} {n : Nat} (k : WC C b N (maskS M s) h (seqQ (fun s' h' => WL C b M n N s' h' Q) Q)) : WL C b M (n + 1) N s h Q := .mk fun e hl hc => by
  obtain ⟨x, e', h', s', r, p1, p2, p3⟩ := k.run (keepM M e) (by rw [keepM_length]; exact hl) (hc.mask M)
  cases x with
  | normal =>
    obtain ⟨x2, e2, h2, s2, r2, q⟩ := p3.run e' p1 p2
    exact ⟨x2, e2, h2, s2, by rw [iterN, r]; exact r2, q⟩
  | exit i => exact ⟨.exit i, e', h', s', by rw [iterN, r], p1, p2, p3⟩
  | ret => exact ⟨.ret, e', h', s', by rw [iterN, r], p1, p2, p3⟩

theorem WC.sub {s' : Env} {c : ACode} (hs : Sub s' s) (k : WC C c N s' h Q) : WC C c N s h Q := .mk fun e hl hc => k.run e hl (hc.sub hs)
theorem WL.sub {s' : Env} {c : ACode} {M : List Bool} {n : Nat} (hs : Sub s' s) (k : WL C c M n N s' h Q) : WL C c M n N s h Q := .mk fun e hl hc => k.run e hl (hc.sub hs)
theorem WC.mono {Q' : AExit → Env → AHeap → Prop} {c : ACode} (k : WC C c N s h Q) (hq : ∀ x s h, Q x s h → Q' x s h) : WC C c N s h Q' := .mk fun e hl hc => by
  obtain ⟨x, e', h', s', r, p1, p2, p3⟩ := k.run e hl hc
  exact ⟨x, e', h', s', r, p1, p2, hq _ _ _ p3⟩
theorem WL.mono {Q' : AExit → Env → AHeap → Prop} {c : ACode} {M : List Bool} {n : Nat} (k : WL C c M n N s h Q) (hq : ∀ x s h, Q x s h → Q' x s h) : WL C c M n N s h Q' := .mk fun e hl hc => by
  obtain ⟨x, e', h', s', r, p1, p2, p3⟩ := k.run e hl hc
  exact ⟨x, e', h', s', r, p1, p2, hq _ _ _ p3⟩

/-- what a function returns -/
def resS (s : Env) (h : AHeap) : List ARes → Option (List AV)
  | [] => some []
  | .tmp t :: rs => match look s t, resS s h rs with
    | some v, some vs => some (v :: vs)
    | _, _ => none
  | .cell t o :: rs => match look s t with
    | some a => match aop o [a] h, resS s h rs with
      | some (v, _), some vs => some (v :: vs)
      | _, _ => none
    | none => none

theorem Cov.res {e : List AV} (hc : Cov s e) : ∀ {rs : List ARes} {vs : List AV}, resS s h rs = some vs → resA e h rs = some vs
  | [], vs, hv => hv
  | .tmp t :: rs, vs, hv => by
    simp only [resS] at hv
    split at hv
    · rename_i v vs' h1 h2
      cases hv
      simp only [resA, hc.eval (o := .tmp t) h1, Cov.res hc h2]
    · cases hv
  | .cell t o :: rs, vs, hv => by
    simp only [resS] at hv
    split at hv
    · rename_i a h1
      split at hv
      · rename_i v h0 vs' h2 h3
        cases hv
        simp only [resA, hc.eval (o := .tmp t) h1, h2, Cov.res hc h3]
      · cases hv
    · cases hv

def argS : Nat → List AV → Env
  | _, [] => []
  | i, a :: l => (i, a) :: argS (i + 1) l

/-- a function's end -/
def fnQ (rs : List ARes) (G : AV → AHeap → Prop) : AExit → Env → AHeap → Prop
  | .normal => fun s h => ∃ vs, resS s h rs = some vs ∧ G (retA vs) h
  | .exit _ => fun _ _ => False
  | .ret => fun s h => ∃ vs, resS s h rs = some vs ∧ G (retA vs) h

def NoJunk : List AV → Prop
  | [] => True
  | a :: l => a.notJunk = some a ∧ NoJunk l

theorem argS_look : ∀ (l : List AV) (i t : Nat) (v : AV), NoJunk l → look (argS i l) t = some v → i ≤ t ∧ l[t - i]? = some v ∧ v.notJunk = some v
  | [], i, t, v, _, h => by cases h
  | a :: l, i, t, v, hj, h => by
    simp only [argS] at h
    rw [look_cons] at h
    split at h
    · rename_i e; subst e; cases h
      exact ⟨Nat.le_refl _, by simp, hj.1⟩
    · obtain ⟨h1, h2, h3⟩ := argS_look l (i + 1) t v hj.2 h
      refine ⟨by omega, ?_, h3⟩
      rw [show t - i = (t - (i + 1)) + 1 by omega, List.getElem?_cons_succ]
      exact h2

theorem call_walk {f : AFn} {l : List AV} {G : AV → AHeap → Prop} (hj : NoJunk l) (hl : Nat.ble l.length f.ntmps = true) (k : WC C f.body f.ntmps (argS 0 l) h (fnQ f.res G)) : ∃ v h', callA C f l h = some (v, h') ∧ G v h' := by
  have hle := Nat.le_of_ble_eq_true hl
  obtain ⟨x, e', h', s', r, p1, p2, p3⟩ := k.run (l ++ List.replicate (f.ntmps - l.length) .junk) (by simp; omega) (fun t v ht => by
    obtain ⟨_, h2, h3⟩ := argS_look l 0 t v hj ht
    rw [Nat.sub_zero] at h2
    exact ⟨by rw [List.getElem?_append_left (List.getElem?_eq_some_iff.1 h2).1]; exact h2, h3⟩)
  cases x with
  | normal =>
    obtain ⟨vs, h1, h2⟩ := p3
    exact ⟨_, _, by simp only [callA, r, p2.res h1, Option.map_some], h2⟩
  | exit i => exact p3.elim
  | ret =>
    obtain ⟨vs, h1, h2⟩ := p3
    exact ⟨_, _, by simp only [callA, r, p2.res h1, Option.map_some], h2⟩

end
end Go.Proofs.Ytjmocbadnclldaa
