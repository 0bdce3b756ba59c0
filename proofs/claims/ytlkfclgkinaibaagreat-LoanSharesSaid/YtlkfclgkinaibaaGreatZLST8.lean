/- BY PROGRAM (wip/tool/shake.py): own texts, one behind the other, without what is not needed. -/
import Derived.Control
import Derived.Calls
import Derived.KernelRfl
import Derived.Laws.Sem
import Derived.Laws.Cells
import Derived.Laws.World
import GoSem.Dispatch
import Derived.Laws.StructEq
import Derived.IntWalk
import Derived.WideKeyRuns
import Derived.Laws.BytesArg
import Derived.Orders
import Derived.ChangeArms
import Derived.OpenShut
import Derived.ChangeShapes
import Derived.ProofKit
import Derived.Test.YtlkfclgkinaibaaGreatProg
import Derived.Shelf.SlIterI.Nil
import Derived.Shelf.SortM.Plain
import Derived.Shelf.SortM.SortNone
import Derived.Test.YtlkfclgkinaibaaGreatZLST7
import Derived.Test.YtlkfclgkinaibaaGreatALSCa
import Derived.Test.YtlkfclgkinaibaaGreatALSCb
import Derived.Test.YtlkfclgkinaibaaGreatALSCc
import Derived.Test.YtlkfclgkinaibaaGreatALSCd
import Derived.Test.YtlkfclgkinaibaaGreatALSCe
import Derived.Test.YtlkfclgkinaibaaGreatALSCf
import Derived.Test.YtlkfclgkinaibaaGreatALSCg
import Derived.Test.YtlkfclgkinaibaaGreatALSCh
import Derived.Test.YtlkfclgkinaibaaGreatALSCi
import Derived.Test.YtlkfclgkinaibaaGreatALSCj
import Derived.Test.YtlkfclgkinaibaaGreatALSCk
import Derived.Test.YtlkfclgkinaibaaGreatALSCl
import Derived.Test.YtlkfclgkinaibaaGreatALSCm
import Derived.Test.YtlkfclgkinaibaaGreatALSCn
import Derived.Test.YtlkfclgkinaibaaGreatALSCo
import Derived.Test.YtlkfclgkinaibaaGreatALSCp
import Derived.Test.YtlkfclgkinaibaaGreatALSCq
import Derived.Test.YtlkfclgkinaibaaGreatALSCr
import Derived.Test.YtlkfclgkinaibaaGreatALSCs
import Derived.Test.YtlkfclgkinaibaaGreatALSCt
import Derived.Test.YtlkfclgkinaibaaGreatALSCu

namespace Go.Proofs.YtlkfclgkinaibaaGreat
noncomputable def okX (n : Nat) : Bool := Nat.rec (motive := fun _ => Bool) true (fun k ih => sel (eqK (byteX (DX k) 4096) 5) (sel (eqK (byteY (DX k) 8192) (Int.ofNat k)) ih false) false) n
theorem okX_of : ∀ {n x : Nat}, okX n = true → x < n → byteX (DX x) 4096 = 5 ∧ byteY (DX x) 8192 = (x : Nat)
  | 0, x, _, h => by omega
  | n + 1, x, h, hx => by
    have h : sel (eqK (byteX (DX n) 4096) 5) (sel (eqK (byteY (DX n) 8192) (Int.ofNat n)) (okX n) false) false = true := h
    obtain ⟨a, b⟩ := selB h
    obtain ⟨b, c⟩ := selB b
    by_cases e : x = n
    · subst e
      rw [eqK_eq] at a b
      exact ⟨eq_of_beq a, eq_of_beq b⟩
    · exact okX_of c (by omega)
theorem dsX : okX 256 = true := by kernel_rfl
theorem dsRound {y m v : Nat} (h1 : 1 ≤ y) (h2 : y < m) (h3 : m < 41) : Round (runD (HL y) (y + 1) m v) (y + 1) m v := by
  obtain ⟨d, rfl⟩ : ∃ d, m = d + (y + 1) := ⟨m - (y + 1), by omega⟩
  rcases (by omega : y = 1 ∨ y = 2 ∨ y = 3 ∨ y = 4 ∨ y = 5 ∨ y = 6 ∨ y = 7 ∨ y = 8 ∨ y = 9 ∨ y = 10 ∨ y = 11 ∨ y = 12 ∨ y = 13 ∨ y = 14 ∨ y = 15 ∨ y = 16 ∨ y = 17 ∨ y = 18 ∨ y = 19 ∨ y = 20 ∨ y = 21 ∨ y = 22 ∨ y = 23 ∨ y = 24 ∨ y = 25 ∨ y = 26 ∨ y = 27 ∨ y = 28 ∨ y = 29 ∨ y = 30 ∨ y = 31 ∨ y = 32 ∨ y = 33 ∨ y = 34 ∨ y = 35 ∨ y = 36 ∨ y = 37 ∨ y = 38 ∨ y = 39) with rfl | rfl | rfl | rfl | rfl | rfl | rfl | rfl | rfl | rfl | rfl | rfl | rfl | rfl | rfl | rfl | rfl | rfl | rfl | rfl | rfl | rfl | rfl | rfl | rfl | rfl | rfl | rfl | rfl | rfl | rfl | rfl | rfl | rfl | rfl | rfl | rfl | rfl | rfl
  · exact dsD1 d v
  · exact dsD2 d v
  · exact dsD3 d v
  · exact dsD4 d v
  · exact dsD5 d v
  · exact dsD6 d v
  · exact dsD7 d v
  · exact dsD8 d v
  · exact dsD9 d v
  · exact dsD10 d v
  · exact dsD11 d v
  · exact dsD12 d v
  · exact dsD13 d v
  · exact dsD14 d v
  · exact dsD15 d v
  · exact dsD16 d v
  · exact dsD17 d v
  · exact dsD18 d v
  · exact dsD19 d v
  · exact dsD20 d v
  · exact dsD21 d v
  · exact dsD22 d v
  · exact dsD23 d v
  · exact dsD24 d v
  · exact dsD25 d v
  · exact dsD26 d v
  · exact dsD27 d v
  · exact dsD28 d v
  · exact dsD29 d v
  · exact dsD30 d v
  · exact dsD31 d v
  · exact dsD32 d v
  · exact dsD33 d v
  · exact dsD34 d v
  · exact dsD35 d v
  · exact dsD36 d v
  · exact dsD37 d v
  · exact dsD38 d v
  · exact dsD39 d v
theorem dsStore {x c : Nat} (hx : x < 256) : seenS x c = willS x c := by
  by_cases h0 : x < 16
  · exact seenL_of (dsS0 c) (by omega) (by omega)
  by_cases h16 : x < 32
  · exact seenL_of (dsS16 c) (by omega) (by omega)
  by_cases h32 : x < 48
  · exact seenL_of (dsS32 c) (by omega) (by omega)
  by_cases h48 : x < 64
  · exact seenL_of (dsS48 c) (by omega) (by omega)
  by_cases h64 : x < 80
  · exact seenL_of (dsS64 c) (by omega) (by omega)
  by_cases h80 : x < 96
  · exact seenL_of (dsS80 c) (by omega) (by omega)
  by_cases h96 : x < 112
  · exact seenL_of (dsS96 c) (by omega) (by omega)
  by_cases h112 : x < 128
  · exact seenL_of (dsS112 c) (by omega) (by omega)
  by_cases h128 : x < 144
  · exact seenL_of (dsS128 c) (by omega) (by omega)
  by_cases h144 : x < 160
  · exact seenL_of (dsS144 c) (by omega) (by omega)
  by_cases h160 : x < 176
  · exact seenL_of (dsS160 c) (by omega) (by omega)
  by_cases h176 : x < 192
  · exact seenL_of (dsS176 c) (by omega) (by omega)
  by_cases h192 : x < 208
  · exact seenL_of (dsS192 c) (by omega) (by omega)
  by_cases h208 : x < 224
  · exact seenL_of (dsS208 c) (by omega) (by omega)
  by_cases h224 : x < 240
  · exact seenL_of (dsS224 c) (by omega) (by omega)
  exact seenL_of (dsS240 c) (by omega) (by omega)
theorem dsTell {m N v : Nat} (h1 : 1 ≤ m) (h2 : m < 41) : GoodT m N v := by
  rcases (by omega : m = 1 ∨ m = 2 ∨ m = 3 ∨ m = 4 ∨ m = 5 ∨ m = 6 ∨ m = 7 ∨ m = 8 ∨ m = 9 ∨ m = 10 ∨ m = 11 ∨ m = 12 ∨ m = 13 ∨ m = 14 ∨ m = 15 ∨ m = 16 ∨ m = 17 ∨ m = 18 ∨ m = 19 ∨ m = 20 ∨ m = 21 ∨ m = 22 ∨ m = 23 ∨ m = 24 ∨ m = 25 ∨ m = 26 ∨ m = 27 ∨ m = 28 ∨ m = 29 ∨ m = 30 ∨ m = 31 ∨ m = 32 ∨ m = 33 ∨ m = 34 ∨ m = 35 ∨ m = 36 ∨ m = 37 ∨ m = 38 ∨ m = 39 ∨ m = 40) with rfl | rfl | rfl | rfl | rfl | rfl | rfl | rfl | rfl | rfl | rfl | rfl | rfl | rfl | rfl | rfl | rfl | rfl | rfl | rfl | rfl | rfl | rfl | rfl | rfl | rfl | rfl | rfl | rfl | rfl | rfl | rfl | rfl | rfl | rfl | rfl | rfl | rfl | rfl | rfl
  · exact dsT1 N v
  · exact dsT2 N v
  · exact dsT3 N v
  · exact dsT4 N v
  · exact dsT5 N v
  · exact dsT6 N v
  · exact dsT7 N v
  · exact dsT8 N v
  · exact dsT9 N v
  · exact dsT10 N v
  · exact dsT11 N v
  · exact dsT12 N v
  · exact dsT13 N v
  · exact dsT14 N v
  · exact dsT15 N v
  · exact dsT16 N v
  · exact dsT17 N v
  · exact dsT18 N v
  · exact dsT19 N v
  · exact dsT20 N v
  · exact dsT21 N v
  · exact dsT22 N v
  · exact dsT23 N v
  · exact dsT24 N v
  · exact dsT25 N v
  · exact dsT26 N v
  · exact dsT27 N v
  · exact dsT28 N v
  · exact dsT29 N v
  · exact dsT30 N v
  · exact dsT31 N v
  · exact dsT32 N v
  · exact dsT33 N v
  · exact dsT34 N v
  · exact dsT35 N v
  · exact dsT36 N v
  · exact dsT37 N v
  · exact dsT38 N v
  · exact dsT39 N v
  · exact dsT40 N v
theorem loanShares_all {n v : Nat} : progI over tab (.f n_law19_LoanShares) [.int .u64 (n : Nat), .int .u64 (v : Nat)] ⟨0, .leaf⟩ fun v _ => v = .bool true :=
  loanShares_w (gdA n v) (gdC n v) (dsD0 n v) (fun _ _ h1 h2 h3 => dsRound h1 h2 h3) (fun _ h1 h2 => okFree_of gdF h1 (by omega)) (fun _ _ hx => dsStore hx) (fun _ _ h1 h2 => dsTell h1 h2) fun _ hx => okX_of dsX hx
end Go.Proofs.YtlkfclgkinaibaaGreat

namespace Go.Proofs.YtlkfclgkinaibaaGreat
open Go.RowKit Go.Maps Go.Sort Go.Shelf
theorem Rel.fresh {Λ : Lam} {μ : Mu} {h : AHeap} {w w' : World} (r : Rel Λ μ h w) (hb : Below w.heap.size w w') (o : AObj) (l : Loc) (hl : w.heap.size ≤ l.block) (hl' : l.block < w'.heap.size) (ho : ∀ μ', Ext μ μ' → ObjR Λ μ' w' l o) :
    Rel Λ (μ.with h.next l) (h.new o) w' ∧ Step μ h w (μ.with h.next l) (h.new o) w' := by
  have hno : μ h.next = none := by
    cases e : μ h.next with
    | none => rfl
    | some k => have := (r.dom _ _ e).1; omega
  have hext : Ext μ (μ.with h.next l) := Ext.with l hno
  have hsame : (h.new o).get h.next = some o := AHeap.get_new_same h o
  have hcase : ∀ id o', (h.new o).get id = some o' → (id = h.next ∧ o' = o) ∨ (id ≠ h.next ∧ h.get id = some o') := by
    intro id o' hg
    by_cases hi : id = h.next
    · subst hi; rw [hsame] at hg; cases hg; exact .inl ⟨rfl, rfl⟩
    · rw [AHeap.get_new_ne h _ (fun e => hi e.symm)] at hg; exact .inr ⟨hi, hg⟩
  have hm : ∀ id k, id ≠ h.next → (μ.with h.next l) id = some k → μ id = some k := fun id k hi hk => by rw [Mu.with_ne _ _ hi] at hk; exact hk
  have hm0 : ∀ k, (μ.with h.next l) h.next = some k → k = l := fun k hk => by rw [Mu.with_same] at hk; cases hk; rfl
  refine ⟨⟨fun id o' hg => ?_, fun i j oi oj li lj hi hj hne hrw hli hlj => ?_, fun id k hk => ?_⟩, ⟨hext, by simp only [AHeap.new]; omega, fun id hid => Mu.with_ne _ _ (by omega), hb.os, hb.tape, hb.output, hb.size, fun b hb' _ => hb.block b hb', fun id o' k h1 h2 h3 => ?_, fun id o' k h1 h3 => ?_⟩⟩
  · rcases hcase id o' hg with ⟨rfl, rfl⟩ | ⟨hi, hg⟩
    · exact ⟨l, Mu.with_same _ _ _, ho _ hext⟩
    · obtain ⟨k, hk, hobj⟩ := r.obj id o' hg
      exact ⟨k, hext _ _ hk, ObjR.ext hext hobj (hb.block _ (r.dom _ _ hk).2)⟩
  · rcases hcase i oi hi with ⟨rfl, rfl⟩ | ⟨hin, hig⟩
    · have e1 := hm0 _ hli
      subst e1
      rcases hcase j oj hj with ⟨e, _⟩ | ⟨hjn, hjg⟩
      · exact absurd e.symm hne
      · have := (r.dom _ _ (hm _ _ hjn hlj)).2
        omega
    · rcases hcase j oj hj with ⟨rfl, rfl⟩ | ⟨hjn, hjg⟩
      · have e1 := hm0 _ hlj
        subst e1
        have := (r.dom _ _ (hm _ _ hin hli)).2
        omega
      · exact r.inj i j oi oj li lj hig hjg hne hrw (hm _ _ hin hli) (hm _ _ hjn hlj)
  · by_cases hi : id = h.next
    · subst hi
      have e1 := hm0 _ hk
      subst e1
      exact ⟨by simp [AHeap.new], hl'⟩
    · have := r.dom _ _ (hm _ _ hi hk)
      exact ⟨by simp only [AHeap.new]; omega, Nat.lt_of_lt_of_le this.2 hb.size⟩
  · rcases hcase id o' h1 with ⟨rfl, rfl⟩ | ⟨hi, hg⟩
    · have e1 := hm0 _ h3
      subst e1
      exact .inl hl
    · exact .inr ⟨id, o', k, hg, h2, hm _ _ hi h3, rfl⟩
  · rcases hcase id o' h1 with ⟨rfl, rfl⟩ | ⟨hi, hg⟩
    · have e1 := hm0 _ h3
      subst e1
      exact .inl hl
    · exact .inr ⟨id, o', k, hg, hm _ _ hi h3, rfl⟩
theorem keys_rel {μ : Mu} : ∀ {es : List (AV × AV × Nat)} {ks : List Int} {cs : List MapEntry}, KeysAre es ks → EntR μ es cs → cs.map (·.key) = ks.map encZ ∧ cs.map (·.born) = es.map (·.2.2)
  | [], ks, cs, hk, he => by
    simp only [KeysAre] at hk
    simp only [EntR] at he
    subst hk he
    exact ⟨rfl, rfl⟩
  | (k, v, b) :: es, ks, cs, hk, he => by
    simp only [KeysAre] at hk
    simp only [EntR] at he
    obtain ⟨n, ns, rfl, rfl, hk⟩ := hk
    obtain ⟨c, cs, rfl, h1, _, h3, he⟩ := he
    obtain ⟨p, q⟩ := keys_rel hk he
    simp only [VR] at h1
    exact ⟨by simp only [List.map_cons, p, h1], by simp only [List.map_cons, q, h3]⟩
theorem insert_perm {H : Type} (x : Lit × DataW H) : ∀ l : List (Lit × DataW H), (DataW.insert x l).Perm (x :: l)
  | [] => List.Perm.refl _
  | y :: r => by
    simp only [DataW.insert]
    split
    · exact List.Perm.refl _
    · exact ((insert_perm x r).cons y).trans (List.Perm.swap x y r)
theorem inserts_perm {H : Type} : ∀ l : List (Lit × DataW H), (l.foldr DataW.insert []).Perm l
  | [] => List.Perm.refl _
  | x :: l => (insert_perm x _).trans ((inserts_perm l).cons x)
def vInt : Value → Int
  | .int _ k => k
  | _ => 0
theorem sorted_sound {P : Program} {Λ : Lam} {ρ' ρ'' : Go.Shelf.Ren} (Ls : SlLaysZI.n6 P ρ') (Lo : SlLaysM.n5 P ρ'') (h9 : ρ'.f 9 = ρ''.f 5) {gs : List Nat} (hg : ∀ g, g ∈ gs → ∃ ρ, SlLaysZI.n10 P ρ ∧ ρ.f 10 = g) :
    FSound P Λ (ρ'.f 6) (sortedF gs (ρ'.t 26)) := by
  intro args h Q μ w cargs hF hr hv cs
  obtain ⟨g, X, e, M, es, clock, ks, hgm, rfl, hX, hM, hks, hbd, hnd, hst, hbn, hlen, hne, hQ⟩ := hF
  obtain ⟨ρ, Lk, rfl⟩ := hg g hgm
  simp only [VRL, VR] at hv
  obtain ⟨c, cs1, rfl, ⟨a, b, rfl, ⟨p, ps, rfl, ⟨lX, hlX, rfl⟩, rfl⟩, rfl⟩, rfl⟩ := hv
  obtain ⟨lX', hlX', cc, fr, hb, hget, hrw⟩ := hr.obj X _ hX
  rw [hlX] at hlX'; cases hlX'
  obtain ⟨_, _, _, hoff⟩ := hrw rfl
  have hoff := (hoff rfl).2
  obtain ⟨cv, hcv, hvr, _⟩ := hget 0 (.map M) rfl
  simp only [VR] at hvr
  obtain ⟨lM, hlM, rfl⟩ := hvr
  obtain ⟨lM', hlM', cl, hbM, hent⟩ := hr.obj M _ hM
  rw [hlM] at hlM'; cases hlM'
  obtain ⟨hkey, hborn⟩ := keys_rel hks hent
  have hoff2 : lX.off + 0 = 0 := by omega
  rw [hoff2]
  rw [show lX.off + 0 = 0 by omega] at hcv
  have hcell : w.cell? ⟨lX.block, 0, none⟩ = some (.map (some lM.block)) := by
    simp [World.cell?, hb, hcv]
  have hBm := (hr.dom _ _ hlX).2
  have hbl := (hr.dom _ _ hlM).2
  let R : Value → Option (DataW Unit × List MemPlace) := fun _ => some (.nil, [])
  have hlenk : cl.length = ks.length := by have := congrArg List.length hkey; simpa using this
  have hkof : ∀ x, x ∈ cl → ∃ k, k ∈ ks ∧ x.key = encZ k := by
    intro x hx
    have : x.key ∈ cl.map (·.key) := List.mem_map.2 ⟨x, hx, rfl⟩
    rw [hkey] at this
    obtain ⟨k, hk, e⟩ := List.mem_map.1 this
    exact ⟨k, hk, e.symm⟩
  have hrd : ∀ x, x ∈ cl → ∃ k, x.key = encZ k ∧ Go.WideElems.rd P (ρ.t 26) R x = some (.int .i64 k, .nil) := by
    intro x hx
    obtain ⟨k, hk, e⟩ := hkof x hx
    have hw : (Lit.int .i64 k).wf = true := by
      have := hbd k hk
      simp only [Lit.wf, Bool.and_eq_true, decide_eq_true_eq]
      exact this
    refine ⟨k, e, ?_⟩
    have hkk : keyOf P (ρ.t 26) x.key = some (.int .i64 k) := by rw [e]; exact keyOf_int_mk Lk.t26 hw
    simp only [Go.WideElems.rd, hkk, R, Option.bind_some, Option.map_some]
  have hrg : cl.map (fun x => Go.intOf (Go.WideElems.rg P (ρ.t 26) R x).1) = ks := by
    have e1 : cl.map (fun x => Go.intOf (Go.WideElems.rg P (ρ.t 26) R x).1) = (cl.map (·.key)).map vInt := by
      rw [List.map_map]
      refine List.map_congr_left fun x hx => ?_
      obtain ⟨k, e, hk⟩ := hrd x hx
      simp only [Go.WideElems.rg, hk, Option.getD_some, Go.intOf, Function.comp, e, vInt]
    rw [e1, hkey, List.map_map]
    conv => rhs; rw [← List.map_id ks]
    rfl
  have hfit : Go.WideElems.Fit P (ρ.t 26) R cl.toArray clock := by
    refine ⟨?_, ⟨?_, ?_, ?_⟩, ?_⟩
    · have : (1000000 : Nat) ≤ maxLen := by decide
      simp only [List.size_toArray]; omega
    · intro x hx
      have hx : x ∈ cl := by simpa using hx
      have : x.born ∈ cl.map (·.born) := List.mem_map.2 ⟨x, hx, rfl⟩
      rw [hborn] at this
      obtain ⟨y, hy, e⟩ := List.mem_map.1 this
      rw [← e]
      exact hst y hy
    · rw [show cl.toArray.toList = cl from rfl, hborn]; exact hbn
    · rw [show cl.toArray.toList = cl from rfl, hkey]
      exact List.Pairwise.map _ (fun a b hab e => hab (encZ_inj e)) hnd
    · intro x hx
      obtain ⟨k, _, hk⟩ := hrd x (by simpa using hx)
      exact ⟨_, hk⟩
  let D0 : DataW Unit := .map ((cl.map (Go.WideElems.rg P (ρ.t 26) R)).foldr DataW.insert [])
  have hown : w.ownsMap P (ρ.t 26) R lM.block cl.length D0 := ⟨cl.toArray, clock, hbM, hfit, by simp, rfl⟩
  have hik : (intKeys D0).Perm ks := by
    show (((cl.map (Go.WideElems.rg P (ρ.t 26) R)).foldr DataW.insert []).map fun p => Go.intOf p.1).Perm ks
    refine ((inserts_perm _).map _).trans ?_
    rw [List.map_map]
    exact List.Perm.of_eq hrg
  have hsz : Maps.size D0 = ks.length := by
    show ((cl.map (Go.WideElems.rg P (ρ.t 26) R)).foldr DataW.insert []).length = _
    rw [(inserts_perm _).length_eq, List.length_map, hlenk]
  have hmax : Maps.size D0 ≤ maxLen := by
    have : (1000000 : Nat) ≤ maxLen := by decide
    rw [hsz]; omega
  have hbytes : Maps.size D0 * 8 ≤ 140737488355328 := by rw [hsz]; omega
  have hseq : SeqGives Fence.wide 2 P (ρ.f 10) #[.pointer (some ⟨lX.block, 0, none⟩)] encZ (fun ss => ss.Perm (intKeys D0)) (Maps.size D0) w :=
    AnyZI.keys_gives Lk Fence.wide _ trivial rfl (by omega) lX.block lM.block cl.length D0 w hBm hcell hown
  have hsorts : AnyZI.SortsIn P ρ' Fence.wide 4 := by
    unfold AnyZI.SortsIn
    rw [h9]
    exact ⟨fun blk off cap ss W hH hblk hsz => callsIn_wide.2 (AnyM.slices_Sort_int Lo blk off cap ss W hH hblk hsz), fun p cap W => callsIn_wide.2 (AnyM.slices_Sort_int_none Lo p cap W)⟩
  have e9 : ∀ args w, (callFunc (ρ'.f 9) args).run P w = .ok (.enter (ρ'.f 9) args) w := by
    rw [h9]; exact Lo.f5.enters rfl
  have cS := callsIn_wide.1 (AnyZI.sorted_in Ls Fence.wide 5 trivial trivial trivial trivial rfl (by omega) hsorts e9 (ρ.f 10) #[.pointer (some ⟨lX.block, 0, none⟩)] trivial (Lk.f10.enters rfl) _ _ hmax hbytes w hseq)
  obtain ⟨e', w', fr', ⟨v, ss, rfl, hS, hrow, hnil, hbelow⟩, hcomes, hfn, hleave⟩ := cS cs
  have hperm : ss.Perm ks := hS.trans hik
  have hsslen : ss.length = ks.length := hperm.length_eq
  have hms : ss.mergeSort leI = ks.mergeSort leI := mergeSort_of_perm_i hperm
  rcases hrow.2 with ⟨rfl, hz⟩ | ⟨gb, cap, cur, rfl, hbase, hgb, r1, r2, r3, r4⟩
  · exact absurd (List.eq_nil_of_length_eq_zero (by omega)) hne
  · have hgl : gb < w'.heap.size := (Array.getElem?_eq_some_iff.1 hgb).1
    have hxs : (ss.mergeSort fun x y => decide (x ≤ y)) = ks.mergeSort leI := hms
    rw [hxs] at r4
    have hml : (ks.mergeSort leI).length = ks.length := (List.mergeSort_perm ks leI).length_eq
    obtain ⟨hrel, hstep⟩ := hr.fresh hbelow (.row (ρ'.t 26) 1 true false (.vals ((ks.mergeSort leI).map (.int .i64)))) ⟨gb, 0, cap⟩ hbase hgl (fun μ' hx => by
      refine ⟨cur, (0, 0), hgb, fun i v hi => ?_, fun _ => ⟨rfl, by simpa using r3, ?_, fun e => (by cases e)⟩⟩
      · have hi : ((ks.mergeSort leI).map (AV.int .i64))[i]? = some v := hi
        rw [List.getElem?_map] at hi
        obtain ⟨z, hz, rfl⟩ := Option.map_eq_some_iff.1 hi
        have hil : i < ks.length := by
          have := (List.getElem?_eq_some_iff.1 hz).1; omega
        have : (cur.toList.take (ss.length * 1))[i]? = some (encZ z) := by rw [r4, List.getElem?_map, hz]; rfl
        rw [List.getElem?_take_of_lt (by omega)] at this
        refine ⟨encZ z, by simpa using this, by simp [VR], rfl⟩
      · show ((ks.mergeSort leI).map (AV.int .i64)).length ≤ cap * 1
        rw [List.length_map, hml]; omega)
    refine ⟨_, _, fr', w', _, _, hQ, hcomes, hfn, hleave, ?_, hrel, hstep⟩
    simp only [VR]
    exact ⟨⟨gb, 0, cap⟩, Mu.with_same _ _ _, by simp only; omega, by simp only [Nat.zero_mul, Nat.add_zero, Nat.sub_zero, hsslen]⟩
end Go.Proofs.YtlkfclgkinaibaaGreat
