/- BY PROGRAM (wip/tool/shake.py): own texts, one behind the other, without what is not needed. -/
import Derived.Control
import Derived.Calls
import Derived.KernelRfl
import Derived.Laws.Sem
import Derived.Laws.Cells
import Derived.Laws.World
import GoSem.Dispatch
import Derived.Laws.StructEq
import Derived.IntWalk
import Derived.WideKeyRuns
import Derived.Laws.BytesArg
import Derived.Orders
import Derived.ChangeArms
import Derived.OpenShut
import Derived.ChangeShapes
import Derived.ProofKit
import Derived.Test.YtlkfclgkinaibaaGreatProg
import Derived.Shelf.SlIterI.Nil
import Derived.Shelf.SortM.Plain
import Derived.Shelf.SortM.SortNone
import Derived.Test.YtlkfclgkinaibaaGreatZKCT8
import Derived.Test.YtlkfclgkinaibaaGreatAKCCa
import Derived.Test.YtlkfclgkinaibaaGreatAKCCb
import Derived.Test.YtlkfclgkinaibaaGreatAKCCc
import Derived.Test.YtlkfclgkinaibaaGreatAKCCd
import Derived.Test.YtlkfclgkinaibaaGreatAKCCe
import Derived.Test.YtlkfclgkinaibaaGreatAKCCf
import Derived.Test.YtlkfclgkinaibaaGreatAKCCg
import Derived.Test.YtlkfclgkinaibaaGreatAKCCh
import Derived.Test.YtlkfclgkinaibaaGreatAKCCi
import Derived.Test.YtlkfclgkinaibaaGreatAKCCj
import Derived.Test.YtlkfclgkinaibaaGreatAKCCk
import Derived.Test.YtlkfclgkinaibaaGreatAKCCl
import Derived.Test.YtlkfclgkinaibaaGreatAKCCm
import Derived.Test.YtlkfclgkinaibaaGreatAKCCn
import Derived.Test.YtlkfclgkinaibaaGreatAKCCo
import Derived.Test.YtlkfclgkinaibaaGreatAKCCp
import Derived.Test.YtlkfclgkinaibaaGreatAKCCq
import Derived.Test.YtlkfclgkinaibaaGreatAKCCr
import Derived.Test.YtlkfclgkinaibaaGreatAKCCs
import Derived.Test.YtlkfclgkinaibaaGreatAKCCt
import Derived.Test.YtlkfclgkinaibaaGreatAKCCu
import Derived.Test.YtlkfclgkinaibaaGreatAKCCv
import Derived.Test.YtlkfclgkinaibaaGreatAKCCw
import Derived.Test.YtlkfclgkinaibaaGreatAKCCx
import Derived.Test.YtlkfclgkinaibaaGreatAKCCy
import Derived.Test.YtlkfclgkinaibaaGreatAKCCz
import Derived.Test.YtlkfclgkinaibaaGreatAKCCza
import Derived.Test.YtlkfclgkinaibaaGreatAKCCzb
import Derived.Test.YtlkfclgkinaibaaGreatAKCCzc
import Derived.Test.YtlkfclgkinaibaaGreatAKCCzd
import Derived.Test.YtlkfclgkinaibaaGreatAKCCze
import Derived.Test.YtlkfclgkinaibaaGreatAKCCzf
import Derived.Test.YtlkfclgkinaibaaGreatAKCCzg
import Derived.Test.YtlkfclgkinaibaaGreatAKCCzh
import Derived.Test.YtlkfclgkinaibaaGreatAKCCzi

namespace Go.Proofs.YtlkfclgkinaibaaGreat
theorem dsAll1 {q : Nat} (hq : q < 1) : runB H1 1 q = true := by
  exact okB_of dsB1_0 (by omega) (by omega)
theorem dsAll2 {q : Nat} (hq : q < 2) : runB H2 2 q = true := by
  exact okB_of dsB2_0 (by omega) (by omega)
theorem dsAll3 {q : Nat} (hq : q < 3) : runB H3 3 q = true := by
  exact okB_of dsB3_0 (by omega) (by omega)
theorem dsAll4 {q : Nat} (hq : q < 4) : runB H4 4 q = true := by
  by_cases h0 : q < 3
  · exact okB_of dsB4_0 (by omega) (by omega)
  exact okB_of dsB4_3 (by omega) (by omega)
theorem dsAll5 {q : Nat} (hq : q < 5) : runB H5 5 q = true := by
  by_cases h0 : q < 3
  · exact okB_of dsB5_0 (by omega) (by omega)
  exact okB_of dsB5_3 (by omega) (by omega)
theorem dsAll6 {q : Nat} (hq : q < 6) : runB H6 6 q = true := by
  by_cases h0 : q < 3
  · exact okB_of dsB6_0 (by omega) (by omega)
  exact okB_of dsB6_3 (by omega) (by omega)
theorem dsAll7 {q : Nat} (hq : q < 7) : runB H7 7 q = true := by
  by_cases h0 : q < 3
  · exact okB_of dsB7_0 (by omega) (by omega)
  by_cases h1 : q < 6
  · exact okB_of dsB7_3 (by omega) (by omega)
  exact okB_of dsB7_6 (by omega) (by omega)
theorem dsAll8 {q : Nat} (hq : q < 8) : runB H8 8 q = true := by
  by_cases h0 : q < 3
  · exact okB_of dsB8_0 (by omega) (by omega)
  by_cases h1 : q < 6
  · exact okB_of dsB8_3 (by omega) (by omega)
  exact okB_of dsB8_6 (by omega) (by omega)
theorem dsAll9 {q : Nat} (hq : q < 9) : runB H9 9 q = true := by
  by_cases h0 : q < 3
  · exact okB_of dsB9_0 (by omega) (by omega)
  by_cases h1 : q < 6
  · exact okB_of dsB9_3 (by omega) (by omega)
  exact okB_of dsB9_6 (by omega) (by omega)
theorem dsAll10 {q : Nat} (hq : q < 10) : runB H10 10 q = true := by
  by_cases h0 : q < 3
  · exact okB_of dsB10_0 (by omega) (by omega)
  by_cases h1 : q < 6
  · exact okB_of dsB10_3 (by omega) (by omega)
  by_cases h2 : q < 9
  · exact okB_of dsB10_6 (by omega) (by omega)
  exact okB_of dsB10_9 (by omega) (by omega)
theorem dsAll11 {q : Nat} (hq : q < 11) : runB H11 11 q = true := by
  by_cases h0 : q < 3
  · exact okB_of dsB11_0 (by omega) (by omega)
  by_cases h1 : q < 6
  · exact okB_of dsB11_3 (by omega) (by omega)
  by_cases h2 : q < 9
  · exact okB_of dsB11_6 (by omega) (by omega)
  exact okB_of dsB11_9 (by omega) (by omega)
theorem dsAll12 {q : Nat} (hq : q < 12) : runB H12 12 q = true := by
  by_cases h0 : q < 3
  · exact okB_of dsB12_0 (by omega) (by omega)
  by_cases h1 : q < 6
  · exact okB_of dsB12_3 (by omega) (by omega)
  by_cases h2 : q < 9
  · exact okB_of dsB12_6 (by omega) (by omega)
  exact okB_of dsB12_9 (by omega) (by omega)
theorem kernCopies_all {n keep : Nat} : progI over tab (.f n_law18_KernCopies) [.int .u64 (n : Nat), .int .u64 (keep : Nat)] ⟨0, .leaf⟩ fun v _ => v = .bool true := by
  refine kernCopies_w fun m h1 h2 => ?_
  rcases (by omega : m = 1 ∨ m = 2 ∨ m = 3 ∨ m = 4 ∨ m = 5 ∨ m = 6 ∨ m = 7 ∨ m = 8 ∨ m = 9 ∨ m = 10 ∨ m = 11 ∨ m = 12) with rfl | rfl | rfl | rfl | rfl | rfl | rfl | rfl | rfl | rfl | rfl | rfl
  · exact ⟨H1, 7123, dsA1 keep, fun q hq => dsAll1 hq⟩
  · exact ⟨H2, 7446, dsA2 keep, fun q hq => dsAll2 hq⟩
  · exact ⟨H3, 7778, dsA3 keep, fun q hq => dsAll3 hq⟩
  · exact ⟨H4, 8123, dsA4 keep, fun q hq => dsAll4 hq⟩
  · exact ⟨H5, 8481, dsA5 keep, fun q hq => dsAll5 hq⟩
  · exact ⟨H6, 8894, dsA6 keep, fun q hq => dsAll6 hq⟩
  · exact ⟨H7, 9308, dsA7 keep, fun q hq => dsAll7 hq⟩
  · exact ⟨H8, 9723, dsA8 keep, fun q hq => dsAll8 hq⟩
  · exact ⟨H9, 10139, dsA9 keep, fun q hq => dsAll9 hq⟩
  · exact ⟨H10, 10556, dsA10 keep, fun q hq => dsAll10 hq⟩
  · exact ⟨H11, 10974, dsA11 keep, fun q hq => dsAll11 hq⟩
  · exact ⟨H12, 11393, dsA12 keep, fun q hq => dsAll12 hq⟩
end Go.Proofs.YtlkfclgkinaibaaGreat

namespace Go.Proofs.YtlkfclgkinaibaaGreat
open Go.RowKit Go.Maps Go.Sort Go.Shelf
theorem Rel.fresh {Λ : Lam} {μ : Mu} {h : AHeap} {w w' : World} (r : Rel Λ μ h w) (hb : Below w.heap.size w w') (o : AObj) (l : Loc) (hl : w.heap.size ≤ l.block) (hl' : l.block < w'.heap.size) (ho : ∀ μ', Ext μ μ' → ObjR Λ μ' w' l o) :
    Rel Λ (μ.with h.next l) (h.new o) w' ∧ Step μ h w (μ.with h.next l) (h.new o) w' := by
  have hno : μ h.next = none := by
    cases e : μ h.next with
    | none => rfl
    | some k => have := (r.dom _ _ e).1; omega
  have hext : Ext μ (μ.with h.next l) := Ext.with l hno
  have hsame : (h.new o).get h.next = some o := AHeap.get_new_same h o
  have hcase : ∀ id o', (h.new o).get id = some o' → (id = h.next ∧ o' = o) ∨ (id ≠ h.next ∧ h.get id = some o') := by
    intro id o' hg
    by_cases hi : id = h.next
    · subst hi; rw [hsame] at hg; cases hg; exact .inl ⟨rfl, rfl⟩
    · rw [AHeap.get_new_ne h _ (fun e => hi e.symm)] at hg; exact .inr ⟨hi, hg⟩
  have hm : ∀ id k, id ≠ h.next → (μ.with h.next l) id = some k → μ id = some k := fun id k hi hk => by rw [Mu.with_ne _ _ hi] at hk; exact hk
  have hm0 : ∀ k, (μ.with h.next l) h.next = some k → k = l := fun k hk => by rw [Mu.with_same] at hk; cases hk; rfl
  refine ⟨⟨fun id o' hg => ?_, fun i j oi oj li lj hi hj hne hrw hli hlj => ?_, fun id k hk => ?_⟩, ⟨hext, by simp only [AHeap.new]; omega, fun id hid => Mu.with_ne _ _ (by omega), hb.os, hb.tape, hb.output, hb.size, fun b hb' _ => hb.block b hb', fun id o' k h1 h2 h3 => ?_, fun id o' k h1 h3 => ?_⟩⟩
  · rcases hcase id o' hg with ⟨rfl, rfl⟩ | ⟨hi, hg⟩
    · exact ⟨l, Mu.with_same _ _ _, ho _ hext⟩
    · obtain ⟨k, hk, hobj⟩ := r.obj id o' hg
      exact ⟨k, hext _ _ hk, ObjR.ext hext hobj (hb.block _ (r.dom _ _ hk).2)⟩
  · rcases hcase i oi hi with ⟨rfl, rfl⟩ | ⟨hin, hig⟩
    · have e1 := hm0 _ hli
      subst e1
      rcases hcase j oj hj with ⟨e, _⟩ | ⟨hjn, hjg⟩
      · exact absurd e.symm hne
      · have := (r.dom _ _ (hm _ _ hjn hlj)).2
        omega
    · rcases hcase j oj hj with ⟨rfl, rfl⟩ | ⟨hjn, hjg⟩
      · have e1 := hm0 _ hlj
        subst e1
        have := (r.dom _ _ (hm _ _ hin hli)).2
        omega
      · exact r.inj i j oi oj li lj hig hjg hne hrw (hm _ _ hin hli) (hm _ _ hjn hlj)
  · by_cases hi : id = h.next
    · subst hi
      have e1 := hm0 _ hk
      subst e1
      exact ⟨by simp [AHeap.new], hl'⟩
    · have := r.dom _ _ (hm _ _ hi hk)
      exact ⟨by simp only [AHeap.new]; omega, Nat.lt_of_lt_of_le this.2 hb.size⟩
  · rcases hcase id o' h1 with ⟨rfl, rfl⟩ | ⟨hi, hg⟩
    · have e1 := hm0 _ h3
      subst e1
      exact .inl hl
    · exact .inr ⟨id, o', k, hg, h2, hm _ _ hi h3, rfl⟩
  · rcases hcase id o' h1 with ⟨rfl, rfl⟩ | ⟨hi, hg⟩
    · have e1 := hm0 _ h3
      subst e1
      exact .inl hl
    · exact .inr ⟨id, o', k, hg, hm _ _ hi h3, rfl⟩
theorem keys_rel {μ : Mu} : ∀ {es : List (AV × AV × Nat)} {ks : List Int} {cs : List MapEntry}, KeysAre es ks → EntR μ es cs → cs.map (·.key) = ks.map encZ ∧ cs.map (·.born) = es.map (·.2.2)
  | [], ks, cs, hk, he => by
    simp only [KeysAre] at hk
    simp only [EntR] at he
    subst hk he
    exact ⟨rfl, rfl⟩
  | (k, v, b) :: es, ks, cs, hk, he => by
    simp only [KeysAre] at hk
    simp only [EntR] at he
    obtain ⟨n, ns, rfl, rfl, hk⟩ := hk
    obtain ⟨c, cs, rfl, h1, _, h3, he⟩ := he
    obtain ⟨p, q⟩ := keys_rel hk he
    simp only [VR] at h1
    exact ⟨by simp only [List.map_cons, p, h1], by simp only [List.map_cons, q, h3]⟩
theorem insert_perm {H : Type} (x : Lit × DataW H) : ∀ l : List (Lit × DataW H), (DataW.insert x l).Perm (x :: l)
  | [] => List.Perm.refl _
  | y :: r => by
    simp only [DataW.insert]
    split
    · exact List.Perm.refl _
    · exact ((insert_perm x r).cons y).trans (List.Perm.swap x y r)
theorem inserts_perm {H : Type} : ∀ l : List (Lit × DataW H), (l.foldr DataW.insert []).Perm l
  | [] => List.Perm.refl _
  | x :: l => (insert_perm x _).trans ((inserts_perm l).cons x)
def vInt : Value → Int
  | .int _ k => k
  | _ => 0
theorem sorted_sound {P : Program} {Λ : Lam} {ρ' ρ'' : Go.Shelf.Ren} (Ls : SlLaysZI.n6 P ρ') (Lo : SlLaysM.n5 P ρ'') (h9 : ρ'.f 9 = ρ''.f 5) {gs : List Nat} (hg : ∀ g, g ∈ gs → ∃ ρ, SlLaysZI.n10 P ρ ∧ ρ.f 10 = g) :
    FSound P Λ (ρ'.f 6) (sortedF gs (ρ'.t 26)) := by
  intro args h Q μ w cargs hF hr hv cs
  obtain ⟨g, X, e, M, es, clock, ks, hgm, rfl, hX, hM, hks, hbd, hnd, hst, hbn, hlen, hne, hQ⟩ := hF
  obtain ⟨ρ, Lk, rfl⟩ := hg g hgm
  simp only [VRL, VR] at hv
  obtain ⟨c, cs1, rfl, ⟨a, b, rfl, ⟨p, ps, rfl, ⟨lX, hlX, rfl⟩, rfl⟩, rfl⟩, rfl⟩ := hv
  obtain ⟨lX', hlX', cc, fr, hb, hget, hrw⟩ := hr.obj X _ hX
  rw [hlX] at hlX'; cases hlX'
  obtain ⟨_, _, _, hoff⟩ := hrw rfl
  have hoff := (hoff rfl).2
  obtain ⟨cv, hcv, hvr, _⟩ := hget 0 (.map M) rfl
  simp only [VR] at hvr
  obtain ⟨lM, hlM, rfl⟩ := hvr
  obtain ⟨lM', hlM', cl, hbM, hent⟩ := hr.obj M _ hM
  rw [hlM] at hlM'; cases hlM'
  obtain ⟨hkey, hborn⟩ := keys_rel hks hent
  have hoff2 : lX.off + 0 = 0 := by omega
  rw [hoff2]
  rw [show lX.off + 0 = 0 by omega] at hcv
  have hcell : w.cell? ⟨lX.block, 0, none⟩ = some (.map (some lM.block)) := by
    simp [World.cell?, hb, hcv]
  have hBm := (hr.dom _ _ hlX).2
  have hbl := (hr.dom _ _ hlM).2
  let R : Value → Option (DataW Unit × List MemPlace) := fun _ => some (.nil, [])
  have hlenk : cl.length = ks.length := by have := congrArg List.length hkey; simpa using this
  have hkof : ∀ x, x ∈ cl → ∃ k, k ∈ ks ∧ x.key = encZ k := by
    intro x hx
    have : x.key ∈ cl.map (·.key) := List.mem_map.2 ⟨x, hx, rfl⟩
    rw [hkey] at this
    obtain ⟨k, hk, e⟩ := List.mem_map.1 this
    exact ⟨k, hk, e.symm⟩
  have hrd : ∀ x, x ∈ cl → ∃ k, x.key = encZ k ∧ Go.WideElems.rd P (ρ.t 26) R x = some (.int .i64 k, .nil) := by
    intro x hx
    obtain ⟨k, hk, e⟩ := hkof x hx
    have hw : (Lit.int .i64 k).wf = true := by
      have := hbd k hk
      simp only [Lit.wf, Bool.and_eq_true, decide_eq_true_eq]
      exact this
    refine ⟨k, e, ?_⟩
    have hkk : keyOf P (ρ.t 26) x.key = some (.int .i64 k) := by rw [e]; exact keyOf_int_mk Lk.t26 hw
    simp only [Go.WideElems.rd, hkk, R, Option.bind_some, Option.map_some]
  have hrg : cl.map (fun x => Go.intOf (Go.WideElems.rg P (ρ.t 26) R x).1) = ks := by
    have e1 : cl.map (fun x => Go.intOf (Go.WideElems.rg P (ρ.t 26) R x).1) = (cl.map (·.key)).map vInt := by
      rw [List.map_map]
      refine List.map_congr_left fun x hx => ?_
      obtain ⟨k, e, hk⟩ := hrd x hx
      simp only [Go.WideElems.rg, hk, Option.getD_some, Go.intOf, Function.comp, e, vInt]
    rw [e1, hkey, List.map_map]
    conv => rhs; rw [← List.map_id ks]
    rfl
  have hfit : Go.WideElems.Fit P (ρ.t 26) R cl.toArray clock := by
    refine ⟨?_, ⟨?_, ?_, ?_⟩, ?_⟩
    · have : (1000000 : Nat) ≤ maxLen := by decide
      simp only [List.size_toArray]; omega
    · intro x hx
      have hx : x ∈ cl := by simpa using hx
      have : x.born ∈ cl.map (·.born) := List.mem_map.2 ⟨x, hx, rfl⟩
      rw [hborn] at this
      obtain ⟨y, hy, e⟩ := List.mem_map.1 this
      rw [← e]
      exact hst y hy
    · rw [show cl.toArray.toList = cl from rfl, hborn]; exact hbn
    · rw [show cl.toArray.toList = cl from rfl, hkey]
      exact List.Pairwise.map _ (fun a b hab e => hab (encZ_inj e)) hnd
    · intro x hx
      obtain ⟨k, _, hk⟩ := hrd x (by simpa using hx)
      exact ⟨_, hk⟩
  let D0 : DataW Unit := .map ((cl.map (Go.WideElems.rg P (ρ.t 26) R)).foldr DataW.insert [])
  have hown : w.ownsMap P (ρ.t 26) R lM.block cl.length D0 := ⟨cl.toArray, clock, hbM, hfit, by simp, rfl⟩
  have hik : (intKeys D0).Perm ks := by
    show (((cl.map (Go.WideElems.rg P (ρ.t 26) R)).foldr DataW.insert []).map fun p => Go.intOf p.1).Perm ks
    refine ((inserts_perm _).map _).trans ?_
    rw [List.map_map]
    exact List.Perm.of_eq hrg
  have hsz : Maps.size D0 = ks.length := by
    show ((cl.map (Go.WideElems.rg P (ρ.t 26) R)).foldr DataW.insert []).length = _
    rw [(inserts_perm _).length_eq, List.length_map, hlenk]
  have hmax : Maps.size D0 ≤ maxLen := by
    have : (1000000 : Nat) ≤ maxLen := by decide
    rw [hsz]; omega
  have hbytes : Maps.size D0 * 8 ≤ 140737488355328 := by rw [hsz]; omega
  have hseq : SeqGives Fence.wide 2 P (ρ.f 10) #[.pointer (some ⟨lX.block, 0, none⟩)] encZ (fun ss => ss.Perm (intKeys D0)) (Maps.size D0) w :=
    AnyZI.keys_gives Lk Fence.wide _ trivial rfl (by omega) lX.block lM.block cl.length D0 w hBm hcell hown
  have hsorts : AnyZI.SortsIn P ρ' Fence.wide 4 := by
    unfold AnyZI.SortsIn
    rw [h9]
    exact ⟨fun blk off cap ss W hH hblk hsz => callsIn_wide.2 (AnyM.slices_Sort_int Lo blk off cap ss W hH hblk hsz), fun p cap W => callsIn_wide.2 (AnyM.slices_Sort_int_none Lo p cap W)⟩
  have e9 : ∀ args w, (callFunc (ρ'.f 9) args).run P w = .ok (.enter (ρ'.f 9) args) w := by
    rw [h9]; exact Lo.f5.enters rfl
  have cS := callsIn_wide.1 (AnyZI.sorted_in Ls Fence.wide 5 trivial trivial trivial trivial rfl (by omega) hsorts e9 (ρ.f 10) #[.pointer (some ⟨lX.block, 0, none⟩)] trivial (Lk.f10.enters rfl) _ _ hmax hbytes w hseq)
  obtain ⟨e', w', fr', ⟨v, ss, rfl, hS, hrow, hnil, hbelow⟩, hcomes, hfn, hleave⟩ := cS cs
  have hperm : ss.Perm ks := hS.trans hik
  have hsslen : ss.length = ks.length := hperm.length_eq
  have hms : ss.mergeSort leI = ks.mergeSort leI := mergeSort_of_perm_i hperm
  rcases hrow.2 with ⟨rfl, hz⟩ | ⟨gb, cap, cur, rfl, hbase, hgb, r1, r2, r3, r4⟩
  · exact absurd (List.eq_nil_of_length_eq_zero (by omega)) hne
  · have hgl : gb < w'.heap.size := (Array.getElem?_eq_some_iff.1 hgb).1
    have hxs : (ss.mergeSort fun x y => decide (x ≤ y)) = ks.mergeSort leI := hms
    rw [hxs] at r4
    have hml : (ks.mergeSort leI).length = ks.length := (List.mergeSort_perm ks leI).length_eq
    obtain ⟨hrel, hstep⟩ := hr.fresh hbelow (.row (ρ'.t 26) 1 true false (.vals ((ks.mergeSort leI).map (.int .i64)))) ⟨gb, 0, cap⟩ hbase hgl (fun μ' hx => by
      refine ⟨cur, (0, 0), hgb, fun i v hi => ?_, fun _ => ⟨rfl, by simpa using r3, ?_, fun e => (by cases e)⟩⟩
      · have hi : ((ks.mergeSort leI).map (AV.int .i64))[i]? = some v := hi
        rw [List.getElem?_map] at hi
        obtain ⟨z, hz, rfl⟩ := Option.map_eq_some_iff.1 hi
        have hil : i < ks.length := by
          have := (List.getElem?_eq_some_iff.1 hz).1; omega
        have : (cur.toList.take (ss.length * 1))[i]? = some (encZ z) := by rw [r4, List.getElem?_map, hz]; rfl
        rw [List.getElem?_take_of_lt (by omega)] at this
        refine ⟨encZ z, by simpa using this, by simp [VR], rfl⟩
      · show ((ks.mergeSort leI).map (AV.int .i64)).length ≤ cap * 1
        rw [List.length_map, hml]; omega)
    refine ⟨_, _, fr', w', _, _, hQ, hcomes, hfn, hleave, ?_, hrel, hstep⟩
    simp only [VR]
    exact ⟨⟨gb, 0, cap⟩, Mu.with_same _ _ _, by simp only; omega, by simp only [Nat.zero_mul, Nat.add_zero, Nat.sub_zero, hsslen]⟩
end Go.Proofs.YtlkfclgkinaibaaGreat
