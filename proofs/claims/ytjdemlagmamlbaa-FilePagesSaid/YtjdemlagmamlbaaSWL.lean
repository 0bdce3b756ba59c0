/- Swap: the examples; what rows want. -/
import Derived.Test.YtjdemlagmamlbaaRows
import Derived.Test.YtjdemlagmamlbaaSWK
namespace Go.Proofs.Ytjdemlagmamlbaa
open Go.ChangeShapes Go.WideShapes Go.ChangeAt Go.RowKit

theorem ownKn : ownKnob Try.prog.godebug = none := by kernel_rfl
theorem laidOut : laidOutB Try.prog = true := by kernel_rfl
theorem enterOk : Try.prog.mayEnter = true := by kernel_rfl
theorem und4 : Try.prog.underlying 4 = some .bool := by kernel_rfl

theorem swapLives : trueD (progD tab 12 (.f n_law09_lives) [] ⟨0, .leaf⟩) = true := by kernel_rfl

theorem overSound : OSound Try.prog over := fun f F hf => by
  simp only [over] at hf
  cases hb : Nat.beq f n_law09_lives with
  | true =>
    rw [hb] at hf
    simp only [cond_true, Option.some.injEq] at hf
    subst hf
    rw [Nat.eq_of_beq_eq_true hb]
    exact ⟨FSound.lives tabSound swapLives, Try.call26⟩
  | false => rw [hb] at hf; cases hf

def actSh : Sh := .fields [.int .i64, .int .i64, .bytes, .bool]

theorem act_each {h : AHeap} (x : List AV) (hx : AD h actSh x) : ∃ a : ActV, x = a.cells ∧ RoL a.G ∧ ∀ L, St h L → St h (a.G ++ L) := by
  simp only [actSh, AD, ADs] at hx
  obtain ⟨x1, y1, rfl, ⟨n1, rfl, _⟩, x2, y2, rfl, ⟨n2, rfl, _⟩, x3, y3, rfl, h3, x4, y4, rfl, ⟨b, rfl⟩, rfl⟩ := hx
  obtain ⟨l, rfl⟩ : ∃ l, x3 = [l] := by
    rcases h3 with rfl | rfl | ⟨_, _, _, _, _, rfl, _⟩ <;> exact ⟨_, rfl⟩
  obtain ⟨k, n, _, hb⟩ := argB (v := l) (by simp only [AD]; exact h3)
  exact ⟨⟨n1, n2, l, k, n, b⟩, rfl, .by, hb⟩

theorem acts_of {h : AHeap} {v : AV} (hw : h.wf) (ha : AD h (.slice actSh) [v]) : ∃ l : List ActV, St h [ActsC v l] := by
  obtain ⟨l, _, st⟩ := (St.nil hw).argL ha (fun x hx => act_each x hx)
  exact ⟨l, st⟩

end Go.Proofs.Ytjdemlagmamlbaa
