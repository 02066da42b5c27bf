/- The law SyntaxLeft, walked. -/
import Derived.Test.YtdijffojppjmfaaDoorQs
import Derived.Deep.QuietTactic
import Derived.BigQuiet
set_option linter.unusedVariables false
set_option linter.unusedSimpArgs false
namespace Bir
/-- The operators in the law's order. -/
def lops : List Str := [[124, 124], [38, 38], [124], [94], [38], [61, 61], [33, 61], [60], [60, 61], [62], [62, 61], [60, 60], [62, 62], [43], [45], [42], [47], [37]]
mutual
def eqE : Ex → Ex → Bool
  | .mk k n s l, .mk k' n' s' l' => k == k' && n == n' && s == s' && eqEs l l'
def eqEs : List Ex → List Ex → Bool
  | [], [] => true
  | x :: l, y :: r => eqE x y && eqEs l r
  | _, _ => false
end
theorem eqE_eq : ∀ (x y : Ex), eqE x y = true → x = y := by
  intro x
  induction x using Ex.ind with
  | h k n s l ih =>
    rintro ⟨k', n', s', l'⟩ h
    unfold eqE at h
    simp only [Bool.and_eq_true, beq_iff_eq] at h
    obtain ⟨⟨⟨rfl, rfl⟩, rfl⟩, h⟩ := h
    have : ∀ (a b : List Ex), (∀ x ∈ a, ∀ y, eqE x y = true → x = y) → eqEs a b = true → a = b := by
      intro a
      induction a with
      | nil =>
        intro b _ h
        cases b with
        | nil => rfl
        | cons y b => unfold eqEs at h; cases h
      | cons x a iha =>
        intro b hx h
        cases b with
        | nil => unfold eqEs at h; cases h
        | cons y b =>
          unfold eqEs at h
          rw [Bool.and_eq_true] at h
          rw [hx x (by simp) y h.1, iha b (fun z hz => hx z (by simp [hz])) h.2]
    rw [this l l' ih h]
/-- The string that the law makes of two operators, and its tree. -/
def leftS (f g : Str) : Str := [45, 120, 32] ++ f ++ [32, 33, 121, 32] ++ g ++ [32, 45, 32, 122]
def leftA : Ex := .mk 5 0 [45] [nmE [120]]
def leftB : Ex := .mk 5 0 [33] [nmE [121]]
def leftC : Ex := .mk 5 0 [45] [nmE [122]]
def leftX (f g : Str) : Ex := if level g ≤ level f then .mk 6 0 g [.mk 6 0 f [leftA, leftB], leftC] else .mk 6 0 f [leftA, .mk 6 0 g [leftB, leftC]]
def okB (f g : Str) : Bool := match runX 100 (leftS f g) with
  | .ok x [] => eqE x (leftX f g) && decide (1 ≤ level f) && decide (level f ≤ 10)
  | _ => false
theorem all_ok : (lops.all fun f => lops.all fun g => okB f g) = true := by decide +kernel
theorem left_parse {f g : Str} (hf : f ∈ lops) (hg : g ∈ lops) : parseX (leftS f g) = (some (leftX f g), 0, 0) ∧ 1 ≤ level f ∧ level f ≤ 10 := by
  have h := List.all_eq_true.1 (List.all_eq_true.1 all_ok f hf) g hg
  have hl : ∀ s ∈ lops, s.length ≤ 2 := by decide
  have h1 := hl f hf
  have h2 := hl g hg
  unfold okB at h
  cases hr : runX 100 (leftS f g) with
  | out => rw [hr] at h; cases h
  | err l k => rw [hr] at h; cases h
  | ok x l =>
    cases l with
    | cons t l => rw [hr] at h; cases h
    | nil =>
      rw [hr] at h
      simp only [Bool.and_eq_true, decide_eq_true_eq] at h
      obtain ⟨⟨h3, h4⟩, h5⟩ := h
      have := eqE_eq _ _ h3
      subst this
      refine ⟨parseX_small 100 (by unfold fuel0; omega) _ _ (by unfold leftS; simp; omega) hr ?_, h4, h5⟩
      unfold leftX
      split <;> simp [deepE, deepEs, leftA, leftB, leftC, nmE]
end Bir
namespace Go.Proofs.YtdijffojppjmfaaDoor
open Go.RowKit Bir Go.BW
end Go.Proofs.YtdijffojppjmfaaDoor
