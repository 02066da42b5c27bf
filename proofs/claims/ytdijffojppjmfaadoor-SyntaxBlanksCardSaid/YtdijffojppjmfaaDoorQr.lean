/- What every right program knows of the chapter's examples: evaluated. -/
import Derived.Test.YtdijffojppjmfaaDoorQq
set_option linter.unusedVariables false
namespace Bir
open Go.Proofs.YtdijffojppjmfaaDoor
def nmE (s : Str) : Ex := .mk 2 0 s []
def aliveX : Ex := .mk 6 0 [45] [.mk 6 0 [45] [nmE [97], nmE [98]], .mk 6 0 [42] [nmE [99], nmE [100]]]
def runX (n : Nat) (s : Str) : R Ex := match lex s with
  | .ok l => (gram n).expr l
  | .bad _ => .out
theorem parseX_small (n : Nat) (hn : n ≤ fuel0) (s : Str) (x : Ex) (hl : s.length ≤ 20000) (h : runX n s = .ok x []) (hd : deepE x ≤ 60) : parseX s = (some x, 0, 0) := by
  obtain ⟨l, h1, h2⟩ : ∃ l, lex s = .ok l ∧ (gram n).expr l = .ok x [] := by
    unfold runX at h
    cases hl2 : lex s with
    | bad a => rw [hl2] at h; cases h
    | ok l => rw [hl2] at h; exact ⟨l, rfl, h⟩
  have h3 := ((gram_le n fuel0 hn).expr l).eq (by rw [h2]; simp)
  have : readRes (gram fuel0).expr s = (some x, 0, 0) := by
    rw [readRes_ok hl h1 (h3.trans h2)]
    rfl
  unfold parseX
  rw [this]
  exact if_neg (by omega)
theorem alive_x : parseX [97, 32, 45, 32, 98, 32, 45, 32, 99, 32, 42, 32, 100] = (some aliveX, 0, 0) :=
  parseX_small 60 (by unfold fuel0; omega) _ _ (by decide) (by kernel_rfl) (by decide)
/-- func main() { let x 1; } -/
def aliveS : Str := [102, 117, 110, 99, 32, 109, 97, 105, 110, 40, 41, 32, 123, 32, 108, 101, 116, 32, 120, 32, 49, 59, 32, 125]
def errP (n : Nat) (s : Str) : Option (Nat × Nat) := match lex s with
  | .ok l => (match prog n n [] [] l with
    | .err l' k => some (offAt s.length l', k)
    | _ => none)
  | .bad _ => none
theorem parseP_err (n : Nat) (hn : n ≤ fuel0) (s : Str) (a k : Nat) (hl : s.length ≤ 20000) (h : errP n s = some (a, k)) : parseP s = (none, a, k) := by
  obtain ⟨l, l', h1, h2, h3⟩ : ∃ l l', lex s = .ok l ∧ prog n n [] [] l = .err l' k ∧ offAt s.length l' = a := by
    unfold errP at h
    cases hl2 : lex s with
    | bad a => rw [hl2] at h; cases h
    | ok l =>
      rw [hl2] at h
      simp only at h
      cases hp : prog n n [] [] l with
      | out => rw [hp] at h; cases h
      | ok x l' => rw [hp] at h; cases h
      | err l' k' =>
        rw [hp] at h
        injection h with h
        injection h with h1 h2
        exact ⟨l, l', rfl, by rw [h2] at hp; exact hp, h1⟩
  have h4 := (prog_le hn n fuel0 [] [] l hn).eq (by rw [h2]; simp)
  have : readRes (prog fuel0 fuel0 [] []) s = (none, a, k) := by
    unfold readRes
    rw [if_neg (by omega), h1]
    simp only [h4.trans h2, h3]
  unfold parseP
  rw [this]
theorem alive_p : parseP aliveS = (none, 20, 4) :=
  parseP_err 60 (by unfold fuel0; omega) _ _ _ (by decide) (by kernel_rfl)
end Bir
