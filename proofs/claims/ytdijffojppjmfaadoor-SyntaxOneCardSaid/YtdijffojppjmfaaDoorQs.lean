/- What every right program knows of the chapter's examples: evaluated. alive (of the laws on syntax), walked. -/
import Derived.Test.YtdijffojppjmfaaDoorQq
set_option linter.unusedVariables false
namespace Bir
open Go.Proofs.YtdijffojppjmfaaDoor
def nmE (s : Str) : Ex := .mk 2 0 s []
def aliveX : Ex := .mk 6 0 [45] [.mk 6 0 [45] [nmE [97], nmE [98]], .mk 6 0 [42] [nmE [99], nmE [100]]]
def runX (n : Nat) (s : Str) : R Ex := match lex s with
  | .ok l => (gram n).expr l
  | .bad _ => .out
theorem parseX_small (n : Nat) (hn : n ≤ fuel0) (s : Str) (x : Ex) (hl : s.length ≤ 20000) (h : runX n s = .ok x []) (hd : deepE x ≤ 60) : parseX s = (some x, 0, 0) := by
  obtain ⟨l, h1, h2⟩ : ∃ l, lex s = .ok l ∧ (gram n).expr l = .ok x [] := by
    unfold runX at h
    cases hl2 : lex s with
    | bad a => rw [hl2] at h; cases h
    | ok l => rw [hl2] at h; exact ⟨l, rfl, h⟩
  have h3 := ((gram_le n fuel0 hn).expr l).eq (by rw [h2]; simp)
  have : readRes (gram fuel0).expr s = (some x, 0, 0) := by
    rw [readRes_ok hl h1 (h3.trans h2)]
    rfl
  unfold parseX
  rw [this]
  exact if_neg (by omega)
theorem alive_x : parseX [97, 32, 45, 32, 98, 32, 45, 32, 99, 32, 42, 32, 100] = (some aliveX, 0, 0) :=
  parseX_small 60 (by unfold fuel0; omega) _ _ (by decide) (by kernel_rfl) (by decide)
/-- func main() { let x 1; } -/
def aliveS : Str := [102, 117, 110, 99, 32, 109, 97, 105, 110, 40, 41, 32, 123, 32, 108, 101, 116, 32, 120, 32, 49, 59, 32, 125]
def errP (n : Nat) (s : Str) : Option (Nat × Nat) := match lex s with
  | .ok l => (match prog n n [] [] l with
    | .err l' k => some (offAt s.length l', k)
    | _ => none)
  | .bad _ => none
theorem parseP_err (n : Nat) (hn : n ≤ fuel0) (s : Str) (a k : Nat) (hl : s.length ≤ 20000) (h : errP n s = some (a, k)) : parseP s = (none, a, k) := by
  obtain ⟨l, l', h1, h2, h3⟩ : ∃ l l', lex s = .ok l ∧ prog n n [] [] l = .err l' k ∧ offAt s.length l' = a := by
    unfold errP at h
    cases hl2 : lex s with
    | bad a => rw [hl2] at h; cases h
    | ok l =>
      rw [hl2] at h
      simp only at h
      cases hp : prog n n [] [] l with
      | out => rw [hp] at h; cases h
      | ok x l' => rw [hp] at h; cases h
      | err l' k' =>
        rw [hp] at h
        injection h with h
        injection h with h1 h2
        exact ⟨l, l', rfl, by rw [h2] at hp; exact hp, h1⟩
  have h4 := (prog_le hn n fuel0 [] [] l hn).eq (by rw [h2]; simp)
  have : readRes (prog fuel0 fuel0 [] []) s = (none, a, k) := by
    unfold readRes
    rw [if_neg (by omega), h1]
    simp only [h4.trans h2, h3]
  unfold parseP
  rw [this]
theorem alive_p : parseP aliveS = (none, 20, 4) :=
  parseP_err 60 (by unfold fuel0; omega) _ _ _ (by decide) (by kernel_rfl)
end Bir
set_option linter.unusedVariables false
set_option linter.unusedSimpArgs false
namespace Go.Proofs.YtdijffojppjmfaaDoor
open Go.RowKit Bir Go.BW
theorem parse_some {α : Type} {Z : Value} {V : World → α → Value → World → Prop} {w : World} {f : FuncId} {a : Array Value} {r : Option α × Nat × Nat} {x : α} {o k : Nat} (h : Calls Tryd.prog f a w (ReadPost Z V w r)) (hr : r = (some x, o, k)) :
    Calls Tryd.prog f a w fun en w' => Below w.heap.size w w' ∧ ∃ v, en = .returned (.tuple #[v, .int .i64 o, .int .i64 k]) ∧ V w x v w' := by
  rw [hr] at h
  exact h
theorem parse_none {α : Type} {Z : Value} {V : World → α → Value → World → Prop} {w : World} {f : FuncId} {a : Array Value} {r : Option α × Nat × Nat} {o k : Nat} (h : Calls Tryd.prog f a w (ReadPost Z V w r)) (hr : r = (none, o, k)) :
    Calls Tryd.prog f a w fun en w' => Below w.heap.size w w' ∧ en = .returned (.tuple #[Z, .int .i64 o, .int .i64 k]) := by
  rw [hr] at h
  exact h.mono fun en w' ⟨h1, v, h2, h3⟩ => ⟨h1, by rw [h2, show v = Z from h3]⟩
theorem lev_below {w w1 : World} (h : LevAt w w.heap.size) (hb : Below w.heap.size w w1) : LevAt w1 w1.heap.size := h.keep hb.size (fun b hlt => hb.block b hlt)
theorem lev_alloc {w : World} (h : LevAt w w.heap.size) (o : Obj) : LevAt (w.alloc o) (w.alloc o).heap.size := lev_below h ((Below.refl _ _).alloc (Nat.le_refl _) _)
/-- What is left of a row behind blocks that were made, and calls that made more. -/
theorem cells4_step {w1 w2 : World} {b : Nat} {a0 a1 a2 a3 : Value} (h : cells4 w1 b a0 a1 a2 a3) (hb : Below w1.heap.size w1 w2) : cells4 w2 b a0 a1 a2 a3 := h.ext (Ext.of_below hb (fun _ => False)) id
set_option maxRecDepth 100000 in
set_option maxHeartbeats 1000000 in
theorem alive_calls {w : World} (hlev : LevAt w w.heap.size) : Calls Tryd.prog 17 #[] w fun en w' => en = .returned (.bool true) ∧ Below w.heap.size w w' := by
  have HL := Lib.hid hlev
  clear hlev
  go_enter Tryd.func17, Tryd.ntmps17
  go_wp2_with fail
  refine (parse_some (parseExpr_calls (w := w) [97, 32, 45, 32, 98, 32, 45, 32, 99, 32, 42, 32, 100] (by decide) HL.out) alive_x).mono ?_
  rintro en w1 ⟨hb1, v, rfl, kv, rfl, hr⟩
  obtain ⟨A1, c1, rfl, _⟩ := hr.slice
  obtain ⟨b, off, k0, rfl, hbl, ⟨_, _, a2, _⟩, _⟩ := erow_at hr (k := 0) (by decide)
  obtain ⟨b', off', k1, hA, _, ⟨_, _, e2, _⟩, _⟩ := erow_at hr (k := 1) (by decide)
  injection hA with hA
  injection hA with h1 h2 _
  subst h1 h2
  rw [show aliveX.kind = 6 from rfl, show aliveX.num = 0 from rfl, show aliveX.name = [45] from rfl, show aliveX.kids.length = 2 from rfl]
  rw [show (aliveX.kids[0]'(by decide)).name = [45] from rfl] at a2
  rw [show (aliveX.kids[1]'(by decide)).name = [42] from rfl] at e2
  have q := cells4.new w1 (.int .i64 6) (.int .i64 0) (.string (ba [45])) (.slice (some ⟨b, off, none⟩) (2 : Nat) c1) 36
  have HA := Lib.hid a2
  have HE := Lib.hid e2
  have HQ := Lib.hid q
  have HB1 := Lib.hid hb1
  clear hb1 hr a2 e2 q
  go_wp2_with fail
  refine (parse_none (parse_calls (w := _) aliveS (by decide) (lev_alloc (lev_below HL.out HB1.out) _)) alive_p).mono ?_
  rintro en w2 ⟨hb2, rfl⟩
  have hx : Ext (fun _ => False) w1 w2 := ((Ext.refl (fun _ => False) w1).alloc _).below hb2
  have hz := hx.size
  have HB2 := Lib.hid hb2
  have HX := Lib.hid (hx.alloc (.cells #[.slice none 0 0, .slice none 0 0] 26))
  obtain ⟨q0, q1, q2, q3⟩ := (cells4_step HQ.out hb2).ext ((Ext.refl (fun _ => False) w2).alloc (.cells #[.slice none 0 0, .slice none 0 0] 26)) id
  have a2 := cell_ext HA.out HX.out id
  have e2 := cell_ext HE.out HX.out id
  clear hb2 hx
  go_wp2_with fail
  go_ret
  exact ⟨rfl, (HB1.out.trans (HX.out.to_below HB1.out.size (fun _ h => h.elim)))⟩
end Go.Proofs.YtdijffojppjmfaaDoor
