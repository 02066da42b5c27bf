/- alive (of the laws on syntax), walked. -/
import Derived.Test.YtdijffojppjmfaaDoorQr
set_option linter.unusedVariables false
set_option linter.unusedSimpArgs false
namespace Go.Proofs.YtdijffojppjmfaaDoor
open Go.RowKit Bir Go.BW
theorem parse_some {α : Type} {Z : Value} {V : World → α → Value → World → Prop} {w : World} {f : FuncId} {a : Array Value} {r : Option α × Nat × Nat} {x : α} {o k : Nat} (h : Calls Tryd.prog f a w (ReadPost Z V w r)) (hr : r = (some x, o, k)) :
    Calls Tryd.prog f a w fun en w' => Below w.heap.size w w' ∧ ∃ v, en = .returned (.tuple #[v, .int .i64 o, .int .i64 k]) ∧ V w x v w' := by
  rw [hr] at h
  exact h
theorem parse_none {α : Type} {Z : Value} {V : World → α → Value → World → Prop} {w : World} {f : FuncId} {a : Array Value} {r : Option α × Nat × Nat} {o k : Nat} (h : Calls Tryd.prog f a w (ReadPost Z V w r)) (hr : r = (none, o, k)) :
    Calls Tryd.prog f a w fun en w' => Below w.heap.size w w' ∧ en = .returned (.tuple #[Z, .int .i64 o, .int .i64 k]) := by
  rw [hr] at h
  exact h.mono fun en w' ⟨h1, v, h2, h3⟩ => ⟨h1, by rw [h2, show v = Z from h3]⟩
theorem lev_below {w w1 : World} (h : LevAt w w.heap.size) (hb : Below w.heap.size w w1) : LevAt w1 w1.heap.size := h.keep hb.size (fun b hlt => hb.block b hlt)
theorem lev_alloc {w : World} (h : LevAt w w.heap.size) (o : Obj) : LevAt (w.alloc o) (w.alloc o).heap.size := lev_below h ((Below.refl _ _).alloc (Nat.le_refl _) _)
/-- What is left of a row behind blocks that were made, and calls that made more. -/
theorem cells4_step {w1 w2 : World} {b : Nat} {a0 a1 a2 a3 : Value} (h : cells4 w1 b a0 a1 a2 a3) (hb : Below w1.heap.size w1 w2) : cells4 w2 b a0 a1 a2 a3 := h.ext (Ext.of_below hb (fun _ => False)) id
set_option maxRecDepth 100000 in
set_option maxHeartbeats 1000000 in
theorem alive_calls {w : World} (hlev : LevAt w w.heap.size) : Calls Tryd.prog 17 #[] w fun en w' => en = .returned (.bool true) ∧ Below w.heap.size w w' := by
  have HL := Lib.hid hlev
  clear hlev
  go_enter Tryd.func17, Tryd.ntmps17
  go_wp2_with fail
  refine (parse_some (parseExpr_calls (w := w) [97, 32, 45, 32, 98, 32, 45, 32, 99, 32, 42, 32, 100] (by decide) HL.out) alive_x).mono ?_
  rintro en w1 ⟨hb1, v, rfl, kv, rfl, hr⟩
  obtain ⟨A1, c1, rfl, _⟩ := hr.slice
  obtain ⟨b, off, k0, rfl, hbl, ⟨_, _, a2, _⟩, _⟩ := erow_at hr (k := 0) (by decide)
  obtain ⟨b', off', k1, hA, _, ⟨_, _, e2, _⟩, _⟩ := erow_at hr (k := 1) (by decide)
  injection hA with hA
  injection hA with h1 h2 _
  subst h1 h2
  rw [show aliveX.kind = 6 from rfl, show aliveX.num = 0 from rfl, show aliveX.name = [45] from rfl, show aliveX.kids.length = 2 from rfl]
  rw [show (aliveX.kids[0]'(by decide)).name = [45] from rfl] at a2
  rw [show (aliveX.kids[1]'(by decide)).name = [42] from rfl] at e2
  have q := cells4.new w1 (.int .i64 6) (.int .i64 0) (.string (ba [45])) (.slice (some ⟨b, off, none⟩) (2 : Nat) c1) 36
  have HA := Lib.hid a2
  have HE := Lib.hid e2
  have HQ := Lib.hid q
  have HB1 := Lib.hid hb1
  clear hb1 hr a2 e2 q
  go_wp2_with fail
  refine (parse_none (parse_calls (w := _) aliveS (by decide) (lev_alloc (lev_below HL.out HB1.out) _)) alive_p).mono ?_
  rintro en w2 ⟨hb2, rfl⟩
  have hx : Ext (fun _ => False) w1 w2 := ((Ext.refl (fun _ => False) w1).alloc _).below hb2
  have hz := hx.size
  have HB2 := Lib.hid hb2
  have HX := Lib.hid (hx.alloc (.cells #[.slice none 0 0, .slice none 0 0] 26))
  obtain ⟨q0, q1, q2, q3⟩ := (cells4_step HQ.out hb2).ext ((Ext.refl (fun _ => False) w2).alloc (.cells #[.slice none 0 0, .slice none 0 0] 26)) id
  have a2 := cell_ext HA.out HX.out id
  have e2 := cell_ext HE.out HX.out id
  clear hb2 hx
  go_wp2_with fail
  go_ret
  exact ⟨rfl, (HB1.out.trans (HX.out.to_below HB1.out.size (fun _ h => h.elim)))⟩
end Go.Proofs.YtdijffojppjmfaaDoor
