/- The laid table of levels, opened; the heap that the door leaves meets the condition. -/
import Derived.Test.YtdijffojppjmfaaDoorQs
import Derived.Test.YtdijffojppjmfaaDoorRows
import Derived.ProofKit
import Derived.LaidMore
import Derived.OpenShut
import Derived.Stop.Joined
import Derived.MakeChecks
import Derived.LaidLaws
import Derived.LaidHandle
set_option linter.unusedVariables false
namespace Go.Proofs.YtdijffojppjmfaaDoor
open Go.ChangeShapes Go.WideShapes Go.ChangeAt Go.WideMaps Go.WideElems Go.RowKit Bir Go.BW
abbrev laidL : List (String × DataW Unit) := [("bireme/syntax.levels", Rows.laid_bireme_syntax_levels)]
theorem own_knob : ownKnob Tryd.prog.godebug = none := by kernel_rfl
theorem g_levels : Tryd.prog.globalNamed "bireme/syntax.levels" = some 0 := by kernel_rfl
theorem t_levels : (Tryd.prog.globals[0]?).map (·.type) = some 86 := by kernel_rfl
theorem c_strs : Tryd.prog.cellsOf 53 = 1 := by kernel_rfl
theorem c_str : Tryd.prog.cellsOf 9 = 1 := by kernel_rfl
def rowD {H : Type} (row : List Str) : DataW H := .slice (row.map fun s => .lit (.string s)) []
theorem levels_laid {H : Type} : Rows.laid_bireme_syntax_levels (H := H) = .agg (levels.map rowD) := rfl
theorem addr_spot {W : World} {a : Addr} {v : Value} (h : W.cell? a = some v) : a = ⟨a.block, a.off, none⟩ := by
  obtain ⟨b, o, s⟩ := a
  cases s with
  | none => rfl
  | some s =>
    unfold World.cell? at h
    simp only [Option.isSome_some, if_true] at h
    split at h <;> cases h
section
variable {H : Type} {enc : TypeId × Value → H} {W : World} {base : Nat} {sp : Nat → Bool} {held : Bool} {fuel : Nat} {cs : List Value} {p : List MemPlace}
theorem strs_of_trod {row : List Str} (hl : row.length ≤ 1000000) (h : DataW.trod enc Tryd.prog W base sp held fuel 53 cs = some (rowD row, p)) : ∃ v, cs = [v] ∧ StrsAt W W.heap.size v row := by
  obtain ⟨a, cap, rfl, hc, hcell⟩ := open_row Tryd.underlying53 c_str h
  refine ⟨_, rfl, some a, cap, by simp, hl, fun hne => ?_⟩
  have hat : ∀ j s, row[j]? = some s → W.cell? (a.add j) = some (.string (ba s)) := fun j s hj => by
    obtain ⟨v, n, q, hv, ht⟩ := hcell j (.lit (.string s)) (by rw [List.getElem?_map, hj]; rfl)
    obtain ⟨s', e1, e2, _⟩ := DataW.trod_string Tryd.underlying9 ht
    injection e1 with e1
    injection e2 with e2
    injection e2 with e2
    injection e2 with e2
    subst e1
    rw [hv]
    refine congrArg (fun z => some (Value.string z)) (ByteArray.ext ?_)
    show s'.data = s.toArray
    rw [e2]
  cases row with
  | nil => exact absurd rfl hne
  | cons s0 row =>
    have h0 := hat 0 s0 rfl
    have e0 : a.add 0 = a := rfl
    rw [e0] at h0
    refine ⟨a.block, a.off, congrArg some (addr_spot h0), World.block_lt_of_cell? W a h0, fun j s hj => ?_⟩
    have := hat j s hj
    rw [addr_spot h0] at this
    rwa [show (⟨a.block, a.off, none⟩ : Addr).add j = ⟨a.block, a.off + j, none⟩ from by unfold Addr.add; split <;> simp_all] at this
end
theorem lev_of_var {enc : TypeId × Value → Unit} {W : World} {sp : Nat → Bool} {f : Nat} {cs : Array Value} {p : List MemPlace} (hv : W.var? Tryd.prog "bireme/syntax.levels" = some cs) (hd : DataW.trod enc Tryd.prog W 0 sp false f 86 cs.toList = some (Rows.laid_bireme_syntax_levels, p)) : LevAt W W.heap.size := by
  obtain ⟨xs, m, rfl, hx, hlen, hn, hel⟩ := DataW.trod_array Tryd.underlying86 hd
  rw [levels_laid] at hx
  injection hx with hx _
  injection hx with hx
  have hl : levels.length = 10 := rfl
  have hrow : ∀ i row, levels[i]? = some row → ∃ v, cs[i]? = some v ∧ StrsAt W W.heap.size v row := fun i row hi => by
    have hi10 : i < 10 := by rw [← hl]; exact (List.getElem?_eq_some_iff.1 hi).1
    have h1 := hel i hi10
    rw [c_strs, Nat.mul_one] at h1
    have h2 : (xs.map (·.1))[i]? = some (rowD row) := by rw [← hx, List.getElem?_map, hi]; rfl
    rw [List.getElem?_map] at h2
    obtain ⟨y, hy, hy2⟩ := Option.map_eq_some_iff.1 h2
    rw [hy] at h1
    obtain ⟨d, q⟩ := y
    simp only at hy2
    subst hy2
    have hlr : row.length ≤ 1000000 := by
      have : ∀ r ∈ levels, r.length ≤ 1000000 := by decide
      exact this row (List.mem_of_getElem? hi)
    obtain ⟨v, e, hs⟩ := strs_of_trod hlr h1
    refine ⟨v, ?_, hs⟩
    have : (cs.toList.drop i)[0]? = some v := by
      have h3 := congrArg (fun l => l[0]?) e
      simpa [List.getElem?_take] using h3
    simpa using this
  have hg : 0 < W.heap.size := by
    obtain ⟨v, h1, _⟩ := hrow 0 _ rfl
    exact World.block_lt_of_cell? W _ ((World.var?_cell g_levels hv 0).trans h1)
  refine ⟨hg, fun i => (cs[i]?).getD undef, fun i row hi => ?_⟩
  obtain ⟨v, h1, h2⟩ := hrow i row hi
  refine ⟨?_, by simp only [h1, Option.getD_some]; exact h2⟩
  rw [World.var?_cell g_levels hv i, h1]
  show some v = some ((cs[i]?).getD undef)
  rw [h1]
  rfl
theorem lev_of_laid {W : World} (h : laidMetH Tryd.prog laidL W) : LevAt W W.heap.size := by
  rw [MakeChecks.laidMetH_plain _ _ _ (by kernel_rfl)] at h
  obtain ⟨ps, ⟨g0, t0, cs0, f0, p0, q0, hg0, ht0, hv0, hd0, _⟩, _⟩ := h
  obtain rfl := Option.some.inj (g_levels.symm.trans hg0)
  obtain rfl := Option.some.inj (t_levels.symm.trans ht0)
  exact lev_of_var hv0 hd0
/-- The door's own heap meets the condition. -/
theorem door_met (os : Os) (args : Array Value) : laidMetH Tryd.prog laidL ((World.doorLaid Tryd.prog 400 os).forCall (fun _ _ => 0) ⟨#[], args, []⟩).memory :=
  laidMetH_of_parts3 (fuel := 8) (laidMet_of_run' 8 (by kernel_rfl) (by kernel_rfl)) (by kernel_rfl) (by kernel_rfl)
end Go.Proofs.YtdijffojppjmfaaDoor
