/- The recovering closure of read at programs, walked (printed by readp.py). -/
import Derived.Test.YtdijffojppjmfaaDoorQk
import Derived.Test.YtdijffojppjmfaaDoorQj
import Derived.Defers
import Derived.Recover
import Derived.Laws.Pointers
set_option linter.unusedVariables false
set_option linter.unusedSimpArgs false
namespace Go.Proofs.YtdijffojppjmfaaDoor
open Go.RowKit Bir Go.BW
theorem readP_idle (p0 p1 p2 : Addr) (w : World) :
    CallsD Tryd.prog 69 #[.pointer (some p0), .pointer (some p1), .pointer (some p2)] .returning w fun e u' w' => e = .returned (.tuple #[]) ∧ u' = .returning ∧ w' = w := by
  refine callsD_of_wpS Tryd.func69 rfl fun c₀ cs hu => ?_
  simp only [Tryd.ntmps69, List.size_toArray, List.length_cons, List.length_nil, Nat.reduceAdd, Nat.reduceSub, Array.replicate_succ, Array.replicate_zero, List.push_toArray, List.append_toArray, List.nil_append, List.cons_append]
  apply wpS_seq
  apply wpS_region
  simp [wpOpsS, go_sem, recoverD, hu, Tryd.ntmps69, Exit.thenS]
  refine wpS_of_wp ?_
  go_wp2
  cases c₀
  simp_all [bodyPostS, results, Tryd.results69]
set_option maxRecDepth 100000 in
set_option maxHeartbeats 1000000 in
theorem readP_catch (b0 b1 b2 : Nat) (off k : Nat) (z0 z1 y1 y2 : Value) (older : List PanicEntry) (w : World) (h0 : cells2 w b0 z0 z1) (h1 : w.cell? ⟨b1, 0, none⟩ = some y1) (h2 : w.cell? ⟨b2, 0, none⟩ = some y2)
    (f0 : ∀ o, w.frozen? ⟨b0, o, none⟩ = false) (f1 : ∀ o, w.frozen? ⟨b1, o, none⟩ = false) (f2 : ∀ o, w.frozen? ⟨b2, o, none⟩ = false) (h01 : b0 ≠ b1) (h02 : b0 ≠ b2) (h12 : b1 ≠ b2) (l0 : b0 < w.heap.size) (l1 : b1 < w.heap.size) (l2 : b2 < w.heap.size) :
    CallsD Tryd.prog 69 #[.pointer (some ⟨b0, 0, none⟩), .pointer (some ⟨b1, 0, none⟩), .pointer (some ⟨b2, 0, none⟩)] (.panicking ({ v := .iface 107 (.agg #[.int .i64 off, .int .i64 k]), recovered := false } :: older)) w fun e u' w' =>
      e = .returned (.tuple #[]) ∧ u' = .panicking ({ v := .iface 107 (.agg #[.int .i64 off, .int .i64 k]), recovered := true } :: older) ∧
      Ext (fun b => b = b0 ∨ b = b1 ∨ b = b2) w w' ∧ cells2 w' b0 (.slice none 0 0) (.slice none 0 0) ∧ w'.cell? ⟨b1, 0, none⟩ = some (.int .i64 off) ∧ w'.cell? ⟨b2, 0, none⟩ = some (.int .i64 k) := by
  obtain ⟨d0, d1⟩ := h0
  have hta := wrong_assert (.agg #[.int .i64 off, .int .i64 k]) w
  refine callsD_of_wpS Tryd.func69 rfl fun c₀ cs hu => ?_
  simp only [Tryd.ntmps69, List.size_toArray, List.length_cons, List.length_nil, Nat.reduceAdd, Nat.reduceSub, Array.replicate_succ, Array.replicate_zero, List.push_toArray, List.append_toArray, List.nil_append, List.cons_append]
  apply wpS_seq
  apply wpS_region
  simp [wpOpsS, go_sem, recoverD, hu, Tryd.ntmps69, Exit.thenS]
  refine wpS_of_wp ?_
  go_wp2_with fail
  have n0 : b0 ≠ w.heap.size := by omega
  have n1 : b1 ≠ w.heap.size := by omega
  have n2 : b2 ≠ w.heap.size := by omega
  have n3 : b0 ≠ w.heap.size + 1 := by omega
  have n4 : b1 ≠ w.heap.size + 1 := by omega
  have n5 : b2 ≠ w.heap.size + 1 := by omega
  go_region
  all_goals go_wp2
  have q := set2_cells (.slice none 0 0) (.slice none 0 0) ⟨d0, d1⟩
  have E : ∀ o1 o2, Ext (fun b => b = b1 ∨ b = b2) (set2 w b0 (.slice none 0 0) (.slice none 0 0)) (((((set2 w b0 (.slice none 0 0) (.slice none 0 0)).setCell ⟨b1, 0, none⟩ (.int .i64 off)).setCell ⟨b2, 0, none⟩ (.int .i64 k)).alloc o1).alloc o2).drew :=
    fun o1 o2 => (((((Ext.refl (fun b => b = b1 ∨ b = b2) _).setCell (p := ⟨b1, 0, none⟩) (.inl (.inl rfl)) _).setCell (p := ⟨b2, 0, none⟩) (.inl (.inr rfl)) _).alloc o1).alloc o2).drew
  have F : ∀ (X : World) o1 o2, Ext (fun _ => False) X ((X.alloc o1).alloc o2).drew := fun X o1 o2 => (((Ext.refl (fun _ => False) X).alloc o1).alloc o2).drew
  have k1 : (set2 w b0 (.slice none 0 0) (.slice none 0 0)).cell? ⟨b1, 0, none⟩ = some y1 := cell_ext h1 (ext_set2 w b0 _ _) (fun e => h01 e.symm)
  have k2 : (set2 w b0 (.slice none 0 0) (.slice none 0 0)).cell? ⟨b2, 0, none⟩ = some y2 := cell_ext h2 (ext_set2 w b0 _ _) (fun e => h02 e.symm)
  refine ⟨rfl, _, rfl, .tuple #[], results_none rfl _ _ _, rfl, rfl, ?_, ?_, ?_, ?_⟩
  · exact ((ext_set2 w b0 _ _).mono (fun b h => .inl (.inl h))).trans' ((E _ _).mono (fun b h => .inl (.inr h)))
  · exact cells2.ext q (E _ _) (by rintro (h | h) <;> omega)
  · exact cell_ext (cell_ext (cell_same_set k1) (ext_cell _ b2 0 _) h12) (F _ _ _) id
  · exact cell_ext (cell_same_set (cell_ext k2 (ext_cell _ b1 0 _) (fun e => h12 e.symm))) (F _ _ _) id
end Go.Proofs.YtdijffojppjmfaaDoor
