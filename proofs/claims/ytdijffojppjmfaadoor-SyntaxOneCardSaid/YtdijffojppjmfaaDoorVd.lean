/- Two appends of rows to a program's own rows: what reads behind them. -/
import Derived.Test.YtdijffojppjmfaaDoorVb
set_option linter.unusedVariables false
set_option linter.unusedSimpArgs false
namespace Go.Proofs.YtdijffojppjmfaaDoor
open Go.RowKit Bir Go.BW
theorem VRow.at_own {w : World} {ok : Nat → Prop} {size n : Nat} {v : Value} {cs : List Value} (h : VRow w ok size v n cs) : VRow w (fun b => ok b ∧ v.ownBlock = some b) size v n cs := by
  obtain ⟨hl, c, hc, h⟩ := h
  refine ⟨hl, c, hc, h.imp id ?_⟩
  rintro ⟨b, off, rfl, hb, hlt, hcell⟩
  exact ⟨b, off, rfl, ⟨hb, rfl⟩, hlt, hcell⟩
section
variable {W0 w0 w1 w1' w2 w3 : World} {bs n : Nat} {av fv v1 v2 av' fv' zv zf : Value} {x y z : Pr} {csx csy : List Value} {G : Nat → Prop}
/-- The rows of two programs, ahead of the appends. -/
structure OneIn (W0 : World) (bs n : Nat) (av fv av' fv' zv zf : Value) (x y z : Pr) (csx csy : List Value) : Prop where
  own : POwn W0 bs av fv x.arrays x.funcs
  lt : ∀ k, av.ownBlock = some k ∨ fv.ownBlock = some k → k < n
  n_le : n ≤ W0.heap.size
  f : W0.ownsRow (bs + 1) 76 3 fv x.funcs.length csx
  cx : FnCells W0 (fun b => bs + 1 ≤ b ∧ some b ≠ av.ownBlock ∧ some b ≠ fv.ownBlock) csx x.funcs
  qa : VRow W0 (From n) 2 av' y.arrays.length (arrCells y.arrays)
  qf : VRow W0 (From n) 3 fv' y.funcs.length csy
  cy : FnCells W0 (From n) csy y.funcs
  za : ArrRow W0 (From n) zv z.arrays
  zf_ : FnRow W0 (From n) zf z.funcs
/-- What the appends did. -/
structure OneDid (W0 w0 w1 w1' w2 w3 : World) (bs : Nat) (av fv v1 v2 : Value) (x y : Pr) (csx csy : List Value) (G : Nat → Prop) : Prop where
  e0 : Ext (fun _ => False) W0 w0
  e1 : Ext (fun b => av.ownBlock = some b) w0 w1
  e1' : Ext (fun _ => False) w1 w1'
  e2 : Ext (fun b => fv.ownBlock = some b) w1' w2
  e3 : Ext (fun _ => False) w2 w3
  a1 : w1.ownsRow (bs + 1) 73 2 v1 (x.arrays.length + y.arrays.length) (arrCells x.arrays ++ arrCells y.arrays)
  at1 : v1.ownBlock = av.ownBlock ∨ ∃ k, v1.ownBlock = some k ∧ w0.heap.size ≤ k
  f2 : w2.ownsRow (bs + 1) 76 3 v2 (x.funcs.length + y.funcs.length) (csx ++ csy)
  at2 : v2.ownBlock = fv.ownBlock ∨ ∃ k, v2.ownBlock = some k ∧ w1'.heap.size ≤ k
  old : VRow w2 (From (bs + 1)) 3 fv x.funcs.length csx
  g0 : ∀ k, k < W0.heap.size → G k
  g1 : ∀ k, w0.heap.size ≤ k → k < w1.heap.size → G k
  g2 : ∀ k, w1'.heap.size ≤ k → k < w2.heap.size → G k
theorem OneIn.moved (h : OneIn W0 bs n av fv av' fv' zv zf x y z csx csy) (e0 : Ext (fun _ => False) W0 w0) : OneIn w0 bs n av fv av' fv' zv zf x y z csx csy where
  own := h.own.keep e0 (fun _ h => h.elim)
  lt := h.lt
  n_le := Nat.le_trans h.n_le e0.size
  f := own_keep h.f e0 (fun _ h => h.elim)
  cx := h.cx.keep e0.size fun b hb hl => ⟨e0.block b hl id, hb⟩
  qa := VRow.keep h.qa e0.size fun b hb hl => ⟨e0.block b hl id, hb⟩
  qf := VRow.keep h.qf e0.size fun b hb hl => ⟨e0.block b hl id, hb⟩
  cy := h.cy.keep e0.size fun b hb hl => ⟨e0.block b hl id, hb⟩
  za := VRow.keep h.za e0.size fun b hb hl => ⟨e0.block b hl id, hb⟩
  zf_ := FnRow.keep h.zf_ e0.size fun b hb hl => ⟨e0.block b hl id, hb⟩
theorem OneIn.mid (h : OneIn W0 bs n av fv av' fv' zv zf x y z csx csy) (e1 : Ext (fun b => av.ownBlock = some b) W0 w1) (e1' : Ext (fun _ => False) w1 w1') :
    w1'.ownsRow (bs + 1) 76 3 fv x.funcs.length csx ∧ VRow w1' (From n) 3 fv' y.funcs.length csy := by
  have E : Ext (fun b => av.ownBlock = some b) W0 w1' := e1.trans e1' (fun _ h => h.elim)
  exact ⟨own_keep h.f E fun b hb hk => h.own.2.1 b hb hk, VRow.keep h.qf E.size fun b hb hl => ⟨E.block b hl (fun hs => by have := h.lt b (.inl hs); have : n ≤ b := hb; omega), hb⟩⟩
theorem OneDid.ext (k : OneDid W0 w0 w1 w1' w2 w3 bs av fv v1 v2 x y csx csy G) : Ext (fun b => av.ownBlock = some b ∨ fv.ownBlock = some b) W0 w3 :=
  ((((k.e0.mono (fun _ h => h.elim)).trans k.e1 (fun _ h => .inl (.inl h))).trans k.e1' (fun _ h => h.elim)).trans k.e2 (fun _ h => .inl (.inr h))).trans k.e3 (fun _ h => h.elim)
theorem OneDid.rows (h : OneIn W0 bs n av fv av' fv' zv zf x y z csx csy) (k : OneDid W0 w0 w1 w1' w2 w3 bs av fv v1 v2 x y csx csy G) :
    ArrRow w3 G v1 (x.arrays ++ y.arrays) ∧ FnRow w3 G v2 (x.funcs ++ y.funcs) ∧ FnRow w3 G fv x.funcs ∧ FnRow w3 G fv' y.funcs ∧ ArrRow w3 G zv z.arrays ∧ FnRow w3 G zf z.funcs := by
  have E := k.ext
  have hS : ∀ b, n ≤ b → ¬ (av.ownBlock = some b ∨ fv.ownBlock = some b) := fun b hb hs => by have := h.lt b hs; omega
  have e13 : Ext (fun b => fv.ownBlock = some b) w1 w3 := ((k.e1'.mono (fun _ h => h.elim)).trans k.e2 (fun _ h => .inl h)).trans k.e3 (fun _ h => h.elim)
  have hle := h.n_le
  have s0 := k.e0.size
  have s1 := k.e1.size
  have s1' := k.e1'.size
  have cx : FnCells w3 G csx x.funcs := h.cx.keep E.size fun b hb hl => ⟨E.block b hl (fun hs => hs.elim (fun h => hb.2.1 h.symm) (fun h => hb.2.2 h.symm)), k.g0 b hl⟩
  have cy : FnCells w3 G csy y.funcs := h.cy.keep E.size fun b hb hl => ⟨E.block b hl (hS b hb), k.g0 b hl⟩
  refine ⟨?_, ⟨csx ++ csy, ?_, cx.append cy⟩, ⟨csx, ?_, cx⟩, ⟨csy, VRow.keep h.qf E.size fun b hb hl => ⟨E.block b hl (hS b hb), k.g0 b hl⟩, cy⟩, VRow.keep h.za E.size fun b hb hl => ⟨E.block b hl (hS b hb), k.g0 b hl⟩, FnRow.keep h.zf_ E.size fun b hb hl => ⟨E.block b hl (hS b hb), k.g0 b hl⟩⟩
  · show VRow w3 G 2 v1 (x.arrays ++ y.arrays).length (arrCells (x.arrays ++ y.arrays))
    rw [List.length_append, arrCells_app]
    refine VRow.keep (VRow.at_own (VRow.of_own k.a1)) e13.size fun b hb hl => ⟨e13.block b hl (fun hs => ?_), ?_⟩
    · rcases k.at1 with hat | ⟨j, hat, hj⟩
      · exact h.own.2.1 b (hat ▸ hb.2) hs
      · rw [hb.2] at hat
        injection hat with hat
        have := h.lt b (.inr hs)
        omega
    · rcases k.at1 with hat | ⟨j, hat, hj⟩
      · exact k.g0 b (by have := h.lt b (.inl (hat ▸ hb.2)); omega)
      · rw [hb.2] at hat
        injection hat with hat
        exact k.g1 b (by omega) hl
  · rw [List.length_append]
    refine VRow.keep (VRow.at_own (VRow.of_own k.f2)) k.e3.size fun b hb hl => ⟨k.e3.block b hl id, ?_⟩
    rcases k.at2 with hat | ⟨j, hat, hj⟩
    · exact k.g0 b (by have := h.lt b (.inr (hat ▸ hb.2)); omega)
    · rw [hb.2] at hat
      injection hat with hat
      exact k.g2 b (by omega) hl
  · exact VRow.keep (VRow.at_own k.old) k.e3.size fun b hb hl => ⟨k.e3.block b hl id, k.g0 b (by have := h.lt b (.inr hb.2); omega)⟩
theorem OneDid.fin {b m : Nat} {z0 z1 : Value} (h : OneIn W0 bs n av fv av' fv' zv zf x y z csx csy) (k : OneDid W0 w0 w1 w1' w2 w3 bs av fv v1 v2 x y csx csy (fun j => j ≠ b)) (hb : W0.heap.size ≤ b) (hc : cells2 w3 b z0 z1) (hm : m ≤ bs + 1) (hm2 : m ≤ W0.heap.size) :
    cells2 (set2 w3 b v1 v2) b v1 v2 ∧ Below m W0 (set2 w3 b v1 v2) ∧ (∀ c o u, n ≤ c → W0.cell? ⟨c, o, none⟩ = some u → (set2 w3 b v1 v2).cell? ⟨c, o, none⟩ = some u) ∧
      ArrRow (set2 w3 b v1 v2) (fun _ => True) v1 (x.arrays ++ y.arrays) ∧ FnRow (set2 w3 b v1 v2) (fun _ => True) v2 (x.funcs ++ y.funcs) ∧ FnRow (set2 w3 b v1 v2) (fun _ => True) fv x.funcs ∧ FnRow (set2 w3 b v1 v2) (fun _ => True) fv' y.funcs ∧
      ArrRow (set2 w3 b v1 v2) (fun _ => True) zv z.arrays ∧ FnRow (set2 w3 b v1 v2) (fun _ => True) zf z.funcs := by
  obtain ⟨r1, r2, r3, r4, r5, r6⟩ := k.rows h
  have E := k.ext
  have X := ext_set2 w3 b v1 v2
  have Y : Ext (fun j => av.ownBlock = some j ∨ fv.ownBlock = some j) W0 (set2 w3 b v1 v2) := E.trans X (fun i hi => .inr (by omega))
  refine ⟨set2_cells v1 v2 hc, Y.to_below hm2 (fun j hj => ?_), fun c o u hn hu => cell_ext hu Y (fun hs => by have := h.lt c hs; omega), ?_, ?_, ?_, ?_, ?_, ?_⟩
  · rcases hj with hj | hj
    · have := (h.own.ge.1 j hj).1; omega
    · have := (h.own.ge.2 j hj).1; omega
  · exact VRow.keep r1 X.size fun j hj hl => ⟨X.block j hl hj, trivial⟩
  · exact FnRow.keep r2 X.size fun j hj hl => ⟨X.block j hl hj, trivial⟩
  · exact FnRow.keep r3 X.size fun j hj hl => ⟨X.block j hl hj, trivial⟩
  · exact FnRow.keep r4 X.size fun j hj hl => ⟨X.block j hl hj, trivial⟩
  · exact VRow.keep r5 X.size fun j hj hl => ⟨X.block j hl hj, trivial⟩
  · exact FnRow.keep r6 X.size fun j hj hl => ⟨X.block j hl hj, trivial⟩
end
end Go.Proofs.YtdijffojppjmfaaDoor
