/- Words about the memory: which blocks a call may have written, tokens in memory, the parser's state. -/
import Derived.Test.YtdijffojppjmfaaDoorPa
import Derived.WalkKit
import Derived.OwnWalk
import Derived.Below
set_option linter.unusedVariables false
namespace Go.BW
open Go.RowKit Bir

abbrev ba (s : Str) : ByteArray := ⟨s.toArray⟩

/-- What a call may have turned: the blocks of S, and what is new. -/
structure Ext (S : Nat → Prop) (w w' : World) : Prop where
  os : w'.os = w.os
  tape : w'.tape = w.tape
  output : w'.output = w.output
  size : w.heap.size ≤ w'.heap.size
  block : ∀ k, k < w.heap.size → ¬ S k → w'.heap[k]? = w.heap[k]?
section
variable {S S' : Nat → Prop} {w w1 w2 : World}
theorem Ext.refl (S : Nat → Prop) (w : World) : Ext S w w := ⟨rfl, rfl, rfl, Nat.le_refl _, fun _ _ _ => rfl⟩
theorem Ext.of_below (h : Below w.heap.size w w1) (S : Nat → Prop) : Ext S w w1 := ⟨h.os, h.tape, h.output, h.size, fun k hk _ => h.block k hk⟩
theorem Ext.trans (h : Ext S w w1) (k : Ext S' w1 w2) (hs : ∀ i, S' i → S i ∨ w.heap.size ≤ i) : Ext S w w2 :=
  ⟨k.os.trans h.os, k.tape.trans h.tape, k.output.trans h.output, Nat.le_trans h.size k.size, fun i hi hn =>
    (k.block i (Nat.lt_of_lt_of_le hi h.size) (fun h2 => (hs i h2).elim hn (fun h3 => by omega))).trans (h.block i hi hn)⟩
theorem Ext.trans' (h : Ext S w w1) (k : Ext S w1 w2) : Ext S w w2 := h.trans k (fun _ => .inl)
theorem Ext.below (h : Ext S w w1) (k : Below w1.heap.size w1 w2) : Ext S w w2 := h.trans' (.of_below k S)
theorem Ext.alloc (h : Ext S w w1) (o : Obj) : Ext S w (w1.alloc o) := h.below ((Below.refl _ _).alloc (Nat.le_refl _) _)
theorem Ext.drew (h : Ext S w w1) : Ext S w w1.drew := ⟨h.os, h.tape, h.output, h.size, h.block⟩
theorem Ext.setCell (h : Ext S w w1) {p : Addr} (hp : S p.block ∨ w.heap.size ≤ p.block) (u : Value) : Ext S w (w1.setCell p u) :=
  h.trans (S' := fun k => k = p.block) ⟨rfl, rfl, rfl, by simp [World.setCell], fun i _ hn => Below.heap_setCell w1 p u i hn⟩ (fun i hi => by rw [hi]; exact hp)
theorem Ext.mono (h : Ext S w w1) (hs : ∀ k, S k → S' k ∨ w.heap.size ≤ k) : Ext S' w w1 :=
  ⟨h.os, h.tape, h.output, h.size, fun i hi hn => h.block i hi (fun h2 => (hs i h2).elim hn (fun h3 => by omega))⟩
theorem Ext.to_below {n : Nat} (h : Ext S w w1) (hn : n ≤ w.heap.size) (hs : ∀ k, S k → n ≤ k) : Below n w w1 :=
  ⟨h.os, h.tape, h.output, h.size, fun i hi => h.block i (by omega) (fun h2 => by have := hs i h2; omega)⟩
theorem Ext.grown {row : Option Nat} (h : Ext S w w1) (hg : w1.grownBy w2 row) (hr : ∀ k, row = some k → S k ∨ w.heap.size ≤ k) : Ext S w w2 :=
  h.trans (S' := fun k => row = some k) ⟨hg.os, hg.tape, hg.output, hg.size, fun i hi hn => hg.block i hi (fun he => hn he.symm)⟩ hr
theorem Ext.cell {p : Addr} (h : Ext S w w1) (hp : p.block < w.heap.size) (hn : ¬ S p.block) : w1.cell? p = w.cell? p := World.cell?_of_block (w := w) (h.block p.block hp hn)
theorem Ext.frozen {p : Addr} (h : Ext S w w1) (hp : p.block < w.heap.size) (hn : ¬ S p.block) : w1.frozen? p = w.frozen? p := World.frozen?_of_block (w := w) (h.block p.block hp hn)
theorem ecell {pb : Nat} (hx : Ext (· = pb) w w1) : (∀ b o, b < w.heap.size → b ≠ pb → w1.cell? ⟨b, o, none⟩ = w.cell? ⟨b, o, none⟩) ∧ (∀ b o, b < w.heap.size → b ≠ pb → w1.frozen? ⟨b, o, none⟩ = w.frozen? ⟨b, o, none⟩) :=
  ⟨fun b o h hn => hx.cell (p := ⟨b, o, none⟩) h hn, fun b o h hn => hx.frozen (p := ⟨b, o, none⟩) h hn⟩
end

/-- Behind a call that turns block pb alone: what the walk wants to know. -/
theorem estep {w w1 : World} {pb : Nat} (hx : Ext (· = pb) w w1) (hp : pb < w.heap.size) : (∀ b o, b < w.heap.size → b ≠ pb → w1.cell? ⟨b, o, none⟩ = w.cell? ⟨b, o, none⟩) ∧ (∀ b o, b < w.heap.size → b ≠ pb → w1.frozen? ⟨b, o, none⟩ = w.frozen? ⟨b, o, none⟩) ∧ w.heap.size ≤ w1.heap.size ∧ w1.heap.size ≠ pb :=
  ⟨(ecell hx).1, (ecell hx).2, hx.size, by have := hx.size; omega⟩
theorem bstep {w w1 : World} {pb : Nat} (hx : Below w.heap.size w w1) (hp : pb < w.heap.size) : (∀ b o, b < w.heap.size → w1.cell? ⟨b, o, none⟩ = w.cell? ⟨b, o, none⟩) ∧ (∀ b o, b < w.heap.size → w1.frozen? ⟨b, o, none⟩ = w.frozen? ⟨b, o, none⟩) ∧ w.heap.size ≤ w1.heap.size ∧ w1.heap.size ≠ pb :=
  ⟨fun b o h => hx.cell (p := ⟨b, o, none⟩) h, fun b o h => hx.frozen (p := ⟨b, o, none⟩) h, hx.size, by have := hx.size; omega⟩
/-- The first four, five cells of a block. -/
abbrev cells4 (w : World) (b : Nat) (x0 x1 x2 x3 : Value) : Prop := w.cell? ⟨b, 0, none⟩ = some x0 ∧ w.cell? ⟨b, 1, none⟩ = some x1 ∧ w.cell? ⟨b, 2, none⟩ = some x2 ∧ w.cell? ⟨b, 3, none⟩ = some x3
abbrev cells5 (w : World) (b : Nat) (x0 x1 x2 x3 x4 : Value) : Prop := w.cell? ⟨b, 0, none⟩ = some x0 ∧ w.cell? ⟨b, 1, none⟩ = some x1 ∧ w.cell? ⟨b, 2, none⟩ = some x2 ∧ w.cell? ⟨b, 3, none⟩ = some x3 ∧ w.cell? ⟨b, 4, none⟩ = some x4
theorem cell_ext {S : Nat → Prop} {w w1 : World} {b o : Nat} {v : Value} (h : w.cell? ⟨b, o, none⟩ = some v) (hx : Ext S w w1) (hn : ¬ S b) : w1.cell? ⟨b, o, none⟩ = some v := (hx.cell (p := ⟨b, o, none⟩) (World.block_lt_of_cell? w _ h) hn).trans h
theorem cells4.ext {S : Nat → Prop} {w w1 : World} {b : Nat} {x0 x1 x2 x3 : Value} (h : cells4 w b x0 x1 x2 x3) (hx : Ext S w w1) (hn : ¬ S b) : cells4 w1 b x0 x1 x2 x3 := ⟨cell_ext h.1 hx hn, cell_ext h.2.1 hx hn, cell_ext h.2.2.1 hx hn, cell_ext h.2.2.2 hx hn⟩
theorem cells5.ext {S : Nat → Prop} {w w1 : World} {b : Nat} {x0 x1 x2 x3 x4 : Value} (h : cells5 w b x0 x1 x2 x3 x4) (hx : Ext S w w1) (hn : ¬ S b) : cells5 w1 b x0 x1 x2 x3 x4 := ⟨cell_ext h.1 hx hn, cell_ext h.2.1 hx hn, cell_ext h.2.2.1 hx hn, cell_ext h.2.2.2.1 hx hn, cell_ext h.2.2.2.2 hx hn⟩
theorem frz_ext {S : Nat → Prop} {w w1 : World} {b : Nat} (h : ∀ o, w.frozen? ⟨b, o, none⟩ = false) (hx : Ext S w w1) (hb : b < w.heap.size) (hn : ¬ S b) : ∀ o, w1.frozen? ⟨b, o, none⟩ = false := fun o => (hx.frozen (p := ⟨b, o, none⟩) hb hn).trans (h o)
theorem cells4.new (w : World) (a b c d : Value) (t : TypeId) : cells4 (w.alloc (.cells #[a, b, c, d] t)) w.heap.size a b c d := by simp [cells4]
theorem cells5.new (w : World) (a b c d e : Value) (t : TypeId) : cells5 (w.alloc (.cells #[a, b, c, d, e] t)) w.heap.size a b c d e := by simp [cells5]
theorem frozen_new (w : World) (cs : Array Value) (t : TypeId) (o : Nat) : (w.alloc (.cells cs t)).frozen? ⟨w.heap.size, o, none⟩ = false := by simp

/-- The result's four cells are written. -/
abbrev set4 (w : World) (r : Nat) (a b c d : Value) : World := (((w.setCell ⟨r, 0, none⟩ a).setCell ⟨r, 1, none⟩ b).setCell ⟨r, 2, none⟩ c).setCell ⟨r, 3, none⟩ d
abbrev set5 (w : World) (r : Nat) (a b c d e : Value) : World := ((((w.setCell ⟨r, 0, none⟩ a).setCell ⟨r, 1, none⟩ b).setCell ⟨r, 2, none⟩ c).setCell ⟨r, 3, none⟩ d).setCell ⟨r, 4, none⟩ e
theorem ext_set4 (w : World) (r : Nat) (a b c d : Value) : Ext (· = r) w (set4 w r a b c d) := ((((Ext.refl (· = r) w).setCell (p := ⟨r, 0, none⟩) (.inl rfl) a).setCell (p := ⟨r, 1, none⟩) (.inl rfl) b).setCell (p := ⟨r, 2, none⟩) (.inl rfl) c).setCell (p := ⟨r, 3, none⟩) (.inl rfl) d
theorem ext_set5 (w : World) (r : Nat) (a b c d e : Value) : Ext (· = r) w (set5 w r a b c d e) := (((((Ext.refl (· = r) w).setCell (p := ⟨r, 0, none⟩) (.inl rfl) a).setCell (p := ⟨r, 1, none⟩) (.inl rfl) b).setCell (p := ⟨r, 2, none⟩) (.inl rfl) c).setCell (p := ⟨r, 3, none⟩) (.inl rfl) d).setCell (p := ⟨r, 4, none⟩) (.inl rfl) e

/-! ### tokens -/
/-- From a place on the cells hold these tokens. -/
def ToksAt (w : World) (tb off : Nat) (l : List Tok) : Prop :=
  ∀ j t, l[j]? = some t → w.cell? ⟨tb, off + 3 * j, none⟩ = some (.int .i64 t.kind) ∧ w.cell? ⟨tb, off + 3 * j + 1, none⟩ = some (.string (ba t.text)) ∧ w.cell? ⟨tb, off + 3 * j + 2, none⟩ = some (.int .i64 t.off)
theorem ToksAt.head {w : World} {tb off : Nat} {t : Tok} {l : List Tok} (h : ToksAt w tb off (t :: l)) :
    w.cell? ⟨tb, off, none⟩ = some (.int .i64 t.kind) ∧ w.cell? ⟨tb, off + 1, none⟩ = some (.string (ba t.text)) ∧ w.cell? ⟨tb, off + 2, none⟩ = some (.int .i64 t.off) := h 0 t rfl
theorem ToksAt.tail {w : World} {tb off : Nat} {t : Tok} {l : List Tok} (h : ToksAt w tb off (t :: l)) : ToksAt w tb (off + 3) l := fun j u hj => by
  have := h (j + 1) u hj
  rw [show off + 3 * (j + 1) = off + 3 + 3 * j from by omega] at this
  exact this
theorem ToksAt.keep {w w1 : World} {tb off : Nat} {l : List Tok} (h : ToksAt w tb off l) (hk : w1.heap[tb]? = w.heap[tb]?) : ToksAt w1 tb off l := fun j t hj => by
  have := h j t hj
  rwa [World.cell?_of_block (w := w) (a := ⟨tb, off + 3 * j, none⟩) hk, World.cell?_of_block (w := w) (a := ⟨tb, off + 3 * j + 1, none⟩) hk, World.cell?_of_block (w := w) (a := ⟨tb, off + 3 * j + 2, none⟩) hk]

/-- A row of strings in memory. -/
def StrsAt (w : World) (m : Nat) (v : Value) (row : List Str) : Prop :=
  ∃ A c, v = .slice A row.length c ∧ row.length ≤ 1000000 ∧ (row ≠ [] → ∃ b off, A = some ⟨b, off, none⟩ ∧ b < m ∧ ∀ j s, row[j]? = some s → w.cell? ⟨b, off + j, none⟩ = some (.string (ba s)))
theorem StrsAt.keep {w w1 : World} {m : Nat} {v : Value} {row : List Str} (h : StrsAt w m v row) (hk : ∀ b, b < m → w1.heap[b]? = w.heap[b]?) : StrsAt w1 m v row := by
  obtain ⟨A, c, e, hl, h⟩ := h
  refine ⟨A, c, e, hl, fun hn => ?_⟩
  obtain ⟨b, off, e2, hb, hc⟩ := h hn
  exact ⟨b, off, e2, hb, fun j s hj => (World.cell?_of_block (w := w) (a := ⟨b, off + j, none⟩) (hk b hb)).trans (hc j s hj)⟩

/-- The table of the operators' levels lies in memory, below block m. -/
def LevAt (w : World) (m : Nat) : Prop :=
  0 < m ∧ ∃ f : Nat → Value, ∀ i row, levels[i]? = some row → w.cell? ⟨0, i, none⟩ = some (f i) ∧ StrsAt w m (f i) row
theorem LevAt.keep {w w1 : World} {m m1 : Nat} (h : LevAt w m) (hm : m ≤ m1) (hk : ∀ b, b < m → w1.heap[b]? = w.heap[b]?) : LevAt w1 m1 := by
  obtain ⟨h0, f, h⟩ := h
  refine ⟨by omega, f, fun i row hi => ?_⟩
  obtain ⟨h1, A, c, e, hl, h2⟩ := h i row hi
  refine ⟨(World.cell?_of_block (w := w) (a := ⟨_, i, none⟩) (hk _ h0)).trans h1, A, c, e, hl, fun hn => ?_⟩
  obtain ⟨b, off, e2, hb, hc⟩ := h2 hn
  exact ⟨b, off, e2, by omega, fun j s hj => (World.cell?_of_block (w := w) (a := ⟨b, off + j, none⟩) (hk b hb)).trans (hc j s hj)⟩

/-- The parser at block pb: these tokens are left (they lie in block tb); the string's length is e. -/
structure PSt (w : World) (pb tb e : Nat) (l : List Tok) : Prop where
  pb_lt : pb < w.heap.size
  tb_lt : tb < w.heap.size
  ne : tb ≠ pb
  nofrz : w.frozen? ⟨pb, 0, none⟩ = false
  fin : w.cell? ⟨pb, 1, none⟩ = some (.int .i64 e)
  len : l.length ≤ 1000000
  wf : ∀ t ∈ l, t.ok
  lev : LevAt w pb
  list : ∃ A c, w.cell? ⟨pb, 0, none⟩ = some (.slice A l.length c) ∧ l.length ≤ c ∧ c ≤ 9223372036854775807 ∧ (l ≠ [] → ∃ off, A = some ⟨tb, off, none⟩ ∧ ToksAt w tb off l)
section
variable {w w1 : World} {pb tb e : Nat} {l : List Tok}
theorem PSt.below (h : PSt w pb tb e l) (hb : Below w.heap.size w w1) : PSt w1 pb tb e l := by
  obtain ⟨A, c, h1, h2, h3, h4⟩ := h.list
  have hp : w1.heap[pb]? = w.heap[pb]? := hb.block pb h.pb_lt
  refine ⟨Nat.lt_of_lt_of_le h.pb_lt hb.size, Nat.lt_of_lt_of_le h.tb_lt hb.size, h.ne, ?_, ?_, h.len, h.wf, h.lev.keep (Nat.le_refl _) (fun b hlt => hb.block b (Nat.lt_trans hlt h.pb_lt)), A, c, ?_, h2, h3, fun hn => ?_⟩
  · rw [World.frozen?_of_block (w := w) (a := ⟨pb, 0, none⟩) hp]; exact h.nofrz
  · rw [World.cell?_of_block (w := w) (a := ⟨pb, 1, none⟩) hp]; exact h.fin
  · rw [World.cell?_of_block (w := w) (a := ⟨pb, 0, none⟩) hp]; exact h1
  · obtain ⟨off, h5, h6⟩ := h4 hn
    exact ⟨off, h5, h6.keep (hb.block tb h.tb_lt)⟩
end
theorem PSt.ext {S : Nat → Prop} {w w1 : World} {pb tb e : Nat} {l : List Tok} (h : PSt w pb tb e l) (hx : Ext S w w1) (hp : ¬ S pb) (ht : ¬ S tb) (hl : ∀ b, S b → pb ≤ b) : PSt w1 pb tb e l := by
  obtain ⟨A, c, h1, h2, h3, h4⟩ := h.list
  have hp : w1.heap[pb]? = w.heap[pb]? := hx.block pb h.pb_lt hp
  refine ⟨Nat.lt_of_lt_of_le h.pb_lt hx.size, Nat.lt_of_lt_of_le h.tb_lt hx.size, h.ne, ?_, ?_, h.len, h.wf, h.lev.keep (Nat.le_refl _) (fun b hlt => hx.block b (Nat.lt_trans hlt h.pb_lt) (fun hs => by have := hl b hs; omega)), A, c, ?_, h2, h3, fun hn => ?_⟩
  · rw [World.frozen?_of_block (w := w) (a := ⟨pb, 0, none⟩) hp]; exact h.nofrz
  · rw [World.cell?_of_block (w := w) (a := ⟨pb, 1, none⟩) hp]; exact h.fin
  · rw [World.cell?_of_block (w := w) (a := ⟨pb, 0, none⟩) hp]; exact h1
  · obtain ⟨off, h5, h6⟩ := h4 hn
    exact ⟨off, h5, h6.keep (hx.block tb h.tb_lt ht)⟩
theorem PSt.drew {w : World} {pb tb e : Nat} {l : List Tok} (h : PSt w pb tb e l) : PSt w.drew pb tb e l := h.below (Below.refl _ _).drew
theorem PSt.alloc {w : World} {pb tb e : Nat} {l : List Tok} (h : PSt w pb tb e l) (o : Obj) : PSt (w.alloc o) pb tb e l := h.below ((Below.refl _ _).alloc (Nat.le_refl _) _)
/-- The parser is one token further: what is behind the store into its first cell. -/
theorem PSt.moved {w : World} {pb tb e : Nat} {t : Tok} {l : List Tok} (h : PSt w pb tb e (t :: l)) {A : Option Addr} {c : Nat} (hc : l.length ≤ c) (hc2 : c ≤ 9223372036854775807)
    (hA : l ≠ [] → ∃ off, A = some ⟨tb, off, none⟩ ∧ ToksAt w tb off l) : PSt (w.setCell ⟨pb, 0, none⟩ (.slice A l.length c)) pb tb e l := by
  have hk : (w.setCell ⟨pb, 0, none⟩ (.slice A l.length c)).heap[tb]? = w.heap[tb]? := Below.heap_setCell w _ _ tb h.ne
  obtain ⟨A0, c0, h0, _⟩ := h.list
  refine ⟨by simpa [World.setCell] using h.pb_lt, by simpa [World.setCell] using h.tb_lt, h.ne, ?_, ?_, by have := h.len; simp at this; omega, fun u hu => h.wf u (List.mem_cons_of_mem _ hu), h.lev.keep (Nat.le_refl _) (fun b hlt => Below.heap_setCell w _ _ b (by show b ≠ pb; omega)), A, c, ?_, hc, hc2, fun hn => ?_⟩
  · rw [World.frozen?_setCell]; exact h.nofrz
  · rw [World.cell?_setCell_other]
    · exact h.fin
    · simp
  · exact World.cell?_setCell_same' _ _ _ (by rw [h0]; rfl)
  · obtain ⟨off, h1, h2⟩ := hA hn
    exact ⟨off, h1, h2.keep hk⟩

end Go.BW
