/- A method of the parser that makes a statement, under way. -/
import Derived.Test.YtdijffojppjmfaaDoorPv
set_option linter.unusedVariables false
namespace Go.Proofs.YtdijffojppjmfaaDoor
open Go.RowKit Bir Go.BW
/-- Before the statement is made: the method's result lies at w0's end. -/
structure Pre (w0 w : World) (pb tb e : Nat) (l : List Tok) : Prop where
  pb_lt : pb < w0.heap.size
  tb_lt : tb < w0.heap.size
  st : PSt w pb tb e l
  ext : Ext (· = pb) (w0.alloc z5) w
section
variable {w0 w w1 w2 : World} {pb tb e bs : Nat} {l l0 l1 l2 : List Tok} {k : Int} {s : Str} {ev bv lv : Value} {xs : List Ex} {b el : List St}
theorem Pre.start (h : PSt w pb tb e l) : Pre w (w.alloc z5) pb tb e l := ⟨h.pb_lt, h.tb_lt, h.alloc _, .refl _ _⟩
theorem Pre.move (h : Pre w0 w pb tb e l) (hx : Ext (· = pb) w w1) (h1 : PSt w1 pb tb e l1) : Pre w0 w1 pb tb e l1 := ⟨h.pb_lt, h.tb_lt, h1, h.ext.trans' hx⟩
theorem Pre.below (h : Pre w0 w pb tb e l) (hb : Below w.heap.size w w1) : Pre w0 w1 pb tb e l := h.move (.of_below hb _) (h.st.below hb)
theorem Pre.alloc (h : Pre w0 w pb tb e l) (o : Obj) : Pre w0 (w.alloc o) pb tb e l := h.below ((Below.refl _ _).alloc (Nat.le_refl _) _)
theorem Pre.drew (h : Pre w0 w pb tb e l) : Pre w0 w.drew pb tb e l := ⟨h.pb_lt, h.tb_lt, h.st.drew, h.ext.drew⟩
theorem Pre.size (h : Pre w0 w pb tb e l) : w0.heap.size + 1 ≤ w.heap.size := by have := h.ext.size; rwa [World.size_alloc] at this
theorem Pre.facts (h : Pre w0 w pb tb e l) : (w.cell? ⟨w0.heap.size, 0, none⟩ = some (.int .i64 0) ∧ w.cell? ⟨w0.heap.size, 1, none⟩ = some (.string ⟨#[]⟩) ∧ w.cell? ⟨w0.heap.size, 2, none⟩ = some (.slice none 0 0) ∧ w.cell? ⟨w0.heap.size, 3, none⟩ = some (.slice none 0 0) ∧ w.cell? ⟨w0.heap.size, 4, none⟩ = some (.slice none 0 0)) ∧
    (∀ o, w.frozen? ⟨w0.heap.size, o, none⟩ = false) ∧ w0.heap.size < w.heap.size ∧ w0.heap.size ≠ pb ∧ w.heap.size ≠ pb ∧ w.heap.size + 1 ≠ pb := by
  have hp := h.pb_lt
  have hz := h.size
  exact ⟨(cells5.new w0 _ _ _ _ _ 98).ext h.ext (by omega), frz_ext (frozen_new w0 _ 98) h.ext (by simp) (by omega), by omega, by omega, by omega, by omega⟩
theorem Pre.panic {r : R St} {lp : List Tok} {kk : Nat} (h : Pre w0 w pb tb e l) (hx : Ext (· = pb) w w1) (hr : r = .err lp kk) : SPost w0 pb tb e r (.panicked (wrongAt (offAt e lp) kk)) w1 := by
  rw [hr]
  exact ⟨rfl, ((Ext.refl _ w0).alloc _).trans' (h.ext.trans' hx)⟩
/-- A statement that was handed to it is handed on. -/
theorem Pre.fin {fn : Func} {k0 : Nat} {tm : Array Value} {x : St} (h : Pre w0 w pb tb e l) (hfn : fn.results = #[.cell k0 98]) (htm : tm.getD k0 undef = .pointer (some ⟨w0.heap.size, 0, none⟩))
    (he : ERow w (From (w0.heap.size + 1)) ev x.exprs) (hb : SRow w (From (w0.heap.size + 1)) bv x.body) (hl : SRow w (From (w0.heap.size + 1)) lv x.els) (h0 : PSt w0 pb tb e l0) :
    bodyPost Tryd.prog fn (SPost w0 pb tb e (.ok x l)) .ret { tmps := tm, defers := [] } (set5 w w0.heap.size (.int .i64 x.kind) (.string (ba x.name)) ev bv lv) :=
  spost_fin hfn htm h.ext h.st he hb hl h0
theorem Pre.erow (h : Pre w0 w pb tb e l) {v : Value} {ys : List Ex} (hv : ERow w1 (From w.heap.size) v ys) : ERow w1 (From (w0.heap.size + 1)) v ys := hv.keep (Nat.le_refl _) fun b hb _ => ⟨rfl, Nat.le_trans h.size hb⟩
theorem Pre.srow (h : Pre w0 w pb tb e l) {v : Value} {ys : List St} (hv : SRow w1 (From w.heap.size) v ys) : SRow w1 (From (w0.heap.size + 1)) v ys := hv.keep (Nat.le_refl _) fun b hb _ => ⟨rfl, Nat.le_trans h.size hb⟩
/-- A statement with one expression that a call has handed back. -/
theorem Pre.lit1 (h : Pre w0 w1 pb tb e l) {y : Ex} {A : Option Addr} {n c : Nat} (hr : ERow w2 (From w1.heap.size) (.slice A n c) y.kids) (hx : Ext (· = pb) w1 w2) (h2 : PSt w2 pb tb e l2) (k : Int) (s : Str) :
    Loc w0 ((w2.alloc (.cells #[.int .i64 y.kind, .int .i64 y.num, .string (ba y.name), .slice A n c] 36)).alloc (.cells #[.int .i64 k, .string (ba s), .slice (some ⟨w2.heap.size, 0, none⟩) 1 1, .slice none 0 0, .slice none 0 0] 98)) pb tb e (w2.heap.size + 1) l2 k s (.slice (some ⟨w2.heap.size, 0, none⟩) 1 1) (.slice none 0 0) (.slice none 0 0) [y] [] [] := by
  have hz := h.size
  have hz2 := hx.size
  have hrow : ERow (w2.alloc (.cells #[.int .i64 y.kind, .int .i64 y.num, .string (ba y.name), .slice A n c] 36)) (From (w0.heap.size + 1)) (.slice (some ⟨w2.heap.size, 0, none⟩) 1 1) [y] :=
    erow1 (k1 := .slice A n c) (by omega) (by simp) (hr.ext ((Ext.refl (fun _ => False) _).alloc _) (fun _ h => h.elim) (by omega)) (fun i u hu => cells_of_new w2 _ _ i u hu)
  have := Loc.new h.pb_lt h.tb_lt (h2.alloc (.cells #[.int .i64 y.kind, .int .i64 y.num, .string (ba y.name), .slice A n c] 36)) ((h.ext.trans' hx).alloc _) k s hrow (.nil' _ _) (.nil' _ _)
  rwa [World.size_alloc] at this
/-- A statement with a row of expressions that a call has handed back. -/
theorem Pre.litE (h : Pre w0 w1 pb tb e l) {v : Value} {ys : List Ex} (hr : ERow w2 (From w1.heap.size) v ys) (hx : Ext (· = pb) w1 w2) (h2 : PSt w2 pb tb e l2) (k : Int) (s : Str) :
    Loc w0 (w2.alloc (.cells #[.int .i64 k, .string (ba s), v, .slice none 0 0, .slice none 0 0] 98)) pb tb e w2.heap.size l2 k s v (.slice none 0 0) (.slice none 0 0) ys [] [] :=
  Loc.new h.pb_lt h.tb_lt h2 (h.ext.trans' hx) k s (h.erow hr) (.nil' _ _) (.nil' _ _)
theorem Pre.litB (h : Pre w0 w1 pb tb e l) {v : Value} {ys : List St} (hr : SRow w2 (From w1.heap.size) v ys) (hx : Ext (· = pb) w1 w2) (h2 : PSt w2 pb tb e l2) (k : Int) (s : Str) :
    Loc w0 (w2.alloc (.cells #[.int .i64 k, .string (ba s), .slice none 0 0, v, .slice none 0 0] 98)) pb tb e w2.heap.size l2 k s (.slice none 0 0) v (.slice none 0 0) [] ys [] :=
  Loc.new h.pb_lt h.tb_lt h2 (h.ext.trans' hx) k s (.nil' _ _) (h.srow hr) (.nil' _ _)
theorem Pre.lit0 (h : Pre w0 w pb tb e l) (k : Int) (s : Str) :
    Loc w0 (w.alloc (.cells #[.int .i64 k, .string (ba s), .slice none 0 0, .slice none 0 0, .slice none 0 0] 98)) pb tb e w.heap.size l k s (.slice none 0 0) (.slice none 0 0) (.slice none 0 0) [] [] [] :=
  Loc.new h.pb_lt h.tb_lt h.st h.ext k s (.nil' _ _) (.nil' _ _) (.nil' _ _)
/-- A statement that a call has handed back whole. -/
theorem Pre.litS (h : Pre w0 w1 pb tb e l) {x : St} (he : ERow w2 (From w1.heap.size) ev x.exprs) (hb : SRow w2 (From w1.heap.size) bv x.body) (hl : SRow w2 (From w1.heap.size) lv x.els) (hx : Ext (· = pb) w1 w2) (h2 : PSt w2 pb tb e l2) :
    Loc w0 (w2.alloc (.cells #[.int .i64 x.kind, .string (ba x.name), ev, bv, lv] 98)) pb tb e w2.heap.size l2 x.kind x.name ev bv lv x.exprs x.body x.els :=
  Loc.new h.pb_lt h.tb_lt h2 (h.ext.trans' hx) _ _ (h.erow he) (h.srow hb) (h.srow hl)
end
theorem Loc.drew {w0 w : World} {pb tb e bs : Nat} {l : List Tok} {k : Int} {s : Str} {ev bv lv : Value} {xs : List Ex} {b el : List St} (h : Loc w0 w pb tb e bs l k s ev bv lv xs b el) : Loc w0 w.drew pb tb e bs l k s ev bv lv xs b el :=
  h.move ((Ext.refl _ w).drew) h.st.drew
/-- An expression in a block of its own, beside the statement that is being made. -/
structure EBlk (w0 w : World) (pb bs eb : Nat) (y : Ex) (kv : Value) : Prop where
  lt : eb < w.heap.size
  ge : w0.heap.size + 1 ≤ eb
  off : eb ≠ bs
  ne : eb ≠ pb
  c : cells4 w eb (.int .i64 y.kind) (.int .i64 y.num) (.string (ba y.name)) kv
  row : ERow w (Off (w0.heap.size + 1) bs) kv y.kids
section
variable {w0 w w1 w2 : World} {pb tb e bs eb : Nat} {l l1 : List Tok} {k : Int} {s : Str} {ev bv lv kv : Value} {xs : List Ex} {b el : List St} {y : Ex}
theorem EBlk.new (h : Loc w0 w pb tb e bs l k s ev bv lv xs b el) (hr : ERow w1 (From w.heap.size) kv y.kids) (hx : Ext (· = pb) w w1) : EBlk w0 (w1.alloc (.cells #[.int .i64 y.kind, .int .i64 y.num, .string (ba y.name), kv] 36)) pb bs w1.heap.size y kv := by
  have h1 := h.pb_lt
  have h2 := h.ge
  have h3 := h.lt
  have h4 := hx.size
  exact ⟨by simp, by omega, by omega, by omega, cells4.new _ _ _ _ _ _, (h.madeE hr).off ((Ext.refl (fun _ => False) _).alloc _) (fun _ h => h.elim)⟩
theorem EBlk.move (hb : EBlk w0 w pb bs eb y kv) (h : Loc w0 w pb tb e bs l k s ev bv lv xs b el) (hx : Ext (· = pb) w w1) : EBlk w0 w1 pb bs eb y kv := by
  have h1 := h.pb_lt
  exact ⟨Nat.lt_of_lt_of_le hb.lt hx.size, hb.ge, hb.off, hb.ne, hb.c.ext hx hb.ne, hb.row.off hx (fun b hb => by omega)⟩
theorem EBlk.drew (hb : EBlk w0 w pb bs eb y kv) : EBlk w0 w.drew pb bs eb y kv := ⟨hb.lt, hb.ge, hb.off, hb.ne, hb.c, hb.row.off ((Ext.refl (fun _ => False) w).drew) (fun _ h => h.elim)⟩
theorem EBlk.two (hb : EBlk w0 w pb bs eb y kv) (h : Loc w0 w pb tb e bs l k s ev bv lv xs b el) {z : Ex} {kz : Value} (hz : ERow w (Off (w0.heap.size + 1) bs) kz z.kids) :
    Loc w0 ((w.setCell ⟨bs, 2, none⟩ (.slice (some ⟨w.heap.size, 0, none⟩) 2 2)).alloc (.cells #[.int .i64 y.kind, .int .i64 y.num, .string (ba y.name), kv, .int .i64 z.kind, .int .i64 z.num, .string (ba z.name), kz] 36)) pb tb e bs l k s (.slice (some ⟨w.heap.size, 0, none⟩) 2 2) bv lv [y, z] b el := by
  have h3 := h.lt
  have h2 := h.ge
  have ha := (Ext.refl (fun _ => False) w).alloc (.cells #[.int .i64 y.kind, .int .i64 y.num, .string (ba y.name), kv, .int .i64 z.kind, .int .i64 z.num, .string (ba z.name), kz] 36)
  have hl := (h.alloc (.cells #[.int .i64 y.kind, .int .i64 y.num, .string (ba y.name), kv, .int .i64 z.kind, .int .i64 z.num, .string (ba z.name), kz] 36)).setExprs (v := .slice (some ⟨w.heap.size, 0, none⟩) 2 2) (xs' := [y, z])
    (ERow.of_cells (xs := [y, z]) (c := 2) (((ECells.nil _ _).snoc (kv := kv) (hb.row.off ha (fun _ h => h.elim))).snoc (kv := kz) (hz.off ha (fun _ h => h.elim))) ⟨by omega, by omega⟩ (by simp) (Nat.le_refl _) (fun i u hu => cells_of_new w _ _ i u hu))
  rwa [World.setCell_alloc_past _ _ _ _ h3] at hl
end
/-- What a name comes to. -/
theorem name_cases (l : List Tok) : (∃ k, name l = .err l k ∧ ((kindOf l ≠ 1 ∧ k = 4) ∨ (∃ t r, l = t :: r ∧ t.kind = 1 ∧ 40 < t.text.length ∧ k = 3))) ∨ ∃ t r, l = t :: r ∧ t.kind = 1 ∧ t.text.length ≤ 40 ∧ name l = .ok t.text r := by
  cases l with
  | nil => exact .inl ⟨4, rfl, .inl ⟨by simp [kindOf], rfl⟩⟩
  | cons t r =>
    by_cases hk : t.kind = 1
    · by_cases h4 : 40 < t.text.length
      · exact .inl ⟨3, by simp [name, hk, h4], .inr ⟨t, r, rfl, hk, h4, rfl⟩⟩
      · exact .inr ⟨t, r, rfl, hk, by omega, by simp [name, hk, h4]⟩
    · exact .inl ⟨4, by simp [name, hk], .inl ⟨hk, rfl⟩⟩
section
variable {w : World} {pb tb e : Nat} {l : List Tok}
theorem name_bad (h : PSt w pb tb e l) {k : Nat} (hk : (kindOf l ≠ 1 ∧ k = 4) ∨ (∃ t r, l = t :: r ∧ t.kind = 1 ∧ 40 < t.text.length ∧ k = 3)) :
    Calls Tryd.prog 107 #[pp pb] w fun r w' => r = .panicked (wrongAt (offAt e l) k) ∧ Ext (· = pb) w w' := by
  rcases hk with ⟨hk, rfl⟩ | ⟨t, r, rfl, hk, hl, rfl⟩
  · exact (name_form h hk).mono fun _ _ ⟨a, b⟩ => ⟨a, .of_below b _⟩
  · exact (name_long h hk hl).mono fun _ _ ⟨a, b⟩ => ⟨a, .of_below b _⟩
end
end Go.Proofs.YtdijffojppjmfaaDoor
