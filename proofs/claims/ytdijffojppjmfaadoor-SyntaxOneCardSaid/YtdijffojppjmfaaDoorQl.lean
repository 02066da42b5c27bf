/- read, walked: at expressions. -/
import Derived.Test.YtdijffojppjmfaaDoorQk
set_option linter.unusedVariables false
set_option linter.unusedSimpArgs false
namespace Bir
/-- What a string comes to by a reading of its tokens: what it is, or an offset and an error. -/
def readRes {α : Type} (p : List Tok → R α) (s : Str) : Option α × Nat × Nat :=
  if 20000 < s.length then (none, 0, 3) else
  match lex s with
  | .bad a => (none, a, 4)
  | .ok l =>
    match p l with
    | .out => (none, 0, 0)
    | .err l' k => (none, Go.Proofs.YtdijffojppjmfaaDoor.offAt s.length l', k)
    | .ok x [] => (some x, 0, 0)
    | .ok x (t :: _) => (none, t.off, 4)
end Bir
namespace Go.Proofs.YtdijffojppjmfaaDoor
open Go.RowKit Bir Go.BW
def readEnd {α : Type} (x : α) : List Tok → Option α × Nat × Nat
  | [] => (some x, 0, 0)
  | t :: _ => (none, t.off, 4)
theorem readRes_ok {α : Type} {p : List Tok → R α} {s : Str} {l l2 : List Tok} {x : α} (hl : s.length ≤ 20000) (hok : lex s = .ok l) (hy : p l = .ok x l2) : readRes p s = readEnd x l2 := by
  unfold readRes
  rw [if_neg (by omega), hok]
  simp only [hy]
  cases l2 <;> rfl
/-- What read hands back; Z: the zero value, V: how a value reads. -/
def ReadPost {α : Type} (Z : Value) (V : World → α → Value → World → Prop) (w : World) (r : Option α × Nat × Nat) (en : Ending) (w' : World) : Prop :=
  Below w.heap.size w w' ∧ ∃ v, en = .returned (.tuple #[v, .int .i64 r.2.1, .int .i64 r.2.2]) ∧ match r.1 with
    | none => v = Z
    | some x => V w x v w'
abbrev zE : Value := .agg #[.int .i64 0, .int .i64 0, .string ⟨#[]⟩, .slice none 0 0]
def ExVal (w : World) (x : Ex) (v : Value) (w' : World) : Prop := ∃ kv, v = .agg #[.int .i64 x.kind, .int .i64 x.num, .string (ba x.name), kv] ∧ ERow w' (From w.heap.size) kv x.kids
section
variable {w w1 : World} {s : Str}
/-- read's three results, at the end of w. -/
structure R3 (w w1 : World) (v0 v1 v2 v3 e1 e2 : Value) : Prop where
  size : w.heap.size + 3 ≤ w1.heap.size
  c0 : cells4 w1 w.heap.size v0 v1 v2 v3
  c1 : w1.cell? ⟨w.heap.size + 1, 0, none⟩ = some e1
  c2 : w1.cell? ⟨w.heap.size + 1 + 1, 0, none⟩ = some e2
  f0 : ∀ o, w1.frozen? ⟨w.heap.size, o, none⟩ = false
  f1 : ∀ o, w1.frozen? ⟨w.heap.size + 1, o, none⟩ = false
  f2 : ∀ o, w1.frozen? ⟨w.heap.size + 1 + 1, o, none⟩ = false
theorem cell1_new (w : World) (y : Value) (t : TypeId) : (w.alloc (.cells #[y] t)).cell? ⟨w.heap.size, 0, none⟩ = some y := by simp
theorem R3.start (w : World) (a b c d x y : Value) (t1 t2 t3 : TypeId) : R3 w (((w.alloc (.cells #[a, b, c, d] t1)).alloc (.cells #[x] t2)).alloc (.cells #[y] t3)) a b c d x y := by
  have E1 : Ext (fun _ => False) (w.alloc (.cells #[a, b, c, d] t1)) (((w.alloc (.cells #[a, b, c, d] t1)).alloc (.cells #[x] t2)).alloc (.cells #[y] t3)) := ((Ext.refl _ _).alloc _).alloc _
  have E2 : Ext (fun _ => False) ((w.alloc (.cells #[a, b, c, d] t1)).alloc (.cells #[x] t2)) (((w.alloc (.cells #[a, b, c, d] t1)).alloc (.cells #[x] t2)).alloc (.cells #[y] t3)) := (Ext.refl _ _).alloc _
  have n1 := cell1_new (w.alloc (.cells #[a, b, c, d] t1)) x t2
  have n2 := cell1_new ((w.alloc (.cells #[a, b, c, d] t1)).alloc (.cells #[x] t2)) y t3
  rw [World.size_alloc] at n1
  rw [World.size_alloc, World.size_alloc] at n2
  have m1 := frozen_new (w.alloc (.cells #[a, b, c, d] t1)) #[x] t2
  have m2 := frozen_new ((w.alloc (.cells #[a, b, c, d] t1)).alloc (.cells #[x] t2)) #[y] t3
  rw [World.size_alloc] at m1
  rw [World.size_alloc, World.size_alloc] at m2
  exact ⟨by simp, (cells4.new w a b c d t1).ext E1 id, cell_ext n1 E2 id, n2, frz_ext (frozen_new w _ t1) E1 (by simp) id, frz_ext m1 E2 (by simp) id, m2⟩
theorem R3.ext {S : Nat → Prop} {w2 : World} {v0 v1 v2 v3 e1 e2 : Value} (h : R3 w w1 v0 v1 v2 v3 e1 e2) (hx : Ext S w1 w2) (hS : ∀ b, S b → w.heap.size + 3 ≤ b) : R3 w w2 v0 v1 v2 v3 e1 e2 := by
  have hz := h.size
  exact ⟨Nat.le_trans hz hx.size, h.c0.ext hx (fun hs => by have := hS _ hs; omega), cell_ext h.c1 hx (fun hs => by have := hS _ hs; omega), cell_ext h.c2 hx (fun hs => by have := hS _ hs; omega),
    frz_ext h.f0 hx (by omega) (fun hs => by have := hS _ hs; omega), frz_ext h.f1 hx (by omega) (fun hs => by have := hS _ hs; omega), frz_ext h.f2 hx (by omega) (fun hs => by have := hS _ hs; omega)⟩
theorem R3.set12 {v0 v1 v2 v3 e1 e2 : Value} (h : R3 w w1 v0 v1 v2 v3 e1 e2) (x y : Value) : R3 w ((w1.setCell ⟨w.heap.size + 1, 0, none⟩ x).setCell ⟨w.heap.size + 1 + 1, 0, none⟩ y) v0 v1 v2 v3 x y := by
  have E1 := ext_cell w1 (w.heap.size + 1) 0 x
  have E2 := ext_cell (w1.setCell ⟨w.heap.size + 1, 0, none⟩ x) (w.heap.size + 1 + 1) 0 y
  have hz := h.size
  refine ⟨by simp [World.setCell]; omega, (h.c0.ext E1 (by omega)).ext E2 (by omega), cell_ext (cell_same_set h.c1) E2 (by omega), cell_same_set (cell_ext h.c2 E1 (by omega)), fun o => ?_, fun o => ?_, fun o => ?_⟩
  · simp [h.f0 o]
  · simp [h.f1 o]
  · simp [h.f2 o]
theorem below_ext {w2 : World} {pb : Nat} (h : Below w.heap.size w w1) (hx : Ext (· = pb) w1 w2) (hp : w.heap.size ≤ pb) : Below w.heap.size w w2 :=
  h.trans (hx.to_below h.size (fun k hk => by omega))
/-- The door of read behind a panic. -/
theorem readE_door {w2 : World} {v0 v1 v2 v3 e1 e2 : Value} {tm : Array Value} (off k : Nat) (hb : Below w.heap.size w w2) (h : R3 w w2 v0 v1 v2 v3 e1 e2) (h4 : tm[4]? = some (.pointer (some ⟨w.heap.size, 0, none⟩))) (h5 : tm[5]? = some (.pointer (some ⟨w.heap.size + 1, 0, none⟩))) (h6 : tm[6]? = some (.pointer (some ⟨w.heap.size + 1 + 1, 0, none⟩))) :
    bodyPostD Tryd.prog Tryd.f42 (ReadPost zE ExVal w (none, off, k)) (Exit.panic (wrongAt off k))
      { tmps := tm, defers := [{ target := Target.fn (Fn.func 82) #[.pointer (some ⟨w.heap.size, 0, none⟩), .pointer (some ⟨w.heap.size + 1, 0, none⟩), .pointer (some ⟨w.heap.size + 1 + 1, 0, none⟩)], args := #[] }] } w2 := by
  have hz := h.size
  refine leaves_cons (f := 82) (args := #[.pointer (some ⟨w.heap.size, 0, none⟩), .pointer (some ⟨w.heap.size + 1, 0, none⟩), .pointer (some ⟨w.heap.size + 1 + 1, 0, none⟩)]) (by simp) (by simp [go_sem]) ?_
  refine (readE_catch w.heap.size (w.heap.size + 1) (w.heap.size + 1 + 1) off k v0 v1 v2 v3 e1 e2 [] w2 h.c0 h.c1 h.c2 h.f0 h.f1 h.f2 (by omega) (by omega) (by omega) (by omega) (by omega) (by omega)).mono ?_
  rintro en u' w3 ⟨rfl, rfl, hx, ⟨c0, c1, c2, c3⟩, c4, c5⟩
  have hB : Below w.heap.size w w3 := hb.trans (hx.to_below (by omega) (fun b hb => by omega))
  simp [Leaves, settle, results, Tryd.results42, go_sem, h4, h5, h6, c0, c1, c2, c3, c4, c5]
  exact ⟨hB, _, rfl, rfl⟩
theorem R3.set4 {v0 v1 v2 v3 e1 e2 : Value} (h : R3 w w1 v0 v1 v2 v3 e1 e2) (a b c d : Value) : R3 w (Go.BW.set4 w1 w.heap.size a b c d) a b c d e1 e2 := by
  have E1 := ext_set4 w1 w.heap.size a b c d
  have hz := h.size
  obtain ⟨q0, q1, q2, q3⟩ := h.c0
  refine ⟨by have := E1.size; omega, set4_cells a b c d q0 q1 q2 q3, cell_ext h.c1 E1 (by omega), cell_ext h.c2 E1 (by omega), fun o => ?_, fun o => ?_, fun o => ?_⟩
  · simp [h.f0 o]
  · simp [h.f1 o]
  · simp [h.f2 o]
theorem pst_lev {S : Nat → Prop} {pb tb e : Nat} {l : List Tok} (h : PSt w pb tb e l) (hx : Ext S w w1) (hp : ¬ S pb) (ht : ¬ S tb) (hl : LevAt w1 pb) : PSt w1 pb tb e l := by
  obtain ⟨A, c, h1, h2, h3, h4⟩ := h.list
  have hp : w1.heap[pb]? = w.heap[pb]? := hx.block pb h.pb_lt hp
  refine ⟨Nat.lt_of_lt_of_le h.pb_lt hx.size, Nat.lt_of_lt_of_le h.tb_lt hx.size, h.ne, ?_, ?_, h.len, h.wf, hl, A, c, ?_, h2, h3, fun hn => ?_⟩
  · rw [World.frozen?_of_block (w := w) (a := ⟨pb, 0, none⟩) hp]; exact h.nofrz
  · rw [World.cell?_of_block (w := w) (a := ⟨pb, 1, none⟩) hp]; exact h.fin
  · rw [World.cell?_of_block (w := w) (a := ⟨pb, 0, none⟩) hp]; exact h1
  · obtain ⟨off, h5, h6⟩ := h4 hn
    exact ⟨off, h5, h6.keep (hx.block tb h.tb_lt ht)⟩
theorem R3.drew {v0 v1 v2 v3 e1 e2 : Value} (h : R3 w w1 v0 v1 v2 v3 e1 e2) : R3 w w1.drew v0 v1 v2 v3 e1 e2 := h.ext ((Ext.refl (fun _ => False) w1).drew) (fun _ h => h.elim)
theorem below_12 {x y x' y' a b c d : Value} (hb : Below w.heap.size w w1) (hz : w.heap.size ≤ w1.heap.size) : Below w.heap.size w (((Go.BW.set4 ((w1.setCell ⟨w.heap.size + 1, 0, none⟩ x).setCell ⟨w.heap.size + 1 + 1, 0, none⟩ y) w.heap.size a b c d).setCell ⟨w.heap.size + 1, 0, none⟩ x').setCell ⟨w.heap.size + 1 + 1, 0, none⟩ y') :=
  ((((hb.setCell (p := ⟨w.heap.size + 1, 0, none⟩) (by show w.heap.size ≤ w.heap.size + 1; omega) _).setCell (p := ⟨w.heap.size + 1 + 1, 0, none⟩) (by show w.heap.size ≤ w.heap.size + 1 + 1; omega) _).trans ((ext_set4 _ w.heap.size _ _ _ _).to_below (by simp [World.setCell]; omega) (fun b hb => by omega))).setCell (p := ⟨w.heap.size + 1, 0, none⟩) (by show w.heap.size ≤ w.heap.size + 1; omega) _).setCell (p := ⟨w.heap.size + 1 + 1, 0, none⟩) (by show w.heap.size ≤ w.heap.size + 1 + 1; omega) _
/-- The door of read behind a reading. -/
theorem readE_ret {w2 : World} {x : Ex} {kv : Value} {tm : Array Value} (hb : Below w.heap.size w w2) (h : R3 w w2 (.int .i64 x.kind) (.int .i64 x.num) (.string (ba x.name)) kv (.int .i64 0) (.int .i64 0)) (hk : ERow w2 (From w.heap.size) kv x.kids) (h4 : tm[4]? = some (.pointer (some ⟨w.heap.size, 0, none⟩))) (h5 : tm[5]? = some (.pointer (some ⟨w.heap.size + 1, 0, none⟩))) (h6 : tm[6]? = some (.pointer (some ⟨w.heap.size + 1 + 1, 0, none⟩))) :
    bodyPostD Tryd.prog Tryd.f42 (ReadPost zE ExVal w (some x, 0, 0)) Exit.ret
      { tmps := tm, defers := [{ target := Target.fn (Fn.func 82) #[.pointer (some ⟨w.heap.size, 0, none⟩), .pointer (some ⟨w.heap.size + 1, 0, none⟩), .pointer (some ⟨w.heap.size + 1 + 1, 0, none⟩)], args := #[] }] } w2 := by
  obtain ⟨hz, ⟨d0, d1, d2, d3⟩, d4, d5, f0, f1, f2⟩ := h
  refine leaves_cons (f := 82) (args := #[.pointer (some ⟨w.heap.size, 0, none⟩), .pointer (some ⟨w.heap.size + 1, 0, none⟩), .pointer (some ⟨w.heap.size + 1 + 1, 0, none⟩)]) (by simp) (by simp [go_sem]) ?_
  refine (readE_idle _ _ _ w2).mono ?_
  rintro en u' w3 ⟨rfl, rfl, rfl⟩
  simp [Leaves, settle, results, Tryd.results42, go_sem, h4, h5, h6, d0, d1, d2, d3, d4, d5]
  exact ⟨hb, _, rfl, _, rfl, hk⟩
/-- Ahead of the door: the lexer fell. -/
theorem readE_none {w2 : World} {tm : Array Value} {off k : Nat} (hb : Below w.heap.size w w2) (h : R3 w w2 (.int .i64 0) (.int .i64 0) (.string ⟨#[]⟩) (.slice none 0 0) (.int .i64 off) (.int .i64 k)) (h4 : tm[4]? = some (.pointer (some ⟨w.heap.size, 0, none⟩))) (h5 : tm[5]? = some (.pointer (some ⟨w.heap.size + 1, 0, none⟩))) (h6 : tm[6]? = some (.pointer (some ⟨w.heap.size + 1 + 1, 0, none⟩))) :
    bodyPostD Tryd.prog Tryd.f42 (ReadPost zE ExVal w (none, off, k)) Exit.ret { tmps := tm, defers := [] } w2 := by
  obtain ⟨hz, ⟨d0, d1, d2, d3⟩, d4, d5, f0, f1, f2⟩ := h
  simp [bodyPostD, Leaves, settle, results, Tryd.results42, go_sem, h4, h5, h6, d0, d1, d2, d3, d4, d5]
  exact ⟨hb, _, rfl, rfl⟩
theorem parser_state {W : World} {n : Nat} {A : Option Addr} {c : Nat} {l : List Tok} (hlev : LevAt w w.heap.size) (hb : Below w.heap.size w W) (hwf : ∀ t ∈ l, t.ok) (hlen : l.length ≤ 1000000) (hlc : l.length ≤ c) (hc : c ≤ 9223372036854775807)
    (ht : l = [] ∨ ∃ tb, A = some ⟨tb, 0, none⟩ ∧ tb < W.heap.size ∧ w.heap.size + 3 ≤ tb ∧ ToksAt W tb 0 l) :
    ∃ tb, (tb < w.heap.size ∨ w.heap.size + 3 ≤ tb) ∧ PSt (W.alloc (.cells #[.slice A l.length c, .int .i64 n] 110)) W.heap.size tb n l := by
  have hbA : Below W.heap.size W (W.alloc (.cells #[.slice A l.length c, .int .i64 n] 110)) := (Below.refl _ W).alloc (Nat.le_refl _) _
  have hg := hlev.1
  have hz := hb.size
  have hcc := cells2.new W (.slice A l.length c) (.int .i64 n) 110
  have hl : LevAt (W.alloc (.cells #[.slice A l.length c, .int .i64 n] 110)) W.heap.size := hlev.keep hz (fun b hlt => (hbA.block b (by omega)).trans (hb.block b hlt))
  rcases ht with rfl | ⟨tb, rfl, h1, h2, h3⟩
  · exact ⟨0, .inl hg, by simp, by rw [World.size_alloc]; omega, by omega, frozen_new _ _ _ 0, hcc.2, hlen, hwf, hl, A, c, hcc.1, hlc, hc, fun h => absurd rfl h⟩
  · exact ⟨tb, .inr h2, by simp, by simp; omega, by omega, frozen_new _ _ _ 0, hcc.2, hlen, hwf, hl, _, c, hcc.1, hlc, hc, fun _ => ⟨0, rfl, h3.keep (hbA.block tb h1)⟩⟩
set_option maxRecDepth 100000 in
set_option maxHeartbeats 2000000 in
theorem readE_calls (n : Nat) (hn : n ≤ 1000000000) (hs : s.length ≤ 1000000) (hlev : LevAt w w.heap.size) (hne : ∀ l, lex s = .ok l → (gram n).expr l ≠ .out) :
    Calls Tryd.prog 42 #[.string (ba s), .func (.func 43) #[] #[]] w (ReadPost zE ExVal w (readRes (gram n).expr s)) := by
  have hmf : ∀ (fn : Fn) (first cap : Array Value) (w : World), (Instr.makeFunc fn first cap).run Tryd.prog w = .ok (.func fn first cap) w := fun _ _ _ _ => rfl
  go_enter_defers Tryd.func42, Tryd.ntmps42
  go_wp2_with fail
  have hb0 : Below w.heap.size w (((w.alloc (.cells #[.int .i64 0, .int .i64 0, .string ⟨#[]⟩, .slice none 0 0] 36)).alloc (.cells #[.int .i64 0] 3)).alloc (.cells #[.int .i64 0] 27)) := (((Below.refl _ w).alloc (Nat.le_refl _) _).alloc (by simp) _).alloc (by simp; omega) _
  have hz0 : (((w.alloc (.cells #[.int .i64 0, .int .i64 0, .string ⟨#[]⟩, .slice none 0 0] 36)).alloc (.cells #[.int .i64 0] 3)).alloc (.cells #[.int .i64 0] 27)).heap.size = w.heap.size + 3 := by simp
  have hr0 := R3.start w (.int .i64 0) (.int .i64 0) (.string ⟨#[]⟩) (.slice none 0 0) (.int .i64 0) (.int .i64 0) 36 3 27
  refine (lex_calls s _ hs).mono ?_
  generalize ((w.alloc (.cells #[.int .i64 0, .int .i64 0, .string ⟨#[]⟩, .slice none 0 0] 36)).alloc (.cells #[.int .i64 0] 3)).alloc (.cells #[.int .i64 0] 27) = W0 at hb0 hz0 hr0
  rintro en w1 ⟨hb1, (⟨hl, rfl⟩ | ⟨hl, ⟨a, hbad, rfl⟩ | ⟨l, A, c, hok, rfl, hlc, hc9, htok⟩⟩)⟩
  · obtain ⟨hz, ⟨d0, d1, d2, d3⟩, d4, d5, f0, f1, f2⟩ := hr0.ext (Ext.of_below hb1 (fun _ => False)) (fun _ h => h.elim)
    have hrd : readRes (gram n).expr s = (none, 0, 3) := if_pos hl
    have HY := Lib.hid hrd
    clear hrd
    go_wp2_with fail
    have HR1 := Lib.hid (hr0.ext (Ext.of_below hb1 (fun _ => False)) (fun _ h => h.elim))
    have HB1 := Lib.hid (hb0.trans (hb1.mono (by omega)))
    clear hb0 hz0 hr0 hb1 hmf hlev hne
    go_region
    all_goals go_wp2
    all_goals rw [HY.out]
    all_goals exact readE_none (below_12 HB1.out (by omega)).drew (((HR1.out.set12 _ _).set4 _ _ _ _).set12 _ _).drew rfl rfl rfl
  · obtain ⟨hz, ⟨d0, d1, d2, d3⟩, d4, d5, f0, f1, f2⟩ := hr0.ext (Ext.of_below hb1 (fun _ => False)) (fun _ h => h.elim)
    have hrd : readRes (gram n).expr s = (none, a, 4) := by unfold readRes; rw [if_neg (by omega), hbad]
    have HY := Lib.hid hrd
    have HR1 := Lib.hid (hr0.ext (Ext.of_below hb1 (fun _ => False)) (fun _ h => h.elim))
    have HB1 := Lib.hid (hb0.trans (hb1.mono (by omega)))
    clear hb0 hz0 hr0 hb1 hmf hlev hne hrd hbad
    go_wp2_with fail
    go_region
    all_goals go_wp2
    all_goals rw [HY.out]
    all_goals exact readE_none (below_12 HB1.out (by omega)).drew (((HR1.out.set12 _ _).set4 _ _ _ _).set12 _ _).drew rfl rfl rfl
  · have HR1 := Lib.hid (hr0.ext (Ext.of_below hb1 (fun _ => False)) (fun _ h => h.elim))
    obtain ⟨hz, ⟨d0, d1, d2, d3⟩, d4, d5, f0, f1, f2⟩ := HR1.out
    have hb01 : Below w.heap.size w w1 := hb0.trans (hb1.mono (by omega))
    obtain ⟨hwf, hlen⟩ := lex_ok hs hok
    have hps := parser_state (W := (w1.setCell ⟨w.heap.size + 1, 0, none⟩ (.int .i64 0)).setCell ⟨w.heap.size + 1 + 1, 0, none⟩ (.int .i64 0)) (n := s.length) (A := A) (c := c) (l := l) hlev
      ((hb01.setCell (p := ⟨w.heap.size + 1, 0, none⟩) (by show w.heap.size ≤ w.heap.size + 1; omega) _).setCell (p := ⟨w.heap.size + 1 + 1, 0, none⟩) (by show w.heap.size ≤ w.heap.size + 1 + 1; omega) _) hwf (by omega) hlc hc9
      (htok.imp id (fun ⟨tb, h1, h2, h3, h4⟩ => ⟨tb, h1, by simp [World.setCell]; omega, by omega, h4.keep ((Below.heap_setCell _ _ _ _ (by show tb ≠ w.heap.size + 1 + 1; omega)).trans (Below.heap_setCell _ _ _ _ (by show tb ≠ w.heap.size + 1; omega)))⟩))
    have hR2 := (HR1.out.set12 (.int .i64 0) (.int .i64 0)).ext ((Ext.refl (fun _ => False) _).alloc (.cells #[.slice A l.length c, .int .i64 s.length] 110)) (fun _ h => h.elim)
    have hB2 := ((hb01.setCell (p := ⟨w.heap.size + 1, 0, none⟩) (by show w.heap.size ≤ w.heap.size + 1; omega) (.int .i64 0)).setCell (p := ⟨w.heap.size + 1 + 1, 0, none⟩) (by show w.heap.size ≤ w.heap.size + 1 + 1; omega) (.int .i64 0)).alloc (by simp [World.setCell]; omega) (.cells #[.slice A l.length c, .int .i64 s.length] 110)
    obtain ⟨tb, htb, hst⟩ := hps
    rw [show ((w1.setCell ⟨w.heap.size + 1, 0, none⟩ (.int .i64 0)).setCell ⟨w.heap.size + 1 + 1, 0, none⟩ (.int .i64 0)).heap.size = w1.heap.size from by simp [World.setCell]] at hst
    have HST := Lib.hid hst
    have HR2 := Lib.hid hR2
    have HB2 := Lib.hid hB2
    have HT := Lib.hid htb
    have HLEV := Lib.hid hlev
    clear hst hR2 hB2 htb htok hwf hb1 hb0 hr0 hz0 hlev
    have hz1 := hb01.size
    go_wp2_with fail
    have HW : Hid (w1.heap.size + 1 = (((w1.setCell ⟨w.heap.size + 1, 0, none⟩ (.int .i64 0)).setCell ⟨w.heap.size + 1 + 1, 0, none⟩ (.int .i64 0)).alloc (.cells #[.slice A l.length c, .int .i64 s.length] 110)).heap.size) := Lib.hid (by simp [World.setCell])
    generalize ((w1.setCell ⟨w.heap.size + 1, 0, none⟩ (.int .i64 0)).setCell ⟨w.heap.size + 1 + 1, 0, none⟩ (.int .i64 0)).alloc (.cells #[.slice A l.length c, .int .i64 s.length] 110) = W at HST HR2 HB2 HW ⊢
    rcases hy : (gram n).expr l with _ | ⟨l2, k⟩ | ⟨x, l2⟩
    · exact absurd hy (hne l hok)
    · have hrd : readRes (gram n).expr s = (none, offAt s.length l2, k) := by unfold readRes; rw [if_neg (by omega), hok]; simp only [hy]
      refine (EPost.bad ((pall n hn n (Nat.le_refl _)).expr HST.out (by rw [hy]; simp)) hy).mono ?_
      rintro en w2 ⟨rfl, hx⟩
      rw [hrd]
      exact readE_door _ _ (below_ext HB2.out hx (by omega)) (HR2.out.ext hx (fun b hb => by omega)) rfl rfl rfl
    · refine (EPost.got ((pall n hn n (Nat.le_refl _)).expr HST.out (by rw [hy]; simp)) hy).mono ?_
      rintro en w2 ⟨kv, rfl, hr, hx, h1⟩
      obtain ⟨A1, c1, rfl, _⟩ := hr.slice
      have hwz := HW.out
      have HR3 := Lib.hid (HR2.out.ext hx (fun b hb => by omega))
      have HB3 := Lib.hid (below_ext HB2.out hx (by omega))
      have hrow := hr.ext (ext_set4 w2 w.heap.size (.int .i64 x.kind) (.int .i64 x.num) (.string (ba x.name)) (.slice A1 x.kids.length c1)) (fun b hb => by have := hb01.size; omega) (Nat.le_refl _)
      have HROW := Lib.hid hrow
      have HH1 := Lib.hid h1
      obtain ⟨hz, ⟨d0, d1, d2, d3⟩, d4, d5, f0, f1, f2⟩ := HR3.out
      obtain ⟨A2, c2, p0, _⟩ := h1.list
      have pf := h1.nofrz
      have pe := h1.fin
      clear hr hx h1 hrow
      have z0 : w1.heap.size ≠ w.heap.size := by omega
      have hrd := readRes_ok (p := (gram n).expr) hl hok hy
      have HY := Lib.hid hrd
      clear hy hrd
      cases l2 with
      | nil =>
        go_wp2_with fail
        rw [HY.out]
        refine readE_ret ?_ (((HR3.out.set4 _ _ _ _).set4 _ _ _ _).set12 _ _) ?_ rfl rfl rfl
        · refine ((((HB3.out.trans ((ext_set4 w2 w.heap.size _ _ _ _).to_below (by omega) (fun b hb => by omega))).trans ((ext_set4 _ w.heap.size _ _ _ _).to_below ?_ (fun b hb => by omega)))).setCell (p := ⟨w.heap.size + 1, 0, none⟩) (by show w.heap.size ≤ w.heap.size + 1; omega) _).setCell (p := ⟨w.heap.size + 1 + 1, 0, none⟩) (by show w.heap.size ≤ w.heap.size + 1 + 1; omega) _
          have := (ext_set4 w2 w.heap.size (.int .i64 x.kind) (.int .i64 x.num) (.string (ba x.name)) (.slice A1 x.kids.length c1)).size
          omega
        · have e1 := HROW.out.ext (ext_set4 _ w.heap.size (.int .i64 x.kind) (.int .i64 x.num) (.string (ba x.name)) (.slice A1 x.kids.length c1)) (fun b hb => by omega) (Nat.le_refl _)
          have e2 := (e1.ext (ext_cell _ (w.heap.size + 1) 0 (.int .i64 0)) (fun b hb => by omega) (Nat.le_refl _)).ext (ext_cell _ (w.heap.size + 1 + 1) 0 (.int .i64 0)) (fun b hb => by omega) (Nat.le_refl _)
          exact e2.keep (Nat.le_refl _) fun b hb _ => ⟨rfl, by have : W.heap.size ≤ b := hb; show w.heap.size ≤ b; omega⟩
      | cons t l2 =>
        rw [List.length_cons] at p0
        go_wp2_with fail
        have hb4 := HB3.out.trans ((ext_set4 w2 w.heap.size (.int .i64 x.kind) (.int .i64 x.num) (.string (ba x.name)) (.slice A1 x.kids.length c1)).to_below (by omega) (fun b hb => by omega))
        refine (fail_calls (pst_lev HH1.out (ext_set4 w2 w.heap.size _ _ _ _) (by omega) (by have := HT.out; omega) (HLEV.out.keep (by omega) (fun b hb => hb4.block b hb))) 4).mono ?_
        rintro en w3 ⟨rfl, hb3⟩
        rw [HY.out]
        exact readE_door _ _ ((HB3.out.trans ((ext_set4 w2 w.heap.size _ _ _ _).to_below (by omega) (fun b hb => by omega))).trans (hb3.mono (by have := (ext_set4 w2 w.heap.size (.int .i64 x.kind) (.int .i64 x.num) (.string (ba x.name)) (.slice A1 x.kids.length c1)).size; omega))) ((HR3.out.set4 _ _ _ _).ext (Ext.of_below hb3 (fun _ => False)) (fun _ h => h.elim)) rfl rfl rfl
end
end Go.Proofs.YtdijffojppjmfaaDoor
