/- The parser's statements, walked: set, named. -/
import Derived.Test.YtdijffojppjmfaaDoorPg
import Derived.Deep.LoopGhost
set_option linter.unusedVariables false
namespace Go.BW
open Go.RowKit Bir
/-- From n on, but for one block. -/
abbrev Off (n bs : Nat) : Nat → Prop := fun b => n ≤ b ∧ b ≠ bs
section
variable {w w1 : World} {n m bs : Nat} {v : Value} {S : Nat → Prop}
theorem ERow.off {xs : List Ex} (h : ERow w (Off n bs) v xs) (X : Ext S w w1) (hS : ∀ b, S b → b < n ∨ b = bs) : ERow w1 (Off n bs) v xs :=
  h.keep X.size fun b hb hlt => ⟨X.block b hlt (fun hs => by have := hS b hs; have h1 : n ≤ b := hb.1; have h2 : b ≠ bs := hb.2; omega), hb⟩
theorem SRow.off {xs : List St} (h : SRow w (Off n bs) v xs) (X : Ext S w w1) (hS : ∀ b, S b → b < n ∨ b = bs) : SRow w1 (Off n bs) v xs :=
  h.keep X.size fun b hb hlt => ⟨X.block b hlt (fun hs => by have := hS b hs; have h1 : n ≤ b := hb.1; have h2 : b ≠ bs := hb.2; omega), hb⟩
theorem ERow.to_off {xs : List Ex} (h : ERow w (From m) v xs) (hn : n ≤ m) (hb : w.heap.size ≤ bs ∨ bs < m) : ERow w (Off n bs) v xs :=
  h.keep (Nat.le_refl _) fun b hb' hlt => ⟨rfl, by have : m ≤ b := hb'; omega, by have : m ≤ b := hb'; omega⟩
theorem SRow.to_off {xs : List St} (h : SRow w (From m) v xs) (hn : n ≤ m) (hb : w.heap.size ≤ bs ∨ bs < m) : SRow w (Off n bs) v xs :=
  h.keep (Nat.le_refl _) fun b hb' hlt => ⟨rfl, by have : m ≤ b := hb'; omega, by have : m ≤ b := hb'; omega⟩
theorem ERow.of_off {xs : List Ex} (h : ERow w (Off n bs) v xs) : ERow w (From n) v xs := h.keep (Nat.le_refl _) fun b hb' hlt => ⟨rfl, hb'.1⟩
theorem SRow.of_off {xs : List St} (h : SRow w (Off n bs) v xs) : SRow w (From n) v xs := h.keep (Nat.le_refl _) fun b hb' hlt => ⟨rfl, hb'.1⟩
end
theorem set5_cells {w : World} {r : Nat} {z0 z1 z2 z3 z4 : Value} (a b c d e : Value) (h : cells5 w r z0 z1 z2 z3 z4) : cells5 (set5 w r a b c d e) r a b c d e := by
  obtain ⟨h0, h1, h2, h3, h4⟩ := h
  have n : ∀ i j : Nat, i ≠ j → (⟨r, i, none⟩ : Addr) ≠ ⟨r, j, none⟩ := fun i j h e => h (by injection e)
  refine ⟨?_, ?_, ?_, ?_, ?_⟩
  · rw [World.cell?_setCell_other _ _ _ _ (n _ _ (by omega)), World.cell?_setCell_other _ _ _ _ (n _ _ (by omega)), World.cell?_setCell_other _ _ _ _ (n _ _ (by omega)), World.cell?_setCell_other _ _ _ _ (n _ _ (by omega)), World.cell?_setCell_same' _ _ _ (by rw [h0]; rfl)]
  · rw [World.cell?_setCell_other _ _ _ _ (n _ _ (by omega)), World.cell?_setCell_other _ _ _ _ (n _ _ (by omega)), World.cell?_setCell_other _ _ _ _ (n _ _ (by omega)), World.cell?_setCell_same' _ _ _ (by rw [World.cell?_setCell_other _ _ _ _ (n _ _ (by omega)), h1]; rfl)]
  · rw [World.cell?_setCell_other _ _ _ _ (n _ _ (by omega)), World.cell?_setCell_other _ _ _ _ (n _ _ (by omega)), World.cell?_setCell_same' _ _ _ (by rw [World.cell?_setCell_other _ _ _ _ (n _ _ (by omega)), World.cell?_setCell_other _ _ _ _ (n _ _ (by omega)), h2]; rfl)]
  · rw [World.cell?_setCell_other _ _ _ _ (n _ _ (by omega)), World.cell?_setCell_same' _ _ _ (by rw [World.cell?_setCell_other _ _ _ _ (n _ _ (by omega)), World.cell?_setCell_other _ _ _ _ (n _ _ (by omega)), World.cell?_setCell_other _ _ _ _ (n _ _ (by omega)), h3]; rfl)]
  · rw [World.cell?_setCell_same' _ _ _ (by rw [World.cell?_setCell_other _ _ _ _ (n _ _ (by omega)), World.cell?_setCell_other _ _ _ _ (n _ _ (by omega)), World.cell?_setCell_other _ _ _ _ (n _ _ (by omega)), World.cell?_setCell_other _ _ _ _ (n _ _ (by omega)), h4]; rfl)]
end Go.BW
namespace Go.Proofs.YtdijffojppjmfaaDoor
open Go.RowKit Bir Go.BW
section
variable {w : World} {pb tb e : Nat} {l : List Tok}
def SPost (w : World) (pb tb e : Nat) (r : R St) (en : Ending) (w' : World) : Prop :=
  match r with
  | .out => True
  | .err l k => en = .panicked (wrongAt (offAt e l) k) ∧ Ext (· = pb) w w'
  | .ok x l => ∃ ev bv lv, en = .returned (.agg #[.int .i64 x.kind, .string (ba x.name), ev, bv, lv]) ∧ ERow w' (From w.heap.size) ev x.exprs ∧ SRow w' (From w.heap.size) bv x.body ∧ SRow w' (From w.heap.size) lv x.els ∧ Ext (· = pb) w w' ∧ PSt w' pb tb e l
theorem SPost.got {f : FuncId} {a : Array Value} {r : R St} {x : St} (h : Calls Tryd.prog f a w (SPost w pb tb e r)) (hr : r = .ok x l) :
    Calls Tryd.prog f a w fun en w' => ∃ ev bv lv, en = .returned (.agg #[.int .i64 x.kind, .string (ba x.name), ev, bv, lv]) ∧ ERow w' (From w.heap.size) ev x.exprs ∧ SRow w' (From w.heap.size) bv x.body ∧ SRow w' (From w.heap.size) lv x.els ∧ Ext (· = pb) w w' ∧ PSt w' pb tb e l := by
  rw [hr] at h
  exact h
theorem SPost.bad {f : FuncId} {a : Array Value} {r : R St} {k : Nat} (h : Calls Tryd.prog f a w (SPost w pb tb e r)) (hr : r = .err l k) :
    Calls Tryd.prog f a w fun en w' => en = .panicked (wrongAt (offAt e l) k) ∧ Ext (· = pb) w w' := by
  rw [hr] at h
  exact h
def BPost (w : World) (pb tb e : Nat) (r : R (List St)) (en : Ending) (w' : World) : Prop :=
  match r with
  | .out => True
  | .err l k => en = .panicked (wrongAt (offAt e l) k) ∧ Ext (· = pb) w w'
  | .ok xs l => ∃ v, en = .returned v ∧ SRow w' (From w.heap.size) v xs ∧ Ext (· = pb) w w' ∧ PSt w' pb tb e l
theorem BPost.got {f : FuncId} {a : Array Value} {r : R (List St)} {x : List St} (h : Calls Tryd.prog f a w (BPost w pb tb e r)) (hr : r = .ok x l) :
    Calls Tryd.prog f a w fun en w' => ∃ v, en = .returned v ∧ SRow w' (From w.heap.size) v x ∧ Ext (· = pb) w w' ∧ PSt w' pb tb e l := by
  rw [hr] at h
  exact h
theorem BPost.bad {f : FuncId} {a : Array Value} {r : R (List St)} {k : Nat} (h : Calls Tryd.prog f a w (BPost w pb tb e r)) (hr : r = .err l k) :
    Calls Tryd.prog f a w fun en w' => en = .panicked (wrongAt (offAt e l) k) ∧ Ext (· = pb) w w' := by
  rw [hr] at h
  exact h
end
/-- The end of a method that hands back a statement: its result's five cells are written last. -/
theorem spost_fin {fn : Func} {k : Nat} {tm : Array Value} {w w2 : World} {pb tb e : Nat} {x : St} {l l0 : List Tok} {ev bv lv z0 z1 z2 z3 z4 : Value} (hfn : fn.results = #[.cell k 98]) (htm : tm.getD k undef = .pointer (some ⟨w.heap.size, 0, none⟩))
    (X : Ext (· = pb) (w.alloc (.cells #[z0, z1, z2, z3, z4] 98)) w2) (h2 : PSt w2 pb tb e l) (he : ERow w2 (From (w.heap.size + 1)) ev x.exprs) (hb : SRow w2 (From (w.heap.size + 1)) bv x.body) (hl : SRow w2 (From (w.heap.size + 1)) lv x.els) (h : PSt w pb tb e l0) :
    bodyPost Tryd.prog fn (SPost w pb tb e (.ok x l)) .ret { tmps := tm, defers := [] } (set5 w2 w.heap.size (.int .i64 x.kind) (.string (ba x.name)) ev bv lv) := by
  have hp := h.pb_lt
  have ht := h.tb_lt
  have hne : ¬ w.heap.size = pb := by omega
  have hs := ext_set5 w2 w.heap.size (.int .i64 x.kind) (.string (ba x.name)) ev bv lv
  obtain ⟨q0, q1, q2, q3, q4⟩ := set5_cells (.int .i64 x.kind) (.string (ba x.name)) ev bv lv ((cells5.new w z0 z1 z2 z3 z4 98).ext X hne)
  generalize set5 w2 w.heap.size (.int .i64 x.kind) (.string (ba x.name)) ev bv lv = W at *
  refine bodyPost_ret (v := .agg #[.int .i64 x.kind, .string (ba x.name), ev, bv, lv]) ?_ rfl ⟨ev, bv, lv, rfl, he.ext hs (fun b hb => by omega) (by omega), hb.ext hs (fun b hb => by omega) (by omega), hl.ext hs (fun b hb => by omega) (by omega), (((Ext.refl _ w).alloc _).trans' X).trans hs (fun i hi => .inr (by omega)), h2.ext hs (by omega) (by omega) (fun b hb => by omega)⟩
  have htm' : tm[k]?.getD undef = .pointer (some ⟨w.heap.size, 0, none⟩) := by rw [← htm]; simp
  simp [results, hfn, htm', go_sem, q0, q1, q2, q3, q4]

section
variable {w : World} {pb tb e n : Nat} {l : List Tok}
theorem set_calls (ih : PAll n) (h : PSt w pb tb e l) (k : Int) (s : Str) (hne : setF (gram n) k s l ≠ .out) : Calls Tryd.prog 155 #[pp pb, .int .i64 k, .string (ba s)] w (SPost w pb tb e (setF (gram n) k s l)) := by
  generalize hr : setF (gram n) k s l = r at hne ⊢
  have hpb := h.pb_lt
  have hp0 : w.heap.size ≠ pb := by omega
  cases hm : is [61] l with
  | false =>
    have HF : Hid (r = .err l 4) := by rw [← hr]; simp [setF, must, hm, R.bind, Hid]
    clear hr hne ih
    go_enter Tryd.func155, Tryd.ntmps155
    go_wp2_with fail
    refine (must_no (h.alloc _) [61] hm).mono ?_
    rintro en w1 ⟨rfl, hb1⟩
    exact ⟨rfl, by rw [HF.out]; exact ⟨rfl, ((Ext.refl _ w).alloc _).below hb1⟩⟩
  | true =>
    have hr2 : ((gram n).expr l.tail).bind (fun x l2 => (must [59] l2).bind fun _ l3 => .ok (.mk k s [x] [] []) l3) = r := by rw [← hr]; simp [setF, must, hm, R.bind]
    have HI := Lib.hid ih
    have HN := Lib.hid hne
    have HR := Lib.hid hr2
    clear ih hne hr hr2
    go_enter Tryd.func155, Tryd.ntmps155
    go_wp2_with fail
    refine (must_yes (h.alloc _) [61] hm).mono ?_
    rintro en w1 ⟨rfl, hx1, h1⟩
    have hz1 : w.heap.size < w1.heap.size := by have := hx1.size; simp at this; omega
    go_wp2_with fail
    rcases hy : (gram n).expr l.tail with _ | ⟨l2, k2⟩ | ⟨y, l2⟩
    · exact absurd (by rw [← HR.out, hy]; rfl) HN.out
    · have HF : Hid (r = .err l2 k2) := by rw [← HR.out, hy]; rfl
      refine (EPost.bad (HI.out.expr h1 (by rw [hy]; simp)) hy).mono ?_
      rintro en w2 ⟨rfl, hx2⟩
      exact ⟨rfl, by rw [HF.out]; exact ⟨rfl, ((Ext.refl _ w).alloc _).trans' (hx1.trans' hx2)⟩⟩
    · have HR2 : Hid ((must [59] l2).bind (fun _ l3 => .ok (.mk k s [y] [] []) l3) = r) := by have := HR.out; rw [hy] at this; exact this
      refine (EPost.got (HI.out.expr h1 (by rw [hy]; simp)) hy).mono ?_
      rintro en w2 ⟨kv, rfl, hr2, hx2, h2⟩
      obtain ⟨A2, c2, rfl, _⟩ := hr2.slice
      have hz2 := hx2.size
      have hX := hx1.trans' hx2
      have hrow : ERow (w2.alloc (.cells #[.int .i64 y.kind, .int .i64 y.num, .string (ba y.name), .slice A2 y.kids.length c2] 36)) (From (w.heap.size + 1)) (.slice (some ⟨w2.heap.size, 0, none⟩) 1 1) [y] :=
        erow1 (k1 := .slice A2 y.kids.length c2) (by omega) (by simp) (hr2.ext ((Ext.refl (fun _ => False) _).alloc _) (fun _ h => h.elim) (by omega)) (fun i u hu => cells_of_new w2 _ _ i u hu)
      have HROW := Lib.hid hrow
      have H2 := Lib.hid h2
      have HX := Lib.hid hX
      have hw2 : w2.heap.size + 1 ≠ pb := by omega
      clear hrow h2 hX hr2 hx1 hx2 h1 hy
      go_wp2_with fail
      cases hc : is [59] l2 with
      | false =>
        have HF : Hid (r = .err l2 4) := by rw [← HR2.out]; simp [must, hc, R.bind, Hid]
        refine (must_no ((H2.out.alloc _).alloc _) [59] hc).mono ?_
        rintro en w3 ⟨rfl, hb3⟩
        exact ⟨rfl, by rw [HF.out]; exact ⟨rfl, ((Ext.refl _ w).alloc _).trans' (((HX.out.alloc _).alloc _).below hb3)⟩⟩
      | true =>
        have HF : Hid (r = .ok (.mk k s [y] [] []) l2.tail) := by rw [← HR2.out]; simp [must, hc, R.bind, Hid]
        refine (must_yes ((H2.out.alloc _).alloc _) [59] hc).mono ?_
        rintro en w3 ⟨rfl, hx3, h3⟩
        obtain ⟨d0, d1, d2, d3, d4⟩ := (cells5.new (w2.alloc (.cells #[.int .i64 y.kind, .int .i64 y.num, .string (ba y.name), .slice A2 y.kids.length c2] 36)) (.int .i64 k) (.string (ba s)) (.slice (some ⟨w2.heap.size, 0, none⟩) 1 1) (.slice none 0 0) (.slice none 0 0) 98).ext hx3 (by simp; omega)
        rw [World.size_alloc] at d0 d1 d2 d3 d4
        have hXX := ((HX.out.alloc (.cells #[.int .i64 y.kind, .int .i64 y.num, .string (ba y.name), .slice A2 y.kids.length c2] 36)).alloc (.cells #[.int .i64 k, .string (ba s), .slice (some ⟨w2.heap.size, 0, none⟩) 1 1, .slice none 0 0, .slice none 0 0] 98)).trans' hx3
        obtain ⟨s0, s1, s2, s3, s4⟩ := (cells5.new w _ _ _ _ _ 98).ext hXX hp0
        have sf := frz_ext (frozen_new w _ 98) hXX (by simp) hp0
        have HXX := Lib.hid hXX
        have H3 := Lib.hid h3
        have HX3 := Lib.hid hx3
        clear hXX h3 hx3 hc
        go_wp2_with fail
        rw [HF.out]
        exact spost_fin (x := .mk k s [y] [] []) rfl rfl HXX.out H3.out (HROW.out.ext (((Ext.refl _ _).alloc _).trans' HX3.out) (fun b hb => by omega) (Nat.le_refl _)) (.nil' _ _) (.nil' _ _) h
end
end Go.Proofs.YtdijffojppjmfaaDoor
