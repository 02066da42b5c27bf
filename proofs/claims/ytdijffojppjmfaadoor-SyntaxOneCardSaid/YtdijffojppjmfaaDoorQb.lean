/- The parser's arrays, walked; what the greater methods share. -/
import Derived.Test.YtdijffojppjmfaaDoorQa
set_option linter.unusedVariables false
set_option linter.unusedSimpArgs false
namespace Go.BW
open Go.RowKit Bir
abbrev cells2 (w : World) (b : Nat) (x0 x1 : Value) : Prop := w.cell? ⟨b, 0, none⟩ = some x0 ∧ w.cell? ⟨b, 1, none⟩ = some x1
abbrev cells3 (w : World) (b : Nat) (x0 x1 x2 : Value) : Prop := w.cell? ⟨b, 0, none⟩ = some x0 ∧ w.cell? ⟨b, 1, none⟩ = some x1 ∧ w.cell? ⟨b, 2, none⟩ = some x2
theorem cells2.ext {S : Nat → Prop} {w w1 : World} {b : Nat} {x0 x1 : Value} (h : cells2 w b x0 x1) (hx : Ext S w w1) (hn : ¬ S b) : cells2 w1 b x0 x1 := ⟨cell_ext h.1 hx hn, cell_ext h.2 hx hn⟩
theorem cells3.ext {S : Nat → Prop} {w w1 : World} {b : Nat} {x0 x1 x2 : Value} (h : cells3 w b x0 x1 x2) (hx : Ext S w w1) (hn : ¬ S b) : cells3 w1 b x0 x1 x2 := ⟨cell_ext h.1 hx hn, cell_ext h.2.1 hx hn, cell_ext h.2.2 hx hn⟩
theorem cells2.new (w : World) (a b : Value) (t : TypeId) : cells2 (w.alloc (.cells #[a, b] t)) w.heap.size a b := by simp [cells2]
theorem cells3.new (w : World) (a b c : Value) (t : TypeId) : cells3 (w.alloc (.cells #[a, b, c] t)) w.heap.size a b c := by simp [cells3]
def set2 (w : World) (r : Nat) (a b : Value) : World := (w.setCell ⟨r, 0, none⟩ a).setCell ⟨r, 1, none⟩ b
def set3 (w : World) (r : Nat) (a b c : Value) : World := ((w.setCell ⟨r, 0, none⟩ a).setCell ⟨r, 1, none⟩ b).setCell ⟨r, 2, none⟩ c
theorem ext_set2 (w : World) (r : Nat) (a b : Value) : Ext (· = r) w (set2 w r a b) := ((Ext.refl (· = r) w).setCell (p := ⟨r, 0, none⟩) (.inl rfl) a).setCell (p := ⟨r, 1, none⟩) (.inl rfl) b
theorem ext_set3 (w : World) (r : Nat) (a b c : Value) : Ext (· = r) w (set3 w r a b c) := (((Ext.refl (· = r) w).setCell (p := ⟨r, 0, none⟩) (.inl rfl) a).setCell (p := ⟨r, 1, none⟩) (.inl rfl) b).setCell (p := ⟨r, 2, none⟩) (.inl rfl) c
theorem set2_cells {w : World} {r : Nat} {z0 z1 : Value} (a b : Value) (h : cells2 w r z0 z1) : cells2 (set2 w r a b) r a b := by
  obtain ⟨h0, h1⟩ := h
  have n : ∀ i j : Nat, i ≠ j → (⟨r, i, none⟩ : Addr) ≠ ⟨r, j, none⟩ := fun i j h e => h (by injection e)
  refine ⟨?_, ?_⟩
  · rw [set2, World.cell?_setCell_other _ _ _ _ (n _ _ (by omega)), World.cell?_setCell_same' _ _ _ (by rw [h0]; rfl)]
  · rw [set2, World.cell?_setCell_same' _ _ _ (by rw [World.cell?_setCell_other _ _ _ _ (n _ _ (by omega)), h1]; rfl)]
theorem set3_cells {w : World} {r : Nat} {z0 z1 z2 : Value} (a b c : Value) (h : cells3 w r z0 z1 z2) : cells3 (set3 w r a b c) r a b c := by
  obtain ⟨h0, h1, h2⟩ := h
  have n : ∀ i j : Nat, i ≠ j → (⟨r, i, none⟩ : Addr) ≠ ⟨r, j, none⟩ := fun i j h e => h (by injection e)
  refine ⟨?_, ?_, ?_⟩
  · rw [set3, World.cell?_setCell_other _ _ _ _ (n _ _ (by omega)), World.cell?_setCell_other _ _ _ _ (n _ _ (by omega)), World.cell?_setCell_same' _ _ _ (by rw [h0]; rfl)]
  · rw [set3, World.cell?_setCell_other _ _ _ _ (n _ _ (by omega)), World.cell?_setCell_same' _ _ _ (by rw [World.cell?_setCell_other _ _ _ _ (n _ _ (by omega)), h1]; rfl)]
  · rw [set3, World.cell?_setCell_same' _ _ _ (by rw [World.cell?_setCell_other _ _ _ _ (n _ _ (by omega)), World.cell?_setCell_other _ _ _ _ (n _ _ (by omega)), h2]; rfl)]
end Go.BW
namespace Go.Proofs.YtdijffojppjmfaaDoor
open Go.RowKit Bir Go.BW
/-- A method's result; V says how its value reads. -/
def GPost {α : Type} (V : World → α → Value → World → Prop) (w : World) (pb tb e : Nat) (r : R α) (en : Ending) (w' : World) : Prop :=
  match r with
  | .out => True
  | .err l k => en = .panicked (wrongAt (offAt e l) k) ∧ Ext (· = pb) w w'
  | .ok x l => ∃ v, en = .returned v ∧ V w x v w' ∧ Ext (· = pb) w w' ∧ PSt w' pb tb e l
section
variable {α : Type} {V : World → α → Value → World → Prop} {w : World} {pb tb e : Nat} {l : List Tok}
theorem GPost.got {f : FuncId} {a : Array Value} {r : R α} {x : α} (h : Calls Tryd.prog f a w (GPost V w pb tb e r)) (hr : r = .ok x l) :
    Calls Tryd.prog f a w fun en w' => ∃ v, en = .returned v ∧ V w x v w' ∧ Ext (· = pb) w w' ∧ PSt w' pb tb e l := by
  rw [hr] at h
  exact h
theorem GPost.bad {f : FuncId} {a : Array Value} {r : R α} {k : Nat} (h : Calls Tryd.prog f a w (GPost V w pb tb e r)) (hr : r = .err l k) :
    Calls Tryd.prog f a w fun en w' => en = .panicked (wrongAt (offAt e l) k) ∧ Ext (· = pb) w w' := by
  rw [hr] at h
  exact h
end
/-- A method under way: its result lies at w0's end. -/
structure Mid (o : Obj) (w0 w : World) (pb tb e : Nat) (l : List Tok) : Prop where
  pb_lt : pb < w0.heap.size
  tb_lt : tb < w0.heap.size
  st : PSt w pb tb e l
  ext : Ext (· = pb) (w0.alloc o) w
section
variable {o : Obj} {w0 w w1 w2 : World} {pb tb e : Nat} {l l0 l1 l2 : List Tok}
theorem Mid.start (o : Obj) (h : PSt w pb tb e l) : Mid o w (w.alloc o) pb tb e l := ⟨h.pb_lt, h.tb_lt, h.alloc _, .refl _ _⟩
theorem Mid.move (h : Mid o w0 w pb tb e l) (hx : Ext (· = pb) w w1) (h1 : PSt w1 pb tb e l1) : Mid o w0 w1 pb tb e l1 := ⟨h.pb_lt, h.tb_lt, h1, h.ext.trans' hx⟩
theorem Mid.below (h : Mid o w0 w pb tb e l) (hb : Below w.heap.size w w1) : Mid o w0 w1 pb tb e l := h.move (.of_below hb _) (h.st.below hb)
theorem Mid.alloc (h : Mid o w0 w pb tb e l) (o' : Obj) : Mid o w0 (w.alloc o') pb tb e l := h.below ((Below.refl _ _).alloc (Nat.le_refl _) _)
theorem Mid.drew (h : Mid o w0 w pb tb e l) : Mid o w0 w.drew pb tb e l := ⟨h.pb_lt, h.tb_lt, h.st.drew, h.ext.drew⟩
theorem Mid.size (h : Mid o w0 w pb tb e l) : w0.heap.size + 1 ≤ w.heap.size := by have := h.ext.size; rwa [World.size_alloc] at this
/-- What changes blocks of its own alone. -/
theorem Mid.own {S : Nat → Prop} (h : Mid o w0 w pb tb e l) (hx : Ext S w w1) (hS : ∀ b, S b → w0.heap.size + 1 ≤ b) (h1 : PSt w1 pb tb e l1) : Mid o w0 w1 pb tb e l1 :=
  ⟨h.pb_lt, h.tb_lt, h1, h.ext.trans hx (fun i hi => .inr (by rw [World.size_alloc]; exact hS i hi))⟩
theorem Mid.st_own {S : Nat → Prop} (h : Mid o w0 w pb tb e l) (hx : Ext S w w1) (hS : ∀ b, S b → w0.heap.size + 1 ≤ b) : PSt w1 pb tb e l := by
  have hp := h.pb_lt
  have ht := h.tb_lt
  exact h.st.ext hx (fun hs => by have := hS pb hs; omega) (fun hs => by have := hS tb hs; omega) (fun b hb => by have := hS b hb; omega)
theorem Mid.panic {α : Type} {V : World → α → Value → World → Prop} {r : R α} {lp : List Tok} {kk : Nat} (h : Mid o w0 w pb tb e l) (hx : Ext (· = pb) w w1) (hr : r = .err lp kk) : GPost V w0 pb tb e r (.panicked (wrongAt (offAt e lp) kk)) w1 := by
  rw [hr]
  exact ⟨rfl, ((Ext.refl _ w0).alloc _).trans' (h.ext.trans' hx)⟩
end
/-- What a number comes to. -/
theorem number_cases {w : World} {pb tb e : Nat} {l : List Tok} (h : PSt w pb tb e l) : (∃ k, number l = .err l k ∧ Calls Tryd.prog 108 #[pp pb] w fun r w' => r = .panicked (wrongAt (offAt e l) k) ∧ Ext (· = pb) w w') ∨
    ∃ r n, number l = .ok n r ∧ Calls Tryd.prog 108 #[pp pb] w fun en w' => en = .returned (.int .i64 n) ∧ Ext (· = pb) w w' ∧ PSt w' pb tb e r := by
  by_cases hk : kindOf l = 3
  · cases l with
    | nil => cases hk
    | cons t r =>
      have hok := h.wf t List.mem_cons_self
      have hk' : t.kind = 3 := hk
      cases hv : value t.text with
      | none => exact .inl ⟨3, by simp [number, hk', hv], (number_great h hk' hok.short hok.ne (hok.num hk') hv).mono fun _ _ ⟨a, b⟩ => ⟨a, .of_below b _⟩⟩
      | some n => exact .inr ⟨r, n, by simp [number, hk', hv], number_yes h hk' hok.short hok.ne (hok.num hk') hv⟩
  · refine .inl ⟨4, ?_, (number_form h hk).mono fun _ _ ⟨a, b⟩ => ⟨a, .of_below b _⟩⟩
    cases l with
    | nil => rfl
    | cons t r => simp [number, show t.kind ≠ 3 from hk]
/-- A block of the call's own. -/
structure Blk (w0 w : World) (pb bs : Nat) (cs : List Value) : Prop where
  lt : bs < w.heap.size
  ge : w0.heap.size + 1 ≤ bs
  ne : bs ≠ pb
  c : ∀ i u, cs[i]? = some u → w.cell? ⟨bs, i, none⟩ = some u
  f : ∀ o, w.frozen? ⟨bs, o, none⟩ = false
section
variable {o : Obj} {w0 w w1 : World} {pb tb e bs : Nat} {l : List Tok} {cs : List Value}
theorem Blk.new (h : Mid o w0 w pb tb e l) (cs : List Value) (t : TypeId) : Blk w0 (w.alloc (.cells cs.toArray t)) pb w.heap.size cs := by
  have h1 := h.pb_lt
  have h2 := h.size
  exact ⟨by simp, h2, by omega, fun i u hu => by simpa using hu, frozen_new _ _ _⟩
theorem Blk.ext {S : Nat → Prop} (h : Blk w0 w pb bs cs) (hx : Ext S w w1) (hS : ¬ S bs) : Blk w0 w1 pb bs cs :=
  ⟨Nat.lt_of_lt_of_le h.lt hx.size, h.ge, h.ne, fun i u hu => cell_ext (h.c i u hu) hx hS, frz_ext h.f hx h.lt hS⟩
theorem Blk.move (h : Blk w0 w pb bs cs) (hx : Ext (· = pb) w w1) : Blk w0 w1 pb bs cs := h.ext hx h.ne
theorem Blk.below (h : Blk w0 w pb bs cs) (hb : Below w.heap.size w w1) : Blk w0 w1 pb bs cs := h.ext (Ext.of_below hb (fun _ => False)) id
theorem Blk.alloc (h : Blk w0 w pb bs cs) (o' : Obj) : Blk w0 (w.alloc o') pb bs cs := h.below ((Below.refl _ _).alloc (Nat.le_refl _) _)
theorem Blk.drew (h : Blk w0 w pb bs cs) : Blk w0 w.drew pb bs cs := ⟨h.lt, h.ge, h.ne, h.c, h.f⟩
theorem Blk.set (h : Blk w0 w pb bs cs) (i : Nat) (v : Value) (hi : i < cs.length) : Blk w0 (w.setCell ⟨bs, i, none⟩ v) pb bs (cs.set i v) := by
  refine ⟨by simpa [World.setCell] using h.lt, h.ge, h.ne, fun j u hu => ?_, fun o => by rw [World.frozen?_setCell]; exact h.f o⟩
  rcases Nat.lt_trichotomy i j with hij | rfl | hij
  · rw [List.getElem?_set_ne (by omega)] at hu
    exact cell_far_set (h.c j u hu) (by omega)
  · rw [List.getElem?_set_self hi] at hu
    cases hu
    exact cell_same_set (h.c i cs[i] (List.getElem?_eq_getElem hi))
  · rw [List.getElem?_set_ne (by omega)] at hu
    exact cell_far_set (h.c j u hu) (by omega)
end
def ArrVal (_ : World) (x : Arr) (v : Value) (_ : World) : Prop := v = .agg #[.string (ba x.name), .int .i64 x.size]
abbrev z2 : Obj := .cells #[.string ⟨#[]⟩, .int .i64 0] 73
section
variable {w w2 : World} {pb tb e : Nat} {l l0 : List Tok}
theorem arr_fin {fn : Func} {k : Nat} {tm : Array Value} {x : Arr} (hfn : fn.results = #[.cell k 73]) (htm : tm.getD k undef = .pointer (some ⟨w.heap.size, 0, none⟩)) (h : Mid z2 w w2 pb tb e l) :
    bodyPost Tryd.prog fn (GPost ArrVal w pb tb e (.ok x l)) .ret { tmps := tm, defers := [] } (set2 w2 w.heap.size (.string (ba x.name)) (.int .i64 x.size)) := by
  have hp := h.pb_lt
  have ht := h.tb_lt
  have X := h.ext
  have hs := ext_set2 w2 w.heap.size (.string (ba x.name)) (.int .i64 x.size)
  obtain ⟨q0, q1⟩ := set2_cells (.string (ba x.name)) (.int .i64 x.size) ((cells2.new w (.string ⟨#[]⟩) (.int .i64 0) 73).ext X (by omega))
  generalize set2 w2 w.heap.size (.string (ba x.name)) (.int .i64 x.size) = W at *
  refine bodyPost_ret (v := .agg #[.string (ba x.name), .int .i64 x.size]) ?_ rfl ⟨_, rfl, rfl, (((Ext.refl _ w).alloc _).trans' X).trans hs (fun i hi => .inr (by omega)), h.st.ext hs (by omega) (by omega) (fun b hb => by omega)⟩
  have htm' : tm[k]?.getD undef = .pointer (some ⟨w.heap.size, 0, none⟩) := by rw [← htm]; simp
  simp [results, hfn, htm', go_sem, q0, q1]
theorem array_calls (h : PSt w pb tb e l) (hne : array l ≠ .out) : Calls Tryd.prog 73 #[pp pb] w (GPost ArrVal w pb tb e (array l)) := by
  generalize hr : array l = r at hne ⊢
  have HN := Lib.hid hne
  have HR := Lib.hid hr
  clear hne hr
  unfold array at HR
  have HL := Lib.hid (Mid.start z2 h)
  go_enter Tryd.func73, Tryd.ntmps73
  go_wp2_with fail
  cases hm : is [97, 114, 114, 97, 121] l with
  | false =>
    have HF : r = .err l 4 := by rw [← HR.out]; simp [must, hm, R.bind]
    refine (must_no HL.out.st [97, 114, 114, 97, 121] hm).mono ?_
    rintro en w1 ⟨rfl, hb⟩
    exact ⟨rfl, HL.out.panic (.of_below hb _) HF⟩
  | true =>
    have HR' := HR.out
    simp only [R.bind, must, hm, if_true, Bool.false_eq_true, if_false, true_and, and_true] at HR'
    replace HR := Lib.hid HR'
    clear HR'
    refine (must_yes HL.out.st [97, 114, 114, 97, 121] hm).mono ?_
    rintro en w1 ⟨rfl, hx, h1⟩
    replace HL := Lib.hid (HL.out.move hx h1)
    clear hx h1 hm
    generalize l.tail = mw1 at HL HR
    go_wp2_with fail
    rcases name_cases mw1 with ⟨k, hy, hk⟩ | ⟨tw2, rw2, hl, hk, hk2, hy⟩
    · have HF : r = .err mw1 k := by rw [← HR.out]; simp [hy, R.bind]
      refine (name_bad HL.out.st hk).mono ?_
      rintro en w2 ⟨rfl, hx⟩
      exact ⟨rfl, HL.out.panic hx HF⟩
    · subst hl
      have HR' := HR.out
      simp only [R.bind, must, hy, if_true, Bool.false_eq_true, if_false, true_and, and_true] at HR'
      replace HR := Lib.hid HR'
      clear HR'
      refine (name_yes HL.out.st hk hk2).mono ?_
      rintro en w2 ⟨rfl, hx, h1⟩
      replace HL := Lib.hid (HL.out.move hx h1)
      clear hx h1 hy hk hk2
      generalize tw2.text = xw2 at HL HR
      have HB := Lib.hid (Blk.new HL.out [.string (ba xw2), .int .i64 0] 73)
      replace HL := Lib.hid (HL.out.alloc (.cells #[.string (ba xw2), .int .i64 0] 73))
      have hq := HB.out.ne
      go_wp2_with fail
      cases hm : is [91] rw2 with
      | false =>
        have HF : r = .err rw2 4 := by rw [← HR.out]; simp [must, hm, R.bind]
        refine (must_no HL.out.st [91] hm).mono ?_
        rintro en w3 ⟨rfl, hb⟩
        exact ⟨rfl, HL.out.panic (.of_below hb _) HF⟩
      | true =>
        have HR' := HR.out
        simp only [R.bind, must, hm, if_true, Bool.false_eq_true, if_false, true_and, and_true] at HR'
        replace HR := Lib.hid HR'
        clear HR'
        refine (must_yes HL.out.st [91] hm).mono ?_
        rintro en w3 ⟨rfl, hx, h1⟩
        replace HL := Lib.hid (HL.out.move hx h1)
        replace HB := Lib.hid (HB.out.move hx)
        clear hx h1 hm
        generalize rw2.tail = mw3 at HL HR
        go_wp2_with fail
        rcases number_cases HL.out.st with ⟨k, hy, hc⟩ | ⟨rw4, nw4, hy, hc⟩
        · have HF : r = .err mw3 k := by rw [← HR.out]; simp [hy, R.bind]
          refine hc.mono ?_
          rintro en w4 ⟨rfl, hx⟩
          exact ⟨rfl, HL.out.panic hx HF⟩
        ·
          have HR' := HR.out
          simp only [R.bind, must, hy, if_true, Bool.false_eq_true, if_false, true_and, and_true] at HR'
          replace HR := Lib.hid HR'
          clear HR'
          refine hc.mono ?_
          rintro en w4 ⟨rfl, hx, h1⟩
          replace HL := Lib.hid (HL.out.move hx h1)
          replace HB := Lib.hid (HB.out.move hx)
          clear hx h1 hy hc
          have c0 := HB.out.c 0 _ rfl
          have c1 := HB.out.c 1 _ rfl
          have cf := HB.out.f
          have hge := HB.out.ge
          have hlt := HB.out.lt
          go_wp2_with fail
          clear c0 c1 cf hge hlt
          replace HL := Lib.hid (HL.out.own (ext_cell _ _ 1 (.int .i64 nw4)) (fun b hb => by subst hb; exact HB.out.ge) (HL.out.st_own (ext_cell _ _ 1 (.int .i64 nw4)) (fun b hb => by subst hb; exact HB.out.ge)))
          replace HB := Lib.hid (HB.out.set 1 (.int .i64 nw4) (by simp))
          cases hm : is [93] rw4 with
          | false =>
            have HF : r = .err rw4 4 := by rw [← HR.out]; simp [must, hm, R.bind]
            refine (must_no HL.out.st [93] hm).mono ?_
            rintro en w5 ⟨rfl, hb⟩
            exact ⟨rfl, HL.out.panic (.of_below hb _) HF⟩
          | true =>
            have HR' := HR.out
            simp only [R.bind, must, hm, if_true, Bool.false_eq_true, if_false, true_and, and_true] at HR'
            replace HR := Lib.hid HR'
            clear HR'
            refine (must_yes HL.out.st [93] hm).mono ?_
            rintro en w5 ⟨rfl, hx, h1⟩
            replace HL := Lib.hid (HL.out.move hx h1)
            replace HB := Lib.hid (HB.out.move hx)
            clear hx h1 hm
            generalize rw4.tail = mw5 at HL HR
            go_wp2_with fail
            cases hm : is [59] mw5 with
            | false =>
              have HF : r = .err mw5 4 := by rw [← HR.out]; simp [must, hm, R.bind]
              refine (must_no HL.out.st [59] hm).mono ?_
              rintro en w6 ⟨rfl, hb⟩
              exact ⟨rfl, HL.out.panic (.of_below hb _) HF⟩
            | true =>
              have HR' := HR.out
              simp only [R.bind, must, hm, if_true, Bool.false_eq_true, if_false, true_and, and_true] at HR'
              replace HR := Lib.hid HR'
              clear HR'
              refine (must_yes HL.out.st [59] hm).mono ?_
              rintro en w6 ⟨rfl, hx, h1⟩
              replace HL := Lib.hid (HL.out.move hx h1)
              replace HB := Lib.hid (HB.out.move hx)
              clear hx h1 hm
              generalize mw5.tail = mw6 at HL HR
              have HF := HR.out.symm
              have c0 := HB.out.c 0 _ rfl
              have c1 := HB.out.c 1 _ rfl
              have hge := HB.out.ge
              have hlt := HB.out.lt
              have hp := HL.out.pb_lt
              obtain ⟨s0, s1⟩ := (cells2.new w (.string ⟨#[]⟩) (.int .i64 0) 73).ext HL.out.ext (by omega)
              have sf := frz_ext (frozen_new w #[.string ⟨#[]⟩, .int .i64 0] 73) HL.out.ext (by simp) (by omega)
              go_wp2_with fail
              rw [HF]
              exact arr_fin rfl rfl HL.out
end
end Go.Proofs.YtdijffojppjmfaaDoor
