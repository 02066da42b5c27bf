/- The parser's branches, walked. -/
import Derived.Test.YtdijffojppjmfaaDoorPu
set_option linter.unusedVariables false
namespace Go.Proofs.YtdijffojppjmfaaDoor
open Go.RowKit Bir Go.BW
abbrev z5 : Obj := .cells #[.int .i64 0, .string ⟨#[]⟩, .slice none 0 0, .slice none 0 0, .slice none 0 0] 98
/-- A statement that is being made, at block bs; the method began in w0. -/
structure Loc (w0 w : World) (pb tb e bs : Nat) (l : List Tok) (k : Int) (s : Str) (ev bv lv : Value) (xs : List Ex) (b el : List St) : Prop where
  pb_lt : pb < w0.heap.size
  tb_lt : tb < w0.heap.size
  st : PSt w pb tb e l
  ext : Ext (· = pb) (w0.alloc z5) w
  lt : bs < w.heap.size
  ge : w0.heap.size + 1 ≤ bs
  c : cells5 w bs (.int .i64 k) (.string (ba s)) ev bv lv
  f : ∀ o, w.frozen? ⟨bs, o, none⟩ = false
  ex : ERow w (Off (w0.heap.size + 1) bs) ev xs
  bd : SRow w (Off (w0.heap.size + 1) bs) bv b
  el : SRow w (Off (w0.heap.size + 1) bs) lv el
section
variable {w0 w w1 : World} {pb tb e bs : Nat} {l l1 : List Tok} {k : Int} {s : Str} {ev bv lv : Value} {xs : List Ex} {b el : List St}
theorem Loc.move (h : Loc w0 w pb tb e bs l k s ev bv lv xs b el) (hx : Ext (· = pb) w w1) (h1 : PSt w1 pb tb e l1) : Loc w0 w1 pb tb e bs l1 k s ev bv lv xs b el := by
  have hp := h.pb_lt
  have hg := h.ge
  exact ⟨h.pb_lt, h.tb_lt, h1, h.ext.trans' hx, Nat.lt_of_lt_of_le h.lt hx.size, h.ge, h.c.ext hx (by omega), frz_ext h.f hx h.lt (by omega), h.ex.off hx (fun b hb => by omega), h.bd.off hx (fun b hb => by omega), h.el.off hx (fun b hb => by omega)⟩
theorem Loc.below (h : Loc w0 w pb tb e bs l k s ev bv lv xs b el) (hb : Below w.heap.size w w1) : Loc w0 w1 pb tb e bs l k s ev bv lv xs b el := h.move (.of_below hb _) (h.st.below hb)
theorem Loc.alloc (h : Loc w0 w pb tb e bs l k s ev bv lv xs b el) (o : Obj) : Loc w0 (w.alloc o) pb tb e bs l k s ev bv lv xs b el := h.below ((Below.refl _ _).alloc (Nat.le_refl _) _)
theorem Loc.facts (h : Loc w0 w pb tb e bs l k s ev bv lv xs b el) : (w.cell? ⟨bs, 0, none⟩ = some (.int .i64 k) ∧ w.cell? ⟨bs, 1, none⟩ = some (.string (ba s)) ∧ w.cell? ⟨bs, 2, none⟩ = some ev ∧ w.cell? ⟨bs, 3, none⟩ = some bv ∧ w.cell? ⟨bs, 4, none⟩ = some lv) ∧ (∀ o, w.frozen? ⟨bs, o, none⟩ = false) ∧
    (w.cell? ⟨w0.heap.size, 0, none⟩ = some (.int .i64 0) ∧ w.cell? ⟨w0.heap.size, 1, none⟩ = some (.string ⟨#[]⟩) ∧ w.cell? ⟨w0.heap.size, 2, none⟩ = some (.slice none 0 0) ∧ w.cell? ⟨w0.heap.size, 3, none⟩ = some (.slice none 0 0) ∧ w.cell? ⟨w0.heap.size, 4, none⟩ = some (.slice none 0 0)) ∧
    (∀ o, w.frozen? ⟨w0.heap.size, o, none⟩ = false) ∧ w0.heap.size < w.heap.size ∧ bs ≠ w0.heap.size ∧ bs ≠ pb ∧ bs < w.heap.size := by
  have hp := h.pb_lt
  have hg := h.ge
  have hl := h.lt
  exact ⟨h.c, h.f, (cells5.new w0 _ _ _ _ _ 98).ext h.ext (by omega), frz_ext (frozen_new w0 _ 98) h.ext (by simp) (by omega), by omega, by omega, by omega, hl⟩
theorem ext_cell (w : World) (bs i : Nat) (v : Value) : Ext (· = bs) w (w.setCell ⟨bs, i, none⟩ v) := (Ext.refl (· = bs) w).setCell (p := ⟨bs, i, none⟩) (.inl rfl) v
theorem Loc.set (h : Loc w0 w pb tb e bs l k s ev bv lv xs b el) (i : Nat) (v : Value) {ev' bv' lv' : Value} {s' : Str} {xs' : List Ex} {b' el' : List St} (hc : cells5 (w.setCell ⟨bs, i, none⟩ v) bs (.int .i64 k) (.string (ba s')) ev' bv' lv')
    (he : ERow w (Off (w0.heap.size + 1) bs) ev' xs') (hb : SRow w (Off (w0.heap.size + 1) bs) bv' b') (hl : SRow w (Off (w0.heap.size + 1) bs) lv' el') : Loc w0 (w.setCell ⟨bs, i, none⟩ v) pb tb e bs l k s' ev' bv' lv' xs' b' el' := by
  have hp := h.pb_lt
  have ht := h.tb_lt
  have hg := h.ge
  have hx := ext_cell w bs i v
  exact ⟨h.pb_lt, h.tb_lt, h.st.ext hx (by omega) (by omega) (fun b hb => by omega), h.ext.trans hx (fun j hj => .inr (by simp; omega)), by simpa [World.setCell] using h.lt, h.ge, hc, fun o => by rw [World.frozen?_setCell]; exact h.f o, he.off hx (fun b hb => .inr hb), hb.off hx (fun b hb => .inr hb), hl.off hx (fun b hb => .inr hb)⟩
theorem cell_same_set {w : World} {bs i : Nat} {u v : Value} (h : w.cell? ⟨bs, i, none⟩ = some u) : (w.setCell ⟨bs, i, none⟩ v).cell? ⟨bs, i, none⟩ = some v := World.cell?_setCell_same' _ _ _ (by rw [h]; rfl)
theorem cell_far_set {w : World} {bs i j : Nat} {u v : Value} (h : w.cell? ⟨bs, j, none⟩ = some u) (hne : j ≠ i) : (w.setCell ⟨bs, i, none⟩ v).cell? ⟨bs, j, none⟩ = some u := by
  rw [World.cell?_setCell_other _ _ _ _ (fun e => hne (by injection e with _ e2; first | exact e2 | exact e2.symm))]
  exact h
theorem Loc.setBody (h : Loc w0 w pb tb e bs l k s ev bv lv xs b el) {v : Value} {b' : List St} (hv : SRow w (Off (w0.heap.size + 1) bs) v b') : Loc w0 (w.setCell ⟨bs, 3, none⟩ v) pb tb e bs l k s ev v lv xs b' el :=
  h.set 3 v ⟨cell_far_set h.c.1 (by omega), cell_far_set h.c.2.1 (by omega), cell_far_set h.c.2.2.1 (by omega), cell_same_set h.c.2.2.2.1, cell_far_set h.c.2.2.2.2 (by omega)⟩ h.ex hv h.el
theorem Loc.setElse (h : Loc w0 w pb tb e bs l k s ev bv lv xs b el) {v : Value} {b' : List St} (hv : SRow w (Off (w0.heap.size + 1) bs) v b') : Loc w0 (w.setCell ⟨bs, 4, none⟩ v) pb tb e bs l k s ev bv v xs b b' :=
  h.set 4 v ⟨cell_far_set h.c.1 (by omega), cell_far_set h.c.2.1 (by omega), cell_far_set h.c.2.2.1 (by omega), cell_far_set h.c.2.2.2.1 (by omega), cell_same_set h.c.2.2.2.2⟩ h.ex h.bd hv
theorem Loc.setExprs (h : Loc w0 w pb tb e bs l k s ev bv lv xs b el) {v : Value} {xs' : List Ex} (hv : ERow w (Off (w0.heap.size + 1) bs) v xs') : Loc w0 (w.setCell ⟨bs, 2, none⟩ v) pb tb e bs l k s v bv lv xs' b el :=
  h.set 2 v ⟨cell_far_set h.c.1 (by omega), cell_far_set h.c.2.1 (by omega), cell_same_set h.c.2.2.1, cell_far_set h.c.2.2.2.1 (by omega), cell_far_set h.c.2.2.2.2 (by omega)⟩ hv h.bd h.el
theorem Loc.setName (h : Loc w0 w pb tb e bs l k s ev bv lv xs b el) (s' : Str) : Loc w0 (w.setCell ⟨bs, 1, none⟩ (.string (ba s'))) pb tb e bs l k s' ev bv lv xs b el :=
  h.set 1 _ ⟨cell_far_set h.c.1 (by omega), cell_same_set h.c.2.1, cell_far_set h.c.2.2.1 (by omega), cell_far_set h.c.2.2.2.1 (by omega), cell_far_set h.c.2.2.2.2 (by omega)⟩ h.ex h.bd h.el
/-- It is made: with what lies in rows that were made since. -/
theorem Loc.new (hp : pb < w0.heap.size) (ht : tb < w0.heap.size) (hst : PSt w pb tb e l) (hx : Ext (· = pb) (w0.alloc z5) w) (k : Int) (s : Str) (he : ERow w (From (w0.heap.size + 1)) ev xs) (hb : SRow w (From (w0.heap.size + 1)) bv b) (hl : SRow w (From (w0.heap.size + 1)) lv el) :
    Loc w0 (w.alloc (.cells #[.int .i64 k, .string (ba s), ev, bv, lv] 98)) pb tb e w.heap.size l k s ev bv lv xs b el := by
  have hz := hx.size
  rw [World.size_alloc] at hz
  have ha := (Ext.refl (fun _ => False) w).alloc (.cells #[.int .i64 k, .string (ba s), ev, bv, lv] 98)
  exact ⟨hp, ht, hst.alloc _, hx.alloc _, by simp, hz, cells5.new _ _ _ _ _ _ _, frozen_new _ _ _, (he.to_off (Nat.le_refl _) (.inl (Nat.le_refl _))).off ha (fun _ h => h.elim), (hb.to_off (Nat.le_refl _) (.inl (Nat.le_refl _))).off ha (fun _ h => h.elim), (hl.to_off (Nat.le_refl _) (.inl (Nat.le_refl _))).off ha (fun _ h => h.elim)⟩
/-- It is handed back. -/
theorem Loc.fin {fn : Func} {k0 : Nat} {tm : Array Value} {l0 : List Tok} (h : Loc w0 w pb tb e bs l k s ev bv lv xs b el) (hfn : fn.results = #[.cell k0 98]) (htm : tm.getD k0 undef = .pointer (some ⟨w0.heap.size, 0, none⟩)) (h0 : PSt w0 pb tb e l0) :
    bodyPost Tryd.prog fn (SPost w0 pb tb e (.ok (.mk k s xs b el) l)) .ret { tmps := tm, defers := [] } (set5 w w0.heap.size (.int .i64 k) (.string (ba s)) ev bv lv) :=
  spost_fin (x := .mk k s xs b el) hfn htm h.ext h.st h.ex.of_off h.bd.of_off h.el.of_off h0
theorem Loc.panic {r : R St} {lp : List Tok} {kk : Nat} (h : Loc w0 w pb tb e bs l k s ev bv lv xs b el) (hx : Ext (· = pb) w w1) (hr : r = .err lp kk) : SPost w0 pb tb e r (.panicked (wrongAt (offAt e lp) kk)) w1 := by
  rw [hr]
  exact ⟨rfl, ((Ext.refl _ w0).alloc _).trans' (h.ext.trans' hx)⟩
theorem Loc.slices (h : Loc w0 w pb tb e bs l k s ev bv lv xs b el) : (∃ A c, ev = .slice A xs.length c) ∧ (∃ A c, bv = .slice A b.length c) ∧ (∃ A c, lv = .slice A el.length c) :=
  ⟨let ⟨A, c, h, _⟩ := h.ex.slice; ⟨A, c, h⟩, let ⟨A, c, h, _⟩ := h.bd.slice; ⟨A, c, h⟩, let ⟨A, c, h, _⟩ := h.el.slice; ⟨A, c, h⟩⟩
theorem Loc.madeE (h : Loc w0 w pb tb e bs l k s ev bv lv xs b el) {v : Value} {ys : List Ex} (hv : ERow w1 (From w.heap.size) v ys) : ERow w1 (Off (w0.heap.size + 1) bs) v ys := by
  have hg := h.ge
  have hl := h.lt
  exact hv.to_off (by omega) (.inr hl)
theorem srow1 {W : World} {ok : Nat → Prop} {b : Nat} {x : St} {k1 k2 k3 : Value} (hb : ok b) (hlt : b < W.heap.size) (h1 : ERow W ok k1 x.exprs) (h2 : SRow W ok k2 x.body) (h3 : SRow W ok k3 x.els)
    (hc : ∀ i u, [Value.int .i64 x.kind, .string (ba x.name), k1, k2, k3][i]? = some u → W.cell? ⟨b, i, none⟩ = some u) : SRow W ok (.slice (some ⟨b, 0, none⟩) 1 1) [x] :=
  SRow.of_cells (xs := [x]) (b := b) (c := 1) ((SCells.nil W ok).snoc h1 h2 h3) hb hlt (Nat.le_refl _) hc
theorem size_sc (w : World) (p : Addr) (v : Value) : (w.setCell p v).heap.size = w.heap.size := by simp [World.setCell]
theorem set5_alloc {w : World} {b : Nat} (o : Obj) (v0 v1 v2 v3 v4 : Value) (h : b < w.heap.size) : set5 (w.alloc o) b v0 v1 v2 v3 v4 = (set5 w b v0 v1 v2 v3 v4).alloc o := by
  unfold set5
  rw [World.setCell_alloc_past _ _ _ _ h, World.setCell_alloc_past _ _ _ _ (by simpa [World.setCell] using h), World.setCell_alloc_past _ _ _ _ (by simpa [World.setCell] using h), World.setCell_alloc_past _ _ _ _ (by simpa [World.setCell] using h), World.setCell_alloc_past _ _ _ _ (by simpa [World.setCell] using h)]
/-- What a call made is apart from it. -/
theorem Loc.made (h : Loc w0 w pb tb e bs l k s ev bv lv xs b el) {v : Value} {ys : List St} (hv : SRow w1 (From w.heap.size) v ys) : SRow w1 (Off (w0.heap.size + 1) bs) v ys := by
  have hg := h.ge
  have hl := h.lt
  exact hv.to_off (by omega) (.inr hl)
end

section
variable {w : World} {pb tb e n : Nat} {l : List Tok}
theorem branch_if (ih : PAll n) (iq : QAll n) (h : PSt w pb tb e l) (hm : is [105, 102] l = true) (hne : (gram (n + 1)).branch l ≠ .out) : Calls Tryd.prog 156 #[pp pb] w (SPost w pb tb e ((gram (n + 1)).branch l)) := by
  have hpb := h.pb_lt
  have htb := h.tb_lt
  have hp0 : w.heap.size ≠ pb := by omega
  generalize hr : (gram (n + 1)).branch l = r at hne ⊢
  have hr0 : branchF (gram n) l = r := hr
  have HI := Lib.hid ih
  have HQ := Lib.hid iq
  have HN := Lib.hid hne
  have HR : Hid (((gram n).expr l.tail).bind (fun x l2 => (blockF (gram n) l2).bind fun b l3 =>
      if is [101, 108, 115, 101] l3 then
        (if is [105, 102] l3.tail then ((gram n).branch l3.tail).bind fun s l4 => .ok (.mk 4 [] [x] b [s]) l4
         else (blockF (gram n) l3.tail).bind fun e l4 => .ok (.mk 4 [] [x] b e) l4)
      else .ok (.mk 4 [] [x] b []) l3) = r) := by
    rw [← hr0]; simp only [branchF, must, hm, if_true, R.bind, Hid]
  clear ih iq hne hr hr0
  go_enter Tryd.func156, Tryd.ntmps156
  go_wp2_with fail
  refine (must_yes (h.alloc _) [105, 102] hm).mono ?_
  rintro en w1 ⟨rfl, hx1, h1⟩
  have hz1 : w.heap.size < w1.heap.size := by have := hx1.size; simp at this; omega
  go_wp2_with fail
  rcases hy : (gram n).expr l.tail with _ | ⟨l2, k2⟩ | ⟨y, l2⟩
  · exact absurd (by rw [← HR.out, hy]; rfl) HN.out
  · have HF : Hid (r = .err l2 k2) := by rw [← HR.out, hy]; rfl
    refine (EPost.bad (HI.out.expr h1 (by rw [hy]; simp)) hy).mono ?_
    rintro en w2 ⟨rfl, hx2⟩
    exact ⟨rfl, by rw [HF.out]; exact ⟨rfl, ((Ext.refl _ w).alloc _).trans' (hx1.trans' hx2)⟩⟩
  · have HR2 := HR.out
    rw [hy] at HR2
    have HRb := Lib.hid HR2
    clear HR2 HR
    refine (EPost.got (HI.out.expr h1 (by rw [hy]; simp)) hy).mono ?_
    rintro en w2 ⟨kv, rfl, hr2, hx2, h2⟩
    obtain ⟨A2, c2, rfl, _⟩ := hr2.slice
    have hz2 := hx2.size
    have hX := hx1.trans' hx2
    have hrow : ERow (w2.alloc (.cells #[.int .i64 y.kind, .int .i64 y.num, .string (ba y.name), .slice A2 y.kids.length c2] 36)) (From (w.heap.size + 1)) (.slice (some ⟨w2.heap.size, 0, none⟩) 1 1) [y] :=
      erow1 (k1 := .slice A2 y.kids.length c2) (by omega) (by simp) (hr2.ext ((Ext.refl (fun _ => False) _).alloc _) (fun _ h => h.elim) (by omega)) (fun i u hu => cells_of_new w2 _ _ i u hu)
    have hloc := Loc.new hpb htb (h2.alloc (.cells #[.int .i64 y.kind, .int .i64 y.num, .string (ba y.name), .slice A2 y.kids.length c2] 36)) (hX.alloc _) 4 [] hrow (.nil' _ _) (.nil' _ _)
    have HL := Lib.hid hloc
    have hwb : w2.heap.size + 1 ≠ pb := by omega
    clear hrow h2 hX hr2 hx1 hx2 h1 hy hloc
    go_wp2_with fail
    rcases hy : blockF (gram n) l2 with _ | ⟨l3, k3⟩ | ⟨b, l3⟩
    · exact absurd (by rw [← HRb.out]; simp only [R.bind, hy]) HN.out
    · have HF : Hid (r = .err l3 k3) := by rw [← HRb.out]; simp only [R.bind, hy, Hid]
      refine (BPost.bad (HQ.out.block HL.out.st (by rw [hy]; simp)) hy).mono ?_
      rintro en w3 ⟨rfl, hx3⟩
      exact ⟨rfl, HL.out.panic hx3 HF.out⟩
    · have HRc : Hid ((if is [101, 108, 115, 101] l3 then
        (if is [105, 102] l3.tail then ((gram n).branch l3.tail).bind fun s l4 => .ok (.mk 4 [] [y] b [s]) l4
         else (blockF (gram n) l3.tail).bind fun e l4 => .ok (.mk 4 [] [y] b e) l4)
        else .ok (.mk 4 [] [y] b []) l3) = r) := by rw [← HRb.out]; simp only [R.bind, hy, Hid]
      clear HRb
      refine (BPost.got (HQ.out.block HL.out.st (by rw [hy]; simp)) hy).mono ?_
      rintro en w3 ⟨v3, rfl, hr3, hx3, h3⟩
      obtain ⟨A3, c3, rfl, _⟩ := hr3.slice
      have hloc := (HL.out.move hx3 h3)
      obtain ⟨⟨c0, c1, c2', c3', c4⟩, cf, ⟨s0, s1, s2, s3, s4⟩, sf, z1, z2, z3, z4⟩ := hloc.facts
      have HL3 := Lib.hid (hloc.setBody (HL.out.made hr3))
      simp only [World.size_alloc] at c0 c1 c2' c3' c4 cf z2 z3 z4 HL3
      clear hr3 hx3 h3 hy hloc HL
      go_wp2_with fail
      clear c0 c1 c2' c3' c4 cf s0 s1 s2 s3 s4 sf z1 z2 z3 z4
      generalize hbs : w2.heap.size + 1 = bs at HL3 ⊢
      generalize w3.setCell ⟨bs, 3, none⟩ (.slice A3 b.length c3) = W3 at HL3 ⊢
      cases he : is [101, 108, 115, 101] l3 with
      | false =>
        have HF : Hid (r = .ok (.mk 4 [] [y] b []) l3) := by rw [← HRc.out]; simp [he, Hid]
        refine (take_no HL3.out.st [101, 108, 115, 101] he).mono ?_
        rintro en w4 ⟨rfl, hb4⟩
        have HL4 := Lib.hid (HL3.out.below hb4)
        obtain ⟨⟨c0, c1, c2', c3', c4⟩, cf, ⟨s0, s1, s2, s3, s4⟩, sf, z1, z2, z3, z4⟩ := HL4.out.facts
        clear HL3 hb4 he HRc
        go_wp2_with fail
        rw [HF.out]
        exact HL4.out.fin rfl rfl h
      | true =>
        refine (take_yes HL3.out.st [101, 108, 115, 101] he).mono ?_
        rintro en w4 ⟨rfl, hx4, h4⟩
        have HL4 := Lib.hid (HL3.out.move hx4 h4)
        clear HL3 hx4 h4
        go_wp2_with fail
        cases hf : is [105, 102] l3.tail with
        | true =>
          have HRd : Hid (((gram n).branch l3.tail).bind (fun s l4 => .ok (.mk 4 [] [y] b [s]) l4) = r) := by rw [← HRc.out]; simp [he, hf, Hid]
          refine (is_calls HL4.out.st [105, 102]).mono ?_
          rw [hf]
          rintro en w5 ⟨rfl, hb5⟩
          have HL5 := Lib.hid (HL4.out.below hb5)
          clear HL4 hb5 he hf HRc
          go_wp2_with fail
          rcases hy : (gram n).branch l3.tail with _ | ⟨l4, k4⟩ | ⟨s, l4⟩
          · exact absurd (by rw [← HRd.out, hy]; rfl) HN.out
          · have HF : Hid (r = .err l4 k4) := by rw [← HRd.out, hy]; rfl
            refine (SPost.bad (HQ.out.branch HL5.out.st (by rw [hy]; simp)) hy).mono ?_
            rintro en w6 ⟨rfl, hx6⟩
            exact ⟨rfl, HL5.out.panic hx6 HF.out⟩
          · have HF : Hid (r = .ok (.mk 4 [] [y] b [s]) l4) := by rw [← HRd.out, hy]; rfl
            refine (SPost.got (HQ.out.branch HL5.out.st (by rw [hy]; simp)) hy).mono ?_
            rintro en w6 ⟨ev6, bv6, lv6, rfl, he6, hb6, hl6, hx6, h6⟩
            obtain ⟨A6, c6, rfl, _⟩ := he6.slice
            obtain ⟨B6, cb6, rfl, _⟩ := hb6.slice
            obtain ⟨L6, cl6, rfl, _⟩ := hl6.slice
            have hloc := HL5.out.move hx6 h6
            obtain ⟨⟨c0, c1, c2', c3', c4⟩, cf, ⟨s0, s1, s2, s3, s4⟩, sf, z1, z2, z3, z4⟩ := hloc.facts
            have hgo := hloc.ge
            have hrow := srow1 (W := w6.alloc (.cells #[.int .i64 s.kind, .string (ba s.name), .slice A6 s.exprs.length c6, .slice B6 s.body.length cb6, .slice L6 s.els.length cl6] 98)) (ok := Off (w.heap.size + 1) bs) (b := w6.heap.size) (x := s) ⟨by omega, by omega⟩ (by simp)
              ((HL5.out.madeE he6).off ((Ext.refl (fun _ => False) _).alloc _) (fun _ h => h.elim)) ((HL5.out.made hb6).off ((Ext.refl (fun _ => False) _).alloc _) (fun _ h => h.elim)) ((HL5.out.made hl6).off ((Ext.refl (fun _ => False) _).alloc _) (fun _ h => h.elim)) (fun i u hu => cells_of_new w6 _ _ i u hu)
            have HL6 := Lib.hid ((hloc.alloc (.cells #[.int .i64 s.kind, .string (ba s.name), .slice A6 s.exprs.length c6, .slice B6 s.body.length cb6, .slice L6 s.els.length cl6] 98)).setElse hrow)
            clear hloc hrow he6 hb6 hl6 hx6 h6 hy HRd HL5
            go_wp2_with fail
            rw [HF.out]
            iterate 6 rw [← World.setCell_alloc_past]
            · exact HL6.out.fin rfl rfl h
            all_goals (try simp only [size_sc])
            all_goals with_reducible assumption
        | false =>
          have HRd : Hid ((blockF (gram n) l3.tail).bind (fun e l4 => .ok (.mk 4 [] [y] b e) l4) = r) := by rw [← HRc.out]; simp [he, hf, Hid]
          refine (is_calls HL4.out.st [105, 102]).mono ?_
          rw [hf]
          rintro en w5 ⟨rfl, hb5⟩
          have HL5 := Lib.hid (HL4.out.below hb5)
          clear HL4 hb5 he hf HRc
          go_wp2_with fail
          rcases hy : blockF (gram n) l3.tail with _ | ⟨l4, k4⟩ | ⟨s, l4⟩
          · exact absurd (by rw [← HRd.out, hy]; rfl) HN.out
          · have HF : Hid (r = .err l4 k4) := by rw [← HRd.out, hy]; rfl
            refine (BPost.bad (HQ.out.block HL5.out.st (by rw [hy]; simp)) hy).mono ?_
            rintro en w6 ⟨rfl, hx6⟩
            exact ⟨rfl, HL5.out.panic hx6 HF.out⟩
          · have HF : Hid (r = .ok (.mk 4 [] [y] b s) l4) := by rw [← HRd.out, hy]; rfl
            refine (BPost.got (HQ.out.block HL5.out.st (by rw [hy]; simp)) hy).mono ?_
            rintro en w6 ⟨v6, rfl, hr6, hx6, h6⟩
            obtain ⟨A6, c6, rfl, _⟩ := hr6.slice
            have hloc := HL5.out.move hx6 h6
            obtain ⟨⟨c0, c1, c2', c3', c4⟩, cf, ⟨s0, s1, s2, s3, s4⟩, sf, z1, z2, z3, z4⟩ := hloc.facts
            have HL6 := Lib.hid (hloc.setElse (HL5.out.made hr6))
            clear hloc hr6 hx6 h6 hy HRd HL5
            go_wp2_with fail
            rw [HF.out]
            exact HL6.out.fin rfl rfl h
end
end Go.Proofs.YtdijffojppjmfaaDoor
