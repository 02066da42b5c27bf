/- read, walked: at programs (printed by readp.py). -/
import Derived.Test.YtdijffojppjmfaaDoorQl
import Derived.Test.YtdijffojppjmfaaDoorQm
set_option linter.unusedVariables false
set_option linter.unusedSimpArgs false
namespace Go.Proofs.YtdijffojppjmfaaDoor
open Go.RowKit Bir Go.BW
abbrev zP : Value := .agg #[.slice none 0 0, .slice none 0 0]
section
variable {w w1 : World} {s : Str}
/-- read's three results, at the end of w. -/
structure R2 (w w1 : World) (v0 v1 e1 e2 : Value) : Prop where
  size : w.heap.size + 3 ≤ w1.heap.size
  c0 : cells2 w1 w.heap.size v0 v1
  c1 : w1.cell? ⟨w.heap.size + 1, 0, none⟩ = some e1
  c2 : w1.cell? ⟨w.heap.size + 1 + 1, 0, none⟩ = some e2
  f0 : ∀ o, w1.frozen? ⟨w.heap.size, o, none⟩ = false
  f1 : ∀ o, w1.frozen? ⟨w.heap.size + 1, o, none⟩ = false
  f2 : ∀ o, w1.frozen? ⟨w.heap.size + 1 + 1, o, none⟩ = false
theorem R2.start (w : World) (a b x y : Value) (t1 t2 t3 : TypeId) : R2 w (((w.alloc (.cells #[a, b] t1)).alloc (.cells #[x] t2)).alloc (.cells #[y] t3)) a b x y := by
  have E1 : Ext (fun _ => False) (w.alloc (.cells #[a, b] t1)) (((w.alloc (.cells #[a, b] t1)).alloc (.cells #[x] t2)).alloc (.cells #[y] t3)) := ((Ext.refl _ _).alloc _).alloc _
  have E2 : Ext (fun _ => False) ((w.alloc (.cells #[a, b] t1)).alloc (.cells #[x] t2)) (((w.alloc (.cells #[a, b] t1)).alloc (.cells #[x] t2)).alloc (.cells #[y] t3)) := (Ext.refl _ _).alloc _
  have n1 := cell1_new (w.alloc (.cells #[a, b] t1)) x t2
  have n2 := cell1_new ((w.alloc (.cells #[a, b] t1)).alloc (.cells #[x] t2)) y t3
  rw [World.size_alloc] at n1
  rw [World.size_alloc, World.size_alloc] at n2
  have m1 := frozen_new (w.alloc (.cells #[a, b] t1)) #[x] t2
  have m2 := frozen_new ((w.alloc (.cells #[a, b] t1)).alloc (.cells #[x] t2)) #[y] t3
  rw [World.size_alloc] at m1
  rw [World.size_alloc, World.size_alloc] at m2
  exact ⟨by simp, (cells2.new w a b t1).ext E1 id, cell_ext n1 E2 id, n2, frz_ext (frozen_new w _ t1) E1 (by simp) id, frz_ext m1 E2 (by simp) id, m2⟩
theorem R2.ext {S : Nat → Prop} {w2 : World} {v0 v1 e1 e2 : Value} (h : R2 w w1 v0 v1 e1 e2) (hx : Ext S w1 w2) (hS : ∀ b, S b → w.heap.size + 3 ≤ b) : R2 w w2 v0 v1 e1 e2 := by
  have hz := h.size
  exact ⟨Nat.le_trans hz hx.size, h.c0.ext hx (fun hs => by have := hS _ hs; omega), cell_ext h.c1 hx (fun hs => by have := hS _ hs; omega), cell_ext h.c2 hx (fun hs => by have := hS _ hs; omega),
    frz_ext h.f0 hx (by omega) (fun hs => by have := hS _ hs; omega), frz_ext h.f1 hx (by omega) (fun hs => by have := hS _ hs; omega), frz_ext h.f2 hx (by omega) (fun hs => by have := hS _ hs; omega)⟩
theorem R2.set12 {v0 v1 e1 e2 : Value} (h : R2 w w1 v0 v1 e1 e2) (x y : Value) : R2 w ((w1.setCell ⟨w.heap.size + 1, 0, none⟩ x).setCell ⟨w.heap.size + 1 + 1, 0, none⟩ y) v0 v1 x y := by
  have E1 := ext_cell w1 (w.heap.size + 1) 0 x
  have E2 := ext_cell (w1.setCell ⟨w.heap.size + 1, 0, none⟩ x) (w.heap.size + 1 + 1) 0 y
  have hz := h.size
  refine ⟨by simp [World.setCell]; omega, (h.c0.ext E1 (by omega)).ext E2 (by omega), cell_ext (cell_same_set h.c1) E2 (by omega), cell_same_set (cell_ext h.c2 E1 (by omega)), fun o => ?_, fun o => ?_, fun o => ?_⟩
  · simp [h.f0 o]
  · simp [h.f1 o]
  · simp [h.f2 o]
/-- The door of read behind a panic. -/
theorem readP_door {w2 : World} {v0 v1 e1 e2 : Value} {tm : Array Value} (off k : Nat) (hb : Below w.heap.size w w2) (h : R2 w w2 v0 v1 e1 e2) (h4 : tm[4]? = some (.pointer (some ⟨w.heap.size, 0, none⟩))) (h5 : tm[5]? = some (.pointer (some ⟨w.heap.size + 1, 0, none⟩))) (h6 : tm[6]? = some (.pointer (some ⟨w.heap.size + 1 + 1, 0, none⟩))) :
    bodyPostD Tryd.prog Tryd.f35 (ReadPost zP PrO w (none, off, k)) (Exit.panic (wrongAt off k))
      { tmps := tm, defers := [{ target := Target.fn (Fn.func 69) #[.pointer (some ⟨w.heap.size, 0, none⟩), .pointer (some ⟨w.heap.size + 1, 0, none⟩), .pointer (some ⟨w.heap.size + 1 + 1, 0, none⟩)], args := #[] }] } w2 := by
  have hz := h.size
  refine leaves_cons (f := 69) (args := #[.pointer (some ⟨w.heap.size, 0, none⟩), .pointer (some ⟨w.heap.size + 1, 0, none⟩), .pointer (some ⟨w.heap.size + 1 + 1, 0, none⟩)]) (by simp) (by simp [go_sem]) ?_
  refine (readP_catch w.heap.size (w.heap.size + 1) (w.heap.size + 1 + 1) off k v0 v1 e1 e2 [] w2 h.c0 h.c1 h.c2 h.f0 h.f1 h.f2 (by omega) (by omega) (by omega) (by omega) (by omega) (by omega)).mono ?_
  rintro en u' w3 ⟨rfl, rfl, hx, ⟨c0, c1⟩, c4, c5⟩
  have hB : Below w.heap.size w w3 := hb.trans (hx.to_below (by omega) (fun b hb => by omega))
  simp [Leaves, settle, results, Tryd.results35, go_sem, h4, h5, h6, c0, c1, c4, c5]
  exact ⟨hB, _, rfl, rfl⟩
theorem R2.set2 {v0 v1 e1 e2 : Value} (h : R2 w w1 v0 v1 e1 e2) (a b : Value) : R2 w (Go.BW.set2 w1 w.heap.size a b) a b e1 e2 := by
  have E1 := ext_set2 w1 w.heap.size a b
  have hz := h.size
  obtain ⟨q0, q1⟩ := h.c0
  refine ⟨by have := E1.size; omega, set2_cells a b ⟨q0, q1⟩, cell_ext h.c1 E1 (by omega), cell_ext h.c2 E1 (by omega), fun o => ?_, fun o => ?_, fun o => ?_⟩
  · simp [Go.BW.set2, h.f0 o]
  · simp [Go.BW.set2, h.f1 o]
  · simp [Go.BW.set2, h.f2 o]
theorem R2.drew {v0 v1 e1 e2 : Value} (h : R2 w w1 v0 v1 e1 e2) : R2 w w1.drew v0 v1 e1 e2 := h.ext ((Ext.refl (fun _ => False) w1).drew) (fun _ h => h.elim)
theorem below_12p {x y x' y' a b : Value} (hb : Below w.heap.size w w1) (hz : w.heap.size ≤ w1.heap.size) : Below w.heap.size w (((set2 ((w1.setCell ⟨w.heap.size + 1, 0, none⟩ x).setCell ⟨w.heap.size + 1 + 1, 0, none⟩ y) w.heap.size a b).setCell ⟨w.heap.size + 1, 0, none⟩ x').setCell ⟨w.heap.size + 1 + 1, 0, none⟩ y') :=
  ((((hb.setCell (p := ⟨w.heap.size + 1, 0, none⟩) (by show w.heap.size ≤ w.heap.size + 1; omega) _).setCell (p := ⟨w.heap.size + 1 + 1, 0, none⟩) (by show w.heap.size ≤ w.heap.size + 1 + 1; omega) _).trans ((ext_set2 _ w.heap.size _ _).to_below (by simp [World.setCell]; omega) (fun b hb => by omega))).setCell (p := ⟨w.heap.size + 1, 0, none⟩) (by show w.heap.size ≤ w.heap.size + 1; omega) _).setCell (p := ⟨w.heap.size + 1 + 1, 0, none⟩) (by show w.heap.size ≤ w.heap.size + 1 + 1; omega) _
/-- The door of read behind a reading. -/
theorem readP_ret {w2 : World} {x : Pr} {av fv : Value} {bs : Nat} {tm : Array Value} (hb : Below w.heap.size w w2) (h : R2 w w2 av fv (.int .i64 0) (.int .i64 0)) (hk : w.heap.size ≤ bs) (hk2 : POwn w2 bs av fv x.arrays x.funcs) (h4 : tm[4]? = some (.pointer (some ⟨w.heap.size, 0, none⟩))) (h5 : tm[5]? = some (.pointer (some ⟨w.heap.size + 1, 0, none⟩))) (h6 : tm[6]? = some (.pointer (some ⟨w.heap.size + 1 + 1, 0, none⟩))) :
    bodyPostD Tryd.prog Tryd.f35 (ReadPost zP PrO w (some x, 0, 0)) Exit.ret
      { tmps := tm, defers := [{ target := Target.fn (Fn.func 69) #[.pointer (some ⟨w.heap.size, 0, none⟩), .pointer (some ⟨w.heap.size + 1, 0, none⟩), .pointer (some ⟨w.heap.size + 1 + 1, 0, none⟩)], args := #[] }] } w2 := by
  obtain ⟨hz, ⟨d0, d1⟩, d4, d5, f0, f1, f2⟩ := h
  refine leaves_cons (f := 69) (args := #[.pointer (some ⟨w.heap.size, 0, none⟩), .pointer (some ⟨w.heap.size + 1, 0, none⟩), .pointer (some ⟨w.heap.size + 1 + 1, 0, none⟩)]) (by simp) (by simp [go_sem]) ?_
  refine (readP_idle _ _ _ w2).mono ?_
  rintro en u' w3 ⟨rfl, rfl, rfl⟩
  simp [Leaves, settle, results, Tryd.results35, go_sem, h4, h5, h6, d0, d1, d4, d5]
  exact ⟨hb, _, rfl, _, _, _, rfl, hk, hk2⟩
/-- Ahead of the door: the lexer fell. -/
theorem readP_none {w2 : World} {tm : Array Value} {off k : Nat} (hb : Below w.heap.size w w2) (h : R2 w w2 (.slice none 0 0) (.slice none 0 0) (.int .i64 off) (.int .i64 k)) (h4 : tm[4]? = some (.pointer (some ⟨w.heap.size, 0, none⟩))) (h5 : tm[5]? = some (.pointer (some ⟨w.heap.size + 1, 0, none⟩))) (h6 : tm[6]? = some (.pointer (some ⟨w.heap.size + 1 + 1, 0, none⟩))) :
    bodyPostD Tryd.prog Tryd.f35 (ReadPost zP PrO w (none, off, k)) Exit.ret { tmps := tm, defers := [] } w2 := by
  obtain ⟨hz, ⟨d0, d1⟩, d4, d5, f0, f1, f2⟩ := h
  simp [bodyPostD, Leaves, settle, results, Tryd.results35, go_sem, h4, h5, h6, d0, d1, d4, d5]
  exact ⟨hb, _, rfl, rfl⟩
set_option maxRecDepth 100000 in
set_option maxHeartbeats 2000000 in
theorem readP_calls (n : Nat) (hn : n ≤ 1000000000) (hs : s.length ≤ 1000000) (hlev : LevAt w w.heap.size) (hne : ∀ l, lex s = .ok l → prog n n [] [] l ≠ .out) :
    Calls Tryd.prog 35 #[.string (ba s), .func (.func 36) #[] #[]] w (ReadPost zP PrO w (readRes (prog n n [] []) s)) := by
  have hmf : ∀ (fn : Fn) (first cap : Array Value) (w : World), (Instr.makeFunc fn first cap).run Tryd.prog w = .ok (.func fn first cap) w := fun _ _ _ _ => rfl
  go_enter_defers Tryd.func35, Tryd.ntmps35
  go_wp2_with fail
  have hb0 : Below w.heap.size w (((w.alloc (.cells #[.slice none 0 0, .slice none 0 0] 26)).alloc (.cells #[.int .i64 0] 3)).alloc (.cells #[.int .i64 0] 27)) := (((Below.refl _ w).alloc (Nat.le_refl _) _).alloc (by simp) _).alloc (by simp; omega) _
  have hz0 : (((w.alloc (.cells #[.slice none 0 0, .slice none 0 0] 26)).alloc (.cells #[.int .i64 0] 3)).alloc (.cells #[.int .i64 0] 27)).heap.size = w.heap.size + 3 := by simp
  have hr0 := R2.start w (.slice none 0 0) (.slice none 0 0) (.int .i64 0) (.int .i64 0) 26 3 27
  refine (lex_calls s _ hs).mono ?_
  generalize ((w.alloc (.cells #[.slice none 0 0, .slice none 0 0] 26)).alloc (.cells #[.int .i64 0] 3)).alloc (.cells #[.int .i64 0] 27) = W0 at hb0 hz0 hr0
  rintro en w1 ⟨hb1, (⟨hl, rfl⟩ | ⟨hl, ⟨a, hbad, rfl⟩ | ⟨l, A, c, hok, rfl, hlc, hc9, htok⟩⟩)⟩
  · obtain ⟨hz, ⟨d0, d1⟩, d4, d5, f0, f1, f2⟩ := hr0.ext (Ext.of_below hb1 (fun _ => False)) (fun _ h => h.elim)
    have hrd : readRes (prog n n [] []) s = (none, 0, 3) := if_pos hl
    have HY := Lib.hid hrd
    clear hrd
    go_wp2_with fail
    have HR1 := Lib.hid (hr0.ext (Ext.of_below hb1 (fun _ => False)) (fun _ h => h.elim))
    have HB1 := Lib.hid (hb0.trans (hb1.mono (by omega)))
    clear hb0 hz0 hr0 hb1 hmf hlev hne
    go_region
    all_goals go_wp2
    all_goals rw [HY.out]
    all_goals exact readP_none (below_12p HB1.out (by omega)).drew (((HR1.out.set12 _ _).set2 _ _).set12 _ _).drew rfl rfl rfl
  · obtain ⟨hz, ⟨d0, d1⟩, d4, d5, f0, f1, f2⟩ := hr0.ext (Ext.of_below hb1 (fun _ => False)) (fun _ h => h.elim)
    have hrd : readRes (prog n n [] []) s = (none, a, 4) := by unfold readRes; rw [if_neg (by omega), hbad]
    have HY := Lib.hid hrd
    have HR1 := Lib.hid (hr0.ext (Ext.of_below hb1 (fun _ => False)) (fun _ h => h.elim))
    have HB1 := Lib.hid (hb0.trans (hb1.mono (by omega)))
    clear hb0 hz0 hr0 hb1 hmf hlev hne hrd hbad
    go_wp2_with fail
    go_region
    all_goals go_wp2
    all_goals rw [HY.out]
    all_goals exact readP_none (below_12p HB1.out (by omega)).drew (((HR1.out.set12 _ _).set2 _ _).set12 _ _).drew rfl rfl rfl
  · have HR1 := Lib.hid (hr0.ext (Ext.of_below hb1 (fun _ => False)) (fun _ h => h.elim))
    obtain ⟨hz, ⟨d0, d1⟩, d4, d5, f0, f1, f2⟩ := HR1.out
    have hb01 : Below w.heap.size w w1 := hb0.trans (hb1.mono (by omega))
    obtain ⟨hwf, hlen⟩ := lex_ok hs hok
    have hps := parser_state (W := (w1.setCell ⟨w.heap.size + 1, 0, none⟩ (.int .i64 0)).setCell ⟨w.heap.size + 1 + 1, 0, none⟩ (.int .i64 0)) (n := s.length) (A := A) (c := c) (l := l) hlev
      ((hb01.setCell (p := ⟨w.heap.size + 1, 0, none⟩) (by show w.heap.size ≤ w.heap.size + 1; omega) _).setCell (p := ⟨w.heap.size + 1 + 1, 0, none⟩) (by show w.heap.size ≤ w.heap.size + 1 + 1; omega) _) hwf (by omega) hlc hc9
      (htok.imp id (fun ⟨tb, h1, h2, h3, h4⟩ => ⟨tb, h1, by simp [World.setCell]; omega, by omega, h4.keep ((Below.heap_setCell _ _ _ _ (by show tb ≠ w.heap.size + 1 + 1; omega)).trans (Below.heap_setCell _ _ _ _ (by show tb ≠ w.heap.size + 1; omega)))⟩))
    have hQ2 := (HR1.out.set12 (.int .i64 0) (.int .i64 0)).ext ((Ext.refl (fun _ => False) _).alloc (.cells #[.slice A l.length c, .int .i64 s.length] 110)) (fun _ h => h.elim)
    have hB2 := ((hb01.setCell (p := ⟨w.heap.size + 1, 0, none⟩) (by show w.heap.size ≤ w.heap.size + 1; omega) (.int .i64 0)).setCell (p := ⟨w.heap.size + 1 + 1, 0, none⟩) (by show w.heap.size ≤ w.heap.size + 1 + 1; omega) (.int .i64 0)).alloc (by simp [World.setCell]; omega) (.cells #[.slice A l.length c, .int .i64 s.length] 110)
    obtain ⟨tb, htb, hst⟩ := hps
    rw [show ((w1.setCell ⟨w.heap.size + 1, 0, none⟩ (.int .i64 0)).setCell ⟨w.heap.size + 1 + 1, 0, none⟩ (.int .i64 0)).heap.size = w1.heap.size from by simp [World.setCell]] at hst
    have HST := Lib.hid hst
    have HQ2 := Lib.hid hQ2
    have HB2 := Lib.hid hB2
    have HT := Lib.hid htb
    have HLEV := Lib.hid hlev
    clear hst hQ2 hB2 htb htok hwf hb1 hb0 hr0 hz0 hlev
    have hz1 := hb01.size
    go_wp2_with fail
    have HW : Hid (w1.heap.size + 1 = (((w1.setCell ⟨w.heap.size + 1, 0, none⟩ (.int .i64 0)).setCell ⟨w.heap.size + 1 + 1, 0, none⟩ (.int .i64 0)).alloc (.cells #[.slice A l.length c, .int .i64 s.length] 110)).heap.size) := Lib.hid (by simp [World.setCell])
    generalize ((w1.setCell ⟨w.heap.size + 1, 0, none⟩ (.int .i64 0)).setCell ⟨w.heap.size + 1 + 1, 0, none⟩ (.int .i64 0)).alloc (.cells #[.slice A l.length c, .int .i64 s.length] 110) = W at HST HQ2 HB2 HW ⊢
    rcases hy : prog n n [] [] l with _ | ⟨l2, k⟩ | ⟨x, l2⟩
    · exact absurd hy (hne l hok)
    · have hrd : readRes (prog n n [] []) s = (none, offAt s.length l2, k) := by unfold readRes; rw [if_neg (by omega), hok]; simp only [hy]
      refine (GPost.bad (prog_calls hn hn HST.out (by rw [hy]; simp)) hy).mono ?_
      rintro en w2 ⟨rfl, hx⟩
      rw [hrd]
      exact readP_door _ _ (below_ext HB2.out hx (by omega)) (HQ2.out.ext hx (fun b hb => by omega)) rfl rfl rfl
    · refine (GPost.got (prog_calls hn hn HST.out (by rw [hy]; simp)) hy).mono ?_
      rintro en w2 ⟨_, rfl, ⟨av, fv, bs, rfl, hbs, hown⟩, hx, h1⟩
      obtain ⟨A1, c1, rfl⟩ := hown.rowA
      obtain ⟨A3, c3, rfl⟩ := hown.rowF
      have hwz := HW.out
      have HR3 := Lib.hid (HQ2.out.ext hx (fun b hb => by omega))
      have HB3 := Lib.hid (below_ext HB2.out hx (by omega))
      have HRA := Lib.hid hown
      have HH1 := Lib.hid h1
      obtain ⟨hz, ⟨d0, d1⟩, d4, d5, f0, f1, f2⟩ := HR3.out
      obtain ⟨A2, c2, p0, _⟩ := h1.list
      have pf := h1.nofrz
      have pe := h1.fin
      clear hown hx h1
      have z0 : w1.heap.size ≠ w.heap.size := by omega
      have hrd := readRes_ok (p := prog n n [] []) hl hok hy
      have HY := Lib.hid hrd
      clear hy hrd
      cases l2 with
      | nil =>
        go_wp2_with fail
        rw [HY.out]
        have E := (((((Ext.refl (fun b => b < w.heap.size + 3) w2).trans' ((ext_set2 w2 w.heap.size (.slice A1 x.arrays.length c1) (.slice A3 x.funcs.length c3)).mono (fun b hb => .inl (by omega)))).trans' ((ext_set2 _ w.heap.size (.slice A1 x.arrays.length c1) (.slice A3 x.funcs.length c3)).mono (fun b hb => .inl (by omega)))).setCell (p := ⟨w.heap.size + 1, 0, none⟩) (.inl (by show w.heap.size + 1 < _; omega)) (.int .i64 0)).setCell (p := ⟨w.heap.size + 1 + 1, 0, none⟩) (.inl (by show w.heap.size + 1 + 1 < _; omega)) (.int .i64 0))
        refine readP_ret (bs := bs) ?_ (((HR3.out.set2 _ _).set2 _ _).set12 _ _) (by omega) (HRA.out.keep E (fun b hb => by omega)) rfl rfl rfl
        · refine ((((HB3.out.trans ((ext_set2 w2 w.heap.size _ _).to_below (by omega) (fun b hb => by omega))).trans ((ext_set2 _ w.heap.size _ _).to_below ?_ (fun b hb => by omega)))).setCell (p := ⟨w.heap.size + 1, 0, none⟩) (by show w.heap.size ≤ w.heap.size + 1; omega) _).setCell (p := ⟨w.heap.size + 1 + 1, 0, none⟩) (by show w.heap.size ≤ w.heap.size + 1 + 1; omega) _
          have := (ext_set2 w2 w.heap.size (.slice A1 x.arrays.length c1) (.slice A3 x.funcs.length c3)).size
          omega
      | cons t l2 =>
        rw [List.length_cons] at p0
        go_wp2_with fail
        have hb4 := HB3.out.trans ((ext_set2 w2 w.heap.size (.slice A1 x.arrays.length c1) (.slice A3 x.funcs.length c3)).to_below (by omega) (fun b hb => by omega))
        refine (fail_calls (pst_lev HH1.out (ext_set2 w2 w.heap.size _ _) (by omega) (by have := HT.out; omega) (HLEV.out.keep (by omega) (fun b hb => hb4.block b hb))) 4).mono ?_
        rintro en w3 ⟨rfl, hb3⟩
        rw [HY.out]
        exact readP_door _ _ ((HB3.out.trans ((ext_set2 w2 w.heap.size _ _).to_below (by omega) (fun b hb => by omega))).trans (hb3.mono (by have := (ext_set2 w2 w.heap.size (.slice A1 x.arrays.length c1) (.slice A3 x.funcs.length c3)).size; omega))) ((HR3.out.set2 _ _).ext (Ext.of_below hb3 (fun _ => False)) (fun _ h => h.elim)) rfl rfl rfl
end
end Go.Proofs.YtdijffojppjmfaaDoor
